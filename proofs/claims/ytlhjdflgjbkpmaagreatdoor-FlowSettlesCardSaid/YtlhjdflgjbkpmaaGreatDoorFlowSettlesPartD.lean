/- Part 4 of the proof of FlowSettles: its plain laws and the walks of its functions. -/
import Derived.Test.YtlhjdflgjbkpmaaGreatDoorFlowSettlesPartC
set_option linter.all false
namespace Go.Proofs.YtlhjdflgjbkpmaaGreatDoor.W
section
open Go Go.RowKit Go.Proofs.YtlhjdflgjbkpmaaGreatDoor.E Go.Proofs.YtlhjdflgjbkpmaaGreatDoor.M
set_option maxRecDepth 100000
open Go.Proofs.Tryz
theorem rH:∀w,(zeroValue 86).run Tryz.prog w= .ok (.agg (dS Rl.none)) w:=fun w=>by
 rw[jr];exact Tryz.zeroValue86 w
theorem yW(a:Int):Tryz.prog.built 86 [(0,I a)]=some (dS ⟨a,fun _=>0#64⟩):=by
 rw[jr];rfl
theorem JI:Tryz.prog.fieldsOf 86=#[{name:= "N",type:=3,offset:=0,embedded:=false,tag:= "",pkgPath:= "",byteOffset:=0},{name:= "Up",type:=84,offset:=1,embedded:=false,tag:= "",pkgPath:= "",byteOffset:=8}]:=by
 unfold Program.fieldsOf;rw[bS]
theorem I1:al6 Tryz.prog 86 {name:= "N",type:=3,offset:=0,embedded:=false,tag:= "",pkgPath:= "",byteOffset:=0} {name:= "Up",type:=84,offset:=1,embedded:=false,tag:= "",pkgPath:= "",byteOffset:=8} 35:=
 ⟨by rw[JI];exact bS,JI,az,az,rfl,rfl,bx,Tryz.isAgg3,sy,Tryz.isAgg84,um,dM,cP,Tryz.isAgg35,aP,aP⟩
theorem CX:ElT Tryz.prog 37 35:=⟨bI,dM,cP,Tryz.isAgg35,aP⟩
theorem e8:∀w,(zeroValue 37).run Tryz.prog w= .ok (.agg (iM dg)) w:=fun w=>by
 rw[agX];exact Tryz.zeroValue37 w
theorem tR:∀w,(zeroValue 88).run Tryz.prog w= .ok (.agg (uR iB)) w:=fun w=>Tryz.zeroValue88 w
theorem NE:Tryz.prog.built 86 []=some (dS Rl.none):=by
 rw[jr];rfl
theorem ZR{v:Value}(h:v.cells=#[v]):Tryz.prog.built 56 [(1,v)]=some #[B false,v]:=
 (show Tryz.prog.built 56 [(1,v)]=Instr.fill (#[(0,1),(1,1)][·]?) #[B false,.slice none 0 0] [(1,v)]from O).trans (by simp only[Instr.fill,h];rfl)
theorem ZS:Tryz.prog.built 56 [(0,B true)]=some #[B true,.slice none 0 0]:=rfl
theorem aet(k:Int)(b n:Nat)(l:List Tx):Tryz.prog.built 88 [(0,I k),(1,.slice (some ⟨b,0,none⟩) n n)]=some (uR ⟨k,.slice (some ⟨b,0,none⟩) n n,l,Rl.none⟩):=rfl
theorem QE(a:BitVec 64):Tryz.prog.built 37 [(0,U a)]=some (iM (tA dg 0 a)):=by
 rw[ig];rfl
theorem oP:Tryz.prog.built 37 []=some (iM dg):=by
 rw[ig];rfl
theorem Wg:∀w,(zeroValue 58).run Tryz.prog w= .ok (.agg (MF lH).toArray) w:=fun w=>Tryz.zeroValue58 w
theorem Wh:∀w,(zeroValue 93).run Tryz.prog w= .ok (.agg (Y2 amz).toArray) w:=fun w=>Tryz.zeroValue93 w
theorem yX:∀w,(zeroValue 90).run Tryz.prog w= .ok (.agg (j9 bG).toArray) w:=fun w=>(Tryz.zeroValue90 w).trans aP
theorem ZT:∀w,(zeroValue 143).run Tryz.prog w= .ok (.agg (uw nP).toArray) w:=fun w=>(Tryz.zeroValue143 w).trans aP
theorem GY:∀w,(zeroValue 44).run Tryz.prog w= .ok (.agg (vP dV).toArray) w:=fun w=>(Tryz.zeroValue44 w).trans aP
theorem aeu(r:Rl):Tryz.prog.built 212 [(0,.agg (dS r))]=some (lG r 0 0 (.slice none 0 0) (.slice none 0 0)).toArray:=by
 rw[jr];kernel_rfl
abbrev TX:OP:=(⟨95,97,141,59,62,64,66,56,199,139,72,117,135,212,[]⟩:OP)
abbrev BE(fr:List bu):OP:=(⟨95,97,141,59,62,64,66,56,199,139,72,117,135,212,fr⟩:OP)
theorem aev(f g k:FuncId)(a b c:Array Value):Tryz.prog.built 117 [(0,jL f a),(1,jL g b),(2,jL k c)]=some #[jL f a,jL g b,jL k c]:=rfl
theorem Wi:∀w,(zeroValue 117).run Tryz.prog w= .ok (.agg #[.nilFunc,.nilFunc,.nilFunc]) w:=fun w=>Tryz.zeroValue117 w
variable{fr:List bu}
theorem Tc(n:Int)(w:World):Calls Tryz.prog 238 #[I n] w (Pure (B (zP n)) w):=by
 refine eH func238 rfl rfl fun hH=>SR<|va (v:=B false) rfl<|aa<|SR<|mI rfl<|V (dF O O)<|mB rfl<|bM 5 O (fun h2=> ?_) (fun h2=> ?_)
 .refine mI rfl<|V (wY O O)<|mB rfl<|aB rfl<|aa<|aj<|oB O ?_ hH
  (simp[zP];omega)
 refine aE (v:=B false) rfl<|aB rfl<|aa<|aj<|oB O ?_ hH
 (simp[zP];omega)
theorem oQ(n:Int)(w:World):Calls Tryz.prog 179 #[I n] w (Pure (U (below n)) w):=by
 refine eH func179 rfl rfl fun hH=>SR<|va (v:=U 0#64) rfl<|aa<|ai<|SR<|mI rfl<|V (wY O O)<|aa<|aF O (fun h2=> ?_) (fun h2=> ?_)
 .refine SR<|va (v:=U 0#64) rfl<|aa<|aj<|Gc O (aK U (R8 aQ).symm) hH.below
 refine an<|ai<|SR<|mI rfl<|V (dF O O)<|aa<|aF O (fun h4=> ?_) (fun h4=> ?_)
 .refine SR<|va (v:=U 18446744073709551615#64) rfl<|aa<|aj<|Gc O (aK U (acX aQ).symm) hH.below
 refine an<|SR<|mI rfl<|V (kq bx Cb O)<|V (F9 (a:=1#64) O O)<|V (Ue O (b:=1#64) O)<|aU rfl<|aa<|aj<|Gc O (aK U (acY aQ aQ).symm) hH.below
theorem Td(n:Int)(s:BitVec 64)(w:World):Calls Tryz.prog 212 #[I n,U s] w (Pure (.tuple #[I (level n s).1,B (level n s).2]) w):=by
 refine eH func212 rfl rfl fun hH=>SR<|va (v:=I 0) rfl<|va (v:=B false) rfl<|aa<|ai<|SR<|mI rfl<|aH O hH (Tc _ _) (ay call238 O)<|fun w1 bp=>V (bJ O)<|aa<|bW O (fun h5=> ?_) (fun h5=> ?_)
 .refine SR<|va (v:=I 0) rfl<|va (v:=B false) rfl<|aa<|aj<|have hn:=alW ‹(!zP n)=true›;?_
  refine kr O (aK I ?_) (aK B ?_) bp.below<;>rw[LV s hn]
 refine an<|ai<|SR<|mI rfl<|aE (v:=I 0) rfl<|aa<|aA<|have hn:=alV ‹(!zP n)=false›;bt (G:=Int) (fun k s' w'=>(Fr (rg 4 3 (rg 11 9 [])) _ s')/\(Hp w w' _)/\(s' 11=I k)/\(0<=k)/\(k<=n)/\(∀j:Int,0<=j->j<k->s≠below j)) (fun k=>(n-k).toNat) (0) ⟨Fr.refl _ _,bp,rfl,J,J,fun j a b=>absurd b J⟩<| ?_
 rintro k sg6 w6 ⟨QF,jN,NG,h0,hk,hf⟩
 obtain⟨O6,ajG⟩:=QF.w2 1 10
 refine SR<|V (aN NG ajG)<|aa<|ai<|aF O (fun h8=> ?_) (fun h8=> ?_)
 .refine an<|ai<|aA<|SR<|aE NG<|aI rfl<|aa<|SR<|aE O6<|mI rfl<|aH O jN (oQ _ _) (ay HN O)<|fun w9 cg=>V (jO O O)<|aa<|aF O (fun h12=> ?_) (fun h12=> ?_)
  .refine SR<|mI rfl<|aI rfl<|va (v:=B true) rfl<|aa<|aj<| ?_
   refine kr O (aK I ?_) (aK B ?_) cg.below<;>rw[LW hn h0 J aQ hf]
  refine an<|au<|V (ax NG O J)<|mI rfl<|aa<| ?_
  refine⟨k+1,aW,QF.u4.u4.u1,cg,(aK I aM),J,J,?_⟩
  exact fun j a b=>if e:j=k then e▸‹¬s=below k›else hf j a J
 refine a7 (id:=0) rfl<|SR<|va (v:=I 0) rfl<|va (v:=B false) rfl<|aa<|aj<| ?_
 refine kr O (aK I ?_) (aK B ?_) jN.below<;>rw[Fe hn (fun j a b=>hf j a J)]
theorem QG(i:Int)(w:World):Calls Tryz.prog 250 #[I i] w (Pure (B (zQ i)) w):=by
 refine eH func250 rfl rfl fun hH=>SR<|va (v:=B false) rfl<|aa<|SR<|mI rfl<|V (dF O O)<|mB rfl<|bM 5 O (fun h2=> ?_) (fun h2=> ?_)
 .refine mI rfl<|V (aN O O)<|mB rfl<|aB rfl<|aa<|aj<|oB O ?_ hH
  (simp[zQ];try omega)
 refine aE (v:=B false) rfl<|aB rfl<|aa<|aj<|oB O ?_ hH
 (simp[zQ];try omega)
theorem ZU(s:BitVec 64)(i:Int)(w:World):Calls Tryz.prog 232 #[U s,I i] w (Pure (B (hasB s i)) w):=by
 refine eH func232 rfl rfl fun hH=>SR<|va (v:=B false) rfl<|aa<|SR<|mI rfl<|aH O hH (QG _ _) (ay call250 O)<|fun w1 bp=>mB rfl<|eF 7 O (fun h4=> ?_) (fun h4=> ?_)
 .refine mU rfl<|mI rfl<|V (kq bx Cb O)<|V (Ga O O)<|V (lY O (b:=1#64) O)<|V (jO O (b:=1#64) O)<|mB rfl<|aB rfl<|aa<|aj<|oB O ?_ bp
  exact alY s ‹zQ i=true›
 refine aE (v:=B false) rfl<|aB rfl<|aa<|aj<|oB O ?_ bp
 exact(YB s ‹zQ i=false›).symm
theorem CY(s:BitVec 64)(i:Int)(w:World):Calls Tryz.prog 231 #[U s,I i] w (Pure (U (vB s i)) w):=by
 refine eH func231 rfl rfl fun hH=>SR<|va (v:=U 0#64) rfl<|aa<|ai<|SR<|mI rfl<|aH O hH (QG _ _) (ay call250 O)<|fun w1 bp=>V (bJ O)<|aa<|bW O (fun h5=> ?_) (fun h5=> ?_)
 .refine SR<|mU rfl<|aU rfl<|aa<|aj<|oU O ?_ bp
  simp_all [vB]
 refine an<|SR<|mU rfl<|mI rfl<|V (kq bx Cb O)<|V (F9 (a:=1#64) O O)<|V (iH O O)<|aU rfl<|aa<|aj<|oU O ?_ bp
 simp_all [vB]
theorem FI(a b:BitVec 64)(w:World):Calls Tryz.prog 140 #[U a,U b] w (Pure (B (eu a b)) w):=by
 refine eH func140 rfl rfl fun hH=>SR<|va (v:=B false) rfl<|aa<|SR<|mU rfl<|mU rfl<|V (Uf O O)<|V (jO O (b:=0#64) O)<|aB rfl<|aa<|aj<|oB O ?_ hH
 rfl
theorem yY(v:Value)(l:List Int)(w:World)(hs:Sl w v 1 l.length (l.map I)):Calls Tryz.prog 203 #[v] w (Pure (U (kT l)) w):=by
 have hm:=hs.small
 unfold maxLen at hm
 refine eH func203 rfl rfl fun hH=>SR<|va (v:=U 0#64) rfl<|aa<|SR<|va (v:=U 0#64) rfl<|aa<|ai<|SR<| ?_
 refine V (run_move bA) ?_
 refine V (aC (hs.hp hH) O bD O)<|aE (v:=I 0) rfl<|aa<|aA<|bt (G:=Int) (fun k s' w'=>(Fr (3::(5::(rg 8 8 []))) _ s')/\(Hp w w' _)/\(s' 3=U (kT (l.take k.toNat)))/\(s' 8=I k)/\(0<=k)/\(k<=l.length)) (fun k=>(l.length-k).toNat) (0) ⟨Fr.refl _ _,hH,(aK U (by simp[R9])),rfl,J,J⟩<| ?_
 rintro k sg1 w1 ⟨uM,je,sW,O7,h0,hk⟩
 obtain⟨O8,Wj⟩:=uM.w2 6 7
 refine SR<|V (aN O7 Wj)<|aa<|ai<|aF O (fun h3=> ?_) (fun h3=> ?_)
 .refine an<|ai<|aA<|SR<|V (ah (hs.hp je) bD aO O8 O7 J)<|V (aG bx O O ((hs.hp je).cell _ _ (eS J)))<|aI rfl<|aa<|au<|aE sW<|mI rfl<|aH O je (CY _ _ _) (aL call231 O O)<|fun w4 bY=>aU rfl<|aa<|au<|V (ax O7 O J)<|mI rfl<|aa<| ?_
  refine⟨k+1,aW,uM.u4.u4.u1.u1,bY,(aK U (by rw[acZ,<-Px h0 aQ])),(aK I aM),J,J⟩
 refine a7 (id:=0) rfl<|SR<|aE sW<|aU rfl<|aa<|aj<|oU O ?_ je
 rw[LY aQ]
theorem tS(s:BitVec 64)(i:Int)(w:World):Calls Tryz.prog 102 #[U s,I i] w (Pure (B (hasB s i)) w):=by
 refine eH func102 rfl rfl fun hH=>SR<|va (v:=B false) rfl<|aa<|ai<|SR<|mI rfl<|V (aN O O)<|mB rfl<|bM 8 O (fun h2=> ?_) (fun h2=> ?_)
 .refine aE (v:=B true) rfl<|aa<|cA rfl<|SR<|va (v:=B false) rfl<|aa<|aj<|oB O ?_ hH
  exact(YB s (by simp[zQ];omega)).symm
 refine mI rfl<|V (dN O O)<|mB rfl<|aa<|aF O (fun h4=> ?_) (fun h4=> ?_)
 .refine SR<|va (v:=B false) rfl<|aa<|aj<|oB O ?_ hH
  exact(YB s (by simp[zQ];omega)).symm
 refine an<|ai<|SR<|va (v:=I 0) rfl<|aa<|aA<|bt (G:=Int) (fun k s' w'=>(Fr (0::(5::(rg 12 7 []))) _ s')/\(Hp w w' _)/\(s' 0=U (s>>>k.toNat))/\(s' 5=I k)/\(0<=k)/\(k<=i)) (fun k=>(i-k).toNat) (0) ⟨Fr.refl _ _,hH,(aK U aJ),rfl,J,J⟩<| ?_
 rintro k sg5 w5 ⟨T6,bY,ZV,aex,h0,hk⟩
 have Te:=T6.w1 1
 refine ai<|SR<|aE aex<|aE Te<|V (aN O O)<|aa<|aF O (fun h7=> ?_) (fun h7=> ?_)
 .refine an<|ai<|aA<|au<|aE ZV<|V (LL O (b:=2#64) O az)<|aU rfl<|aa<|au<|aE aex<|V (ax O O J)<|aI rfl<|aa<| ?_
  refine⟨k+1,aW,T6.u4.u4.u1,bY,(aK U Yk),(aK I aM),J,J⟩
 refine a7 (id:=0) rfl<|SR<|aE ZV<|V (LM O (b:=2#64) O az)<|V (jO O (b:=1#64) O)<|aB rfl<|aa<|aj<|oB O ?_ bY
 (rw[hasB,show zQ i=true by simp[zQ];omega,show k=i by omega];rw[gV];simp only[eE,mG];exact Kt s _)
theorem fO(v:Value)(l:List Int)(w:World)(hs:Sl w v 1 l.length (l.map I)):Calls Tryz.prog 154 #[v] w (Pure (U (kT l)) w):=by
 have hm:=hs.small
 unfold maxLen at hm
 refine eH func154 rfl rfl fun hH=>SR<|va (v:=U 0#64) rfl<|aa<|SR<|va (v:=U 0#64) rfl<|va (v:=U 1#64) rfl<|aa<|ai<|SR<|va (v:=I 0) rfl<|aa<|aA<|bt (G:=Int) (fun i s' w'=>(Fr (rg 3 25 []) _ s')/\(Hp w w' _)/\(s' 3=U (A4 l i.toNat))/\(s' 4=U (1#64<<<i.toNat))/\(s' 5=I i)/\(0<=i)/\(i<=64)) (fun i=>(64-i).toNat) (0) ⟨Fr.refl _ _,hH,(aK U aM),(aK U aM),rfl,J,J⟩<| ?_
 rintro i sg1 w1 ⟨uM,je,sW,Ar,NH,i0,i1⟩
 obtain⟨mz,ajH⟩:=uM.w2 0 2
 refine ai<|SR<|aE NH<|V (aN O O)<|aa<|aF O (fun h3=> ?_) (fun h3=> ?_)
 .refine an<|ai<|aA<|ai<|SR<|va (v:=I 0) rfl<|aa<|aA<|bt (G:=Int) (fun k s' w'=>(Fr (3::(6::(rg 11 15 []))) _ s')/\(Hp w w' _)/\(s' 3=U (A4 l i.toNat))/\(s' 6=I k)/\(0<=k)/\(k<=l.length)/\(∀j:Int,0<=j->j<k->l.getD j.toNat 0≠i)) (fun k=>(l.length-k).toNat) (0) ⟨Fr.refl _ _,je,sW,rfl,J,J,fun j a b=>absurd b J⟩<| ?_
  rintro k sg4 w4 ⟨CZ,iw,yZ,FJ,k0,k1,hf⟩
  obtain⟨aey,Wl,GZ⟩:=CZ.t3 0 mz 4 Ar 5 NH
  refine ai<|SR<|aE FJ<|aE aey<|V (aC (hs.hp iw) O bD O)<|V (aN O O)<|aa<|aF O (fun h6=> ?_) (fun h6=> ?_)
  .refine an<|ai<|aA<|SR<|aE aey<|aE FJ<|V (ah (hs.hp iw) bD aO O O J)<|V (aG bx O O ((hs.hp iw).cell _ _ (eS J)))<|aE GZ<|V (bU O O)<|aa<|aF O (fun h8=> ?_) (fun h8=> ?_)
   .refine SR<|aE yZ<|aE Wl<|V (afU O O)<|aU rfl<|aa<|a7 (id:=2) rfl<|au<|aE Wl<|V (LK O (b:=2#64) O)<|aU rfl<|aa<|au<|aE GZ<|V (ax O O J)<|aI rfl<|aa<| ?_
    refine⟨i+1,aW,(((uM.u1.u1.u1).t CZ O)).u4.u4.u4.u4.u4,iw,(aK U (YC i0 J k0 J aQ)),(aK U afK),(aK I aM),J,J⟩
   refine an<|au<|aE FJ<|V (ax O O J)<|aI rfl<|aa<| ?_
   refine⟨k+1,aW,CZ.u4.u4.u4.u1,iw,yZ,(aK I aM),J,J,?_⟩
   exact fun j a b=>if e:j=k then e▸‹¬l.getD k.toNat 0=i›else hf j a J
  refine a7 (id:=2) rfl<|au<|aE Wl<|V (LK O (b:=2#64) O)<|aU rfl<|aa<|au<|aE GZ<|V (ax O O J)<|aI rfl<|aa<| ?_
  refine⟨i+1,aW,(((uM.u1.u1.u1).t CZ O)).u4.u4.u1.u1,iw,(jV yZ (aK U (ac2 i0 (fun j a b=>hf j a J)))),(aK U afK),(aK I aM),J,J⟩
 refine a7 (id:=0) rfl<|SR<|aE sW<|aU rfl<|aa<|aj<|oU O ?_ je
 (rw[show i.toNat=64 by omega];rfl)
theorem BF(s:BitVec 64)(w:World):Calls Tryz.prog 101 #[U s] w (sY 3 1 (gK s).length ((gK s).map I) w):=by
 refine eH func101 rfl rfl fun hH=>SR<|va (v:= .slice none 0 0) rfl<|have je:=hH.eR 3 1;aa<|SR<|va (v:= .slice none 0 0) rfl<|have bp:=je.eR 3 1;aa<|ai<|SR<|va (v:=I 0) rfl<|aa<|aA<|bt (G:=Int×(List Int)×Value) (fun⟨k,l,v3⟩ s' w'=>(Fr (0::(rg 3 15 [])) _ s')/\(Hp w w' (.row v3 3 1 (l.length) (l.map I)::_))/\(s' 0=U (s>>>k.toNat))/\(s' 3=v3)/\(s' 4=I k)/\(0<=k)/\(k<=64)/\(l=s7 s k.toNat)) (fun⟨k,l,v3⟩=>(64-k).toNat) ((0,[],(.slice none 0 0:Value))) ⟨Fr.refl _ _,bp,(aK U aJ),rfl,rfl,J,J,rfl⟩<| ?_
 rintro⟨k,l,v3⟩ sg3 w3 ⟨fr3,tY,BG,asY,an2,h0,hk,hl⟩
 refine ai<|SR<|aE an2<|V (aN O O)<|aa<|aF O (fun h5=> ?_) (fun h5=> ?_)
 .refine an<|ai<|aA<|ai<|SR<|aE BG<|V (LM O (b:=2#64) O az)<|V (jO O (b:=1#64) O)<|aa<|aF O (fun h7=> ?_) (fun h7=> ?_)
  .refine au<|aE asY<|aE an2<|tQ 1 1 tY (cB bD O O (sz:=1) (vs:=[I _]) O O az az O O)<|fun b10 w8 iE=> ?_
   (try simp only[lf]at iE)
   refine gf O iE (i:=1) O (iE.dR (i:=0) (n:=1) (sz:=1) O O az) O O bD O O (size:=1) (bytes:=8) O O O az gX (by have:=Ic s k.toNat;rw[<-hl]at this;omega) (by have:=Ic s k.toNat;rw[<-hl]at this;simp only[maxLen];omega)<|fun v11 y8 bX=> ?_
   refine V (run_assign bA) ?_
   refine aa<|au<|aE BG<|V (LL O (b:=2#64) O az)<|aU rfl<|aa<|au<|aE an2<|V (ax O O J)<|aI rfl<|aa<| ?_
   refine⟨(k+1,l++[k],v11),aW,fr3.u4.u4.u4.u4,(Hp.conv (bX.sub (sQ sR)) aJ),(aK U Yk),rfl,(aK I aM),J,J,?_⟩
   rw[hl,ac3 h0 aQ]
  refine an<|au<|aE BG<|V (LL O (b:=2#64) O az)<|aU rfl<|aa<|au<|aE an2<|V (ax O O J)<|aI rfl<|aa<| ?_
  refine⟨(k+1,l,v3),aW,fr3.u4.u4.u1.u1.u1,(Hp.conv tY aM),(aK U Yk),asY,(aK I aM),J,J,?_⟩
  rw[hl,af8 h0 aQ]
 refine a7 (id:=0) rfl<|SR<|aE asY<| ?_
 refine V (run_assign bA) ?_
 refine aa<|aj<|OX O O tY (i:=0) O (by rw[hl,Py aQ hk]) (by rw[hl,Py aQ hk])
theorem j3(n:Int)(w:World):Calls Tryz.prog 119 #[I n] w (Pure (U (below n)) w):=by
 refine eH func119 rfl rfl fun hH=>SR<|va (v:=U 0#64) rfl<|aa<|SR<|va (v:= .slice none 0 0) rfl<|have je:=hH.eR 3 1;aa<|ai<|SR<|va (v:=I 0) rfl<|aa<|aA<|bt (G:=Int×(List Int)×Value) (fun⟨k,l,v3⟩ s' w'=>(Fr (rg 3 15 []) _ s')/\(Hp w w' (.row v3 3 1 (l.length) (l.map I)::_))/\(s' 3=v3)/\(s' 4=I k)/\(0<=k)/\(k<=64)/\(k<=max n 0)/\(l=upto k)) (fun⟨k,l,v3⟩=>(64-k).toNat) ((0,[],(.slice none 0 0:Value))) ⟨Fr.refl _ _,je,rfl,rfl,J,J,J,rfl⟩<| ?_
 rintro⟨k,l,v3⟩ sg2 w2 ⟨U1,bp,Wm,an3,h0,hk,hn,hl⟩
 have aEv:=U1.w1 0
 refine ai<|SR<|aE an3<|aE aEv<|V (aN O O)<|mB rfl<|bM 8 O (fun h4=> ?_) (fun h4=> ?_)
 .refine aE an3<|V (aN O O)<|mB rfl<|aa<|aF O (fun h6=> ?_) (fun h6=> ?_)
  .refine an<|ai<|aA<|au<|aE Wm<|aE an3<|tQ 1 1 bp (cB bD O O (sz:=1) (vs:=[I _]) O O az az O O)<|fun b9 w7 eX=> ?_
   (try simp only[lf]at eX)
   refine gf O eX (i:=1) O (eX.dR (i:=0) (n:=1) (sz:=1) O O az) O O bD O O (size:=1) (bytes:=8) O O O az gX (by have:= @m6 k;rw[<-hl]at this;omega) (by have:= @m6 k;rw[<-hl]at this;simp only[maxLen];omega)<|fun v10 I2 cN=> ?_
   refine V (run_assign bA) ?_
   refine aa<|au<|aE an3<|V (ax O O J)<|aI rfl<|aa<| ?_
   refine⟨(k+1,l++[k],v10),aW,U1.u4.u4.u4.u1.u1.u1,(Hp.conv (cN.sub (sQ sR)) aJ),rfl,(aK I aM),J,J,J,?_⟩
   rw[hl,iY h0]
  refine a7 (id:=0) rfl<|SR<|aE Wm<|aH O bp (fO _ _ _ (bp.sl (i:=0) O)) (ay Cg O)<|fun C0 cG=>aU rfl<|aa<|aj<|oU O ?_ cG
  exact Gf fun i a b=>by rw[hl,cK];omega
 refine aE (v:=B false) rfl<|aa<|cQ rfl<|a7 (id:=0) rfl<|SR<|aE Wm<|aH O bp (fO _ _ _ (bp.sl (i:=0) O)) (ay Cg O)<|fun Tf cI=>aU rfl<|aa<|aj<|oU O ?_ cI
 exact Gf fun i a b=>by rw[hl,cK];omega
theorem Tg(n:Int)(s:BitVec 64)(w:World):Calls Tryz.prog 178 #[I n,U s] w (Pure (B (level n s).2) w):=by
 refine eH func178 rfl rfl fun hH=>SR<|va (v:=B false) rfl<|aa<|SR<|mI rfl<|mU rfl<|aH O hH (Td _ _ _) (aL call212 O O)<|fun w1 bp=> ?_
 refine V (run_move bA) ?_
 refine V (bk O (v:=I _) O)<|V (bk O (v:=B _) O)<|aI rfl<|aB rfl<|aa<|SR<|mB rfl<|aB rfl<|aa<|aj<|oB O ?_ bp
 rfl
theorem BH(n k:Int)(w:World):Calls Tryz.prog 185 #[I n,I k] w (Pure (.tuple #[U (vA n k).1,B (vA n k).2]) w):=by
 refine eH func185 rfl rfl fun hH=>SR<|va (v:=U 0#64) rfl<|va (v:=B false) rfl<|aa<|ai<|SR<|mI rfl<|V (aN O O)<|mB rfl<|bM 8 O (fun h2=> ?_) (fun h2=> ?_)
 .refine aE (v:=B true) rfl<|mB rfl<|cC O rfl<|aE (v:=B true) rfl<|mB rfl<|cC O rfl<|aE (v:=B true) rfl<|aa<|cA rfl<|SR<|va (v:=U 0#64) rfl<|va (v:=B false) rfl<|aa<|aj<| ?_
  refine kr O (aK U ?_) (aK B ?_) hH.below<;>rw[Cv J]
 refine mI rfl<|V (dN O O)<|mB rfl<|mB rfl<|bM 12 O (fun h4=> ?_) (fun h4=> ?_)
 .refine aE (v:=B true) rfl<|mB rfl<|cC O rfl<|aE (v:=B true) rfl<|aa<|cA rfl<|SR<|va (v:=U 0#64) rfl<|va (v:=B false) rfl<|aa<|aj<| ?_
  refine kr O (aK U ?_) (aK B ?_) hH.below<;>rw[Cv J]
 refine mI rfl<|V (aN O O)<|mB rfl<|mB rfl<|bM 16 O (fun h6=> ?_) (fun h6=> ?_)
 .refine aE (v:=B true) rfl<|aa<|cA rfl<|SR<|va (v:=U 0#64) rfl<|va (v:=B false) rfl<|aa<|aj<| ?_
  refine kr O (aK U ?_) (aK B ?_) hH.below<;>rw[Cv J]
 refine mI rfl<|mI rfl<|V (dF O O)<|mB rfl<|aa<|aF O (fun h8=> ?_) (fun h8=> ?_)
 .refine SR<|va (v:=U 0#64) rfl<|va (v:=B false) rfl<|aa<|aj<| ?_
  refine kr O (aK U ?_) (aK B ?_) hH.below<;>rw[Cv J]
 refine an<|SR<|mI rfl<|aH O hH (j3 _ _) (ay call119 O)<|fun w9 cg=>aU rfl<|va (v:=B true) rfl<|aa<|aj<| ?_
 refine kr O (aK U ?_) (aK B ?_) cg.below<;>rw[u3 J]
theorem Au(n:Int)(s:BitVec 64)(w:World):Calls Tryz.prog 152 #[I n,U s] w (Pure (.tuple #[I (level n s).1,B (level n s).2]) w):=by
 refine eH func152 rfl rfl fun hH=>SR<|va (v:=I 0) rfl<|va (v:=B false) rfl<|aa<|ai<|SR<|va (v:=I 0) rfl<|aa<|aA<|bt (G:=Int) (fun k s' w'=>(Fr (rg 4 27 []) _ s')/\(Hp w w' _)/\(s' 6=I k)/\(0<=k)/\(k<=n\/k=0)/\(k<=64)/\(n<=64->∀j:Int,0<=j->j<k->s≠below j)) (fun k=>(64-k).toNat) (0) ⟨Fr.refl _ _,hH,rfl,J,J,J,fun _ j a b=>absurd b J⟩<| ?_
 rintro k sg1 w1 ⟨uM,je,O8,h0,hk,h6,hf⟩
 obtain⟨mz,Av⟩:=uM.w2 0 1
 refine ai<|SR<|aE O8<|aE mz<|V (aN O O)<|mB rfl<|bM 12 O (fun h3=> ?_) (fun h3=> ?_)
 .refine aE O8<|V (aN O O)<|mB rfl<|aa<|aF O (fun h5=> ?_) (fun h5=> ?_)
  .refine an<|ai<|aA<|SR<|aE mz<|aE O8<|aH O je (BH _ _ _) (aL call185 O O)<|fun w6 eC=> ?_
   refine V (run_move bA) ?_
   refine V (bk O (v:=U _) O)<|V (bk O (v:=B _) O)<|aU rfl<|aB rfl<|aa<|SR<|mB rfl<|mB rfl<|eF 25 O (fun h9=> ?_) (fun h9=> ?_)
   .refine mU rfl<|aE Av<|V (jO O O)<|mB rfl<|aa<|aF O (fun h11=> ?_) (fun h11=> ?_)
    .refine SR<|aE O8<|aI rfl<|va (v:=B true) rfl<|aa<|aj<| ?_
     refine kr O (aK I ?_) (aK B ?_) eC.below<;>rw[ac4 h0 aQ hf aQ]
    refine an<|au<|aE O8<|V (ax O O J)<|aI rfl<|aa<| ?_
    refine⟨k+1,aW,uM.u4.u4.u4.u4.u4.u4,eC,(aK I aM),J,J,J,?_⟩
    exact Uk h0 aQ aQ hf
   refine aE (v:=B false) rfl<|aa<|cQ rfl<|an<|au<|aE O8<|V (ax O O J)<|aI rfl<|aa<| ?_
   refine⟨k+1,aW,uM.u4.u4.u4.u4.u4.u4,eC,(aK I aM),J,J,J,?_⟩
   exact Ul h0 aQ hf aQ
  refine a7 (id:=0) rfl<|SR<|va (v:=I 0) rfl<|va (v:=B false) rfl<|aa<|aj<| ?_
  refine kr O (aK I ?_) (aK B ?_) je.below<;>rw[Ei h0 hk h6 hf J]
 refine aE (v:=B false) rfl<|aa<|cQ rfl<|a7 (id:=0) rfl<|SR<|va (v:=I 0) rfl<|va (v:=B false) rfl<|aa<|aj<| ?_
 refine kr O (aK I ?_) (aK B ?_) je.below<;>rw[Ei h0 hk h6 hf J]
theorem Aw(s:BitVec 64)(w:World)(hT:o3 w):Calls Tryz.prog 258 #[U s] w (Pure (I (tz s)) w):=by
 refine eH func258 rfl rfl fun hH=>SR<|va (v:=I 0) rfl<|aa<|ai<|SR<|mU rfl<|V (jO O (b:=0#64) O)<|aa<|aF O (fun h2=> ?_) (fun h2=> ?_)
 .refine SR<|va (v:=I 64) rfl<|aa<|aj<|oI O ?_ hH
  rw[‹s=0#64›];rfl
 refine an<|SR<|mU rfl<|mU rfl<|V (afV O)<|V (lY O O)<|V (LK O (b:=285870213051353865#64) O)<|V (Ga O (b:=58#64) O)<|V (a6 underlying280 sizeOf5 O O (by exact agb _))<|V (aG underlying5 O O (hT.at _))<|V (Yu underlying5 bx O (al3 (agd _)))<|aI rfl<|aa<|aj<|oI O ?_ hH
 exact awe aQ
theorem Wn(f:FuncId)(cap:Array Value)(Inv Stop:List Int->World->Prop)(s:BitVec 64)(w:World)(hf:∀args w,(callFunc f args).run Tryz.prog w= .ok (.enter f args) w)(hm:∀l w w',Inv l w->Below w.heap.size w w'->Inv l w')(hT:∀l w,Inv l w->o3 w)(go:∀l i r w,gK s=l++i::r->Inv l w->Calls Tryz.prog f (#[I i]++cap) w (jW fun u w'=>∃c:Bool,u=B c/\(c=true->Inv (l++[i]) w')/\(c=false->Stop (l++[i]) w')))(h0:Inv [] w):Calls Tryz.prog 251 #[U s,.func (.func f) #[] cap] w (jW fun u w'=>u= .tuple #[]/\(Inv (gK s) w'\/∃l i r,gK s=l++i::r/\Stop (l++[i]) w')):=by
 refine eH func251 rfl rfl fun hH=>aA<|bt (G:=(BitVec 64)×(List Int)) (fun⟨s1,l⟩ s' w'=>(Fr (0::(rg 4 11 [])) _ s')/\(Inv l w')/\(s' 0=U s1)/\(gK s=l++gK s1)) (fun⟨s1,l⟩=>(gK s1).length) ((s,[])) ⟨Fr.refl _ _,h0,rfl,aJ⟩<| ?_
 rintro⟨s1,l⟩ sg1 w1 ⟨uM,je,mz,hl⟩
 have hI1:=je
 clear je
 have je:=Hp.start w1
 have Av:=uM.vv 1 (a:= .func _ _ _) rfl rfl
 refine ai<|SR<|aE mz<|V (vp O (b:=0#64) O)<|aa<|aF O (fun h3=> ?_) (fun h3=> ?_)
 .refine an<|aA<|ai<|SR<|aE Av<|aE mz<|aH O je (Aw _ _ (hT _ _ hI1)) (ay call258 O)<|fun w4 bY=>have hI:=hm _ _ _ hI1 bY.below;H8 O (Yz hf O (v1:=I (tz s1)) O) (go l (tz s1) (gK (s1&&&(s1-1#64))) _ (by rw[hl,LZ aQ]) hI)<| ?_
  rintro u8 w6 ⟨c,rfl,hJ1,hJ2⟩
  have eC:=Hp.start w6
  refine V (bJ O)<|aa<|bW O (fun h11=> ?_) (fun h11=> ?_)
  .refine aj<|rf O ⟨rfl,.inr ⟨l,tz s1,gK (s1&&&(s1-1#64)),by rw[hl,LZ aQ],hJ2 (by simpa using‹(!c)=true›)⟩⟩
  refine an<|au<|aE mz<|aE mz<|V (Ue O (b:=1#64) O)<|V (lY O O)<|aU rfl<|aa<| ?_
  refine⟨(s1&&&(s1-1#64),l++[tz s1]),?_,uM.u4.u4.u4,(hJ1 (by simpa using‹(!c)=false›)),rfl,?_⟩
  .exact Sa aQ
  rw[hl,LZ aQ];simp
 refine a7 (id:=0) rfl<|have hn:gK s1=[]:=zS.2 (by simpa using‹¬s1≠0#64›);rf O ⟨rfl,.inl (by rw[hl,hn,mY];assumption)⟩
theorem O9(W0:World)(b:Nat)(v:Value)(l:List Int)(i:Int)(w:World)(hH:Hp W0 w [.row v 3 1 l.length (l.map I),.blk b (.cells #[v] 99 (0,0))])(hlen:l.length<=64):Calls Tryz.prog 252 #[I i,.pointer (some ⟨b,0,none⟩)] w (jW fun u w'=>u=B true/\∃v',Hp W0 w' [.row v' 3 1 (l++[i]).length ((l++[i]).map I),.blk b (.cells #[v'] 99 (0,0))]):=by
 refine en func252 rfl rfl<|SR<|va (v:=B false) rfl<|aa<|SR<|lV bD hH 1 O O rfl<|mI rfl<|tQ 1 1 hH (cB bD O O (sz:=1) (vs:=[I _]) O O az az O O)<|fun b3 w1 bp=> ?_
 (try simp only[lf]at bp)
 refine gf O bp (i:=1) O (bp.dR (i:=0) (n:=1) (sz:=1) O O az) O O bD O O (size:=1) (bytes:=8) O O O az gX J iz<|fun v4 w5 jN=> ?_
 refine bg jN (i:=2) O (bL O O bA (aZ (jN.get (i:=1) O)).1 (aZ (jN.get (i:=1) O)).2 (jN.blk (i:=2) O) aJ) ?_
 intro w7 eX
 refine aa<|SR<|va (v:=B true) rfl<|aa<|aj<|jy O O ⟨rfl,(v4:Value),Hp.conv eX.tail aJ⟩
theorem C1(s:BitVec 64)(w:World)(hT:o3 w):Calls Tryz.prog 233 #[U s] w (sY 3 1 (gK s).length ((gK s).map I) w):=by
 refine eH func233 rfl rfl fun hH=>SR<|va (v:= .slice none 0 0) rfl<|aa<|SR<|lJ hH (aS Tryz.zeroValue99)<|fun b3 w1 bp=>have iw:=bp.eR 3 1;aa<|SR<|mU rfl<| ?_
 refine V (Cu bA) ?_
 refine H8 O (aL call251 (v1:=U s) O (v2:= .func (.func 252) #[] #[.pointer (some ⟨b3,0,none⟩)]) rfl) (Wn 252 _ (fun l w'=>∃v,Hp w w' [.row v 3 1 l.length (l.map I),.blk b3 (.cells #[v] 99 (0,0))]) (fun _ _=>False) s _ call252 (fun l w' w'' h hb=>h.imp fun v h=>h.call hb) (fun l w' h=>h.elim fun v h=>hT.hp h) (fun l i r w' he h=>h.elim fun v h=>by
  have aEx:l.length<=64:=by have:=Gd s;rw[he]at this;simp at this;omega
  have hc:=O9 w b3 v l i w' h aEx
  refine jW.calls hc<|fun u w2 hq=>⟨true,hq.1,fun _=>hq.2,fun h=>mJ⟩) ⟨.slice none 0 0,iw⟩) ?_
 rintro u w5 ⟨rfl,hor⟩
 obtain⟨v7,jN⟩:=hor.resolve_right (fun⟨_,_,_,_,h⟩=>h)
 refine aa<|SR<|lV bD jN 1 O O rfl<| ?_
 refine V (run_assign bA) ?_
 refine aa<|aj<|OX O O jN (i:=0) O (O) (O)
theorem tT(a b:BitVec 64)(w:World):Calls Tryz.prog 55 #[U a,U b] w (Pure (B (eu a b)) w):=by
 have hl:=Gd a
 refine eH func55 rfl rfl fun hH=>SR<|va (v:=B false) rfl<|aa<|SR<|mU rfl<|Cq O hH (BF _ _) (ay call101 O)<|fun v3 w1 bp=> ?_
 refine V (run_assign bA) ?_
 refine aa<|ai<|SR<|va (v:=I 0) rfl<|aa<|aA<|bt (G:=Int) (fun k s' w'=>(Fr (4::(6::(rg 9 13 []))) _ s')/\(Hp w w' _)/\(s' 6=I k)/\(0<=k)/\(k<=(gK a).length)/\(∀j:Int,0<=j->j<k->hasB b ((gK a).getD j.toNat 0)=true)) (fun k=>((gK a).length-k).toNat) (0) ⟨Fr.refl _ _,bp,rfl,J,J,fun j a b=>absurd b J⟩<| ?_
 rintro k sg4 w4 ⟨CZ,iw,FJ,h0,hk,hf⟩
 obtain⟨Ax,GZ⟩:=CZ.w2 1 5
 refine ai<|SR<|aE FJ<|aE GZ<|V (aC (iw.sl (i:=0) O) O bD O)<|V (aN O O)<|aa<|aF O (fun h6=> ?_) (fun h6=> ?_)
 .refine an<|ai<|aA<|SR<|aE Ax<|aE GZ<|aE FJ<|V (ah (iw.sl (i:=0) O) bD aO O O J)<|V (aG bx O O ((iw.sl (i:=0) O).cell _ _ (eS J)))<|aH O iw (tS _ _ _) (aL call102 O O)<|fun w7 eX=>V (bJ O)<|aa<|bW O (fun h11=> ?_) (fun h11=> ?_)
  .refine SR<|va (v:=B false) rfl<|aa<|aj<|oB O ?_ eX
   (exact(al2 h0 aQ aQ).symm)
  refine an<|au<|aE FJ<|V (ax O O J)<|aI rfl<|aa<| ?_
  refine⟨k+1,aW,CZ.u4.u4.u4.u1.u1,eX,(aK I aM),J,J,?_⟩
  exact fun j x y=>if e:j=k then e▸(by simpa using‹(!hasB b ((gK a).getD k.toNat 0))=false›)else hf j x J
 refine a7 (id:=0) rfl<|SR<|va (v:=B true) rfl<|aa<|aj<|oB O ?_ iw
 (exact(agc fun j x y=>hf j x J).symm)
theorem bN(r:Rl)(w:World):Calls Tryz.prog 149 #[.agg (dS r)] w (Pure (I (pts r)) w):=by
 refine eH func149 rfl rfl fun hH=>SR<|gM hH (v:= .agg _) rfl<|fun b3 w1 bp=>va (v:=I 0) rfl<|aa<|ai<|SR<|V (fA bS 0 O aO O)<|lV bx bp 0 O O (fw _)<|V (aN O O)<|aa<|aF O (fun h5=> ?_) (fun h5=> ?_)
 .refine SR<|va (v:=I 0) rfl<|aa<|aj<|oI O ?_ bp
  (unfold pts;omega)
 refine an<|ai<|SR<|V (fA bS 0 O aO O)<|lV bx bp 0 O O (fw _)<|V (dN O O)<|aa<|aF O (fun h7=> ?_) (fun h7=> ?_)
 .refine SR<|va (v:=I 64) rfl<|aa<|aj<|oI O ?_ bp
  (unfold pts;omega)
 refine an<|SR<|V (fA bS 0 O aO O)<|lV bx bp 0 O O (fw _)<|aI rfl<|aa<|aj<|oI O ?_ bp
 (unfold pts;omega)
theorem kV(r:Rl)(w:World):Calls Tryz.prog 199 #[.agg (dS r)] w (Pure (I (pts r)) w):=by
 refine eH func199 rfl rfl fun hH=>SR<|gM hH (v:= .agg _) rfl<|fun b3 w1 bp=>va (v:=I 0) rfl<|aa<|SR<|V (fA bS 0 O aO O)<|lV bx bp 0 O O (fw _)<|V (vz O O)<|V (Gb O O)<|aI rfl<|aa<|aj<|oI O ?_ bp
 rfl
theorem bC(r:Rl)(i j:Int)(w:World):Calls Tryz.prog 150 #[.agg (dS r),I i,I j] w (Pure (B (bK r i j)) w):=by
 have hp:=dA r
 refine eH func150 rfl rfl fun hH=>SR<|gM hH (v:= .agg _) rfl<|fun b3 w1 bp=>va (v:=B false) rfl<|aa<|SR<|V (aR bS O O O (bp.blk (i:=0) O))<|aH O bp (bN _ _) (ay nO O)<|fun w4 bY=>aI rfl<|aa<|SR<|mI rfl<|V (dF O O)<|mB rfl<|bM 12 O (fun h7=> ?_) (fun h7=> ?_)
 .refine mI rfl<|V (dF O O)<|mB rfl<|mB rfl<|bM 16 O (fun h9=> ?_) (fun h9=> ?_)
  .refine mI rfl<|mI rfl<|V (aN O O)<|mB rfl<|mB rfl<|bM 21 O (fun h11=> ?_) (fun h11=> ?_)
   .refine mI rfl<|mI rfl<|V (aN O O)<|mB rfl<|mB rfl<|bM 26 O (fun Th=> ?_) (fun Th=> ?_)
    .refine mI rfl<|V (fA bS 1 O um O)<|V (a6 sy cP O O J)<|lV dM bY 0 O O (xa _ J)<|mI rfl<|V (kq bx Cb O)<|V (Ga O O)<|V (LM O (b:=2#64) O az)<|V (jO O (b:=1#64) O)<|mB rfl<|aB rfl<|aa<|aj<|oB O ?_ bY
     exact al5 J J J J
    refine aE (v:=B false) rfl<|aB rfl<|aa<|aj<|oB O ?_ bY
    exact(Kx J).symm
   refine aE (v:=B false) rfl<|mB rfl<|cC O rfl<|aE (v:=B false) rfl<|aB rfl<|aa<|aj<|oB O ?_ bY
   exact(Kx J).symm
  refine aE (v:=B false) rfl<|mB rfl<|cC O rfl<|aE (v:=B false) rfl<|mB rfl<|cC O rfl<|aE (v:=B false) rfl<|aB rfl<|aa<|aj<|oB O ?_ bY
  exact(Kx J).symm
 refine aE (v:=B false) rfl<|mB rfl<|cC O rfl<|aE (v:=B false) rfl<|mB rfl<|cC O rfl<|aE (v:=B false) rfl<|mB rfl<|cC O rfl<|aE (v:=B false) rfl<|aB rfl<|aa<|aj<|oB O ?_ bY
 exact(Kx J).symm
theorem D5(v:Value)(l:List Int)(x:Int)(w:World)(hs:Sl w v 1 l.length (l.map I)):Calls Tryz.prog 110 #[v,I x] w (Pure (B (l.contains x)) w):=by
 have hm:=hs.small
 unfold maxLen at hm
 refine eH func110 rfl rfl fun hH=>SR<|va (v:=B false) rfl<|aa<|ai<|SR<|va (v:=I 0) rfl<|aa<|aA<|bt (G:=Int) (fun k s' w'=>(Fr (rg 4 14 []) _ s')/\(Hp w w' _)/\(s' 5=I k)/\(0<=k)/\(k<=l.length)/\(∀j:Int,0<=j->j<k->l.getD j.toNat 0≠x)) (fun k=>(l.length-k).toNat) (0) ⟨Fr.refl _ _,hH,rfl,J,J,fun j a b=>absurd b J⟩<| ?_
 rintro k sg1 w1 ⟨uM,je,NH,h0,hk,hf⟩
 obtain⟨mz,Av⟩:=uM.w2 0 1
 refine ai<|SR<|aE NH<|aE mz<|V (aC (hs.hp je) O bD O)<|V (aN O O)<|aa<|aF O (fun h3=> ?_) (fun h3=> ?_)
 .refine an<|ai<|aA<|SR<|aE mz<|aE NH<|V (ah (hs.hp je) bD aO O O J)<|V (aG bx O O ((hs.hp je).cell _ _ (eS J)))<|aE Av<|V (bU O O)<|aa<|aF O (fun h5=> ?_) (fun h5=> ?_)
  .refine SR<|va (v:=B true) rfl<|aa<|aj<|oB O ?_ je
   (exact(arl h0 aQ aQ).symm)
  refine an<|au<|aE NH<|V (ax O O J)<|aI rfl<|aa<| ?_
  refine⟨k+1,aW,uM.u4.u4.u4.u1,je,(aK I aM),J,J,?_⟩
  exact fun j a b=>if e:j=k then e▸‹¬l.getD k.toNat 0=x›else hf j a J
 refine a7 (id:=0) rfl<|SR<|va (v:=B false) rfl<|aa<|aj<|oB O ?_ je
 (exact(awg fun j a b=>hf j a J).symm)
theorem Ay(r:Rl)(i:Int)(hi:0<=i/\i<64)(w:World):Calls Tryz.prog 200 #[.agg (dS r),I i] w (Pure (U (vC r i)) w):=by
 refine eH func200 rfl rfl fun hH=>SR<|gM hH (v:= .agg _) rfl<|fun b3 w1 bp=>va (v:=U 0#64) rfl<|aa<|ai<|ec aP bp<|fun w4 bY=>have Pa:=bY;AQ 0 O Pa (mV (I _) O)<|AQ 1 O Pa (fA bS 1 O um O)<|AQ 2 O Pa (a6 sy cP O O J)<|tV 3 O Pa dM 0 O O (xa _ J)<|AT 4 O Pa (fun w hS=>aR bS O O O (hS.blk (i:=0) O))<|A1 5<|ct O aD O bY sR (kV _ _) (ay HO O)<|fun w6 eC=>A1 6<|ct O aD O eC sR (oQ _ _) (ay HN O)<|fun w8 iE=>AQ 7 O iE (lY O O)<|AQ 8 O iE (aV (U _) O)<|AD<|aj<|oU O ?_ iE
 rfl
theorem rI(r:Rl)(w:World):Calls Tryz.prog 165 #[.agg (dS r)] w (Pure (.agg (dS (eI r))) w):=by
 have hp:=dA r
 refine eH func165 rfl rfl fun hH=>SR<|gM hH (v:= .agg _) rfl<|fun b3 w1 bp=>lJ bp (aS rH)<|fun b6 w4 bY=>aa<|SR<|V (aR bS O O O (bY.blk (i:=1) O))<|aH O bY (kV _ _) (ay HO O)<|fun w7 eX=>V (dJ (vs:=[(0,I _)]) O (yW _))<|lJ eX (aS rH)<|fun b11 w9 cg=>bg cg (i:=0) O (oM O O O (cg.blk (i:=0) O))<|fun y8 bX=>aa<|ai<|SR<|V (fA bS 0 O aO O)<|lV bx bX 0 O O (fw _)<|aE (v:=I 0) rfl<|aa<|aA<|have hz:(⟨pts r,fun _=>0#64⟩:Rl).n=pts r:=rfl;bt (G:=Int×Rl) (fun⟨k,r1⟩ s' w'=>(Fr (4::(rg 10 10 [])) _ s')/\(Hp w w' (.blk b11 (.cells (dS r1) 86 (0,0))::_))/\(s' 10=I k)/\(0<=k)/\(k<=pts r)/\(r1=Ej (pts r) (fun i=>vC r i) k)) (fun⟨k,r1⟩=>(pts r-k).toNat) ((0,⟨pts r,fun _=>0#64⟩)) ⟨Fr.refl _ _,bX,rfl,J,J,Ih _ _⟩<| ?_
 rintro⟨k,r1⟩ ZW QH ⟨mO,cG,NJ,h0,hk,hr⟩
 obtain⟨NK,Bi,kB,Bj⟩:=mO.w4 1 2 3 9
 have hn:r1.n=pts r:=by rw[hr];rfl
 refine SR<|V (aN NJ Bj)<|aa<|ai<|aF O (fun yj=> ?_) (fun yj=> ?_)
 .refine an<|ai<|aA<|SR<|aE NJ<|aI rfl<|aa<|au<|mI rfl<|V (aR bS O O NK (cG.blk (i:=2) O))<|mI rfl<|aH O cG (Ay _ _ J _) (aL call200 O O)<|fun Ti dP=>V (fA bS 1 O um kB)<|V (a6 sy cP O O J)<|bg dP (i:=0) O (bL O O (v:=U _) O O O (dP.blk (i:=0) O) HV)<|fun Tj cT=> ?_
  rw[yE]at cT
  refine aa<|au<|V (ax NJ O J)<|mI rfl<|aa<| ?_
  refine⟨(k+1,_),aW,mO.u4.u4.u1.u1.u1,cT,(aK I aM),J,J,?_⟩
  rw[hr];exact L3 h0 (by rw[gk h0])
 refine a7 (id:=0) rfl<|SR<|V (aR bS O O kB (cG.blk (i:=0) O))<|bg cG (i:=1) O (oM O Bi O (cG.blk (i:=1) O))<|fun NL cD=>aa<|aj<|agp O Bi cD (i:=1) O bS O O ⟨?_,cD.below⟩
 (rw[hr,show k=pts r by omega];rfl)
theorem C2(r:Rl)(s:BitVec 64)(w:World)(hT:o3 w):Calls Tryz.prog 209 #[.agg (dS r),U s] w (Pure (U (upR r s)) w):=by
 have hp:=dA r
 refine eH func209 rfl rfl fun hH=>SR<|gM hH (v:= .agg _) rfl<|fun b3 w1 bp=>va (v:=U 0#64) rfl<|aa<|SR<|va (v:=U 0#64) rfl<|aa<|ai<|SR<|mU rfl<|V (aR bS O O O (bp.blk (i:=0) O))<|aH O bp (kV _ _) (ay HO O)<|fun w4 bY=>aH O bY (oQ _ _) (ay HN O)<|fun w6 eC=>V (lY O O)<|Cq O eC (C1 _ _ (hT.hp eC)) (ay call233 O)<|fun v10 w8 iE=>V (aC (iE.sl (i:=0) O) O bD O)<|aE (v:=I 0) rfl<|aa<|aA<|have hl:=Gd (s&&&below (pts r));bt (G:=Int) (fun k s' w'=>(Fr (5::(7::(rg 15 10 []))) _ s')/\(Hp w w' _)/\(s' 5=U (wZ (vC r) ((gK (s&&&below (pts r))).take k.toNat)))/\(s' 15=I k)/\(0<=k)/\(k<=(gK (s&&&below (pts r))).length)) (fun k=>((gK (s&&&below (pts r))).length-k).toNat) (0) ⟨Fr.refl _ _,iE,(aK U (by simp[wZ])),rfl,J,J⟩<| ?_
 rintro k axR I2 ⟨Ka,df,G0,ZX,h0,hk⟩
 obtain⟨Wo,asZ,as0⟩:=Ka.w3 2 13 14
 refine SR<|V (aN ZX as0)<|aa<|ai<|aF O (fun Th=> ?_) (fun Th=> ?_)
 .refine an<|ai<|aA<|SR<|V (ah (df.sl (i:=0) O) bD aO asZ ZX J)<|V (aG bx O O ((df.sl (i:=0) O).cell _ _ (eS J)))<|aI rfl<|aa<|au<|aE G0<|V (aR bS O O Wo (df.blk (i:=1) O))<|mI rfl<|aH O df (Ay _ _ (by exact PA lz lz) _) (aL call200 O O)<|fun QH gS=>V (iH O O)<|aU rfl<|aa<|au<|V (ax ZX O J)<|mI rfl<|aa<| ?_
  refine⟨k+1,aW,Ka.u4.u4.u4,gS,(aK U (L4 h0 aQ)),(aK I aM),J,J⟩
 refine a7 (id:=0) rfl<|SR<|aE G0<|aU rfl<|aa<|aj<|oU O ?_ df
 (rw[LY aQ];rfl)
theorem yl(r:Rl)(s:BitVec 64)(w:World):Calls Tryz.prog 211 #[.agg (dS r),U s] w (Pure (U (Ek r s)) w):=by
 have hp:=dA r
 refine eH func211 rfl rfl fun hH=>SR<|gM hH (v:= .agg _) rfl<|fun b3 w1 bp=>va (v:=U 0#64) rfl<|aa<|SR<|va (v:=U 0#64) rfl<|aa<|ai<|SR<|V (aR bS O O O (bp.blk (i:=0) O))<|aH O bp (kV _ _) (ay HO O)<|fun w4 bY=>aE (v:=I 0) rfl<|aa<|aA<|bt (G:=Int) (fun k s' w'=>(Fr (5::6::(rg 9 13 [])) _ s')/\(Hp w w' _)/\(s' 5=U (ya r s k))/\(s' 9=I k)/\(0<=k)/\(k<=pts r)) (fun k=>(pts r-k).toNat) (0) ⟨Fr.refl _ _,bY,(aK U (by simp[ya,oo])),rfl,J,J⟩<| ?_
 rintro k sg6 w6 ⟨QF,jN,as1,an4,h0,hk⟩
 obtain⟨O6,ajI,aEy⟩:=QF.w3 1 2 8
 refine SR<|V (aN an4 aEy)<|aa<|ai<|aF O (fun h8=> ?_) (fun h8=> ?_)
 .refine an<|ai<|aA<|SR<|aE an4<|aI rfl<|aa<|SR<|V (aR bS O O ajI (jN.blk (i:=0) O))<|mI rfl<|aH O jN (Ay _ _ J _) (aL call200 O O)<|fun w9 cg=>aE O6<|V (lY O O)<|V (vp O (b:=0#64) O)<|aa<|aF O (fun h12=> ?_) (fun h12=> ?_)
  .refine au<|aE as1<|mI rfl<|aH O cg (CY _ _ _) (aL call231 O O)<|fun C0 cG=>aU rfl<|aa<|au<|V (ax an4 O J)<|mI rfl<|aa<| ?_
   refine⟨k+1,aW,QF.u4.u4.u4.u1.u1.u1,cG,(aK U (by exact agj h0 J aQ)),(aK I aM),J,J⟩
  refine an<|au<|V (ax an4 O J)<|mI rfl<|aa<| ?_
  refine⟨k+1,aW,QF.u4.u4.u1.u1.u1,cg,(jV as1 (aK U (by exact agk h0 aQ))),(aK I aM),J,J⟩
 refine a7 (id:=0) rfl<|SR<|aE as1<|aU rfl<|aa<|aj<|oU O ?_ jN
 (rw[show k=pts r by omega];rfl)
theorem rJ(r:Rl)(w:World):Calls Tryz.prog 242 #[.agg (dS r)] w (Pure (.agg (dS (eI r))) w):=by
 have hp:=dA r
 refine eH func242 rfl rfl fun hH=>SR<|gM hH (v:= .agg _) rfl<|fun b3 w1 bp=>lJ bp (aS rH)<|fun b6 w4 bY=>aa<|SR<|V (aR bS O O O (bY.blk (i:=1) O))<|aH O bY (bN _ _) (ay nO O)<|fun w7 eX=>V (dJ (vs:=[(0,I _)]) O (yW _))<|lJ eX (aS rH)<|fun b11 w9 cg=>bg cg (i:=0) O (oM O O O (cg.blk (i:=0) O))<|fun y8 bX=>aa<|ai<|SR<|va (v:=I 0) rfl<|aa<|aA<|have hz:(⟨pts r,fun _=>0#64⟩:Rl).n=pts r:=rfl;bt (G:=Int×Rl) (fun⟨k,r1⟩ s' w'=>(Fr (rg 4 3 (rg 10 25 [])) _ s')/\(Hp w w' (.blk b11 (.cells (dS r1) 86 (0,0))::_))/\(s' 4=I k)/\(0<=k)/\(k<=pts r)/\(r1=Ej (pts r) (fun i=>vC r i) k)) (fun⟨k,r1⟩=>(pts r-k).toNat) ((0,⟨pts r,fun _=>0#64⟩)) ⟨Fr.refl _ _,bX,rfl,J,J,Ih _ _⟩<| ?_
 rintro⟨k,r1⟩ ZW QH ⟨mO,cG,Ez,h0,hk,hr⟩
 obtain⟨NK,Bi,kB⟩:=mO.w3 1 2 3
 have hn:r1.n=pts r:=by rw[hr];rfl
 refine ai<|SR<|aE Ez<|V (fA bS 0 O aO kB)<|lV bx cG 0 O O (fw _)<|V (aN O O)<|aa<|aF O (fun yj=> ?_) (fun yj=> ?_)
 .refine an<|ai<|aA<|SR<|va (v:= .slice none 0 0) rfl<|have ep:=cG.eR 3 1;aa<|ai<|SR<|va (v:=I 0) rfl<|aa<|aA<|bt (G:=Int×(List Int)×Value) (fun⟨j,l,v5⟩ s' w'=>(Fr (5::6::(rg 16 14 [])) _ s')/\(Hp w w' (.row v5 3 1 (l.length) (l.map I)::_))/\(s' 5=v5)/\(s' 6=I j)/\(0<=j)/\(j<=pts r)/\(l=rp r k j)) (fun⟨j,l,v5⟩=>(pts r-j).toNat) ((0,[],(.slice none 0 0:Value))) ⟨Fr.refl _ _,ep,rfl,rfl,J,J,rfl⟩<| ?_
  rintro⟨j,l,v5⟩ an5 K0 ⟨rW,dP,JJ,Bl,j0,j1,hl⟩
  obtain⟨JK,NM,wv⟩:=rW.t3 1 NK 3 kB 4 Ez
  refine ai<|SR<|aE Bl<|V (fA bS 0 O aO NM)<|lV bx dP 1 O O (fw _)<|V (aN O O)<|aa<|aF O (fun OT=> ?_) (fun OT=> ?_)
  .refine an<|ai<|aA<|SR<|V (aR bS O O JK (dP.blk (i:=3) O))<|aE wv<|aE Bl<|aH O dP (bC _ _ _ _) (bz jo O O O)<|fun NL cD=>aa<|bW O (fun xu=> ?_) (fun xu=> ?_)
   .refine au<|aE JJ<|aE Bl<|tQ 1 1 cD (cB bD O O (sz:=1) (vs:=[I _]) O O az az O O)<|fun b27 w25 jf=> ?_
    (try simp only[lf]at jf)
    refine gf O jf (i:=1) O (jf.dR (i:=0) (n:=1) (sz:=1) O O az) O O bD O O (size:=1) (bytes:=8) O O O az gX (by have:= @Pz r k j;rw[<-hl]at this;omega) (by have:= @Pz r k j;rw[<-hl]at this;simp only[maxLen];omega)<|fun v28 w29 iV=> ?_
    refine V (run_assign bA) ?_
    refine aa<|au<|aE Bl<|V (ax O O J)<|aI rfl<|aa<| ?_
    refine⟨(j+1,l++[j],v28),aW,rW.u4.u4.u4.u4,(Hp.conv (iV.sub (sQ sR)) aJ),rfl,(aK I aM),J,J,?_⟩
    (rw[hl];exact ac7 j0 aQ)
   refine an<|au<|aE Bl<|V (ax O O J)<|aI rfl<|aa<| ?_
   refine⟨(j+1,l,v5),aW,rW.u4.u4.u1.u1.u1,(Hp.conv cD aM),JJ,(aK I aM),J,J,?_⟩
   (rw[hl];exact ac8 j0 aQ)
  refine a7 (id:=2) rfl<|au<|aE wv<|aE JJ<|aH O dP (fO _ _ _ (dP.sl (i:=0) O)) (ay Cg O)<|fun w31 iC=>V (fA bS 1 O um NM)<|V (a6 sy cP O O J)<|bg iC (i:=1) O (bL O O (v:=U _) O O O (iC.blk (i:=1) O) HV)<|fun w33 lD=> ?_
  rw[yE]at lD
  refine aa<|au<|aE wv<|V (ax O O J)<|aI rfl<|aa<| ?_
  refine⟨(k+1,_),aW,(((mO.u4.u1.u1).t rW O)).u4.u4.u4,(lD.sub (sQ sR)),(aK I aM),J,J,?_⟩
  rw[hr];exact L3 h0 (by rw[gk h0,hl,show j=pts r by omega];exact ac9 ⟨h0,J⟩)
 refine a7 (id:=0) rfl<|SR<|V (aR bS O O kB (cG.blk (i:=0) O))<|bg cG (i:=1) O (oM O Bi O (cG.blk (i:=1) O))<|fun w35 j4=>aa<|aj<|agp O Bi j4 (i:=1) O bS O O ⟨?_,j4.below⟩
 (rw[hr,show k=pts r by omega];rfl)
theorem I3(r:Rl)(w:World):Calls Tryz.prog 201 #[.agg (dS r)] w (Pure (.agg (dS (jq r))) w):=by
 have hp:=dA r
 have hn0:(eI r).n=pts r:=rfl
 refine eH func201 rfl rfl fun hH=>SR<|gM hH (v:= .agg _) rfl<|fun b3 w1 bp=>lJ bp (aS rH)<|fun b6 w4 bY=>aa<|SR<|V (aR bS O O O (bY.blk (i:=1) O))<|aH O bY (rI _ _) (ay call165 O)<|fun w7 eX=>lJ eX (aS rH)<|fun b11 w9 cg=>bg cg (i:=0) O (oM O O O (cg.blk (i:=0) O))<|fun y8 bX=>aa<|ai<|SR<|V (fA bS 0 O aO O)<|lV bx bX 0 O O (fw _)<|aE (v:=I 0) rfl<|aa<|aA<|bt (G:=Int×Rl) (fun⟨k,r1⟩ s' w'=>(Fr (4::(rg 11 13 [])) _ s')/\(Hp w w' (.blk b11 (.cells (dS r1) 86 (0,0))::_))/\(s' 11=I k)/\(0<=k)/\(k<=pts r)/\(r1=⟨pts r,qd (eI r).up k⟩)) (fun⟨k,r1⟩=>(pts r-k).toNat) ((0,eI r)) ⟨Fr.refl _ _,bX,rfl,J,J,ada _ _⟩<| ?_
 rintro⟨k,r1⟩ ZW QH ⟨mO,cG,NN,h0,hk,hr⟩
 obtain⟨Bi,kB,NJ⟩:=mO.w3 2 3 10
 have hn:r1.n=pts r:=by rw[hr]
 refine SR<|V (aN NN NJ)<|aa<|ai<|aF O (fun yj=> ?_) (fun yj=> ?_)
 .refine an<|ai<|aA<|SR<|aE NN<|aI rfl<|aa<|au<|mI rfl<|mI rfl<|V (fA bS 1 O um kB)<|V (a6 sy cP O O J)<|lV dM cG 0 O O (xa _ J)<|mI rfl<|aH O cG (CY _ _ _) (aL call231 O O)<|fun Ti dP=>V (fA bS 1 O um kB)<|V (a6 sy cP O O J)<|bg dP (i:=0) O (bL O O (v:=U _) O O O (dP.blk (i:=0) O) HV)<|fun Tj cT=> ?_
  rw[yE]at cT
  refine aa<|au<|V (ax NN O J)<|mI rfl<|aa<| ?_
  refine⟨(k+1,_),aW,mO.u4.u4.u4.u1.u1,cT,(aK I aM),J,J,?_⟩
  rw[hr];exact agl h0
 refine a7 (id:=0) rfl<|ai<|SR<|V (fA bS 0 O aO kB)<|lV bx cG 0 O O (fw _)<|aE (v:=I 0) rfl<|aa<|aA<|bt (G:=Int×Rl) (fun⟨m,r2⟩ s' w'=>(Fr (5::6::(rg 26 27 [])) _ s')/\(Hp w w' (.blk b11 (.cells (dS r2) 86 (0,0))::_))/\(s' 26=I m)/\(0<=m)/\(m<=pts r)/\(r2=⟨pts r,wall (pts r) (qd (eI r).up (pts r)) m.toNat⟩)) (fun⟨m,r2⟩=>(pts r-m).toNat) ((0,r1)) ⟨Fr.refl _ _,cG,rfl,J,J,(by rw[hr,show k=pts r by omega];rfl)⟩<| ?_
 rintro⟨m,r2⟩ aEz NL ⟨aeD,fI,ZY,m0,m1,hr2⟩
 have as2:=aeD.w1 25
 obtain⟨ap1,NO⟩:=aeD.t2 2 Bi 3 kB
 have Qa:r2.n=pts r:=by rw[hr2]
 refine SR<|V (aN ZY as2)<|aa<|ai<|aF O (fun FK=> ?_) (fun FK=> ?_)
 .refine an<|ai<|aA<|SR<|aE ZY<|aI rfl<|aa<|SR<|V (fA bS 0 O aO NO)<|lV bx fI 0 O O (fw _)<|aE (v:=I 0) rfl<|aa<|aA<|bt (G:=Int×Rl) (fun⟨i,r3⟩ s' w'=>(Fr (6::(rg 31 21 [])) _ s')/\(Hp w w' (.blk b11 (.cells (dS r3) 86 (0,0))::_))/\(s' 31=I i)/\(0<=i)/\(i<=pts r)/\(r3=⟨pts r,jX m.toNat i r2.up⟩)) (fun⟨i,r3⟩=>(pts r-i).toNat) ((0,r2)) ⟨Fr.refl _ _,fI,rfl,J,J,(by rw[hr2];exact adb _ _ _)⟩<| ?_
  rintro⟨i,r3⟩ aNs w24 ⟨aeE,gY,NQ,i0,i1,hr3⟩
  obtain⟨ap2,as3⟩:=aeE.w2 5 30
  obtain⟨acj,as4⟩:=aeE.t2 3 NO 26 ZY
  have hn3:r3.n=pts r:=by rw[hr3]
  refine SR<|V (aN NQ as3)<|aa<|ai<|aF O (fun Wp=> ?_) (fun Wp=> ?_)
  .refine an<|ai<|aA<|SR<|aE NQ<|aI rfl<|aa<|SR<|mI rfl<|V (fA bS 1 O um acj)<|V (a6 sy cP O O J)<|lV dM gY 0 O O (xa _ J)<|aE ap2<|aH O gY (ZU _ _ _) (aL call232 O O)<|fun w27 iJ=>aa<|bW O (fun Pb=> ?_) (fun Pb=> ?_)
   .refine gD aP iJ (sQ sR)<|fun w31 iC=>have NR:=iC.sub (sQ sR);AQ 0 O NR (mV (I _) O)<|AQ 1 O NR (fA bS 1 O um acj)<|AQ 2 O NR (a6 sy cP O O J)<|AQ 4 O NR (run_move ap2)<|AQ 5 O NR (fA bS 1 O um acj)<|AQ 6 O NR (a6 sy cP O O J)<|AQ 9 O NR (fA bS 1 O um acj)<|gp 3 7 aP ?_ ?_
    .refine cf O aD O iC (sQ sR) (aG dM O O (iC.cell (i:=0) O (xa _ J)))<|A1 7<|cf O aD O iC (sQ sR) (aG dM O O (iC.cell (i:=0) O (xa _ J)))<|AQ 8 O NR (iH O O)<|AQ 10 O NR (a6 sy cP O O J)<|A1 11<|ed O aD iC (j:=0) O (sQ sR) (bL O O (v:=U _) O O O (iC.blk (i:=0) O) HV)<|fun w39 lE=> ?_
     rw[yE]at lE
     refine AD<|au<|V (ax NQ O J)<|mI rfl<|aa<| ?_
     refine⟨(i+1,_),aW,aeE.u4.u4.u4.u4.u4.u1.u1,lE,(aK I aM),J,J,?_⟩
     (rw[hr3]at*;exact Un m0 i0 aQ)
    refine cf O aD O iC (sQ sR) (aG dM O O (iC.cell (i:=0) O (xa _ J)))<|A1 3<|cf O aD O iC (sQ sR) (aG dM O O (iC.cell (i:=0) O (xa _ J)))<|AQ 8 O NR (iH O O)<|AQ 10 O NR (a6 sy cP O O J)<|A1 11<|ed O aD iC (j:=0) O (sQ sR) (bL O O (v:=U _) O O O (iC.blk (i:=0) O) HV)<|fun w47 kC=> ?_
    rw[yE]at kC
    refine AD<|au<|V (ax NQ O J)<|mI rfl<|aa<| ?_
    refine⟨(i+1,_),aW,aeE.u4.u4.u4.u4.u4.u1.u1,kC,(aK I aM),J,J,?_⟩
    (rw[hr3]at*;exact Un m0 i0 aQ)
   refine an<|au<|V (ax NQ O J)<|mI rfl<|aa<| ?_
   refine⟨(i+1,_),aW,aeE.u4.u4.u1.u1.u1,iJ,(aK I aM),J,J,?_⟩
   (rw[hr3]at*;exact agn ⟨m0,J⟩ i0 aQ)
  refine a7 (id:=4) rfl<|au<|V (ax as4 O J)<|mI rfl<|aa<| ?_
  refine⟨(m+1,_),aW,(((aeD.u4.u1.u1).t aeE O)).u1.u1.u1,gY,(aK I aM),J,J,?_⟩
  rw[hr3,hr2,show i=pts r by omega];exact ade m0
 refine a7 (id:=2) rfl<|SR<|V (aR bS O O NO (fI.blk (i:=0) O))<|bg fI (i:=1) O (oM O ap1 O (fI.blk (i:=1) O))<|fun w49 eL=>aa<|aj<|agp O ap1 eL (i:=1) O bS O O ⟨?_,eL.below⟩
 (rw[hr2,show m=pts r by omega];rfl)
theorem Az(r:Rl)(i:Int)(w:World):Calls Tryz.prog 215 #[.agg (dS r),I i] w (sY 3 1 (yb r i).length ((yb r i).map I) w):=by
 have hp:=dA r
 refine eH func215 rfl rfl fun hH=>SR<|gM hH (v:= .agg _) rfl<|fun b3 w1 bp=>va (v:= .slice none 0 0) rfl<|have iw:=bp.eR 3 1;aa<|ai<|SR<|mI rfl<|V (aN O O)<|mB rfl<|bM 10 O (fun h6=> ?_) (fun h6=> ?_)
 .refine aE (v:=B true) rfl<|aa<|cA rfl<|SR<|va (v:= .slice none 0 0) rfl<|have eC:=iw.eR 3 1;aa<|aj<|OX O O eC (i:=0) O RV RV
 refine mI rfl<|V (aR bS O O O (iw.blk (i:=1) O))<|aH O iw (bN _ _) (ay nO O)<|fun w8 iE=>V (dF O O)<|mB rfl<|aa<|aF O (fun h11=> ?_) (fun h11=> ?_)
 .refine SR<|va (v:= .slice none 0 0) rfl<|have cN:=iE.eR 3 1;aa<|aj<|OX O O cN (i:=0) O RV RV
 refine an<|SR<|mI rfl<|tQ 1 1 iE (cB bD O O (sz:=1) (vs:=[I _]) O O az az O O)<|fun b15 C0 cG=> ?_
 (try simp only[lf]at cG)
 have cI:=cG.sE 1 1 O az
 refine V (run_assign bA) ?_
 refine aa<|ai<|SR<|va (v:=I 0) rfl<|aa<|aA<|bt (G:=Int×(List Int)×Value) (fun⟨a,l,v5⟩ s' w'=>(Fr (rg 5 3 (rg 18 29 [])) _ s')/\(Hp w w' (.row v5 3 1 (l.length) (l.map I)::_))/\(s' 5=v5)/\(s' 6=I a)/\(0<=a)/\(a<=l.length)/\(Up r l)/\(Xi r (65-a.toNat) a.toNat l=yb r i)) (fun⟨a,l,v5⟩=>((65:Int)-a).toNat) ((0,[i],(.slice (some ⟨b15,0,none⟩) 1 1:Value))) ⟨Fr.refl _ _,cI,rfl,rfl,J,aJ,Up.one J,(by rw[yb,aX (rj.2 J)];rfl)⟩<| ?_
 rintro⟨a,l,v5⟩ aEA Ti ⟨ajK,ep,NS,ap3,a0,a1,hok,hl⟩
 obtain⟨axT,aJ2⟩:=ajK.w2 2 4
 refine ai<|SR<|aE ap3<|aE NS<|V (aC (ep.sl (i:=0) O) O bD O)<|V (aN O O)<|aa<|aF O (fun NT=> ?_) (fun NT=> ?_)
 .refine an<|ai<|aA<|SR<|va (v:=I 0) rfl<|aa<|aA<|bt (G:=Int×(List Int)×Value) (fun⟨b,l2,v5⟩ s' w'=>(Fr (5::(7::(rg 24 23 []))) _ s')/\(Hp w w' (.row v5 3 1 (l2.length) (l2.map I)::_))/\(s' 5=v5)/\(s' 7=I b)/\(0<=b)/\(b<=pts r)/\(l2=scan r (l.getD a.toNat 0) l b.toNat)/\(Up r l2)/\(l.length<=l2.length)/\(l2.getD a.toNat 0=l.getD a.toNat 0)) (fun⟨b,l2,v5⟩=>(pts r-b).toNat) ((0,l,(v5:Value))) ⟨Fr.refl _ _,ep,NS,rfl,J,J,rfl,hok,eU _,rfl⟩<| ?_
  rintro⟨b,l2,v5⟩ aNt ZZ ⟨ajL,cT,QI,NU,b0,b1,h2,Wq,hle,Ur⟩
  obtain⟨ap4,ap5⟩:=ajL.t2 2 axT 6 ap3
  refine ai<|SR<|aE NU<|V (aR bS O O ap4 (cT.blk (i:=2) O))<|aH O cT (bN _ _) (ay nO O)<|fun NL cD=>V (aN O O)<|aa<|aF O (fun xu=> ?_) (fun xu=> ?_)
  .refine an<|ai<|aA<|ai<|ec aP cD<|fun w25 jf=>have Kb:=jf;AT 0 O Kb (fun w hS=>aR bS O O ap4 (hS.blk (i:=2) O))<|AQ 1 O Kb (run_move QI)<|AQ 2 O Kb (run_move ap5)<|AT 3 O Kb (fun w hS=>ah (hS.sl (i:=0) O) bD aO O O J)<|AT 4 O Kb (fun w hS=>aG bx O O ((hS.sl (i:=0) O).cell _ _ (eS J)))<|AQ 5 O Kb (run_move NU)<|A1 6<|ct O aD O jf sR (bC r (l2.getD a.toNat 0) b _) (bz jo O O O)<|fun w27 iJ=>have Z0:=iJ;AQ 7 O Z0 (mV (B _) O)<|LR (dj:=37) O (fun Pb=> ?_) (fun Pb=> ?_)
   .refine BQ 8 O O (bR (c:=true) Pb) iJ (run_move QI)<|BQ 9 O O (bR (c:=true) Pb) iJ (run_move NU)<|A1 10<|ct O (A3 O (bR (c:=true) Pb)) O iJ sR (D5 _ _ _ _ (iJ.sl (i:=0) O)) (aL call110 O O)<|fun w31 iC=>BQ 11 O O (bR (c:=true) Pb) iC (bJ O)<|AQ 12 O iC (gL (bR (c:=true) Pb) (v:=B _) O)<|AD<|bW O (fun BI=> ?_) (fun BI=> ?_)
    .refine au<|aE QI<|aE NU<|tQ 1 1 iC (cB bD O O (sz:=1) (vs:=[I _]) O O az az O O)<|fun b38 w36 uy=> ?_
     (try simp only[lf]at uy)
     refine gf O uy (i:=1) O (uy.dR (i:=0) (n:=1) (sz:=1) O O az) O O bD O O (size:=1) (bytes:=8) O O O az gX (by have:=Wq.len;omega) (by have:=Wq.len;simp only[maxLen];omega)<|fun v39 w40 jS=> ?_
     refine V (run_assign bA) ?_
     refine aa<|au<|aE NU<|V (ax O O J)<|aI rfl<|aa<| ?_
     refine⟨(b+1,l2++[b],v39),aW,ajL.u4.u4.u4.u4.u4.u4.u1,(Hp.conv (jS.sub (sQ sR)) aJ),rfl,(aK I aM),J,J,?_,?_,LI,?_⟩
     .rw[Ur]at*;((rw[h2]at*;exact ags b0 aQ (nt aQ)))
     .exact Wq.add ⟨b0,aQ⟩ (nt aQ)
     (rw[<-Ur,eT,eT,zw J])
    refine an<|au<|aE NU<|V (ax O O J)<|aI rfl<|aa<| ?_
    refine⟨(b+1,l2,v5),aW,ajL.u4.u4.u4.u4.u4,(Hp.conv iC aM),QI,(aK I aM),J,J,?_,?_,?_,?_⟩
    .rw[Ur]at*;((rw[h2]at*;exact agu b0 (nf aQ)))
    .exact Wq
    .exact hle
    exact Ur
   refine AK 8 O O (bR (c:=false) Pb) iJ<|AK 9 O O (bR (c:=false) Pb) iJ<|AK 10 O O (bR (c:=false) Pb) iJ<|AK 11 O O (bR (c:=false) Pb) iJ<|AQ 12 O Z0 (eo (bR (c:=false) Pb) (v:=B false) O)<|AD<|cQ rfl<|an<|au<|aE NU<|V (ax O O J)<|aI rfl<|aa<| ?_
   refine⟨(b+1,l2,v5),aW,ajL.u4.u4.u4.u4.u4,(Hp.conv iJ aM),QI,(aK I aM),J,J,?_,?_,?_,?_⟩
   .rw[Ur]at*;((rw[h2]at*;exact agt b0 aQ))
   .exact Wq
   .exact hle
   exact Ur
  refine a7 (id:=2) rfl<|au<|aE ap5<|V (ax O O (by have:=hok.len;omega))<|aI rfl<|aa<| ?_
  refine⟨(a+1,l2,v5),?_,(((ajK.u4.u1).t ajL O)).u4.u1.u1.u1,(Hp.conv cD aM),QI,(aK I aM),J,J,?_,?_⟩
  .have:=hok.len;(try dsimp only);omega
  .exact Wq
  (rw[h2,show b=pts r by omega,<-agr a0 aQ hok.len];exact hl)
 refine a7 (id:=0) rfl<|SR<|aE NS<| ?_
 refine V (run_assign bA) ?_
 refine aa<|aj<|OX O O ep (i:=0) O (by rw[<-hl,aa3 a0 aQ]) (by rw[<-hl,aa3 a0 aQ])
theorem ym(r:Rl)(w:World):Calls Tryz.prog 183 #[.agg (dS r)] w (Pure (.agg (dS (jq r))) w):=by
 have hp:=dA r
 refine eH func183 rfl rfl fun hH=>SR<|gM hH (v:= .agg _) rfl<|fun b3 w1 bp=>lJ bp (aS rH)<|fun b6 w4 bY=>aa<|SR<|V (aR bS O O O (bY.blk (i:=1) O))<|aH O bY (bN _ _) (ay nO O)<|fun w7 eX=>V (dJ (vs:=[(0,I _)]) O (yW _))<|lJ eX (aS rH)<|fun b11 w9 cg=>bg cg (i:=0) O (oM O O O (cg.blk (i:=0) O))<|fun y8 bX=>aa<|ai<|SR<|va (v:=I 0) rfl<|aa<|aA<|have hz:(⟨pts r,fun _=>0#64⟩:Rl).n=pts r:=rfl;bt (G:=Int×Rl) (fun⟨k,r1⟩ s' w'=>(Fr (4::(rg 8 13 [])) _ s')/\(Hp w w' (.blk b11 (.cells (dS r1) 86 (0,0))::_))/\(s' 4=I k)/\(0<=k)/\(k<=pts r)/\(r1=Ej (pts r) (fun i=>kT (yb r i)) k)) (fun⟨k,r1⟩=>(pts r-k).toNat) ((0,⟨pts r,fun _=>0#64⟩)) ⟨Fr.refl _ _,bX,rfl,J,J,Ih _ _⟩<| ?_
 rintro⟨k,r1⟩ ZW QH ⟨mO,cG,Ez,h0,hk,hr⟩
 obtain⟨NK,Bi,kB⟩:=mO.w3 1 2 3
 have hn:r1.n=pts r:=by rw[hr];rfl
 refine ai<|SR<|aE Ez<|V (fA bS 0 O aO kB)<|lV bx cG 0 O O (fw _)<|V (aN O O)<|aa<|aF O (fun yj=> ?_) (fun yj=> ?_)
 .refine an<|ai<|aA<|au<|aE Ez<|V (aR bS O O NK (cG.blk (i:=2) O))<|aE Ez<|Cq O cG (Az _ _ _) (aL call215 O O)<|fun v19 Ti dP=>aH O dP (fO _ _ _ (dP.sl (i:=0) O)) (ay Cg O)<|fun ZZ fI=>V (fA bS 1 O um kB)<|V (a6 sy cP O O J)<|bg fI (i:=1) O (bL O O (v:=U _) O O O (fI.blk (i:=1) O) HV)<|fun QJ eM=> ?_
  rw[yE]at eM
  refine aa<|au<|aE Ez<|V (ax O O J)<|aI rfl<|aa<| ?_
  refine⟨(k+1,_),aW,mO.u4.u4.u4.u1.u1,(eM.sub (sQ sR)),(aK I aM),J,J,?_⟩
  rw[hr];exact L3 h0 (by rw[gk h0])
 refine a7 (id:=0) rfl<|SR<|V (aR bS O O kB (cG.blk (i:=0) O))<|bg cG (i:=1) O (oM O Bi O (cG.blk (i:=1) O))<|fun w24 n9=>aa<|aj<|agp O Bi n9 (i:=1) O bS O O ⟨?_,n9.below⟩
 (rw[hr,show k=pts r by omega,al7])
theorem EA(a b:Rl)(w:World):Calls Tryz.prog 136 #[.agg (dS a),.agg (dS b)] w (Pure (B (decide ((eI a).eq (eI b)))) w):=by
 refine eH func136 rfl rfl fun hH=>SR<|gM hH (v:= .agg _) rfl<|fun b3 w1 bp=>gM bp (v:= .agg _) rfl<|fun b6 w4 bY=>va (v:=B false) rfl<|aa<|ai<|ec aP bY<|fun w7 eX=>AT 0 O eX (fun w hS=>aR bS O O O (hS.blk (i:=1) O))<|AT 2 O eX (fun w hS=>aR bS O O O (hS.blk (i:=0) O))<|A1 1<|ct O aD O eX sR (rI _ _) (ay call165 O)<|fun w9 cg=>A1 3<|ct O aD O cg sR (rI _ _) (ay call165 O)<|fun I2 cN=>AQ 4 O cN (Ff I1 O O)<|AQ 5 O cN (aV (B _) O)<|AD<|aj<|oB O ?_ cN
 rfl
theorem BJ(a b:Rl)(w:World):Calls Tryz.prog 214 #[.agg (dS a),.agg (dS b)] w (Pure (B (decide ((eI a).eq (eI b)))) w):=by
 refine eH func214 rfl rfl fun hH=>SR<|gM hH (v:= .agg _) rfl<|fun b3 w1 bp=>gM bp (v:= .agg _) rfl<|fun b6 w4 bY=>va (v:=B false) rfl<|aa<|ai<|ec aP bY<|fun w7 eX=>AT 0 O eX (fun w hS=>aR bS O O O (hS.blk (i:=1) O))<|AT 2 O eX (fun w hS=>aR bS O O O (hS.blk (i:=0) O))<|A1 1<|ct O aD O eX sR (rJ _ _) (ay call242 O)<|fun w9 cg=>A1 3<|ct O aD O cg sR (rJ _ _) (ay call242 O)<|fun I2 cN=>AQ 4 O cN (Ff I1 O O)<|AQ 5 O cN (aV (B _) O)<|AD<|aj<|oB O ?_ cN
 rfl
theorem Bm(r:Rl)(w:World):Calls Tryz.prog 166 #[.agg (dS r)] w (Pure (B (decide ((eI r).eq (jq r)))) w):=by
 refine eH func166 rfl rfl fun hH=>SR<|gM hH (v:= .agg _) rfl<|fun b3 w1 bp=>va (v:=B false) rfl<|aa<|ai<|ec aP bp<|fun w4 bY=>AT 0 O bY (fun w hS=>aR bS O O O (hS.blk (i:=0) O))<|AT 2 O bY (fun w hS=>aR bS O O O (hS.blk (i:=0) O))<|A1 1<|ct O aD O bY sR (rI _ _) (ay call165 O)<|fun w6 eC=>A1 3<|ct O aD O eC sR (I3 _ _) (ay call201 O)<|fun w8 iE=>AQ 4 O iE (Ff I1 O O)<|AQ 5 O iE (aV (B _) O)<|AD<|aj<|oB O ?_ iE
 rfl
theorem qD(r:Rl)(w:World):Calls Tryz.prog 182 #[.agg (dS r)] w (Pure (B (decide ((eI r).eq (jq r)))) w):=by
 refine eH func182 rfl rfl fun hH=>SR<|gM hH (v:= .agg _) rfl<|fun b3 w1 bp=>va (v:=B false) rfl<|aa<|ai<|ec aP bp<|fun w4 bY=>AT 0 O bY (fun w hS=>aR bS O O O (hS.blk (i:=0) O))<|AT 1 O bY (fun w hS=>aR bS O O O (hS.blk (i:=0) O))<|A1 2<|ct O aD O bY sR (ym _ _) (ay call183 O)<|fun w6 eC=>A1 3<|ct O aD O eC sR (BJ _ _ _) (aL call214 O O)<|fun w8 iE=>AQ 4 O iE (aV (B _) O)<|AD<|aj<|oB O ?_ iE
 rw[adi]
theorem AA(n:Int)(w:World):Calls Tryz.prog 208 #[I n] w (Pure (.agg (dS (agv n))) w):=by
 refine eH func208 rfl rfl fun hH=>SR<|lJ hH (aS rH)<|fun b3 w1 bp=>aa<|SR<|mI rfl<|V (dJ (vs:=[(0,I _)]) O (yW _))<|aH O bp (kV _ _) (ay HO O)<|fun w4 bY=>V (dJ (vs:=[(0,I _)]) O (yW _))<|bg bY (i:=0) O (oM O O O (bY.blk (i:=0) O))<|fun w6 eC=>aa<|aj<|agp O O eC (i:=0) O bS O O ⟨?_,eC.below⟩
 rfl
theorem Kc(r:Rl)(i:Int)(w:World)(hT:o3 w):Calls Tryz.prog 202 #[.agg (dS r),I i] w (Pure (U (DD r i)) w):=by
 refine eH func202 rfl rfl fun hH=>SR<|gM hH (v:= .agg _) rfl<|fun b3 w1 bp=>va (v:=U 0#64) rfl<|aa<|SR<|mI rfl<|tQ 1 1 bp (cB bD O O (sz:=1) (vs:=[I _]) O O az az O O)<|fun b6 w4 bY=> ?_
 (try simp only[lf]at bY)
 refine aH O bY (yY _ [i] _ (bY.dR (i:=0) (n:=1) (sz:=1) O O az)) (ay call203 O)<|fun w7 eX=>aU rfl<|aa<|ai<|ec aP eX<|fun w9 cg=>have AB:=cg;AT 0 O AB (fun w hS=>aR bS O O O (hS.blk (i:=1) O))<|AQ 1 O AB (mV (U _) O)<|AT 3 O AB (fun w hS=>aR bS O O O (hS.blk (i:=1) O))<|AQ 4 O AB (mV (U _) O)<|A1 2<|ct O aD O cg sR (C2 _ _ _ (hT.hp cg)) (aL call209 O O)<|fun I2 cN=>A1 5<|ct O aD O cN sR (yl _ _ _) (aL call211 O O)<|fun C0 cG=>AQ 6 O cG (lY O O)<|AQ 7 O cG (aV (U _) O)<|AD<|aj<|oU O ?_ cG
 rfl
theorem NV(r:Rl)(w:World)(hT:o3 w):Calls Tryz.prog 167 #[.agg (dS r)] w (Pure (B (gq r)) w):=by
 have hp:=dA r
 refine eH func167 rfl rfl fun hH=>SR<|gM hH (v:= .agg _) rfl<|fun b3 w1 bp=>va (v:=B false) rfl<|aa<|ai<|SR<|V (aR bS O O O (bp.blk (i:=0) O))<|aH O bp (Bm _ _) (ay call166 O)<|fun w4 bY=>V (vx O)<|aa<|aF O (fun h9=> ?_) (fun h9=> ?_)
 .refine SR<|va (v:=B false) rfl<|aa<|aj<|oB O ?_ bY
  exact(adk aQ).symm
 refine an<|ai<|SR<|V (aR bS O O O (bY.blk (i:=0) O))<|aH O bY (kV _ _) (ay HO O)<|fun EB df=>aE (v:=I 0) rfl<|aa<|aA<|have hc:=HD ‹¬¬(eI r).eq (jq r)›;bt (G:=Int) (fun k s' w'=>(Fr (2::3::(rg 9 11 [])) _ s')/\(Hp w w' _)/\(s' 9=I k)/\(0<=k)/\(k<=pts r)/\(∀j:Int,0<=j->j<k->DD r j=kT [j])) (fun k=>(pts r-k).toNat) (0) ⟨Fr.refl _ _,df,rfl,J,J,fun j a b=>absurd b J⟩<| ?_
 rintro k Z4 y8 ⟨mi,cN,ajM,h0,hk,hf⟩
 obtain⟨o8,NW⟩:=mi.w2 1 8
 refine SR<|V (aN ajM NW)<|aa<|ai<|aF O (fun F4=> ?_) (fun F4=> ?_)
 .refine an<|ai<|aA<|SR<|aE ajM<|aI rfl<|aa<|SR<|V (aR bS O O o8 (cN.blk (i:=0) O))<|mI rfl<|aH O cN (Kc _ _ _ (hT.hp cN)) (aL call202 O O)<|fun Tf cI=>mI rfl<|tQ 1 1 cI (cB bD O O (sz:=1) (vs:=[I _]) O O az az O O)<|fun Z6 Ti dP=> ?_
  (try simp only[lf]at dP)
  refine aH O dP (yY _ [k] _ (dP.dR (i:=0) (n:=1) (sz:=1) O O az)) (ay call203 O)<|fun ZZ fI=>V (vp O O)<|aa<|aF O (fun FK=> ?_) (fun FK=> ?_)
  .refine SR<|va (v:=B false) rfl<|aa<|aj<|oB O ?_ fI
   exact(agx hc ⟨h0,J⟩ aQ).symm
  refine an<|au<|V (ax ajM O J)<|mI rfl<|aa<| ?_
  refine⟨k+1,aW,mi.u4.u4.u4,(fI.sub (sQ sR)),(aK I aM),J,J,?_⟩
  exact fun j a b=>if e:j=k then e▸HD ‹_›else hf j a J
 refine a7 (id:=0) rfl<|SR<|va (v:=B true) rfl<|aa<|aj<|oB O ?_ cN
 exact(adl hc fun j a b=>hf j a J).symm
theorem AE(r:Rl)(w:World):Calls Tryz.prog 148 #[.agg (dS r)] w (Pure (B (gq r)) w):=by
 have hp:=dA r
 refine eH func148 rfl rfl fun hH=>SR<|gM hH (v:= .agg _) rfl<|fun b3 w1 bp=>va (v:=B false) rfl<|aa<|ai<|SR<|va (v:=I 0) rfl<|aa<|aA<|bt (G:=Int) (fun k s' w'=>(Fr (rg 2 24 []) _ s')/\(Hp w w' _)/\(s' 3=I k)/\(0<=k)/\(k<=pts r)/\(∀i j:Int,0<=j->j<i->i<k->(bK r i j&&bK r j i)=false)) (fun k=>(pts r-k).toNat) (0) ⟨Fr.refl _ _,bp,rfl,J,J,fun i j a b c=>absurd c J⟩<| ?_
 rintro k sg4 w4 ⟨CZ,iw,yZ,k0,k1,hf⟩
 have Ax:=CZ.w1 1
 refine ai<|SR<|aE yZ<|V (aR bS O O Ax (iw.blk (i:=0) O))<|aH O iw (bN _ _) (ay nO O)<|fun w5 jN=>V (aN O O)<|aa<|aF O (fun h8=> ?_) (fun h8=> ?_)
 .refine an<|ai<|aA<|SR<|va (v:=I 0) rfl<|aa<|aA<|bt (G:=Int) (fun j s' w'=>(Fr (2::(4::(rg 11 15 []))) _ s')/\(Hp w w' _)/\(s' 4=I j)/\(0<=j)/\(j<=k)/\(∀x:Int,0<=x->x<j->(bK r k x&&bK r x k)=false)) (fun j=>(k-j).toNat) (0) ⟨Fr.refl _ _,jN,rfl,J,J,fun x a b=>absurd b J⟩<| ?_
  rintro j sg9 w9 ⟨fr9,iE,Pc,j0,j1,hg⟩
  obtain⟨Z7,aaa⟩:=fr9.t2 1 Ax 3 yZ
  refine ai<|SR<|aE Pc<|aE aaa<|V (aN O O)<|aa<|aF O (fun h11=> ?_) (fun h11=> ?_)
  .refine an<|ai<|aA<|SR<|V (aR bS O O Z7 (iE.blk (i:=0) O))<|aE aaa<|aE Pc<|aH O iE (bC _ _ _ _) (bz jo O O O)<|fun y8 bX=>mB rfl<|eF 20 O (fun D6=> ?_) (fun D6=> ?_)
   .refine V (aR bS O O Z7 (bX.blk (i:=0) O))<|aE Pc<|aE aaa<|aH O bX (bC _ _ _ _) (bz jo O O O)<|fun I4 ep=>mB rfl<|aa<|bW O (fun NT=> ?_) (fun NT=> ?_)
    .refine SR<|va (v:=B false) rfl<|aa<|aj<|oB O ?_ ep
     exact(Uv ‹bK r k j=true› ‹bK r j k=true› aQ).symm
    refine an<|au<|aE Pc<|V (ax O O J)<|aI rfl<|aa<| ?_
    refine⟨j+1,aW,fr9.u4.u4.u4.u4,ep,(aK I aM),J,J,?_⟩
    exact fun x u v=>if e:x=j then e▸(by rw[‹bK r j k=false›];simp)else hg x u J
   refine aE (v:=B false) rfl<|aa<|cQ rfl<|an<|au<|aE Pc<|V (ax O O J)<|aI rfl<|aa<| ?_
   refine⟨j+1,aW,fr9.u4.u4.u4.u4,bX,(aK I aM),J,J,?_⟩
   exact fun x u v=>if e:x=j then e▸(by rw[‹bK r k j=false›];rfl)else hg x u J
  refine a7 (id:=2) rfl<|au<|aE aaa<|V (ax O O J)<|aI rfl<|aa<| ?_
  refine⟨k+1,aW,(((CZ.u4.u1).t fr9 O)).u4.u1.u1,iE,(aK I aM),J,J,?_⟩
  exact fun i x u v y=>if e:i=k then e▸hg x u (by omega)else hf i x u v J
 refine a7 (id:=0) rfl<|SR<|V (aR bS O O Ax (jN.blk (i:=0) O))<|aH O jN (qD _ _) (ay call182 O)<|fun ZZ fI=>aB rfl<|aa<|aj<|oB O ?_ fI
 exact(adm aQ hf).symm
theorem aab(r:Rl)(i:Int)(w:World):Calls Tryz.prog 210 #[.agg (dS r),I i] w (Pure (B (Bv r i)) w):=by
 have hp:=dA r
 have hnn:(agv r.n).n=pts r:=rfl
 refine eH func210 rfl rfl fun hH=>SR<|gM hH (v:= .agg _) rfl<|fun b3 w1 bp=>va (v:=B false) rfl<|aa<|SR<|mI rfl<|V (dF O O)<|mB rfl<|bM 7 O (fun h5=> ?_) (fun h5=> ?_)
 .refine mI rfl<|V (fA bS 0 O aO O)<|lV bx bp 0 O O (fw _)<|aH O bp (AA _ _) (ay call208 O)<|fun w6 eC=>V (Dw bS O isAgg3 O (fw _))<|V (aN O O)<|mB rfl<|aB rfl<|aa<|aj<|oB O ?_ eC
  (rw[Bv,gV];simp only[eE,uE,zE];omega)
 refine aE (v:=B false) rfl<|aB rfl<|aa<|aj<|oB O ?_ bp
 (rw[Bv,gV];simp only[eE,uE,zE];omega)
theorem EC(r:Rl)(i:Int)(w:World)(hT:o3 w):Calls Tryz.prog 176 #[.agg (dS r),I i] w (Pure (U (gx r i)) w):=by
 refine eH func176 rfl rfl fun hH=>SR<|gM hH (v:= .agg _) rfl<|fun b3 w1 bp=>va (v:=U 0#64) rfl<|aa<|ai<|ec aP bp<|fun w4 bY=>AT 0 O bY (fun w hS=>aR bS O O O (hS.blk (i:=0) O))<|AQ 1 O bY (mV (I _) O)<|A1 2<|cH O aD O bY sR (f:=fun b=> .slice (some ⟨b,0,none⟩) 1 1) (cB bD O O (sz:=1) (vs:=[I _]) O O az az O O)<|fun b8 w6 eC=> ?_
 (try simp only[lf]at eC)
 refine A1 3<|ct O aD O eC (sQ sR) (yY _ [i] _ (eC.dR (i:=0) (n:=1) (sz:=1) O O az)) (ay call203 O)<|fun w9 cg=>A1 4<|ct O aD O cg (sQ sR) (C2 _ _ _ (hT.hp cg)) (aL call209 O O)<|fun I2 cN=>AQ 5 O (cN.sub (sQ sR)) (aV (U _) O)<|AD<|aj<|oU O ?_ cN
 rfl
theorem ED(r:Rl)(i:Int)(w:World)(hT:o3 w):Calls Tryz.prog 177 #[.agg (dS r),I i] w (Pure (U (bQ r i)) w):=by
 refine eH func177 rfl rfl fun hH=>SR<|gM hH (v:= .agg _) rfl<|fun b3 w1 bp=>va (v:=U 0#64) rfl<|aa<|ai<|SR<|V (aR bS O O O (bp.blk (i:=0) O))<|mI rfl<|aH O bp (aab _ _ _) (aL call210 O O)<|fun w4 bY=>V (bJ O)<|aa<|bW O (fun h8=> ?_) (fun h8=> ?_)
 .refine SR<|va (v:=U 0#64) rfl<|aa<|aj<|oU O ?_ bY
  rw[bQ,aT (by simpa using‹(!Bv r i)=true›)]
 refine an<|ai<|ec aP bY<|fun w9 cg=>AT 0 O cg (fun w hS=>aR bS O O O (hS.blk (i:=0) O))<|AQ 1 O cg (mV (I _) O)<|A1 2<|cH O aD O cg sR (f:=fun b=> .slice (some ⟨b,0,none⟩) 1 1) (cB bD O O (sz:=1) (vs:=[I _]) O O az az O O)<|fun NY I2 cN=> ?_
 (try simp only[lf]at cN)
 refine A1 3<|ct O aD O cN (sQ sR) (yY _ [i] _ (cN.dR (i:=0) (n:=1) (sz:=1) O O az)) (ay call203 O)<|fun QH gS=>A1 4<|ct O aD O gS (sQ sR) (yl _ _ _) (aL call211 O O)<|fun I4 ep=>AQ 5 O (ep.sub (sQ sR)) (aV (U _) O)<|AD<|aj<|oU O ?_ ep
 rw[bQ,aX (by simpa using‹(!Bv r i)=false›)]
theorem Bn(r:Rl)(i j:Int)(f:FuncId)(gg:Int->BitVec 64)(w:World)(hf:∀args w,(callFunc f args).run Tryz.prog w= .ok (.enter f args) w)(go:∀i w,o3 w->Calls Tryz.prog f #[.agg (dS r),I i] w (Pure (U (gg i)) w))(hn:∀u,hasB (gg i&&&gg j) u=true->u<pts r)(hT:o3 w):Calls Tryz.prog 204 #[.agg (dS r),I i,I j,.func (.func f) #[] #[]] w (Pure (.tuple #[I (A7 gg (pts r) i j).1,B (A7 gg (pts r) i j).2]) w):=by
 have hl:=Gd (gg i&&&gg j)
 refine eH func204 rfl rfl fun hH=>SR<|gM hH (v:= .agg _) rfl<|fun b3 w1 bp=>va (v:=I 0) rfl<|va (v:=B false) rfl<|aa<|ai<|ec aP bp<|fun w4 bY=>have Pa:=bY;AQ 0 O Pa (mV (.func _ _ _) rfl)<|AT 1 rfl Pa (fun w hS=>aR bS O O O (hS.blk (i:=0) O))<|AQ 2 O Pa (mV (I _) O)<|AQ 4 O Pa (mV (.func _ _ _) O)<|AT 5 O Pa (fun w hS=>aR bS O O O (hS.blk (i:=0) O))<|AQ 6 O Pa (mV (I _) O)<|A1 3<|ct O aD O bY sR (go _ _ (hT.hp bY)) (iZ hf (cs:=[]) O O O)<|fun w6 eC=>A1 7<|ct O aD O eC sR (go _ _ (hT.hp eC)) (iZ hf (cs:=[]) O O O)<|fun w8 iE=>AQ 8 O iE (lY O O)<|AQ 9 O iE (aV (U _) O)<|AD<|ai<|SR<|mU rfl<|Cq O iE (C1 _ _ (hT.hp iE)) (ay call233 O)<|fun v12 EB df=>V (aC (df.sl (i:=0) O) O bD O)<|aE (v:=I 0) rfl<|aa<|aA<|bt (G:=Int) (fun a s' w'=>(Fr (8::9::(12::(rg 25 12 []))) _ s')/\(Hp w w' _)/\(s' 25=I a)/\(0<=a)/\(a<=(gK (gg i&&&gg j)).length)/\(∀b:Int,0<=b->b<a->eu (gg i&&&gg j) (gg ((gK (gg i&&&gg j)).getD b.toNat 0))=false)) (fun a=>((gK (gg i&&&gg j)).length-a).toNat) (0) ⟨Fr.refl _ _,df,rfl,J,J,fun b x y=>absurd y J⟩<| ?_
 rintro a aac C0 ⟨rX,bX,N0,a0,a1,hg⟩
 have xw:=rX.vv 3 (a:= .func _ _ _) rfl rfl
 obtain⟨Bo,as7,aad,N1⟩:=rX.w4 4 10 23 24
 refine SR<|V (aN N0 N1)<|aa<|ai<|aF O (fun D6=> ?_) (fun D6=> ?_)
 .refine an<|ai<|aA<|SR<|V (ah (bX.sl (i:=0) O) bD aO aad N0 J)<|V (aG bx O O ((bX.sl (i:=0) O).cell _ _ (eS J)))<|aI rfl<|aa<|SR<|aE as7<|aE xw<|V (aR bS O O Bo (bX.blk (i:=1) O))<|mI rfl<|aH O bX (go _ _ (hT.hp bX)) (iZ hf (cs:=[]) O O O)<|fun I4 ep=>aH O ep (FI _ _ _) (aL call140 O O)<|fun K0 iD=>aa<|bW O (fun N2=> ?_) (fun N2=> ?_)
  .refine SR<|mI rfl<|aI rfl<|va (v:=B true) rfl<|aa<|aj<| ?_
   refine kr O (aK I ?_) (aK B ?_) iD.below<;>rw[agG hn a0 aQ aQ hg]
  refine an<|au<|V (ax N0 O J)<|mI rfl<|aa<| ?_
  refine⟨a+1,aW,rX.u4.u4.u4,iD,(aK I aM),J,J,?_⟩
  exact fun b x y=>if e:b=a then e▸‹_›else hg b x J
 refine a7 (id:=0) rfl<|SR<|va (v:=I 0) rfl<|va (v:=B false) rfl<|aa<|aj<| ?_
 refine kr O (aK I ?_) (aK B ?_) bX.below<;>rw[amb aQ hg]
theorem AF(r:Rl)(i j:Int)(w:World)(hT:o3 w):Calls Tryz.prog 168 #[.agg (dS r),I i,I j] w (Pure (.tuple #[I (jh r i j).1,B (jh r i j).2]) w):=by
 refine eH func168 rfl rfl fun hH=>SR<|gM hH (v:= .agg _) rfl<|fun b3 w1 bp=>va (v:=I 0) rfl<|va (v:=B false) rfl<|aa<|SR<|V (aR bS O O O (bp.blk (i:=0) O))<|mI rfl<|mI rfl<|aH O bp (Bn r i j 176 (gx r) _ call176 (fun i w h=>EC r i w h) (fun u h=>agH h) (hT.hp bp)) (jE call204 O O O O)<|fun w4 bY=>V (bk O (v:=I _) O)<|V (bk O (v:=B _) O)<|aI rfl<|aB rfl<|aa<|aj<|kr O (aK I ?_) (aK B ?_) bY.below
 all_goals rfl
theorem Tk(r:Rl)(i j:Int)(w:World)(hT:o3 w):Calls Tryz.prog 169 #[.agg (dS r),I i,I j] w (Pure (.tuple #[I (q7 r i j).1,B (q7 r i j).2]) w):=by
 refine eH func169 rfl rfl fun hH=>SR<|gM hH (v:= .agg _) rfl<|fun b3 w1 bp=>va (v:=I 0) rfl<|va (v:=B false) rfl<|aa<|SR<|V (aR bS O O O (bp.blk (i:=0) O))<|mI rfl<|mI rfl<|aH O bp (Bn r i j 177 (bQ r) _ call177 (fun i w h=>ED r i w h) (fun u h=>ado h) (hT.hp bp)) (jE call204 O O O O)<|fun w4 bY=>V (bk O (v:=I _) O)<|V (bk O (v:=B _) O)<|aI rfl<|aB rfl<|aa<|aj<|kr O (aK I ?_) (aK B ?_) bY.below
 all_goals rfl
theorem oR(r:Rl)(i:Int)(w:World)(hT:o3 w):Calls Tryz.prog 144 #[.agg (dS r),I i] w (Pure (U (bQ r i)) w):=by
 refine eH func144 rfl rfl fun hH=>SR<|gM hH (v:= .agg _) rfl<|fun b3 w1 bp=>va (v:=U 0#64) rfl<|aa<|SR<|V (aR bS O O O (bp.blk (i:=0) O))<|mI rfl<|aH O bp (ED _ _ _ (hT.hp bp)) (aL call177 O O)<|fun w4 bY=>aU rfl<|aa<|aj<|oU O ?_ bY
 rfl
theorem yo(r:Rl)(s:BitVec 64)(w:World)(hT:o3 w):Calls Tryz.prog 181 #[.agg (dS r),U s] w (Pure (.tuple #[I (eY r s).1,B (eY r s).2]) w):=by
 have hp:=dA r
 have hnn:(agv r.n).n=pts r:=rfl
 refine eH func181 rfl rfl fun hH=>SR<|gM hH (v:= .agg _) rfl<|fun b3 w1 bp=>va (v:=I 0) rfl<|va (v:=B false) rfl<|aa<|ai<|SR<|V (fA bS 0 O aO O)<|lV bx bp 0 O O (fw _)<|aH O bp (AA _ _) (ay call208 O)<|fun w4 bY=>V (Dw bS O isAgg3 O (fw _))<|aE (v:=I 0) rfl<|aa<|aA<|bt (G:=Int) (fun k s' w'=>(Fr (rg 4 3 (rg 11 10 [])) _ s')/\(Hp w w' _)/\(s' 11=I k)/\(0<=k)/\(k<=pts r)/\(∀j:Int,0<=j->j<k->bQ r j≠s)) (fun k=>(pts r-k).toNat) (0) ⟨Fr.refl _ _,bY,rfl,J,J,fun j x y=>absurd y J⟩<| ?_
 rintro k sg6 w6 ⟨QF,jN,NG,h0,hk,hg⟩
 obtain⟨O6,ajI,ajG⟩:=QF.w3 1 2 10
 refine SR<|V (aN NG ajG)<|aa<|ai<|aF O (fun h8=> ?_) (fun h8=> ?_)
 .refine an<|ai<|aA<|SR<|aE NG<|aI rfl<|aa<|SR<|V (aR bS O O ajI (jN.blk (i:=0) O))<|mI rfl<|aH O jN (oR _ _ _ (hT.hp jN)) (aL HP O O)<|fun w9 cg=>aE O6<|V (jO O O)<|aa<|aF O (fun h12=> ?_) (fun h12=> ?_)
  .refine SR<|mI rfl<|aI rfl<|va (v:=B true) rfl<|aa<|aj<| ?_
   refine kr O (aK I ?_) (aK B ?_) cg.below<;>rw[DE h0 J aQ hg]
  refine an<|au<|V (ax NG O J)<|mI rfl<|aa<| ?_
  refine⟨k+1,aW,QF.u4.u4.u1.u1,cg,(aK I aM),J,J,?_⟩
  exact fun j x y=>if e:j=k then e▸‹¬bQ r k=s›else hg j x J
 refine a7 (id:=0) rfl<|SR<|va (v:=I 0) rfl<|va (v:=B false) rfl<|aa<|aj<| ?_
 refine kr O (aK I ?_) (aK B ?_) jN.below<;>rw[Gj J hg]
theorem Pd(r:Rl)(a b:BitVec 64)(w:World)(hT:o3 w):Calls Tryz.prog 205 #[.agg (dS r),U a,U b] w (Pure (U (js r a b)) w):=by
 refine eH func205 rfl rfl fun hH=>SR<|gM hH (v:= .agg _) rfl<|fun b3 w1 bp=>va (v:=U 0#64) rfl<|aa<|ai<|SR<|V (aR bS O O O (bp.blk (i:=0) O))<|mU rfl<|aH O bp (yo _ _ _ (hT.hp bp)) (aL call181 O O)<|fun w4 bY=> ?_
 refine V (run_move bA) ?_
 refine V (bk O (v:=I _) O)<|V (bk O (v:=B _) O)<|aI rfl<|aB rfl<|aa<|SR<|mB rfl<|aa<|bW O (fun h7=> ?_) (fun h7=> ?_)
 .refine SR<|V (aR bS O O O (bY.blk (i:=0) O))<|mU rfl<|aH O bY (yo _ _ _ (hT.hp bY)) (aL call181 O O)<|fun w8 iE=> ?_
  refine V (run_move bA) ?_
  refine V (bk O (v:=I _) O)<|V (bk O (v:=B _) O)<|aI rfl<|aB rfl<|aa<|SR<|mB rfl<|aa<|bW O (fun h11=> ?_) (fun h11=> ?_)
  .refine SR<|V (aR bS O O O (iE.blk (i:=0) O))<|mI rfl<|mI rfl<|aH O iE (AF _ _ _ _ (hT.hp iE)) (bz call168 O O O)<|fun y8 bX=> ?_
   refine V (run_move bA) ?_
   refine V (bk O (v:=I _) O)<|V (bk O (v:=B _) O)<|aI rfl<|aB rfl<|aa<|SR<|mB rfl<|aa<|bW O (fun D6=> ?_) (fun D6=> ?_)
   .refine SR<|V (aR bS O O O (bX.blk (i:=0) O))<|mI rfl<|aH O bX (oR _ _ _ (hT.hp bX)) (aL HP O O)<|fun I4 ep=>aU rfl<|aa<|aj<|oU O ?_ ep
    rw[Iq aQ aQ aQ]
   refine an<|SR<|mU rfl<|mU rfl<|V (iH O O)<|aU rfl<|aa<|aj<|oU O ?_ bX
   rw[PC aQ]
  refine an<|SR<|mU rfl<|mU rfl<|V (iH O O)<|aU rfl<|aa<|aj<|oU O ?_ iE
  rw[It aQ]
 refine an<|SR<|mU rfl<|mU rfl<|V (iH O O)<|aU rfl<|aa<|aj<|oU O ?_ bY
 rw[Ir aQ]
theorem Ws(r:Rl)(f:FuncId)(gg:Int->BitVec 64)(w:World)(hf:∀args w,(callFunc f args).run Tryz.prog w= .ok (.enter f args) w)(go:∀i w,o3 w->Calls Tryz.prog f #[.agg (dS r),I i] w (Pure (U (gg i)) w))(hT:o3 w):Calls Tryz.prog 175 #[.agg (dS r),.func (.func f) #[] #[]] w (Pure (.tuple #[I (wI r gg).1,B (wI r gg).2]) w):=by
 have hp:=dA r
 have hnn:(agv r.n).n=pts r:=rfl
 refine eH func175 rfl rfl fun hH=>SR<|gM hH (v:= .agg _) rfl<|fun b3 w1 bp=>va (v:=I 0) rfl<|va (v:=B false) rfl<|aa<|SR<|V (fA bS 0 O aO O)<|lV bx bp 0 O O (fw _)<|aH O bp (AA _ _) (ay call208 O)<|fun w4 bY=>V (Dw bS O isAgg3 O (fw _))<|aI rfl<|aa<|ai<|SR<|mI rfl<|aE (v:=I 0) rfl<|aa<|aA<|bt (G:=Int) (fun k s' w'=>(Fr (4::5::(7::(rg 13 12 []))) _ s')/\(Hp w w' _)/\(s' 13=I k)/\(0<=k)/\(k<=pts r)/\(∀j:Int,0<=j->j<k->gg j≠below (pts r))) (fun k=>(pts r-k).toNat) (0) ⟨Fr.refl _ _,bY,rfl,J,J,fun j x y=>absurd y J⟩<| ?_
 rintro k sg6 w6 ⟨QF,jN,ajN,h0,hk,hg⟩
 have O6:=QF.vv 1 (a:= .func _ _ _) rfl rfl
 obtain⟨ajI,aEB,axU⟩:=QF.w3 2 6 12
 refine SR<|V (aN ajN axU)<|aa<|ai<|aF O (fun h8=> ?_) (fun h8=> ?_)
 .refine an<|ai<|aA<|SR<|aE ajN<|aI rfl<|aa<|SR<|aE O6<|V (aR bS O O ajI (jN.blk (i:=0) O))<|mI rfl<|aH O jN (go _ _ (hT.hp jN)) (iZ hf (cs:=[]) O O O)<|fun w9 cg=>aE aEB<|aH O cg (oQ _ _) (ay HN O)<|fun I2 cN=>V (jO O O)<|aa<|aF O (fun F4=> ?_) (fun F4=> ?_)
  .refine SR<|mI rfl<|aI rfl<|va (v:=B true) rfl<|aa<|aj<| ?_
   refine kr O (aK I ?_) (aK B ?_) cN.below<;>rw[aba h0 J aQ hg]
  refine an<|au<|V (ax ajN O J)<|mI rfl<|aa<| ?_
  refine⟨k+1,aW,QF.u4.u4.u4,cN,(aK I aM),J,J,?_⟩
  exact fun j x y=>if e:j=k then e▸‹¬gg k=below _›else hg j x J
 refine a7 (id:=0) rfl<|SR<|va (v:=I 0) rfl<|va (v:=B false) rfl<|aa<|aj<| ?_
 refine kr O (aK I ?_) (aK B ?_) jN.below<;>rw[agI J hg]
theorem N3(r:Rl)(w:World)(hT:o3 w):Calls Tryz.prog 143 #[.agg (dS r)] w (Pure (.tuple #[I (wI r (gx r)).1,B (wI r (gx r)).2]) w):=by
 refine eH func143 rfl rfl fun hH=>SR<|gM hH (v:= .agg _) rfl<|fun b3 w1 bp=>va (v:=I 0) rfl<|va (v:=B false) rfl<|aa<|SR<|V (aR bS O O O (bp.blk (i:=0) O))<|aH O bp (Ws r 176 (gx r) _ call176 (fun i w h=>EC r i w h) (hT.hp bp)) (aL call175 O O)<|fun w4 bY=>V (bk O (v:=I _) O)<|V (bk O (v:=B _) O)<|aI rfl<|aB rfl<|aa<|aj<|kr O (aK I ?_) (aK B ?_) bY.below
 all_goals rfl
theorem Ke(r:Rl)(w:World)(hT:o3 w):Calls Tryz.prog 138 #[.agg (dS r)] w (Pure (B (th r)) w):=by
 have hp:=dA r
 refine eH func138 rfl rfl fun hH=>SR<|gM hH (v:= .agg _) rfl<|fun b3 w1 bp=>va (v:=B false) rfl<|aa<|ai<|SR<|V (fA bS 0 O aO O)<|lV bx bp 0 O O (fw _)<|V (aN O O)<|mB rfl<|bM 12 O (fun h5=> ?_) (fun h5=> ?_)
 .refine aE (v:=B true) rfl<|mB rfl<|cC O rfl<|aE (v:=B true) rfl<|aa<|cA rfl<|SR<|va (v:=B false) rfl<|aa<|aj<|oB O ?_ bp
  exact(KD J).symm
 refine V (fA bS 0 O aO O)<|lV bx bp 0 O O (fw _)<|V (dN O O)<|mB rfl<|mB rfl<|bM 17 O (fun h7=> ?_) (fun h7=> ?_)
 .refine aE (v:=B true) rfl<|aa<|cA rfl<|SR<|va (v:=B false) rfl<|aa<|aj<|oB O ?_ bp
  exact(KD J).symm
 refine V (aR bS O O O (bp.blk (i:=0) O))<|aH O bp (NV _ _ (hT.hp bp)) (ay call167 O)<|fun w8 iE=>V (bJ O)<|mB rfl<|aa<|bW O (fun h12=> ?_) (fun h12=> ?_)
 .refine SR<|va (v:=B false) rfl<|aa<|aj<|oB O ?_ iE
  exact(aa8 (nt aQ)).symm
 refine an<|ai<|SR<|V (fA bS 0 O aO O)<|lV bx iE 0 O O (fw _)<|aE (v:=I 0) rfl<|aa<|aA<|have hn:1<=r.n/\r.n<=64:=J;have ho:gq r=true:=nf aQ;bt (G:=Int) (fun i s' w'=>(Fr (rg 2 7 (rg 24 29 [])) _ s')/\(Hp w w' _)/\(s' 24=I i)/\(0<=i)/\(i<=r.n)/\(∀a b:Int,0<=b->b<a->a<i->uH r a b=true)) (fun i=>(r.n-i).toNat) (0) ⟨Fr.refl _ _,iE,rfl,J,J,fun a b x y z=>absurd z J⟩<| ?_
 rintro i aac C0 ⟨rX,bX,N1,i0,i1,hg⟩
 obtain⟨G1,aad⟩:=rX.w2 1 23
 refine SR<|V (aN N1 aad)<|aa<|ai<|aF O (fun D6=> ?_) (fun D6=> ?_)
 .refine an<|ai<|aA<|SR<|aE N1<|aI rfl<|aa<|SR<|mI rfl<|aE (v:=I 0) rfl<|aa<|aA<|bt (G:=Int) (fun j s' w'=>(Fr (2::(rg 4 5 (rg 28 24 []))) _ s')/\(Hp w w' _)/\(s' 28=I j)/\(0<=j)/\(j<=i)/\(∀b:Int,0<=b->b<j->uH r i b=true)) (fun j=>(i-j).toNat) (0) ⟨Fr.refl _ _,bX,rfl,J,J,fun b x y=>absurd y J⟩<| ?_
  rintro j aae I4 ⟨nR,cI,aaf,j0,j1,hh⟩
  obtain⟨oz,as8⟩:=nR.w2 3 27
  obtain⟨xx,as9⟩:=nR.t2 1 G1 24 N1
  refine SR<|V (aN aaf as8)<|aa<|ai<|aF O (fun qk=> ?_) (fun qk=> ?_)
  .refine an<|ai<|aA<|SR<|aE aaf<|aI rfl<|aa<|SR<|V (aR bS O O xx (cI.blk (i:=0) O))<|aE oz<|mI rfl<|aH O cI (AF _ _ _ _ (hT.hp cI)) (bz call168 O O O)<|fun Tj cT=> ?_
   refine V (run_move bA) ?_
   refine V (bk O (v:=I _) O)<|V (bk O (v:=B _) O)<|aI rfl<|aB rfl<|aa<|SR<|V (aR bS O O xx (cT.blk (i:=0) O))<|aE oz<|mI rfl<|aH O cT (Tk _ _ _ _ (hT.hp cT)) (bz call169 O O O)<|fun QJ eM=> ?_
   refine V (run_move bA) ?_
   refine V (bk O (v:=I _) O)<|V (bk O (v:=B _) O)<|aI rfl<|aB rfl<|aa<|SR<|mB rfl<|V (bJ O)<|mB rfl<|eF 47 O (fun Wp=> ?_) (fun Wp=> ?_)
   .refine aE (v:=B true) rfl<|aa<|cA rfl<|SR<|va (v:=B false) rfl<|aa<|aj<|oB O ?_ eM
    exact(KE ‹i<r.n› j0 ‹j<i› afL).symm
   refine mB rfl<|V (bJ O)<|mB rfl<|aa<|bW O (fun Wt=> ?_) (fun Wt=> ?_)
   .refine SR<|va (v:=B false) rfl<|aa<|aj<|oB O ?_ eM
    exact(KE ‹i<r.n› j0 ‹j<i› afH).symm
   refine an<|au<|V (ax aaf O J)<|mI rfl<|aa<| ?_
   refine⟨j+1,aW,nR.u4.u4.u4.u4.u4.u4.u4.u1,eM,(aK I aM),J,J,?_⟩
   exact fun b x y=>if e:b=j then e▸(by rw[uH,cL];exact⟨nf ‹(!(jh r i j).2)=false›,nf ‹(!(q7 r i j).2)=false›⟩)else hh b x J
  refine a7 (id:=2) rfl<|au<|V (ax as9 O J)<|mI rfl<|aa<| ?_
  refine⟨i+1,aW,(((rX.u4.u1).t nR O)).u1.u1.u1,cI,(aK I aM),J,J,?_⟩
  exact fun a b x y z=>if e:a=i then e▸hh b x (by omega)else hg a b x y J
 refine a7 (id:=0) rfl<|SR<|va (v:=B true) rfl<|aa<|aj<|oB O ?_ bX
 exact(aa9 hn ho aQ hg).symm
theorem sj(r:Rl)(i j:Int)(w:World):Calls Tryz.prog 121 #[.agg (dS r),I i,I j] w (Pure (.tuple #[I (jh r i j).1,B (jh r i j).2]) w):=by
 have hp:=dA r
 refine eH func121 rfl rfl fun hH=>SR<|gM hH (v:= .agg _) rfl<|fun b3 w1 bp=>va (v:=I 0) rfl<|va (v:=B false) rfl<|aa<|ai<|SR<|va (v:=I 0) rfl<|aa<|aA<|bt (G:=Int) (fun u s' w'=>(Fr (rg 6 46 []) _ s')/\(Hp w w' _)/\(s' 8=I u)/\(0<=u)/\(u<=pts r)/\(∀x:Int,0<=x->x<u->ot (gx r) i j x=false)) (fun u=>(pts r-u).toNat) (0) ⟨Fr.refl _ _,bp,rfl,J,J,fun x a b=>absurd b J⟩<| ?_
 rintro u sg4 w4 ⟨CZ,iw,I5,u0,u1,hg⟩
 obtain⟨Ax,Kf,yZ⟩:=CZ.w3 1 2 3
 refine ai<|SR<|aE I5<|V (aR bS O O yZ (iw.blk (i:=0) O))<|aH O iw (bN _ _) (ay nO O)<|fun w5 jN=>V (aN O O)<|aa<|aF O (fun h8=> ?_) (fun h8=> ?_)
 .refine an<|ai<|aA<|SR<|V (aR bS O O yZ (jN.blk (i:=0) O))<|aE Ax<|aE I5<|aH O jN (bC _ _ _ _) (bz jo O O O)<|fun w9 cg=>mB rfl<|eF 21 O (fun h12=> ?_) (fun h12=> ?_)
  .refine V (aR bS O O yZ (cg.blk (i:=0) O))<|aE Kf<|aE I5<|aH O cg (bC _ _ _ _) (bz jo O O O)<|fun C0 cG=>mB rfl<|aB rfl<|aa<|ai<|SR<|va (v:=I 0) rfl<|aa<|aA<|bt (G:=Int) (fun v s' w'=>(Fr (9::10::(rg 27 23 [])) _ s')/\(Hp w w' _)/\(s' 9=B (Em r i j u v))/\(s' 10=I v)/\(0<=v)/\(v<=pts r)) (fun v=>(pts r-v).toNat) (0) ⟨Fr.refl _ _,cG,(aK B (by simp[Em,upto, *])),rfl,J,J⟩<| ?_
   rintro v aae I4 ⟨nR,cI,G2,oA,v0,v1⟩
   obtain⟨xx,Wu,oz,pV⟩:=nR.t4 1 Ax 2 Kf 3 yZ 8 I5
   refine ai<|SR<|aE oA<|V (aR bS O O oz (cI.blk (i:=0) O))<|aH O cI (bN _ _) (ay nO O)<|fun K0 iD=>V (aN O O)<|aa<|aF O (fun N2=> ?_) (fun N2=> ?_)
   .refine an<|ai<|aA<|SR<|V (aR bS O O oz (iD.blk (i:=0) O))<|aE xx<|aE oA<|aH O iD (bC _ _ _ _) (bz jo O O O)<|fun QJ eM=>mB rfl<|eF 37 O (fun I6=> ?_) (fun I6=> ?_)
    .refine V (aR bS O O oz (eM.blk (i:=0) O))<|aE Wu<|aE oA<|aH O eM (bC _ _ _ _) (bz jo O O O)<|fun Wv dK=>mB rfl<|mB rfl<|eF 43 O (fun rK=> ?_) (fun rK=> ?_)
     .refine V (aR bS O O oz (dK.blk (i:=0) O))<|aE pV<|aE oA<|aH O dK (bC _ _ _ _) (bz jo O O O)<|fun w30 gT=>V (bJ O)<|mB rfl<|aa<|bW O (fun h34=> ?_) (fun h34=> ?_)
      .refine au<|va (v:=B false) rfl<|aa<|au<|aE oA<|V (ax O O J)<|aI rfl<|aa<| ?_
       refine⟨v+1,aW,nR.u4.u4.u4.u4.u4.u4.u1,gT,(aK B Ck),(aK I aM),J,J⟩
      refine an<|au<|aE oA<|V (ax O O J)<|aI rfl<|aa<| ?_
      refine⟨v+1,aW,nR.u4.u4.u4.u4.u4.u4,gT,(jV G2 (aK B Ck)),(aK I aM),J,J⟩
     refine aE (v:=B false) rfl<|aa<|cQ rfl<|an<|au<|aE oA<|V (ax O O J)<|aI rfl<|aa<| ?_
     refine⟨v+1,aW,nR.u4.u4.u4.u4.u4.u4,dK,(jV G2 (aK B Ck)),(aK I aM),J,J⟩
    refine aE (v:=B false) rfl<|mB rfl<|cC O rfl<|aE (v:=B false) rfl<|aa<|cQ rfl<|an<|au<|aE oA<|V (ax O O J)<|aI rfl<|aa<| ?_
    refine⟨v+1,aW,nR.u4.u4.u4.u4.u4.u4,eM,(jV G2 (aK B Ck)),(aK I aM),J,J⟩
   refine a7 (id:=2) rfl<|SR<|aE G2<|aa<|bW O (fun BI=> ?_) (fun BI=> ?_)
   .refine SR<|aE pV<|aI rfl<|va (v:=B true) rfl<|aa<|aj<| ?_
    (refine kr O (aK I ?_) (aK B ?_) iD.below<;>rw[Uz u0 aQ (show v=pts r by omega) aQ hg])
   refine an<|au<|aE pV<|V (ax O O J)<|aI rfl<|aa<| ?_
   refine⟨u+1,aW,(((CZ.u4.u4.u4.u4).t nR O)).u4.u4,iD,(aK I aM),J,J,?_⟩
   exact fun x a b=>if e:x=u then e▸(by rw[Io r i j u (show v=pts r by omega)];assumption)else hg x a J
  refine aE (v:=B false) rfl<|aB rfl<|aa<|ai<|SR<|va (v:=I 0) rfl<|aa<|aA<|bt (G:=Int) (fun v s' w'=>(Fr (9::10::(rg 27 23 [])) _ s')/\(Hp w w' _)/\(s' 9=B (Em r i j u v))/\(s' 10=I v)/\(0<=v)/\(v<=pts r)) (fun v=>(pts r-v).toNat) (0) ⟨Fr.refl _ _,cg,(aK B (by simp[Em,upto, *])),rfl,J,J⟩<| ?_
  rintro v aEC w36 ⟨I7,j4,G3,oC,v0,v1⟩
  obtain⟨ajO,ajP,G4,N4⟩:=I7.t4 1 Ax 2 Kf 3 yZ 8 I5
  refine ai<|SR<|aE oC<|V (aR bS O O G4 (j4.blk (i:=0) O))<|aH O j4 (bN _ _) (ay nO O)<|fun w38 kD=>V (aN O O)<|aa<|aF O (fun h41=> ?_) (fun h41=> ?_)
  .refine an<|ai<|aA<|SR<|V (aR bS O O G4 (kD.blk (i:=0) O))<|aE ajO<|aE oC<|aH O kD (bC _ _ _ _) (bz jo O O O)<|fun w42 mj=>mB rfl<|eF 37 O (fun h45=> ?_) (fun h45=> ?_)
   .refine V (aR bS O O G4 (mj.blk (i:=0) O))<|aE ajP<|aE oC<|aH O mj (bC _ _ _ _) (bz jo O O O)<|fun w46 oS=>mB rfl<|mB rfl<|eF 43 O (fun h49=> ?_) (fun h49=> ?_)
    .refine V (aR bS O O G4 (oS.blk (i:=0) O))<|aE N4<|aE oC<|aH O oS (bC _ _ _ _) (bz jo O O O)<|fun w50 rY=>V (bJ O)<|mB rfl<|aa<|bW O (fun h54=> ?_) (fun h54=> ?_)
     .refine au<|va (v:=B false) rfl<|aa<|au<|aE oC<|V (ax O O J)<|aI rfl<|aa<| ?_
      refine⟨v+1,aW,I7.u4.u4.u4.u4.u4.u4.u1,rY,(aK B Ck),(aK I aM),J,J⟩
     refine an<|au<|aE oC<|V (ax O O J)<|aI rfl<|aa<| ?_
     refine⟨v+1,aW,I7.u4.u4.u4.u4.u4.u4,rY,(jV G3 (aK B Ck)),(aK I aM),J,J⟩
    refine aE (v:=B false) rfl<|aa<|cQ rfl<|an<|au<|aE oC<|V (ax O O J)<|aI rfl<|aa<| ?_
    refine⟨v+1,aW,I7.u4.u4.u4.u4.u4.u4,oS,(jV G3 (aK B Ck)),(aK I aM),J,J⟩
   refine aE (v:=B false) rfl<|mB rfl<|cC O rfl<|aE (v:=B false) rfl<|aa<|cQ rfl<|an<|au<|aE oC<|V (ax O O J)<|aI rfl<|aa<| ?_
   refine⟨v+1,aW,I7.u4.u4.u4.u4.u4.u4,mj,(jV G3 (aK B Ck)),(aK I aM),J,J⟩
  refine a7 (id:=2) rfl<|SR<|aE G3<|aa<|bW O (fun h55=> ?_) (fun h55=> ?_)
  .refine SR<|aE N4<|aI rfl<|va (v:=B true) rfl<|aa<|aj<| ?_
   (refine kr O (aK I ?_) (aK B ?_) kD.below<;>rw[Uz u0 aQ (show v=pts r by omega) aQ hg])
  refine an<|au<|aE N4<|V (ax O O J)<|aI rfl<|aa<| ?_
  refine⟨u+1,aW,(((CZ.u4.u4.u4.u4).t I7 O)).u4.u4,kD,(aK I aM),J,J,?_⟩
  exact fun x a b=>if e:x=u then e▸(by rw[Io r i j u (show v=pts r by omega)];assumption)else hg x a J
 refine a7 (id:=0) rfl<|SR<|va (v:=I 0) rfl<|va (v:=B false) rfl<|aa<|aj<| ?_
 (refine kr O (aK I ?_) (aK B ?_) jN.below<;>rw[amc aQ hg])
theorem BK(r:Rl)(i j:Int)(w:World):Calls Tryz.prog 184 #[.agg (dS r),I i,I j] w (Pure (.tuple #[I (q7 r i j).1,B (q7 r i j).2]) w):=by
 have hp:=dA r
 refine eH func184 rfl rfl fun hH=>SR<|gM hH (v:= .agg _) rfl<|fun b3 w1 bp=>va (v:=I 0) rfl<|va (v:=B false) rfl<|aa<|ai<|SR<|va (v:=I 0) rfl<|aa<|aA<|bt (G:=Int) (fun u s' w'=>(Fr (rg 6 46 []) _ s')/\(Hp w w' _)/\(s' 8=I u)/\(0<=u)/\(u<=pts r)/\(∀x:Int,0<=x->x<u->ot (bQ r) i j x=false)) (fun u=>(pts r-u).toNat) (0) ⟨Fr.refl _ _,bp,rfl,J,J,fun x a b=>absurd b J⟩<| ?_
 rintro u sg4 w4 ⟨CZ,iw,I5,u0,u1,hg⟩
 obtain⟨Ax,Kf,yZ⟩:=CZ.w3 1 2 3
 refine ai<|SR<|aE I5<|V (aR bS O O yZ (iw.blk (i:=0) O))<|aH O iw (bN _ _) (ay nO O)<|fun w5 jN=>V (aN O O)<|aa<|aF O (fun h8=> ?_) (fun h8=> ?_)
 .refine an<|ai<|aA<|SR<|V (aR bS O O yZ (jN.blk (i:=0) O))<|aE I5<|aE Ax<|aH O jN (bC _ _ _ _) (bz jo O O O)<|fun w9 cg=>mB rfl<|eF 21 O (fun h12=> ?_) (fun h12=> ?_)
  .refine V (aR bS O O yZ (cg.blk (i:=0) O))<|aE I5<|aE Kf<|aH O cg (bC _ _ _ _) (bz jo O O O)<|fun C0 cG=>mB rfl<|aB rfl<|aa<|ai<|SR<|va (v:=I 0) rfl<|aa<|aA<|bt (G:=Int) (fun v s' w'=>(Fr (9::10::(rg 27 23 [])) _ s')/\(Hp w w' _)/\(s' 9=B (En r i j u v))/\(s' 10=I v)/\(0<=v)/\(v<=pts r)) (fun v=>(pts r-v).toNat) (0) ⟨Fr.refl _ _,cG,(aK B (by simp[En,upto, *])),rfl,J,J⟩<| ?_
   rintro v aae I4 ⟨nR,cI,G2,oA,v0,v1⟩
   obtain⟨xx,Wu,oz,pV⟩:=nR.t4 1 Ax 2 Kf 3 yZ 8 I5
   refine ai<|SR<|aE oA<|V (aR bS O O oz (cI.blk (i:=0) O))<|aH O cI (bN _ _) (ay nO O)<|fun K0 iD=>V (aN O O)<|aa<|aF O (fun N2=> ?_) (fun N2=> ?_)
   .refine an<|ai<|aA<|SR<|V (aR bS O O oz (iD.blk (i:=0) O))<|aE oA<|aE xx<|aH O iD (bC _ _ _ _) (bz jo O O O)<|fun QJ eM=>mB rfl<|eF 37 O (fun I6=> ?_) (fun I6=> ?_)
    .refine V (aR bS O O oz (eM.blk (i:=0) O))<|aE oA<|aE Wu<|aH O eM (bC _ _ _ _) (bz jo O O O)<|fun Wv dK=>mB rfl<|mB rfl<|eF 43 O (fun rK=> ?_) (fun rK=> ?_)
     .refine V (aR bS O O oz (dK.blk (i:=0) O))<|aE oA<|aE pV<|aH O dK (bC _ _ _ _) (bz jo O O O)<|fun w30 gT=>V (bJ O)<|mB rfl<|aa<|bW O (fun h34=> ?_) (fun h34=> ?_)
      .refine au<|va (v:=B false) rfl<|aa<|au<|aE oA<|V (ax O O J)<|aI rfl<|aa<| ?_
       refine⟨v+1,aW,nR.u4.u4.u4.u4.u4.u4.u1,gT,(aK B Cl),(aK I aM),J,J⟩
      refine an<|au<|aE oA<|V (ax O O J)<|aI rfl<|aa<| ?_
      refine⟨v+1,aW,nR.u4.u4.u4.u4.u4.u4,gT,(jV G2 (aK B Cl)),(aK I aM),J,J⟩
     refine aE (v:=B false) rfl<|aa<|cQ rfl<|an<|au<|aE oA<|V (ax O O J)<|aI rfl<|aa<| ?_
     refine⟨v+1,aW,nR.u4.u4.u4.u4.u4.u4,dK,(jV G2 (aK B Cl)),(aK I aM),J,J⟩
    refine aE (v:=B false) rfl<|mB rfl<|cC O rfl<|aE (v:=B false) rfl<|aa<|cQ rfl<|an<|au<|aE oA<|V (ax O O J)<|aI rfl<|aa<| ?_
    refine⟨v+1,aW,nR.u4.u4.u4.u4.u4.u4,eM,(jV G2 (aK B Cl)),(aK I aM),J,J⟩
   refine a7 (id:=2) rfl<|SR<|aE G2<|aa<|bW O (fun BI=> ?_) (fun BI=> ?_)
   .refine SR<|aE pV<|aI rfl<|va (v:=B true) rfl<|aa<|aj<| ?_
    (refine kr O (aK I ?_) (aK B ?_) iD.below<;>rw[UA u0 aQ (show v=pts r by omega) aQ hg])
   refine an<|au<|aE pV<|V (ax O O J)<|aI rfl<|aa<| ?_
   refine⟨u+1,aW,(((CZ.u4.u4.u4.u4).t nR O)).u4.u4,iD,(aK I aM),J,J,?_⟩
   exact fun x a b=>if e:x=u then e▸(by rw[Ip r i j u (show v=pts r by omega)];assumption)else hg x a J
  refine aE (v:=B false) rfl<|aB rfl<|aa<|ai<|SR<|va (v:=I 0) rfl<|aa<|aA<|bt (G:=Int) (fun v s' w'=>(Fr (9::10::(rg 27 23 [])) _ s')/\(Hp w w' _)/\(s' 9=B (En r i j u v))/\(s' 10=I v)/\(0<=v)/\(v<=pts r)) (fun v=>(pts r-v).toNat) (0) ⟨Fr.refl _ _,cg,(aK B (by simp[En,upto, *])),rfl,J,J⟩<| ?_
  rintro v aEC w36 ⟨I7,j4,G3,oC,v0,v1⟩
  obtain⟨ajO,ajP,G4,N4⟩:=I7.t4 1 Ax 2 Kf 3 yZ 8 I5
  refine ai<|SR<|aE oC<|V (aR bS O O G4 (j4.blk (i:=0) O))<|aH O j4 (bN _ _) (ay nO O)<|fun w38 kD=>V (aN O O)<|aa<|aF O (fun h41=> ?_) (fun h41=> ?_)
  .refine an<|ai<|aA<|SR<|V (aR bS O O G4 (kD.blk (i:=0) O))<|aE oC<|aE ajO<|aH O kD (bC _ _ _ _) (bz jo O O O)<|fun w42 mj=>mB rfl<|eF 37 O (fun h45=> ?_) (fun h45=> ?_)
   .refine V (aR bS O O G4 (mj.blk (i:=0) O))<|aE oC<|aE ajP<|aH O mj (bC _ _ _ _) (bz jo O O O)<|fun w46 oS=>mB rfl<|mB rfl<|eF 43 O (fun h49=> ?_) (fun h49=> ?_)
    .refine V (aR bS O O G4 (oS.blk (i:=0) O))<|aE oC<|aE N4<|aH O oS (bC _ _ _ _) (bz jo O O O)<|fun w50 rY=>V (bJ O)<|mB rfl<|aa<|bW O (fun h54=> ?_) (fun h54=> ?_)
     .refine au<|va (v:=B false) rfl<|aa<|au<|aE oC<|V (ax O O J)<|aI rfl<|aa<| ?_
      refine⟨v+1,aW,I7.u4.u4.u4.u4.u4.u4.u1,rY,(aK B Cl),(aK I aM),J,J⟩
     refine an<|au<|aE oC<|V (ax O O J)<|aI rfl<|aa<| ?_
     refine⟨v+1,aW,I7.u4.u4.u4.u4.u4.u4,rY,(jV G3 (aK B Cl)),(aK I aM),J,J⟩
    refine aE (v:=B false) rfl<|aa<|cQ rfl<|an<|au<|aE oC<|V (ax O O J)<|aI rfl<|aa<| ?_
    refine⟨v+1,aW,I7.u4.u4.u4.u4.u4.u4,oS,(jV G3 (aK B Cl)),(aK I aM),J,J⟩
   refine aE (v:=B false) rfl<|mB rfl<|cC O rfl<|aE (v:=B false) rfl<|aa<|cQ rfl<|an<|au<|aE oC<|V (ax O O J)<|aI rfl<|aa<| ?_
   refine⟨v+1,aW,I7.u4.u4.u4.u4.u4.u4,mj,(jV G3 (aK B Cl)),(aK I aM),J,J⟩
  refine a7 (id:=2) rfl<|SR<|aE G3<|aa<|bW O (fun h55=> ?_) (fun h55=> ?_)
  .refine SR<|aE N4<|aI rfl<|va (v:=B true) rfl<|aa<|aj<| ?_
   (refine kr O (aK I ?_) (aK B ?_) kD.below<;>rw[UA u0 aQ (show v=pts r by omega) aQ hg])
  refine an<|au<|aE N4<|V (ax O O J)<|aI rfl<|aa<| ?_
  refine⟨u+1,aW,(((CZ.u4.u4.u4.u4).t I7 O)).u4.u4,kD,(aK I aM),J,J,?_⟩
  exact fun x a b=>if e:x=u then e▸(by rw[Ip r i j u (show v=pts r by omega)];assumption)else hg x a J
 refine a7 (id:=0) rfl<|SR<|va (v:=I 0) rfl<|va (v:=B false) rfl<|aa<|aj<| ?_
 (refine kr O (aK I ?_) (aK B ?_) jN.below<;>rw[amd aQ hg])
theorem yp(r:Rl)(w:World):Calls Tryz.prog 151 #[.agg (dS r)] w (Pure (B (th r)) w):=by
 have hp:=dA r
 refine eH func151 rfl rfl fun hH=>SR<|gM hH (v:= .agg _) rfl<|fun b3 w1 bp=>va (v:=B false) rfl<|aa<|ai<|SR<|V (fA bS 0 O aO O)<|lV bx bp 0 O O (fw _)<|V (aN O O)<|mB rfl<|bM 12 O (fun h5=> ?_) (fun h5=> ?_)
 .refine aE (v:=B true) rfl<|mB rfl<|cC O rfl<|aE (v:=B true) rfl<|aa<|cA rfl<|SR<|va (v:=B false) rfl<|aa<|aj<|oB O ?_ bp
  exact(KD J).symm
 refine V (fA bS 0 O aO O)<|lV bx bp 0 O O (fw _)<|V (dN O O)<|mB rfl<|mB rfl<|bM 17 O (fun h7=> ?_) (fun h7=> ?_)
 .refine aE (v:=B true) rfl<|aa<|cA rfl<|SR<|va (v:=B false) rfl<|aa<|aj<|oB O ?_ bp
  exact(KD J).symm
 refine V (aR bS O O O (bp.blk (i:=0) O))<|aH O bp (AE _ _) (ay call148 O)<|fun w8 iE=>V (bJ O)<|mB rfl<|aa<|bW O (fun h12=> ?_) (fun h12=> ?_)
 .refine SR<|va (v:=B false) rfl<|aa<|aj<|oB O ?_ iE
  exact(aa8 (nt aQ)).symm
 refine an<|ai<|SR<|va (v:=I 0) rfl<|aa<|aA<|have hn:1<=r.n/\r.n<=64:=J;have ho:gq r=true:=nf aQ;bt (G:=Int) (fun i s' w'=>(Fr (rg 2 7 (rg 22 31 [])) _ s')/\(Hp w w' _)/\(s' 3=I i)/\(0<=i)/\(i<=r.n)/\(∀a b:Int,0<=b->b<a->a<i->uH r a b=true)) (fun i=>(r.n-i).toNat) (0) ⟨Fr.refl _ _,iE,rfl,J,J,fun a b x y z=>absurd z J⟩<| ?_
 rintro i aac C0 ⟨rX,bX,xw,i0,i1,hg⟩
 have G1:=rX.w1 1
 refine ai<|SR<|aE xw<|V (fA bS 0 O aO G1)<|lV bx bX 0 O O (fw _)<|V (aN O O)<|aa<|aF O (fun D6=> ?_) (fun D6=> ?_)
 .refine an<|ai<|aA<|SR<|va (v:=I 0) rfl<|aa<|aA<|bt (G:=Int) (fun j s' w'=>(Fr (2::(rg 4 5 (rg 28 25 []))) _ s')/\(Hp w w' _)/\(s' 4=I j)/\(0<=j)/\(j<=i)/\(∀b:Int,0<=b->b<j->uH r i b=true)) (fun j=>(i-j).toNat) (0) ⟨Fr.refl _ _,bX,rfl,J,J,fun b x y=>absurd y J⟩<| ?_
  rintro j aae I4 ⟨nR,cI,EE,j0,j1,hh⟩
  obtain⟨xx,oz⟩:=nR.t2 1 G1 3 xw
  refine ai<|SR<|aE EE<|aE oz<|V (aN O O)<|aa<|aF O (fun qk=> ?_) (fun qk=> ?_)
  .refine an<|ai<|aA<|SR<|V (aR bS O O xx (cI.blk (i:=0) O))<|aE oz<|aE EE<|aH O cI (sj _ _ _ _) (bz call121 O O O)<|fun Tj cT=> ?_
   refine V (run_move bA) ?_
   refine V (bk O (v:=I _) O)<|V (bk O (v:=B _) O)<|aI rfl<|aB rfl<|aa<|SR<|V (aR bS O O xx (cT.blk (i:=0) O))<|aE oz<|aE EE<|aH O cT (BK _ _ _ _) (bz call184 O O O)<|fun QJ eM=> ?_
   refine V (run_move bA) ?_
   refine V (bk O (v:=I _) O)<|V (bk O (v:=B _) O)<|aI rfl<|aB rfl<|aa<|SR<|mB rfl<|V (bJ O)<|mB rfl<|eF 49 O (fun Wp=> ?_) (fun Wp=> ?_)
   .refine aE (v:=B true) rfl<|aa<|cA rfl<|SR<|va (v:=B false) rfl<|aa<|aj<|oB O ?_ eM
    exact(KE ‹i<r.n› j0 ‹j<i› afL).symm
   refine mB rfl<|V (bJ O)<|mB rfl<|aa<|bW O (fun Wt=> ?_) (fun Wt=> ?_)
   .refine SR<|va (v:=B false) rfl<|aa<|aj<|oB O ?_ eM
    exact(KE ‹i<r.n› j0 ‹j<i› afH).symm
   refine an<|au<|aE EE<|V (ax O O J)<|aI rfl<|aa<| ?_
   refine⟨j+1,aW,nR.u4.u4.u4.u4.u4.u4.u4.u1.u1,eM,(aK I aM),J,J,?_⟩
   exact fun b x y=>if e:b=j then e▸(by rw[uH,cL];exact⟨nf ‹(!(jh r i j).2)=false›,nf ‹(!(q7 r i j).2)=false›⟩)else hh b x J
  refine a7 (id:=2) rfl<|au<|aE oz<|V (ax O O J)<|aI rfl<|aa<| ?_
  refine⟨i+1,aW,(((rX.u4.u1).t nR O)).u4.u1.u1,cI,(aK I aM),J,J,?_⟩
  exact fun a b x y z=>if e:a=i then e▸hh b x (by omega)else hg a b x y J
 refine a7 (id:=0) rfl<|SR<|va (v:=B true) rfl<|aa<|aj<|oB O ?_ bX
 exact(aa9 hn ho aQ hg).symm
theorem nS(r:Rl)(i:Int)(w:World):Calls Tryz.prog 117 #[.agg (dS r),I i] w (Pure (U (bQ r i)) w):=by
 have hp:=dA r
 refine eH func117 rfl rfl fun hH=>SR<|gM hH (v:= .agg _) rfl<|fun b3 w1 bp=>va (v:=U 0#64) rfl<|aa<|SR<|va (v:= .slice none 0 0) rfl<|have iw:=bp.eR 3 1;aa<|ai<|SR<|va (v:=I 0) rfl<|aa<|aA<|bt (G:=Int×(List Int)×Value) (fun⟨k,l,v5⟩ s' w'=>(Fr (rg 5 16 []) _ s')/\(Hp w w' (.row v5 3 1 (l.length) (l.map I)::_))/\(s' 5=v5)/\(s' 6=I k)/\(0<=k)/\(k<=pts r)/\(l=ru r i k)) (fun⟨k,l,v5⟩=>(pts r-k).toNat) ((0,[],(.slice none 0 0:Value))) ⟨Fr.refl _ _,iw,rfl,rfl,J,J,rfl⟩<| ?_
 rintro⟨k,l,v5⟩ sg5 w5 ⟨T6,bY,aex,Ww,k0,k1,hl⟩
 obtain⟨Te,aah⟩:=T6.w2 1 2
 refine ai<|SR<|aE Ww<|V (aR bS O O aah (bY.blk (i:=1) O))<|aH O bY (bN _ _) (ay nO O)<|fun w6 eC=>V (aN O O)<|aa<|aF O (fun h9=> ?_) (fun h9=> ?_)
 .refine an<|ai<|aA<|SR<|V (aR bS O O aah (eC.blk (i:=1) O))<|aE Ww<|aE Te<|aH O eC (bC _ _ _ _) (bz jo O O O)<|fun EB df=>aa<|bW O (fun Th=> ?_) (fun Th=> ?_)
  .refine au<|aE aex<|aE Ww<|tQ 1 1 df (cB bD O O (sz:=1) (vs:=[I _]) O O az az O O)<|fun b16 QH gS=> ?_
   (try simp only[lf]at gS)
   refine gf O gS (i:=1) O (gS.dR (i:=0) (n:=1) (sz:=1) O O az) O O bD O O (size:=1) (bytes:=8) O O O az gX (by have:= @PD r i k;rw[<-hl]at this;omega) (by have:= @PD r i k;rw[<-hl]at this;simp only[maxLen];omega)<|fun v17 K0 iD=> ?_
   refine V (run_assign bA) ?_
   refine aa<|au<|aE Ww<|V (ax O O J)<|aI rfl<|aa<| ?_
   refine⟨(k+1,l++[k],v17),aW,T6.u4.u4.u4.u4,(Hp.conv (iD.sub (sQ sR)) aJ),rfl,(aK I aM),J,J,?_⟩
   (rw[hl];exact adp k0 aQ)
  refine an<|au<|aE Ww<|V (ax O O J)<|aI rfl<|aa<| ?_
  refine⟨(k+1,l,v5),aW,T6.u4.u4.u1.u1.u1,(Hp.conv df aM),aex,(aK I aM),J,J,?_⟩
  (rw[hl];exact agJ k0 aQ)
 refine a7 (id:=0) rfl<|SR<|aE aex<|aH O eC (fO _ _ _ (eC.sl (i:=0) O)) (ay Cg O)<|fun ZZ fI=>aU rfl<|aa<|aj<|oU O ?_ fI
 (rw[hl];exact adq J)
theorem mP(r:Rl)(s:BitVec 64)(w:World):Calls Tryz.prog 120 #[.agg (dS r),U s] w (Pure (.tuple #[I (eY r s).1,B (eY r s).2]) w):=by
 have hp:=dA r
 refine eH func120 rfl rfl fun hH=>SR<|gM hH (v:= .agg _) rfl<|fun b3 w1 bp=>va (v:=I 0) rfl<|va (v:=B false) rfl<|aa<|ai<|SR<|va (v:=I 0) rfl<|aa<|aA<|bt (G:=Int) (fun k s' w'=>(Fr (rg 4 15 []) _ s')/\(Hp w w' _)/\(s' 6=I k)/\(0<=k)/\(k<=pts r)/\(∀j:Int,0<=j->j<k->bQ r j≠s)) (fun k=>(pts r-k).toNat) (0) ⟨Fr.refl _ _,bp,rfl,J,J,fun j x y=>absurd y J⟩<| ?_
 rintro k sg4 w4 ⟨CZ,iw,FJ,h0,hk,hg⟩
 obtain⟨Ax,Kf⟩:=CZ.w2 1 2
 refine ai<|SR<|aE FJ<|V (aR bS O O Kf (iw.blk (i:=0) O))<|aH O iw (bN _ _) (ay nO O)<|fun w5 jN=>V (aN O O)<|aa<|aF O (fun h8=> ?_) (fun h8=> ?_)
 .refine an<|ai<|aA<|SR<|V (aR bS O O Kf (jN.blk (i:=0) O))<|aE FJ<|aH O jN (nS _ _ _) (aL call117 O O)<|fun w9 cg=>aE Ax<|V (jO O O)<|aa<|aF O (fun h12=> ?_) (fun h12=> ?_)
  .refine SR<|aE FJ<|aI rfl<|va (v:=B true) rfl<|aa<|aj<| ?_
   refine kr O (aK I ?_) (aK B ?_) cg.below<;>rw[DE h0 aQ aQ hg]
  refine an<|au<|aE FJ<|V (ax O O J)<|aI rfl<|aa<| ?_
  refine⟨k+1,aW,CZ.u4.u4.u4,cg,(aK I aM),J,J,?_⟩
  exact fun j x y=>if e:j=k then e▸‹¬bQ r k=s›else hg j x J
 refine a7 (id:=0) rfl<|SR<|va (v:=I 0) rfl<|va (v:=B false) rfl<|aa<|aj<| ?_
 refine kr O (aK I ?_) (aK B ?_) jN.below<;>rw[Gj aQ hg]
theorem AH(r:Rl)(a b:BitVec 64)(w:World):Calls Tryz.prog 83 #[.agg (dS r),U a,U b] w (Pure (U (js r a b)) w):=by
 refine eH func83 rfl rfl fun hH=>SR<|gM hH (v:= .agg _) rfl<|fun b3 w1 bp=>va (v:=U 0#64) rfl<|aa<|SR<|V (aR bS O O O (bp.blk (i:=0) O))<|mU rfl<|aH O bp (mP _ _ _) (aL call120 O O)<|fun w4 bY=> ?_
 refine V (run_move bA) ?_
 refine V (bk O (v:=I _) O)<|V (bk O (v:=B _) O)<|aI rfl<|aB rfl<|aa<|SR<|V (aR bS O O O (bY.blk (i:=0) O))<|mU rfl<|aH O bY (mP _ _ _) (aL call120 O O)<|fun w7 eX=> ?_
 refine V (run_move bA) ?_
 refine V (bk O (v:=I _) O)<|V (bk O (v:=B _) O)<|aI rfl<|aB rfl<|aa<|SR<|V (aR bS O O O (eX.blk (i:=0) O))<|mI rfl<|mI rfl<|aH O eX (sj _ _ _ _) (bz call121 O O O)<|fun EB df=> ?_
 refine V (run_move bA) ?_
 refine V (bk O (v:=I _) O)<|V (bk O (v:=B _) O)<|aI rfl<|aB rfl<|aa<|ai<|SR<|mB rfl<|mB rfl<|eF 33 O (fun Th=> ?_) (fun Th=> ?_)
 .refine mB rfl<|mB rfl<|mB rfl<|eF 36 O (fun F4=> ?_) (fun F4=> ?_)
  .refine mB rfl<|mB rfl<|aa<|bW O (fun D6=> ?_) (fun D6=> ?_)
   .refine SR<|V (aR bS O O O (df.blk (i:=0) O))<|mI rfl<|aH O df (nS _ _ _) (aL call117 O O)<|fun I4 ep=>aU rfl<|aa<|aj<|oU O ?_ ep
    rw[Iq aQ aQ aQ]
   refine an<|SR<|mU rfl<|mU rfl<|V (iH O O)<|aU rfl<|aa<|aj<|oU O ?_ df
   rw[PC aQ]
  refine aE (v:=B false) rfl<|aa<|cQ rfl<|an<|SR<|mU rfl<|mU rfl<|V (iH O O)<|aU rfl<|aa<|aj<|oU O ?_ df
  rw[It aQ]
 refine aE (v:=B false) rfl<|mB rfl<|cC O rfl<|aE (v:=B false) rfl<|aa<|cQ rfl<|an<|SR<|mU rfl<|mU rfl<|V (iH O O)<|aU rfl<|aa<|aj<|oU O ?_ df
 rw[Ir aQ]
theorem C3(r:Rl)(t:Bool)(w:World):Calls Tryz.prog 116 #[.agg (dS r),B t] w (Pure (.tuple #[I (wI r (if t=true then bQ r else gx r)).1,B (wI r (if t=true then bQ r else gx r)).2]) w):=by
 have hp:=dA r
 refine eH func116 rfl rfl fun hH=>SR<|gM hH (v:= .agg _) rfl<|fun b4 w2 tY=>va (v:=I 0) rfl<|va (v:=B false) rfl<|aa<|ai<|SR<|va (v:=I 0) rfl<|aa<|aA<|bt (G:=Int) (fun i s' w'=>(Fr (rg 4 38 []) _ s')/\(Hp w w' _)/\(s' 6=I i)/\(0<=i)/\(i<=pts r)/\(∀x:Int,0<=x->x<i->Fj r t x (pts r)=false)) (fun i=>(pts r-i).toNat) (0) ⟨Fr.refl _ _,tY,rfl,J,J,fun x a b=>absurd b J⟩<| ?_
 rintro i sg5 w5 ⟨T6,bY,Ww,i0,i1,hg⟩
 obtain⟨Te,aah⟩:=T6.w2 1 2
 refine ai<|SR<|aE Ww<|V (aR bS O O aah (bY.blk (i:=0) O))<|aH O bY (bN _ _) (ay nO O)<|fun w6 eC=>V (aN O O)<|aa<|aF O (fun h9=> ?_) (fun h9=> ?_)
 .refine an<|ai<|aA<|SR<|va (v:=B true) rfl<|aa<|ai<|SR<|va (v:=I 0) rfl<|aa<|aA<|bt (G:=Int) (fun k s' w'=>(Fr (7::8::(rg 15 25 [])) _ s')/\(Hp w w' _)/\(s' 7=B (Fj r t i k))/\(s' 8=I k)/\(0<=k)/\(k<=pts r)) (fun k=>(pts r-k).toNat) (0) ⟨Fr.refl _ _,eC,(aK B (by simp[Fj,upto])),rfl,J,J⟩<| ?_
  rintro k Wx EB ⟨nT,cg,Wy,y9,k0,k1⟩
  obtain⟨N5,xz,ww⟩:=nT.t3 1 Te 2 aah 6 Ww
  refine ai<|SR<|aE y9<|V (aR bS O O xz (cg.blk (i:=0) O))<|aH O cg (bN _ _) (ay nO O)<|fun y8 bX=>V (aN O O)<|aa<|aF O (fun D6=> ?_) (fun D6=> ?_)
  .refine an<|ai<|aA<|SR<|aE N5<|V (bJ O)<|mB rfl<|eF 23 O (fun G5=> ?_) (fun G5=> ?_)
   .refine V (aR bS O O xz (bX.blk (i:=0) O))<|aE ww<|aE y9<|aH O bX (bC _ _ _ _) (bz jo O O O)<|fun K0 iD=>V (bJ O)<|mB rfl<|mB rfl<|eF 30 O (fun h22=> ?_) (fun h22=> ?_)
    .refine gm O O rfl<|gm O O rfl<|gm O O rfl<|gm O O rfl<|gm O O rfl<|zO<|aE (v:=B true) rfl<|aa<|cA rfl<|au<|va (v:=B false) rfl<|aa<|au<|aE y9<|V (ax O O J)<|aI rfl<|aa<| ?_
     refine⟨k+1,aW,nT.u4.u4.u4.u4.u4.u4.u1.u1.u1,iD,(aK B E7),(aK I aM),J,J⟩
    refine aE N5<|mB rfl<|eF 32 O (fun FK=> ?_) (fun FK=> ?_)
    .refine V (aR bS O O xz (iD.blk (i:=0) O))<|aE y9<|aE ww<|aH O iD (bC _ _ _ _) (bz jo O O O)<|fun w24 n9=>V (bJ O)<|mB rfl<|mB rfl<|aa<|bW O (fun Wt=> ?_) (fun Wt=> ?_)
     .refine au<|va (v:=B false) rfl<|aa<|au<|aE y9<|V (ax O O J)<|aI rfl<|aa<| ?_
      refine⟨k+1,aW,nT.u4.u4.u4.u4.u4.u4.u1.u1.u1,n9,(aK B E7),(aK I aM),J,J⟩
     refine an<|au<|aE y9<|V (ax O O J)<|aI rfl<|aa<| ?_
     refine⟨k+1,aW,nT.u4.u4.u4.u4.u4.u4.u1.u1,n9,(jV Wy (aK B E7)),(aK I aM),J,J⟩
    refine aE (v:=B false) rfl<|mB rfl<|aa<|cQ rfl<|an<|au<|aE y9<|V (ax O O J)<|aI rfl<|aa<| ?_
    refine⟨k+1,aW,nT.u4.u4.u4.u4.u4.u4.u1.u1,iD,(jV Wy (aK B E7)),(aK I aM),J,J⟩
   refine aE (v:=B false) rfl<|mB rfl<|cC O rfl<|aE N5<|mB rfl<|eF 32 O (fun rK=> ?_) (fun rK=> ?_)
   .refine V (aR bS O O xz (bX.blk (i:=0) O))<|aE y9<|aE ww<|aH O bX (bC _ _ _ _) (bz jo O O O)<|fun w30 gT=>V (bJ O)<|mB rfl<|mB rfl<|aa<|bW O (fun h34=> ?_) (fun h34=> ?_)
    .refine au<|va (v:=B false) rfl<|aa<|au<|aE y9<|V (ax O O J)<|aI rfl<|aa<| ?_
     refine⟨k+1,aW,nT.u4.u4.u4.u4.u4.u4.u1.u1.u1,gT,(aK B E7),(aK I aM),J,J⟩
    refine an<|au<|aE y9<|V (ax O O J)<|aI rfl<|aa<| ?_
    refine⟨k+1,aW,nT.u4.u4.u4.u4.u4.u4.u1.u1,gT,(jV Wy (aK B E7)),(aK I aM),J,J⟩
   refine aE (v:=B false) rfl<|mB rfl<|aa<|cQ rfl<|an<|au<|aE y9<|V (ax O O J)<|aI rfl<|aa<| ?_
   refine⟨k+1,aW,nT.u4.u4.u4.u4.u4.u4.u1.u1,bX,(jV Wy (aK B E7)),(aK I aM),J,J⟩
  refine a7 (id:=2) rfl<|SR<|aE Wy<|aa<|bW O (fun BI=> ?_) (fun BI=> ?_)
  .refine SR<|aE ww<|aI rfl<|va (v:=B true) rfl<|aa<|aj<| ?_
   (refine kr O (aK I ?_) (aK B ?_) bX.below<;>rw[agK i0 aQ (show k=pts r by omega) aQ hg])
  refine an<|au<|aE ww<|V (ax O O J)<|aI rfl<|aa<| ?_
  refine⟨i+1,aW,(((T6.u4.u1.u1).t nT O)).u4.u4,bX,(aK I aM),J,J,?_⟩
  exact fun x a b=>if e:x=i then e▸(by rw[<-show k=pts r by omega];assumption)else hg x a J
 refine a7 (id:=0) rfl<|SR<|va (v:=I 0) rfl<|va (v:=B false) rfl<|aa<|aj<| ?_
 (refine kr O (aK I ?_) (aK B ?_) eC.below<;>rw[agL aQ hg])
theorem AI(r:Rl)(w:World):Calls Tryz.prog 137 #[.agg (dS r)] w (Pure (B (cV r)) w):=by
 refine eH func137 rfl rfl fun hH=>SR<|gM hH (v:= .agg _) rfl<|fun b3 w1 bp=>va (v:=B false) rfl<|aa<|SR<|V (fA bS 0 O aO O)<|lV bx bp 0 O O (fw _)<|V (dF O O)<|mB rfl<|bM 6 O (fun h5=> ?_) (fun h5=> ?_)
 .refine V (fA bS 0 O aO O)<|lV bx bp 0 O O (fw _)<|V (wY O O)<|mB rfl<|mB rfl<|bM 11 O (fun h7=> ?_) (fun h7=> ?_)
  .refine V (aR bS O O O (bp.blk (i:=0) O))<|aH O bp (Bm _ _) (ay call166 O)<|fun w8 iE=>mB rfl<|aB rfl<|aa<|aj<|oB O ?_ iE
   rw[cV,gW (show 1<=r.n/\r.n<=8 by omega),mG]
  refine aE (v:=B false) rfl<|aB rfl<|aa<|aj<|oB O ?_ bp
  rw[cV,gZ (show¬(1<=r.n/\r.n<=8)by omega),qV]
 refine aE (v:=B false) rfl<|mB rfl<|cC O rfl<|aE (v:=B false) rfl<|aB rfl<|aa<|aj<|oB O ?_ bp
 rw[cV,gZ (show¬(1<=r.n/\r.n<=8)by omega),qV]
theorem aai(r:Rl)(s:BitVec 64)(o:Int)(ho:0<=o/\o<8)(w:World):Calls Tryz.prog 241 #[.agg (dS r),U s,I o] w (Pure (U (Jx r s o)) w):=by
 refine eH func241 rfl rfl fun hH=>SR<|gM hH (v:= .agg _) rfl<|fun b3 w1 bp=>va (v:=U 0#64) rfl<|aa<|SR<|mU rfl<|mI rfl<|V (zM O O J)<|V (kq bx Cb O)<|V (Ga O O)<|V (fA bS 0 O aO O)<|lV bx bp 0 O O (fw _)<|aH O bp (oQ _ _) (ay HN O)<|fun w4 bY=>V (lY O O)<|aU rfl<|aa<|aj<|oU O ?_ bY
 rfl
theorem Wz(r:Rl)(f:FuncId)(cs:List Value)(ff:Int->BitVec 64)(hn:1<=r.n/\r.n<=8)(w:World)(hf:∀args w,(callFunc f args).run Tryz.prog w= .ok (.enter f args) w)(go:∀i w',Below w.heap.size w w'->0<=i->i<r.n->Calls Tryz.prog f (I i::cs).toArray w' (Pure (U (ff i)) w')):Calls Tryz.prog 239 #[.agg (dS r),.func (.func f) #[] cs.toArray] w (Pure (U (xe ff r.n)) w):=by
 refine eH func239 rfl rfl fun hH=>SR<|gM hH (v:= .agg _) rfl<|fun b3 w1 bp=>va (v:=U 0#64) rfl<|aa<|SR<|va (v:=U 0#64) rfl<|aa<|ai<|SR<|V (fA bS 0 O aO O)<|lV bx bp 0 O O (fw _)<|aE (v:=I 0) rfl<|aa<|aA<|bt (G:=Int) (fun k s' w'=>(Fr (5::6::(rg 9 13 [])) _ s')/\(Hp w w' _)/\(s' 5=U (xe ff k))/\(s' 9=I k)/\(0<=k)/\(k<=r.n)) (fun k=>(r.n-k).toNat) (0) ⟨Fr.refl _ _,bp,rfl,rfl,J,J⟩<| ?_
 rintro k sg4 w4 ⟨CZ,iw,GZ,aeG,h0,hk⟩
 have Ax:=CZ.vv 1 (a:= .func _ _ _) rfl rfl
 have I5:=CZ.w1 8
 refine SR<|V (aN aeG I5)<|aa<|ai<|aF O (fun h6=> ?_) (fun h6=> ?_)
 .refine an<|ai<|aA<|SR<|aE aeG<|aI rfl<|aa<|au<|aE GZ<|aE Ax<|mI rfl<|aH O iw (go _ _ iw.below J J) (lB hf (cs:=cs) O O)<|fun w7 eX=>mI rfl<|V (zM O O J)<|V (kq bx Cb O)<|V (F9 O O)<|V (iH O O)<|aU rfl<|aa<|au<|V (ax aeG O J)<|mI rfl<|aa<| ?_
  refine⟨k+1,aW,CZ.u4.u4.u4.u1.u1.u1,eX,(aK U (Iv h0)),(aK I aM),J,J⟩
 refine a7 (id:=0) rfl<|SR<|aE GZ<|aU rfl<|aa<|aj<|oU O ?_ iw
 (rw[show k=r.n by omega])
theorem N6(b c:Nat)(r:Rl)(s:BitVec 64)(o:Int)(hr:cV r=true)(w:World)(hb:w.heap[b]?=some (.cells (dS r) 86 (0,0)))(hc:w.heap[c]?=some (.cells #[U s] 35 (0,0)))(hT:o3 w):Calls Tryz.prog 240 #[I o,.pointer (some ⟨b,0,none⟩),.pointer (some ⟨c,0,none⟩)] w (Pure (U (Iw r s o)) w):=by
 have hl:=Gd (upR r (kT [o]))
 refine eH func240 rfl rfl fun hH=>SR<|va (v:=U 0#64) rfl<|aa<|SR<|va (v:=U 0#64) rfl<|aa<|ai<|ai<|ec aP hH<|fun w1 bp=>have kS:=bp;AT 0 O kS (fun w hS=>aR bS O O O (hS.ext hb))<|AQ 1 O kS (mV (I _) O)<|AQ 7 O kS (mV (I 0) O)<|A1 2<|cH O aD O bp sR (f:=fun b=> .slice (some ⟨b,0,none⟩) 1 1) (cB bD O O (sz:=1) (vs:=[I _]) O O az az O O)<|fun b5 w3 iw=> ?_
 (try simp only[lf]at iw)
 have jN:=iw.sE 1 1 O az
 refine A1 3<|ct O aD O jN (sQ sR) (yY _ [o] _ (jN.sl (i:=0) O)) (ay call203 O)<|fun w7 eX=>A1 4<|ct O aD O eX (sQ sR) (C2 _ _ _ (hT.hp eX)) (aL call209 O O)<|fun w9 cg=>A1 5<|LQ O aD O cg (sQ sR) (C1 _ _ (hT.hp cg)) (ay call233 O)<|fun v13 I2 cN=>A1 6<|cf O aD O cN (sQ (sQ sR)) (aC (cN.sl (i:=0) O) O bD O)<|AD<|aA<|bt (G:=Int) (fun k s' w'=>(Fr (5::(7::(rg 15 13 []))) _ s')/\(Hp w w' _)/\(s' 5=U (wZ (fun p=>Ek r (Jx r s p)) ((gK (upR r (kT [o]))).take k.toNat)))/\(s' 15=I k)/\(0<=k)/\(k<=(gK (upR r (kT [o]))).length)) (fun k=>((gK (upR r (kT [o]))).length-k).toNat) (0) ⟨Fr.refl _ _,cN,(aK U (by simp[wZ])),rfl,J,J⟩<| ?_
 rintro k aae I4 ⟨nR,cI,za,aaj,h0,hk⟩
 obtain⟨xx,Wu,ate,atf⟩:=nR.w4 1 2 13 14
 refine SR<|V (aN aaj atf)<|aa<|ai<|aF O (fun qk=> ?_) (fun qk=> ?_)
 .refine an<|ai<|aA<|SR<|V (ah (cI.sl (i:=0) O) bD aO ate aaj J)<|V (aG bx O O ((cI.sl (i:=0) O).cell _ _ (eS J)))<|aI rfl<|aa<|ec aP cI<|fun Tj cT=>have rL:=cT;AQ 0 O rL (run_move za)<|AT 1 O rL (fun w hS=>aR bS O O xx (hS.ext hb))<|AT 2 O rL (fun w hS=>aR bS O O xx (hS.ext hb))<|AT 3 O rL (fun w hS=>aG dM O Wu (hS.eP hc (v:=U _) O))<|AQ 4 O rL (mV (I _) O)<|A1 5<|ct O aD O cT sR (aai _ _ _ (agQ hr (YH h0 aQ)) _) (bz call241 O O O)<|fun NL cD=>A1 6<|ct O aD O cD sR (yl _ _ _) (aL call211 O O)<|fun w23 gY=>AQ 7 O gY (iH O O)<|AQ 8 O gY (aV (U _) O)<|AD<|au<|V (ax aaj O J)<|mI rfl<|aa<| ?_
  refine⟨k+1,aW,nR.u4.u4.u4.u1.u1.u1,gY,(aK U (L4 (f:=fun p=>Ek r (Jx r s p)) h0 aQ)),(aK I aM),J,J⟩
 refine a7 (id:=0) rfl<|SR<|aE za<|aU rfl<|aa<|aj<|oU O ?_ cI
 (rw[LY aQ];rfl)
theorem Tl(r:Rl)(s:BitVec 64)(w:World)(hT:o3 w):Calls Tryz.prog 213 #[.agg (dS r),U s] w (Pure (U (gh r s)) w):=by
 refine eH func213 rfl rfl fun hH=>SR<|gM hH (v:= .agg _) rfl<|fun b3 w1 bp=>gM bp (v:=U _) rfl<|fun b6 w4 bY=>va (v:=U 0#64) rfl<|aa<|ai<|SR<|V (aR bS O O O (bY.blk (i:=1) O))<|aH O bY (AI _ _) (ay call137 O)<|fun w7 eX=>V (bJ O)<|aa<|bW O (fun h11=> ?_) (fun h11=> ?_)
 .refine SR<|va (v:=U 0#64) rfl<|aa<|aj<|oU O ?_ eX
  exact(UG (nt aQ)).symm
 refine an<|SR<|V (aR bS O O O (eX.blk (i:=1) O))<| ?_
 refine V (s5 bA bA) ?_
 refine aH O eX (Wz r 240 [.pointer (some ⟨b3,0,none⟩),.pointer (some ⟨b6,0,none⟩)] (Iw r s) (eZ (nf ‹(!cV r)=false›)).1 _ call240 (fun i w h _ _=>N6 b3 b6 r s i (nf ‹(!cV r)=false›) w (keep h (eX.blk (i:=1) O)) (keep h (eX.blk (i:=0) O)) ((hT.hp eX).below h))) (aL call239 O O)<|fun y8 bX=>aU rfl<|aa<|aj<|oU O ?_ bX
 exact adt (nf aQ)
theorem Pe(r:Rl)(s:BitVec 64)(w:World)(hT:o3 w):Calls Tryz.prog 180 #[.agg (dS r),U s] w (Pure (B (pZ r s)) w):=by
 refine eH func180 rfl rfl fun hH=>SR<|gM hH (v:= .agg _) rfl<|fun b3 w1 bp=>va (v:=B false) rfl<|aa<|SR<|V (aR bS O O O (bp.blk (i:=0) O))<|aH O bp (AI _ _) (ay call137 O)<|fun w4 bY=>mB rfl<|eF 7 O (fun h7=> ?_) (fun h7=> ?_)
 .refine V (aR bS O O O (bY.blk (i:=0) O))<|mU rfl<|aH O bY (Tl _ _ _ (hT.hp bY)) (aL call213 O O)<|fun w8 iE=>mU rfl<|V (jO O O)<|mB rfl<|aB rfl<|aa<|aj<|oB O ?_ iE
  (rw[pZ,‹cV r=true›];rfl)
 refine aE (v:=B false) rfl<|aB rfl<|aa<|aj<|oB O ?_ bY
 (rw[pZ,‹cV r=false›];rfl)
theorem mQ(r:Rl)(w:World):Calls Tryz.prog 146 #[.agg (dS r)] w (Pure (B (cV r)) w):=by
 refine eH func146 rfl rfl fun hH=>SR<|gM hH (v:= .agg _) rfl<|fun b3 w1 bp=>va (v:=B false) rfl<|aa<|SR<|V (fA bS 0 O aO O)<|lV bx bp 0 O O (fw _)<|V (dF O O)<|mB rfl<|bM 6 O (fun h5=> ?_) (fun h5=> ?_)
 .refine V (fA bS 0 O aO O)<|lV bx bp 0 O O (fw _)<|V (wY O O)<|mB rfl<|mB rfl<|bM 11 O (fun h7=> ?_) (fun h7=> ?_)
  .refine V (aR bS O O O (bp.blk (i:=0) O))<|aH O bp (qD _ _) (ay call182 O)<|fun w8 iE=>mB rfl<|aB rfl<|aa<|aj<|oB O ?_ iE
   rw[cV,gW (show 1<=r.n/\r.n<=8 by omega),mG]
  refine aE (v:=B false) rfl<|aB rfl<|aa<|aj<|oB O ?_ bp
  rw[cV,gZ (show¬(1<=r.n/\r.n<=8)by omega),qV]
 refine aE (v:=B false) rfl<|mB rfl<|cC O rfl<|aE (v:=B false) rfl<|aB rfl<|aa<|aj<|oB O ?_ bp
 rw[cV,gZ (show¬(1<=r.n/\r.n<=8)by omega),qV]
theorem C4(r:Rl)(s:BitVec 64)(o x:Int)(hn:1<=r.n/\r.n<=8)(w:World):Calls Tryz.prog 216 #[.agg (dS r),U s,I o,I x] w (Pure (B (Gk r s o x)) w):=by
 refine eH func216 rfl rfl fun hH=>SR<|gM hH (v:= .agg _) rfl<|fun b3 w1 bp=>va (v:=B false) rfl<|aa<|SR<|mI rfl<|V (dF O O)<|mB rfl<|bM 11 O (fun h5=> ?_) (fun h5=> ?_)
 .refine mI rfl<|V (dF O O)<|mB rfl<|mB rfl<|bM 15 O (fun h7=> ?_) (fun h7=> ?_)
  .refine mI rfl<|V (fA bS 0 O aO O)<|lV bx bp 0 O O (fw _)<|V (aN O O)<|mB rfl<|mB rfl<|bM 21 O (fun h9=> ?_) (fun h9=> ?_)
   .refine mI rfl<|V (fA bS 0 O aO O)<|lV bx bp 0 O O (fw _)<|V (aN O O)<|mB rfl<|mB rfl<|bM 27 O (fun h11=> ?_) (fun h11=> ?_)
    .refine mU rfl<|mI rfl<|V (zM O O J)<|mI rfl<|V (ax O O J)<|aH O bp (tS _ _ _) (aL call102 O O)<|fun y8 bX=>mB rfl<|aB rfl<|aa<|aj<|oB O ?_ bX
     rw[Gk,gW J,mG]
    refine aE (v:=B false) rfl<|aB rfl<|aa<|aj<|oB O ?_ bp
    rw[Gk,gZ J,qV]
   refine aE (v:=B false) rfl<|mB rfl<|cC O rfl<|aE (v:=B false) rfl<|aB rfl<|aa<|aj<|oB O ?_ bp
   rw[Gk,gZ J,qV]
  refine aE (v:=B false) rfl<|mB rfl<|cC O rfl<|aE (v:=B false) rfl<|mB rfl<|cC O rfl<|aE (v:=B false) rfl<|aB rfl<|aa<|aj<|oB O ?_ bp
  rw[Gk,gZ J,qV]
 refine aE (v:=B false) rfl<|mB rfl<|cC O rfl<|aE (v:=B false) rfl<|mB rfl<|cC O rfl<|aE (v:=B false) rfl<|mB rfl<|cC O rfl<|aE (v:=B false) rfl<|aB rfl<|aa<|aj<|oB O ?_ bp
 rw[Gk,gZ J,qV]
theorem yq(r:Rl)(s:BitVec 64)(o x:Int)(hn:1<=r.n/\r.n<=8)(w:World):Calls Tryz.prog 186 #[.agg (dS r),U s,I o,I x] w (Pure (B (Sf r s o x)) w):=by
 refine eH func186 rfl rfl fun hH=>SR<|gM hH (v:= .agg _) rfl<|fun b3 w1 bp=>va (v:=B false) rfl<|aa<|ai<|SR<|va (v:=I 0) rfl<|aa<|aA<|bt (G:=Int) (fun p s' w'=>(Fr (rg 8 32 []) _ s')/\(Hp w w' _)/\(s' 9=I p)/\(0<=p)/\(p<=r.n)/\(∀q y:Int,0<=q->q<p->¬(Gk r s q y=true/\bK r o q=true/\bK r x y=true))) (fun p=>(r.n-p).toNat) (0) ⟨Fr.refl _ _,bp,rfl,J,J,fun q y a b=>absurd b J⟩<| ?_
 rintro p sg4 w4 ⟨CZ,iw,aeG,p0,p1,hf⟩
 obtain⟨Ax,Kf,yZ,Wl⟩:=CZ.w4 1 2 3 4
 refine ai<|SR<|aE aeG<|V (fA bS 0 O aO Wl)<|lV bx iw 0 O O (fw _)<|V (aN O O)<|aa<|aF O (fun h6=> ?_) (fun h6=> ?_)
 .refine an<|ai<|aA<|SR<|va (v:=I 0) rfl<|aa<|aA<|bt (G:=Int) (fun y s' w'=>(Fr (8::(10::(rg 17 23 []))) _ s')/\(Hp w w' _)/\(s' 10=I y)/\(0<=y)/\(y<=r.n)/\(∀z:Int,0<=z->z<y->¬(Gk r s p z=true/\bK r o p=true/\bK r x z=true))) (fun y=>(r.n-y).toNat) (0) ⟨Fr.refl _ _,iw,rfl,J,J,fun z a b=>absurd b J⟩<| ?_
  rintro y sg7 w7 ⟨D7,eC,QK,y0,y1,hg⟩
  obtain⟨aeH,ajR,WA,I8,Pf⟩:=D7.t5 1 Ax 2 Kf 3 yZ 4 Wl 9 aeG
  refine ai<|SR<|aE QK<|V (fA bS 0 O aO I8)<|lV bx eC 0 O O (fw _)<|V (aN O O)<|aa<|aF O (fun h9=> ?_) (fun h9=> ?_)
  .refine an<|ai<|aA<|SR<|V (aR bS O O I8 (eC.blk (i:=0) O))<|aE aeH<|aE Pf<|aE QK<|aH O eC (C4 _ _ _ _ lz _) (jE call216 O O O O)<|fun EB df=>mB rfl<|eF 28 O (fun Th=> ?_) (fun Th=> ?_)
   .refine V (aR bS O O I8 (df.blk (i:=0) O))<|aE ajR<|aE Pf<|aH O df (bC _ _ _ _) (bz jo O O O)<|fun QH gS=>mB rfl<|mB rfl<|eF 34 O (fun G5=> ?_) (fun G5=> ?_)
    .refine V (aR bS O O I8 (gS.blk (i:=0) O))<|aE WA<|aE QK<|aH O gS (bC _ _ _ _) (bz jo O O O)<|fun K0 iD=>mB rfl<|aa<|bW O (fun N2=> ?_) (fun N2=> ?_)
     .refine SR<|va (v:=B true) rfl<|aa<|aj<|oB O ?_ iD
      exact(KI.2 ⟨p,y,aQ,aQ,aQ⟩).symm
     refine an<|au<|aE QK<|V (ax O O J)<|aI rfl<|aa<| ?_
     refine⟨y+1,aW,D7.u4.u4.u4.u4.u4.u4,iD,(aK I aM),J,J,?_⟩
     exact fun z a b h=>if e:z=y then(by subst e;simp_all)else hg z a J h
    refine aE (v:=B false) rfl<|aa<|cQ rfl<|an<|au<|aE QK<|V (ax O O J)<|aI rfl<|aa<| ?_
    refine⟨y+1,aW,D7.u4.u4.u4.u4.u4.u4,gS,(aK I aM),J,J,?_⟩
    exact fun z a b h=>if e:z=y then(by subst e;simp_all)else hg z a J h
   refine aE (v:=B false) rfl<|mB rfl<|cC O rfl<|aE (v:=B false) rfl<|aa<|cQ rfl<|an<|au<|aE QK<|V (ax O O J)<|aI rfl<|aa<| ?_
   refine⟨y+1,aW,D7.u4.u4.u4.u4.u4.u4,df,(aK I aM),J,J,?_⟩
   exact fun z a b h=>if e:z=y then(by subst e;simp_all)else hg z a J h
  refine a7 (id:=2) rfl<|au<|aE Pf<|V (ax O O J)<|aI rfl<|aa<| ?_
  refine⟨p+1,aW,(((CZ.u4.u1).t D7 O)).u4.u1.u1.u1,eC,(aK I aM),J,J,?_⟩
  exact fun q y a b h=>if e:q=p then hg y (DF.1 h.1).1.2.1 (by have:=(DF.1 h.1).1;omega) (e▸h)else hf q y a J h
 refine a7 (id:=0) rfl<|SR<|va (v:=B false) rfl<|aa<|aj<|oB O ?_ iw
 exact(agM aQ hf).symm
theorem AJ(r:Rl)(s:BitVec 64)(w:World):Calls Tryz.prog 153 #[.agg (dS r),U s] w (Pure (U (gh r s)) w):=by
 refine eH func153 rfl rfl fun hH=>SR<|gM hH (v:= .agg _) rfl<|fun b3 w1 bp=>va (v:=U 0#64) rfl<|aa<|SR<|va (v:= .slice none 0 0) rfl<|have iw:=bp.eR 3 1;aa<|ai<|SR<|V (aR bS O O O (iw.blk (i:=1) O))<|aH O iw (mQ _ _) (ay call146 O)<|fun w5 jN=>V (bJ O)<|aa<|bW O (fun h9=> ?_) (fun h9=> ?_)
 .refine SR<|va (v:=U 0#64) rfl<|aa<|aj<|oU O ?_ jN
  exact(UG (nt aQ)).symm
 refine an<|ai<|SR<|va (v:=I 0) rfl<|aa<|aA<|have hr:cV r=true:=nf aQ;have hs:=eZ hr;bt (G:=Int×(List Int)×Value) (fun⟨o,l,v5⟩ s' w'=>(Fr (rg 5 3 (rg 11 24 [])) _ s')/\(Hp w w' (.row v5 3 1 (l.length) (l.map I)::_))/\(s' 5=v5)/\(s' 6=I o)/\(0<=o)/\(o<=r.n)/\(l=Cw r s o)) (fun⟨o,l,v5⟩=>(r.n-o).toNat) ((0,[],(.slice none 0 0:Value))) ⟨Fr.refl _ _,jN,rfl,rfl,J,J,rfl⟩<| ?_
 rintro⟨o,l,v5⟩ Wx EB ⟨nT,cg,N7,ww,o0,o1,hl⟩
 obtain⟨N5,xz,QL⟩:=nT.w3 1 2 4
 refine ai<|SR<|aE ww<|V (fA bS 0 O aO xz)<|lV bx cg 1 O O (fw _)<|V (aN O O)<|aa<|aF O (fun h12=> ?_) (fun h12=> ?_)
 .refine an<|ai<|aA<|SR<|va (v:=I 0) rfl<|aa<|aA<|bt (G:=Int×(List Int)×Value) (fun⟨x,l2,v5⟩ s' w'=>(Fr (5::(7::(rg 17 18 []))) _ s')/\(Hp w w' (.row v5 3 1 (l2.length) (l2.map I)::_))/\(s' 5=v5)/\(s' 7=I x)/\(0<=x)/\(x<=r.n)/\(l2=Cw r s o++Fl r s o x)) (fun⟨x,l2,v5⟩=>(r.n-x).toNat) ((0,l,(v5:Value))) ⟨Fr.refl _ _,cg,N7,rfl,J,J,(by rw[hl,Fl];simp[upto])⟩<| ?_
  rintro⟨x,l2,v5⟩ aac C0 ⟨rX,bX,EF,WB,x0,x1,h2⟩
  obtain⟨G1,acm,Bp⟩:=rX.t3 1 N5 2 xz 6 ww
  refine ai<|SR<|aE WB<|V (fA bS 0 O aO acm)<|lV bx bX 1 O O (fw _)<|V (aN O O)<|aa<|aF O (fun D6=> ?_) (fun D6=> ?_)
  .refine an<|ai<|aA<|SR<|V (aR bS O O acm (bX.blk (i:=1) O))<|aE G1<|aE Bp<|aE WB<|aH O bX (yq _ _ _ _ J _) (jE call186 O O O O)<|fun I4 ep=>aa<|bW O (fun NT=> ?_) (fun NT=> ?_)
   .refine au<|aE EF<|aE Bp<|V (zM O O J)<|aE WB<|V (ax O O J)<|tQ 1 1 ep (cB bD O O (sz:=1) (vs:=[I _]) O O az az O O)<|fun b22 ZZ fI=> ?_
    (try simp only[lf]at fI)
    refine gf O fI (i:=1) O (fI.dR (i:=0) (n:=1) (sz:=1) O O az) O O bD O O (size:=1) (bytes:=8) O O O az gX (by rw[h2];have:= @Ml r s o hs.1.2 J;have:= @Mj r s o x;simp;omega) (by rw[h2];have:= @Ml r s o hs.1.2 J;have:= @Mj r s o x;simp only[maxLen];simp;omega)<|fun v23 w24 n9=> ?_
    refine V (run_assign bA) ?_
    refine aa<|au<|aE WB<|V (ax O O J)<|aI rfl<|aa<| ?_
    refine⟨(x+1,l2++[8*o+x],v23),aW,rX.u4.u4.u4.u4.u4,(Hp.conv (n9.sub (sQ sR)) aJ),rfl,(aK I aM),J,J,?_⟩
    (rw[h2];(rw[dG,agN x0 aQ]))
   refine an<|au<|aE WB<|V (ax O O J)<|aI rfl<|aa<| ?_
   refine⟨(x+1,l2,v5),aW,rX.u4.u4.u4,(Hp.conv ep aM),EF,(aK I aM),J,J,?_⟩
   (rw[h2];(rw[ami x0 aQ]))
  refine a7 (id:=2) rfl<|au<|aE Bp<|V (ax O O J)<|aI rfl<|aa<| ?_
  refine⟨(o+1,l2,v5),aW,(((nT.u4.u1).t rX O)).u4.u1.u1.u1,(Hp.conv bX aM),EF,(aK I aM),J,J,?_⟩
  (rw[h2];exact UH o0 J)
 refine a7 (id:=0) rfl<|SR<|aE N7<|aH O cg (fO _ _ _ (cg.sl (i:=0) O)) (ay Cg O)<|fun Wv dK=>aU rfl<|aa<|aj<|oU O ?_ dK
 (rw[hl];exact adu hr J)
theorem C5(r:Rl)(w:World):Calls Tryz.prog 118 #[.agg (dS r)] w (Pure (U (JW r)) w):=by
 refine eH func118 rfl rfl fun hH=>SR<|gM hH (v:= .agg _) rfl<|fun b3 w1 bp=>va (v:=U 0#64) rfl<|aa<|SR<|va (v:= .slice none 0 0) rfl<|have iw:=bp.eR 3 1;aa<|ai<|SR<|va (v:=I 0) rfl<|aa<|aA<|bt (G:=Int×(List Int)×Value) (fun⟨o,l,v3⟩ s' w'=>(Fr (rg 3 26 []) _ s')/\(Hp w w' (.row v3 3 1 (l.length) (l.map I)::_))/\(s' 3=v3)/\(s' 4=I o)/\(0<=o)/\(cV r=true->o<=r.n)/\(cV r=false->l=[])/\(cV r=true->l=UJ r o)) (fun⟨o,l,v3⟩=>(9-o).toNat) ((0,[],(.slice none 0 0:Value))) ⟨Fr.refl _ _,iw,rfl,rfl,J,(fun h=>by have:=eZ h;omega),fun _=>rfl,fun _=>rfl⟩<| ?_
 rintro⟨o,l,v3⟩ sg5 w5 ⟨T6,bY,aeI,ax0,o0,o1,o2,hl⟩
 obtain⟨Te,aah⟩:=T6.w2 1 2
 refine ai<|SR<|V (aR bS O O Te (bY.blk (i:=1) O))<|aH O bY (mQ _ _) (ay call146 O)<|fun w6 eC=>mB rfl<|eF 8 O (fun h9=> ?_) (fun h9=> ?_)
 .refine aE ax0<|V (fA bS 0 O aO Te)<|lV bx eC 1 O O (fw _)<|V (aN O O)<|mB rfl<|aa<|aF O (fun h11=> ?_) (fun h11=> ?_)
  .refine an<|ai<|aA<|SR<|va (v:=I 0) rfl<|aa<|aA<|have hs:=eZ ‹cV r=true›;bt (G:=Int×(List Int)×Value) (fun⟨x,l2,v3⟩ s' w'=>(Fr (3::(5::(rg 16 13 []))) _ s')/\(Hp w w' (.row v3 3 1 (l2.length) (l2.map I)::_))/\(s' 3=v3)/\(s' 5=I x)/\(0<=x)/\(x<=r.n)/\(l2=UJ r o++(upto x).map (8*o+·))) (fun⟨x,l2,v3⟩=>(r.n-x).toNat) ((0,l,(v3:Value))) ⟨Fr.refl _ _,eC,aeI,rfl,J,J,(by rw[hl aQ];simp[upto])⟩<| ?_
   rintro⟨x,l2,v3⟩ Z4 y8 ⟨mi,cN,kN,mE,x0,x1,h2⟩
   obtain⟨o8,tU⟩:=mi.t2 1 Te 4 ax0
   refine ai<|SR<|aE mE<|V (fA bS 0 O aO o8)<|lV bx cN 1 O O (fw _)<|V (aN O O)<|aa<|aF O (fun F4=> ?_) (fun F4=> ?_)
   .refine an<|ai<|aA<|au<|aE kN<|aE tU<|V (zM O O J)<|aE mE<|V (ax O O J)<|tQ 1 1 cN (cB bD O O (sz:=1) (vs:=[I _]) O O az az O O)<|fun b17 Tf cI=> ?_
    (try simp only[lf]at cI)
    refine gf O cI (i:=1) O (cI.dR (i:=0) (n:=1) (sz:=1) O O az) O O bD O O (size:=1) (bytes:=8) O O O az gX (by rw[h2];have:= @UK r o J J;simp[m6];omega) (by rw[h2];have:= @UK r o J J;simp only[maxLen];simp[m6];omega)<|fun v18 Tj cT=> ?_
    refine V (run_assign bA) ?_
    refine aa<|au<|aE mE<|V (ax O O J)<|aI rfl<|aa<| ?_
    refine⟨(x+1,l2++[8*o+x],v18),aW,mi.u4.u4.u4.u1.u1.u1,(Hp.conv (cT.sub (sQ sR)) aJ),rfl,(aK I aM),J,J,?_⟩
    (rw[h2,dG,adw x0])
   refine a7 (id:=2) rfl<|au<|aE tU<|V (ax O O J)<|aI rfl<|aa<| ?_
   refine⟨(o+1,l2,v3),?_,(((T6.u4.u4.u1).t mi O)).u4.u1.u1.u1,(Hp.conv cN aM),kN,(aK I aM),J,?_,?_,?_⟩
   .have:=eZ ‹cV r=true›;((try dsimp only);omega)
   .exact fun h=>by omega
   .exact fun h=>by rw[‹cV r=true›]at h;cases h
   exact fun _=>by rw[h2];exact adv o0 J
  refine a7 (id:=0) rfl<|SR<|aE aeI<|aH O eC (fO _ _ _ (eC.sl (i:=0) O)) (ay Cg O)<|fun NL cD=>aU rfl<|aa<|aj<|oU O ?_ cD
  (rw[hl aQ];exact amj aQ (by have:=o1 aQ;omega))
 refine aE (v:=B false) rfl<|aa<|cQ rfl<|a7 (id:=0) rfl<|SR<|aE aeI<|aH O eC (fO _ _ _ (eC.sl (i:=0) O)) (ay Cg O)<|fun w23 gY=>aU rfl<|aa<|aj<|oU O ?_ gY
 (rw[o2 aQ,arq aQ];exact R9)
theorem EG(c:Int)(w:World):Calls Tryz.prog 197 #[.int .u8 c] w (Pure (B (jD c)) w):=by
 refine eH func197 rfl rfl fun hH=>SR<|va (v:=B false) rfl<|aa<|SR<|aE (v:= .int _ _) rfl<|V (dF O O)<|mB rfl<|bM 5 O (fun h2=> ?_) (fun h2=> ?_)
 .refine aE (v:= .int _ _) rfl<|V (wY O O)<|mB rfl<|aB rfl<|aa<|aj<|oB O ?_ hH
  (rw[jD,gV];simp only[eE,uE,zE];omega)
 refine aE (v:=B false) rfl<|aB rfl<|aa<|aj<|oB O ?_ hH
 (rw[jD,gV];simp only[eE,uE,zE];omega)
theorem qF(c:Int)(w:World):Calls Tryz.prog 113 #[.int .u8 c] w (Pure (B (jD c)) w):=by
 refine eH func113 rfl rfl fun hH=>SR<|va (v:=B false) rfl<|aa<|SR<|aE (v:= .int _ _) rfl<|V (dF O O)<|mB rfl<|bM 5 O (fun h2=> ?_) (fun h2=> ?_)
 .refine aE (v:= .int _ _) rfl<|V (wY O O)<|mB rfl<|aB rfl<|aa<|aj<|oB O ?_ hH
  (rw[jD,gV];simp only[eE,uE,zE];omega)
 refine aE (v:=B false) rfl<|aB rfl<|aa<|aj<|oB O ?_ hH
 (rw[jD,gV];simp only[eE,uE,zE];omega)
theorem WC(c:Int)(w:World):Calls Tryz.prog 198 #[.int .u8 c] w (Pure (B (uG c)) w):=by
 refine eH func198 rfl rfl fun hH=>SR<|va (v:=B false) rfl<|aa<|SR<|aE (v:= .int _ _) rfl<|aH O hH (EG _ _) (ay call197 O)<|fun w1 bp=>mB rfl<|eF 5 O (fun h4=> ?_) (fun h4=> ?_)
 .refine gm O O rfl<|gm O O rfl<|zO<|aE (v:=B true) rfl<|mB rfl<|cC O rfl<|aE (v:=B true) rfl<|aB rfl<|aa<|aj<|oB O ?_ bp
  exact(Cx aQ).symm
 refine aE (v:= .int _ _) rfl<|V (dF O O)<|mB rfl<|bM 8 O (fun h6=> ?_) (fun h6=> ?_)
 .refine aE (v:= .int _ _) rfl<|V (wY O O)<|mB rfl<|mB rfl<|mB rfl<|bM 13 O (fun h8=> ?_) (fun h8=> ?_)
  .refine aE (v:=B true) rfl<|aB rfl<|aa<|aj<|oB O ?_ bp
   (have hlc:=‹jD c=false›;rw[jD,wW]at hlc;rw[uG,gV];simp only[eE,uE,zE,true_iff];omega)
  refine aE (v:= .int _ _) rfl<|V (bU O O)<|mB rfl<|aB rfl<|aa<|aj<|oB O ?_ bp
  (have hlc:=‹jD c=false›;rw[jD,wW]at hlc;rw[uG,gV];simp only[eE,uE,zE,true_iff];omega)
 refine aE (v:=B false) rfl<|mB rfl<|mB rfl<|cC O rfl<|aE (v:= .int _ _) rfl<|V (bU O O)<|mB rfl<|aB rfl<|aa<|aj<|oB O ?_ bp
 (have hlc:=‹jD c=false›;rw[jD,wW]at hlc;rw[uG,gV];simp only[eE,uE,zE,true_iff];omega)
theorem Tm(s:Tx)(w:World):Calls Tryz.prog 164 #[S s] w (Pure (B (iQ s)) w):=by
 have htx:= @aru s
 refine eH func164 rfl rfl fun hH=>SR<|va (v:=B false) rfl<|aa<|ai<|SR<|aE (v:= .string _) rfl<|V (Mr O O)<|mB rfl<|bM 6 O (fun h2=> ?_) (fun h2=> ?_)
 .refine aE (v:=B true) rfl<|mB rfl<|cC O rfl<|aE (v:=B true) rfl<|aa<|cA rfl<|SR<|va (v:=B false) rfl<|aa<|aj<|oB O ?_ hH
  exact(DG (by have:=htx.1 ‹s=qe›;omega)).symm
 refine aE (v:= .string _) rfl<|V (lA O iy O)<|V (dN O O)<|mB rfl<|mB rfl<|bM 11 O (fun h4=> ?_) (fun h4=> ?_)
 .refine aE (v:=B true) rfl<|aa<|cA rfl<|SR<|va (v:=B false) rfl<|aa<|aj<|oB O ?_ hH
  exact(DG J).symm
 refine aE (v:= .string _) rfl<|V (tw iy O O (by have:=mt htx.2 ‹¬s=qe›;omega))<|aH O hH (EG _ _) (ay call197 O)<|fun w5 jN=>V (bJ O)<|mB rfl<|aa<|bW O (fun h9=> ?_) (fun h9=> ?_)
 .refine SR<|va (v:=B false) rfl<|aa<|aj<|oB O ?_ jN
  exact(PG (nt aQ)).symm
 refine an<|ai<|SR<|aE (v:= .string _) rfl<|V (lA O iy O)<|aE (v:=I 0) rfl<|aa<|aA<|have hsz:1<=s.size/\s.size<=16:=⟨by have:=mt htx.2 ‹¬s=qe›;omega,J⟩;bt (G:=Int) (fun k s' w'=>(Fr (2::3::(rg 19 9 [])) _ s')/\(Hp w w' _)/\(s' 19=I k)/\(0<=k)/\(k<=s.size)/\(∀j:Int,0<=j->j<k->uG (sB s j)=true)) (fun k=>(s.size-k).toNat) (0) ⟨Fr.refl _ _,jN,rfl,J,J,fun j a b=>absurd b J⟩<| ?_
 rintro k Wx EB ⟨nT,cg,aak,h0,hk,hf⟩
 obtain⟨EH,ath⟩:=nT.w2 0 18
 refine SR<|V (aN aak ath)<|aa<|ai<|aF O (fun h12=> ?_) (fun h12=> ?_)
 .refine an<|ai<|aA<|SR<|aE aak<|aI rfl<|aa<|SR<|aE EH<|mI rfl<|V (tw iy O O J)<|aH O cg (WC _ _) (ay call198 O)<|fun C0 cG=>V (bJ O)<|aa<|bW O (fun G5=> ?_) (fun G5=> ?_)
  .refine SR<|va (v:=B false) rfl<|aa<|aj<|oB O ?_ cG
   exact(Iy h0 aQ (nt aQ)).symm
  refine an<|au<|V (ax aak O J)<|mI rfl<|aa<| ?_
  refine⟨k+1,aW,nT.u4.u4.u1.u1,cG,(aK I aM),J,J,?_⟩
  exact fun j a b=>if e:j=k then e▸nf ‹_›else hf j a J
 refine a7 (id:=0) rfl<|SR<|va (v:=B true) rfl<|aa<|aj<|oB O ?_ cg
 exact(PI hsz (nf aQ) aQ hf).symm
theorem iK(s:Tx)(w:World):Calls Tryz.prog 74 #[S s] w (Pure (B (iQ s)) w):=by
 refine eH func74 rfl rfl fun hH=>SR<|va (v:=B false) rfl<|aa<|ai<|SR<|aE (v:= .string _) rfl<|V (lA O iy O)<|V (aN O O)<|mB rfl<|bM 7 O (fun h2=> ?_) (fun h2=> ?_)
 .refine aE (v:=B true) rfl<|mB rfl<|cC O rfl<|aE (v:=B true) rfl<|aa<|cA rfl<|SR<|va (v:=B false) rfl<|aa<|aj<|oB O ?_ hH
  exact(DG J).symm
 refine aE (v:= .string _) rfl<|V (lA O iy O)<|V (dN O O)<|mB rfl<|mB rfl<|bM 12 O (fun h4=> ?_) (fun h4=> ?_)
 .refine aE (v:=B true) rfl<|aa<|cA rfl<|SR<|va (v:=B false) rfl<|aa<|aj<|oB O ?_ hH
  exact(DG J).symm
 refine aE (v:= .string _) rfl<|V (tw iy O O J)<|aH O hH (qF _ _) (ay call113 O)<|fun w5 jN=>V (bJ O)<|mB rfl<|aa<|bW O (fun h9=> ?_) (fun h9=> ?_)
 .refine SR<|va (v:=B false) rfl<|aa<|aj<|oB O ?_ jN
  exact(PG (nt aQ)).symm
 refine an<|ai<|SR<|va (v:=I 1) rfl<|aa<|aA<|have hsz:1<=s.size/\s.size<=16:=J;have hlt:jD (sB s 0)=true:=nf aQ;bt (G:=Int) (fun k s' w'=>(Fr (2::3::(rg 18 29 [])) _ s')/\(Hp w w' _)/\(s' 3=I k)/\(1<=k)/\(k<=s.size)/\(∀j:Int,0<=j->j<k->uG (sB s j)=true)) (fun k=>(s.size-k).toNat) (1) ⟨Fr.refl _ _,jN,rfl,J,J,fun j a b=>by rw[show j=0 by omega];exact Cx hlt⟩<| ?_
 rintro k Wx EB ⟨nT,cg,pW,h0,hk,hf⟩
 have EH:=nT.w1 0
 refine ai<|SR<|aE pW<|aE EH<|V (lA O iy O)<|V (aN O O)<|aa<|aF O (fun h12=> ?_) (fun h12=> ?_)
 .refine an<|ai<|aA<|SR<|aE EH<|aE pW<|V (tw iy O O J)<|aH O cg (qF _ _) (ay call113 O)<|fun C0 cG=>V (bJ O)<|mB rfl<|eF 29 O (fun G5=> ?_) (fun G5=> ?_)
  .refine aE EH<|aE pW<|V (tw iy O O J)<|V (aN O O)<|mB rfl<|bM 34 O (fun NT=> ?_) (fun NT=> ?_)
   .refine aE (v:=B true) rfl<|mB rfl<|mB rfl<|cC O rfl<|aE EH<|aE pW<|V (tw iy O O J)<|V (kG O O)<|mB rfl<|aa<|aF O (fun N2=> ?_) (fun N2=> ?_)
    .refine SR<|va (v:=B false) rfl<|aa<|aj<|oB O ?_ cG
     exact(Iy (i:=k) J aQ afx).symm
    refine an<|au<|aE pW<|V (ax O O J)<|aI rfl<|aa<| ?_
    refine⟨k+1,aW,nT.u4.u4.u4.u4.u4.u4.u4.u1.u1,cG,(aK I aM),J,J,?_⟩
    exact fun j a b=>if e:j=k then e▸(by rw[uG,eE];omega)else hf j a J
   refine aE EH<|aE pW<|V (tw iy O O J)<|V (dN O O)<|mB rfl<|mB rfl<|mB rfl<|bM 41 O (fun FK=> ?_) (fun FK=> ?_)
   .refine aE EH<|aE pW<|V (tw iy O O J)<|V (kG O O)<|mB rfl<|aa<|aF O (fun I6=> ?_) (fun I6=> ?_)
    .refine SR<|va (v:=B false) rfl<|aa<|aj<|oB O ?_ cG
     exact(Iy (i:=k) J aQ afx).symm
    refine an<|au<|aE pW<|V (ax O O J)<|aI rfl<|aa<| ?_
    refine⟨k+1,aW,nT.u4.u4.u4.u4.u4.u4.u4.u1.u1,cG,(aK I aM),J,J,?_⟩
    exact fun j a b=>if e:j=k then e▸(by rw[uG,eE];omega)else hf j a J
   refine aE (v:=B false) rfl<|aa<|cQ rfl<|an<|au<|aE pW<|V (ax O O J)<|aI rfl<|aa<| ?_
   refine⟨k+1,aW,nT.u4.u4.u4.u4.u4.u4.u4.u1.u1,cG,(aK I aM),J,J,?_⟩
   exact fun j a b=>if e:j=k then e▸(by rw[uG,eE];omega)else hf j a J
  refine gm O O rfl<|gm O O rfl<|gm O O rfl<|gm O O rfl<|zO<|aE (v:=B false) rfl<|mB rfl<|cC O rfl<|aE (v:=B false) rfl<|aa<|cQ rfl<|an<|au<|aE pW<|V (ax O O J)<|aI rfl<|aa<| ?_
  refine⟨k+1,aW,nT.u4.u4.u4.u4.u4.u4.u4.u1.u1,cG,(aK I aM),J,J,?_⟩
  exact fun j a b=>if e:j=k then e▸(by exact Cx (nf aQ))else hf j a J
 refine a7 (id:=0) rfl<|SR<|va (v:=B true) rfl<|aa<|aj<|oB O ?_ cg
 exact(PI hsz hlt aQ hf).symm
theorem G6(n:Int)(f:FuncId)(cs:List Value)(P:Int->Bool)(hn:0<=n/\n<=9223372036854775807)(w:World)(hf:∀args w,(callFunc f args).run Tryz.prog w= .ok (.enter f args) w)(go:∀i w',Below w.heap.size w w'->0<=i->i<n->Calls Tryz.prog f (I i::cs).toArray w' (Pure (B (P i)) w')):Calls Tryz.prog 194 #[I 0,I n,.func (.func f) #[] cs.toArray] w (Pure (I (tj P n)) w):=by
 refine eH func194 rfl rfl fun hH=>SR<|va (v:=I 0) rfl<|aa<|ai<|SR<|mI rfl<|aI rfl<|aa<|aA<|bt (G:=Int) (fun k s' w'=>(Fr (6::7::(rg 9 9 [])) _ s')/\(Hp w w' _)/\(s' 7=I k)/\(0<=k)/\(k<=n)/\(∀j:Int,0<=j->j<k->P j=false)) (fun k=>(n-k).toNat) (0) ⟨Fr.refl _ _,hH,rfl,J,J,fun j a b=>absurd b J⟩<| ?_
 rintro k sg1 w1 ⟨uM,je,Wj,h0,hk,hg⟩
 have Av:=uM.w1 1
 have ajH:=uM.vv 2 (a:= .func _ _ _) rfl rfl
 refine ai<|SR<|aE Wj<|aE Av<|V (aN O O)<|aa<|aF O (fun h3=> ?_) (fun h3=> ?_)
 .refine an<|ai<|aA<|SR<|aE ajH<|aE Wj<|aH O je (go _ _ je.below J J) (lB hf (cs:=cs) O O)<|fun w4 bY=>aa<|bW O (fun h7=> ?_) (fun h7=> ?_)
  .refine SR<|aE Wj<|aI rfl<|aa<|aj<|oI O ?_ bY
   exact(vH h0 aQ aQ hg).symm
  refine an<|au<|aE Wj<|V (ax O O J)<|aI rfl<|aa<| ?_
  refine⟨k+1,aW,uM.u4.u4.u1,bY,(aK I aM),J,J,?_⟩
  exact fun j a b=>if e:j=k then e▸‹P k=false›else hg j a J
 refine a7 (id:=0) rfl<|SR<|va (v:=I (-1)) rfl<|aa<|aj<|oI O ?_ je
 exact(Gl fun j a b=>hg j a J).symm
theorem Pg(b c:Nat)(v:Value)(l:List Tx)(s:Tx)(i:Int)(hi:0<=i/\i<l.length)(w:World)(hs:Sl w v 1 l.length (Jy l))(hb:w.heap[b]?=some (.cells #[v] 83 (0,0)))(hc:w.heap[c]?=some (.cells #[S s] 9 (0,0))):Calls Tryz.prog 230 #[I i,.pointer (some ⟨b,0,none⟩),.pointer (some ⟨c,0,none⟩)] w (Pure (B (decide (l.getD i.toNat qe=s))) w):=by
 have hm:=hs.small
 unfold maxLen at hm
 refine eH func230 rfl rfl fun hH=>SR<|va (v:=B false) rfl<|aa<|ai<|ec aP hH<|fun w1 bp=>have kS:=bp;AT 0 O kS (fun w hS=>aG dW O O (hS.eP hb O))<|AQ 1 O kS (mV (I _) O)<|AT 2 O kS (fun w hS=>ah (hs.hp hS) dW ko O O J)<|AT 3 O kS (fun w hS=>aG iy O O ((hs.hp hS).cell _ _ (Cy J)))<|AT 4 O kS (fun w hS=>aG iy O O (hS.eP hc (v:= .string _) O))<|AQ 5 O kS (Mr O O)<|AQ 6 O kS (aV (B _) O)<|AD<|aj<|oB O ?_ bp
 rfl
theorem WD(v:Value)(l:List Tx)(s:Tx)(w:World)(hs:Sl w v 1 l.length (Jy l)):Calls Tryz.prog 196 #[v,S s] w (Pure (I (ry l s)) w):=by
 have hm:=hs.small
 unfold maxLen at hm
 refine eH func196 rfl rfl fun hH=>SR<| ?_
 refine lJ hH (Ks bA) ?_
 intro b3 w1 bp
 rw[(iq hs).2]at bp
 refine gM bp (v:= .string _) rfl<|fun b6 w4 bY=>va (v:=I 0) rfl<|aa<|SR<|lV dW bY 1 O O rfl<|V (aC (hs.hp bY) O dW O)<| ?_
 refine V (s5 bA bA) ?_
 refine aH O bY (G6 _ 230 [.pointer (some ⟨b3,0,none⟩),.pointer (some ⟨b6,0,none⟩)] (fun i=>decide (l.getD i.toNat qe=s)) J _ call230 (fun i w h h0 h1=>Pg b3 b6 v l s i ⟨h0,h1⟩ w ((hs.hp bY).below h) (keep h (bY.blk (i:=1) O)) (keep h (bY.blk (i:=0) O)))) (bz call194 (show _=I 0 from O) O O)<|fun w7 eX=>aI rfl<|aa<|aj<|oI O ?_ eX
 rfl
theorem N8(b:Nat)(v:Value)(l:List Tx)(i:Int)(hi:0<=i/\i<l.length)(w:World)(hs:Sl w v 1 l.length (Jy l))(hb:w.heap[b]?=some (.cells #[v] 83 (0,0))):Calls Tryz.prog 195 #[I i,.pointer (some ⟨b,0,none⟩)] w (Pure (B (decide (ry l (l.getD i.toNat qe)<i))) w):=by
 have hm:=hs.small
 unfold maxLen at hm
 refine eH func195 rfl rfl fun hH=>SR<|va (v:=B false) rfl<|aa<|ai<|ec aP hH<|fun w1 bp=>have kS:=bp;AT 0 O kS (fun w hS=>aG dW O O (hS.eP hb O))<|AQ 1 O kS (mV (I _) O)<|AT 3 O kS (fun w hS=>aG dW O O (hS.eP hb O))<|AQ 4 O kS (mV (I _) O)<|AT 5 O kS (fun w hS=>ah (hs.hp hS) dW ko O O J)<|AT 6 O kS (fun w hS=>aG iy O O ((hs.hp hS).cell _ _ (Cy J)))<|A1 2<|cf O aD O bp sR (rh (hs.hp bp) dW ko O O J)<|A1 7<|ct O aD O bp sR (WD _ _ _ _ ((hs.hp bp).aDb J)) (aL call196 O O)<|fun w5 jN=>AQ 8 O jN (dF O O)<|AQ 9 O jN (aV (B _) O)<|AD<|aj<|oB O ?_ jN
 exact agS hi.1 hi.2
theorem Tn(v:Value)(l:List Tx)(w:World)(hs:Sl w v 1 l.length (Jy l)):Calls Tryz.prog 163 #[v] w (Pure (I (yH l)) w):=by
 have hm:=hs.small
 unfold maxLen at hm
 refine eH func163 rfl rfl fun hH=>SR<| ?_
 refine lJ hH (Ks bA) ?_
 intro b3 w1 bp
 rw[(iq hs).2]at bp
 refine va (v:=I 0) rfl<|aa<|SR<|lV dW bp 0 O O rfl<|V (aC (hs.hp bp) O dW O)<| ?_
 refine V (Cu bA) ?_
 refine aH O bp (G6 _ 195 [.pointer (some ⟨b3,0,none⟩)] (fun i=>decide (ry l (l.getD i.toNat qe)<i)) J _ call195 (fun i w h h0 h1=>N8 b3 v l i ⟨h0,h1⟩ w ((hs.hp bp).below h) (keep h (bp.blk (i:=0) O)))) (bz call194 (show _=I 0 from O) O O)<|fun w4 bY=>aI rfl<|aa<|aj<|oI O ?_ bY
 rfl
theorem BL(v:Value)(l:List Tx)(s:Tx)(w:World)(hs:Sl w v 1 l.length (Jy l)):Calls Tryz.prog 114 #[v,S s] w (Pure (I (ry l s)) w):=by
 have hm:=hs.small
 unfold maxLen at hm
 refine eH func114 rfl rfl fun hH=>SR<|va (v:=I 0) rfl<|aa<|ai<|SR<|va (v:=I 0) rfl<|aa<|aA<|bt (G:=Int) (fun k s' w'=>(Fr (rg 4 15 []) _ s')/\(Hp w w' _)/\(s' 5=I k)/\(0<=k)/\(k<=l.length)/\(∀j:Int,0<=j->j<k->decide (l.getD j.toNat qe=s)=false)) (fun k=>(l.length-k).toNat) (0) ⟨Fr.refl _ _,hH,rfl,J,J,fun j a b=>absurd b J⟩<| ?_
 rintro k sg1 w1 ⟨uM,je,NH,h0,hk,hg⟩
 obtain⟨mz,Av⟩:=uM.w2 0 1
 refine ai<|SR<|aE NH<|aE mz<|V (aC (hs.hp je) O dW O)<|V (aN O O)<|aa<|aF O (fun h3=> ?_) (fun h3=> ?_)
 .refine an<|ai<|aA<|SR<|aE mz<|aE NH<|V (ah (hs.hp je) dW ko O O J)<|V (aG iy O O ((hs.hp je).cell _ _ (Cy J)))<|aE Av<|V (Mr O O)<|aa<|aF O (fun h5=> ?_) (fun h5=> ?_)
  .refine SR<|aE NH<|aI rfl<|aa<|aj<|oI O ?_ je
   exact(vH h0 aQ (gW aQ) hg).symm
  refine an<|au<|aE NH<|V (ax O O J)<|aI rfl<|aa<| ?_
  refine⟨k+1,aW,uM.u4.u4.u4.u1,je,(aK I aM),J,J,?_⟩
  exact fun j a b=>if e:j=k then e▸gZ ‹_›else hg j a J
 refine a7 (id:=0) rfl<|SR<|va (v:=I (-1)) rfl<|aa<|aj<|oI O ?_ je
 exact(Gl fun j a b=>hg j a J).symm
theorem j5(v:Value)(l:List Tx)(w:World)(hs:Sl w v 1 l.length (Jy l)):Calls Tryz.prog 75 #[v] w (Pure (I (yH l)) w):=by
 have hm:=hs.small
 unfold maxLen at hm
 refine eH func75 rfl rfl fun hH=>SR<|va (v:=I 0) rfl<|aa<|ai<|SR<|va (v:=I 0) rfl<|aa<|aA<|bt (G:=Int) (fun k s' w'=>(Fr (rg 2 17 []) _ s')/\(Hp w w' _)/\(s' 3=I k)/\(0<=k)/\(k<=l.length)/\(∀j:Int,0<=j->j<k->decide (ry l (l.getD j.toNat qe)<j)=false)) (fun k=>(l.length-k).toNat) (0) ⟨Fr.refl _ _,hH,rfl,J,J,fun j a b=>absurd b J⟩<| ?_
 rintro k sg1 w1 ⟨uM,je,sW,h0,hk,hg⟩
 have mz:=uM.w1 0
 refine ai<|SR<|aE sW<|aE mz<|V (aC (hs.hp je) O dW O)<|V (aN O O)<|aa<|aF O (fun h3=> ?_) (fun h3=> ?_)
 .refine an<|ai<|aA<|SR<|aE mz<|aE mz<|aE sW<|V (ah (hs.hp je) dW ko O O J)<|V (aG iy O O ((hs.hp je).cell _ _ (Cy J)))<|aH O je (BL _ _ _ _ (hs.hp je)) (aL call114 O O)<|fun w4 bY=>aE sW<|V (aN O O)<|aa<|aF O (fun h7=> ?_) (fun h7=> ?_)
  .refine SR<|aE sW<|aI rfl<|aa<|aj<|oI O ?_ bY
   exact(vH h0 aQ (gW aQ) hg).symm
  refine an<|au<|aE sW<|V (ax O O J)<|aI rfl<|aa<| ?_
  refine⟨k+1,aW,uM.u4.u4.u4.u1.u1.u1,bY,(aK I aM),J,J,?_⟩
  exact fun j a b=>if e:j=k then e▸gZ ‹_›else hg j a J
 refine a7 (id:=0) rfl<|SR<|va (v:=I (-1)) rfl<|aa<|aj<|oI O ?_ je
 exact(Gl fun j a b=>hg j a J).symm
theorem Ph(v:Value)(l:List Tx)(w:World)(hs:Sl w v 1 l.length (Jy l)):Calls Tryz.prog 135 #[v] w (Pure (B (ir l)) w):=by
 have hm:=hs.small
 unfold maxLen at hm
 refine eH func135 rfl rfl fun hH=>SR<|va (v:=B false) rfl<|aa<|ai<|SR<| ?_
 refine V (run_move bA) ?_
 refine V (aC (hs.hp hH) O dW O)<|V (aN O O)<|mB rfl<|bM 8 O (fun h2=> ?_) (fun h2=> ?_)
 .refine aE (v:=B true) rfl<|mB rfl<|cC O rfl<|aE (v:=B true) rfl<|aa<|cA rfl<|SR<|va (v:=B false) rfl<|aa<|aj<|oB O ?_ hH
  exact(DH J).symm
 refine V (run_move bA) ?_
 refine V (aC (hs.hp hH) O dW O)<|V (dN O O)<|mB rfl<|mB rfl<|bM 13 O (fun h4=> ?_) (fun h4=> ?_)
 .refine aE (v:=B true) rfl<|aa<|cA rfl<|SR<|va (v:=B false) rfl<|aa<|aj<|oB O ?_ hH
  exact(DH J).symm
 refine V (run_move bA) ?_
 refine aH O hH (Tn _ _ _ (hs.hp hH)) (ay call163 O)<|fun w5 jN=>V (dF O O)<|mB rfl<|aa<|aF O (fun h8=> ?_) (fun h8=> ?_)
 .refine SR<|va (v:=B false) rfl<|aa<|aj<|oB O ?_ jN
  exact(PJ J).symm
 refine an<|ai<|SR<| ?_
 refine V (run_move bA) ?_
 refine V (aC (hs.hp jN) O dW O)<|aE (v:=I 0) rfl<|aa<|aA<|have hn1:1<=l.length/\l.length<=64:=J;have Qa:yH l<0:=J;bt (G:=Int) (fun k s' w'=>(Fr (2::(4::(rg 20 8 []))) _ s')/\(Hp w w' _)/\(s' 20=I k)/\(0<=k)/\(k<=l.length)/\(∀j:Int,0<=j->j<k->iQ (l.getD j.toNat qe)=true)) (fun k=>(l.length-k).toNat) (0) ⟨Fr.refl _ _,jN,rfl,J,J,fun j a b=>absurd b J⟩<| ?_
 rintro k sg9 w9 ⟨fr9,iE,ajS,h0,hk,hg⟩
 obtain⟨ax2,ax3⟩:=fr9.w2 18 19
 refine SR<|V (aN ajS ax3)<|aa<|ai<|aF O (fun h11=> ?_) (fun h11=> ?_)
 .refine an<|ai<|aA<|SR<|V (ah (hs.hp iE) dW ko ax2 ajS J)<|V (aG iy O O ((hs.hp iE).cell _ _ (Cy J)))<|va (v:= .string _) rfl<|aa<|SR<|aE (v:= .string _) rfl<|aH O iE (Tm _ _) (ay call164 O)<|fun y8 bX=>V (bJ O)<|aa<|bW O (fun yj=> ?_) (fun yj=> ?_)
  .refine SR<|va (v:=B false) rfl<|aa<|aj<|oB O ?_ bX
   exact(PK h0 aQ (nt aQ)).symm
  refine an<|au<|V (ax ajS O J)<|mI rfl<|aa<| ?_
  refine⟨k+1,aW,fr9.u4.u4.u1,bX,(aK I aM),J,J,?_⟩
  exact fun j a b=>if e:j=k then e▸nf ‹_›else hg j a J
 refine a7 (id:=0) rfl<|SR<|va (v:=B true) rfl<|aa<|aj<|oB O ?_ iE
 exact(qv hn1 Qa aQ hg).symm
theorem C6(f:qw)(w:World)(hf:wJ (Kw w) f)(hT:o3 w):Calls Tryz.prog 93 #[.agg (uR f)] w (Pure (B (cZ f.fc)) w):=by
 have hm:=hf.names.sl.small
 unfold maxLen at hm
 refine eH func93 rfl rfl fun hH=>SR<|gM hH (v:= .agg _) rfl<|fun b3 w1 bp=>va (v:=B false) rfl<|aa<|ai<|SR<|V (fA dy 1 O pe O)<|lV dW bp 0 O O rfl<|aH O bp (Ph _ _ _ (hf.names.sl.hp bp)) (ay call135 O)<|fun w4 bY=>V (bJ O)<|aa<|bW O (fun h8=> ?_) (fun h8=> ?_)
 .refine SR<|va (v:=B false) rfl<|aa<|aj<|oB O ?_ bY
  exact(MA (f:=f.fc) (nt aQ)).symm
 refine an<|ai<|SR<|V (fA dy 0 O aO O)<|lI bx bY 0 O O rfl<|aa<|aA<|ai<|SR<|V (bU O O)<|aB rfl<|aa<|aF O (fun h10=> ?_) (fun h10=> ?_)
 .refine an<|cA (bT h10)<|SR<|V (fA dy 2 O iW O)<|V (iT bS O O O (bY.blk (i:=0) O))<|V (dJ (vs:=[]) O NE)<|aH O bY (EA _ _ _) (aL call136 O O)<|fun I2 cN=>aB rfl<|aa<|aj<|oB O ?_ cN
  exact(abg (f:=f.fc) (nf ‹(!ir f.names)=false›) (.inl aQ)).symm
 refine au<|V (bU O O)<|aB rfl<|aa<|aF O (fun yj=> ?_) (fun yj=> ?_)
 .refine SR<|V (fA dy 2 O iW O)<|V (iT bS O O O (bY.blk (i:=0) O))<|V (dJ (vs:=[]) O NE)<|aH O bY (EA _ _ _) (aL call136 O O)<|fun Ti dP=>aB rfl<|aa<|aj<|oB O ?_ dP
  exact(abg (f:=f.fc) (nf ‹(!ir f.names)=false›) (.inr aQ)).symm
 refine SR<|V (bU O O)<|aB rfl<|aa<|aF O (fun h22=> ?_) (fun h22=> ?_)
 .refine SR<|V (fA dy 2 O iW O)<|V (fA bS 0 O aO O)<|lI bx bY 0 O O rfl<|V (fA dy 1 O pe O)<|lV dW bY 0 O O rfl<|V (aC (hf.names.sl.hp bY) O dW O)<|V (bU O O)<|mB rfl<|bM 25 O (fun xu=> ?_) (fun xu=> ?_)
  .refine V (fA dy 2 O iW O)<|V (iT bS O O O (bY.blk (i:=0) O))<|aH O bY (AI _ _) (ay call137 O)<|fun w25 jf=>mB rfl<|aB rfl<|aa<|aj<|oB O ?_ jf
   exact(ag9 (f:=f.fc) (nf ‹(!ir f.names)=false›) aQ aQ).symm
  refine aE (v:=B false) rfl<|aB rfl<|aa<|aj<|oB O ?_ bY
  exact(ag7 (f:=f.fc) aQ aQ).symm
 refine SR<|V (bU O O)<|aB rfl<|aa<|aF O (fun rK=> ?_) (fun rK=> ?_)
 .refine SR<|V (fA dy 2 O iW O)<|V (fA bS 0 O aO O)<|lI bx bY 0 O O rfl<|V (fA dy 1 O pe O)<|lV dW bY 0 O O rfl<|V (aC (hf.names.sl.hp bY) O dW O)<|V (bU O O)<|mB rfl<|bM 39 O (fun h31=> ?_) (fun h31=> ?_)
  .refine V (fA dy 2 O iW O)<|V (iT bS O O O (bY.blk (i:=0) O))<|aH O bY (Ke _ _ (hT.hp bY)) (ay call138 O)<|fun w32 ke=>mB rfl<|aB rfl<|aa<|aj<|oB O ?_ ke
   exact(aha (f:=f.fc) (nf ‹(!ir f.names)=false›) aQ aQ).symm
  refine aE (v:=B false) rfl<|aB rfl<|aa<|aj<|oB O ?_ bY
  exact(ag8 (f:=f.fc) aQ aQ).symm
 refine an<|SR<|va (v:=B false) rfl<|aa<|aj<|oB O ?_ bY
 exact(ao4 (f:=f.fc) aQ aQ aQ aQ).symm
end
section
open Go Go.RowKit Go.Proofs.YtlhjdflgjbkpmaaGreatDoor.E Go.Proofs.YtlhjdflgjbkpmaaGreatDoor.M
set_option maxRecDepth 100000
open Go.Proofs.Tryz
variable{fr:List bu}
theorem yt(s:kP)(w:World)(hs:k7 (Kw w) s)(hT:o3 w):Calls Tryz.prog 50 #[.agg (qJ s)] w (Pure (B (mC s.sh)) w):=by
 have hsl:=po s
 have hm:=hs.aY.sl.small
 unfold maxLen at hm
 refine eH func50 rfl rfl fun hH=>SR<|gM hH (v:= .agg _) rfl<|fun b3 w1 bp=>va (v:=B false) rfl<|aa<|SR<|V (fA dm 1 O jC O)<|lV dr bp 0 O O rfl<|V (aC (hs.aY.sl.hp bp) O dr O)<|aI rfl<|aa<|ai<|SR<|mI rfl<|V (aN O O)<|mB rfl<|bM 11 O (fun h5=> ?_) (fun h5=> ?_)
 .refine aE (v:=B true) rfl<|mB rfl<|cC O rfl<|gm O O rfl<|gm O O rfl<|zO<|aE (v:=B true) rfl<|aa<|cA rfl<|SR<|va (v:=B false) rfl<|aa<|aj<|oB O ?_ bp
  exact(KK J).symm
 refine mI rfl<|V (dN O O)<|mB rfl<|mB rfl<|bM 15 O (fun h7=> ?_) (fun h7=> ?_)
 .refine gm O O rfl<|gm O O rfl<|zO<|aE (v:=B true) rfl<|aa<|cA rfl<|SR<|va (v:=B false) rfl<|aa<|aj<|oB O ?_ bp
  exact(KK J).symm
 refine V (fA dm 0 O oh O)<|V (aG uk O O (bp.cell (i:=0) O (v:=B _) O))<|V (bJ O)<|mB rfl<|eF 19 O (fun h10=> ?_) (fun h10=> ?_)
 .refine mI rfl<|V (kG O O)<|mB rfl<|mB rfl<|aa<|aF O (fun h12=> ?_) (fun h12=> ?_)
  .refine SR<|va (v:=B false) rfl<|aa<|aj<|oB O ?_ bp
   exact(abc (by exact nt aQ) J).symm
  refine an<|ai<|SR<|V (fA dm 1 O jC O)<|lV dr bp 0 O O rfl<|V (aC (hs.aY.sl.hp bp) O dr O)<|aE (v:=I 0) rfl<|aa<|aA<|have hc2:s.sh.tuple=true\/s.sh.aY.length=1:=(by exact .inr J);have Y1:1<=s.aY.length/\s.aY.length<=8:=J;bt (G:=Int) (fun k s' w'=>(Fr (2::(5::(rg 27 8 []))) _ s')/\(Hp w w' _)/\(s' 27=I k)/\(0<=k)/\(k<=s.aY.length)/\(∀j:Int,0<=j->j<k->cZ (s.aY.getD j.toNat iB).fc=true)) (fun k=>(s.aY.length-k).toNat) (0) ⟨Fr.refl _ _,bp,rfl,J,J,fun j a b=>absurd b J⟩<| ?_
  rintro k aac C0 ⟨rX,bX,aal,h0,hk,hg⟩
  obtain⟨N0,atj⟩:=rX.w2 25 26
  refine SR<|V (aN aal atj)<|aa<|ai<|aF O (fun D6=> ?_) (fun D6=> ?_)
  .refine an<|ai<|aA<|SR<|V (ah (hs.aY.sl.hp bX) dr qb N0 aal J)<|V (dY (dv:=iB) fy (hs.aY.sl.hp bX) dy O O O J)<|lJ bX (aS tR)<|fun b18 I4 ep=>bg ep (i:=0) O (sI (hs.at J J) O O O (ep.blk (i:=0) O))<|fun Tj cT=>aa<|SR<|V (yJ dy O O O (cT.blk (i:=0) O))<|aH O cT (C6 _ _ ((hs.at J J).mono cT.kw) (hT.hp cT)) (ay call93 O)<|fun NL cD=>V (bJ O)<|aa<|bW O (fun I6=> ?_) (fun I6=> ?_)
   .refine SR<|va (v:=B false) rfl<|aa<|aj<|oB O ?_ cD
    exact(KL (k:=k) h0 J HT).symm
   refine an<|au<|V (ax aal O J)<|mI rfl<|aa<| ?_
   refine⟨k+1,aW,rX.u4.u4.u1,(cD.sub (sQ sR)),(aK I aM),J,J,?_⟩
   exact fun j a b=>if e:j=k then e▸nf ‹_›else hg j a J
  refine a7 (id:=0) rfl<|SR<|va (v:=B true) rfl<|aa<|aj<|oB O ?_ bX
  exact(KM (k:=k) J hc2 J fun j a b=>by rw[iF];exact hg j a b).symm
 refine aE (v:=B false) rfl<|mB rfl<|aa<|cQ rfl<|an<|ai<|SR<|V (fA dm 1 O jC O)<|lV dr bp 0 O O rfl<|V (aC (hs.aY.sl.hp bp) O dr O)<|aE (v:=I 0) rfl<|aa<|aA<|have hc2:s.sh.tuple=true\/s.sh.aY.length=1:=(by exact .inl (nf ‹(!s.tuple)=false›));have Y1:1<=s.aY.length/\s.aY.length<=8:=J;bt (G:=Int) (fun k s' w'=>(Fr (2::(5::(rg 27 8 []))) _ s')/\(Hp w w' _)/\(s' 27=I k)/\(0<=k)/\(k<=s.aY.length)/\(∀j:Int,0<=j->j<k->cZ (s.aY.getD j.toNat iB).fc=true)) (fun k=>(s.aY.length-k).toNat) (0) ⟨Fr.refl _ _,bp,rfl,J,J,fun j a b=>absurd b J⟩<| ?_
 rintro k aEE Wv ⟨ajT,jf,aam,h0,hk,hg⟩
 obtain⟨atk,atl⟩:=ajT.w2 25 26
 refine SR<|V (aN aam atl)<|aa<|ai<|aF O (fun Wt=> ?_) (fun Wt=> ?_)
 .refine an<|ai<|aA<|SR<|V (ah (hs.aY.sl.hp jf) dr qb atk aam J)<|V (dY (dv:=iB) fy (hs.aY.sl.hp jf) dy O O O J)<|lJ jf (aS tR)<|fun b31 w29 iV=>bg iV (i:=0) O (sI (hs.at J J) O O O (iV.blk (i:=0) O))<|fun w32 ke=>aa<|SR<|V (yJ dy O O O (ke.blk (i:=0) O))<|aH O ke (C6 _ _ ((hs.at J J).mono ke.kw) (hT.hp ke)) (ay call93 O)<|fun w34 uX=>V (bJ O)<|aa<|bW O (fun h38=> ?_) (fun h38=> ?_)
  .refine SR<|va (v:=B false) rfl<|aa<|aj<|oB O ?_ uX
   exact(KL (k:=k) h0 J HT).symm
  refine an<|au<|V (ax aam O J)<|mI rfl<|aa<| ?_
  refine⟨k+1,aW,ajT.u4.u4.u1,(uX.sub (sQ sR)),(aK I aM),J,J,?_⟩
  exact fun j a b=>if e:j=k then e▸nf ‹_›else hg j a J
 refine a7 (id:=0) rfl<|SR<|va (v:=B true) rfl<|aa<|aj<|oB O ?_ jf
 exact(KM (k:=k) J hc2 J fun j a b=>by rw[iF];exact hg j a b).symm
theorem To(f:qw)(s:BitVec 64)(w:World)(hf:wJ (Kw w) f)(hT:o3 w):Calls Tryz.prog 145 #[.agg (uR f),U s] w (Pure (B (kx f.fc s)) w):=by
 have hm:=hf.names.sl.small
 unfold maxLen at hm
 refine eH func145 rfl rfl fun hH=>SR<|gM hH (v:= .agg _) rfl<|fun b3 w1 bp=>va (v:=B false) rfl<|aa<|ai<|SR<|V (fA dy 0 O aO O)<|lI bx bp 0 O O rfl<|aa<|aA<|SR<|V (bU O O)<|aB rfl<|aa<|aF O (fun h5=> ?_) (fun h5=> ?_)
 .refine SR<|V (fA dy 1 O pe O)<|lV dW bp 0 O O rfl<|V (aC (hf.names.sl.hp bp) O dW O)<|mU rfl<|aH O bp (Tg _ _ _) (aL call178 O O)<|fun w6 eC=>aB rfl<|aa<|aj<|oB O ?_ eC
  exact(PM (f:=f.fc) aQ s).symm
 refine SR<|V (bU O O)<|aB rfl<|aa<|aF O (fun h10=> ?_) (fun h10=> ?_)
 .refine SR<|mU rfl<|V (fA dy 1 O pe O)<|lV dW bp 0 O O rfl<|V (aC (hf.names.sl.hp bp) O dW O)<|aH O bp (oQ _ _) (ay HN O)<|fun I2 cN=>aH O cN (FI _ _ _) (aL call140 O O)<|fun C0 cG=>aB rfl<|aa<|aj<|oB O ?_ cG
  exact(PN (f:=f.fc) aQ s).symm
 refine SR<|V (bU O O)<|aB rfl<|aa<|aF O (fun G5=> ?_) (fun G5=> ?_)
 .refine SR<|V (fA dy 2 O iW O)<|V (iT bS O O O (bp.blk (i:=0) O))<|mU rfl<|aH O bp (Pe _ _ _ (hT.hp bp)) (aL call180 O O)<|fun K0 iD=>aB rfl<|aa<|aj<|oB O ?_ iD
  exact(PO (f:=f.fc) aQ s).symm
 refine an<|SR<|V (fA dy 2 O iW O)<|V (iT bS O O O (bp.blk (i:=0) O))<|mU rfl<|aH O bp (yo _ _ _ (hT.hp bp)) (aL call181 O O)<|fun NL cD=> ?_
 refine V (run_move bA) ?_
 refine V (bk O (v:=I _) O)<|V (bk O (v:=B _) O)<|aI rfl<|aB rfl<|aa<|SR<|mB rfl<|aB rfl<|aa<|aj<|oB O ?_ cD
 exact(ao5 (f:=f.fc) aQ aQ aQ s).symm
theorem AL(s:kP)(e:El)(w:World)(hs:k7 (Kw w) s)(hT:o3 w):Calls Tryz.prog 105 #[.agg (qJ s),.agg (iM e)] w (Pure (B (cJ s.sh e)) w):=by
 have hsl:=po s
 have hm:=hs.aY.sl.small
 unfold maxLen at hm
 refine eH func105 rfl rfl fun hH=>SR<|gM hH (v:= .agg _) rfl<|fun b3 w1 bp=>gM bp (v:= .agg _) rfl<|fun b6 w4 bY=>va (v:=B false) rfl<|aa<|ai<|SR<|V (cF (cs:=[B _,_]) dm O O O (bj (bY.blk (i:=1) O)))<|aH O bY (yt _ _ (hs.mono bY.kw) (hT.hp bY)) (ay call50 O)<|fun w7 eX=>V (bJ O)<|aa<|bW O (fun h11=> ?_) (fun h11=> ?_)
 .refine SR<|va (v:=B false) rfl<|aa<|aj<|oB O ?_ eX
  exact(UM (nt aQ)).symm
 refine an<|ai<|SR<|V (cM bI O O O (eX.blk (i:=0) O))<|aE (v:=I 0) rfl<|aa<|aA<|have hr:mC s.sh=true:=nf aQ;bt (G:=Int) (fun k s' w'=>(Fr (rg 4 3 (rg 11 20 [])) _ s')/\(Hp w w' _)/\(s' 11=I k)/\(0<=k)/\(k<=8)/\(Eo s.sh e k)) (fun k=>(8-k).toNat) (0) ⟨Fr.refl _ _,eX,rfl,J,J,Eo.none _ _⟩<| ?_
 rintro k Z4 y8 ⟨mi,cN,N9,h0,hk,hf⟩
 obtain⟨zc,atn⟩:=mi.w2 2 10
 refine SR<|V (aN N9 O)<|aa<|ai<|aF O (fun F4=> ?_) (fun F4=> ?_)
 .refine an<|ai<|aA<|SR<|aE N9<|V (LO bI isAgg35 cP atn N9 J (ary _ J))<|aI rfl<|aU rfl<|aa<|ai<|SR<|mI rfl<|V (fA dm 1 O jC zc)<|lV dr cN 1 O O rfl<|V (aC (hs.aY.sl.hp cN) O dr O)<|V (dF O O)<|aa<|aF O (fun yj=> ?_) (fun yj=> ?_)
  .refine ai<|SR<|mU rfl<|V (vp O (b:=0#64) O)<|aa<|aF O (fun qk=> ?_) (fun qk=> ?_)
   .refine SR<|va (v:=B false) rfl<|aa<|aj<|oB O ?_ cN
    exact(Ms h0 aQ J aQ).symm
   refine an<|a7 (id:=1) rfl<|au<|V (ax N9 O J)<|mI rfl<|aa<| ?_
   refine⟨k+1,aW,mi.u4.u4.u4.u1.u1,cN,(aK I aM),J,J,?_⟩
   exact hf.next (fun h=>by exfalso;omega) (fun h=>by exact HD aQ)
  refine an<|SR<|V (fA dm 1 O jC zc)<|lV dr cN 1 O O rfl<|mI rfl<|V (ah (hs.aY.sl.hp cN) dr qb O O J)<|V (dY (dv:=iB) fy (hs.aY.sl.hp cN) dy O O O J)<|mU rfl<|aH O cN (To _ _ _ ((hs.at J J).mono cN.kw) (hT.hp cN)) (aL call145 O O)<|fun Tj cT=>V (bJ O)<|aa<|bW O (fun FK=> ?_) (fun FK=> ?_)
  .refine SR<|va (v:=B false) rfl<|aa<|aj<|oB O ?_ cT
   exact(UN h0 aQ J HT).symm
  refine an<|au<|V (ax N9 O J)<|mI rfl<|aa<| ?_
  refine⟨k+1,aW,mi.u4.u4.u4.u4.u4,cT,(aK I aM),J,J,?_⟩
  exact hf.next (fun h=>by rw[iF];exact nf aQ) (fun h=>by exfalso;omega)
 refine a7 (id:=0) rfl<|SR<|va (v:=B true) rfl<|aa<|aj<|oB O ?_ cN
 exact(Mt hr aQ hf).symm
theorem WE(a b:El)(w:World):Calls Tryz.prog 97 #[.agg (iM a),.agg (iM b)] w (Pure (B (cS a b)) w):=by
 refine eH func97 rfl rfl fun hH=>SR<|gM hH (v:= .agg _) rfl<|fun b3 w1 bp=>gM bp (v:= .agg _) rfl<|fun b6 w4 bY=>va (v:=B false) rfl<|aa<|ai<|SR<|aE (v:=I 0) rfl<|aa<|aA<|bt (G:=Int) (fun k s' w'=>(Fr (rg 4 14 []) _ s')/\(Hp w w' _)/\(s' 6=I k)/\(0<=k)/\(k<=8)/\(∀j:Int,0<=j->j<k->eu (a j.toNat) (b j.toNat)=true)) (fun k=>(8-k).toNat) (0) ⟨Fr.refl _ _,bY,rfl,J,J,fun j u v=>absurd v J⟩<| ?_
 rintro k sg7 w7 ⟨D7,eC,ajU,h0,hk,hf⟩
 obtain⟨ajR,WA⟩:=D7.w2 2 3
 refine SR<|V (aN ajU O)<|aa<|ai<|aF O (fun h9=> ?_) (fun h9=> ?_)
 .refine an<|ai<|aA<|SR<|aE ajU<|aI rfl<|aa<|ai<|ec aP eC<|fun EB df=>have iO:=df;AQ 0 O iO (mV (I _) O)<|AQ 1 O iO (a6 bI cP ajR O J)<|tV 2 O iO dM 1 O O (jJ _ J)<|AQ 3 O iO (mV (I _) O)<|AQ 4 O iO (a6 bI cP WA O J)<|tV 5 O iO dM 0 O O (jJ _ J)<|A1 6<|ct O aD O df sR (FI _ _ _) (aL call140 O O)<|fun y8 bX=>AQ 7 O bX (bJ O)<|AD<|bW O (fun yj=> ?_) (fun yj=> ?_)
  .refine SR<|va (v:=B false) rfl<|aa<|aj<|oB O ?_ bX
   exact(agV h0 aQ (nt aQ)).symm
  refine an<|au<|V (ax ajU O J)<|mI rfl<|aa<| ?_
  refine⟨k+1,aW,D7.u4.u4.u4.u1,bX,(aK I aM),J,J,?_⟩
  exact fun j u v=>if e:j=k then e▸nf ‹_›else hf j u J
 refine a7 (id:=0) rfl<|SR<|va (v:=B true) rfl<|aa<|aj<|oB O ?_ eC
 exact(abd aQ hf).symm
theorem Tp(s:kP)(a b:El)(w:World)(hs:k7 (Kw w) s)(hT:o3 w):Calls Tryz.prog 170 #[.agg (qJ s),.agg (iM a),.agg (iM b)] w (Pure (.agg (iM (ef s.sh a b))) w):=by
 have hsl:=po s
 have hm:=hs.aY.sl.small
 unfold maxLen at hm
 refine eH func170 rfl rfl fun hH=>SR<|gM hH (v:= .agg _) rfl<|fun b3 w1 bp=>gM bp (v:= .agg _) rfl<|fun b6 w4 bY=>gM bY (v:= .agg _) rfl<|fun b9 w7 eX=>lJ eX (aS e8)<|fun b12 EB df=>aa<|ai<|SR<|aE (v:=I 0) rfl<|aa<|aA<|bt (G:=Int×El) (fun⟨k,e1⟩ s' w'=>(Fr (rg 7 42 []) _ s')/\(Hp w w' (_::_:: .blk b6 (.cells (iM e1) 37 (0,0))::_))/\(s' 8=I k)/\(0<=k)/\(k<=8)/\(e1=m7 (ef s.sh a b) a k)) (fun⟨k,e1⟩=>(8-k).toNat) ((0,a)) ⟨Fr.refl _ _,df,rfl,J,J,(vJ _ _).symm⟩<| ?_
 rintro⟨k,e1⟩ aac C0 ⟨rX,bX,WG,h0,hk,hr⟩
 obtain⟨xw,Bo,EF,Bp⟩:=rX.w4 3 4 5 6
 refine SR<|V (aN WG O)<|aa<|ai<|aF O (fun D6=> ?_) (fun D6=> ?_)
 .refine an<|ai<|aA<|SR<|aE WG<|aI rfl<|aa<|ai<|SR<|mI rfl<|V (fA dm 1 O jC xw)<|lV dr bX 3 O O rfl<|V (aC (hs.aY.sl.hp bX) O dr O)<|V (aN O O)<|mB rfl<|bM 16 O (fun G5=> ?_) (fun G5=> ?_)
  .refine V (fA dm 1 O jC xw)<|lV dr bX 3 O O rfl<|mI rfl<|V (ah (hs.aY.sl.hp bX) dr qb O O J)<|V (fA dy 0 O aO O)<|V (gB (dv:=iB) fy (hs.aY.sl.hp bX) bx O O J O)<|V (bU O O)<|mB rfl<|aa<|aF O (fun NT=> ?_) (fun NT=> ?_)
   .refine ai<|gD aP bX (sP (sP (sQ sR)))<|fun ZZ fI=>have oD:=fI.sub (sP (sP (sQ sR)));AQ 0 O oD (mV (I _) O)<|AQ 1 O oD (fA dm 1 O jC xw)<|tV 2 O oD dr 2 O O rfl<|AQ 3 O oD (mV (I _) O)<|AT 4 O oD (fun w hS=>ah (hs.aY.sl.hp hS) dr qb O O J)<|AQ 5 O oD (fA dy 2 O iW O)<|AT 6 O oD (fun w hS=>UQ (hs.aY.sl.hp hS) bS O O O J)<|AQ 7 O oD (mV (I _) O)<|AQ 8 O oD (a6 bI cP Bo O J)<|AQ 10 O oD (mV (I _) O)<|AQ 11 O oD (a6 bI cP EF O J)<|tV 12 O oD dM 1 O O (jJ _ J)<|A1 9<|cf O aD O fI (sP (sP (sQ sR))) (aG dM O O (fI.cell (i:=2) O (jJ _ J)))<|A1 13<|ct O aD O fI (sP (sP (sQ sR))) (Pd _ _ _ _ (hT.hp fI)) (bz call205 O O O)<|fun w24 n9=>AQ 14 O (n9.sub (sP (sP (sQ sR)))) (a6 bI cP Bo O J)<|A1 15<|ed O aD n9 (j:=2) O (sP (sP (sQ sR))) (bL O O (v:=U _) O O O (n9.blk (i:=2) O) xY)<|fun w28 gj=> ?_
    rw[n5]at gj
    refine AD<|a7 (id:=1) rfl<|au<|V (ax WG O J)<|mI rfl<|aa<| ?_
    refine⟨(k+1,_),aW,rX.u4.u4.u4.u4.u4.u4.u4.u4.u1.u1,gj,(aK I aM),J,J,?_⟩
    exact adE hr h0 aQ aQ
   refine an<|gD aP bX (sP (sP (sQ sR)))<|fun w30 gT=>have AM:=gT.sub (sP (sP (sQ sR)));AQ 0 O AM (mV (I _) O)<|AQ 1 O AM (a6 bI cP Bo O J)<|AQ 3 O AM (mV (I _) O)<|AQ 4 O AM (a6 bI cP EF O J)<|tV 5 O AM dM 1 O O (jJ _ J)<|A1 2<|cf O aD O gT (sP (sP (sQ sR))) (aG dM O O (gT.cell (i:=2) O (jJ _ J)))<|AQ 6 O AM (iH O O)<|AQ 7 O AM (a6 bI cP Bo O J)<|A1 8<|ed O aD gT (j:=2) O (sP (sP (sQ sR))) (bL O O (v:=U _) O O O (gT.blk (i:=2) O) xY)<|fun w36 uy=> ?_
   rw[n5]at uy
   refine AD<|au<|V (ax WG O J)<|mI rfl<|aa<| ?_
   refine⟨(k+1,_),aW,rX.u4.u4.u4.u4.u4.u4.u1.u1.u1,uy,(aK I aM),J,J,?_⟩
   exact PU hr h0 (fun hc=>absurd hc.1 J)
  refine aE (v:=B false) rfl<|aa<|cQ rfl<|an<|gD aP bX (sP (sP (sQ sR)))<|fun w38 kD=>have C7:=kD.sub (sP (sP (sQ sR)));AQ 0 O C7 (mV (I _) O)<|AQ 1 O C7 (a6 bI cP Bo O J)<|AQ 3 O C7 (mV (I _) O)<|AQ 4 O C7 (a6 bI cP EF O J)<|tV 5 O C7 dM 1 O O (jJ _ J)<|A1 2<|cf O aD O kD (sP (sP (sQ sR))) (aG dM O O (kD.cell (i:=2) O (jJ _ J)))<|AQ 6 O C7 (iH O O)<|AQ 7 O C7 (a6 bI cP Bo O J)<|A1 8<|ed O aD kD (j:=2) O (sP (sP (sQ sR))) (bL O O (v:=U _) O O O (kD.blk (i:=2) O) xY)<|fun w44 rZ=> ?_
  rw[n5]at rZ
  refine AD<|au<|V (ax WG O J)<|mI rfl<|aa<| ?_
  refine⟨(k+1,_),aW,rX.u4.u4.u4.u4.u4.u4.u1.u1.u1,rZ,(aK I aM),J,J,?_⟩
  exact PU hr h0 (fun hc=>absurd hc.1 J)
 refine a7 (id:=0) rfl<|SR<|V (cM bI O O Bo (bX.blk (i:=2) O))<|bg bX (i:=0) O (cR O Bp O (bX.blk (i:=0) O))<|fun w46 oS=>aa<|aj<|rz O Bp oS (i:=0) O bI O jI ⟨?_,oS.below⟩
 (exact aK Value.agg (l6 LB))
theorem Tq(a b:El)(w:World):Calls Tryz.prog 171 #[.agg (iM a),.agg (iM b)] w (Pure (.agg (iM (o4 a b))) w):=by
 refine eH func171 rfl rfl fun hH=>SR<|gM hH (v:= .agg _) rfl<|fun b3 w1 bp=>gM bp (v:= .agg _) rfl<|fun b6 w4 bY=>lJ bY (aS e8)<|fun b9 w7 eX=>aa<|ai<|SR<|aE (v:=I 0) rfl<|aa<|aA<|bt (G:=Int×El) (fun⟨k,e1⟩ s' w'=>(Fr (rg 5 13 []) _ s')/\(Hp w w' (_::_:: .blk b3 (.cells (iM e1) 37 (0,0))::_))/\(s' 6=I k)/\(0<=k)/\(k<=8)/\(e1=m7 (o4 a b) a k)) (fun⟨k,e1⟩=>(8-k).toNat) ((0,a)) ⟨Fr.refl _ _,eX,rfl,J,J,(vJ _ _).symm⟩<| ?_
 rintro⟨k,e1⟩ Wx EB ⟨nT,cg,ww,h0,hk,hr⟩
 obtain⟨xz,pW,QL⟩:=nT.w3 2 3 4
 refine SR<|V (aN ww O)<|aa<|ai<|aF O (fun h12=> ?_) (fun h12=> ?_)
 .refine an<|ai<|aA<|SR<|aE ww<|aI rfl<|aa<|gD aP cg (sP (sP (sQ sR)))<|fun C0 cG=>have yu:=cG.sub (sP (sP (sQ sR)));AQ 0 O yu (mV (I _) O)<|AQ 1 O yu (a6 bI cP xz O J)<|AQ 3 O yu (mV (I _) O)<|AQ 4 O yu (a6 bI cP pW O J)<|tV 5 O yu dM 1 O O (jJ _ J)<|A1 2<|cf O aD O cG (sP (sP (sQ sR))) (aG dM O O (cG.cell (i:=2) O (jJ _ J)))<|AQ 6 O yu (lY O O)<|AQ 7 O yu (a6 bI cP xz O J)<|A1 8<|ed O aD cG (j:=2) O (sP (sP (sQ sR))) (bL O O (v:=U _) O O O (cG.blk (i:=2) O) xY)<|fun Tj cT=> ?_
  rw[n5]at cT
  refine AD<|au<|V (ax ww O J)<|mI rfl<|aa<| ?_
  refine⟨(k+1,_),aW,nT.u4.u4.u4.u1,cT,(aK I aM),J,J,?_⟩
  exact ahb hr h0
 refine a7 (id:=0) rfl<|SR<|V (cM bI O O xz (cg.blk (i:=2) O))<|bg cg (i:=0) O (cR O QL O (cg.blk (i:=0) O))<|fun NL cD=>aa<|aj<|rz O QL cD (i:=0) O bI O jI ⟨?_,cD.below⟩
 (exact aK Value.agg (l6 LB))
theorem Tr(s:kP)(fi:FuncId)(gg:Fc->BitVec 64)(w:World)(hs:k7 (Kw w) s)(hf:∀args w,(callFunc fi args).run Tryz.prog w= .ok (.enter fi args) w)(go:∀f w',wJ (Kw w') f->o3 w'->Calls Tryz.prog fi #[.agg (uR f)] w' (Pure (U (gg f.fc)) w'))(hT:o3 w):Calls Tryz.prog 99 #[.agg (qJ s),.func (.func fi) #[] #[]] w (Pure (.agg (iM (gI s.sh gg))) w):=by
 have hsl:=po s
 have hm:=hs.aY.sl.small
 unfold maxLen at hm
 refine eH func99 rfl rfl fun hH=>SR<|gM hH (v:= .agg _) rfl<|fun b3 w1 bp=>lJ bp (aS e8)<|fun b6 w4 bY=>aa<|SR<|lJ bY (aS e8)<|fun b9 w7 eX=>aa<|ai<|SR<|V (cF (cs:=[B _,_]) dm O O O (bj (eX.blk (i:=2) O)))<|aH O eX (yt _ _ (hs.mono eX.kw) (hT.hp eX)) (ay call50 O)<|fun EB df=>aa<|bW O (fun Th=> ?_) (fun Th=> ?_)
 .refine SR<|V (fA dm 1 O jC O)<|lV dr df 2 O O rfl<|V (aC (hs.aY.sl.hp df) O dr O)<|aE (v:=I 0) rfl<|aa<|aA<|have hln:=(n4 ‹mC s.sh=true›).1;bt (G:=Int×El) (fun⟨k,e1⟩ s' w'=>(Fr (6::7::(rg 13 11 [])) _ s')/\(Hp w w' (.blk b9 (.cells (iM e1) 37 (0,0))::_))/\(s' 13=I k)/\(0<=k)/\(k<=s.aY.length)/\(e1=m7 (gI s.sh gg) dg k)) (fun⟨k,e1⟩=>(s.aY.length-k).toNat) ((0,dg)) ⟨Fr.refl _ _,df,rfl,J,J,(vJ _ _).symm⟩<| ?_
  rintro⟨k,e1⟩ ZW QH ⟨mO,cG,Ts,h0,hk,hr⟩
  have NK:=mO.vv 1 (a:= .func _ _ _) rfl rfl
  obtain⟨Ez,xA,NN,ato⟩:=mO.w4 4 5 11 12
  refine SR<|V (aN Ts ato)<|aa<|ai<|aF O (fun yj=> ?_) (fun yj=> ?_)
  .refine an<|ai<|aA<|SR<|aE Ts<|V (ah (hs.aY.sl.hp cG) dr qb NN Ts J)<|V (dY (dv:=iB) fy (hs.aY.sl.hp cG) dy O O O J)<|lJ cG (aS tR)<|fun Z6 Ti dP=>aI rfl<|bg dP (i:=0) O (sI (hs.at J J) O O O (dP.blk (i:=0) O))<|fun ZZ fI=>aa<|au<|mI rfl<|aE NK<|V (yJ dy O O O (fI.blk (i:=0) O))<|aH O fI (go _ _ ((hs.at J J).mono fI.kw) (hT.hp fI)) (lB hf (cs:=[]) O O)<|fun QJ eM=>V (a6 bI cP xA O J)<|bg eM (i:=1) O (bL O O (v:=U _) O O O (eM.blk (i:=1) O) xY)<|fun w24 n9=> ?_
   rw[n5]at n9
   refine aa<|au<|V (ax Ts O J)<|mI rfl<|aa<| ?_
   refine⟨(k+1,_),aW,mO.u4.u4.u4.u1,(n9.sub (sQ sR)),(aK I aM),J,J,?_⟩
   (have hp:=CC ‹mC s.sh=true› hr h0 (show k<s.sh.aY.length by omega);rw[iF]at hp;exact hp)
  refine a7 (id:=0) rfl<|SR<|V (cM bI O O xA (cG.blk (i:=0) O))<|bg cG (i:=1) O (cR O Ez O (cG.blk (i:=1) O))<|fun Wv dK=>aa<|aj<|rz O Ez dK (i:=1) O bI O jI ⟨?_,dK.below⟩
  exact aK Value.agg (l6 (by rw[hr];exact UX J))
 refine an<|SR<|V (cM bI O O O (df.blk (i:=0) O))<|bg df (i:=1) O (cR O O O (df.blk (i:=1) O))<|fun w28 gj=>aa<|aj<|rz O O gj (i:=1) O bI O jI ⟨?_,gj.below⟩
 exact aK Value.agg (l6 (abh aQ))
theorem Pj(f:qw)(w:World)(hf:wJ (Kw w) f)(hT:o3 w):Calls Tryz.prog 100 #[.agg (uR f)] w (Pure (U (ew f.fc)) w):=by
 refine eH func100 rfl rfl fun hH=>SR<|gM hH (v:= .agg _) rfl<|fun b3 w1 bp=>va (v:=U 0#64) rfl<|aa<|ai<|SR<|V (fA dy 0 O aO O)<|lI bx bp 0 O O rfl<|V (kG O O)<|aa<|aF O (fun h5=> ?_) (fun h5=> ?_)
 .refine SR<|va (v:=U 0#64) rfl<|aa<|aj<|oU O ?_ bp
  exact(aX (show f.fc.kind≠4 from aQ)).symm
 refine an<|SR<|V (fA dy 2 O iW O)<|V (iT bS O O O (bp.blk (i:=0) O))<|aH O bp (N3 _ _ (hT.hp bp)) (ay call143 O)<|fun w6 eC=> ?_
 refine V (run_move bA) ?_
 refine V (bk O (v:=I _) O)<|V (bk O (v:=B _) O)<|aI rfl<|aB rfl<|aa<|SR<|V (fA dy 2 O iW O)<|V (iT bS O O O (eC.blk (i:=0) O))<|mI rfl<|aH O eC (oR _ _ _ (hT.hp eC)) (aL HP O O)<|fun w9 cg=>aU rfl<|aa<|aj<|oU O ?_ cg
 exact(aT (show¬f.fc.kind≠4 from aQ)).symm
theorem wx(s:kP)(w:World)(hs:k7 (Kw w) s)(hT:o3 w):Calls Tryz.prog 53 #[.agg (qJ s)] w (Pure (.agg (iM (gI s.sh ew))) w):=by
 refine eH func53 rfl rfl fun hH=>SR<|gM hH (v:= .agg _) rfl<|fun b3 w1 bp=>lJ bp (aS e8)<|fun b6 w4 bY=>aa<|SR<|V (cF (cs:=[B _,_]) dm O O O (bj (bY.blk (i:=1) O)))<|aH O bY (Tr s 100 ew _ (hs.mono bY.kw) call100 (fun f w h ht=>Pj f w h ht) (hT.hp bY)) (aL call99 O O)<|fun w7 eX=>bg eX (i:=0) O (cR O O O (eX.blk (i:=0) O))<|fun w9 cg=>aa<|aj<|rz O O cg (i:=0) O bI O jI ⟨?_,cg.below⟩
 rfl
theorem qG(f:qw)(w:World)(hf:wJ (Kw w) f):Calls Tryz.prog 112 #[.agg (uR f)] w (Pure (B (cZ f.fc)) w):=by
 have hm:=hf.names.sl.small
 unfold maxLen at hm
 refine eH func112 rfl rfl fun hH=>SR<|gM hH (v:= .agg _) rfl<|fun b3 w1 bp=>va (v:=B false) rfl<|aa<|SR<|V (fA dy 1 O pe O)<|lV dW bp 0 O O rfl<|V (aC (hf.names.sl.hp bp) O dW O)<|aI rfl<|aa<|ai<|SR<|mI rfl<|V (aN O O)<|mB rfl<|bM 10 O (fun h5=> ?_) (fun h5=> ?_)
 .refine aE (v:=B true) rfl<|mB rfl<|cC O rfl<|aE (v:=B true) rfl<|aa<|cA rfl<|SR<|va (v:=B false) rfl<|aa<|aj<|oB O ?_ bp
  exact(MA (f:=f.fc) (DH afC)).symm
 refine mI rfl<|V (dN O O)<|mB rfl<|mB rfl<|bM 14 O (fun h7=> ?_) (fun h7=> ?_)
 .refine aE (v:=B true) rfl<|aa<|cA rfl<|SR<|va (v:=B false) rfl<|aa<|aj<|oB O ?_ bp
  exact(MA (f:=f.fc) (DH afC)).symm
 refine V (fA dy 1 O pe O)<|lV dW bp 0 O O rfl<|aH O bp (j5 _ _ _ (hf.names.sl.hp bp)) (ay call75 O)<|fun w8 iE=>V (dF O O)<|mB rfl<|aa<|aF O (fun h11=> ?_) (fun h11=> ?_)
 .refine SR<|va (v:=B false) rfl<|aa<|aj<|oB O ?_ iE
  exact(MA (f:=f.fc) (PJ (by show¬yH f.names<0;omega))).symm
 refine an<|ai<|SR<|va (v:=I 0) rfl<|aa<|aA<|have hn1:1<=f.names.length/\f.names.length<=64:=J;have Qa:yH f.names<0:=J;bt (G:=Int) (fun k s' w'=>(Fr (2::(4::(rg 20 12 []))) _ s')/\(Hp w w' _)/\(s' 4=I k)/\(0<=k)/\(k<=f.names.length)/\(∀j:Int,0<=j->j<k->iQ (f.names.getD j.toNat qe)=true)) (fun k=>(f.names.length-k).toNat) (0) ⟨Fr.refl _ _,iE,rfl,J,J,fun j a b=>absurd b J⟩<| ?_
 rintro k Z4 y8 ⟨mi,cN,tU,h0,hk,hg⟩
 obtain⟨o8,kN⟩:=mi.w2 1 3
 refine ai<|SR<|aE tU<|aE kN<|V (aN O O)<|aa<|aF O (fun F4=> ?_) (fun F4=> ?_)
 .refine an<|ai<|aA<|SR<|V (fA dy 1 O pe o8)<|lV dW cN 0 O O rfl<|aE tU<|V (ah (hf.names.sl.hp cN) dW ko O O J)<|V (aG iy O O ((hf.names.sl.hp cN).cell _ _ (Cy J)))<|aH O cN (iK _ _) (ay call74 O)<|fun Tf cI=>V (bJ O)<|aa<|bW O (fun NT=> ?_) (fun NT=> ?_)
  .refine SR<|va (v:=B false) rfl<|aa<|aj<|oB O ?_ cI
   exact(MA (f:=f.fc) (PK h0 aQ (nt aQ))).symm
  refine an<|au<|aE tU<|V (ax O O J)<|aI rfl<|aa<| ?_
  refine⟨k+1,aW,mi.u4.u4.u4.u1,cI,(aK I aM),J,J,?_⟩
  exact fun j a b=>if e:j=k then e▸nf ‹_›else hg j a J
 refine a7 (id:=0) rfl<|ai<|SR<|V (fA dy 0 O aO o8)<|lI bx cN 0 O O rfl<|V (bU O O)<|mB rfl<|bM 35 O (fun N2=> ?_) (fun N2=> ?_)
 .refine aE (v:=B true) rfl<|aa<|cA rfl<|SR<|V (fA dy 2 O iW o8)<|V (iT bS O O O (cN.blk (i:=0) O))<|aH O cN (bN _ _) (ay nO O)<|fun QJ eM=>V (bU O O)<|aB rfl<|aa<|aj<|oB O ?_ eM
  (have hny:ir f.names=true:=qv hn1 Qa ‹¬k<_› hg;exact(YS (f:=f.fc) hny (.inl aQ)).symm)
 refine V (fA dy 0 O aO o8)<|lI bx cN 0 O O rfl<|V (bU O O)<|mB rfl<|aa<|aF O (fun Wp=> ?_) (fun Wp=> ?_)
 .refine SR<|V (fA dy 2 O iW o8)<|V (iT bS O O O (cN.blk (i:=0) O))<|aH O cN (bN _ _) (ay nO O)<|fun w27 iJ=>V (bU O O)<|aB rfl<|aa<|aj<|oB O ?_ iJ
  (have hny:ir f.names=true:=qv hn1 Qa ‹¬k<_› hg;exact(YS (f:=f.fc) hny (.inr aQ)).symm)
 refine an<|ai<|SR<|V (fA dy 0 O aO o8)<|lI bx cN 0 O O rfl<|V (bU O O)<|aa<|aF O (fun h31=> ?_) (fun h31=> ?_)
 .refine SR<|V (fA dy 2 O iW o8)<|V (fA bS 0 O aO O)<|lI bx cN 0 O O rfl<|aE kN<|V (bU O O)<|mB rfl<|bM 52 O (fun Pk=> ?_) (fun Pk=> ?_)
  .refine V (fA dy 2 O iW o8)<|V (iT bS O O O (cN.blk (i:=0) O))<|aH O cN (mQ _ _) (ay call146 O)<|fun w34 uX=>mB rfl<|aB rfl<|aa<|aj<|oB O ?_ uX
   (have hny:ir f.names=true:=qv hn1 Qa ‹¬k<_› hg;exact(ag9 (f:=f.fc) hny aQ aQ).symm)
  refine aE (v:=B false) rfl<|aB rfl<|aa<|aj<|oB O ?_ cN
  (have hny:ir f.names=true:=qv hn1 Qa ‹¬k<_› hg;exact(ag7 (f:=f.fc) aQ aQ).symm)
 refine an<|SR<|V (fA dy 0 O aO o8)<|lI bx cN 0 O O rfl<|V (bU O O)<|mB rfl<|bM 60 O (fun h38=> ?_) (fun h38=> ?_)
 .refine V (fA dy 2 O iW o8)<|V (fA bS 0 O aO O)<|lI bx cN 0 O O rfl<|aE kN<|V (bU O O)<|mB rfl<|mB rfl<|bM 67 O (fun h40=> ?_) (fun h40=> ?_)
  .refine V (fA dy 2 O iW o8)<|V (iT bS O O O (cN.blk (i:=0) O))<|aH O cN (yp _ _) (ay call151 O)<|fun w41 qN=>mB rfl<|aB rfl<|aa<|aj<|oB O ?_ qN
   (have hny:ir f.names=true:=qv hn1 Qa ‹¬k<_› hg;exact(aha (f:=f.fc) hny aQ aQ).symm)
  refine aE (v:=B false) rfl<|aB rfl<|aa<|aj<|oB O ?_ cN
  (have hny:ir f.names=true:=qv hn1 Qa ‹¬k<_› hg;exact(ag8 (f:=f.fc) aQ aQ).symm)
 refine aE (v:=B false) rfl<|mB rfl<|cC O rfl<|aE (v:=B false) rfl<|aB rfl<|aa<|aj<|oB O ?_ cN
 (have hny:ir f.names=true:=qv hn1 Qa ‹¬k<_› hg;exact(ao4 (f:=f.fc) aQ aQ aQ aQ).symm)
theorem mR(s:kP)(w:World)(hs:k7 (Kw w) s):Calls Tryz.prog 73 #[.agg (qJ s)] w (Pure (B (mC s.sh)) w):=by
 have hsl:=po s
 have hm:=hs.aY.sl.small
 unfold maxLen at hm
 refine eH func73 rfl rfl fun hH=>SR<|gM hH (v:= .agg _) rfl<|fun b3 w1 bp=>va (v:=B false) rfl<|aa<|ai<|SR<|V (fA dm 1 O jC O)<|lV dr bp 0 O O rfl<|V (aC (hs.aY.sl.hp bp) O dr O)<|V (aN O O)<|mB rfl<|bM 8 O (fun h5=> ?_) (fun h5=> ?_)
 .refine aE (v:=B true) rfl<|mB rfl<|cC O rfl<|gm O O rfl<|gm O O rfl<|gm O O rfl<|gm O O rfl<|zO<|aE (v:=B true) rfl<|aa<|cA rfl<|SR<|va (v:=B false) rfl<|aa<|aj<|oB O ?_ bp
  exact(KK J).symm
 refine V (fA dm 1 O jC O)<|lV dr bp 0 O O rfl<|V (aC (hs.aY.sl.hp bp) O dr O)<|V (dN O O)<|mB rfl<|mB rfl<|bM 14 O (fun h7=> ?_) (fun h7=> ?_)
 .refine gm O O rfl<|gm O O rfl<|gm O O rfl<|gm O O rfl<|zO<|aE (v:=B true) rfl<|aa<|cA rfl<|SR<|va (v:=B false) rfl<|aa<|aj<|oB O ?_ bp
  exact(KK J).symm
 refine V (fA dm 0 O oh O)<|V (aG uk O O (bp.cell (i:=0) O (v:=B _) O))<|V (bJ O)<|mB rfl<|eF 18 O (fun h10=> ?_) (fun h10=> ?_)
 .refine V (fA dm 1 O jC O)<|lV dr bp 0 O O rfl<|V (aC (hs.aY.sl.hp bp) O dr O)<|V (kG O O)<|mB rfl<|mB rfl<|aa<|aF O (fun h12=> ?_) (fun h12=> ?_)
  .refine SR<|va (v:=B false) rfl<|aa<|aj<|oB O ?_ bp
   exact(abc (by exact nt aQ) J).symm
  refine an<|ai<|SR<|va (v:=I 0) rfl<|aa<|aA<|have hc2:s.sh.tuple=true\/s.sh.aY.length=1:=(by exact .inr J);have Y1:1<=s.aY.length/\s.aY.length<=8:=J;bt (G:=Int) (fun k s' w'=>(Fr (2::3::(rg 25 14 [])) _ s')/\(Hp w w' _)/\(s' 3=I k)/\(0<=k)/\(k<=s.aY.length)/\(∀j:Int,0<=j->j<k->cZ (s.aY.getD j.toNat iB).fc=true)) (fun k=>(s.aY.length-k).toNat) (0) ⟨Fr.refl _ _,bp,rfl,J,J,fun j a b=>absurd b J⟩<| ?_
  rintro k aac C0 ⟨rX,bX,xw,h0,hk,hg⟩
  have G1:=rX.w1 1
  refine ai<|SR<|aE xw<|V (fA dm 1 O jC G1)<|lV dr bX 0 O O rfl<|V (aC (hs.aY.sl.hp bX) O dr O)<|V (aN O O)<|aa<|aF O (fun D6=> ?_) (fun D6=> ?_)
  .refine an<|ai<|aA<|SR<|V (fA dm 1 O jC G1)<|lV dr bX 0 O O rfl<|aE xw<|V (ah (hs.aY.sl.hp bX) dr qb O O J)<|V (dY (dv:=iB) fy (hs.aY.sl.hp bX) dy O O O J)<|aH O bX (qG _ _ ((hs.at J J).mono bX.kw)) (ay call112 O)<|fun I4 ep=>V (bJ O)<|aa<|bW O (fun OT=> ?_) (fun OT=> ?_)
   .refine SR<|va (v:=B false) rfl<|aa<|aj<|oB O ?_ ep
    exact(KL (k:=k) h0 J HT).symm
   refine an<|au<|aE xw<|V (ax O O J)<|aI rfl<|aa<| ?_
   refine⟨k+1,aW,rX.u4.u4.u4.u1.u1.u1,ep,(aK I aM),J,J,?_⟩
   exact fun j a b=>if e:j=k then e▸nf ‹_›else hg j a J
  refine a7 (id:=0) rfl<|SR<|va (v:=B true) rfl<|aa<|aj<|oB O ?_ bX
  exact(KM (k:=k) J hc2 J fun j a b=>by rw[iF];exact hg j a b).symm
 refine aE (v:=B false) rfl<|mB rfl<|aa<|cQ rfl<|an<|ai<|SR<|va (v:=I 0) rfl<|aa<|aA<|have hc2:s.sh.tuple=true\/s.sh.aY.length=1:=(by exact .inl (nf ‹(!s.tuple)=false›));have Y1:1<=s.aY.length/\s.aY.length<=8:=J;bt (G:=Int) (fun k s' w'=>(Fr (2::3::(rg 25 14 [])) _ s')/\(Hp w w' _)/\(s' 3=I k)/\(0<=k)/\(k<=s.aY.length)/\(∀j:Int,0<=j->j<k->cZ (s.aY.getD j.toNat iB).fc=true)) (fun k=>(s.aY.length-k).toNat) (0) ⟨Fr.refl _ _,bp,rfl,J,J,fun j a b=>absurd b J⟩<| ?_
 rintro k aEz NL ⟨aeD,fI,NO,h0,hk,hg⟩
 have ap9:=aeD.w1 1
 refine ai<|SR<|aE NO<|V (fA dm 1 O jC ap9)<|lV dr fI 0 O O rfl<|V (aC (hs.aY.sl.hp fI) O dr O)<|V (aN O O)<|aa<|aF O (fun FK=> ?_) (fun FK=> ?_)
 .refine an<|ai<|aA<|SR<|V (fA dm 1 O jC ap9)<|lV dr fI 0 O O rfl<|aE NO<|V (ah (hs.aY.sl.hp fI) dr qb O O J)<|V (dY (dv:=iB) fy (hs.aY.sl.hp fI) dy O O O J)<|aH O fI (qG _ _ ((hs.at J J).mono fI.kw)) (ay call112 O)<|fun w24 n9=>V (bJ O)<|aa<|bW O (fun Wt=> ?_) (fun Wt=> ?_)
  .refine SR<|va (v:=B false) rfl<|aa<|aj<|oB O ?_ n9
   exact(KL (k:=k) h0 J HT).symm
  refine an<|au<|aE NO<|V (ax O O J)<|aI rfl<|aa<| ?_
  refine⟨k+1,aW,aeD.u4.u4.u4.u1.u1.u1,n9,(aK I aM),J,J,?_⟩
  exact fun j a b=>if e:j=k then e▸nf ‹_›else hg j a J
 refine a7 (id:=0) rfl<|SR<|va (v:=B true) rfl<|aa<|aj<|oB O ?_ fI
 exact(KM (k:=k) J hc2 J fun j a b=>by rw[iF];exact hg j a b).symm
theorem BM(f:qw)(s:BitVec 64)(hfr:cZ f.fc=true)(w:World)(hf:wJ (Kw w) f):Calls Tryz.prog 115 #[.agg (uR f),U s] w (Pure (B (kx f.fc s)) w):=by
 have hm:=hf.names.sl.small
 unfold maxLen at hm
 refine eH func115 rfl rfl fun hH=>SR<|gM hH (v:= .agg _) rfl<|fun b3 w1 bp=>va (v:=B false) rfl<|aa<|ai<|SR<|V (fA dy 0 O aO O)<|lI bx bp 0 O O rfl<|V (bU O O)<|aa<|aF O (fun h5=> ?_) (fun h5=> ?_)
 .refine SR<|V (fA dy 1 O pe O)<|lV dW bp 0 O O rfl<|V (aC (hf.names.sl.hp bp) O dW O)<|mU rfl<|aH O bp (Au _ _ _) (aL call152 O O)<|fun w6 eC=> ?_
  refine V (run_move bA) ?_
  refine V (bk O (v:=I _) O)<|V (bk O (v:=B _) O)<|aI rfl<|aB rfl<|aa<|SR<|mB rfl<|aB rfl<|aa<|aj<|oB O ?_ eC
  exact(PM (f:=f.fc) aQ s).symm
 refine an<|ai<|SR<|V (fA dy 0 O aO O)<|lI bx bp 0 O O rfl<|V (bU O O)<|aa<|aF O (fun h10=> ?_) (fun h10=> ?_)
 .refine SR<|mU rfl<|V (fA dy 1 O pe O)<|lV dW bp 0 O O rfl<|V (aC (hf.names.sl.hp bp) O dW O)<|aH O bp (j3 _ _) (ay call119 O)<|fun I2 cN=>aH O cN (tT _ _ _) (aL call55 O O)<|fun C0 cG=>aB rfl<|aa<|aj<|oB O ?_ cG
  exact(PN (f:=f.fc) aQ s).symm
 refine an<|ai<|SR<|V (fA dy 0 O aO O)<|lI bx bp 0 O O rfl<|V (bU O O)<|aa<|aF O (fun G5=> ?_) (fun G5=> ?_)
 .refine SR<|V (fA dy 2 O iW O)<|V (iT bS O O O (bp.blk (i:=0) O))<|mU rfl<|aH O bp (AJ _ _ _) (aL call153 O O)<|fun K0 iD=>mU rfl<|V (jO O O)<|aB rfl<|aa<|aj<|oB O ?_ iD
  exact(arE (f:=f.fc) hfr aQ s).symm
 refine an<|SR<|V (fA dy 2 O iW O)<|V (iT bS O O O (bp.blk (i:=0) O))<|mU rfl<|aH O bp (mP _ _ _) (aL call120 O O)<|fun NL cD=> ?_
 refine V (run_move bA) ?_
 refine V (bk O (v:=I _) O)<|V (bk O (v:=B _) O)<|aI rfl<|aB rfl<|aa<|SR<|mB rfl<|aB rfl<|aa<|aj<|oB O ?_ cD
 exact(ao5 (f:=f.fc) aQ aQ aQ s).symm
theorem nU(s:kP)(e:El)(w:World)(hs:k7 (Kw w) s):Calls Tryz.prog 80 #[.agg (qJ s),.agg (iM e)] w (Pure (B (cJ s.sh e)) w):=by
 have hsl:=po s
 have hm:=hs.aY.sl.small
 unfold maxLen at hm
 refine eH func80 rfl rfl fun hH=>SR<|gM hH (v:= .agg _) rfl<|fun b3 w1 bp=>gM bp (v:= .agg _) rfl<|fun b6 w4 bY=>va (v:=B false) rfl<|aa<|ai<|SR<|V (cF (cs:=[B _,_]) dm O O O (bj (bY.blk (i:=1) O)))<|aH O bY (mR _ _ (hs.mono bY.kw)) (ay call73 O)<|fun w7 eX=>V (bJ O)<|aa<|bW O (fun h11=> ?_) (fun h11=> ?_)
 .refine SR<|va (v:=B false) rfl<|aa<|aj<|oB O ?_ eX
  exact(UM (nt aQ)).symm
 refine an<|ai<|SR<|va (v:=I 0) rfl<|aa<|aA<|have hr:mC s.sh=true:=nf aQ;bt (G:=Int) (fun k s' w'=>(Fr (4::5::(rg 9 34 [])) _ s')/\(Hp w w' _)/\(s' 5=I k)/\(0<=k)/\(k<=8)/\(Eo s.sh e k)) (fun k=>(8-k).toNat) (0) ⟨Fr.refl _ _,eX,rfl,J,J,Eo.none _ _⟩<| ?_
 rintro k Z4 y8 ⟨mi,cN,mE,h0,hk,hf⟩
 obtain⟨zc,kN⟩:=mi.w2 2 3
 refine ai<|SR<|aE mE<|V (aN O O)<|aa<|aF O (fun F4=> ?_) (fun F4=> ?_)
 .refine an<|ai<|aA<|ai<|ec aP cN<|fun Tf cI=>have tW:=cI;AQ 0 O tW (run_move mE)<|AQ 1 O tW (fA dm 1 O jC zc)<|tV 2 O tW dr 1 O O rfl<|AT 3 O tW (fun w hS=>aC (hs.aY.sl.hp hS) O dr O)<|AQ 4 O tW (aN O O)<|AQ 5 O tW (mV (B _) O)<|Cs (dj:=18) O (fun qk=> ?_) (fun qk=> ?_)
  .refine BQ 6 O O (bT qk) cI (fA dm 1 O jC zc)<|AG 7 O O (bT qk) cI (fun w hS=>aG dr O O (hS.cell (i:=1) O O))<|BQ 8 O O (bT qk) cI (run_move mE)<|AG 9 O O (bT qk) cI (fun w hS=>ah (hs.aY.sl.hp hS) dr qb O O J)<|AG 10 O O (bT qk) cI (fun w hS=>dY (dv:=iB) fy (hs.aY.sl.hp hS) dy O O O J)<|BQ 11 O O (bT qk) cI (run_move mE)<|BQ 12 O O (bT qk) cI (a6 bI cP kN O J)<|AG 13 O O (bT qk) cI (fun w hS=>aG dM O O (hS.cell (i:=0) O (jJ _ J)))<|A1 14<|ct O (A3 O (bT qk)) O cI sR (BM _ _ (by have hat:=Pt hr (k:=k) h0 J;rw[iF]at hat;exact hat) _ ((hs.at J J).mono cI.kw)) (aL call115 O O)<|fun Tj cT=>BQ 15 O O (bT qk) cT (bJ O)<|have rL:=cT;AQ 16 O rL (gL (bT qk) (v:=B _) O)<|AQ 17 O rL (mV (B _) O)<|LR (dj:=30) O (fun FK=> ?_) (fun FK=> ?_)
   .refine AK 18 O O (bR (c:=true) FK) cT<|AK 19 O O (bR (c:=true) FK) cT<|AK 20 O O (bR (c:=true) FK) cT<|AK 21 O O (bR (c:=true) FK) cT<|AK 22 O O (bR (c:=true) FK) cT<|AK 23 O O (bR (c:=true) FK) cT<|AU 24 O O O cT<|AU 25 O O O cT<|AU 26 O O O cT<|AU 27 O O O cT<|AK 28 O O (bR (c:=true) FK) cT<|AQ 29 O rL (gL (bR (c:=true) FK) (v:=B true) O)<|AD<|cA rfl<|SR<|va (v:=B false) rfl<|aa<|aj<|oB O ?_ cT
    exact(UN h0 aQ J HT).symm
   refine BQ 18 O O (bR (c:=false) FK) cT (run_move mE)<|BQ 19 O O (bR (c:=false) FK) cT (fA dm 1 O jC zc)<|AG 20 O O (bR (c:=false) FK) cT (fun w hS=>aG dr O O (hS.cell (i:=1) O O))<|AG 21 O O (bR (c:=false) FK) cT (fun w hS=>aC (hs.aY.sl.hp hS) O dr O)<|BQ 22 O O (bR (c:=false) FK) cT (dF O O)<|BQ 23 O O (bR (c:=false) FK) cT (mV (B _) O)<|Cs (dj:=36) O (fun I6=> ?_) (fun I6=> ?_)
   .refine BQ 24 O O (bT I6) cT (run_move mE)<|BQ 25 O O (bT I6) cT (a6 bI cP kN O J)<|AG 26 O O (bT I6) cT (fun w hS=>aG dM O O (hS.cell (i:=0) O (jJ _ J)))<|BQ 27 O O (bT I6) cT (vp O (b:=0#64) O)<|BQ 28 O O (bR (c:=false) FK) cT (gL (bT I6) (v:=B _) O)<|AQ 29 O rL (eo (bR (c:=false) FK) (v:=B _) O)<|AD<|aF O (fun h27=> ?_) (fun h27=> ?_)
    .refine SR<|va (v:=B false) rfl<|aa<|aj<|oB O ?_ cT
     exact(Ms h0 aQ J aQ).symm
    refine an<|au<|aE mE<|V (ax O O J)<|aI rfl<|aa<| ?_
    refine⟨k+1,aW,mi.u4.u4.u4.u4.u4.u4.u4.u4.u1.u1.u1,cT,(aK I aM),J,J,?_⟩
    exact hf.next (fun h=>by exfalso;omega) (fun h=>by exact HD aQ)
   refine AK 24 O O (bF I6) cT<|AK 25 O O (bF I6) cT<|AK 26 O O (bF I6) cT<|AK 27 O O (bF I6) cT<|BQ 28 O O (bR (c:=false) FK) cT (eo (bF I6) (v:=B false) O)<|AQ 29 O rL (eo (bR (c:=false) FK) (v:=B _) O)<|AD<|cQ rfl<|an<|au<|aE mE<|V (ax O O J)<|aI rfl<|aa<| ?_
   refine⟨k+1,aW,mi.u4.u4.u4.u4.u4.u4.u4.u4.u1.u1.u1,cT,(aK I aM),J,J,?_⟩
   exact hf.next (fun h=>by rw[iF];exact nf aQ) (fun h=>by exfalso;omega)
  refine AK 6 O O (bF qk) cI<|AK 7 O O (bF qk) cI<|AK 8 O O (bF qk) cI<|AK 9 O O (bF qk) cI<|AK 10 O O (bF qk) cI<|AK 11 O O (bF qk) cI<|AK 12 O O (bF qk) cI<|AK 13 O O (bF qk) cI<|AK 14 O O (bF qk) cI<|AK 15 O O (bF qk) cI<|AQ 16 O tW (eo (bF qk) (v:=B false) O)<|AQ 17 O tW (mV (B _) O)<|BQ 18 O O O cI (run_move mE)<|BQ 19 O O O cI (fA dm 1 O jC zc)<|AG 20 O O O cI (fun w hS=>aG dr O O (hS.cell (i:=1) O O))<|AG 21 O O O cI (fun w hS=>aC (hs.aY.sl.hp hS) O dr O)<|BQ 22 O O O cI (dF O O)<|BQ 23 O O O cI (mV (B _) O)<|Cs (dj:=36) O (fun rK=> ?_) (fun rK=> ?_)
  .refine BQ 24 O O (bT rK) cI (run_move mE)<|BQ 25 O O (bT rK) cI (a6 bI cP kN O J)<|AG 26 O O (bT rK) cI (fun w hS=>aG dM O O (hS.cell (i:=0) O (jJ _ J)))<|BQ 27 O O (bT rK) cI (vp O (b:=0#64) O)<|BQ 28 O O O cI (gL (bT rK) (v:=B _) O)<|AQ 29 O tW (eo O (v:=B _) O)<|AD<|aF O (fun h31=> ?_) (fun h31=> ?_)
   .refine SR<|va (v:=B false) rfl<|aa<|aj<|oB O ?_ cI
    exact(Ms h0 aQ J aQ).symm
   refine an<|au<|aE mE<|V (ax O O J)<|aI rfl<|aa<| ?_
   refine⟨k+1,aW,mi.u4.u4.u4.u4.u4.u4.u4.u4.u1.u1.u1,cI,(aK I aM),J,J,?_⟩
   exact hf.next (fun h=>by exfalso;omega) (fun h=>by exact HD aQ)
  refine AK 24 O O (bF rK) cI<|AK 25 O O (bF rK) cI<|AK 26 O O (bF rK) cI<|AK 27 O O (bF rK) cI<|BQ 28 O O O cI (eo (bF rK) (v:=B false) O)<|AQ 29 O tW (eo O (v:=B _) O)<|AD<|cQ rfl<|an<|au<|aE mE<|V (ax O O J)<|aI rfl<|aa<| ?_
  refine⟨k+1,aW,mi.u4.u4.u4.u4.u4.u4.u4.u4.u1.u1.u1,cI,(aK I aM),J,J,?_⟩
  exact hf.next (fun h=>by exfalso;omega) (fun h=>by exfalso;omega)
 refine a7 (id:=0) rfl<|SR<|va (v:=B true) rfl<|aa<|aj<|oB O ?_ cN
 exact(Mt hr aQ hf).symm
theorem oE(a b:El)(w:World):Calls Tryz.prog 22 #[.agg (iM a),.agg (iM b)] w (Pure (B (cS a b)) w):=by
 refine eH func22 rfl rfl fun hH=>SR<|gM hH (v:= .agg _) rfl<|fun b3 w1 bp=>gM bp (v:= .agg _) rfl<|fun b6 w4 bY=>va (v:=B false) rfl<|aa<|ai<|SR<|va (v:=I 0) rfl<|aa<|aA<|bt (G:=Int) (fun k s' w'=>(Fr (rg 4 14 []) _ s')/\(Hp w w' _)/\(s' 5=I k)/\(0<=k)/\(k<=8)/\(∀j:Int,0<=j->j<k->eu (a j.toNat) (b j.toNat)=true)) (fun k=>(8-k).toNat) (0) ⟨Fr.refl _ _,bY,rfl,J,J,fun j u v=>absurd v J⟩<| ?_
 rintro k sg7 w7 ⟨D7,eC,aoa,h0,hk,hf⟩
 obtain⟨ajR,WA⟩:=D7.w2 2 3
 refine ai<|SR<|aE aoa<|V (aN O O)<|aa<|aF O (fun h9=> ?_) (fun h9=> ?_)
 .refine an<|ai<|aA<|ai<|ec aP eC<|fun EB df=>have iO:=df;AQ 0 O iO (run_move aoa)<|AQ 1 O iO (a6 bI cP ajR O J)<|tV 2 O iO dM 1 O O (jJ _ J)<|AQ 3 O iO (run_move aoa)<|AQ 4 O iO (a6 bI cP WA O J)<|tV 5 O iO dM 0 O O (jJ _ J)<|A1 6<|ct O aD O df sR (tT _ _ _) (aL call55 O O)<|fun y8 bX=>AQ 7 O bX (bJ O)<|AD<|bW O (fun yj=> ?_) (fun yj=> ?_)
  .refine SR<|va (v:=B false) rfl<|aa<|aj<|oB O ?_ bX
   exact(agV h0 aQ (nt aQ)).symm
  refine an<|au<|aE aoa<|V (ax O O J)<|aI rfl<|aa<| ?_
  refine⟨k+1,aW,D7.u4.u4.u4.u1,bX,(aK I aM),J,J,?_⟩
  exact fun j u v=>if e:j=k then e▸nf ‹_›else hf j u J
 refine a7 (id:=0) rfl<|SR<|va (v:=B true) rfl<|aa<|aj<|oB O ?_ eC
 exact(abd aQ hf).symm
theorem sq(s:kP)(a b:El)(w:World)(hs:k7 (Kw w) s):Calls Tryz.prog 39 #[.agg (qJ s),.agg (iM a),.agg (iM b)] w (Pure (.agg (iM (ef s.sh a b))) w):=by
 have hsl:=po s
 have hm:=hs.aY.sl.small
 unfold maxLen at hm
 refine eH func39 rfl rfl fun hH=>SR<|gM hH (v:= .agg _) rfl<|fun b3 w1 bp=>gM bp (v:= .agg _) rfl<|fun b6 w4 bY=>gM bY (v:= .agg _) rfl<|fun b9 w7 eX=>lJ eX (aS e8)<|fun b12 EB df=>aa<|SR<|lJ df (aS e8)<|fun b15 C0 cG=>aa<|ai<|SR<|va (v:=I 0) rfl<|aa<|aA<|bt (G:=Int×El) (fun⟨k,e1⟩ s' w'=>(Fr (rg 8 43 []) _ s')/\(Hp w w' (.blk b15 (.cells (iM e1) 37 (0,0))::_))/\(s' 8=I k)/\(0<=k)/\(k<=8)/\(e1=m7 (ef s.sh a b) dg k)) (fun⟨k,e1⟩=>(8-k).toNat) ((0,dg)) ⟨Fr.refl _ _,cG,rfl,J,J,(vJ _ _).symm⟩<| ?_
 rintro⟨k,e1⟩ aae I4 ⟨nR,cI,pV,h0,hk,hr⟩
 obtain⟨oz,EE,za,aqa,ajW⟩:=nR.w5 3 4 5 6 7
 refine ai<|SR<|aE pV<|V (aN O O)<|aa<|aF O (fun qk=> ?_) (fun qk=> ?_)
 .refine an<|ai<|aA<|ai<|gD aP cI (sQ sR)<|fun Tj cT=>have rL:=cT.sub (sQ sR);AQ 0 O rL (run_move pV)<|AQ 1 O rL (run_move pV)<|AQ 2 O rL (a6 bI cP EE O J)<|tV 3 O rL dM 2 O O (jJ _ J)<|AQ 4 O rL (run_move pV)<|AQ 5 O rL (a6 bI cP za O J)<|tV 6 O rL dM 1 O O (jJ _ J)<|AQ 7 O rL (iH O O)<|AQ 8 O rL (a6 bI cP ajW O J)<|A1 9<|ed O aD cT (j:=0) O (sQ sR) (bL O O (v:=U _) O O O (cT.blk (i:=0) O) xY)<|fun w23 gY=> ?_
  rw[n5]at gY
  refine AD<|SR<|aE pV<|V (fA dm 1 O jC oz)<|lV dr gY 4 O O rfl<|V (aC (hs.aY.sl.hp gY) O dr O)<|V (aN O O)<|mB rfl<|bM 27 O (fun Wp=> ?_) (fun Wp=> ?_)
  .refine V (fA dm 1 O jC oz)<|lV dr gY 4 O O rfl<|aE pV<|V (ah (hs.aY.sl.hp gY) dr qb O O J)<|V (fA dy 0 O aO O)<|V (gB (dv:=iB) fy (hs.aY.sl.hp gY) bx O O J O)<|V (bU O O)<|mB rfl<|aa<|aF O (fun Wt=> ?_) (fun Wt=> ?_)
   .refine gD aP gY (sQ sR)<|fun w29 iV=>have I9:=iV.sub (sQ sR);AQ 0 O I9 (run_move pV)<|AQ 1 O I9 (fA dm 1 O jC oz)<|tV 2 O I9 dr 3 O O rfl<|AQ 3 O I9 (run_move pV)<|AT 4 O I9 (fun w hS=>ah (hs.aY.sl.hp hS) dr qb O O J)<|AQ 5 O I9 (fA dy 2 O iW O)<|AT 6 O I9 (fun w hS=>UQ (hs.aY.sl.hp hS) bS O O O J)<|AQ 7 O I9 (run_move pV)<|AQ 8 O I9 (a6 bI cP EE O J)<|tV 9 O I9 dM 2 O O (jJ _ J)<|AQ 10 O I9 (run_move pV)<|AQ 11 O I9 (a6 bI cP za O J)<|tV 12 O I9 dM 1 O O (jJ _ J)<|A1 13<|ct O aD O iV (sQ sR) (AH _ _ _ _) (bz call83 O O O)<|fun w31 iC=>AQ 14 O (iC.sub (sQ sR)) (a6 bI cP ajW O J)<|A1 15<|ed O aD iC (j:=0) O (sQ sR) (bL O O (v:=U _) O O O (iC.blk (i:=0) O) xY)<|fun w35 j4=> ?_
    rw[n5]at j4
    refine AD<|au<|aE pV<|V (ax O O J)<|aI rfl<|aa<| ?_
    refine⟨(k+1,_),aW,nR.u4.u4.u4.u4.u4.u4.u4.u4.u4.u4.u1.u1.u1,j4,(aK I aM),J,J,?_⟩
    exact YU hr h0 aQ aQ
   refine an<|au<|aE pV<|V (ax O O J)<|aI rfl<|aa<| ?_
   refine⟨(k+1,_),aW,nR.u4.u4.u4.u4.u4.u4.u4,gY,(aK I aM),J,J,?_⟩
   exact MB hr h0 (fun hc=>absurd hc.1 J)
  refine aE (v:=B false) rfl<|aa<|cQ rfl<|an<|au<|aE pV<|V (ax O O J)<|aI rfl<|aa<| ?_
  refine⟨(k+1,_),aW,nR.u4.u4.u4.u4.u4.u4.u4,gY,(aK I aM),J,J,?_⟩
  exact MB hr h0 (fun hc=>absurd hc.1 J)
 refine a7 (id:=0) rfl<|SR<|V (cM bI O O ajW (cI.blk (i:=0) O))<|bg cI (i:=1) O (cR O aqa O (cI.blk (i:=1) O))<|fun w37 uz=>aa<|aj<|rz O aqa uz (i:=1) O bI O jI ⟨?_,uz.below⟩
 (exact aK Value.agg (l6 LB))
theorem BN(a b:El)(w:World):Calls Tryz.prog 82 #[.agg (iM a),.agg (iM b)] w (Pure (.agg (iM (o4 a b))) w):=by
 refine eH func82 rfl rfl fun hH=>SR<|gM hH (v:= .agg _) rfl<|fun b3 w1 bp=>gM bp (v:= .agg _) rfl<|fun b6 w4 bY=>lJ bY (aS e8)<|fun b9 w7 eX=>aa<|SR<|lJ eX (aS e8)<|fun b12 EB df=>aa<|ai<|SR<|va (v:=I 0) rfl<|aa<|aA<|bt (G:=Int×El) (fun⟨k,e1⟩ s' w'=>(Fr (rg 6 14 []) _ s')/\(Hp w w' (.blk b12 (.cells (iM e1) 37 (0,0))::_))/\(s' 6=I k)/\(0<=k)/\(k<=8)/\(e1=m7 (o4 a b) dg k)) (fun⟨k,e1⟩=>(8-k).toNat) ((0,dg)) ⟨Fr.refl _ _,df,rfl,J,J,(vJ _ _).symm⟩<| ?_
 rintro⟨k,e1⟩ aac C0 ⟨rX,bX,Bp,h0,hk,hr⟩
 obtain⟨acm,xw,Bo,EF⟩:=rX.w4 2 3 4 5
 refine ai<|SR<|aE Bp<|V (aN O O)<|aa<|aF O (fun D6=> ?_) (fun D6=> ?_)
 .refine an<|ai<|aA<|gD aP bX (sQ sR)<|fun I4 ep=>have Tt:=ep.sub (sQ sR);AQ 0 O Tt (run_move Bp)<|AQ 1 O Tt (run_move Bp)<|AQ 2 O Tt (a6 bI cP acm O J)<|tV 3 O Tt dM 2 O O (jJ _ J)<|AQ 4 O Tt (run_move Bp)<|AQ 5 O Tt (a6 bI cP xw O J)<|tV 6 O Tt dM 1 O O (jJ _ J)<|AQ 7 O Tt (lY O O)<|AQ 8 O Tt (a6 bI cP EF O J)<|A1 9<|ed O aD ep (j:=0) O (sQ sR) (bL O O (v:=U _) O O O (ep.blk (i:=0) O) xY)<|fun ZZ fI=> ?_
  rw[n5]at fI
  refine AD<|au<|aE Bp<|V (ax O O J)<|aI rfl<|aa<| ?_
  refine⟨(k+1,_),aW,rX.u4.u4.u4.u1.u1,fI,(aK I aM),J,J,?_⟩
  exact adD hr h0
 refine a7 (id:=0) rfl<|SR<|V (cM bI O O EF (bX.blk (i:=0) O))<|bg bX (i:=1) O (cR O Bo O (bX.blk (i:=1) O))<|fun QJ eM=>aa<|aj<|rz O Bo eM (i:=1) O bI O jI ⟨?_,eM.below⟩
 (exact aK Value.agg (l6 LB))
theorem C8(s:kP)(t:Bool)(w:World)(hs:k7 (Kw w) s):Calls Tryz.prog 81 #[.agg (qJ s),B t] w (Pure (.agg (iM (gI s.sh (IE t)))) w):=by
 have hsl:=po s
 have hm:=hs.aY.sl.small
 unfold maxLen at hm
 refine eH func81 rfl rfl fun hH=>SR<|gM hH (v:= .agg _) rfl<|fun b4 w2 tY=>lJ tY (aS e8)<|fun b7 w5 jN=>aa<|SR<|lJ jN (aS e8)<|fun b10 w8 iE=>aa<|ai<|SR<|va (v:=I 0) rfl<|aa<|aA<|bt (G:=Int×El) (fun⟨k,e1⟩ s' w'=>(Fr (rg 6 67 []) _ s')/\(Hp w w' (.blk b10 (.cells (iM e1) 37 (0,0))::_))/\(s' 6=I k)/\(0<=k)/\(mC s.sh=true->k<=s.aY.length)/\(mC s.sh=true->e1=m7 (gI s.sh (IE t)) dg k)/\(mC s.sh=false->e1=dg)) (fun⟨k,e1⟩=>(9-k).toNat) ((0,dg)) ⟨Fr.refl _ _,iE,rfl,J,(fun h=>J),(fun _=>(vJ _ _).symm),fun _=>rfl⟩<| ?_
 rintro⟨k,e1⟩ axR I2 ⟨Ka,df,C9,h0,hk,hr,hz⟩
 obtain⟨EI,Wo,acn,G0⟩:=Ka.w4 1 2 4 5
 refine ai<|SR<|V (cF (cs:=[B _,_]) dm O O Wo (bj (df.blk (i:=2) O)))<|aH O df (mR _ _ (hs.mono df.kw)) (ay call73 O)<|fun y8 bX=>mB rfl<|eF 13 O (fun D6=> ?_) (fun D6=> ?_)
 .refine aE C9<|V (fA dm 1 O jC Wo)<|lV dr bX 2 O O rfl<|V (aC (hs.aY.sl.hp bX) O dr O)<|V (aN O O)<|mB rfl<|aa<|aF O (fun G5=> ?_) (fun G5=> ?_)
  .refine an<|ai<|aA<|SR<|V (fA dm 1 O jC Wo)<|lV dr bX 2 O O rfl<|aE C9<|V (ah (hs.aY.sl.hp bX) dr qb O O J)<|V (dY (dv:=iB) fy (hs.aY.sl.hp bX) dy O O O J)<|lJ bX (aS tR)<|fun b20 K0 iD=>bg iD (i:=0) O (sI (hs.at J J) O O O (iD.blk (i:=0) O))<|fun NL cD=>aa<|SR<|V (fA dy 1 O pe O)<|lV dW cD 0 O O rfl<|V (aC ((hs.at J J).names.sl.hp cD) O dW O)<|aI rfl<|aa<|SR<|V (fA dy 0 O aO O)<|lI bx cD 0 O O rfl<|V (bU O O)<|aa<|aF O (fun xu=> ?_) (fun xu=> ?_)
   .refine SR<|V (fA dy 2 O iW O)<|V (iT bS O O O (cD.blk (i:=0) O))<|aE EI<|aH O cD (C3 _ _ _) (aL call116 O O)<|fun w25 jf=> ?_
    refine V (run_move bA) ?_
    refine V (bk O (v:=I _) O)<|V (bk O (v:=B _) O)<|aI rfl<|aB rfl<|aa<|au<|aE C9<|V (fA dy 2 O iW O)<|V (iT bS O O O (jf.blk (i:=0) O))<|mI rfl<|aH O jf (nS _ _ _) (aL call117 O O)<|fun w28 gj=>V (a6 bI cP G0 O RK)<|bg gj (i:=1) O (bL O O (v:=U _) O O O (gj.blk (i:=1) O) RG)<|fun w30 gT=> ?_
    rw[n5]at gT
    refine aa<|au<|aE C9<|V (ax O O Ua)<|aI rfl<|aa<| ?_
    refine⟨(k+1,_),?_,Ka.u4.u4.u4.u4.u4.u4.u4.u4.u4.u4,(gT.sub (sQ sR)),(aK I aM),J,?_,?_,?_⟩
    .have hln:=(n4 ‹mC s.sh=true›).1;((try dsimp only);omega)
    .exact fun h=>by omega
    .exact fun _=>by((have hp:=CC (f:=IE t) ‹mC s.sh=true› (hr aQ) h0 (show k<s.sh.aY.length by omega);rw[iF,<-awt (t:=t) (show(s.aY.getD k.toNat iB).kind=4 from aQ)]at hp;exact hp))
    exact fun h=>by rw[‹mC s.sh=true›]at h;cases h
   refine SR<|aE EI<|mB rfl<|eF 47 O (fun BO=> ?_) (fun BO=> ?_)
   .refine V (fA dy 0 O aO O)<|lI bx cD 0 O O rfl<|V (bU O O)<|mB rfl<|aa<|aF O (fun h34=> ?_) (fun h34=> ?_)
    .refine au<|aE C9<|V (fA dy 2 O iW O)<|V (iT bS O O O (cD.blk (i:=0) O))<|aH O cD (C5 _ _) (ay call118 O)<|fun w35 j4=>V (a6 bI cP G0 O RK)<|bg j4 (i:=1) O (bL O O (v:=U _) O O O (j4.blk (i:=1) O) RG)<|fun w37 uz=> ?_
     rw[n5]at uz
     refine aa<|au<|aE C9<|V (ax O O Ua)<|aI rfl<|aa<| ?_
     refine⟨(k+1,_),?_,Ka.u4.u4.u4.u4.u4.u4.u4.u4.u4,(uz.sub (sQ sR)),(aK I aM),J,?_,?_,?_⟩
     .have hln:=(n4 ‹mC s.sh=true›).1;((try dsimp only);omega)
     .exact fun h=>by omega
     .exact fun _=>by((have hp:=CC (f:=IE t) ‹mC s.sh=true› (hr aQ) h0 (show k<s.sh.aY.length by omega);rw[iF,<-awu ‹t=true› (show(s.aY.getD k.toNat iB).kind=3 from aQ)]at hp;exact hp))
     exact fun h=>by rw[‹mC s.sh=true›]at h;cases h
    refine SR<|aE EI<|mB rfl<|cC O (bR (c:=true) BO)<|V (fA dy 0 O aO O)<|lI bx cD 0 O O rfl<|V (bU O O)<|mB rfl<|aa<|aF O (fun h40=> ?_) (fun h40=> ?_)
    .refine au<|aE C9<|mI rfl<|aH O cD (j3 _ _) (ay call119 O)<|fun w41 qN=>V (a6 bI cP G0 O RK)<|bg qN (i:=1) O (bL O O (v:=U _) O O O (qN.blk (i:=1) O) RG)<|fun w43 qm=> ?_
     rw[n5]at qm
     refine aa<|au<|aE C9<|V (ax O O Ua)<|aI rfl<|aa<| ?_
     refine⟨(k+1,_),?_,Ka.u4.u4.u4.u4.u4.u4.u4.u4.u4.u4.u1,(qm.sub (sQ sR)),(aK I aM),J,?_,?_,?_⟩
     .have hln:=(n4 ‹mC s.sh=true›).1;((try dsimp only);omega)
     .exact fun h=>by omega
     .exact fun _=>by((have hp:=CC (f:=IE t) ‹mC s.sh=true› (hr aQ) h0 (show k<s.sh.aY.length by omega);rw[iF,<-awv ‹t=true› (show(s.aY.getD k.toNat iB).kind=2 from aQ)]at hp;exact hp))
     exact fun h=>by rw[‹mC s.sh=true›]at h;cases h
    refine SR<|aE EI<|aa<|cA (bR (c:=true) BO)<|au<|aE C9<|mI rfl<|V (eO O O (by have afs:=Pt ‹mC s.sh=true› h0 (show k<s.sh.aY.length by omega);rw[iF]at afs;have:=(pE afs).1;have:(s.aY.getD k.toNat iB).fc.names=(s.aY.getD k.toNat iB).names:=rfl;((simp only[qw.fc]at*;omega))))<|aH O cD (j3 _ _) (ay call119 O)<|fun w45 oa=>V (a6 bI cP G0 O RK)<|bg oa (i:=1) O (bL O O (v:=U _) O O O (oa.blk (i:=1) O) RG)<|fun w47 kC=> ?_
    rw[n5]at kC
    refine aa<|au<|aE C9<|V (ax O O Ua)<|aI rfl<|aa<| ?_
    refine⟨(k+1,_),?_,Ka.u4.u4.u4.u4.u4.u4.u4.u4.u4.u4.u1.u1.u1,(kC.sub (sQ sR)),(aK I aM),J,?_,?_,?_⟩
    .have hln:=(n4 ‹mC s.sh=true›).1;((try dsimp only);omega)
    .exact fun h=>by omega
    .exact fun _=>by((have hp:=CC (f:=IE t) ‹mC s.sh=true› (hr aQ) h0 (show k<s.sh.aY.length by omega);rw[iF,<-end_1 (by have hat:=Pt ‹mC s.sh=true› (k:=k) h0 J;rw[iF]at hat;exact hat) ‹t=true› (show¬(s.aY.getD k.toNat iB).kind=2 from aQ) (show¬(s.aY.getD k.toNat iB).kind=3 from aQ) (show¬(s.aY.getD k.toNat iB).kind=4 from aQ)]at hp;exact hp))
    exact fun h=>by rw[‹mC s.sh=true›]at h;cases h
   refine aE (v:=B false) rfl<|aa<|cQ rfl<|SR<|aE EI<|mB rfl<|cC O (bR (c:=false) BO)<|aE (v:=B false) rfl<|aa<|cQ rfl<|SR<|aE EI<|aa<|cQ (bR (c:=false) BO)<|an<|au<|aE C9<|V (ax O O Ua)<|aI rfl<|aa<| ?_
   refine⟨(k+1,_),?_,Ka.u4.u4.u4.u4.u4.u4.u4.u4.u4.u1.u1,(cD.sub (sQ sR)),(aK I aM),J,?_,?_,?_⟩
   .have hln:=(n4 ‹mC s.sh=true›).1;((try dsimp only);omega)
   .exact fun h=>by omega
   .exact fun _=>by(exact adC ‹mC s.sh=true› (hr aQ) h0 (show k<s.sh.aY.length by omega) (by rw[iF];exact aww aQ (show¬(s.aY.getD k.toNat iB).kind=4 from aQ)))
   exact fun h=>by rw[‹mC s.sh=true›]at h;cases h
  refine a7 (id:=0) rfl<|SR<|V (cM bI O O G0 (bX.blk (i:=0) O))<|bg bX (i:=1) O (cR O acn O (bX.blk (i:=1) O))<|fun w49 eL=>aa<|aj<|rz O acn eL (i:=1) O bI O jI ⟨?_,eL.below⟩
  exact aK Value.agg (l6 (by rw[hr aQ];exact UX (by have:=hk aQ;omega)))
 refine aE (v:=B false) rfl<|aa<|cQ rfl<|a7 (id:=0) rfl<|SR<|V (cM bI O O G0 (bX.blk (i:=0) O))<|bg bX (i:=1) O (cR O acn O (bX.blk (i:=1) O))<|fun w51 BP=>aa<|aj<|rz O acn BP (i:=1) O bI O jI ⟨?_,BP.below⟩
 exact aK Value.agg (l6 (by rw[hz aQ];exact abh aQ))
theorem Da(s:kP)(w:World)(hs:k7 (Kw w) s):Calls Tryz.prog 72 #[.agg (qJ s)] w (Pure (B (UY s.sh)) w):=by
 have hsl:=po s
 have hm:=hs.aY.sl.small
 unfold maxLen at hm
 refine eH func72 rfl rfl fun hH=>SR<|gM hH (v:= .agg _) rfl<|fun b3 w1 bp=>va (v:=B false) rfl<|aa<|ai<|SR<|V (fA dm 1 O jC O)<|lV dr bp 0 O O rfl<|V (aC (hs.aY.sl.hp bp) O dr O)<|V (dN O O)<|aa<|aF O (fun h5=> ?_) (fun h5=> ?_)
 .refine SR<|va (v:=B true) rfl<|aa<|aj<|oB O ?_ bp
  exact(awx (s:=s.sh) J).symm
 refine an<|ai<|SR<|va (v:=I 0) rfl<|aa<|aA<|bt (G:=Int) (fun k s' w'=>(Fr (rg 2 4 (rg 10 30 [])) _ s')/\(Hp w w' _)/\(s' 3=I k)/\(0<=k)/\(k<=s.aY.length)/\(∀j:Int,0<=j->j<k->OZ (s.aY.getD j.toNat iB).names=false)) (fun k=>(s.aY.length-k).toNat) (0) ⟨Fr.refl _ _,bp,rfl,J,J,fun j a b=>absurd b J⟩<| ?_
 rintro k sg6 w6 ⟨QF,jN,aan,h0,hk,hg⟩
 have O6:=QF.w1 1
 refine ai<|SR<|aE aan<|V (fA dm 1 O jC O6)<|lV dr jN 0 O O rfl<|V (aC (hs.aY.sl.hp jN) O dr O)<|V (aN O O)<|aa<|aF O (fun h8=> ?_) (fun h8=> ?_)
 .refine an<|ai<|aA<|SR<|V (fA dm 1 O jC O6)<|lV dr jN 0 O O rfl<|aE aan<|V (ah (hs.aY.sl.hp jN) dr qb O O J)<|V (dY (dv:=iB) fy (hs.aY.sl.hp jN) dy O O O J)<|lJ jN (aS tR)<|fun b11 w9 cg=>bg cg (i:=0) O (sI (hs.at J J) O O O (cg.blk (i:=0) O))<|fun y8 bX=>aa<|ai<|SR<|V (fA dy 1 O pe O)<|lV dW bX 0 O O rfl<|V (aC ((hs.at J J).names.sl.hp bX) O dW O)<|V (dN O O)<|aa<|aF O (fun D6=> ?_) (fun D6=> ?_)
  .refine SR<|va (v:=B true) rfl<|aa<|aj<|oB O ?_ bX
   exact(ao6 (s:=s.sh) (k:=k) h0 J (by rw[iF];(exact arF (by show 70<(s.aY.getD k.toNat iB).names.length;omega)))).symm
  refine an<|SR<|va (v:=I 0) rfl<|aa<|aA<|have hnb:(s.aY.getD k.toNat iB).names.length<=70:=J;bt (G:=Int) (fun i s' w'=>(Fr (2::(5::(rg 26 14 []))) _ s')/\(Hp w w' _)/\(s' 5=I i)/\(0<=i)/\(i<=(s.aY.getD k.toNat iB).names.length)/\(∀j:Int,0<=j->j<i->¬40<((s.aY.getD k.toNat iB).names.getD j.toNat qe).size)) (fun i=>((s.aY.getD k.toNat iB).names.length-i).toNat) (0) ⟨Fr.refl _ _,bX,rfl,J,J,fun j a b=>absurd b J⟩<| ?_
  rintro i aae I4 ⟨nR,cI,za,i0,i1,hn⟩
  have EE:=nR.w1 4
  have oz:=nR.t1 3 aan
  refine ai<|SR<|aE za<|V (fA dy 1 O pe EE)<|lV dW cI 0 O O rfl<|V (aC ((hs.at J J).names.sl.hp cI) O dW O)<|V (aN O O)<|aa<|aF O (fun qk=> ?_) (fun qk=> ?_)
  .refine an<|ai<|aA<|SR<|V (fA dy 1 O pe EE)<|lV dW cI 0 O O rfl<|aE za<|V (ah ((hs.at J J).names.sl.hp cI) dW ko O O J)<|V (aG iy O O (((hs.at J J).names.sl.hp cI).cell _ _ (Cy J)))<|V (lA O iy O)<|V (dN O O)<|aa<|aF O (fun OT=> ?_) (fun OT=> ?_)
   .refine SR<|va (v:=B true) rfl<|aa<|aj<|oB O ?_ cI
    exact(ao6 (s:=s.sh) (k:=k) h0 J (by rw[iF];(exact arG i0 aQ (by show 40<((s.aY.getD k.toNat iB).names.getD i.toNat qe).size;omega)))).symm
   refine an<|au<|aE za<|V (ax O O J)<|aI rfl<|aa<| ?_
   refine⟨i+1,aW,nR.u4.u4.u4.u1.u1.u1,cI,(aK I aM),J,J,?_⟩
   exact fun j a b=>if e:j=i then e▸(by omega)else hn j a J
  refine a7 (id:=2) rfl<|au<|aE oz<|V (ax O O J)<|aI rfl<|aa<| ?_
  refine⟨k+1,aW,(((QF.u4.u4.u4.u4).t nR O)).u4.u4,(cI.sub (sQ sR)),(aK I aM),J,J,?_⟩
  exact fun j a b=>if e:j=k then e▸amq J ‹¬i<_› hn else hg j a J
 refine a7 (id:=0) rfl<|SR<|va (v:=B false) rfl<|aa<|aj<|oB O ?_ jN
 exact(arH (s:=s.sh) (k:=k) J J fun j a b=>by rw[iF];exact hg j a b).symm
theorem EJ(K:Vu)(f:qw)(hn:f.names.length<=1000)(w:World)(hK:Le K (Kw w))(hf:wJ K f):Calls Tryz.prog 94 #[.agg (uR f)] w (Gp K (fun K' u=>∃f':qw,u= .agg (uR f')/\f'.fc=f.fc/\wJ K' f') w):=by
 refine eH func94 rfl rfl fun hH=>SR<|gM hH (v:= .agg _) rfl<|fun b3 w1 bp=>lJ bp (aS tR)<|fun b6 w4 bY=>aa<|SR<|tQ 0 0 bY (s0 dW ko)<|fun b9 w7 eX=> ?_
 (try simp only[lf]at eX)
 have cg:=eX.sE 0 1 O az
 refine V (fA dy 1 O pe O)<|lV dW cg 2 O O rfl<|gf O cg (i:=0) O ((hf.mono hK).names.sl.hp cg) O O dW O O (size:=1) (bytes:=16) O O O az gX J iz<|fun v11 y8 bX=>V (fA dy 1 O pe O)<|have hone:=(aZ (bX.get (i:=0) O)).2;bg bX (i:=2) O (YW O O O (aZ (bX.get (i:=0) O)).1 hone (bX.blk (i:=2) O))<|fun QH gS=>aa<|SR<|V (yJ dy O O O (gS.blk (i:=2) O))<|bg gS (i:=1) O (YV (adG hf hone) O O O (gS.blk (i:=1) O))<|fun I4 ep=>aa<|aj<| ?_
 obtain⟨Zc,hz,hzv,-⟩:=ep.TY K
 refine rz O O ep (i:=1) O dy O (by simp only[vb,fy];rfl) ⟨Zc,hz.sub (afr _ _),_,rfl,rfl,⟨?_⟩⟩
 simpa using hzv
theorem Bq(K:Vu)(v:Value)(l:List kP)(hl:l.length<=1000)(hfn:∀s∈l,s.aY.length<=1000)(hnn:∀s∈l,∀f∈s.aY,f.names.length<=1000)(w:World)(hK:Le K (Kw w))(hs:Sl w v 2 l.length (l.flatMap wK))(hv:PV K l):Calls Tryz.prog 51 #[v] w (Gp K (fun K' u=>∃p:kP,u= .agg (qJ p)/\p.sh=⟨true,A8 l⟩/\k7 K' p) w):=by
 refine eH func51 rfl rfl fun hH=>SR<|lJ hH (aS Tryz.zeroValue56)<|fun b3 w1 bp=>aa<|SR<|V (dJ (vs:=[(0,B true)]) O ZS)<|lJ bp (aS Tryz.zeroValue56)<|fun b6 w4 bY=>bg bY (i:=0) O (dO (c':=#[B true,.slice none 0 0]) O O O gX (bY.blk (i:=0) O) O)<|fun w7 eX=>have iE:=eX.eR 88 67;aa<|ai<|SR<| ?_
 refine V (run_move bA) ?_
 refine V (aC (hs.hp iE) O Ru O)<|aE (v:=I 0) rfl<|aa<|aA<|bt (G:=Int×Value×(List qw)×(List bu)) (fun⟨k,fv0,fs,Z⟩ s' w'=>(Fr (5::(7::(rg 11 20 []))) _ s')/\(Hp w w' (.row fv0 88 67 (fs.length) (fs.flatMap sH):: .blk b6 (.cells (#[B true,fv0]) 56 (0,0))::_::Z))/\(s' 11=I k)/\(0<=k)/\(k<=l.length)/\(fs.map qw.fc=A8 (l.take k.toNat))/\(tC (Kz K Z) fs)/\((fs.length:Int)<=1000*k)) (fun⟨k,fv0,fs,Z⟩=>(l.length-k).toNat) ((0,(.slice none 0 0:Value),[],[])) ⟨Fr.refl _ _,iE,rfl,J,J,rfl,tC.nil _,aJ⟩<| ?_
 rintro⟨k,fv0,fs,Z⟩ Wx EB ⟨nT,cg,aao,h0,hk,hm,hF,hb⟩
 obtain⟨xz,pW,Oa,att⟩:=nT.w4 2 3 9 10
 refine SR<|V (aN aao att)<|aa<|ai<|aF O (fun h12=> ?_) (fun h12=> ?_)
 .refine an<|ai<|aA<|SR<|V (ah (hs.hp cg) Ru uo Oa aao J)<|V (dY (dv:=DV) MC (hs.hp cg) dm O O O J)<|lJ cg (aS Tryz.zeroValue56)<|fun b15 C0 cG=>bg cG (i:=0) O (DI ((hv.mono hK).at J J) O O O (cG.blk (i:=0) O) O)<|fun I4 ep=>aa<|SR<|V (fA dm 1 O jC O)<|lV dr ep 0 O O rfl<|V (aC (((hv.mono hK).at J J).aY.sl.hp ep) O dr O)<|aE (v:=I 0) rfl<|aa<|aA<|have hfk:=hfn _ (lO (fD (d:=DV) h0 ‹k<l.length›));bt (G:=Int×Value×(List qw)×(List bu)) (fun⟨i,fv1,gs,Z1⟩ s' w'=>(Fr (7::(rg 18 12 [])) _ s')/\(Hp w w' (_:: .row fv1 88 67 (gs.length) (gs.flatMap sH):: .blk b6 (.cells (#[B true,fv1]) 56 (0,0))::_::Z1))/\(s' 18=I i)/\(0<=i)/\(i<=(l.getD k.toNat DV).aY.length)/\(gs.map qw.fc=fs.map qw.fc++((l.getD k.toNat DV).aY.take i.toNat).map qw.fc)/\(tC (Kz K Z1) gs)/\((gs.length:Int)=fs.length+i)) (fun⟨i,fv1,gs,Z1⟩=>((l.getD k.toNat DV).aY.length-i).toNat) ((0,(fv0:Value),fs,Z)) ⟨Fr.refl _ _,ep,rfl,J,J,aJ,hF,aJ⟩<| ?_
  rintro⟨i,fv1,gs,Z1⟩ an5 K0 ⟨rW,dP,Ob,i0,ik,BY,hF1,hb1⟩
  obtain⟨atu,atv⟩:=rW.w2 16 17
  obtain⟨NM,atw⟩:=rW.t2 3 pW 11 aao
  refine SR<|V (aN Ob atv)<|aa<|ai<|aF O (fun OT=> ?_) (fun OT=> ?_)
  .refine an<|ai<|aA<|SR<|V (ah (((hv.mono hK).at J J).aY.sl.hp dP) dr qb atu Ob J)<|V (dY (dv:=iB) fy (((hv.mono hK).at J J).aY.sl.hp dP) dy O O O J)<|lJ dP (aS tR)<|fun b23 NL cD=>bg cD (i:=0) O (sI (((hv.mono hK).at J J).at J J) O O O (cD.blk (i:=0) O))<|fun w24 n9=>aa<|gD aP n9 (sP (sP (sQ (sQ sR))))<|fun Wv dK=>AQ 0 O (dK.sub (sP (sP (sQ (sQ sR))))) (fA dm 1 O jC NM)<|AT 2 O (dK.sub (sP (sP (sQ (sQ sR))))) (fun w hS=>yJ dy O O O (hS.blk (i:=0) O))<|gp 1 3 aP ?_ ?_
   .refine cf O aD O dK (sP (sP (sQ (sQ sR)))) (aG dr O O (dK.cell (i:=3) O O))<|A1 3<|agU O aD O dK (sP (sP (sQ (sQ sR)))) (EJ K ((l.getD k.toNat DV).aY.getD i.toNat iB) (hnn _ (lO (fD (d:=DV) h0 ‹k<l.length›)) _ (lO (fD (d:=iB) i0 aQ))) _ (hK.trans dK.kw) ((hv.at h0 aQ).at i0 aQ)) (ay call94 O)<|fun v32 w33 Z35 lD aEH=>have uy:Hp _ w33 (_::_::_::_::_::(Z35++Z1)):=lD.Iz (L:=[_,_,_,_,_]) (L':=Z1);?_
    obtain⟨f38,rfl,ax7,aqc⟩:=aEH
    refine A1 4<|cH O aD O uy (sP (sP (sQ (sQ (sP (sA sR)))))) (f:=fun b=> .slice (some ⟨b,0,none⟩) 1 1) (zY dr O O O (l:=[_]) O az az O)<|fun b43 w41 qN=>A1 5<|fT O aD O qN (j:=3) O (fun _=>(sQ (sP (sP (sQ (sQ (sP (sA sR)))))))) (Hp.iu fy qN (i:=0) (l:=[_]) O gd) O O dr O O (size:=67) (bytes:=552) O O O az (MD aqc) Yo Yj<|fun v46 w44 rZ=>AQ 6 O (rZ.sub (sQ (sP (sP (sQ (sQ (sP (sA sR)))))))) (fA dm 1 O jC NM)<|A1 7<|ed O aD rZ (j:=4) O (sQ (sP (sP (sQ (sQ (sP (sA sR))))))) (bL O O (v:=v46) O (aZ (rZ.get (i:=3) O)).1 (aZ (rZ.get (i:=3) O)).2 (rZ.blk (i:=4) O) aJ)<|fun w49 eL=>AD<|au<|V (ax Ob O J)<|mI rfl<|aa<| ?_
    refine⟨(i+1,v46,(gs++[f38]),(Z35++Z1)),aW,rW.u4.u4.u4.u1,(Hp.conv (eL.sub (sQ (sQ sR))) aJ),(aK I aM),J,J,?_,?_,?_⟩
    .rw[IF i0 aQ,gU,BY,dG];simp only[lR,Ca];rw[ax7]
    .exact(hF1.mono (Le.zz fun y hy=>bH _ hy)).snoc (aqc.mono (Le.zz fun y hy=>dL _ hy))
    simp only[dZ,ez];omega
   refine agU O aD O dK (sP (sP (sQ (sQ sR)))) (EJ K ((l.getD k.toNat DV).aY.getD i.toNat iB) (hnn _ (lO (fD (d:=DV) h0 ‹k<l.length›)) _ (lO (fD (d:=iB) i0 aQ))) _ (hK.trans dK.kw) ((hv.at h0 aQ).at i0 aQ)) (ay call94 O)<|fun v53 w54 Z56 jz aEK=>have oF:Hp _ w54 (_::_::_::_::_::(Z56++Z1)):=jz.Iz (L:=[_,_,_,_,_]) (L':=Z1);?_
   obtain⟨f59,rfl,aqd,aco⟩:=aEK
   refine gp 1 4 aP ?_ ?_
   .refine cf O aD O oF (sP (sP (sQ (sQ (sP (sA sR)))))) (aG dr O O (oF.cell (i:=3) O O))<|A1 4<|cH O aD O oF (sP (sP (sQ (sQ (sP (sA sR)))))) (f:=fun b=> .slice (some ⟨b,0,none⟩) 1 1) (zY dr O O O (l:=[_]) O az az O)<|fun b66 w64 wP=>A1 5<|fT O aD O wP (j:=3) O (fun _=>(sQ (sP (sP (sQ (sQ (sP (sA sR)))))))) (Hp.iu fy wP (i:=0) (l:=[_]) O gd) O O dr O O (size:=67) (bytes:=552) O O O az (MD aco) Yo Yj<|fun v69 w67 kE=>AQ 6 O (kE.sub (sQ (sP (sP (sQ (sQ (sP (sA sR)))))))) (fA dm 1 O jC NM)<|A1 7<|ed O aD kE (j:=4) O (sQ (sP (sP (sQ (sQ (sP (sA sR))))))) (bL O O (v:=v69) O (aZ (kE.get (i:=3) O)).1 (aZ (kE.get (i:=3) O)).2 (kE.blk (i:=4) O) aJ)<|fun w72 uY=>AD<|au<|V (ax Ob O J)<|mI rfl<|aa<| ?_
    refine⟨(i+1,v69,(gs++[f59]),(Z56++Z1)),aW,rW.u4.u4.u4.u1,(Hp.conv (uY.sub (sQ (sQ sR))) aJ),(aK I aM),J,J,?_,?_,?_⟩
    .rw[IF i0 aQ,gU,BY,dG];simp only[lR,Ca];rw[aqd]
    .exact(hF1.mono (Le.zz fun y hy=>bH _ hy)).snoc (aco.mono (Le.zz fun y hy=>dL _ hy))
    simp only[dZ,ez];omega
   refine cH O aD O oF (sP (sP (sQ (sQ (sP (sA sR)))))) (f:=fun b=> .slice (some ⟨b,0,none⟩) 1 1) (zY dr O O O (l:=[_]) O az az O)<|fun b76 w74 uZ=>A1 1<|cf O aD O uZ (sQ (sP (sP (sQ (sQ (sP (sA sR))))))) (aG dr O O (uZ.cell (i:=4) O O))<|A1 5<|fT O aD O uZ (j:=3) O (fun _=>(sQ (sP (sP (sQ (sQ (sP (sA sR)))))))) (Hp.iu fy uZ (i:=0) (l:=[_]) O gd) O O dr O O (size:=67) (bytes:=552) O O O az (MD aco) Yo Yj<|fun v81 w79 pA=>AQ 6 O (pA.sub (sQ (sP (sP (sQ (sQ (sP (sA sR)))))))) (fA dm 1 O jC NM)<|A1 7<|ed O aD pA (j:=4) O (sQ (sP (sP (sQ (sQ (sP (sA sR))))))) (bL O O (v:=v81) O (aZ (pA.get (i:=3) O)).1 (aZ (pA.get (i:=3) O)).2 (pA.blk (i:=4) O) aJ)<|fun w84 WH=>AD<|au<|V (ax Ob O J)<|mI rfl<|aa<| ?_
   refine⟨(i+1,v81,(gs++[f59]),(Z56++Z1)),aW,rW.u4.u4.u4.u1,(Hp.conv (WH.sub (sQ (sQ sR))) aJ),(aK I aM),J,J,?_,?_,?_⟩
   .rw[IF i0 aQ,gU,BY,dG];simp only[lR,Ca];rw[aqd]
   .exact(hF1.mono (Le.zz fun y hy=>bH _ hy)).snoc (aco.mono (Le.zz fun y hy=>dL _ hy))
   simp only[dZ,ez];omega
  refine a7 (id:=2) rfl<|au<|V (ax atw O J)<|mI rfl<|aa<| ?_
  refine⟨(k+1,fv1,gs,Z1),aW,(((nT.u4.u4).t rW O)).u1.u1.u1,(Hp.conv (dP.sub (sQ sR)) aM),(aK I aM),J,J,?_,?_,J⟩
  .rw[adF h0 aQ,<-hm,BY,ji J];rfl
  exact hF1
 refine a7 (id:=0) rfl<|SR<|V (cF (cs:=[B _,_]) dm O O pW (bj (cg.blk (i:=1) O)))<|bg cg (i:=2) O (dO (c':=#[B true,fv0]) O xz O (amr (aZ (cg.get (i:=0) O)).2) (cg.blk (i:=2) O) O)<|fun w86 WI=>aa<|aj<| ?_
 obtain⟨Zr,hz,hzv,-⟩:=WI.TY K
 refine rz (i:=Zr.length+1) results51 xz hz (ams (i:=1) O) dm O O ⟨Zr++Z,hz.sub (List.Sublist.append (.refl _) (sQ (sQ (.refl _)))),⟨true,fv0,fs⟩,rfl,?_,?_,?_⟩
 .rw[kP.sh,hm,ahd aQ]
 .exact hzv.mono (Le.zz fun y hy=>dL _ hy)
 exact(hF.mono (Le.zz fun y hy=>bH _ hy)).each
theorem AP(K:Vu)(s:mv)(hvl:s.vars.length<=1000)(w:World)(hK:Le K (Kw w))(hs:DX K s):Calls Tryz.prog 37 #[.agg (Ss s)] w (Gp K (fun K' u=>∃m:FW,u= .agg (Y2 m).toArray/\m.Hx=MM s.sc/\MP K' m) w):=by
 have BY:=hs.aq.small
 have J4:=hs.vars.small
 unfold maxLen at BY J4
 refine eH func37 rfl rfl fun hH=>SR<|gM hH (v:= .agg _) rfl<|fun b3 w1 bp=>lJ bp (aS Wh)<|fun b6 w4 bY=>aa<|SR<|lJ bY (aS Wh)<|fun b9 w7 eX=>have cg:=eX.eR 37 8;have df:=cg.eR 297 1;aa<|ai<|SR<|va (v:=I 0) rfl<|aa<|aA<|bt (G:=Int×Value×(List El)×Value×(List TZ)) (fun⟨k,v0,ls,v1,gr⟩ s' w'=>(Fr (rg 4 51 []) _ s')/\(Hp w w' (.row v1 297 1 (gr.length) (ape gr):: .row v0 37 8 (ls.length) (ls.flatMap pH):: .blk b9 (.cells (#[v0,v1]) 93 (0,0))::_))/\(s' 4=I k)/\(0<=k)/\(k<=s.vars.length)/\(ls=(s.vars.take k.toNat).map (zZ s.sc))/\(gr=List.replicate k.toNat Hw)/\((ls.length:Int)=k)/\((gr.length:Int)=k)) (fun⟨k,v0,ls,v1,gr⟩=>(s.vars.length-k).toNat) ((0,(.slice none 0 0:Value),[],(.slice none 0 0:Value),[])) ⟨Fr.refl _ _,df,rfl,J,J,rfl,rfl,rfl,rfl⟩<| ?_
 rintro⟨k,v0,ls,v1,gr⟩ Z4 y8 ⟨mi,cN,tU,h0,hk,hm,hgr,hl,hl2⟩
 obtain⟨o8,zc,kN⟩:=mi.w3 1 2 3
 refine ai<|SR<|aE tU<|V (fA gH 1 O uq o8)<|V (bZ ((hs.mono hK).vars.sl.hp cN) lS O O (cN.cell (i:=4) O O))<|V (aC ((hs.mono hK).vars.sl.hp cN) O lS O)<|V (aN O O)<|aa<|aF O (fun F4=> ?_) (fun F4=> ?_)
 .refine an<|ai<|aA<|SR<|V (fA gH 1 O uq o8)<|V (bZ ((hs.mono hK).vars.sl.hp cN) lS O O (cN.cell (i:=4) O O))<|aE tU<|V (ah ((hs.mono hK).vars.sl.hp cN) lS E4 O O J)<|V (dY (dv:=fp) tD ((hs.mono hK).vars.sl.hp cN) oX O O O J)<|lJ cN (aS Tryz.zeroValue63)<|fun b17 Tf cI=>bg cI (i:=0) O (dO (c':=(OU _).toArray) O O O LF (cI.blk (i:=0) O) O)<|fun K0 iD=>aa<|SR<|V (dJ (vs:=[]) O (oP))<|lJ iD (aS e8)<|fun b22 ZZ fI=>bg fI (i:=0) O (cR O O O (fI.blk (i:=0) O))<|fun w23 gY=>aa<|ai<|SR<|V (fA oX 1 O aO O)<|lI bx gY 1 O O rfl<|V (bU O O)<|mB rfl<|bM 23 O (fun Wp=> ?_) (fun Wp=> ?_)
  .refine V (fA oX 2 O aO O)<|lI bx gY 1 O O rfl<|V (dF O O)<|mB rfl<|mB rfl<|bM 28 O (fun Wt=> ?_) (fun Wt=> ?_)
   .refine V (fA oX 2 O aO O)<|lI bx gY 1 O O rfl<|V (fA gH 0 O nN o8)<|V (bZ ((hs.mono hK).aq.sl.hp gY) iP O O (gY.cell (i:=6) O O))<|V (aC ((hs.mono hK).aq.sl.hp gY) O iP O)<|V (aN O O)<|mB rfl<|aa<|aF O (fun Pb=> ?_) (fun Pb=> ?_)
    .refine au<|V (fA gH 0 O nN o8)<|V (bZ ((hs.mono hK).aq.sl.hp gY) iP O O (gY.cell (i:=6) O O))<|V (fA oX 2 O aO O)<|lI bx gY 1 O O rfl<|V (ah ((hs.mono hK).aq.sl.hp gY) iP vi O O J)<|V (fA qY 1 O uo O)<|V (kZ (dv:=lH) (off:=1) (cs:=wK _) m9 ((hs.mono hK).aq.sl.hp gY) dm O O O J (xg _))<|aH O gY (C8 _ _ _ (((hs.mono hK).at J J).mono gY.kw)) (aL call81 O (show _=B false from O))<|fun w31 iC=>bg iC (i:=0) O (cR O O O (iC.blk (i:=0) O))<|fun w33 lD=>aa<|SR<|V (fA mH 0 O jm kN)<|lV bV lD 4 O O rfl<|V (cM bI O O O (lD.blk (i:=0) O))<|tQ 1 1 lD (fY bV O O O O)<|fun b37 w35 j4=> ?_
     (try simp only[lf]at j4)
     refine gf O j4 (i:=4) O (Hp.iu cY j4 (i:=0) (l:=[_]) O gd) O O bV O O (size:=8) (bytes:=64) O O O az (gR _) RR RN<|fun v38 w39 lE=>V (fA mH 0 O jm kN)<|bg lE (i:=5) O (bL O O (v:=v38) O (aZ (lE.get (i:=4) O)).1 (aZ (lE.get (i:=4) O)).2 (lE.blk (i:=5) O) R2)<|fun w41 qN=>aa<|au<|V (fA mH 1 O Ce kN)<|lV uj qN 5 O O rfl<|tQ 1 1 qN (yL (v:=(.slice none 0 0)) O uj O O O O)<|fun b45 w43 qm=> ?_
     (try simp only[lf]at qm)
     refine gf O qm (i:=4) O (qm.dR (i:=0) (n:=1) (sz:=1) O O az) O O uj O O (size:=1) (bytes:=24) O O O az (abp O) RT RO<|fun v46 w47 kC=>V (fA mH 1 O Ce kN)<|bg kC (i:=6) O (bL O O (v:=v46) O (aZ (kC.get (i:=4) O)).1 (aZ (kC.get (i:=4) O)).2 (kC.blk (i:=6) O) R3)<|fun w49 eL=>aa<|au<|aE tU<|V (ax O O J)<|aI rfl<|aa<| ?_
     refine⟨(k+1,v38,(ls++[zZ s.sc (s.vars.getD k.toNat fp)]),v46,(gr++[Hw])),aW,mi.u4.u4.u4.u4.u4.u4.u4.u4.u4.u4.u4.u4.u1.u1.u1,(Hp.conv (eL.sub (sQ (sQ (sQ (sQ sR))))) (by rw[awQ ‹(s.vars.getD k.toNat fp).kind=1› ⟨J,J⟩,<-ahc];simp[Hw,shG];done)),(aK I aM),J,J,?_,?_,?_,?_⟩
     .rw[hm];exact DJ h0 ‹k<_›
     .rw[hgr];exact DK h0
     .simp only[dZ,ez];omega
     simp only[dZ,ez];omega
    refine an<|SR<|V (fA mH 0 O jm kN)<|lV bV gY 4 O O rfl<|V (cM bI O O O (gY.blk (i:=0) O))<|tQ 1 1 gY (fY bV O O O O)<|fun b53 w51 BP=> ?_
    (try simp only[lf]at BP)
    refine gf O BP (i:=4) O (Hp.iu cY BP (i:=0) (l:=[_]) O gd) O O bV O O (size:=8) (bytes:=64) O O O az (gR _) RR RN<|fun v54 w55 ni=>V (fA mH 0 O jm kN)<|bg ni (i:=5) O (bL O O (v:=v54) O (aZ (ni.get (i:=4) O)).1 (aZ (ni.get (i:=4) O)).2 (ni.blk (i:=5) O) R2)<|fun w57 oF=>aa<|au<|V (fA mH 1 O Ce kN)<|lV uj oF 5 O O rfl<|tQ 1 1 oF (yL (v:=(.slice none 0 0)) O uj O O O O)<|fun b61 w59 wz=> ?_
    (try simp only[lf]at wz)
    refine gf O wz (i:=4) O (wz.dR (i:=0) (n:=1) (sz:=1) O O az) O O uj O O (size:=1) (bytes:=24) O O O az (abp O) RT RO<|fun v62 w63 wR=>V (fA mH 1 O Ce kN)<|bg wR (i:=6) O (bL O O (v:=v62) O (aZ (wR.get (i:=4) O)).1 (aZ (wR.get (i:=4) O)).2 (wR.blk (i:=6) O) R3)<|fun w65 aeK=>aa<|au<|aE tU<|V (ax O O J)<|aI rfl<|aa<| ?_
    refine⟨(k+1,v54,(ls++[zZ s.sc (s.vars.getD k.toNat fp)]),v62,(gr++[Hw])),aW,mi.u4.u4.u4.u4.u4.u4.u4.u4.u4.u4.u1.u1.u1,(Hp.conv (aeK.sub (sQ (sQ (sQ (sQ sR))))) Yn),(aK I aM),J,J,?_,?_,?_,?_⟩
    .rw[hm];exact DJ h0 ‹k<_›
    .rw[hgr];exact DK h0
    .simp only[dZ,ez];omega
    simp only[dZ,ez];omega
   refine aE (v:=B false) rfl<|aa<|cQ rfl<|an<|SR<|V (fA mH 0 O jm kN)<|lV bV gY 4 O O rfl<|V (cM bI O O O (gY.blk (i:=0) O))<|tQ 1 1 gY (fY bV O O O O)<|fun b69 w67 kE=> ?_
   (try simp only[lf]at kE)
   refine gf O kE (i:=4) O (Hp.iu cY kE (i:=0) (l:=[_]) O gd) O O bV O O (size:=8) (bytes:=64) O O O az (gR _) RR RN<|fun v70 w71 Ja=>V (fA mH 0 O jm kN)<|bg Ja (i:=5) O (bL O O (v:=v70) O (aZ (Ja.get (i:=4) O)).1 (aZ (Ja.get (i:=4) O)).2 (Ja.blk (i:=5) O) R2)<|fun w73 wS=>aa<|au<|V (fA mH 1 O Ce kN)<|lV uj wS 5 O O rfl<|tQ 1 1 wS (yL (v:=(.slice none 0 0)) O uj O O O O)<|fun b77 w75 oG=> ?_
   (try simp only[lf]at oG)
   refine gf O oG (i:=4) O (oG.dR (i:=0) (n:=1) (sz:=1) O O az) O O uj O O (size:=1) (bytes:=24) O O O az (abp O) RT RO<|fun v78 w79 pA=>V (fA mH 1 O Ce kN)<|bg pA (i:=6) O (bL O O (v:=v78) O (aZ (pA.get (i:=4) O)).1 (aZ (pA.get (i:=4) O)).2 (pA.blk (i:=6) O) R3)<|fun w81 oT=>aa<|au<|aE tU<|V (ax O O J)<|aI rfl<|aa<| ?_
   refine⟨(k+1,v70,(ls++[zZ s.sc (s.vars.getD k.toNat fp)]),v78,(gr++[Hw])),aW,mi.u4.u4.u4.u4.u4.u4.u4.u4.u4.u4.u1.u1.u1,(Hp.conv (oT.sub (sQ (sQ (sQ (sQ sR))))) Yn),(aK I aM),J,J,?_,?_,?_,?_⟩
   .rw[hm];exact DJ h0 ‹k<_›
   .rw[hgr];exact DK h0
   .simp only[dZ,ez];omega
   simp only[dZ,ez];omega
  refine aE (v:=B false) rfl<|mB rfl<|cC O rfl<|aE (v:=B false) rfl<|aa<|cQ rfl<|an<|SR<|V (fA mH 0 O jm kN)<|lV bV gY 4 O O rfl<|V (cM bI O O O (gY.blk (i:=0) O))<|tQ 1 1 gY (fY bV O O O O)<|fun b85 w83 lj=> ?_
  (try simp only[lf]at lj)
  refine gf O lj (i:=4) O (Hp.iu cY lj (i:=0) (l:=[_]) O gd) O O bV O O (size:=8) (bytes:=64) O O O az (gR _) RR RN<|fun v86 w87 ze=>V (fA mH 0 O jm kN)<|bg ze (i:=5) O (bL O O (v:=v86) O (aZ (ze.get (i:=4) O)).1 (aZ (ze.get (i:=4) O)).2 (ze.blk (i:=5) O) R2)<|fun w89 oH=>aa<|au<|V (fA mH 1 O Ce kN)<|lV uj oH 5 O O rfl<|tQ 1 1 oH (yL (v:=(.slice none 0 0)) O uj O O O O)<|fun b93 w91 Jb=> ?_
  (try simp only[lf]at Jb)
  refine gf O Jb (i:=4) O (Jb.dR (i:=0) (n:=1) (sz:=1) O O az) O O uj O O (size:=1) (bytes:=24) O O O az (abp O) RT RO<|fun v94 w95 pX=>V (fA mH 1 O Ce kN)<|bg pX (i:=6) O (bL O O (v:=v94) O (aZ (pX.get (i:=4) O)).1 (aZ (pX.get (i:=4) O)).2 (pX.blk (i:=6) O) R3)<|fun w97 Oc=>aa<|au<|aE tU<|V (ax O O J)<|aI rfl<|aa<| ?_
  refine⟨(k+1,v86,(ls++[zZ s.sc (s.vars.getD k.toNat fp)]),v94,(gr++[Hw])),aW,mi.u4.u4.u4.u4.u4.u4.u4.u4.u4.u4.u1.u1.u1,(Hp.conv (Oc.sub (sQ (sQ (sQ (sQ sR))))) Yn),(aK I aM),J,J,?_,?_,?_,?_⟩
  .rw[hm];exact DJ h0 ‹k<_›
  .rw[hgr];exact DK h0
  .simp only[dZ,ez];omega
  simp only[dZ,ez];omega
 refine a7 (id:=0) rfl<|SR<| ?_
 obtain⟨Z99,ayc,ayd,-⟩:=(cN.pj [1]).TY (K)
 have rM:Hp _ y8 (_::_::_::_::Z99):=ayc.amt (L:=[_,_,_,_])
 obtain⟨aap,ajY,ajZ,-⟩:=rM.TY (K)
 have nj:Hp _ y8 (_::_::_::(aap++Z99)):=ajY.Iz (L:=[_,_,_]) (L':=Z99)
 subst hgr
 have aqh:MP (Kz K (aap++Z99)) (⟨v0,ls,v1,List.replicate k.toNat Hw⟩:FW):=⟨(ayd.mono (Le.zz (fun x hx=>(bH _ hx)))),(ajZ.mono (Le.zz (fun x hx=>(dL _ hx)))),uJ.amB _ _⟩
 refine V (cF (cs:=Y2 (⟨v0,ls,v1,List.replicate k.toNat Hw⟩:FW)) mH O O kN (bj (nj.blk (i:=0) O)))<|bg nj (i:=1) O (dO (c':=(Y2 (⟨v0,ls,v1,List.replicate k.toNat Hw⟩:FW)).toArray) O zc O (ahu aqh) (nj.blk (i:=1) O) O)<|fun atD xB=>aa<|aj<|rz O zc xB (i:=1) O mH O O ⟨(aap++Z99),(xB.sub (sQ (sQ (sQ sR)))),(⟨v0,ls,v1,List.replicate k.toNat Hw⟩:FW),rfl,?_,aqh⟩
 exact Ux hm h0 ‹¬k<_› hk
theorem Db(s:mv)(w:World)(hs:DX (Kw w) s):Calls Tryz.prog 32 #[.agg (Ss s)] w (Pure (B (vO s)) w):=by
 have BY:=hs.aq.sl.small
 have J4:=hs.vars.sl.small
 unfold maxLen at BY J4
 refine eH func32 rfl rfl fun hH=>SR<|gM hH (v:= .agg _) rfl<|fun b3 w1 bp=>va (v:=B false) rfl<|aa<|ai<|SR<|V (fA gH 0 O nN O)<|V (bZ (hs.aq.sl.hp bp) iP O O (bp.cell (i:=0) O O))<|V (aC (hs.aq.sl.hp bp) O iP O)<|V (dN O O)<|mB rfl<|bM 11 O (fun h5=> ?_) (fun h5=> ?_)
 .refine aE (v:=B true) rfl<|aa<|cA rfl<|SR<|va (v:=B true) rfl<|aa<|aj<|oB O ?_ bp
  (rw[vO,gW J];rfl)
 refine V (fA gH 1 O uq O)<|V (bZ (hs.vars.sl.hp bp) lS O O (bp.cell (i:=0) O O))<|V (aC (hs.vars.sl.hp bp) O lS O)<|V (dN O O)<|mB rfl<|aa<|aF O (fun h7=> ?_) (fun h7=> ?_)
 .refine SR<|va (v:=B true) rfl<|aa<|aj<|oB O ?_ bp
  (rw[vO,gW J];rfl)
 refine an<|ai<|SR<|V (fA gH 0 O nN O)<|V (bZ (hs.aq.sl.hp bp) iP O O (bp.cell (i:=0) O O))<|V (aC (hs.aq.sl.hp bp) O iP O)<|aE (v:=I 0) rfl<|aa<|aA<|have hno:¬(20<s.aq.length\/80<s.vars.length):=J;bt (G:=Int) (fun k s' w'=>(Fr (2::(4::(rg 20 14 []))) _ s')/\(Hp w w' _)/\(s' 20=I k)/\(0<=k)/\(k<=s.aq.length)/\(∀j:Int,0<=j->j<k->U3 (s.aq.getD j.toNat lH)=false)) (fun k=>(s.aq.length-k).toNat) (0) ⟨Fr.refl _ _,bp,rfl,J,J,fun j a b=>absurd b J⟩<| ?_
 rintro k sg8 w8 ⟨fr8,eX,aj0,h0,hk,hg⟩
 obtain⟨aES,aye,ayf⟩:=fr8.w3 1 18 19
 refine SR<|V (aN aj0 ayf)<|aa<|ai<|aF O (fun h10=> ?_) (fun h10=> ?_)
 .refine an<|ai<|aA<|SR<|V (ah (hs.aq.sl.hp eX) iP vi aye aj0 J)<|V (dY (dv:=lH) m9 (hs.aq.sl.hp eX) qY O O O J)<|lJ eX (aS Wg)<|fun NY I2 cN=>bg cN (i:=0) O (dO (c':=(MF _).toArray) O O O (U2 (hs.at J J)) (cN.blk (i:=0) O) O)<|fun QH gS=>aa<|SR<|V (fA qY 1 O uo O)<|V (ja (sub:=wK _) dm O O O (gS.blk (i:=0) O) O)<|aH O gS (Da _ _ ((hs.at J J).mono gS.kw)) (ay call72 O)<|fun I4 ep=>mB rfl<|eF 27 O (fun NT=> ?_) (fun NT=> ?_)
  .refine aE (v:=B true) rfl<|aa<|cA rfl<|SR<|va (v:=B true) rfl<|aa<|aj<|oB O ?_ ep
   (rw[vO,Gs (d:=lH) (P:=U3) h0 ‹k<_› (by rw[U3,p8];exact .inl aQ)];simp)
  refine V (fA qY 0 O ko O)<|V (aG iy O O (ep.cell (i:=0) O (v:= .string _) O))<|V (lA O iy O)<|V (dN O O)<|mB rfl<|aa<|aF O (fun N2=> ?_) (fun N2=> ?_)
  .refine SR<|va (v:=B true) rfl<|aa<|aj<|oB O ?_ ep
   (rw[vO,Gs (d:=lH) (P:=U3) h0 ‹k<_› (by rw[U3,p8];exact .inr (gW J))];simp)
  refine an<|au<|V (ax aj0 O J)<|mI rfl<|aa<| ?_
  refine⟨k+1,aW,fr8.u4.u4.u4.u1.u1.u1,(ep.sub (sQ sR)),(aK I aM),J,J,?_⟩
  exact fun j a b=>if e:j=k then e▸(by rw[U3,Bool.or_eq_false_iff];exact⟨aQ,gZ J⟩)else hg j a J
 refine a7 (id:=0) rfl<|ai<|SR<|V (fA gH 1 O uq aES)<|V (bZ (hs.vars.sl.hp eX) lS O O (eX.cell (i:=0) O O))<|V (aC (hs.vars.sl.hp eX) O lS O)<|aE (v:=I 0) rfl<|aa<|aA<|have hla:s.aq.any U3=false:=St (d:=lH) aQ hg;bt (G:=Int) (fun j s' w'=>(Fr (2::(6::(rg 37 9 []))) _ s')/\(Hp w w' _)/\(s' 37=I j)/\(0<=j)/\(j<=s.vars.length)/\(∀i:Int,0<=i->i<j->arL (s.vars.getD i.toNat fp)=false)) (fun j=>(s.vars.length-j).toNat) (0) ⟨Fr.refl _ _,eX,rfl,J,J,fun j a b=>absurd b J⟩<| ?_
 rintro j ayg QJ ⟨Tu,cD,aaq,j0,jk,hv⟩
 obtain⟨atE,atF⟩:=Tu.w2 35 36
 refine SR<|V (aN aaq atF)<|aa<|ai<|aF O (fun xu=> ?_) (fun xu=> ?_)
 .refine an<|ai<|aA<|SR<|V (ah (hs.vars.sl.hp cD) lS E4 atE aaq J)<|V (dY (dv:=fp) tD (hs.vars.sl.hp cD) oX O O O J)<|lJ cD (aS Tryz.zeroValue63)<|fun b27 w25 jf=>bg jf (i:=0) O (dO (c':=(OU _).toArray) O O O LF (jf.blk (i:=0) O) O)<|fun w28 gj=>aa<|SR<|V (fA oX 0 O ko O)<|V (aG iy O O (gj.cell (i:=0) O (v:= .string _) O))<|V (lA O iy O)<|V (dN O O)<|aa<|aF O (fun h31=> ?_) (fun h31=> ?_)
  .refine SR<|va (v:=B true) rfl<|aa<|aj<|oB O ?_ gj
   (rw[vO,Gs (d:=fp) (P:=arL) j0 ‹j<_› (gW J)];simp)
  refine an<|au<|V (ax aaq O J)<|mI rfl<|aa<| ?_
  refine⟨j+1,aW,Tu.u4.u4.u1.u1,(gj.sub (sQ sR)),(aK I aM),J,J,?_⟩
  exact fun i a b=>if e:i=j then e▸(gZ J)else hv i a J
 refine a7 (id:=2) rfl<|SR<|va (v:=B false) rfl<|aa<|aj<|oB O ?_ cD
 (rw[vO,hla,St (d:=fp) aQ hv,gZ hno];rfl)
theorem AR(s:mv)(w:World)(hs:DX (Kw w) s):Calls Tryz.prog 34 #[.agg (Ss s)] w (Pure (B (jb s)) w):=by
 have BY:=hs.aq.sl.small
 have J4:=hs.vars.sl.small
 unfold maxLen at BY J4
 refine eH func34 rfl rfl fun hH=>SR<|gM hH (v:= .agg _) rfl<|fun b3 w1 bp=>va (v:=B false) rfl<|aa<|SR<|va (v:= .slice none 0 0) rfl<|have iw:=bp.eR 9 1;aa<|ai<|SR<|V (fA gH 0 O nN O)<|V (bZ (hs.aq.sl.hp iw) iP O O (iw.cell (i:=1) O O))<|V (aC (hs.aq.sl.hp iw) O iP O)<|V (dN O O)<|mB rfl<|bM 12 O (fun h6=> ?_) (fun h6=> ?_)
 .refine aE (v:=B true) rfl<|aa<|cA rfl<|SR<|va (v:=B false) rfl<|aa<|aj<|oB O ?_ iw
  exact(P3 J).symm
 refine V (fA gH 1 O uq O)<|V (bZ (hs.vars.sl.hp iw) lS O O (iw.cell (i:=1) O O))<|V (aC (hs.vars.sl.hp iw) O lS O)<|V (dN O O)<|mB rfl<|aa<|aF O (fun h8=> ?_) (fun h8=> ?_)
 .refine SR<|va (v:=B false) rfl<|aa<|aj<|oB O ?_ iw
  exact(P3 J).symm
 refine an<|ai<|SR<|va (v:=I 0) rfl<|aa<|aA<|have hsz:s.aq.length<=16/\s.vars.length<=64:=J;have hnl:(rB s).length=s.aq.length+s.vars.length:=(by simp[rB]);bt (G:=Int×(List Tx)×Value) (fun⟨k,m,v3⟩ s' w'=>(Fr (rg 2 3 (rg 18 24 [])) _ s')/\(Hp w w' (.row v3 9 1 (m.length) (Jy m)::_))/\(s' 3=v3)/\(s' 4=I k)/\(0<=k)/\(k<=s.aq.length)/\(m=(s.aq.take k.toNat).map DW.name)/\((m.length:Int)=k)/\(∀j:Int,0<=j->j<k->mC (s.aq.getD j.toNat lH).yK.sh=true)) (fun⟨k,m,v3⟩=>(s.aq.length-k).toNat) ((0,[],(.slice none 0 0:Value))) ⟨Fr.refl _ _,iw,rfl,rfl,J,J,rfl,rfl,fun j a b=>absurd b J⟩<| ?_
 rintro⟨k,m,v3⟩ sg9 w9 ⟨fr9,iE,aaa,Pc,h0,hk,hm,hml,hg⟩
 have Z7:=fr9.w1 1
 refine ai<|SR<|aE Pc<|V (fA gH 0 O nN Z7)<|V (bZ (hs.aq.sl.hp iE) iP O O (iE.cell (i:=1) O O))<|V (aC (hs.aq.sl.hp iE) O iP O)<|V (aN O O)<|aa<|aF O (fun h11=> ?_) (fun h11=> ?_)
 .refine an<|ai<|aA<|ai<|SR<|V (fA gH 0 O nN Z7)<|V (bZ (hs.aq.sl.hp iE) iP O O (iE.cell (i:=1) O O))<|aE Pc<|V (ah (hs.aq.sl.hp iE) iP vi O O J)<|V (fA qY 1 O uo O)<|V (kZ (dv:=lH) (off:=1) (cs:=wK _) m9 (hs.aq.sl.hp iE) dm O O O J (xg _))<|aH O iE (mR _ _ ((hs.at J J).mono iE.kw)) (ay call73 O)<|fun y8 bX=>V (bJ O)<|aa<|bW O (fun yj=> ?_) (fun yj=> ?_)
  .refine SR<|va (v:=B false) rfl<|aa<|aj<|oB O ?_ bX
   exact(adJ h0 ‹k<_› (by rw[MQ,nt ‹(!mC _)=true›,K8])).symm
  refine an<|au<|aE aaa<|V (fA gH 0 O nN Z7)<|V (bZ (hs.aq.sl.hp bX) iP O O (bX.cell (i:=1) O O))<|aE Pc<|V (ah (hs.aq.sl.hp bX) iP vi O O J)<|V (fA qY 0 O ko O)<|V (gB (dv:=lH) (off:=0) m9 (hs.aq.sl.hp bX) iy O O J O)<|tQ 1 1 bX (cB dW O O (sz:=1) (vs:=[.string _]) O O az az O O)<|fun Z6 Ti dP=> ?_
  (try simp only[lf]at dP)
  refine gf O dP (i:=1) O (dP.dR (i:=0) (n:=1) (sz:=1) O O az) O O dW O O (size:=1) (bytes:=16) O O O az gX J iz<|fun v20 NL cD=> ?_
  refine V (run_assign bA) ?_
  refine aa<|au<|aE Pc<|V (ax O O J)<|aI rfl<|aa<| ?_
  refine⟨(k+1,m++[(s.aq.getD k.toNat lH).name],v20),aW,fr9.u4.u4.u4.u4.u4.u4.u1.u1,(Hp.conv (cD.sub (sQ sR)) aJ),rfl,(aK I aM),J,J,?_,?_,?_⟩
  .rw[U8 h0 ‹k<_›,<-hm]
  .simp only[dZ,ez];omega
  exact fun j a b=>if e:j=k then e▸nf ‹(!mC _)=false›else hg j a J
 refine a7 (id:=0) rfl<|ai<|SR<|va (v:=I 0) rfl<|aa<|aA<|bt (G:=Int×(List Tx)×Value) (fun⟨j,m2,v3⟩ s' w'=>(Fr (2::3::(5::6::(rg 42 38 []))) _ s')/\(Hp w w' (.row v3 9 1 (m2.length) (Jy m2)::_))/\(s' 3=v3)/\(s' 5=I j)/\(0<=j)/\(j<=s.vars.length)/\(m2=m++(s.vars.take j.toNat).map vN.name)/\((m2.length:Int)=k+j)/\(∀i:Int,0<=i->i<j->((s.vars.getD i.toNat fp).kind=1\/(s.vars.getD i.toNat fp).kind=2)/\0<=(s.vars.getD i.toNat fp).a8/\(s.vars.getD i.toNat fp).a8<s.aq.length)) (fun⟨j,m2,v3⟩=>(s.vars.length-j).toNat) ((0,m,(v3:Value))) ⟨Fr.refl _ _,iE,aaa,rfl,J,J,(mY m).symm,J,fun j a b=>absurd b J⟩<| ?_
 rintro⟨j,m2,v3⟩ aET w23 ⟨aeL,eM,aj1,acp,j0,hj,J4,aNx,hv⟩
 have QM:=aeL.t1 1 Z7
 refine ai<|SR<|aE acp<|V (fA gH 1 O uq QM)<|V (bZ (hs.vars.sl.hp eM) lS O O (eM.cell (i:=1) O O))<|V (aC (hs.vars.sl.hp eM) O lS O)<|V (aN O O)<|aa<|aF O (fun I6=> ?_) (fun I6=> ?_)
 .refine an<|ai<|aA<|SR<|V (fA gH 1 O uq QM)<|V (bZ (hs.vars.sl.hp eM) lS O O (eM.cell (i:=1) O O))<|aE acp<|V (ah (hs.vars.sl.hp eM) lS E4 O O J)<|V (dY (dv:=fp) tD (hs.vars.sl.hp eM) oX O O O J)<|lJ eM (aS Tryz.zeroValue63)<|fun b28 Wv dK=>bg dK (i:=0) O (dO (c':=(OU _).toArray) O O O LF (dK.blk (i:=0) O) O)<|fun w29 iV=>aa<|ai<|SR<|V (fA oX 1 O aO O)<|lI bx iV 0 O O rfl<|V (kG O O)<|mB rfl<|bM 57 O (fun BO=> ?_) (fun BO=> ?_)
  .refine V (fA oX 1 O aO O)<|lI bx iV 0 O O rfl<|V (kG O O)<|mB rfl<|mB rfl<|bM 62 O (fun h34=> ?_) (fun h34=> ?_)
   .refine aE (v:=B true) rfl<|mB rfl<|cC O rfl<|aE (v:=B true) rfl<|aa<|cA rfl<|SR<|va (v:=B false) rfl<|aa<|aj<|oB O ?_ iV
    exact(yM j0 ‹j<_› LC).symm
   refine V (fA oX 2 O aO O)<|lI bx iV 0 O O rfl<|V (aN O O)<|mB rfl<|mB rfl<|bM 67 O (fun h36=> ?_) (fun h36=> ?_)
   .refine aE (v:=B true) rfl<|aa<|cA rfl<|SR<|va (v:=B false) rfl<|aa<|aj<|oB O ?_ iV
    exact(yM j0 ‹j<_› LC).symm
   refine V (fA oX 2 O aO O)<|lI bx iV 0 O O rfl<|V (fA gH 0 O nN QM)<|V (bZ (hs.aq.sl.hp iV) iP O O (iV.cell (i:=2) O O))<|V (aC (hs.aq.sl.hp iV) O iP O)<|V (dF O O)<|mB rfl<|aa<|aF O (fun h38=> ?_) (fun h38=> ?_)
   .refine SR<|va (v:=B false) rfl<|aa<|aj<|oB O ?_ iV
    exact(yM j0 ‹j<_› LC).symm
   refine an<|au<|aE aj1<|V (fA oX 0 O ko O)<|V (aG iy O O (iV.cell (i:=0) O (v:= .string _) O))<|tQ 1 1 iV (cB dW O O (sz:=1) (vs:=[.string _]) O O az az O O)<|fun b41 w39 lE=> ?_
   (try simp only[lf]at lE)
   refine gf O lE (i:=2) O (lE.dR (i:=0) (n:=1) (sz:=1) O O az) O O dW O O (size:=1) (bytes:=16) O O O az gX J iz<|fun v42 w43 qm=> ?_
   refine V (run_assign bA) ?_
   refine aa<|au<|aE acp<|V (ax O O J)<|aI rfl<|aa<| ?_
   refine⟨(j+1,m2++[(s.vars.getD j.toNat fp).name],v42),aW,aeL.u4.u4.u4.u4.u4.u4.u4.u4.u4.u4.u1,(Hp.conv (qm.sub (sQ (sQ sR))) aJ),rfl,(aK I aM),J,J,?_,?_,?_⟩
   .rw[JA j0 ‹j<_›,J4,dG]
   .simp only[dZ,ez];omega
   exact fun i a b=>if e:i=j then e▸(by omega)else hv i a J
  refine aE (v:=B false) rfl<|mB rfl<|cC O rfl<|V (fA oX 2 O aO O)<|lI bx iV 0 O O rfl<|V (aN O O)<|mB rfl<|mB rfl<|bM 67 O (fun h46=> ?_) (fun h46=> ?_)
  .refine aE (v:=B true) rfl<|aa<|cA rfl<|SR<|va (v:=B false) rfl<|aa<|aj<|oB O ?_ iV
   exact(yM j0 ‹j<_› LC).symm
  refine V (fA oX 2 O aO O)<|lI bx iV 0 O O rfl<|V (fA gH 0 O nN QM)<|V (bZ (hs.aq.sl.hp iV) iP O O (iV.cell (i:=2) O O))<|V (aC (hs.aq.sl.hp iV) O iP O)<|V (dF O O)<|mB rfl<|aa<|aF O (fun h48=> ?_) (fun h48=> ?_)
  .refine SR<|va (v:=B false) rfl<|aa<|aj<|oB O ?_ iV
   exact(yM j0 ‹j<_› LC).symm
  refine an<|au<|aE aj1<|V (fA oX 0 O ko O)<|V (aG iy O O (iV.cell (i:=0) O (v:= .string _) O))<|tQ 1 1 iV (cB dW O O (sz:=1) (vs:=[.string _]) O O az az O O)<|fun b51 w49 eL=> ?_
  (try simp only[lf]at eL)
  refine gf O eL (i:=2) O (eL.dR (i:=0) (n:=1) (sz:=1) O O az) O O dW O O (size:=1) (bytes:=16) O O O az gX J iz<|fun v52 w53 gQ=> ?_
  refine V (run_assign bA) ?_
  refine aa<|au<|aE acp<|V (ax O O J)<|aI rfl<|aa<| ?_
  refine⟨(j+1,m2++[(s.vars.getD j.toNat fp).name],v52),aW,aeL.u4.u4.u4.u4.u4.u4.u4.u4.u4.u4.u1,(Hp.conv (gQ.sub (sQ (sQ sR))) aJ),rfl,(aK I aM),J,J,?_,?_,?_⟩
  .rw[JA j0 ‹j<_›,J4,dG]
  .simp only[dZ,ez];omega
  exact fun i a b=>if e:i=j then e▸(by omega)else hv i a J
 refine a7 (id:=2) rfl<|ai<|SR<|va (v:=I 0) rfl<|aa<|aA<|have hnm:m2=rB s:=(by rw[J4,hm,ji J,ji J];rfl);bt (G:=Int) (fun i s' w'=>(Fr (2::(7::(rg 80 12 []))) _ s')/\(Hp w w' _)/\(s' 7=I i)/\(0<=i)/\(i<=m2.length)/\(∀x:Int,0<=x->x<i->iQ (m2.getD x.toNat qe)=true)) (fun i=>(m2.length-i).toNat) (0) ⟨Fr.refl _ _,eM,rfl,J,J,fun j a b=>absurd b J⟩<| ?_
 rintro i ayh w55 ⟨Od,jz,WJ,i0,i1,hn⟩
 have Oe:=Od.t1 3 aj1
 refine ai<|SR<|aE WJ<|aE Oe<|V (aC (jz.sl (i:=0) O) O dW O)<|V (aN O O)<|aa<|aF O (fun Pm=> ?_) (fun Pm=> ?_)
 .refine an<|ai<|aA<|SR<|aE Oe<|aE WJ<|V (ah (jz.sl (i:=0) O) dW ko O O J)<|V (aG iy O O ((jz.sl (i:=0) O).cell _ _ (Cy J)))<|aH O jz (iK _ _) (ay call74 O)<|fun w58 BR=>V (bJ O)<|aa<|bW O (fun h62=> ?_) (fun h62=> ?_)
  .refine SR<|va (v:=B false) rfl<|aa<|aj<|oB O ?_ BR
   exact(Y3 i0 (by rw[hnm]at*;omega) (by rw[<-hnm];exact nt ‹(!iQ _)=true›)).symm
  refine an<|au<|aE WJ<|V (ax O O J)<|aI rfl<|aa<| ?_
  refine⟨i+1,aW,Od.u4.u4.u4.u1,BR,(aK I aM),J,J,?_⟩
  exact fun x a b=>if e:x=i then e▸nf ‹(!iQ _)=false›else hn x a J
 refine a7 (id:=4) rfl<|SR<|aE Oe<|aH O jz (j5 _ _ _ (jz.sl (i:=0) O)) (ay call75 O)<|fun w63 wR=>V (aN O O)<|aB rfl<|aa<|aj<|oB O ?_ wR
 (rw[hnm]at*;exact(adL hk hj hsz ‹¬k<_› hg ‹¬j<_› hv ‹¬i<_› hn).symm)
theorem G7(v:Value)(l:List dU)(w:World)(hs:Sl w v 10 l.length (l.flatMap j9)):Calls Tryz.prog 103 #[v] w (Pure (B (fU l)) w):=by
 have hm:=hs.small
 unfold maxLen at hm
 refine eH func103 rfl rfl fun hH=>SR<|va (v:=B false) rfl<|aa<|SR<|va (v:=I 0) rfl<|aa<|ai<|SR<| ?_
 refine V (run_move bA) ?_
 refine V (aC (hs.hp hH) O ia O)<|aE (v:=I 0) rfl<|aa<|aA<|bt (G:=Int×Int) (fun⟨k,d⟩ s' w'=>(Fr (2::3::(5::(rg 8 29 []))) _ s')/\(Hp w w' _)/\(s' 3=I d)/\(s' 8=I k)/\(0<=k)/\(k<=l.length)/\(ju l k=some d)) (fun⟨k,d⟩=>(l.length-k).toNat) ((0,0)) ⟨Fr.refl _ _,hH,rfl,rfl,J,J,yP l⟩<| ?_
 rintro⟨k,d⟩ sg1 w1 ⟨uM,je,sW,O7,h0,hk,hd⟩
 obtain⟨O8,Wj⟩:=uM.w2 6 7
 have hdb:=KP h0 hk hd
 refine SR<|V (aN O7 Wj)<|aa<|ai<|aF O (fun h3=> ?_) (fun h3=> ?_)
 .refine an<|ai<|aA<|SR<|V (ah (hs.hp je) ia pg O8 O7 J)<|V (dY (dv:=bG) gO (hs.hp je) dX O O O J)<|lJ je (aS yX)<|fun b6 w4 bY=>bg bY (i:=0) O (dO (c':=(j9 _).toArray) O O O (vR _) (bY.blk (i:=0) O) O)<|fun w7 eX=>aa<|SR<|V (fA dX 0 O aO O)<|lI bx eX 0 O O rfl<|aa<|aA<|ai<|SR<|V (bU O O)<|aB rfl<|aa<|aF O (fun h10=> ?_) (fun h10=> ?_)
  .refine an<|cA (bT h10)<|au<|aE sW<|V (ax O O J)<|aI rfl<|aa<|au<|V (ax O7 O J)<|mI rfl<|aa<| ?_
   refine⟨(k+1,d+1),aW,uM.u4.u4.u4.u1,(eX.sub (sQ sR)),(aK I aM),(aK I aM),J,J,?_⟩
   rw[jc h0 ‹k<_›,hd];exact uT (.inl aQ)
  refine au<|V (bU O O)<|aB rfl<|aa<|aF O (fun h12=> ?_) (fun h12=> ?_)
  .refine au<|aE sW<|V (ax O O J)<|aI rfl<|aa<|au<|V (ax O7 O J)<|mI rfl<|aa<| ?_
   refine⟨(k+1,d+1),aW,uM.u4.u4.u4.u1.u1.u1,(eX.sub (sQ sR)),(aK I aM),(aK I aM),J,J,?_⟩
   rw[jc h0 ‹k<_›,hd];exact uT (.inr aQ)
  refine ai<|SR<|V (bU O O)<|aB rfl<|aa<|aF O (fun F4=> ?_) (fun F4=> ?_)
  .refine an<|cA (bT F4)<|ai<|SR<|V (fA dX 1 O aO O)<|lI bx eX 0 O O rfl<|V (aN O O)<|mB rfl<|bM 25 O (fun yj=> ?_) (fun yj=> ?_)
   .refine aE (v:=B true) rfl<|aa<|cA rfl<|SR<|va (v:=B false) rfl<|aa<|aj<|oB O ?_ eX
    exact(Er h0 ‹k<_› hd (z6 J J)).symm
   refine V (fA dX 1 O aO O)<|lI bx eX 0 O O rfl<|aE sW<|V (dN O O)<|mB rfl<|aa<|aF O (fun qk=> ?_) (fun qk=> ?_)
   .refine SR<|va (v:=B false) rfl<|aa<|aj<|oB O ?_ eX
    exact(Er h0 ‹k<_› hd (z6 J J)).symm
   refine an<|au<|aE sW<|V (fA dX 1 O aO O)<|lI bx eX 0 O O rfl<|V (eO O O J)<|V (eO O O J)<|aI rfl<|aa<|au<|V (ax O7 O J)<|mI rfl<|aa<| ?_
   refine⟨(k+1,d-(l.getD k.toNat bG).n+1),aW,uM.u4.u4.u4.u4.u4.u4.u4.u1,(eX.sub (sQ sR)),(aK I J),(aK I aM),J,J,?_⟩
   rw[jc h0 ‹k<_›,hd];exact MS J J J
  refine au<|V (bU O O)<|aB rfl<|aa<|aF O (fun OT=> ?_) (fun OT=> ?_)
  .refine ai<|SR<|V (fA dX 1 O aO O)<|lI bx eX 0 O O rfl<|V (aN O O)<|mB rfl<|bM 25 O (fun h22=> ?_) (fun h22=> ?_)
   .refine aE (v:=B true) rfl<|aa<|cA rfl<|SR<|va (v:=B false) rfl<|aa<|aj<|oB O ?_ eX
    exact(Er h0 ‹k<_› hd (z6 J J)).symm
   refine V (fA dX 1 O aO O)<|lI bx eX 0 O O rfl<|aE sW<|V (dN O O)<|mB rfl<|aa<|aF O (fun xu=> ?_) (fun xu=> ?_)
   .refine SR<|va (v:=B false) rfl<|aa<|aj<|oB O ?_ eX
    exact(Er h0 ‹k<_› hd (z6 J J)).symm
   refine an<|au<|aE sW<|V (fA dX 1 O aO O)<|lI bx eX 0 O O rfl<|V (eO O O J)<|V (eO O O J)<|aI rfl<|aa<|au<|V (ax O7 O J)<|mI rfl<|aa<| ?_
   refine⟨(k+1,d-(l.getD k.toNat bG).n+1),aW,uM.u4.u4.u4.u4.u4.u4.u4.u1.u1.u1,(eX.sub (sQ sR)),(aK I J),(aK I aM),J,J,?_⟩
   rw[jc h0 ‹k<_›,hd];exact MS J J J
  refine SR<|va (v:=B false) rfl<|aa<|aj<|oB O ?_ eX
  exact(Er h0 ‹k<_› hd (SA J J)).symm
 refine a7 (id:=0) rfl<|SR<|aE sW<|V (bU O O)<|aB rfl<|aa<|aj<|oB O ?_ je
 exact(Y5 hk ‹¬k<_› hd).symm
theorem rN(v:Value)(l:List dU)(w:World)(hs:Sl w v 10 l.length (l.flatMap j9)):Calls Tryz.prog 78 #[v] w (Pure (B (fU l)) w):=by
 have hm:=hs.small
 unfold maxLen at hm
 refine eH func78 rfl rfl fun hH=>SR<|va (v:=B false) rfl<|aa<|SR<|va (v:=I 0) rfl<|aa<|ai<|SR<|va (v:=I 0) rfl<|aa<|aA<|bt (G:=Int×Int) (fun⟨k,d⟩ s' w'=>(Fr (rg 2 45 []) _ s')/\(Hp w w' _)/\(s' 3=I d)/\(s' 4=I k)/\(0<=k)/\(k<=l.length)/\(ju l k=some d)) (fun⟨k,d⟩=>(l.length-k).toNat) ((0,0)) ⟨Fr.refl _ _,hH,rfl,rfl,J,J,yP l⟩<| ?_
 rintro⟨k,d⟩ sg1 w1 ⟨uM,je,sW,Ar,h0,hk,hd⟩
 have mz:=uM.w1 0
 have hdb:=KP h0 hk hd
 refine ai<|SR<|aE Ar<|aE mz<|V (aC (hs.hp je) O ia O)<|V (aN O O)<|aa<|aF O (fun h3=> ?_) (fun h3=> ?_)
 .refine an<|ai<|aA<|SR<|aE mz<|aE Ar<|V (ah (hs.hp je) ia pg O O J)<|V (fA dX 0 O aO O)<|V (gB (dv:=bG) (off:=0) gO (hs.hp je) bx O O J O)<|aa<|aA<|ai<|SR<|V (bU O O)<|aB rfl<|aa<|aF O (fun h5=> ?_) (fun h5=> ?_)
  .refine an<|cA (bT h5)<|au<|aE sW<|V (ax O O J)<|aI rfl<|aa<|au<|aE Ar<|V (ax O O J)<|aI rfl<|aa<| ?_
   refine⟨(k+1,d+1),aW,uM.u4.u4.u4.u4.u1,je,(aK I aM),(aK I aM),J,J,?_⟩
   rw[jc h0 ‹k<_›,hd];exact uT (.inl aQ)
  refine au<|V (bU O O)<|aB rfl<|aa<|aF O (fun h7=> ?_) (fun h7=> ?_)
  .refine au<|aE sW<|V (ax O O J)<|aI rfl<|aa<|au<|aE Ar<|V (ax O O J)<|aI rfl<|aa<| ?_
   refine⟨(k+1,d+1),aW,uM.u4.u4.u4.u4.u1.u1.u1,je,(aK I aM),(aK I aM),J,J,?_⟩
   rw[jc h0 ‹k<_›,hd];exact uT (.inr aQ)
  refine ai<|SR<|V (bU O O)<|aB rfl<|aa<|aF O (fun h9=> ?_) (fun h9=> ?_)
  .refine an<|cA (bT h9)<|ai<|SR<|aE mz<|aE Ar<|V (ah (hs.hp je) ia pg O O J)<|V (fA dX 1 O aO O)<|V (gB (dv:=bG) (off:=1) gO (hs.hp je) bx O O J O)<|V (aN O O)<|mB rfl<|bM 30 O (fun h11=> ?_) (fun h11=> ?_)
   .refine aE (v:=B true) rfl<|aa<|cA rfl<|SR<|va (v:=B false) rfl<|aa<|aj<|oB O ?_ je
    exact(Er h0 ‹k<_› hd (z6 J J)).symm
   refine aE mz<|aE Ar<|V (ah (hs.hp je) ia pg O O J)<|V (fA dX 1 O aO O)<|V (gB (dv:=bG) (off:=1) gO (hs.hp je) bx O O J O)<|aE sW<|V (dN O O)<|mB rfl<|aa<|aF O (fun Th=> ?_) (fun Th=> ?_)
   .refine SR<|va (v:=B false) rfl<|aa<|aj<|oB O ?_ je
    exact(Er h0 ‹k<_› hd (z6 J J)).symm
   refine an<|au<|aE sW<|aE mz<|aE Ar<|V (ah (hs.hp je) ia pg O O J)<|V (fA dX 1 O aO O)<|V (gB (dv:=bG) (off:=1) gO (hs.hp je) bx O O J O)<|V (eO O O J)<|V (ax O O J)<|aI rfl<|aa<|au<|aE Ar<|V (ax O O J)<|aI rfl<|aa<| ?_
   refine⟨(k+1,d-(l.getD k.toNat bG).n+1),aW,uM.u4.u4.u4.u4.u4.u4.u4.u4.u4.u4.u1.u1,je,(aK I aM),(aK I aM),J,J,?_⟩
   rw[jc h0 ‹k<_›,hd];exact MS J J J
  refine au<|V (bU O O)<|aB rfl<|aa<|aF O (fun D6=> ?_) (fun D6=> ?_)
  .refine ai<|SR<|aE mz<|aE Ar<|V (ah (hs.hp je) ia pg O O J)<|V (fA dX 1 O aO O)<|V (gB (dv:=bG) (off:=1) gO (hs.hp je) bx O O J O)<|V (aN O O)<|mB rfl<|bM 30 O (fun G5=> ?_) (fun G5=> ?_)
   .refine aE (v:=B true) rfl<|aa<|cA rfl<|SR<|va (v:=B false) rfl<|aa<|aj<|oB O ?_ je
    exact(Er h0 ‹k<_› hd (z6 J J)).symm
   refine aE mz<|aE Ar<|V (ah (hs.hp je) ia pg O O J)<|V (fA dX 1 O aO O)<|V (gB (dv:=bG) (off:=1) gO (hs.hp je) bx O O J O)<|aE sW<|V (dN O O)<|mB rfl<|aa<|aF O (fun NT=> ?_) (fun NT=> ?_)
   .refine SR<|va (v:=B false) rfl<|aa<|aj<|oB O ?_ je
    exact(Er h0 ‹k<_› hd (z6 J J)).symm
   refine an<|au<|aE sW<|aE mz<|aE Ar<|V (ah (hs.hp je) ia pg O O J)<|V (fA dX 1 O aO O)<|V (gB (dv:=bG) (off:=1) gO (hs.hp je) bx O O J O)<|V (eO O O J)<|V (ax O O J)<|aI rfl<|aa<|au<|aE Ar<|V (ax O O J)<|aI rfl<|aa<| ?_
   refine⟨(k+1,d-(l.getD k.toNat bG).n+1),aW,uM.u4.u4.u4.u4.u4.u4.u4.u4.u4.u4.u4,je,(aK I aM),(aK I aM),J,J,?_⟩
   rw[jc h0 ‹k<_›,hd];exact MS J J J
  refine SR<|va (v:=B false) rfl<|aa<|aj<|oB O ?_ je
  exact(Er h0 ‹k<_› hd (SA J J)).symm
 refine a7 (id:=0) rfl<|SR<|aE sW<|V (bU O O)<|aB rfl<|aa<|aj<|oB O ?_ je
 exact(Y5 hk ‹¬k<_› hd).symm
theorem kI(s:mv)(v kd a8:Int)(w:World)(hs:DX (Kw w) s):Calls Tryz.prog 76 #[.agg (Ss s),I v,I kd,I a8] w (Pure (B (q9 s v kd a8)) w):=by
 have BY:=hs.aq.sl.small
 have J4:=hs.vars.sl.small
 unfold maxLen at BY J4
 refine eH func76 rfl rfl fun hH=>SR<|gM hH (v:= .agg _) rfl<|fun b3 w1 bp=>va (v:=B false) rfl<|aa<|SR<|mI rfl<|V (dF O O)<|mB rfl<|bM 11 O (fun h5=> ?_) (fun h5=> ?_)
 .refine mI rfl<|V (fA gH 1 O uq O)<|V (bZ (hs.vars.sl.hp bp) lS O O (bp.cell (i:=0) O O))<|V (aC (hs.vars.sl.hp bp) O lS O)<|V (aN O O)<|mB rfl<|mB rfl<|bM 18 O (fun h7=> ?_) (fun h7=> ?_)
  .refine V (fA gH 1 O uq O)<|V (bZ (hs.vars.sl.hp bp) lS O O (bp.cell (i:=0) O O))<|mI rfl<|V (ah (hs.vars.sl.hp bp) lS E4 O O J)<|V (fA oX 1 O aO O)<|V (gB (dv:=fp) (off:=1) tD (hs.vars.sl.hp bp) bx O O J O)<|mI rfl<|V (bU O O)<|mB rfl<|mB rfl<|bM 28 O (fun h9=> ?_) (fun h9=> ?_)
   .refine V (fA gH 1 O uq O)<|V (bZ (hs.vars.sl.hp bp) lS O O (bp.cell (i:=0) O O))<|mI rfl<|V (ah (hs.vars.sl.hp bp) lS E4 O O J)<|V (fA oX 2 O aO O)<|V (gB (dv:=fp) (off:=2) tD (hs.vars.sl.hp bp) bx O O J O)<|mI rfl<|V (bU O O)<|mB rfl<|aB rfl<|aa<|aj<|oB O ?_ bp
    (rw[ahA ⟨J,J⟩ ‹(List.getD s.vars _ _).kind=kd›];done)
   refine aE (v:=B false) rfl<|aB rfl<|aa<|aj<|oB O ?_ bp
   (rw[ahz ‹¬(List.getD s.vars _ _).kind=kd›];done)
  refine aE (v:=B false) rfl<|mB rfl<|cC O rfl<|aE (v:=B false) rfl<|aB rfl<|aa<|aj<|oB O ?_ bp
  (rw[Vd J];done)
 refine aE (v:=B false) rfl<|mB rfl<|cC O rfl<|aE (v:=B false) rfl<|mB rfl<|cC O rfl<|aE (v:=B false) rfl<|aB rfl<|aa<|aj<|oB O ?_ bp
 (rw[Vd J];done)
theorem mo(s:mv)(a8:Int)(t:iR)(aEW:0<=a8/\a8<s.aq.length)(w:World)(hs:DX (Kw w) s):Calls Tryz.prog 79 #[.agg (Ss s),I a8,.agg (jG t).toArray] w (Pure (B (mc s a8 t)) w):=by
 have BY:=hs.aq.sl.small
 have J4:=hs.vars.sl.small
 unfold maxLen at BY J4
 refine eH func79 rfl rfl fun hH=>SR<|gM hH (v:= .agg _) rfl<|fun b3 w1 bp=>gM bp (v:= .agg _) rfl<|fun b6 w4 bY=>va (v:=B false) rfl<|aa<|ai<|SR<|V (fA kK 0 O aO O)<|lI bx bY 0 O O rfl<|V (aN O O)<|aa<|aF O (fun h8=> ?_) (fun h8=> ?_)
 .refine ai<|ec aP bY<|fun w9 cg=>have AB:=cg;AQ 0 O AB (fA gH 0 O nN O)<|AT 1 O AB (fun w hS=>bZ (hs.aq.sl.hp hS) iP O O (hS.cell (i:=1) O O))<|AQ 2 O AB (mV (I _) O)<|AT 3 O AB (fun w hS=>ah (hs.aq.sl.hp hS) iP vi O O J)<|AQ 4 O AB (fA qY 1 O uo O)<|AT 5 O AB (fun w hS=>kZ (dv:=lH) (off:=1) (cs:=wK _) m9 (hs.aq.sl.hp hS) dm O O O J (xg _))<|AQ 6 O AB (fA kK 1 O fh O)<|AT 7 O AB (fun w hS=>nr bI O O O (hS.blk (i:=0) O) (U9 _))<|A1 8<|ct O aD O cg sR (nU _ _ _ ((hs.at J J).mono cg.kw)) (aL call80 O O)<|fun I2 cN=>AQ 9 O cN (aV (B _) O)<|AD<|aj<|oB O ?_ cN
  (rw[atom_1 ‹t.var<0›];rfl)
 refine an<|SR<|V (cF (cs:=DY _) gH O O O (bj (bY.blk (i:=1) O)))<|V (fA kK 0 O aO O)<|lI bx bY 0 O O rfl<|mI rfl<|aH O bY (kI _ _ _ _ _ (hs.mono bY.kw)) (jE call76 O O (show _=I 1 from O) O)<|fun QH gS=>aB rfl<|aa<|aj<|oB O ?_ gS
 (rw[arX ‹¬t.var<0›];done)
theorem rO(s:mv)(a8:Int)(r:Bx)(aEW:0<=a8/\a8<s.aq.length)(w:World)(hs:DX (Kw w) s)(hr:Y4 (Kw w) r):Calls Tryz.prog 77 #[.agg (Ss s),I a8,.agg (Sy r).toArray] w (Pure (B (vS s a8 r)) w):=by
 have BY:=hs.aq.sl.small
 have J4:=hs.vars.sl.small
 unfold maxLen at BY J4
 have hm3:=hr.fields.small
 unfold maxLen at hm3
 refine eH func77 rfl rfl fun hH=>SR<|gM hH (v:= .agg _) rfl<|fun b3 w1 bp=>gM bp (v:= .agg _) rfl<|fun b6 w4 bY=>va (v:=B false) rfl<|aa<|SR<|va (v:= .slice none 0 0) rfl<|have eC:=bY.eR 9 1;aa<|ai<|SR<|V (fA p9 0 O vk O)<|V (bZ (hr.fields.sl.hp eC) m4 O O (eC.cell (i:=1) O O))<|V (aC (hr.fields.sl.hp eC) O m4 O)<|V (dN O O)<|mB rfl<|bM 13 O (fun h9=> ?_) (fun h9=> ?_)
 .refine gm O O rfl<|gm O O rfl<|gm O O rfl<|gm O O rfl<|gm O O rfl<|gm O O rfl<|zO<|aE (v:=B true) rfl<|aa<|cA rfl<|SR<|va (v:=B false) rfl<|aa<|aj<|oB O ?_ eC
  exact(amE J).symm
 refine V (fA p9 1 O aO O)<|lI bx eC 1 O O rfl<|V (dF O O)<|mB rfl<|bM 17 O (fun h11=> ?_) (fun h11=> ?_)
 .refine V (cF (cs:=DY _) gH O O O (bj (eC.blk (i:=2) O)))<|V (fA p9 1 O aO O)<|lI bx eC 1 O O rfl<|mI rfl<|aH O eC (kI _ _ _ _ _ (hs.mono eC.kw)) (jE call76 O O (show _=I 2 from O) O)<|fun y8 bX=>V (bJ O)<|mB rfl<|mB rfl<|aa<|bW O (fun yj=> ?_) (fun yj=> ?_)
  .refine SR<|va (v:=B false) rfl<|aa<|aj<|oB O ?_ bX
   exact(amF J (nt ‹(!q9 s r.tail 2 a8)=true›)).symm
  refine an<|ai<|SR<|va (v:=I 0) rfl<|aa<|aA<|have hsz:r.fields.length<=16:=J;have htl:r.tail<0\/q9 s r.tail 2 a8=true:=(by exact .inr (nf ‹(!q9 s r.tail 2 a8)=false›));bt (G:=Int×(List Tx)×Value) (fun⟨k,m,v7⟩ s' w'=>(Fr (rg 6 3 (rg 26 34 [])) _ s')/\(Hp w w' (.row v7 9 1 (m.length) (Jy m)::_))/\(s' 7=v7)/\(s' 8=I k)/\(0<=k)/\(k<=r.fields.length)/\(m=(r.fields.take k.toNat).map lC.name)/\((m.length:Int)=k)/\(∀j:Int,0<=j->j<k->rC s a8 (r.fields.getD j.toNat nP)=true)) (fun⟨k,m,v7⟩=>(r.fields.length-k).toNat) ((0,[],(.slice none 0 0:Value))) ⟨Fr.refl _ _,bX,rfl,rfl,J,J,rfl,rfl,fun j a b=>absurd b J⟩<| ?_
  rintro⟨k,m,v7⟩ aEA Ti ⟨ajK,ep,aqi,WK,h0,hk,hm,hml,hg⟩
  obtain⟨ayi,ayj,NS⟩:=ajK.w3 1 3 5
  refine ai<|SR<|aE WK<|V (fA p9 0 O vk NS)<|V (bZ (hr.fields.sl.hp ep) m4 O O (ep.cell (i:=1) O O))<|V (aC (hr.fields.sl.hp ep) O m4 O)<|V (aN O O)<|aa<|aF O (fun NT=> ?_) (fun NT=> ?_)
  .refine an<|ai<|aA<|SR<|aE aqi<|V (fA p9 0 O vk NS)<|V (bZ (hr.fields.sl.hp ep) m4 O O (ep.cell (i:=1) O O))<|aE WK<|V (ah (hr.fields.sl.hp ep) m4 HK O O J)<|V (fA HI 0 O ko O)<|V (gB (dv:=nP) (off:=0) sJ (hr.fields.sl.hp ep) iy O O J O)<|tQ 1 1 ep (cB dW O O (sz:=1) (vs:=[.string _]) O O az az O O)<|fun b22 ZZ fI=> ?_
   (try simp only[lf]at fI)
   refine gf O fI (i:=1) O (fI.dR (i:=0) (n:=1) (sz:=1) O O az) O O dW O O (size:=1) (bytes:=16) O O O az gX J iz<|fun v23 w24 n9=> ?_
   refine V (run_assign bA) ?_
   refine aa<|ai<|ec aP n9<|fun Wv dK=>have Tv:=dK;?_
   refine AQ 0 O Tv (run_move bA) ?_
   refine AQ 1 O Tv (run_move WK)<|AT 2 O Tv (fun w hS=>ah (hS.sl (i:=1) O) dW ko O O J)<|AT 3 O Tv (fun w hS=>aG iy O O ((hS.sl (i:=1) O).cell _ _ (Ve hml)))<|A1 4<|ct O aD O dK sR (iK _ _) (ay call74 O)<|fun w28 gj=>have D8:=gj;AQ 5 O D8 (bJ O)<|AQ 6 O D8 (mV (B _) O)<|LR (dj:=48) O (fun BO=> ?_) (fun BO=> ?_)
   .refine AK 7 O O (bR (c:=true) BO) gj<|AK 8 O O (bR (c:=true) BO) gj<|AK 9 O O (bR (c:=true) BO) gj<|AK 10 O O (bR (c:=true) BO) gj<|AK 11 O O (bR (c:=true) BO) gj<|AK 12 O O (bR (c:=true) BO) gj<|AK 13 O O (bR (c:=true) BO) gj<|AK 14 O O (bR (c:=true) BO) gj<|AK 15 O O (bR (c:=true) BO) gj<|AK 16 O O (bR (c:=true) BO) gj<|AQ 17 O D8 (gL (bR (c:=true) BO) (v:=B true) O)<|AD<|cA rfl<|SR<|va (v:=B false) rfl<|aa<|aj<|oB O ?_ gj
    exact(KS h0 ‹k<_› (P5 (nt ‹(!iQ _)=true›))).symm
   refine AG 7 O O (bR (c:=false) BO) gj (fun w hS=>cF (cs:=DY _) gH O O ayj (bj (hS.blk (i:=3) O)))<|BQ 8 O O (bR (c:=false) BO) gj (run_move ayi)<|BQ 9 O O (bR (c:=false) BO) gj (fA p9 0 O vk NS)<|AG 10 O O (bR (c:=false) BO) gj (fun w hS=>bZ (hr.fields.sl.hp hS) m4 O O (hS.cell (i:=2) O O))<|BQ 11 O O (bR (c:=false) BO) gj (run_move WK)<|AG 12 O O (bR (c:=false) BO) gj (fun w hS=>ah (hr.fields.sl.hp hS) m4 HK O O J)<|BQ 13 O O (bR (c:=false) BO) gj (fA HI 1 O kO O)<|AG 14 O O (bR (c:=false) BO) gj (fun w hS=>kZ (dv:=nP) (off:=1) (cs:=jG _) sJ (hr.fields.sl.hp hS) kK O O O J (P4 _))<|A1 15<|ct O (A3 O (bR (c:=false) BO)) O gj sR (mo _ _ _ J _ (hs.mono gj.kw)) (bz call79 O O O)<|fun w33 lD=>BQ 16 O O (bR (c:=false) BO) lD (bJ O)<|AQ 17 O lD (eo (bR (c:=false) BO) (v:=B _) O)<|AD<|bW O (fun h37=> ?_) (fun h37=> ?_)
   .refine SR<|va (v:=B false) rfl<|aa<|aj<|oB O ?_ lD
    exact(KS h0 ‹k<_› (P6 (nt ‹(!mc s a8 _)=true›))).symm
   refine an<|au<|aE WK<|V (ax O O J)<|aI rfl<|aa<| ?_
   refine⟨(k+1,m++[(r.fields.getD k.toNat nP).name],v23),aW,ajK.u4.u4.u4.u4.u4.u4.u4.u4.u4,(Hp.conv (lD.sub (sQ sR)) aJ),rfl,(aK I aM),J,J,?_,?_,?_⟩
   .rw[JC h0 ‹k<_›,<-hm]
   .simp only[dZ,ez];omega
   exact fun j a b=>if e:j=k then e▸P7 (nf ‹(!iQ _)=false›) (nf ‹(!mc s a8 _)=false›)else hg j a J
  refine a7 (id:=0) rfl<|SR<|aE aqi<|aH O ep (j5 _ _ _ (ep.sl (i:=0) O)) (ay call75 O)<|fun w38 kD=>V (aN O O)<|aB rfl<|aa<|aj<|oB O ?_ kD
  (rw[abu hsz htl ‹¬k<_› hg,show m=SB r by rw[hm,ji J];rfl])
 refine aE (v:=B false) rfl<|mB rfl<|aa<|cQ rfl<|an<|ai<|SR<|va (v:=I 0) rfl<|aa<|aA<|have hsz:r.fields.length<=16:=J;have htl:r.tail<0\/q9 s r.tail 2 a8=true:=(by exact .inl J);bt (G:=Int×(List Tx)×Value) (fun⟨k,m,v7⟩ s' w'=>(Fr (rg 6 3 (rg 26 34 [])) _ s')/\(Hp w w' (.row v7 9 1 (m.length) (Jy m)::_))/\(s' 7=v7)/\(s' 8=I k)/\(0<=k)/\(k<=r.fields.length)/\(m=(r.fields.take k.toNat).map lC.name)/\((m.length:Int)=k)/\(∀j:Int,0<=j->j<k->rC s a8 (r.fields.getD j.toNat nP)=true)) (fun⟨k,m,v7⟩=>(r.fields.length-k).toNat) ((0,[],(.slice none 0 0:Value))) ⟨Fr.refl _ _,eC,rfl,rfl,J,J,rfl,rfl,fun j a b=>absurd b J⟩<| ?_
 rintro⟨k,m,v7⟩ aEX w41 ⟨WL,jS,aqj,WM,h0,hk,hm,hml,hg⟩
 obtain⟨ayk,Of,EK⟩:=WL.w3 1 3 5
 refine ai<|SR<|aE WM<|V (fA p9 0 O vk EK)<|V (bZ (hr.fields.sl.hp jS) m4 O O (jS.cell (i:=1) O O))<|V (aC (hr.fields.sl.hp jS) O m4 O)<|V (aN O O)<|aa<|aF O (fun h43=> ?_) (fun h43=> ?_)
 .refine an<|ai<|aA<|SR<|aE aqj<|V (fA p9 0 O vk EK)<|V (bZ (hr.fields.sl.hp jS) m4 O O (jS.cell (i:=1) O O))<|aE WM<|V (ah (hr.fields.sl.hp jS) m4 HK O O J)<|V (fA HI 0 O ko O)<|V (gB (dv:=nP) (off:=0) sJ (hr.fields.sl.hp jS) iy O O J O)<|tQ 1 1 jS (cB dW O O (sz:=1) (vs:=[.string _]) O O az az O O)<|fun b46 w44 rZ=> ?_
  (try simp only[lf]at rZ)
  refine gf O rZ (i:=1) O (rZ.dR (i:=0) (n:=1) (sz:=1) O O az) O O dW O O (size:=1) (bytes:=16) O O O az gX J iz<|fun v47 w48 FL=> ?_
  refine V (run_assign bA) ?_
  refine aa<|ai<|ec aP FL<|fun w50 rY=>have tX:=rY;?_
  refine AQ 0 O tX (run_move bA) ?_
  refine AQ 1 O tX (run_move WM)<|AT 2 O tX (fun w hS=>ah (hS.sl (i:=1) O) dW ko O O J)<|AT 3 O tX (fun w hS=>aG iy O O ((hS.sl (i:=1) O).cell _ _ (Ve hml)))<|A1 4<|ct O aD O rY sR (iK _ _) (ay call74 O)<|fun w52 jA=>have atJ:=jA;AQ 5 O atJ (bJ O)<|AQ 6 O atJ (mV (B _) O)<|LR (dj:=48) O (fun G8=> ?_) (fun G8=> ?_)
  .refine AK 7 O O (bR (c:=true) G8) jA<|AK 8 O O (bR (c:=true) G8) jA<|AK 9 O O (bR (c:=true) G8) jA<|AK 10 O O (bR (c:=true) G8) jA<|AK 11 O O (bR (c:=true) G8) jA<|AK 12 O O (bR (c:=true) G8) jA<|AK 13 O O (bR (c:=true) G8) jA<|AK 14 O O (bR (c:=true) G8) jA<|AK 15 O O (bR (c:=true) G8) jA<|AK 16 O O (bR (c:=true) G8) jA<|AQ 17 O atJ (gL (bR (c:=true) G8) (v:=B true) O)<|AD<|cA rfl<|SR<|va (v:=B false) rfl<|aa<|aj<|oB O ?_ jA
   exact(KS h0 ‹k<_› (P5 (nt ‹(!iQ _)=true›))).symm
  refine AG 7 O O (bR (c:=false) G8) jA (fun w hS=>cF (cs:=DY _) gH O O Of (bj (hS.blk (i:=3) O)))<|BQ 8 O O (bR (c:=false) G8) jA (run_move ayk)<|BQ 9 O O (bR (c:=false) G8) jA (fA p9 0 O vk EK)<|AG 10 O O (bR (c:=false) G8) jA (fun w hS=>bZ (hr.fields.sl.hp hS) m4 O O (hS.cell (i:=2) O O))<|BQ 11 O O (bR (c:=false) G8) jA (run_move WM)<|AG 12 O O (bR (c:=false) G8) jA (fun w hS=>ah (hr.fields.sl.hp hS) m4 HK O O J)<|BQ 13 O O (bR (c:=false) G8) jA (fA HI 1 O kO O)<|AG 14 O O (bR (c:=false) G8) jA (fun w hS=>kZ (dv:=nP) (off:=1) (cs:=jG _) sJ (hr.fields.sl.hp hS) kK O O O J (P4 _))<|A1 15<|ct O (A3 O (bR (c:=false) G8)) O jA sR (mo _ _ _ J _ (hs.mono jA.kw)) (bz call79 O O O)<|fun w57 oF=>BQ 16 O O (bR (c:=false) G8) oF (bJ O)<|AQ 17 O oF (eo (bR (c:=false) G8) (v:=B _) O)<|AD<|bW O (fun h61=> ?_) (fun h61=> ?_)
  .refine SR<|va (v:=B false) rfl<|aa<|aj<|oB O ?_ oF
   exact(KS h0 ‹k<_› (P6 (nt ‹(!mc s a8 _)=true›))).symm
  refine an<|au<|aE WM<|V (ax O O J)<|aI rfl<|aa<| ?_
  refine⟨(k+1,m++[(r.fields.getD k.toNat nP).name],v47),aW,WL.u4.u4.u4.u4.u4.u4.u4.u4.u4,(Hp.conv (oF.sub (sQ sR)) aJ),rfl,(aK I aM),J,J,?_,?_,?_⟩
  .rw[JC h0 ‹k<_›,<-hm]
  .simp only[dZ,ez];omega
  exact fun j a b=>if e:j=k then e▸P7 (nf ‹(!iQ _)=false›) (nf ‹(!mc s a8 _)=false›)else hg j a J
 refine a7 (id:=0) rfl<|SR<|aE aqj<|aH O jS (j5 _ _ _ (jS.sl (i:=0) O)) (ay call75 O)<|fun w62 oV=>V (aN O O)<|aB rfl<|aa<|aj<|oB O ?_ oV
 (rw[abu hsz htl ‹¬k<_› hg,show m=SB r by rw[hm,ji J];rfl])
end
end Go.Proofs.YtlhjdflgjbkpmaaGreatDoor.W

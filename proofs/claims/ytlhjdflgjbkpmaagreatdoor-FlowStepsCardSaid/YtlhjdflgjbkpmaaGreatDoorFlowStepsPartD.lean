/- Part 4 of the proof of FlowSteps: its plain laws and the walks of its functions. -/
import Derived.Test.YtlhjdflgjbkpmaaGreatDoorFlowStepsPartC
set_option linter.all false
namespace Go.Proofs.YtlhjdflgjbkpmaaGreatDoor.W
section
open Go Go.RowKit Go.Proofs.YtlhjdflgjbkpmaaGreatDoor.E Go.Proofs.YtlhjdflgjbkpmaaGreatDoor.M
set_option maxRecDepth 100000
open Go.Proofs.Tryz
theorem rH:∀w,(zeroValue 86).run Tryz.prog w= .ok (.agg (dU Rl.none)) w:=fun w=>by
 rw[jt];exact Tryz.zeroValue86 w
theorem yZ(a:Int):Tryz.prog.built 86 [(0,I a)]=some (dU ⟨a,fun _=>0#64⟩):=by
 rw[jt];rfl
theorem JM:Tryz.prog.fieldsOf 86=#[{name:= "N",type:=3,offset:=0,embedded:=false,tag:= "",pkgPath:= "",byteOffset:=0},{name:= "Up",type:=84,offset:=1,embedded:=false,tag:= "",pkgPath:= "",byteOffset:=8}]:=by
 unfold Program.fieldsOf;rw[bS]
theorem I7:ama Tryz.prog 86 {name:= "N",type:=3,offset:=0,embedded:=false,tag:= "",pkgPath:= "",byteOffset:=0} {name:= "Up",type:=84,offset:=1,embedded:=false,tag:= "",pkgPath:= "",byteOffset:=8} 35:=
 ⟨by rw[JM];exact bS,JM,az,az,rfl,rfl,bx,Tryz.isAgg3,sy,Tryz.isAgg84,um,dM,cQ,Tryz.isAgg35,aP,aP⟩
theorem CZ:ElT Tryz.prog 37 35:=⟨bI,dM,cQ,Tryz.isAgg35,aP⟩
theorem eZ:∀w,(zeroValue 37).run Tryz.prog w= .ok (.agg (iM dg)) w:=fun w=>by
 rw[ag5];exact Tryz.zeroValue37 w
theorem tS:∀w,(zeroValue 88).run Tryz.prog w= .ok (.agg (uP iB)) w:=fun w=>Tryz.zeroValue88 w
theorem NO:Tryz.prog.built 86 []=some (dU Rl.none):=by
 rw[jt];rfl
theorem ZV{v:Value}(h:v.cells=#[v]):Tryz.prog.built 56 [(1,v)]=some #[B false,v]:=
 (show Tryz.prog.built 56 [(1,v)]=Instr.fill (#[(0,1),(1,1)][·]?) #[B false,.slice none 0 0] [(1,v)]from O).trans Yu
theorem ZW:Tryz.prog.built 56 [(0,B true)]=some #[B true,.slice none 0 0]:=rfl
theorem aeC(k:Int)(b n:Nat)(l:List Tx):Tryz.prog.built 88 [(0,I k),(1,.slice (some ⟨b,0,none⟩) n n)]=some (uP ⟨k,.slice (some ⟨b,0,none⟩) n n,l,Rl.none⟩):=rfl
theorem QO(a:BitVec 64):Tryz.prog.built 37 [(0,U a)]=some (iM (tB dg 0 a)):=by
 rw[ig];rfl
theorem oV:Tryz.prog.built 37 []=some (iM dg):=by
 rw[ig];rfl
theorem Wj:∀w,(zeroValue 58).run Tryz.prog w= .ok (.agg (MP mJ).toArray) w:=fun w=>Tryz.zeroValue58 w
theorem Wl:∀w,(zeroValue 93).run Tryz.prog w= .ok (.agg (adQ amD).toArray) w:=fun w=>Tryz.zeroValue93 w
theorem y8:∀w,(zeroValue 90).run Tryz.prog w= .ok (.agg (kg bG).toArray) w:=fun w=>(Tryz.zeroValue90 w).trans aP
theorem ZX:∀w,(zeroValue 143).run Tryz.prog w= .ok (.agg (uv nO).toArray) w:=fun w=>(Tryz.zeroValue143 w).trans aP
theorem G2:∀w,(zeroValue 44).run Tryz.prog w= .ok (.agg (uR dQ).toArray) w:=fun w=>(Tryz.zeroValue44 w).trans aP
theorem aeD(r:Rl):Tryz.prog.built 212 [(0,.agg (dU r))]=some (lJ r 0 0 (.slice none 0 0) (.slice none 0 0)).toArray:=by
 rw[jt];kernel_rfl
abbrev TX:OW:=(⟨95,97,141,59,62,64,66,56,199,139,72,117,135,212,[]⟩:OW)
abbrev BG(fr:List bu):OW:=(⟨95,97,141,59,62,64,66,56,199,139,72,117,135,212,fr⟩:OW)
theorem aeE(f g k:FuncId)(a b c:Array Value):Tryz.prog.built 117 [(0,jO f a),(1,jO g b),(2,jO k c)]=some #[jO f a,jO g b,jO k c]:=rfl
theorem Wm:∀w,(zeroValue 117).run Tryz.prog w= .ok (.agg #[.nilFunc,.nilFunc,.nilFunc]) w:=fun w=>Tryz.zeroValue117 w
variable{fr:List bu}
theorem Tj(n:Int)(w:World):Calls Tryz.prog 238 #[I n] w (Pure (B (zX n)) w):=by
 refine eH func238 rfl rfl fun hH=>SR<|va (v:=B false) rfl<|aa<|SR<|mI rfl<|V (dF O O)<|mB rfl<|bK 5 O (fun h2=> ?_) (fun h2=> ?_)
 .refine mI rfl<|V (wY O O)<|mB rfl<|aB rfl<|aa<|aj<|oB O ?_ hH
  (simp[zX];omega)
 refine aE (v:=B false) rfl<|aB rfl<|aa<|aj<|oB O ?_ hH
 (simp[zX];omega)
theorem oW(n:Int)(w:World):Calls Tryz.prog 179 #[I n] w (Pure (U (below n)) w):=by
 refine eH func179 rfl rfl fun hH=>SR<|va (v:=U 0#64) rfl<|aa<|ai<|SR<|mI rfl<|V (wY O O)<|aa<|aF O (fun h2=> ?_) (fun h2=> ?_)
 .refine SR<|va (v:=U 0#64) rfl<|aa<|aj<|Gg O (aK U (Si aQ).symm) hH.below
 refine an<|ai<|SR<|mI rfl<|V (dF O O)<|aa<|aF O (fun h4=> ?_) (fun h4=> ?_)
 .refine SR<|va (v:=U 18446744073709551615#64) rfl<|aa<|aj<|Gg O (aK U (ac5 aQ).symm) hH.below
 refine an<|SR<|mI rfl<|V (iZ bx xR O)<|V (Ge (a:=1#64) O O)<|V (Uj O (b:=1#64) O)<|aU rfl<|aa<|aj<|Gg O (aK U (ac6 aQ aQ).symm) hH.below
theorem Tk(n:Int)(s:BitVec 64)(w:World):Calls Tryz.prog 212 #[I n,U s] w (Pure (.tuple #[I (level n s).1,B (level n s).2]) w):=by
 refine eH func212 rfl rfl fun hH=>SR<|va (v:=I 0) rfl<|va (v:=B false) rfl<|aa<|ai<|SR<|mI rfl<|aH O hH (Tj _ _) (ay call238 O)<|fun w1 bp=>V (bJ O)<|aa<|bW O (fun h5=> ?_) (fun h5=> ?_)
 .refine SR<|va (v:=I 0) rfl<|va (v:=B false) rfl<|aa<|aj<|have hn:=al0 ‹(!zX n)=true›;?_
  refine kA O (aK I ?_) (aK B ?_) bp.below<;>rw[L7 s hn]
 refine an<|ai<|SR<|mI rfl<|aE (v:=I 0) rfl<|aa<|aA<|have hn:=alZ ‹(!zX n)=false›;bt (G:=Int) (fun k s' w'=>(Fr (rg 4 3 (rg 11 9 [])) _ s')/\(Hp w w' _)/\(s' 11=I k)/\(0<=k)/\(k<=n)/\(∀j:Int,0<=j->j<k->s≠below j)) (fun k=>(n-k).toNat) (0) ⟨Fr.refl _ _,bp,rfl,J,J,fun j a b=>absurd b J⟩<| ?_
 rintro k sg6 w6 ⟨QR,jQ,NQ,h0,hk,hf⟩
 obtain⟨Pd,ajN⟩:=QR.w2 1 10
 refine SR<|V (aN NQ ajN)<|aa<|ai<|aF O (fun h8=> ?_) (fun h8=> ?_)
 .refine an<|ai<|aA<|SR<|aE NQ<|aI rfl<|aa<|SR<|aE Pd<|mI rfl<|aH O jQ (oW _ _) (ay HV O)<|fun w9 cg=>V (iU O O)<|aa<|aF O (fun h12=> ?_) (fun h12=> ?_)
  .refine SR<|mI rfl<|aI rfl<|va (v:=B true) rfl<|aa<|aj<| ?_
   refine kA O (aK I ?_) (aK B ?_) cg.below<;>rw[L8 hn h0 J aQ hf]
  refine an<|au<|V (ax NQ O J)<|mI rfl<|aa<| ?_
  refine⟨k+1,aW,QR.u4.u4.u1,cg,(aK I aL),J,J,?_⟩
  exact fun j a b=>if e:j=k then e▸‹¬s=below k›else hf j a J
 refine a8 (id:=0) rfl<|SR<|va (v:=I 0) rfl<|va (v:=B false) rfl<|aa<|aj<| ?_
 refine kA O (aK I ?_) (aK B ?_) jQ.below<;>rw[Fl hn (fun j a b=>hf j a J)]
theorem QS(i:Int)(w:World):Calls Tryz.prog 250 #[I i] w (Pure (B (zY i)) w):=by
 refine eH func250 rfl rfl fun hH=>SR<|va (v:=B false) rfl<|aa<|SR<|mI rfl<|V (dF O O)<|mB rfl<|bK 5 O (fun h2=> ?_) (fun h2=> ?_)
 .refine mI rfl<|V (aN O O)<|mB rfl<|aB rfl<|aa<|aj<|oB O ?_ hH
  (simp[zY];try omega)
 refine aE (v:=B false) rfl<|aB rfl<|aa<|aj<|oB O ?_ hH
 (simp[zY];try omega)
theorem ZY(s:BitVec 64)(i:Int)(w:World):Calls Tryz.prog 232 #[U s,I i] w (Pure (B (hasB s i)) w):=by
 refine eH func232 rfl rfl fun hH=>SR<|va (v:=B false) rfl<|aa<|SR<|mI rfl<|aH O hH (QS _ _) (ay call250 O)<|fun w1 bp=>mB rfl<|ez 7 O (fun h4=> ?_) (fun h4=> ?_)
 .refine mU rfl<|mI rfl<|V (iZ bx xR O)<|V (yF O O)<|V (kx O (b:=1#64) O)<|V (iU O (b:=1#64) O)<|mB rfl<|aB rfl<|aa<|aj<|oB O ?_ bp
  exact al2 s ‹zY i=true›
 refine aE (v:=B false) rfl<|aB rfl<|aa<|aj<|oB O ?_ bp
 exact(YF s ‹zY i=false›).symm
theorem C0(s:BitVec 64)(i:Int)(w:World):Calls Tryz.prog 231 #[U s,I i] w (Pure (U (vC s i)) w):=by
 refine eH func231 rfl rfl fun hH=>SR<|va (v:=U 0#64) rfl<|aa<|ai<|SR<|mI rfl<|aH O hH (QS _ _) (ay call250 O)<|fun w1 bp=>V (bJ O)<|aa<|bW O (fun h5=> ?_) (fun h5=> ?_)
 .refine SR<|mU rfl<|aU rfl<|aa<|aj<|oU O ?_ bp
  simp_all [vC]
 refine an<|SR<|mU rfl<|mI rfl<|V (iZ bx xR O)<|V (Ge (a:=1#64) O O)<|V (iH O O)<|aU rfl<|aa<|aj<|oU O ?_ bp
 simp_all [vC]
theorem FO(a b:BitVec 64)(w:World):Calls Tryz.prog 140 #[U a,U b] w (Pure (B (eu a b)) w):=by
 refine eH func140 rfl rfl fun hH=>SR<|va (v:=B false) rfl<|aa<|SR<|mU rfl<|mU rfl<|V (Uk O O)<|V (iU O (b:=0#64) O)<|aB rfl<|aa<|aj<|oB O ?_ hH
 rfl
theorem y9(v:Value)(l:List Int)(w:World)(hs:Sl w v 1 l.length (l.map I)):Calls Tryz.prog 203 #[v] w (Pure (U (kW l)) w):=by
 have hm:=hs.small
 unfold maxLen at hm
 refine eH func203 rfl rfl fun hH=>SR<|va (v:=U 0#64) rfl<|aa<|SR<|va (v:=U 0#64) rfl<|aa<|ai<|SR<| ?_
 refine V (run_move bA) ?_
 refine V (aC (hs.hp hH) O bD O)<|aE (v:=I 0) rfl<|aa<|aA<|bt (G:=Int) (fun k s' w'=>(Fr (3::(5::(rg 8 8 []))) _ s')/\(Hp w w' _)/\(s' 3=U (kW (l.take k.toNat)))/\(s' 8=I k)/\(0<=k)/\(k<=l.length)) (fun k=>(l.length-k).toNat) (0) ⟨Fr.refl _ _,hH,(aK U (by simp[Sj])),rfl,J,J⟩<| ?_
 rintro k sg1 w1 ⟨uJ,jf,sX,Pe,h0,hk⟩
 obtain⟨Pf,Wn⟩:=uJ.w2 6 7
 refine SR<|V (aN Pe Wn)<|aa<|ai<|aF O (fun h3=> ?_) (fun h3=> ?_)
 .refine an<|ai<|aA<|SR<|V (ah (hs.hp jf) bD aO Pf Pe J)<|V (aG bx O O ((hs.hp jf).cell _ _ (eS J)))<|aI rfl<|aa<|au<|aE sX<|mI rfl<|aH O jf (C0 _ _ _) (aM call231 O O)<|fun w4 bY=>aU rfl<|aa<|au<|V (ax Pe O J)<|mI rfl<|aa<| ?_
  refine⟨k+1,aW,uJ.u4.u4.u1.u1,bY,(aK U (by rw[ac7,<-PF h0 aQ])),(aK I aL),J,J⟩
 refine a8 (id:=0) rfl<|SR<|aE sX<|aU rfl<|aa<|aj<|oU O ?_ jf
 rw[Ma aQ]
theorem tT(s:BitVec 64)(i:Int)(w:World):Calls Tryz.prog 102 #[U s,I i] w (Pure (B (hasB s i)) w):=by
 refine eH func102 rfl rfl fun hH=>SR<|va (v:=B false) rfl<|aa<|ai<|SR<|mI rfl<|V (aN O O)<|mB rfl<|bK 8 O (fun h2=> ?_) (fun h2=> ?_)
 .refine aE (v:=B true) rfl<|aa<|ct rfl<|SR<|va (v:=B false) rfl<|aa<|aj<|oB O ?_ hH
  exact(YF s (by simp[zY];omega)).symm
 refine mI rfl<|V (dN O O)<|mB rfl<|aa<|aF O (fun h4=> ?_) (fun h4=> ?_)
 .refine SR<|va (v:=B false) rfl<|aa<|aj<|oB O ?_ hH
  exact(YF s (by simp[zY];omega)).symm
 refine an<|ai<|SR<|va (v:=I 0) rfl<|aa<|aA<|bt (G:=Int) (fun k s' w'=>(Fr (0::(5::(rg 12 7 []))) _ s')/\(Hp w w' _)/\(s' 0=U (s>>>k.toNat))/\(s' 5=I k)/\(0<=k)/\(k<=i)) (fun k=>(i-k).toNat) (0) ⟨Fr.refl _ _,hH,(aK U aJ),rfl,J,J⟩<| ?_
 rintro k sg5 w5 ⟨Uc,bY,ZZ,aeG,h0,hk⟩
 have Tl:=Uc.w1 1
 refine ai<|SR<|aE aeG<|aE Tl<|V (aN O O)<|aa<|aF O (fun h7=> ?_) (fun h7=> ?_)
 .refine an<|ai<|aA<|au<|aE ZZ<|V (LU O (b:=2#64) O az)<|aU rfl<|aa<|au<|aE aeG<|V (ax O O J)<|aI rfl<|aa<| ?_
  refine⟨k+1,aW,Uc.u4.u4.u1,bY,(aK U Yn),(aK I aL),J,J⟩
 refine a8 (id:=0) rfl<|SR<|aE ZZ<|V (LV O (b:=2#64) O az)<|V (iU O (b:=1#64) O)<|aB rfl<|aa<|aj<|oB O ?_ bY
 (rw[hasB,show zY i=true by simp[zY];omega,show k=i by omega];rw[gH];simp only[eD,mF];exact KE s _)
theorem fO(v:Value)(l:List Int)(w:World)(hs:Sl w v 1 l.length (l.map I)):Calls Tryz.prog 154 #[v] w (Pure (U (kW l)) w):=by
 have hm:=hs.small
 unfold maxLen at hm
 refine eH func154 rfl rfl fun hH=>SR<|va (v:=U 0#64) rfl<|aa<|SR<|va (v:=U 0#64) rfl<|va (v:=U 1#64) rfl<|aa<|ai<|SR<|va (v:=I 0) rfl<|aa<|aA<|bt (G:=Int) (fun i s' w'=>(Fr (rg 3 25 []) _ s')/\(Hp w w' _)/\(s' 3=U (A9 l i.toNat))/\(s' 4=U (1#64<<<i.toNat))/\(s' 5=I i)/\(0<=i)/\(i<=64)) (fun i=>(64-i).toNat) (0) ⟨Fr.refl _ _,hH,(aK U aL),(aK U aL),rfl,J,J⟩<| ?_
 rintro i sg1 w1 ⟨uJ,jf,sX,Ay,NR,i0,i1⟩
 obtain⟨my,ajO⟩:=uJ.w2 0 2
 refine ai<|SR<|aE NR<|V (aN O O)<|aa<|aF O (fun h3=> ?_) (fun h3=> ?_)
 .refine an<|ai<|aA<|ai<|SR<|va (v:=I 0) rfl<|aa<|aA<|bt (G:=Int) (fun k s' w'=>(Fr (3::(6::(rg 11 15 []))) _ s')/\(Hp w w' _)/\(s' 3=U (A9 l i.toNat))/\(s' 6=I k)/\(0<=k)/\(k<=l.length)/\(∀j:Int,0<=j->j<k->l.getD j.toNat 0≠i)) (fun k=>(l.length-k).toNat) (0) ⟨Fr.refl _ _,jf,sX,rfl,J,J,fun j a b=>absurd b J⟩<| ?_
  rintro k sg4 w4 ⟨C1,iw,za,FP,k0,k1,hf⟩
  obtain⟨aeH,Wo,G3⟩:=C1.t3 0 my 4 Ay 5 NR
  refine ai<|SR<|aE FP<|aE aeH<|V (aC (hs.hp iw) O bD O)<|V (aN O O)<|aa<|aF O (fun h6=> ?_) (fun h6=> ?_)
  .refine an<|ai<|aA<|SR<|aE aeH<|aE FP<|V (ah (hs.hp iw) bD aO O O J)<|V (aG bx O O ((hs.hp iw).cell _ _ (eS J)))<|aE G3<|V (bV O O)<|aa<|aF O (fun h8=> ?_) (fun h8=> ?_)
   .refine SR<|aE za<|aE Wo<|V (af2 O O)<|aU rfl<|aa<|a8 (id:=2) rfl<|au<|aE Wo<|V (LS O (b:=2#64) O)<|aU rfl<|aa<|au<|aE G3<|V (ax O O J)<|aI rfl<|aa<| ?_
    refine⟨i+1,aW,(((uJ.u1.u1.u1).t C1 O)).u4.u4.u4.u4.u4,iw,(aK U (YG i0 J k0 J aQ)),(aK U afT),(aK I aL),J,J⟩
   refine an<|au<|aE FP<|V (ax O O J)<|aI rfl<|aa<| ?_
   refine⟨k+1,aW,C1.u4.u4.u4.u1,iw,za,(aK I aL),J,J,?_⟩
   exact fun j a b=>if e:j=k then e▸‹¬l.getD k.toNat 0=i›else hf j a J
  refine a8 (id:=2) rfl<|au<|aE Wo<|V (LS O (b:=2#64) O)<|aU rfl<|aa<|au<|aE G3<|V (ax O O J)<|aI rfl<|aa<| ?_
  refine⟨i+1,aW,(((uJ.u1.u1.u1).t C1 O)).u4.u4.u1.u1,iw,(jX za (aK U (ada i0 (fun j a b=>hf j a J)))),(aK U afT),(aK I aL),J,J⟩
 refine a8 (id:=0) rfl<|SR<|aE sX<|aU rfl<|aa<|aj<|oU O ?_ jf
 (rw[show i.toNat=64 by omega];rfl)
theorem BH(s:BitVec 64)(w:World):Calls Tryz.prog 101 #[U s] w (sZ 3 1 (gL s).length ((gL s).map I) w):=by
 refine eH func101 rfl rfl fun hH=>SR<|va (v:= .slice none 0 0) rfl<|have jf:=hH.eR 3 1;aa<|SR<|va (v:= .slice none 0 0) rfl<|have bp:=jf.eR 3 1;aa<|ai<|SR<|va (v:=I 0) rfl<|aa<|aA<|bt (G:=Int×(List Int)×Value) (fun⟨k,l,v3⟩ s' w'=>(Fr (0::(rg 3 15 [])) _ s')/\(Hp w w' (.row v3 3 1 (l.length) (l.map I)::_))/\(s' 0=U (s>>>k.toNat))/\(s' 3=v3)/\(s' 4=I k)/\(0<=k)/\(k<=64)/\(l=s8 s k.toNat)) (fun⟨k,l,v3⟩=>(64-k).toNat) ((0,[],(.slice none 0 0:Value))) ⟨Fr.refl _ _,bp,(aK U aJ),rfl,rfl,J,J,rfl⟩<| ?_
 rintro⟨k,l,v3⟩ sg3 w3 ⟨fr3,tZ,BI,as9,an9,h0,hk,hl⟩
 refine ai<|SR<|aE an9<|V (aN O O)<|aa<|aF O (fun h5=> ?_) (fun h5=> ?_)
 .refine an<|ai<|aA<|ai<|SR<|aE BI<|V (LV O (b:=2#64) O az)<|V (iU O (b:=1#64) O)<|aa<|aF O (fun h7=> ?_) (fun h7=> ?_)
  .refine au<|aE as9<|aE an9<|tR 1 1 tZ (cB bD O O (sz:=1) (vs:=[I _]) O O az az O O)<|fun b10 w8 iE=> ?_
   (try simp only[lj]at iE)
   refine gf O iE (i:=1) O (iE.dS (i:=0) (n:=1) (sz:=1) O O az) O O bD O O (size:=1) (bytes:=8) O O O az gX (by have:=Ik s k.toNat;rw[<-hl]at this;omega) (by have:=Ik s k.toNat;rw[<-hl]at this;simp only[maxLen];omega)<|fun v11 zc bX=> ?_
   refine V (run_assign bA) ?_
   refine aa<|au<|aE BI<|V (LU O (b:=2#64) O az)<|aU rfl<|aa<|au<|aE an9<|V (ax O O J)<|aI rfl<|aa<| ?_
   refine⟨(k+1,l++[k],v11),aW,fr3.u4.u4.u4.u4,(Hp.conv (bX.sub (sQ sR)) aJ),(aK U Yn),rfl,(aK I aL),J,J,?_⟩
   rw[hl,adb h0 aQ]
  refine an<|au<|aE BI<|V (LU O (b:=2#64) O az)<|aU rfl<|aa<|au<|aE an9<|V (ax O O J)<|aI rfl<|aa<| ?_
  refine⟨(k+1,l,v3),aW,fr3.u4.u4.u1.u1.u1,(Hp.conv tZ aL),(aK U Yn),as9,(aK I aL),J,J,?_⟩
  rw[hl,agh h0 aQ]
 refine a8 (id:=0) rfl<|SR<|aE as9<| ?_
 refine V (run_assign bA) ?_
 refine aa<|aj<|O3 O O tZ (i:=0) O (by rw[hl,PG aQ hk]) (by rw[hl,PG aQ hk])
theorem j6(n:Int)(w:World):Calls Tryz.prog 119 #[I n] w (Pure (U (below n)) w):=by
 refine eH func119 rfl rfl fun hH=>SR<|va (v:=U 0#64) rfl<|aa<|SR<|va (v:= .slice none 0 0) rfl<|have jf:=hH.eR 3 1;aa<|ai<|SR<|va (v:=I 0) rfl<|aa<|aA<|bt (G:=Int×(List Int)×Value) (fun⟨k,l,v3⟩ s' w'=>(Fr (rg 3 15 []) _ s')/\(Hp w w' (.row v3 3 1 (l.length) (l.map I)::_))/\(s' 3=v3)/\(s' 4=I k)/\(0<=k)/\(k<=64)/\(k<=max n 0)/\(l=upto k)) (fun⟨k,l,v3⟩=>(64-k).toNat) ((0,[],(.slice none 0 0:Value))) ⟨Fr.refl _ _,jf,rfl,rfl,J,J,J,rfl⟩<| ?_
 rintro⟨k,l,v3⟩ sg2 w2 ⟨U5,bp,Wp,aoa,h0,hk,hn,hl⟩
 have aEN:=U5.w1 0
 refine ai<|SR<|aE aoa<|aE aEN<|V (aN O O)<|mB rfl<|bK 8 O (fun h4=> ?_) (fun h4=> ?_)
 .refine aE aoa<|V (aN O O)<|mB rfl<|aa<|aF O (fun h6=> ?_) (fun h6=> ?_)
  .refine an<|ai<|aA<|au<|aE Wp<|aE aoa<|tR 1 1 bp (cB bD O O (sz:=1) (vs:=[I _]) O O az az O O)<|fun b9 w7 eW=> ?_
   (try simp only[lj]at eW)
   refine gf O eW (i:=1) O (eW.dS (i:=0) (n:=1) (sz:=1) O O az) O O bD O O (size:=1) (bytes:=8) O O O az gX (by have:= @m7 k;rw[<-hl]at this;omega) (by have:= @m7 k;rw[<-hl]at this;simp only[maxLen];omega)<|fun v10 I8 cP=> ?_
   refine V (run_assign bA) ?_
   refine aa<|au<|aE aoa<|V (ax O O J)<|aI rfl<|aa<| ?_
   refine⟨(k+1,l++[k],v10),aW,U5.u4.u4.u4.u1.u1.u1,(Hp.conv (cP.sub (sQ sR)) aJ),rfl,(aK I aL),J,J,J,?_⟩
   rw[hl,ja h0]
  refine a8 (id:=0) rfl<|SR<|aE Wp<|aH O bp (fO _ _ _ (bp.sl (i:=0) O)) (ay Ch O)<|fun C2 cG=>aU rfl<|aa<|aj<|oU O ?_ cG
  exact Gj fun i a b=>by rw[hl,cK];omega
 refine aE (v:=B false) rfl<|aa<|cL rfl<|a8 (id:=0) rfl<|SR<|aE Wp<|aH O bp (fO _ _ _ (bp.sl (i:=0) O)) (ay Ch O)<|fun Tm cI=>aU rfl<|aa<|aj<|oU O ?_ cI
 exact Gj fun i a b=>by rw[hl,cK];omega
theorem Tn(n:Int)(s:BitVec 64)(w:World):Calls Tryz.prog 178 #[I n,U s] w (Pure (B (level n s).2) w):=by
 refine eH func178 rfl rfl fun hH=>SR<|va (v:=B false) rfl<|aa<|SR<|mI rfl<|mU rfl<|aH O hH (Tk _ _ _) (aM call212 O O)<|fun w1 bp=> ?_
 refine V (run_move bA) ?_
 refine V (bg O (v:=I _) O)<|V (bg O (v:=B _) O)<|aI rfl<|aB rfl<|aa<|SR<|mB rfl<|aB rfl<|aa<|aj<|oB O ?_ bp
 rfl
theorem BJ(n k:Int)(w:World):Calls Tryz.prog 185 #[I n,I k] w (Pure (.tuple #[U (vB n k).1,B (vB n k).2]) w):=by
 refine eH func185 rfl rfl fun hH=>SR<|va (v:=U 0#64) rfl<|va (v:=B false) rfl<|aa<|ai<|SR<|mI rfl<|V (aN O O)<|mB rfl<|bK 8 O (fun h2=> ?_) (fun h2=> ?_)
 .refine aE (v:=B true) rfl<|mB rfl<|cC O rfl<|aE (v:=B true) rfl<|mB rfl<|cC O rfl<|aE (v:=B true) rfl<|aa<|ct rfl<|SR<|va (v:=U 0#64) rfl<|va (v:=B false) rfl<|aa<|aj<| ?_
  refine kA O (aK U ?_) (aK B ?_) hH.below<;>rw[Cw J]
 refine mI rfl<|V (dN O O)<|mB rfl<|mB rfl<|bK 12 O (fun h4=> ?_) (fun h4=> ?_)
 .refine aE (v:=B true) rfl<|mB rfl<|cC O rfl<|aE (v:=B true) rfl<|aa<|ct rfl<|SR<|va (v:=U 0#64) rfl<|va (v:=B false) rfl<|aa<|aj<| ?_
  refine kA O (aK U ?_) (aK B ?_) hH.below<;>rw[Cw J]
 refine mI rfl<|V (aN O O)<|mB rfl<|mB rfl<|bK 16 O (fun h6=> ?_) (fun h6=> ?_)
 .refine aE (v:=B true) rfl<|aa<|ct rfl<|SR<|va (v:=U 0#64) rfl<|va (v:=B false) rfl<|aa<|aj<| ?_
  refine kA O (aK U ?_) (aK B ?_) hH.below<;>rw[Cw J]
 refine mI rfl<|mI rfl<|V (dF O O)<|mB rfl<|aa<|aF O (fun h8=> ?_) (fun h8=> ?_)
 .refine SR<|va (v:=U 0#64) rfl<|va (v:=B false) rfl<|aa<|aj<| ?_
  refine kA O (aK U ?_) (aK B ?_) hH.below<;>rw[Cw J]
 refine an<|SR<|mI rfl<|aH O hH (j6 _ _) (ay call119 O)<|fun w9 cg=>aU rfl<|va (v:=B true) rfl<|aa<|aj<| ?_
 refine kA O (aK U ?_) (aK B ?_) cg.below<;>rw[u3 J]
theorem Az(n:Int)(s:BitVec 64)(w:World):Calls Tryz.prog 152 #[I n,U s] w (Pure (.tuple #[I (level n s).1,B (level n s).2]) w):=by
 refine eH func152 rfl rfl fun hH=>SR<|va (v:=I 0) rfl<|va (v:=B false) rfl<|aa<|ai<|SR<|va (v:=I 0) rfl<|aa<|aA<|bt (G:=Int) (fun k s' w'=>(Fr (rg 4 27 []) _ s')/\(Hp w w' _)/\(s' 6=I k)/\(0<=k)/\(k<=n\/k=0)/\(k<=64)/\(n<=64->∀j:Int,0<=j->j<k->s≠below j)) (fun k=>(64-k).toNat) (0) ⟨Fr.refl _ _,hH,rfl,J,J,J,fun _ j a b=>absurd b J⟩<| ?_
 rintro k sg1 w1 ⟨uJ,jf,Pf,h0,hk,h6,hf⟩
 obtain⟨my,AA⟩:=uJ.w2 0 1
 refine ai<|SR<|aE Pf<|aE my<|V (aN O O)<|mB rfl<|bK 12 O (fun h3=> ?_) (fun h3=> ?_)
 .refine aE Pf<|V (aN O O)<|mB rfl<|aa<|aF O (fun h5=> ?_) (fun h5=> ?_)
  .refine an<|ai<|aA<|SR<|aE my<|aE Pf<|aH O jf (BJ _ _ _) (aM call185 O O)<|fun w6 eE=> ?_
   refine V (run_move bA) ?_
   refine V (bg O (v:=U _) O)<|V (bg O (v:=B _) O)<|aU rfl<|aB rfl<|aa<|SR<|mB rfl<|mB rfl<|ez 25 O (fun h9=> ?_) (fun h9=> ?_)
   .refine mU rfl<|aE AA<|V (iU O O)<|mB rfl<|aa<|aF O (fun h11=> ?_) (fun h11=> ?_)
    .refine SR<|aE Pf<|aI rfl<|va (v:=B true) rfl<|aa<|aj<| ?_
     refine kA O (aK I ?_) (aK B ?_) eE.below<;>rw[ade h0 aQ hf aQ]
    refine an<|au<|aE Pf<|V (ax O O J)<|aI rfl<|aa<| ?_
    refine⟨k+1,aW,uJ.u4.u4.u4.u4.u4.u4,eE,(aK I aL),J,J,J,?_⟩
    exact Up h0 aQ aQ hf
   refine aE (v:=B false) rfl<|aa<|cL rfl<|an<|au<|aE Pf<|V (ax O O J)<|aI rfl<|aa<| ?_
   refine⟨k+1,aW,uJ.u4.u4.u4.u4.u4.u4,eE,(aK I aL),J,J,J,?_⟩
   exact Uq h0 aQ hf aQ
  refine a8 (id:=0) rfl<|SR<|va (v:=I 0) rfl<|va (v:=B false) rfl<|aa<|aj<| ?_
  refine kA O (aK I ?_) (aK B ?_) jf.below<;>rw[Et h0 hk h6 hf J]
 refine aE (v:=B false) rfl<|aa<|cL rfl<|a8 (id:=0) rfl<|SR<|va (v:=I 0) rfl<|va (v:=B false) rfl<|aa<|aj<| ?_
 refine kA O (aK I ?_) (aK B ?_) jf.below<;>rw[Et h0 hk h6 hf J]
theorem AB(s:BitVec 64)(w:World)(hT:o6 w):Calls Tryz.prog 258 #[U s] w (Pure (I (tz s)) w):=by
 refine eH func258 rfl rfl fun hH=>SR<|va (v:=I 0) rfl<|aa<|ai<|SR<|mU rfl<|V (iU O (b:=0#64) O)<|aa<|aF O (fun h2=> ?_) (fun h2=> ?_)
 .refine SR<|va (v:=I 64) rfl<|aa<|aj<|oI O ?_ hH
  rw[‹s=0#64›];rfl
 refine an<|SR<|mU rfl<|mU rfl<|V (af3 O)<|V (kx O O)<|V (LS O (b:=285870213051353865#64) O)<|V (yF O (b:=58#64) O)<|V (a7 underlying280 sizeOf5 O O (by exact agk _))<|V (aG underlying5 O O (hT.at _))<|V (Yy underlying5 bx O (al7 (agm _)))<|aI rfl<|aa<|aj<|oI O ?_ hH
 exact awo aQ
theorem Wq(f:FuncId)(cap:Array Value)(Inv Stop:List Int->World->Prop)(s:BitVec 64)(w:World)(hf:∀args w,(callFunc f args).run Tryz.prog w= .ok (.enter f args) w)(hm:∀l w w',Inv l w->Below w.heap.size w w'->Inv l w')(hT:∀l w,Inv l w->o6 w)(go:∀l i r w,gL s=l++i::r->Inv l w->Calls Tryz.prog f (#[I i]++cap) w (jY fun u w'=>∃c:Bool,u=B c/\(c=true->Inv (l++[i]) w')/\(c=false->Stop (l++[i]) w')))(h0:Inv [] w):Calls Tryz.prog 251 #[U s,.func (.func f) #[] cap] w (jY fun u w'=>u= .tuple #[]/\(Inv (gL s) w'\/∃l i r,gL s=l++i::r/\Stop (l++[i]) w')):=by
 refine eH func251 rfl rfl fun hH=>aA<|bt (G:=(BitVec 64)×(List Int)) (fun⟨s1,l⟩ s' w'=>(Fr (0::(rg 4 11 [])) _ s')/\(Inv l w')/\(s' 0=U s1)/\(gL s=l++gL s1)) (fun⟨s1,l⟩=>(gL s1).length) ((s,[])) ⟨Fr.refl _ _,h0,rfl,aJ⟩<| ?_
 rintro⟨s1,l⟩ sg1 w1 ⟨uJ,jf,my,hl⟩
 have hI1:=jf
 clear jf
 have jf:=Hp.start w1
 have AA:=uJ.vv 1 (a:= .func _ _ _) rfl rfl
 refine ai<|SR<|aE my<|V (vx O (b:=0#64) O)<|aa<|aF O (fun h3=> ?_) (fun h3=> ?_)
 .refine an<|aA<|ai<|SR<|aE AA<|aE my<|aH O jf (AB _ _ (hT _ _ hI1)) (ay call258 O)<|fun w4 bY=>have hI:=hm _ _ _ hI1 bY.below;Ig O (YD hf O (v1:=I (tz s1)) O) (go l (tz s1) (gL (s1&&&(s1-1#64))) _ (by rw[hl,Mb aQ]) hI)<| ?_
  rintro u8 w6 ⟨c,rfl,hJ1,hJ2⟩
  have eE:=Hp.start w6
  refine V (bJ O)<|aa<|bW O (fun h11=> ?_) (fun h11=> ?_)
  .refine aj<|rh O ⟨rfl,.inr ⟨l,tz s1,gL (s1&&&(s1-1#64)),by rw[hl,Mb aQ],hJ2 (by simpa using‹(!c)=true›)⟩⟩
  refine an<|au<|aE my<|aE my<|V (Uj O (b:=1#64) O)<|V (kx O O)<|aU rfl<|aa<| ?_
  refine⟨(s1&&&(s1-1#64),l++[tz s1]),?_,uJ.u4.u4.u4,(hJ1 (by simpa using‹(!c)=false›)),rfl,?_⟩
  .exact Sk aQ
  rw[hl,Mb aQ];simp
 refine a8 (id:=0) rfl<|have hn:gL s1=[]:=z6.2 (by simpa using‹¬s1≠0#64›);rh O ⟨rfl,.inl (by rw[hl,hn,mY];assumption)⟩
theorem Pg(W0:World)(b:Nat)(v:Value)(l:List Int)(i:Int)(w:World)(hH:Hp W0 w [.row v 3 1 l.length (l.map I),.blk b (.cells #[v] 99 (0,0))])(hlen:l.length<=64):Calls Tryz.prog 252 #[I i,.pointer (some ⟨b,0,none⟩)] w (jY fun u w'=>u=B true/\∃v',Hp W0 w' [.row v' 3 1 (l++[i]).length ((l++[i]).map I),.blk b (.cells #[v'] 99 (0,0))]):=by
 refine en func252 rfl rfl<|SR<|va (v:=B false) rfl<|aa<|SR<|lV bD hH 1 O O rfl<|mI rfl<|tR 1 1 hH (cB bD O O (sz:=1) (vs:=[I _]) O O az az O O)<|fun b3 w1 bp=> ?_
 (try simp only[lj]at bp)
 refine gf O bp (i:=1) O (bp.dS (i:=0) (n:=1) (sz:=1) O O az) O O bD O O (size:=1) (bytes:=8) O O O az gX J iz<|fun v4 w5 jQ=> ?_
 refine bk jQ (i:=2) O (bM O O bA (a6 (jQ.get (i:=1) O)).1 (a6 (jQ.get (i:=1) O)).2 (jQ.blk (i:=2) O) aJ) ?_
 intro w7 eW
 refine aa<|SR<|va (v:=B true) rfl<|aa<|aj<|jA O O ⟨rfl,(v4:Value),Hp.conv eW.tail aJ⟩
theorem C3(s:BitVec 64)(w:World)(hT:o6 w):Calls Tryz.prog 233 #[U s] w (sZ 3 1 (gL s).length ((gL s).map I) w):=by
 refine eH func233 rfl rfl fun hH=>SR<|va (v:= .slice none 0 0) rfl<|aa<|SR<|lK hH (aS Tryz.zeroValue99)<|fun b3 w1 bp=>have iw:=bp.eR 3 1;aa<|SR<|mU rfl<| ?_
 refine V (Cv bA) ?_
 refine Ig O (aM call251 (v1:=U s) O (v2:= .func (.func 252) #[] #[.pointer (some ⟨b3,0,none⟩)]) rfl) (Wq 252 _ (fun l w'=>∃v,Hp w w' [.row v 3 1 l.length (l.map I),.blk b3 (.cells #[v] 99 (0,0))]) (fun _ _=>False) s _ call252 (fun l w' w'' h hb=>h.imp fun v h=>h.call hb) (fun l w' h=>h.elim fun v h=>hT.hp h) (fun l i r w' he h=>h.elim fun v h=>by
  have aEP:l.length<=64:=by have:=Gh s;rw[he]at this;simp at this;omega
  have hc:=Pg w b3 v l i w' h aEP
  refine jY.calls hc<|fun u w2 hq=>⟨true,hq.1,fun _=>hq.2,fun h=>mH⟩) ⟨.slice none 0 0,iw⟩) ?_
 rintro u w5 ⟨rfl,hor⟩
 obtain⟨v7,jQ⟩:=hor.resolve_right (fun⟨_,_,_,_,h⟩=>h)
 refine aa<|SR<|lV bD jQ 1 O O rfl<| ?_
 refine V (run_assign bA) ?_
 refine aa<|aj<|O3 O O jQ (i:=0) O (O) (O)
theorem tU(a b:BitVec 64)(w:World):Calls Tryz.prog 55 #[U a,U b] w (Pure (B (eu a b)) w):=by
 have hl:=Gh a
 refine eH func55 rfl rfl fun hH=>SR<|va (v:=B false) rfl<|aa<|SR<|mU rfl<|Cr O hH (BH _ _) (ay call101 O)<|fun v3 w1 bp=> ?_
 refine V (run_assign bA) ?_
 refine aa<|ai<|SR<|va (v:=I 0) rfl<|aa<|aA<|bt (G:=Int) (fun k s' w'=>(Fr (4::(6::(rg 9 13 []))) _ s')/\(Hp w w' _)/\(s' 6=I k)/\(0<=k)/\(k<=(gL a).length)/\(∀j:Int,0<=j->j<k->hasB b ((gL a).getD j.toNat 0)=true)) (fun k=>((gL a).length-k).toNat) (0) ⟨Fr.refl _ _,bp,rfl,J,J,fun j a b=>absurd b J⟩<| ?_
 rintro k sg4 w4 ⟨C1,iw,FP,h0,hk,hf⟩
 obtain⟨AE,G3⟩:=C1.w2 1 5
 refine ai<|SR<|aE FP<|aE G3<|V (aC (iw.sl (i:=0) O) O bD O)<|V (aN O O)<|aa<|aF O (fun h6=> ?_) (fun h6=> ?_)
 .refine an<|ai<|aA<|SR<|aE AE<|aE G3<|aE FP<|V (ah (iw.sl (i:=0) O) bD aO O O J)<|V (aG bx O O ((iw.sl (i:=0) O).cell _ _ (eS J)))<|aH O iw (tT _ _ _) (aM call102 O O)<|fun w7 eW=>V (bJ O)<|aa<|bW O (fun h11=> ?_) (fun h11=> ?_)
  .refine SR<|va (v:=B false) rfl<|aa<|aj<|oB O ?_ eW
   (exact(al6 h0 aQ aQ).symm)
  refine an<|au<|aE FP<|V (ax O O J)<|aI rfl<|aa<| ?_
  refine⟨k+1,aW,C1.u4.u4.u4.u1.u1,eW,(aK I aL),J,J,?_⟩
  exact fun j x y=>if e:j=k then e▸(by simpa using‹(!hasB b ((gL a).getD k.toNat 0))=false›)else hf j x J
 refine a8 (id:=0) rfl<|SR<|va (v:=B true) rfl<|aa<|aj<|oB O ?_ iw
 (exact(agl fun j x y=>hf j x J).symm)
theorem bN(r:Rl)(w:World):Calls Tryz.prog 149 #[.agg (dU r)] w (Pure (I (pts r)) w):=by
 refine eH func149 rfl rfl fun hH=>SR<|gN hH (v:= .agg _) rfl<|fun b3 w1 bp=>va (v:=I 0) rfl<|aa<|ai<|SR<|V (fA bS 0 O aO O)<|lV bx bp 0 O O (fx _)<|V (aN O O)<|aa<|aF O (fun h5=> ?_) (fun h5=> ?_)
 .refine SR<|va (v:=I 0) rfl<|aa<|aj<|oI O ?_ bp
  (unfold pts;omega)
 refine an<|ai<|SR<|V (fA bS 0 O aO O)<|lV bx bp 0 O O (fx _)<|V (dN O O)<|aa<|aF O (fun h7=> ?_) (fun h7=> ?_)
 .refine SR<|va (v:=I 64) rfl<|aa<|aj<|oI O ?_ bp
  (unfold pts;omega)
 refine an<|SR<|V (fA bS 0 O aO O)<|lV bx bp 0 O O (fx _)<|aI rfl<|aa<|aj<|oI O ?_ bp
 (unfold pts;omega)
theorem kY(r:Rl)(w:World):Calls Tryz.prog 199 #[.agg (dU r)] w (Pure (I (pts r)) w):=by
 refine eH func199 rfl rfl fun hH=>SR<|gN hH (v:= .agg _) rfl<|fun b3 w1 bp=>va (v:=I 0) rfl<|aa<|SR<|V (fA bS 0 O aO O)<|lV bx bp 0 O O (fx _)<|V (vA O O)<|V (Gf O O)<|aI rfl<|aa<|aj<|oI O ?_ bp
 rfl
theorem bC(r:Rl)(i j:Int)(w:World):Calls Tryz.prog 150 #[.agg (dU r),I i,I j] w (Pure (B (bL r i j)) w):=by
 have hp:=dA r
 refine eH func150 rfl rfl fun hH=>SR<|gN hH (v:= .agg _) rfl<|fun b3 w1 bp=>va (v:=B false) rfl<|aa<|SR<|V (aR bS O O O (bp.blk (i:=0) O))<|aH O bp (bN _ _) (ay nN O)<|fun w4 bY=>aI rfl<|aa<|SR<|mI rfl<|V (dF O O)<|mB rfl<|bK 12 O (fun h7=> ?_) (fun h7=> ?_)
 .refine mI rfl<|V (dF O O)<|mB rfl<|mB rfl<|bK 16 O (fun h9=> ?_) (fun h9=> ?_)
  .refine mI rfl<|mI rfl<|V (aN O O)<|mB rfl<|mB rfl<|bK 21 O (fun h11=> ?_) (fun h11=> ?_)
   .refine mI rfl<|mI rfl<|V (aN O O)<|mB rfl<|mB rfl<|bK 26 O (fun To=> ?_) (fun To=> ?_)
    .refine mI rfl<|V (fA bS 1 O um O)<|V (a7 sy cQ O O J)<|lV dM bY 0 O O (xa _ J)<|mI rfl<|V (iZ bx xR O)<|V (yF O O)<|V (LV O (b:=2#64) O az)<|V (iU O (b:=1#64) O)<|mB rfl<|aB rfl<|aa<|aj<|oB O ?_ bY
     exact al9 J J J J
    refine aE (v:=B false) rfl<|aB rfl<|aa<|aj<|oB O ?_ bY
    exact(KG J).symm
   refine aE (v:=B false) rfl<|mB rfl<|cC O rfl<|aE (v:=B false) rfl<|aB rfl<|aa<|aj<|oB O ?_ bY
   exact(KG J).symm
  refine aE (v:=B false) rfl<|mB rfl<|cC O rfl<|aE (v:=B false) rfl<|mB rfl<|cC O rfl<|aE (v:=B false) rfl<|aB rfl<|aa<|aj<|oB O ?_ bY
  exact(KG J).symm
 refine aE (v:=B false) rfl<|mB rfl<|cC O rfl<|aE (v:=B false) rfl<|mB rfl<|cC O rfl<|aE (v:=B false) rfl<|mB rfl<|cC O rfl<|aE (v:=B false) rfl<|aB rfl<|aa<|aj<|oB O ?_ bY
 exact(KG J).symm
theorem Eb(v:Value)(l:List Int)(x:Int)(w:World)(hs:Sl w v 1 l.length (l.map I)):Calls Tryz.prog 110 #[v,I x] w (Pure (B (l.contains x)) w):=by
 have hm:=hs.small
 unfold maxLen at hm
 refine eH func110 rfl rfl fun hH=>SR<|va (v:=B false) rfl<|aa<|ai<|SR<|va (v:=I 0) rfl<|aa<|aA<|bt (G:=Int) (fun k s' w'=>(Fr (rg 4 14 []) _ s')/\(Hp w w' _)/\(s' 5=I k)/\(0<=k)/\(k<=l.length)/\(∀j:Int,0<=j->j<k->l.getD j.toNat 0≠x)) (fun k=>(l.length-k).toNat) (0) ⟨Fr.refl _ _,hH,rfl,J,J,fun j a b=>absurd b J⟩<| ?_
 rintro k sg1 w1 ⟨uJ,jf,NR,h0,hk,hf⟩
 obtain⟨my,AA⟩:=uJ.w2 0 1
 refine ai<|SR<|aE NR<|aE my<|V (aC (hs.hp jf) O bD O)<|V (aN O O)<|aa<|aF O (fun h3=> ?_) (fun h3=> ?_)
 .refine an<|ai<|aA<|SR<|aE my<|aE NR<|V (ah (hs.hp jf) bD aO O O J)<|V (aG bx O O ((hs.hp jf).cell _ _ (eS J)))<|aE AA<|V (bV O O)<|aa<|aF O (fun h5=> ?_) (fun h5=> ?_)
  .refine SR<|va (v:=B true) rfl<|aa<|aj<|oB O ?_ jf
   (exact(arw h0 aQ aQ).symm)
  refine an<|au<|aE NR<|V (ax O O J)<|aI rfl<|aa<| ?_
  refine⟨k+1,aW,uJ.u4.u4.u4.u1,jf,(aK I aL),J,J,?_⟩
  exact fun j a b=>if e:j=k then e▸‹¬l.getD k.toNat 0=x›else hf j a J
 refine a8 (id:=0) rfl<|SR<|va (v:=B false) rfl<|aa<|aj<|oB O ?_ jf
 (exact(awq fun j a b=>hf j a J).symm)
theorem AF(r:Rl)(i:Int)(hi:0<=i/\i<64)(w:World):Calls Tryz.prog 200 #[.agg (dU r),I i] w (Pure (U (vD r i)) w):=by
 refine eH func200 rfl rfl fun hH=>SR<|gN hH (v:= .agg _) rfl<|fun b3 w1 bp=>va (v:=U 0#64) rfl<|aa<|ai<|ed aP bp<|fun w4 bY=>have Ph:=bY;AQ 0 O Ph (mV (I _) O)<|AQ 1 O Ph (fA bS 1 O um O)<|AQ 2 O Ph (a7 sy cQ O O J)<|tV 3 O Ph dM 0 O O (xa _ J)<|AT 4 O Ph (fun w hS=>aR bS O O O (hS.blk (i:=0) O))<|A1 5<|cw O aD O bY sR (kY _ _) (ay HW O)<|fun w6 eE=>A1 6<|cw O aD O eE sR (oW _ _) (ay HV O)<|fun w8 iE=>AQ 7 O iE (kx O O)<|AQ 8 O iE (aV (U _) O)<|AD<|aj<|oU O ?_ iE
 rfl
theorem rI(r:Rl)(w:World):Calls Tryz.prog 165 #[.agg (dU r)] w (Pure (.agg (dU (eI r))) w):=by
 have hp:=dA r
 refine eH func165 rfl rfl fun hH=>SR<|gN hH (v:= .agg _) rfl<|fun b3 w1 bp=>lK bp (aS rH)<|fun b6 w4 bY=>aa<|SR<|V (aR bS O O O (bY.blk (i:=1) O))<|aH O bY (kY _ _) (ay HW O)<|fun w7 eW=>V (dI (vs:=[(0,I _)]) O (yZ _))<|lK eW (aS rH)<|fun b11 w9 cg=>bk cg (i:=0) O (oQ O O O (cg.blk (i:=0) O))<|fun zc bX=>aa<|ai<|SR<|V (fA bS 0 O aO O)<|lV bx bX 0 O O (fx _)<|aE (v:=I 0) rfl<|aa<|aA<|have hz:(⟨pts r,fun _=>0#64⟩:Rl).n=pts r:=rfl;bt (G:=Int×Rl) (fun⟨k,r1⟩ s' w'=>(Fr (4::(rg 10 10 [])) _ s')/\(Hp w w' (.blk b11 (.cells (dU r1) 86 (0,0))::_))/\(s' 10=I k)/\(0<=k)/\(k<=pts r)/\(r1=Eu (pts r) (fun i=>vD r i) k)) (fun⟨k,r1⟩=>(pts r-k).toNat) ((0,⟨pts r,fun _=>0#64⟩)) ⟨Fr.refl _ _,bX,rfl,J,J,Io _ _⟩<| ?_
 rintro⟨k,r1⟩ Z0 QT ⟨mN,cG,NS,h0,hk,hr⟩
 obtain⟨NT,Bn,kE,Bo⟩:=mN.w4 1 2 3 9
 have hn:r1.n=pts r:=by rw[hr];rfl
 refine SR<|V (aN NS Bo)<|aa<|ai<|aF O (fun ym=> ?_) (fun ym=> ?_)
 .refine an<|ai<|aA<|SR<|aE NS<|aI rfl<|aa<|au<|mI rfl<|V (aR bS O O NT (cG.blk (i:=2) O))<|mI rfl<|aH O cG (AF _ _ J _) (aM call200 O O)<|fun Tp dP=>V (fA bS 1 O um kE)<|V (a7 sy cQ O O J)<|bk dP (i:=0) O (bM O O (v:=U _) O O O (dP.blk (i:=0) O) H8)<|fun Tq cT=> ?_
  rw[yI]at cT
  refine aa<|au<|V (ax NS O J)<|mI rfl<|aa<| ?_
  refine⟨(k+1,_),aW,mN.u4.u4.u1.u1.u1,cT,(aK I aL),J,J,?_⟩
  rw[hr];exact Mc h0 (by rw[gk h0])
 refine a8 (id:=0) rfl<|SR<|V (aR bS O O kE (cG.blk (i:=0) O))<|bk cG (i:=1) O (oQ O Bn O (cG.blk (i:=1) O))<|fun NU cF=>aa<|aj<|agx O Bn cF (i:=1) O bS O O ⟨?_,cF.below⟩
 (rw[hr,show k=pts r by omega];rfl)
theorem C4(r:Rl)(s:BitVec 64)(w:World)(hT:o6 w):Calls Tryz.prog 209 #[.agg (dU r),U s] w (Pure (U (upR r s)) w):=by
 have hp:=dA r
 refine eH func209 rfl rfl fun hH=>SR<|gN hH (v:= .agg _) rfl<|fun b3 w1 bp=>va (v:=U 0#64) rfl<|aa<|SR<|va (v:=U 0#64) rfl<|aa<|ai<|SR<|mU rfl<|V (aR bS O O O (bp.blk (i:=0) O))<|aH O bp (kY _ _) (ay HW O)<|fun w4 bY=>aH O bY (oW _ _) (ay HV O)<|fun w6 eE=>V (kx O O)<|Cr O eE (C3 _ _ (hT.hp eE)) (ay call233 O)<|fun v10 w8 iE=>V (aC (iE.sl (i:=0) O) O bD O)<|aE (v:=I 0) rfl<|aa<|aA<|have hl:=Gh (s&&&below (pts r));bt (G:=Int) (fun k s' w'=>(Fr (5::(7::(rg 15 10 []))) _ s')/\(Hp w w' _)/\(s' 5=U (wZ (vD r) ((gL (s&&&below (pts r))).take k.toNat)))/\(s' 15=I k)/\(0<=k)/\(k<=(gL (s&&&below (pts r))).length)) (fun k=>((gL (s&&&below (pts r))).length-k).toNat) (0) ⟨Fr.refl _ _,iE,(aK U (by simp[wZ])),rfl,J,J⟩<| ?_
 rintro k ax2 I8 ⟨Kk,df,G4,Z4,h0,hk⟩
 obtain⟨Ws,ata,atb⟩:=Kk.w3 2 13 14
 refine SR<|V (aN Z4 atb)<|aa<|ai<|aF O (fun To=> ?_) (fun To=> ?_)
 .refine an<|ai<|aA<|SR<|V (ah (df.sl (i:=0) O) bD aO ata Z4 J)<|V (aG bx O O ((df.sl (i:=0) O).cell _ _ (eS J)))<|aI rfl<|aa<|au<|aE G4<|V (aR bS O O Ws (df.blk (i:=1) O))<|mI rfl<|aH O df (AF _ _ (by exact PJ lA lA) _) (aM call200 O O)<|fun QT gT=>V (iH O O)<|aU rfl<|aa<|au<|V (ax Z4 O J)<|mI rfl<|aa<| ?_
  refine⟨k+1,aW,Kk.u4.u4.u4,gT,(aK U (Md h0 aQ)),(aK I aL),J,J⟩
 refine a8 (id:=0) rfl<|SR<|aE G4<|aU rfl<|aa<|aj<|oU O ?_ df
 (rw[Ma aQ];rfl)
theorem yo(r:Rl)(s:BitVec 64)(w:World):Calls Tryz.prog 211 #[.agg (dU r),U s] w (Pure (U (Ev r s)) w):=by
 have hp:=dA r
 refine eH func211 rfl rfl fun hH=>SR<|gN hH (v:= .agg _) rfl<|fun b3 w1 bp=>va (v:=U 0#64) rfl<|aa<|SR<|va (v:=U 0#64) rfl<|aa<|ai<|SR<|V (aR bS O O O (bp.blk (i:=0) O))<|aH O bp (kY _ _) (ay HW O)<|fun w4 bY=>aE (v:=I 0) rfl<|aa<|aA<|bt (G:=Int) (fun k s' w'=>(Fr (5::6::(rg 9 13 [])) _ s')/\(Hp w w' _)/\(s' 5=U (yb r s k))/\(s' 9=I k)/\(0<=k)/\(k<=pts r)) (fun k=>(pts r-k).toNat) (0) ⟨Fr.refl _ _,bY,(aK U (by simp[yb,ou])),rfl,J,J⟩<| ?_
 rintro k sg6 w6 ⟨QR,jQ,atc,aob,h0,hk⟩
 obtain⟨Pd,ajP,aEQ⟩:=QR.w3 1 2 8
 refine SR<|V (aN aob aEQ)<|aa<|ai<|aF O (fun h8=> ?_) (fun h8=> ?_)
 .refine an<|ai<|aA<|SR<|aE aob<|aI rfl<|aa<|SR<|V (aR bS O O ajP (jQ.blk (i:=0) O))<|mI rfl<|aH O jQ (AF _ _ J _) (aM call200 O O)<|fun w9 cg=>aE Pd<|V (kx O O)<|V (vx O (b:=0#64) O)<|aa<|aF O (fun h12=> ?_) (fun h12=> ?_)
  .refine au<|aE atc<|mI rfl<|aH O cg (C0 _ _ _) (aM call231 O O)<|fun C2 cG=>aU rfl<|aa<|au<|V (ax aob O J)<|mI rfl<|aa<| ?_
   refine⟨k+1,aW,QR.u4.u4.u4.u1.u1.u1,cG,(aK U (by exact agr h0 J aQ)),(aK I aL),J,J⟩
  refine an<|au<|V (ax aob O J)<|mI rfl<|aa<| ?_
  refine⟨k+1,aW,QR.u4.u4.u1.u1.u1,cg,(jX atc (aK U (by exact ags h0 aQ))),(aK I aL),J,J⟩
 refine a8 (id:=0) rfl<|SR<|aE atc<|aU rfl<|aa<|aj<|oU O ?_ jQ
 (rw[show k=pts r by omega];rfl)
theorem rJ(r:Rl)(w:World):Calls Tryz.prog 242 #[.agg (dU r)] w (Pure (.agg (dU (eI r))) w):=by
 have hp:=dA r
 refine eH func242 rfl rfl fun hH=>SR<|gN hH (v:= .agg _) rfl<|fun b3 w1 bp=>lK bp (aS rH)<|fun b6 w4 bY=>aa<|SR<|V (aR bS O O O (bY.blk (i:=1) O))<|aH O bY (bN _ _) (ay nN O)<|fun w7 eW=>V (dI (vs:=[(0,I _)]) O (yZ _))<|lK eW (aS rH)<|fun b11 w9 cg=>bk cg (i:=0) O (oQ O O O (cg.blk (i:=0) O))<|fun zc bX=>aa<|ai<|SR<|va (v:=I 0) rfl<|aa<|aA<|have hz:(⟨pts r,fun _=>0#64⟩:Rl).n=pts r:=rfl;bt (G:=Int×Rl) (fun⟨k,r1⟩ s' w'=>(Fr (rg 4 3 (rg 10 25 [])) _ s')/\(Hp w w' (.blk b11 (.cells (dU r1) 86 (0,0))::_))/\(s' 4=I k)/\(0<=k)/\(k<=pts r)/\(r1=Eu (pts r) (fun i=>vD r i) k)) (fun⟨k,r1⟩=>(pts r-k).toNat) ((0,⟨pts r,fun _=>0#64⟩)) ⟨Fr.refl _ _,bX,rfl,J,J,Io _ _⟩<| ?_
 rintro⟨k,r1⟩ Z0 QT ⟨mN,cG,EJ,h0,hk,hr⟩
 obtain⟨NT,Bn,kE⟩:=mN.w3 1 2 3
 have hn:r1.n=pts r:=by rw[hr];rfl
 refine ai<|SR<|aE EJ<|V (fA bS 0 O aO kE)<|lV bx cG 0 O O (fx _)<|V (aN O O)<|aa<|aF O (fun ym=> ?_) (fun ym=> ?_)
 .refine an<|ai<|aA<|SR<|va (v:= .slice none 0 0) rfl<|have er:=cG.eR 3 1;aa<|ai<|SR<|va (v:=I 0) rfl<|aa<|aA<|bt (G:=Int×(List Int)×Value) (fun⟨j,l,v5⟩ s' w'=>(Fr (5::6::(rg 16 14 [])) _ s')/\(Hp w w' (.row v5 3 1 (l.length) (l.map I)::_))/\(s' 5=v5)/\(s' 6=I j)/\(0<=j)/\(j<=pts r)/\(l=rp r k j)) (fun⟨j,l,v5⟩=>(pts r-j).toNat) ((0,[],(.slice none 0 0:Value))) ⟨Fr.refl _ _,er,rfl,rfl,J,J,rfl⟩<| ?_
  rintro⟨j,l,v5⟩ aoc K9 ⟨rV,dP,JO,Bp,j0,j1,hl⟩
  obtain⟨JP,NV,ww⟩:=rV.t3 1 NT 3 kE 4 EJ
  refine ai<|SR<|aE Bp<|V (fA bS 0 O aO NV)<|lV bx dP 1 O O (fx _)<|V (aN O O)<|aa<|aF O (fun O0=> ?_) (fun O0=> ?_)
  .refine an<|ai<|aA<|SR<|V (aR bS O O JP (dP.blk (i:=3) O))<|aE ww<|aE Bp<|aH O dP (bC _ _ _ _) (bz jr O O O)<|fun NU cF=>aa<|bW O (fun xu=> ?_) (fun xu=> ?_)
   .refine au<|aE JO<|aE Bp<|tR 1 1 cF (cB bD O O (sz:=1) (vs:=[I _]) O O az az O O)<|fun b27 w25 jg=> ?_
    (try simp only[lj]at jg)
    refine gf O jg (i:=1) O (jg.dS (i:=0) (n:=1) (sz:=1) O O az) O O bD O O (size:=1) (bytes:=8) O O O az gX (by have:= @PI r k j;rw[<-hl]at this;omega) (by have:= @PI r k j;rw[<-hl]at this;simp only[maxLen];omega)<|fun v28 w29 iW=> ?_
    refine V (run_assign bA) ?_
    refine aa<|au<|aE Bp<|V (ax O O J)<|aI rfl<|aa<| ?_
    refine⟨(j+1,l++[j],v28),aW,rV.u4.u4.u4.u4,(Hp.conv (iW.sub (sQ sR)) aJ),rfl,(aK I aL),J,J,?_⟩
    (rw[hl];exact adh j0 aQ)
   refine an<|au<|aE Bp<|V (ax O O J)<|aI rfl<|aa<| ?_
   refine⟨(j+1,l,v5),aW,rV.u4.u4.u1.u1.u1,(Hp.conv cF aL),JO,(aK I aL),J,J,?_⟩
   (rw[hl];exact adi j0 aQ)
  refine a8 (id:=2) rfl<|au<|aE ww<|aE JO<|aH O dP (fO _ _ _ (dP.sl (i:=0) O)) (ay Ch O)<|fun w31 iC=>V (fA bS 1 O um NV)<|V (a7 sy cQ O O J)<|bk iC (i:=1) O (bM O O (v:=U _) O O O (iC.blk (i:=1) O) H8)<|fun w33 lF=> ?_
  rw[yI]at lF
  refine aa<|au<|aE ww<|V (ax O O J)<|aI rfl<|aa<| ?_
  refine⟨(k+1,_),aW,(((mN.u4.u1.u1).t rV O)).u4.u4.u4,(lF.sub (sQ sR)),(aK I aL),J,J,?_⟩
  rw[hr];exact Mc h0 (by rw[gk h0,hl,show j=pts r by omega];exact adj ⟨h0,J⟩)
 refine a8 (id:=0) rfl<|SR<|V (aR bS O O kE (cG.blk (i:=0) O))<|bk cG (i:=1) O (oQ O Bn O (cG.blk (i:=1) O))<|fun w35 j7=>aa<|aj<|agx O Bn j7 (i:=1) O bS O O ⟨?_,j7.below⟩
 (rw[hr,show k=pts r by omega];rfl)
theorem I9(r:Rl)(w:World):Calls Tryz.prog 201 #[.agg (dU r)] w (Pure (.agg (dU (js r))) w):=by
 have hp:=dA r
 have hn0:(eI r).n=pts r:=rfl
 refine eH func201 rfl rfl fun hH=>SR<|gN hH (v:= .agg _) rfl<|fun b3 w1 bp=>lK bp (aS rH)<|fun b6 w4 bY=>aa<|SR<|V (aR bS O O O (bY.blk (i:=1) O))<|aH O bY (rI _ _) (ay call165 O)<|fun w7 eW=>lK eW (aS rH)<|fun b11 w9 cg=>bk cg (i:=0) O (oQ O O O (cg.blk (i:=0) O))<|fun zc bX=>aa<|ai<|SR<|V (fA bS 0 O aO O)<|lV bx bX 0 O O (fx _)<|aE (v:=I 0) rfl<|aa<|aA<|bt (G:=Int×Rl) (fun⟨k,r1⟩ s' w'=>(Fr (4::(rg 11 13 [])) _ s')/\(Hp w w' (.blk b11 (.cells (dU r1) 86 (0,0))::_))/\(s' 11=I k)/\(0<=k)/\(k<=pts r)/\(r1=⟨pts r,qf (eI r).up k⟩)) (fun⟨k,r1⟩=>(pts r-k).toNat) ((0,eI r)) ⟨Fr.refl _ _,bX,rfl,J,J,adk _ _⟩<| ?_
 rintro⟨k,r1⟩ Z0 QT ⟨mN,cG,NW,h0,hk,hr⟩
 obtain⟨Bn,kE,NS⟩:=mN.w3 2 3 10
 have hn:r1.n=pts r:=by rw[hr]
 refine SR<|V (aN NW NS)<|aa<|ai<|aF O (fun ym=> ?_) (fun ym=> ?_)
 .refine an<|ai<|aA<|SR<|aE NW<|aI rfl<|aa<|au<|mI rfl<|mI rfl<|V (fA bS 1 O um kE)<|V (a7 sy cQ O O J)<|lV dM cG 0 O O (xa _ J)<|mI rfl<|aH O cG (C0 _ _ _) (aM call231 O O)<|fun Tp dP=>V (fA bS 1 O um kE)<|V (a7 sy cQ O O J)<|bk dP (i:=0) O (bM O O (v:=U _) O O O (dP.blk (i:=0) O) H8)<|fun Tq cT=> ?_
  rw[yI]at cT
  refine aa<|au<|V (ax NW O J)<|mI rfl<|aa<| ?_
  refine⟨(k+1,_),aW,mN.u4.u4.u4.u1.u1,cT,(aK I aL),J,J,?_⟩
  rw[hr];exact agt h0
 refine a8 (id:=0) rfl<|ai<|SR<|V (fA bS 0 O aO kE)<|lV bx cG 0 O O (fx _)<|aE (v:=I 0) rfl<|aa<|aA<|bt (G:=Int×Rl) (fun⟨m,r2⟩ s' w'=>(Fr (5::6::(rg 26 27 [])) _ s')/\(Hp w w' (.blk b11 (.cells (dU r2) 86 (0,0))::_))/\(s' 26=I m)/\(0<=m)/\(m<=pts r)/\(r2=⟨pts r,wall (pts r) (qf (eI r).up (pts r)) m.toNat⟩)) (fun⟨m,r2⟩=>(pts r-m).toNat) ((0,r1)) ⟨Fr.refl _ _,cG,rfl,J,J,(by rw[hr,show k=pts r by omega];rfl)⟩<| ?_
 rintro⟨m,r2⟩ aER NU ⟨aeM,fJ,Z6,m0,m1,hr2⟩
 have atd:=aeM.w1 25
 obtain⟨aqa,NY⟩:=aeM.t2 2 Bn 3 kE
 have Qj:r2.n=pts r:=by rw[hr2]
 refine SR<|V (aN Z6 atd)<|aa<|ai<|aF O (fun FQ=> ?_) (fun FQ=> ?_)
 .refine an<|ai<|aA<|SR<|aE Z6<|aI rfl<|aa<|SR<|V (fA bS 0 O aO NY)<|lV bx fJ 0 O O (fx _)<|aE (v:=I 0) rfl<|aa<|aA<|bt (G:=Int×Rl) (fun⟨i,r3⟩ s' w'=>(Fr (6::(rg 31 21 [])) _ s')/\(Hp w w' (.blk b11 (.cells (dU r3) 86 (0,0))::_))/\(s' 31=I i)/\(0<=i)/\(i<=pts r)/\(r3=⟨pts r,j3 m.toNat i r2.up⟩)) (fun⟨i,r3⟩=>(pts r-i).toNat) ((0,r2)) ⟨Fr.refl _ _,fJ,rfl,J,J,(by rw[hr2];exact adl _ _ _)⟩<| ?_
  rintro⟨i,r3⟩ aNV w24 ⟨aeN,gY,N0,i0,i1,hr3⟩
  obtain⟨aqb,ate⟩:=aeN.w2 5 30
  obtain⟨acr,atf⟩:=aeN.t2 3 NY 26 Z6
  have hn3:r3.n=pts r:=by rw[hr3]
  refine SR<|V (aN N0 ate)<|aa<|ai<|aF O (fun Wt=> ?_) (fun Wt=> ?_)
  .refine an<|ai<|aA<|SR<|aE N0<|aI rfl<|aa<|SR<|mI rfl<|V (fA bS 1 O um acr)<|V (a7 sy cQ O O J)<|lV dM gY 0 O O (xa _ J)<|aE aqb<|aH O gY (ZY _ _ _) (aM call232 O O)<|fun w27 iJ=>aa<|bW O (fun Pj=> ?_) (fun Pj=> ?_)
   .refine gp aP iJ (sQ sR)<|fun w31 iC=>have N1:=iC.sub (sQ sR);AQ 0 O N1 (mV (I _) O)<|AQ 1 O N1 (fA bS 1 O um acr)<|AQ 2 O N1 (a7 sy cQ O O J)<|AQ 4 O N1 (run_move aqb)<|AQ 5 O N1 (fA bS 1 O um acr)<|AQ 6 O N1 (a7 sy cQ O O J)<|AQ 9 O N1 (fA bS 1 O um acr)<|gq 3 7 aP ?_ ?_
    .refine cf O aD O iC (sQ sR) (aG dM O O (iC.cell (i:=0) O (xa _ J)))<|A1 7<|cf O aD O iC (sQ sR) (aG dM O O (iC.cell (i:=0) O (xa _ J)))<|AQ 8 O N1 (iH O O)<|AQ 10 O N1 (a7 sy cQ O O J)<|A1 11<|ef O aD iC (j:=0) O (sQ sR) (bM O O (v:=U _) O O O (iC.blk (i:=0) O) H8)<|fun w39 lG=> ?_
     rw[yI]at lG
     refine AD<|au<|V (ax N0 O J)<|mI rfl<|aa<| ?_
     refine⟨(i+1,_),aW,aeN.u4.u4.u4.u4.u4.u1.u1,lG,(aK I aL),J,J,?_⟩
     (rw[hr3]at*;exact Us m0 i0 aQ)
    refine cf O aD O iC (sQ sR) (aG dM O O (iC.cell (i:=0) O (xa _ J)))<|A1 3<|cf O aD O iC (sQ sR) (aG dM O O (iC.cell (i:=0) O (xa _ J)))<|AQ 8 O N1 (iH O O)<|AQ 10 O N1 (a7 sy cQ O O J)<|A1 11<|ef O aD iC (j:=0) O (sQ sR) (bM O O (v:=U _) O O O (iC.blk (i:=0) O) H8)<|fun w47 jB=> ?_
    rw[yI]at jB
    refine AD<|au<|V (ax N0 O J)<|mI rfl<|aa<| ?_
    refine⟨(i+1,_),aW,aeN.u4.u4.u4.u4.u4.u1.u1,jB,(aK I aL),J,J,?_⟩
    (rw[hr3]at*;exact Us m0 i0 aQ)
   refine an<|au<|V (ax N0 O J)<|mI rfl<|aa<| ?_
   refine⟨(i+1,_),aW,aeN.u4.u4.u1.u1.u1,iJ,(aK I aL),J,J,?_⟩
   (rw[hr3]at*;exact agv ⟨m0,J⟩ i0 aQ)
  refine a8 (id:=4) rfl<|au<|V (ax atf O J)<|mI rfl<|aa<| ?_
  refine⟨(m+1,_),aW,(((aeM.u4.u1.u1).t aeN O)).u1.u1.u1,gY,(aK I aL),J,J,?_⟩
  rw[hr3,hr2,show i=pts r by omega];exact adm m0
 refine a8 (id:=2) rfl<|SR<|V (aR bS O O NY (fJ.blk (i:=0) O))<|bk fJ (i:=1) O (oQ O aqa O (fJ.blk (i:=1) O))<|fun w49 eL=>aa<|aj<|agx O aqa eL (i:=1) O bS O O ⟨?_,eL.below⟩
 (rw[hr2,show m=pts r by omega];rfl)
theorem AH(r:Rl)(i:Int)(w:World):Calls Tryz.prog 215 #[.agg (dU r),I i] w (sZ 3 1 (yc r i).length ((yc r i).map I) w):=by
 have hp:=dA r
 refine eH func215 rfl rfl fun hH=>SR<|gN hH (v:= .agg _) rfl<|fun b3 w1 bp=>va (v:= .slice none 0 0) rfl<|have iw:=bp.eR 3 1;aa<|ai<|SR<|mI rfl<|V (aN O O)<|mB rfl<|bK 10 O (fun h6=> ?_) (fun h6=> ?_)
 .refine aE (v:=B true) rfl<|aa<|ct rfl<|SR<|va (v:= .slice none 0 0) rfl<|have eE:=iw.eR 3 1;aa<|aj<|O3 O O eE (i:=0) O R5 R5
 refine mI rfl<|V (aR bS O O O (iw.blk (i:=1) O))<|aH O iw (bN _ _) (ay nN O)<|fun w8 iE=>V (dF O O)<|mB rfl<|aa<|aF O (fun h11=> ?_) (fun h11=> ?_)
 .refine SR<|va (v:= .slice none 0 0) rfl<|have cP:=iE.eR 3 1;aa<|aj<|O3 O O cP (i:=0) O R5 R5
 refine an<|SR<|mI rfl<|tR 1 1 iE (cB bD O O (sz:=1) (vs:=[I _]) O O az az O O)<|fun b15 C2 cG=> ?_
 (try simp only[lj]at cG)
 have cI:=cG.sF 1 1 O az
 refine V (run_assign bA) ?_
 refine aa<|ai<|SR<|va (v:=I 0) rfl<|aa<|aA<|bt (G:=Int×(List Int)×Value) (fun⟨a,l,v5⟩ s' w'=>(Fr (rg 5 3 (rg 18 29 [])) _ s')/\(Hp w w' (.row v5 3 1 (l.length) (l.map I)::_))/\(s' 5=v5)/\(s' 6=I a)/\(0<=a)/\(a<=l.length)/\(Uu r l)/\(Xl r (65-a.toNat) a.toNat l=yc r i)) (fun⟨a,l,v5⟩=>((65:Int)-a).toNat) ((0,[i],(.slice (some ⟨b15,0,none⟩) 1 1:Value))) ⟨Fr.refl _ _,cI,rfl,rfl,J,aJ,Uu.one J,(by rw[yc,aX (rj.2 J)];rfl)⟩<| ?_
 rintro⟨a,l,v5⟩ aES Tp ⟨ajR,er,N2,aqd,a0,a1,hok,hl⟩
 obtain⟨ax4,aKo⟩:=ajR.w2 2 4
 refine ai<|SR<|aE aqd<|aE N2<|V (aC (er.sl (i:=0) O) O bD O)<|V (aN O O)<|aa<|aF O (fun N3=> ?_) (fun N3=> ?_)
 .refine an<|ai<|aA<|SR<|va (v:=I 0) rfl<|aa<|aA<|bt (G:=Int×(List Int)×Value) (fun⟨b,l2,v5⟩ s' w'=>(Fr (5::(7::(rg 24 23 []))) _ s')/\(Hp w w' (.row v5 3 1 (l2.length) (l2.map I)::_))/\(s' 5=v5)/\(s' 7=I b)/\(0<=b)/\(b<=pts r)/\(l2=scan r (l.getD a.toNat 0) l b.toNat)/\(Uu r l2)/\(l.length<=l2.length)/\(l2.getD a.toNat 0=l.getD a.toNat 0)) (fun⟨b,l2,v5⟩=>(pts r-b).toNat) ((0,l,(v5:Value))) ⟨Fr.refl _ _,er,N2,rfl,J,J,rfl,hok,fh _,rfl⟩<| ?_
  rintro⟨b,l2,v5⟩ aNW Z7 ⟨ajS,cT,QU,N4,b0,b1,h2,N5,hle,Uw⟩
  obtain⟨aqe,aqf⟩:=ajS.t2 2 ax4 6 aqd
  refine ai<|SR<|aE N4<|V (aR bS O O aqe (cT.blk (i:=2) O))<|aH O cT (bN _ _) (ay nN O)<|fun NU cF=>V (aN O O)<|aa<|aF O (fun xu=> ?_) (fun xu=> ?_)
  .refine an<|ai<|aA<|ai<|ed aP cF<|fun w25 jg=>have Kl:=jg;AT 0 O Kl (fun w hS=>aR bS O O aqe (hS.blk (i:=2) O))<|AQ 1 O Kl (run_move QU)<|AQ 2 O Kl (run_move aqf)<|AT 3 O Kl (fun w hS=>ah (hS.sl (i:=0) O) bD aO O O J)<|AT 4 O Kl (fun w hS=>aG bx O O ((hS.sl (i:=0) O).cell _ _ (eS J)))<|AQ 5 O Kl (run_move N4)<|A1 6<|cw O aD O jg sR (bC r (l2.getD a.toNat 0) b _) (bz jr O O O)<|fun w27 iJ=>have aaa:=iJ;AQ 7 O aaa (mV (B _) O)<|L4 (dj:=37) O (fun Pj=> ?_) (fun Pj=> ?_)
   .refine BQ 8 O O (bR (c:=true) Pj) iJ (run_move QU)<|BQ 9 O O (bR (c:=true) Pj) iJ (run_move N4)<|A1 10<|cw O (A8 O (bR (c:=true) Pj)) O iJ sR (Eb _ _ _ _ (iJ.sl (i:=0) O)) (aM call110 O O)<|fun w31 iC=>BQ 11 O O (bR (c:=true) Pj) iC (bJ O)<|AQ 12 O iC (gM (bR (c:=true) Pj) (v:=B _) O)<|AD<|bW O (fun BK=> ?_) (fun BK=> ?_)
    .refine au<|aE QU<|aE N4<|tR 1 1 iC (cB bD O O (sz:=1) (vs:=[I _]) O O az az O O)<|fun b38 w36 uw=> ?_
     (try simp only[lj]at uw)
     refine gf O uw (i:=1) O (uw.dS (i:=0) (n:=1) (sz:=1) O O az) O O bD O O (size:=1) (bytes:=8) O O O az gX (by have:=N5.len;omega) (by have:=N5.len;simp only[maxLen];omega)<|fun v39 w40 jU=> ?_
     refine V (run_assign bA) ?_
     refine aa<|au<|aE N4<|V (ax O O J)<|aI rfl<|aa<| ?_
     refine⟨(b+1,l2++[b],v39),aW,ajS.u4.u4.u4.u4.u4.u4.u1,(Hp.conv (jU.sub (sQ sR)) aJ),rfl,(aK I aL),J,J,?_,?_,LQ,?_⟩
     .rw[Uw]at*;((rw[h2]at*;exact agA b0 aQ (nt aQ)))
     .exact N5.add ⟨b0,aQ⟩ (nt aQ)
     (rw[<-Uw,eT,eT,zD J])
    refine an<|au<|aE N4<|V (ax O O J)<|aI rfl<|aa<| ?_
    refine⟨(b+1,l2,v5),aW,ajS.u4.u4.u4.u4.u4,(Hp.conv iC aL),QU,(aK I aL),J,J,?_,?_,?_,?_⟩
    .rw[Uw]at*;((rw[h2]at*;exact agC b0 (nf aQ)))
    .exact N5
    .exact hle
    exact Uw
   refine AK 8 O O (bR (c:=false) Pj) iJ<|AK 9 O O (bR (c:=false) Pj) iJ<|AK 10 O O (bR (c:=false) Pj) iJ<|AK 11 O O (bR (c:=false) Pj) iJ<|AQ 12 O aaa (ep (bR (c:=false) Pj) (v:=B false) O)<|AD<|cL rfl<|an<|au<|aE N4<|V (ax O O J)<|aI rfl<|aa<| ?_
   refine⟨(b+1,l2,v5),aW,ajS.u4.u4.u4.u4.u4,(Hp.conv iJ aL),QU,(aK I aL),J,J,?_,?_,?_,?_⟩
   .rw[Uw]at*;((rw[h2]at*;exact agB b0 aQ))
   .exact N5
   .exact hle
   exact Uw
  refine a8 (id:=2) rfl<|au<|aE aqf<|V (ax O O (by have:=hok.len;omega))<|aI rfl<|aa<| ?_
  refine⟨(a+1,l2,v5),?_,(((ajR.u4.u1).t ajS O)).u4.u1.u1.u1,(Hp.conv cF aL),QU,(aK I aL),J,J,?_,?_⟩
  .have:=hok.len;(try dsimp only);omega
  .exact N5
  (rw[h2,show b=pts r by omega,<-agz a0 aQ hok.len];exact hl)
 refine a8 (id:=0) rfl<|SR<|aE N2<| ?_
 refine V (run_assign bA) ?_
 refine aa<|aj<|O3 O O er (i:=0) O (by rw[<-hl,aa9 a0 aQ]) (by rw[<-hl,aa9 a0 aQ])
theorem yp(r:Rl)(w:World):Calls Tryz.prog 183 #[.agg (dU r)] w (Pure (.agg (dU (js r))) w):=by
 have hp:=dA r
 refine eH func183 rfl rfl fun hH=>SR<|gN hH (v:= .agg _) rfl<|fun b3 w1 bp=>lK bp (aS rH)<|fun b6 w4 bY=>aa<|SR<|V (aR bS O O O (bY.blk (i:=1) O))<|aH O bY (bN _ _) (ay nN O)<|fun w7 eW=>V (dI (vs:=[(0,I _)]) O (yZ _))<|lK eW (aS rH)<|fun b11 w9 cg=>bk cg (i:=0) O (oQ O O O (cg.blk (i:=0) O))<|fun zc bX=>aa<|ai<|SR<|va (v:=I 0) rfl<|aa<|aA<|have hz:(⟨pts r,fun _=>0#64⟩:Rl).n=pts r:=rfl;bt (G:=Int×Rl) (fun⟨k,r1⟩ s' w'=>(Fr (4::(rg 8 13 [])) _ s')/\(Hp w w' (.blk b11 (.cells (dU r1) 86 (0,0))::_))/\(s' 4=I k)/\(0<=k)/\(k<=pts r)/\(r1=Eu (pts r) (fun i=>kW (yc r i)) k)) (fun⟨k,r1⟩=>(pts r-k).toNat) ((0,⟨pts r,fun _=>0#64⟩)) ⟨Fr.refl _ _,bX,rfl,J,J,Io _ _⟩<| ?_
 rintro⟨k,r1⟩ Z0 QT ⟨mN,cG,EJ,h0,hk,hr⟩
 obtain⟨NT,Bn,kE⟩:=mN.w3 1 2 3
 have hn:r1.n=pts r:=by rw[hr];rfl
 refine ai<|SR<|aE EJ<|V (fA bS 0 O aO kE)<|lV bx cG 0 O O (fx _)<|V (aN O O)<|aa<|aF O (fun ym=> ?_) (fun ym=> ?_)
 .refine an<|ai<|aA<|au<|aE EJ<|V (aR bS O O NT (cG.blk (i:=2) O))<|aE EJ<|Cr O cG (AH _ _ _) (aM call215 O O)<|fun v19 Tp dP=>aH O dP (fO _ _ _ (dP.sl (i:=0) O)) (ay Ch O)<|fun Z7 fJ=>V (fA bS 1 O um kE)<|V (a7 sy cQ O O J)<|bk fJ (i:=1) O (bM O O (v:=U _) O O O (fJ.blk (i:=1) O) H8)<|fun QV eM=> ?_
  rw[yI]at eM
  refine aa<|au<|aE EJ<|V (ax O O J)<|aI rfl<|aa<| ?_
  refine⟨(k+1,_),aW,mN.u4.u4.u4.u1.u1,(eM.sub (sQ sR)),(aK I aL),J,J,?_⟩
  rw[hr];exact Mc h0 (by rw[gk h0])
 refine a8 (id:=0) rfl<|SR<|V (aR bS O O kE (cG.blk (i:=0) O))<|bk cG (i:=1) O (oQ O Bn O (cG.blk (i:=1) O))<|fun w24 oc=>aa<|aj<|agx O Bn oc (i:=1) O bS O O ⟨?_,oc.below⟩
 (rw[hr,show k=pts r by omega,amb])
theorem EK(a b:Rl)(w:World):Calls Tryz.prog 136 #[.agg (dU a),.agg (dU b)] w (Pure (B (decide ((eI a).eq (eI b)))) w):=by
 refine eH func136 rfl rfl fun hH=>SR<|gN hH (v:= .agg _) rfl<|fun b3 w1 bp=>gN bp (v:= .agg _) rfl<|fun b6 w4 bY=>va (v:=B false) rfl<|aa<|ai<|ed aP bY<|fun w7 eW=>AT 0 O eW (fun w hS=>aR bS O O O (hS.blk (i:=1) O))<|AT 2 O eW (fun w hS=>aR bS O O O (hS.blk (i:=0) O))<|A1 1<|cw O aD O eW sR (rI _ _) (ay call165 O)<|fun w9 cg=>A1 3<|cw O aD O cg sR (rI _ _) (ay call165 O)<|fun I8 cP=>AQ 4 O cP (Fm I7 O O)<|AQ 5 O cP (aV (B _) O)<|AD<|aj<|oB O ?_ cP
 rfl
theorem BL(a b:Rl)(w:World):Calls Tryz.prog 214 #[.agg (dU a),.agg (dU b)] w (Pure (B (decide ((eI a).eq (eI b)))) w):=by
 refine eH func214 rfl rfl fun hH=>SR<|gN hH (v:= .agg _) rfl<|fun b3 w1 bp=>gN bp (v:= .agg _) rfl<|fun b6 w4 bY=>va (v:=B false) rfl<|aa<|ai<|ed aP bY<|fun w7 eW=>AT 0 O eW (fun w hS=>aR bS O O O (hS.blk (i:=1) O))<|AT 2 O eW (fun w hS=>aR bS O O O (hS.blk (i:=0) O))<|A1 1<|cw O aD O eW sR (rJ _ _) (ay call242 O)<|fun w9 cg=>A1 3<|cw O aD O cg sR (rJ _ _) (ay call242 O)<|fun I8 cP=>AQ 4 O cP (Fm I7 O O)<|AQ 5 O cP (aV (B _) O)<|AD<|aj<|oB O ?_ cP
 rfl
theorem Bq(r:Rl)(w:World):Calls Tryz.prog 166 #[.agg (dU r)] w (Pure (B (decide ((eI r).eq (js r)))) w):=by
 refine eH func166 rfl rfl fun hH=>SR<|gN hH (v:= .agg _) rfl<|fun b3 w1 bp=>va (v:=B false) rfl<|aa<|ai<|ed aP bp<|fun w4 bY=>AT 0 O bY (fun w hS=>aR bS O O O (hS.blk (i:=0) O))<|AT 2 O bY (fun w hS=>aR bS O O O (hS.blk (i:=0) O))<|A1 1<|cw O aD O bY sR (rI _ _) (ay call165 O)<|fun w6 eE=>A1 3<|cw O aD O eE sR (I9 _ _) (ay call201 O)<|fun w8 iE=>AQ 4 O iE (Fm I7 O O)<|AQ 5 O iE (aV (B _) O)<|AD<|aj<|oB O ?_ iE
 rfl
theorem qH(r:Rl)(w:World):Calls Tryz.prog 182 #[.agg (dU r)] w (Pure (B (decide ((eI r).eq (js r)))) w):=by
 refine eH func182 rfl rfl fun hH=>SR<|gN hH (v:= .agg _) rfl<|fun b3 w1 bp=>va (v:=B false) rfl<|aa<|ai<|ed aP bp<|fun w4 bY=>AT 0 O bY (fun w hS=>aR bS O O O (hS.blk (i:=0) O))<|AT 1 O bY (fun w hS=>aR bS O O O (hS.blk (i:=0) O))<|A1 2<|cw O aD O bY sR (yp _ _) (ay call183 O)<|fun w6 eE=>A1 3<|cw O aD O eE sR (BL _ _ _) (aM call214 O O)<|fun w8 iE=>AQ 4 O iE (aV (B _) O)<|AD<|aj<|oB O ?_ iE
 rw[adq]
theorem AI(n:Int)(w:World):Calls Tryz.prog 208 #[I n] w (Pure (.agg (dU (agD n))) w):=by
 refine eH func208 rfl rfl fun hH=>SR<|lK hH (aS rH)<|fun b3 w1 bp=>aa<|SR<|mI rfl<|V (dI (vs:=[(0,I _)]) O (yZ _))<|aH O bp (kY _ _) (ay HW O)<|fun w4 bY=>V (dI (vs:=[(0,I _)]) O (yZ _))<|bk bY (i:=0) O (oQ O O O (bY.blk (i:=0) O))<|fun w6 eE=>aa<|aj<|agx O O eE (i:=0) O bS O O ⟨?_,eE.below⟩
 rfl
theorem Km(r:Rl)(i:Int)(w:World)(hT:o6 w):Calls Tryz.prog 202 #[.agg (dU r),I i] w (Pure (U (DI r i)) w):=by
 refine eH func202 rfl rfl fun hH=>SR<|gN hH (v:= .agg _) rfl<|fun b3 w1 bp=>va (v:=U 0#64) rfl<|aa<|SR<|mI rfl<|tR 1 1 bp (cB bD O O (sz:=1) (vs:=[I _]) O O az az O O)<|fun b6 w4 bY=> ?_
 (try simp only[lj]at bY)
 refine aH O bY (y9 _ [i] _ (bY.dS (i:=0) (n:=1) (sz:=1) O O az)) (ay call203 O)<|fun w7 eW=>aU rfl<|aa<|ai<|ed aP eW<|fun w9 cg=>have AJ:=cg;AT 0 O AJ (fun w hS=>aR bS O O O (hS.blk (i:=1) O))<|AQ 1 O AJ (mV (U _) O)<|AT 3 O AJ (fun w hS=>aR bS O O O (hS.blk (i:=1) O))<|AQ 4 O AJ (mV (U _) O)<|A1 2<|cw O aD O cg sR (C4 _ _ _ (hT.hp cg)) (aM call209 O O)<|fun I8 cP=>A1 5<|cw O aD O cP sR (yo _ _ _) (aM call211 O O)<|fun C2 cG=>AQ 6 O cG (kx O O)<|AQ 7 O cG (aV (U _) O)<|AD<|aj<|oU O ?_ cG
 rfl
theorem N6(r:Rl)(w:World)(hT:o6 w):Calls Tryz.prog 167 #[.agg (dU r)] w (Pure (B (gx r)) w):=by
 have hp:=dA r
 refine eH func167 rfl rfl fun hH=>SR<|gN hH (v:= .agg _) rfl<|fun b3 w1 bp=>va (v:=B false) rfl<|aa<|ai<|SR<|V (aR bS O O O (bp.blk (i:=0) O))<|aH O bp (Bq _ _) (ay call166 O)<|fun w4 bY=>V (vz O)<|aa<|aF O (fun h9=> ?_) (fun h9=> ?_)
 .refine SR<|va (v:=B false) rfl<|aa<|aj<|oB O ?_ bY
  exact(ads aQ).symm
 refine an<|ai<|SR<|V (aR bS O O O (bY.blk (i:=0) O))<|aH O bY (kY _ _) (ay HW O)<|fun EL df=>aE (v:=I 0) rfl<|aa<|aA<|have hc:=HJ ‹¬¬(eI r).eq (js r)›;bt (G:=Int) (fun k s' w'=>(Fr (2::3::(rg 9 11 [])) _ s')/\(Hp w w' _)/\(s' 9=I k)/\(0<=k)/\(k<=pts r)/\(∀j:Int,0<=j->j<k->DI r j=kW [j])) (fun k=>(pts r-k).toNat) (0) ⟨Fr.refl _ _,df,rfl,J,J,fun j a b=>absurd b J⟩<| ?_
 rintro k aab zc ⟨mj,cP,ajT,h0,hk,hf⟩
 obtain⟨pe,N7⟩:=mj.w2 1 8
 refine SR<|V (aN ajT N7)<|aa<|ai<|aF O (fun Ga=> ?_) (fun Ga=> ?_)
 .refine an<|ai<|aA<|SR<|aE ajT<|aI rfl<|aa<|SR<|V (aR bS O O pe (cP.blk (i:=0) O))<|mI rfl<|aH O cP (Km _ _ _ (hT.hp cP)) (aM call202 O O)<|fun Tm cI=>mI rfl<|tR 1 1 cI (cB bD O O (sz:=1) (vs:=[I _]) O O az az O O)<|fun b19 Tp dP=> ?_
  (try simp only[lj]at dP)
  refine aH O dP (y9 _ [k] _ (dP.dS (i:=0) (n:=1) (sz:=1) O O az)) (ay call203 O)<|fun Z7 fJ=>V (vx O O)<|aa<|aF O (fun FQ=> ?_) (fun FQ=> ?_)
  .refine SR<|va (v:=B false) rfl<|aa<|aj<|oB O ?_ fJ
   exact(agF hc ⟨h0,J⟩ aQ).symm
  refine an<|au<|V (ax ajT O J)<|mI rfl<|aa<| ?_
  refine⟨k+1,aW,mj.u4.u4.u4,(fJ.sub (sQ sR)),(aK I aL),J,J,?_⟩
  exact fun j a b=>if e:j=k then e▸HJ ‹_›else hf j a J
 refine a8 (id:=0) rfl<|SR<|va (v:=B true) rfl<|aa<|aj<|oB O ?_ cP
 exact(adt hc fun j a b=>hf j a J).symm
theorem AL(r:Rl)(w:World):Calls Tryz.prog 148 #[.agg (dU r)] w (Pure (B (gx r)) w):=by
 have hp:=dA r
 refine eH func148 rfl rfl fun hH=>SR<|gN hH (v:= .agg _) rfl<|fun b3 w1 bp=>va (v:=B false) rfl<|aa<|ai<|SR<|va (v:=I 0) rfl<|aa<|aA<|bt (G:=Int) (fun k s' w'=>(Fr (rg 2 24 []) _ s')/\(Hp w w' _)/\(s' 3=I k)/\(0<=k)/\(k<=pts r)/\(∀i j:Int,0<=j->j<i->i<k->(bL r i j&&bL r j i)=false)) (fun k=>(pts r-k).toNat) (0) ⟨Fr.refl _ _,bp,rfl,J,J,fun i j a b c=>absurd c J⟩<| ?_
 rintro k sg4 w4 ⟨C1,iw,za,k0,k1,hf⟩
 have AE:=C1.w1 1
 refine ai<|SR<|aE za<|V (aR bS O O AE (iw.blk (i:=0) O))<|aH O iw (bN _ _) (ay nN O)<|fun w5 jQ=>V (aN O O)<|aa<|aF O (fun h8=> ?_) (fun h8=> ?_)
 .refine an<|ai<|aA<|SR<|va (v:=I 0) rfl<|aa<|aA<|bt (G:=Int) (fun j s' w'=>(Fr (2::(4::(rg 11 15 []))) _ s')/\(Hp w w' _)/\(s' 4=I j)/\(0<=j)/\(j<=k)/\(∀x:Int,0<=x->x<j->(bL r k x&&bL r x k)=false)) (fun j=>(k-j).toNat) (0) ⟨Fr.refl _ _,jQ,rfl,J,J,fun x a b=>absurd b J⟩<| ?_
  rintro j sg9 w9 ⟨fr9,iE,Pk,j0,j1,hg⟩
  obtain⟨aad,aae⟩:=fr9.t2 1 AE 3 za
  refine ai<|SR<|aE Pk<|aE aae<|V (aN O O)<|aa<|aF O (fun h11=> ?_) (fun h11=> ?_)
  .refine an<|ai<|aA<|SR<|V (aR bS O O aad (iE.blk (i:=0) O))<|aE aae<|aE Pk<|aH O iE (bC _ _ _ _) (bz jr O O O)<|fun zc bX=>mB rfl<|ez 20 O (fun Ec=> ?_) (fun Ec=> ?_)
   .refine V (aR bS O O aad (bX.blk (i:=0) O))<|aE Pk<|aE aae<|aH O bX (bC _ _ _ _) (bz jr O O O)<|fun Ja er=>mB rfl<|aa<|bW O (fun N3=> ?_) (fun N3=> ?_)
    .refine SR<|va (v:=B false) rfl<|aa<|aj<|oB O ?_ er
     exact(UA ‹bL r k j=true› ‹bL r j k=true› aQ).symm
    refine an<|au<|aE Pk<|V (ax O O J)<|aI rfl<|aa<| ?_
    refine⟨j+1,aW,fr9.u4.u4.u4.u4,er,(aK I aL),J,J,?_⟩
    exact fun x u v=>if e:x=j then e▸(by rw[‹bL r j k=false›];simp)else hg x u J
   refine aE (v:=B false) rfl<|aa<|cL rfl<|an<|au<|aE Pk<|V (ax O O J)<|aI rfl<|aa<| ?_
   refine⟨j+1,aW,fr9.u4.u4.u4.u4,bX,(aK I aL),J,J,?_⟩
   exact fun x u v=>if e:x=j then e▸(by rw[‹bL r k j=false›];rfl)else hg x u J
  refine a8 (id:=2) rfl<|au<|aE aae<|V (ax O O J)<|aI rfl<|aa<| ?_
  refine⟨k+1,aW,(((C1.u4.u1).t fr9 O)).u4.u1.u1,iE,(aK I aL),J,J,?_⟩
  exact fun i x u v y=>if e:i=k then e▸hg x u (by omega)else hf i x u v J
 refine a8 (id:=0) rfl<|SR<|V (aR bS O O AE (jQ.blk (i:=0) O))<|aH O jQ (qH _ _) (ay call182 O)<|fun Z7 fJ=>aB rfl<|aa<|aj<|oB O ?_ fJ
 exact(adu aQ hf).symm
theorem aaf(r:Rl)(i:Int)(w:World):Calls Tryz.prog 210 #[.agg (dU r),I i] w (Pure (B (Bx r i)) w):=by
 have hp:=dA r
 have hnn:(agD r.n).n=pts r:=rfl
 refine eH func210 rfl rfl fun hH=>SR<|gN hH (v:= .agg _) rfl<|fun b3 w1 bp=>va (v:=B false) rfl<|aa<|SR<|mI rfl<|V (dF O O)<|mB rfl<|bK 7 O (fun h5=> ?_) (fun h5=> ?_)
 .refine mI rfl<|V (fA bS 0 O aO O)<|lV bx bp 0 O O (fx _)<|aH O bp (AI _ _) (ay call208 O)<|fun w6 eE=>V (DB bS O isAgg3 O (fx _))<|V (aN O O)<|mB rfl<|aB rfl<|aa<|aj<|oB O ?_ eE
  (rw[Bx,gH];simp only[eD,uB,zL];omega)
 refine aE (v:=B false) rfl<|aB rfl<|aa<|aj<|oB O ?_ bp
 (rw[Bx,gH];simp only[eD,uB,zL];omega)
theorem EM(r:Rl)(i:Int)(w:World)(hT:o6 w):Calls Tryz.prog 176 #[.agg (dU r),I i] w (Pure (U (gy r i)) w):=by
 refine eH func176 rfl rfl fun hH=>SR<|gN hH (v:= .agg _) rfl<|fun b3 w1 bp=>va (v:=U 0#64) rfl<|aa<|ai<|ed aP bp<|fun w4 bY=>AT 0 O bY (fun w hS=>aR bS O O O (hS.blk (i:=0) O))<|AQ 1 O bY (mV (I _) O)<|A1 2<|cH O aD O bY sR (f:=fun b=> .slice (some ⟨b,0,none⟩) 1 1) (cB bD O O (sz:=1) (vs:=[I _]) O O az az O O)<|fun b8 w6 eE=> ?_
 (try simp only[lj]at eE)
 refine A1 3<|cw O aD O eE (sQ sR) (y9 _ [i] _ (eE.dS (i:=0) (n:=1) (sz:=1) O O az)) (ay call203 O)<|fun w9 cg=>A1 4<|cw O aD O cg (sQ sR) (C4 _ _ _ (hT.hp cg)) (aM call209 O O)<|fun I8 cP=>AQ 5 O (cP.sub (sQ sR)) (aV (U _) O)<|AD<|aj<|oU O ?_ cP
 rfl
theorem EN(r:Rl)(i:Int)(w:World)(hT:o6 w):Calls Tryz.prog 177 #[.agg (dU r),I i] w (Pure (U (bQ r i)) w):=by
 refine eH func177 rfl rfl fun hH=>SR<|gN hH (v:= .agg _) rfl<|fun b3 w1 bp=>va (v:=U 0#64) rfl<|aa<|ai<|SR<|V (aR bS O O O (bp.blk (i:=0) O))<|mI rfl<|aH O bp (aaf _ _ _) (aM call210 O O)<|fun w4 bY=>V (bJ O)<|aa<|bW O (fun h8=> ?_) (fun h8=> ?_)
 .refine SR<|va (v:=U 0#64) rfl<|aa<|aj<|oU O ?_ bY
  rw[bQ,aT (by simpa using‹(!Bx r i)=true›)]
 refine an<|ai<|ed aP bY<|fun w9 cg=>AT 0 O cg (fun w hS=>aR bS O O O (hS.blk (i:=0) O))<|AQ 1 O cg (mV (I _) O)<|A1 2<|cH O aD O cg sR (f:=fun b=> .slice (some ⟨b,0,none⟩) 1 1) (cB bD O O (sz:=1) (vs:=[I _]) O O az az O O)<|fun N8 I8 cP=> ?_
 (try simp only[lj]at cP)
 refine A1 3<|cw O aD O cP (sQ sR) (y9 _ [i] _ (cP.dS (i:=0) (n:=1) (sz:=1) O O az)) (ay call203 O)<|fun QT gT=>A1 4<|cw O aD O gT (sQ sR) (yo _ _ _) (aM call211 O O)<|fun Ja er=>AQ 5 O (er.sub (sQ sR)) (aV (U _) O)<|AD<|aj<|oU O ?_ er
 rw[bQ,aX (by simpa using‹(!Bx r i)=false›)]
theorem Br(r:Rl)(i j:Int)(f:FuncId)(gg:Int->BitVec 64)(w:World)(hf:∀args w,(callFunc f args).run Tryz.prog w= .ok (.enter f args) w)(go:∀i w,o6 w->Calls Tryz.prog f #[.agg (dU r),I i] w (Pure (U (gg i)) w))(hn:∀u,hasB (gg i&&&gg j) u=true->u<pts r)(hT:o6 w):Calls Tryz.prog 204 #[.agg (dU r),I i,I j,.func (.func f) #[] #[]] w (Pure (.tuple #[I (Bc gg (pts r) i j).1,B (Bc gg (pts r) i j).2]) w):=by
 have hl:=Gh (gg i&&&gg j)
 refine eH func204 rfl rfl fun hH=>SR<|gN hH (v:= .agg _) rfl<|fun b3 w1 bp=>va (v:=I 0) rfl<|va (v:=B false) rfl<|aa<|ai<|ed aP bp<|fun w4 bY=>have Ph:=bY;AQ 0 O Ph (mV (.func _ _ _) rfl)<|AT 1 rfl Ph (fun w hS=>aR bS O O O (hS.blk (i:=0) O))<|AQ 2 O Ph (mV (I _) O)<|AQ 4 O Ph (mV (.func _ _ _) O)<|AT 5 O Ph (fun w hS=>aR bS O O O (hS.blk (i:=0) O))<|AQ 6 O Ph (mV (I _) O)<|A1 3<|cw O aD O bY sR (go _ _ (hT.hp bY)) (jb hf (cs:=[]) O O O)<|fun w6 eE=>A1 7<|cw O aD O eE sR (go _ _ (hT.hp eE)) (jb hf (cs:=[]) O O O)<|fun w8 iE=>AQ 8 O iE (kx O O)<|AQ 9 O iE (aV (U _) O)<|AD<|ai<|SR<|mU rfl<|Cr O iE (C3 _ _ (hT.hp iE)) (ay call233 O)<|fun v12 EL df=>V (aC (df.sl (i:=0) O) O bD O)<|aE (v:=I 0) rfl<|aa<|aA<|bt (G:=Int) (fun a s' w'=>(Fr (8::9::(12::(rg 25 12 []))) _ s')/\(Hp w w' _)/\(s' 25=I a)/\(0<=a)/\(a<=(gL (gg i&&&gg j)).length)/\(∀b:Int,0<=b->b<a->eu (gg i&&&gg j) (gg ((gL (gg i&&&gg j)).getD b.toNat 0))=false)) (fun a=>((gL (gg i&&&gg j)).length-a).toNat) (0) ⟨Fr.refl _ _,df,rfl,J,J,fun b x y=>absurd y J⟩<| ?_
 rintro a aag C2 ⟨rW,bX,N9,a0,a1,hg⟩
 have xw:=rW.vv 3 (a:= .func _ _ _) rfl rfl
 obtain⟨Bs,ath,aah,Oa⟩:=rW.w4 4 10 23 24
 refine SR<|V (aN N9 Oa)<|aa<|ai<|aF O (fun Ec=> ?_) (fun Ec=> ?_)
 .refine an<|ai<|aA<|SR<|V (ah (bX.sl (i:=0) O) bD aO aah N9 J)<|V (aG bx O O ((bX.sl (i:=0) O).cell _ _ (eS J)))<|aI rfl<|aa<|SR<|aE ath<|aE xw<|V (aR bS O O Bs (bX.blk (i:=1) O))<|mI rfl<|aH O bX (go _ _ (hT.hp bX)) (jb hf (cs:=[]) O O O)<|fun Ja er=>aH O er (FO _ _ _) (aM call140 O O)<|fun K9 iD=>aa<|bW O (fun Ob=> ?_) (fun Ob=> ?_)
  .refine SR<|mI rfl<|aI rfl<|va (v:=B true) rfl<|aa<|aj<| ?_
   refine kA O (aK I ?_) (aK B ?_) iD.below<;>rw[agO hn a0 aQ aQ hg]
  refine an<|au<|V (ax N9 O J)<|mI rfl<|aa<| ?_
  refine⟨a+1,aW,rW.u4.u4.u4,iD,(aK I aL),J,J,?_⟩
  exact fun b x y=>if e:b=a then e▸‹_›else hg b x J
 refine a8 (id:=0) rfl<|SR<|va (v:=I 0) rfl<|va (v:=B false) rfl<|aa<|aj<| ?_
 refine kA O (aK I ?_) (aK B ?_) bX.below<;>rw[amf aQ hg]
theorem AM(r:Rl)(i j:Int)(w:World)(hT:o6 w):Calls Tryz.prog 168 #[.agg (dU r),I i,I j] w (Pure (.tuple #[I (jj r i j).1,B (jj r i j).2]) w):=by
 refine eH func168 rfl rfl fun hH=>SR<|gN hH (v:= .agg _) rfl<|fun b3 w1 bp=>va (v:=I 0) rfl<|va (v:=B false) rfl<|aa<|SR<|V (aR bS O O O (bp.blk (i:=0) O))<|mI rfl<|mI rfl<|aH O bp (Br r i j 176 (gy r) _ call176 (fun i w h=>EM r i w h) (fun u h=>agP h) (hT.hp bp)) (jH call204 O O O O)<|fun w4 bY=>V (bg O (v:=I _) O)<|V (bg O (v:=B _) O)<|aI rfl<|aB rfl<|aa<|aj<|kA O (aK I ?_) (aK B ?_) bY.below
 all_goals rfl
theorem Tr(r:Rl)(i j:Int)(w:World)(hT:o6 w):Calls Tryz.prog 169 #[.agg (dU r),I i,I j] w (Pure (.tuple #[I (q9 r i j).1,B (q9 r i j).2]) w):=by
 refine eH func169 rfl rfl fun hH=>SR<|gN hH (v:= .agg _) rfl<|fun b3 w1 bp=>va (v:=I 0) rfl<|va (v:=B false) rfl<|aa<|SR<|V (aR bS O O O (bp.blk (i:=0) O))<|mI rfl<|mI rfl<|aH O bp (Br r i j 177 (bQ r) _ call177 (fun i w h=>EN r i w h) (fun u h=>adw h) (hT.hp bp)) (jH call204 O O O O)<|fun w4 bY=>V (bg O (v:=I _) O)<|V (bg O (v:=B _) O)<|aI rfl<|aB rfl<|aa<|aj<|kA O (aK I ?_) (aK B ?_) bY.below
 all_goals rfl
theorem oX(r:Rl)(i:Int)(w:World)(hT:o6 w):Calls Tryz.prog 144 #[.agg (dU r),I i] w (Pure (U (bQ r i)) w):=by
 refine eH func144 rfl rfl fun hH=>SR<|gN hH (v:= .agg _) rfl<|fun b3 w1 bp=>va (v:=U 0#64) rfl<|aa<|SR<|V (aR bS O O O (bp.blk (i:=0) O))<|mI rfl<|aH O bp (EN _ _ _ (hT.hp bp)) (aM call177 O O)<|fun w4 bY=>aU rfl<|aa<|aj<|oU O ?_ bY
 rfl
theorem yq(r:Rl)(s:BitVec 64)(w:World)(hT:o6 w):Calls Tryz.prog 181 #[.agg (dU r),U s] w (Pure (.tuple #[I (eX r s).1,B (eX r s).2]) w):=by
 have hp:=dA r
 have hnn:(agD r.n).n=pts r:=rfl
 refine eH func181 rfl rfl fun hH=>SR<|gN hH (v:= .agg _) rfl<|fun b3 w1 bp=>va (v:=I 0) rfl<|va (v:=B false) rfl<|aa<|ai<|SR<|V (fA bS 0 O aO O)<|lV bx bp 0 O O (fx _)<|aH O bp (AI _ _) (ay call208 O)<|fun w4 bY=>V (DB bS O isAgg3 O (fx _))<|aE (v:=I 0) rfl<|aa<|aA<|bt (G:=Int) (fun k s' w'=>(Fr (rg 4 3 (rg 11 10 [])) _ s')/\(Hp w w' _)/\(s' 11=I k)/\(0<=k)/\(k<=pts r)/\(∀j:Int,0<=j->j<k->bQ r j≠s)) (fun k=>(pts r-k).toNat) (0) ⟨Fr.refl _ _,bY,rfl,J,J,fun j x y=>absurd y J⟩<| ?_
 rintro k sg6 w6 ⟨QR,jQ,NQ,h0,hk,hg⟩
 obtain⟨Pd,ajP,ajN⟩:=QR.w3 1 2 10
 refine SR<|V (aN NQ ajN)<|aa<|ai<|aF O (fun h8=> ?_) (fun h8=> ?_)
 .refine an<|ai<|aA<|SR<|aE NQ<|aI rfl<|aa<|SR<|V (aR bS O O ajP (jQ.blk (i:=0) O))<|mI rfl<|aH O jQ (oX _ _ _ (hT.hp jQ)) (aM HX O O)<|fun w9 cg=>aE Pd<|V (iU O O)<|aa<|aF O (fun h12=> ?_) (fun h12=> ?_)
  .refine SR<|mI rfl<|aI rfl<|va (v:=B true) rfl<|aa<|aj<| ?_
   refine kA O (aK I ?_) (aK B ?_) cg.below<;>rw[DJ h0 J aQ hg]
  refine an<|au<|V (ax NQ O J)<|mI rfl<|aa<| ?_
  refine⟨k+1,aW,QR.u4.u4.u1.u1,cg,(aK I aL),J,J,?_⟩
  exact fun j x y=>if e:j=k then e▸‹¬bQ r k=s›else hg j x J
 refine a8 (id:=0) rfl<|SR<|va (v:=I 0) rfl<|va (v:=B false) rfl<|aa<|aj<| ?_
 refine kA O (aK I ?_) (aK B ?_) jQ.below<;>rw[Gn J hg]
theorem Pm(r:Rl)(a b:BitVec 64)(w:World)(hT:o6 w):Calls Tryz.prog 205 #[.agg (dU r),U a,U b] w (Pure (U (ju r a b)) w):=by
 refine eH func205 rfl rfl fun hH=>SR<|gN hH (v:= .agg _) rfl<|fun b3 w1 bp=>va (v:=U 0#64) rfl<|aa<|ai<|SR<|V (aR bS O O O (bp.blk (i:=0) O))<|mU rfl<|aH O bp (yq _ _ _ (hT.hp bp)) (aM call181 O O)<|fun w4 bY=> ?_
 refine V (run_move bA) ?_
 refine V (bg O (v:=I _) O)<|V (bg O (v:=B _) O)<|aI rfl<|aB rfl<|aa<|SR<|mB rfl<|aa<|bW O (fun h7=> ?_) (fun h7=> ?_)
 .refine SR<|V (aR bS O O O (bY.blk (i:=0) O))<|mU rfl<|aH O bY (yq _ _ _ (hT.hp bY)) (aM call181 O O)<|fun w8 iE=> ?_
  refine V (run_move bA) ?_
  refine V (bg O (v:=I _) O)<|V (bg O (v:=B _) O)<|aI rfl<|aB rfl<|aa<|SR<|mB rfl<|aa<|bW O (fun h11=> ?_) (fun h11=> ?_)
  .refine SR<|V (aR bS O O O (iE.blk (i:=0) O))<|mI rfl<|mI rfl<|aH O iE (AM _ _ _ _ (hT.hp iE)) (bz call168 O O O)<|fun zc bX=> ?_
   refine V (run_move bA) ?_
   refine V (bg O (v:=I _) O)<|V (bg O (v:=B _) O)<|aI rfl<|aB rfl<|aa<|SR<|mB rfl<|aa<|bW O (fun Ec=> ?_) (fun Ec=> ?_)
   .refine SR<|V (aR bS O O O (bX.blk (i:=0) O))<|mI rfl<|aH O bX (oX _ _ _ (hT.hp bX)) (aM HX O O)<|fun Ja er=>aU rfl<|aa<|aj<|oU O ?_ er
    rw[Ix aQ aQ aQ]
   refine an<|SR<|mU rfl<|mU rfl<|V (iH O O)<|aU rfl<|aa<|aj<|oU O ?_ bX
   rw[PL aQ]
  refine an<|SR<|mU rfl<|mU rfl<|V (iH O O)<|aU rfl<|aa<|aj<|oU O ?_ iE
  rw[Iz aQ]
 refine an<|SR<|mU rfl<|mU rfl<|V (iH O O)<|aU rfl<|aa<|aj<|oU O ?_ bY
 rw[Iy aQ]
theorem Wu(r:Rl)(f:FuncId)(gg:Int->BitVec 64)(w:World)(hf:∀args w,(callFunc f args).run Tryz.prog w= .ok (.enter f args) w)(go:∀i w,o6 w->Calls Tryz.prog f #[.agg (dU r),I i] w (Pure (U (gg i)) w))(hT:o6 w):Calls Tryz.prog 175 #[.agg (dU r),.func (.func f) #[] #[]] w (Pure (.tuple #[I (wK r gg).1,B (wK r gg).2]) w):=by
 have hp:=dA r
 have hnn:(agD r.n).n=pts r:=rfl
 refine eH func175 rfl rfl fun hH=>SR<|gN hH (v:= .agg _) rfl<|fun b3 w1 bp=>va (v:=I 0) rfl<|va (v:=B false) rfl<|aa<|SR<|V (fA bS 0 O aO O)<|lV bx bp 0 O O (fx _)<|aH O bp (AI _ _) (ay call208 O)<|fun w4 bY=>V (DB bS O isAgg3 O (fx _))<|aI rfl<|aa<|ai<|SR<|mI rfl<|aE (v:=I 0) rfl<|aa<|aA<|bt (G:=Int) (fun k s' w'=>(Fr (4::5::(7::(rg 13 12 []))) _ s')/\(Hp w w' _)/\(s' 13=I k)/\(0<=k)/\(k<=pts r)/\(∀j:Int,0<=j->j<k->gg j≠below (pts r))) (fun k=>(pts r-k).toNat) (0) ⟨Fr.refl _ _,bY,rfl,J,J,fun j x y=>absurd y J⟩<| ?_
 rintro k sg6 w6 ⟨QR,jQ,ajU,h0,hk,hg⟩
 have Pd:=QR.vv 1 (a:= .func _ _ _) rfl rfl
 obtain⟨ajP,aET,ax5⟩:=QR.w3 2 6 12
 refine SR<|V (aN ajU ax5)<|aa<|ai<|aF O (fun h8=> ?_) (fun h8=> ?_)
 .refine an<|ai<|aA<|SR<|aE ajU<|aI rfl<|aa<|SR<|aE Pd<|V (aR bS O O ajP (jQ.blk (i:=0) O))<|mI rfl<|aH O jQ (go _ _ (hT.hp jQ)) (jb hf (cs:=[]) O O O)<|fun w9 cg=>aE aET<|aH O cg (oW _ _) (ay HV O)<|fun I8 cP=>V (iU O O)<|aa<|aF O (fun Ga=> ?_) (fun Ga=> ?_)
  .refine SR<|mI rfl<|aI rfl<|va (v:=B true) rfl<|aa<|aj<| ?_
   refine kA O (aK I ?_) (aK B ?_) cP.below<;>rw[abg h0 J aQ hg]
  refine an<|au<|V (ax ajU O J)<|mI rfl<|aa<| ?_
  refine⟨k+1,aW,QR.u4.u4.u4,cP,(aK I aL),J,J,?_⟩
  exact fun j x y=>if e:j=k then e▸‹¬gg k=below _›else hg j x J
 refine a8 (id:=0) rfl<|SR<|va (v:=I 0) rfl<|va (v:=B false) rfl<|aa<|aj<| ?_
 refine kA O (aK I ?_) (aK B ?_) jQ.below<;>rw[agQ J hg]
theorem Oc(r:Rl)(w:World)(hT:o6 w):Calls Tryz.prog 143 #[.agg (dU r)] w (Pure (.tuple #[I (wK r (gy r)).1,B (wK r (gy r)).2]) w):=by
 refine eH func143 rfl rfl fun hH=>SR<|gN hH (v:= .agg _) rfl<|fun b3 w1 bp=>va (v:=I 0) rfl<|va (v:=B false) rfl<|aa<|SR<|V (aR bS O O O (bp.blk (i:=0) O))<|aH O bp (Wu r 176 (gy r) _ call176 (fun i w h=>EM r i w h) (hT.hp bp)) (aM call175 O O)<|fun w4 bY=>V (bg O (v:=I _) O)<|V (bg O (v:=B _) O)<|aI rfl<|aB rfl<|aa<|aj<|kA O (aK I ?_) (aK B ?_) bY.below
 all_goals rfl
theorem Kn(r:Rl)(w:World)(hT:o6 w):Calls Tryz.prog 138 #[.agg (dU r)] w (Pure (B (tj r)) w):=by
 have hp:=dA r
 refine eH func138 rfl rfl fun hH=>SR<|gN hH (v:= .agg _) rfl<|fun b3 w1 bp=>va (v:=B false) rfl<|aa<|ai<|SR<|V (fA bS 0 O aO O)<|lV bx bp 0 O O (fx _)<|V (aN O O)<|mB rfl<|bK 12 O (fun h5=> ?_) (fun h5=> ?_)
 .refine aE (v:=B true) rfl<|mB rfl<|cC O rfl<|aE (v:=B true) rfl<|aa<|ct rfl<|SR<|va (v:=B false) rfl<|aa<|aj<|oB O ?_ bp
  exact(KL J).symm
 refine V (fA bS 0 O aO O)<|lV bx bp 0 O O (fx _)<|V (dN O O)<|mB rfl<|mB rfl<|bK 17 O (fun h7=> ?_) (fun h7=> ?_)
 .refine aE (v:=B true) rfl<|aa<|ct rfl<|SR<|va (v:=B false) rfl<|aa<|aj<|oB O ?_ bp
  exact(KL J).symm
 refine V (aR bS O O O (bp.blk (i:=0) O))<|aH O bp (N6 _ _ (hT.hp bp)) (ay call167 O)<|fun w8 iE=>V (bJ O)<|mB rfl<|aa<|bW O (fun h12=> ?_) (fun h12=> ?_)
 .refine SR<|va (v:=B false) rfl<|aa<|aj<|oB O ?_ iE
  exact(abe (nt aQ)).symm
 refine an<|ai<|SR<|V (fA bS 0 O aO O)<|lV bx iE 0 O O (fx _)<|aE (v:=I 0) rfl<|aa<|aA<|have hn:1<=r.n/\r.n<=64:=J;have ho:gx r=true:=nf aQ;bt (G:=Int) (fun i s' w'=>(Fr (rg 2 7 (rg 24 29 [])) _ s')/\(Hp w w' _)/\(s' 24=I i)/\(0<=i)/\(i<=r.n)/\(∀a b:Int,0<=b->b<a->a<i->uE r a b=true)) (fun i=>(r.n-i).toNat) (0) ⟨Fr.refl _ _,iE,rfl,J,J,fun a b x y z=>absurd z J⟩<| ?_
 rintro i aag C2 ⟨rW,bX,Oa,i0,i1,hg⟩
 obtain⟨G5,aah⟩:=rW.w2 1 23
 refine SR<|V (aN Oa aah)<|aa<|ai<|aF O (fun Ec=> ?_) (fun Ec=> ?_)
 .refine an<|ai<|aA<|SR<|aE Oa<|aI rfl<|aa<|SR<|mI rfl<|aE (v:=I 0) rfl<|aa<|aA<|bt (G:=Int) (fun j s' w'=>(Fr (2::(rg 4 5 (rg 28 24 []))) _ s')/\(Hp w w' _)/\(s' 28=I j)/\(0<=j)/\(j<=i)/\(∀b:Int,0<=b->b<j->uE r i b=true)) (fun j=>(i-j).toNat) (0) ⟨Fr.refl _ _,bX,rfl,J,J,fun b x y=>absurd y J⟩<| ?_
  rintro j aai Ja ⟨nQ,cI,aaj,j0,j1,hh⟩
  obtain⟨oE,ati⟩:=nQ.w2 3 27
  obtain⟨xx,atj⟩:=nQ.t2 1 G5 24 Oa
  refine SR<|V (aN aaj ati)<|aa<|ai<|aF O (fun qn=> ?_) (fun qn=> ?_)
  .refine an<|ai<|aA<|SR<|aE aaj<|aI rfl<|aa<|SR<|V (aR bS O O xx (cI.blk (i:=0) O))<|aE oE<|mI rfl<|aH O cI (AM _ _ _ _ (hT.hp cI)) (bz call168 O O O)<|fun Tq cT=> ?_
   refine V (run_move bA) ?_
   refine V (bg O (v:=I _) O)<|V (bg O (v:=B _) O)<|aI rfl<|aB rfl<|aa<|SR<|V (aR bS O O xx (cT.blk (i:=0) O))<|aE oE<|mI rfl<|aH O cT (Tr _ _ _ _ (hT.hp cT)) (bz call169 O O O)<|fun QV eM=> ?_
   refine V (run_move bA) ?_
   refine V (bg O (v:=I _) O)<|V (bg O (v:=B _) O)<|aI rfl<|aB rfl<|aa<|SR<|mB rfl<|V (bJ O)<|mB rfl<|ez 47 O (fun Wt=> ?_) (fun Wt=> ?_)
   .refine aE (v:=B true) rfl<|aa<|ct rfl<|SR<|va (v:=B false) rfl<|aa<|aj<|oB O ?_ eM
    exact(KM ‹i<r.n› j0 ‹j<i› afU).symm
   refine mB rfl<|V (bJ O)<|mB rfl<|aa<|bW O (fun Wv=> ?_) (fun Wv=> ?_)
   .refine SR<|va (v:=B false) rfl<|aa<|aj<|oB O ?_ eM
    exact(KM ‹i<r.n› j0 ‹j<i› afQ).symm
   refine an<|au<|V (ax aaj O J)<|mI rfl<|aa<| ?_
   refine⟨j+1,aW,nQ.u4.u4.u4.u4.u4.u4.u4.u1,eM,(aK I aL),J,J,?_⟩
   exact fun b x y=>if e:b=j then e▸(by rw[uE,cM];exact⟨nf ‹(!(jj r i j).2)=false›,nf ‹(!(q9 r i j).2)=false›⟩)else hh b x J
  refine a8 (id:=2) rfl<|au<|V (ax atj O J)<|mI rfl<|aa<| ?_
  refine⟨i+1,aW,(((rW.u4.u1).t nQ O)).u1.u1.u1,cI,(aK I aL),J,J,?_⟩
  exact fun a b x y z=>if e:a=i then e▸hh b x (by omega)else hg a b x y J
 refine a8 (id:=0) rfl<|SR<|va (v:=B true) rfl<|aa<|aj<|oB O ?_ bX
 exact(abf hn ho aQ hg).symm
theorem sj(r:Rl)(i j:Int)(w:World):Calls Tryz.prog 121 #[.agg (dU r),I i,I j] w (Pure (.tuple #[I (jj r i j).1,B (jj r i j).2]) w):=by
 have hp:=dA r
 refine eH func121 rfl rfl fun hH=>SR<|gN hH (v:= .agg _) rfl<|fun b3 w1 bp=>va (v:=I 0) rfl<|va (v:=B false) rfl<|aa<|ai<|SR<|va (v:=I 0) rfl<|aa<|aA<|bt (G:=Int) (fun u s' w'=>(Fr (rg 6 46 []) _ s')/\(Hp w w' _)/\(s' 8=I u)/\(0<=u)/\(u<=pts r)/\(∀x:Int,0<=x->x<u->ow (gy r) i j x=false)) (fun u=>(pts r-u).toNat) (0) ⟨Fr.refl _ _,bp,rfl,J,J,fun x a b=>absurd b J⟩<| ?_
 rintro u sg4 w4 ⟨C1,iw,Jb,u0,u1,hg⟩
 obtain⟨AE,Ko,za⟩:=C1.w3 1 2 3
 refine ai<|SR<|aE Jb<|V (aR bS O O za (iw.blk (i:=0) O))<|aH O iw (bN _ _) (ay nN O)<|fun w5 jQ=>V (aN O O)<|aa<|aF O (fun h8=> ?_) (fun h8=> ?_)
 .refine an<|ai<|aA<|SR<|V (aR bS O O za (jQ.blk (i:=0) O))<|aE AE<|aE Jb<|aH O jQ (bC _ _ _ _) (bz jr O O O)<|fun w9 cg=>mB rfl<|ez 21 O (fun h12=> ?_) (fun h12=> ?_)
  .refine V (aR bS O O za (cg.blk (i:=0) O))<|aE Ko<|aE Jb<|aH O cg (bC _ _ _ _) (bz jr O O O)<|fun C2 cG=>mB rfl<|aB rfl<|aa<|ai<|SR<|va (v:=I 0) rfl<|aa<|aA<|bt (G:=Int) (fun v s' w'=>(Fr (9::10::(rg 27 23 [])) _ s')/\(Hp w w' _)/\(s' 9=B (Ew r i j u v))/\(s' 10=I v)/\(0<=v)/\(v<=pts r)) (fun v=>(pts r-v).toNat) (0) ⟨Fr.refl _ _,cG,(aK B (by simp[Ew,upto, *])),rfl,J,J⟩<| ?_
   rintro v aai Ja ⟨nQ,cI,G6,oF,v0,v1⟩
   obtain⟨xx,Ww,oE,pW⟩:=nQ.t4 1 AE 2 Ko 3 za 8 Jb
   refine ai<|SR<|aE oF<|V (aR bS O O oE (cI.blk (i:=0) O))<|aH O cI (bN _ _) (ay nN O)<|fun K9 iD=>V (aN O O)<|aa<|aF O (fun Ob=> ?_) (fun Ob=> ?_)
   .refine an<|ai<|aA<|SR<|V (aR bS O O oE (iD.blk (i:=0) O))<|aE xx<|aE oF<|aH O iD (bC _ _ _ _) (bz jr O O O)<|fun QV eM=>mB rfl<|ez 37 O (fun Jc=> ?_) (fun Jc=> ?_)
    .refine V (aR bS O O oE (eM.blk (i:=0) O))<|aE Ww<|aE oF<|aH O eM (bC _ _ _ _) (bz jr O O O)<|fun Wx dK=>mB rfl<|mB rfl<|ez 43 O (fun rK=> ?_) (fun rK=> ?_)
     .refine V (aR bS O O oE (dK.blk (i:=0) O))<|aE pW<|aE oF<|aH O dK (bC _ _ _ _) (bz jr O O O)<|fun w30 gU=>V (bJ O)<|mB rfl<|aa<|bW O (fun h34=> ?_) (fun h34=> ?_)
      .refine au<|va (v:=B false) rfl<|aa<|au<|aE oF<|V (ax O O J)<|aI rfl<|aa<| ?_
       refine⟨v+1,aW,nQ.u4.u4.u4.u4.u4.u4.u1,gU,(aK B Cl),(aK I aL),J,J⟩
      refine an<|au<|aE oF<|V (ax O O J)<|aI rfl<|aa<| ?_
      refine⟨v+1,aW,nQ.u4.u4.u4.u4.u4.u4,gU,(jX G6 (aK B Cl)),(aK I aL),J,J⟩
     refine aE (v:=B false) rfl<|aa<|cL rfl<|an<|au<|aE oF<|V (ax O O J)<|aI rfl<|aa<| ?_
     refine⟨v+1,aW,nQ.u4.u4.u4.u4.u4.u4,dK,(jX G6 (aK B Cl)),(aK I aL),J,J⟩
    refine aE (v:=B false) rfl<|mB rfl<|cC O rfl<|aE (v:=B false) rfl<|aa<|cL rfl<|an<|au<|aE oF<|V (ax O O J)<|aI rfl<|aa<| ?_
    refine⟨v+1,aW,nQ.u4.u4.u4.u4.u4.u4,eM,(jX G6 (aK B Cl)),(aK I aL),J,J⟩
   refine a8 (id:=2) rfl<|SR<|aE G6<|aa<|bW O (fun BK=> ?_) (fun BK=> ?_)
   .refine SR<|aE pW<|aI rfl<|va (v:=B true) rfl<|aa<|aj<| ?_
    (refine kA O (aK I ?_) (aK B ?_) iD.below<;>rw[UE u0 aQ (show v=pts r by omega) aQ hg])
   refine an<|au<|aE pW<|V (ax O O J)<|aI rfl<|aa<| ?_
   refine⟨u+1,aW,(((C1.u4.u4.u4.u4).t nQ O)).u4.u4,iD,(aK I aL),J,J,?_⟩
   exact fun x a b=>if e:x=u then e▸(by rw[Iv r i j u (show v=pts r by omega)];assumption)else hg x a J
  refine aE (v:=B false) rfl<|aB rfl<|aa<|ai<|SR<|va (v:=I 0) rfl<|aa<|aA<|bt (G:=Int) (fun v s' w'=>(Fr (9::10::(rg 27 23 [])) _ s')/\(Hp w w' _)/\(s' 9=B (Ew r i j u v))/\(s' 10=I v)/\(0<=v)/\(v<=pts r)) (fun v=>(pts r-v).toNat) (0) ⟨Fr.refl _ _,cg,(aK B (by simp[Ew,upto, *])),rfl,J,J⟩<| ?_
  rintro v aEU w36 ⟨Jd,j7,G7,oG,v0,v1⟩
  obtain⟨ajV,ajW,G8,Od⟩:=Jd.t4 1 AE 2 Ko 3 za 8 Jb
  refine ai<|SR<|aE oG<|V (aR bS O O G8 (j7.blk (i:=0) O))<|aH O j7 (bN _ _) (ay nN O)<|fun w38 kF=>V (aN O O)<|aa<|aF O (fun h41=> ?_) (fun h41=> ?_)
  .refine an<|ai<|aA<|SR<|V (aR bS O O G8 (kF.blk (i:=0) O))<|aE ajV<|aE oG<|aH O kF (bC _ _ _ _) (bz jr O O O)<|fun w42 mo=>mB rfl<|ez 37 O (fun h45=> ?_) (fun h45=> ?_)
   .refine V (aR bS O O G8 (mo.blk (i:=0) O))<|aE ajW<|aE oG<|aH O mo (bC _ _ _ _) (bz jr O O O)<|fun w46 oY=>mB rfl<|mB rfl<|ez 43 O (fun h49=> ?_) (fun h49=> ?_)
    .refine V (aR bS O O G8 (oY.blk (i:=0) O))<|aE Od<|aE oG<|aH O oY (bC _ _ _ _) (bz jr O O O)<|fun w50 rX=>V (bJ O)<|mB rfl<|aa<|bW O (fun h54=> ?_) (fun h54=> ?_)
     .refine au<|va (v:=B false) rfl<|aa<|au<|aE oG<|V (ax O O J)<|aI rfl<|aa<| ?_
      refine⟨v+1,aW,Jd.u4.u4.u4.u4.u4.u4.u1,rX,(aK B Cl),(aK I aL),J,J⟩
     refine an<|au<|aE oG<|V (ax O O J)<|aI rfl<|aa<| ?_
     refine⟨v+1,aW,Jd.u4.u4.u4.u4.u4.u4,rX,(jX G7 (aK B Cl)),(aK I aL),J,J⟩
    refine aE (v:=B false) rfl<|aa<|cL rfl<|an<|au<|aE oG<|V (ax O O J)<|aI rfl<|aa<| ?_
    refine⟨v+1,aW,Jd.u4.u4.u4.u4.u4.u4,oY,(jX G7 (aK B Cl)),(aK I aL),J,J⟩
   refine aE (v:=B false) rfl<|mB rfl<|cC O rfl<|aE (v:=B false) rfl<|aa<|cL rfl<|an<|au<|aE oG<|V (ax O O J)<|aI rfl<|aa<| ?_
   refine⟨v+1,aW,Jd.u4.u4.u4.u4.u4.u4,mo,(jX G7 (aK B Cl)),(aK I aL),J,J⟩
  refine a8 (id:=2) rfl<|SR<|aE G7<|aa<|bW O (fun h55=> ?_) (fun h55=> ?_)
  .refine SR<|aE Od<|aI rfl<|va (v:=B true) rfl<|aa<|aj<| ?_
   (refine kA O (aK I ?_) (aK B ?_) kF.below<;>rw[UE u0 aQ (show v=pts r by omega) aQ hg])
  refine an<|au<|aE Od<|V (ax O O J)<|aI rfl<|aa<| ?_
  refine⟨u+1,aW,(((C1.u4.u4.u4.u4).t Jd O)).u4.u4,kF,(aK I aL),J,J,?_⟩
  exact fun x a b=>if e:x=u then e▸(by rw[Iv r i j u (show v=pts r by omega)];assumption)else hg x a J
 refine a8 (id:=0) rfl<|SR<|va (v:=I 0) rfl<|va (v:=B false) rfl<|aa<|aj<| ?_
 (refine kA O (aK I ?_) (aK B ?_) jQ.below<;>rw[amg aQ hg])
theorem BM(r:Rl)(i j:Int)(w:World):Calls Tryz.prog 184 #[.agg (dU r),I i,I j] w (Pure (.tuple #[I (q9 r i j).1,B (q9 r i j).2]) w):=by
 have hp:=dA r
 refine eH func184 rfl rfl fun hH=>SR<|gN hH (v:= .agg _) rfl<|fun b3 w1 bp=>va (v:=I 0) rfl<|va (v:=B false) rfl<|aa<|ai<|SR<|va (v:=I 0) rfl<|aa<|aA<|bt (G:=Int) (fun u s' w'=>(Fr (rg 6 46 []) _ s')/\(Hp w w' _)/\(s' 8=I u)/\(0<=u)/\(u<=pts r)/\(∀x:Int,0<=x->x<u->ow (bQ r) i j x=false)) (fun u=>(pts r-u).toNat) (0) ⟨Fr.refl _ _,bp,rfl,J,J,fun x a b=>absurd b J⟩<| ?_
 rintro u sg4 w4 ⟨C1,iw,Jb,u0,u1,hg⟩
 obtain⟨AE,Ko,za⟩:=C1.w3 1 2 3
 refine ai<|SR<|aE Jb<|V (aR bS O O za (iw.blk (i:=0) O))<|aH O iw (bN _ _) (ay nN O)<|fun w5 jQ=>V (aN O O)<|aa<|aF O (fun h8=> ?_) (fun h8=> ?_)
 .refine an<|ai<|aA<|SR<|V (aR bS O O za (jQ.blk (i:=0) O))<|aE Jb<|aE AE<|aH O jQ (bC _ _ _ _) (bz jr O O O)<|fun w9 cg=>mB rfl<|ez 21 O (fun h12=> ?_) (fun h12=> ?_)
  .refine V (aR bS O O za (cg.blk (i:=0) O))<|aE Jb<|aE Ko<|aH O cg (bC _ _ _ _) (bz jr O O O)<|fun C2 cG=>mB rfl<|aB rfl<|aa<|ai<|SR<|va (v:=I 0) rfl<|aa<|aA<|bt (G:=Int) (fun v s' w'=>(Fr (9::10::(rg 27 23 [])) _ s')/\(Hp w w' _)/\(s' 9=B (Ey r i j u v))/\(s' 10=I v)/\(0<=v)/\(v<=pts r)) (fun v=>(pts r-v).toNat) (0) ⟨Fr.refl _ _,cG,(aK B (by simp[Ey,upto, *])),rfl,J,J⟩<| ?_
   rintro v aai Ja ⟨nQ,cI,G6,oF,v0,v1⟩
   obtain⟨xx,Ww,oE,pW⟩:=nQ.t4 1 AE 2 Ko 3 za 8 Jb
   refine ai<|SR<|aE oF<|V (aR bS O O oE (cI.blk (i:=0) O))<|aH O cI (bN _ _) (ay nN O)<|fun K9 iD=>V (aN O O)<|aa<|aF O (fun Ob=> ?_) (fun Ob=> ?_)
   .refine an<|ai<|aA<|SR<|V (aR bS O O oE (iD.blk (i:=0) O))<|aE oF<|aE xx<|aH O iD (bC _ _ _ _) (bz jr O O O)<|fun QV eM=>mB rfl<|ez 37 O (fun Jc=> ?_) (fun Jc=> ?_)
    .refine V (aR bS O O oE (eM.blk (i:=0) O))<|aE oF<|aE Ww<|aH O eM (bC _ _ _ _) (bz jr O O O)<|fun Wx dK=>mB rfl<|mB rfl<|ez 43 O (fun rK=> ?_) (fun rK=> ?_)
     .refine V (aR bS O O oE (dK.blk (i:=0) O))<|aE oF<|aE pW<|aH O dK (bC _ _ _ _) (bz jr O O O)<|fun w30 gU=>V (bJ O)<|mB rfl<|aa<|bW O (fun h34=> ?_) (fun h34=> ?_)
      .refine au<|va (v:=B false) rfl<|aa<|au<|aE oF<|V (ax O O J)<|aI rfl<|aa<| ?_
       refine⟨v+1,aW,nQ.u4.u4.u4.u4.u4.u4.u1,gU,(aK B Cm),(aK I aL),J,J⟩
      refine an<|au<|aE oF<|V (ax O O J)<|aI rfl<|aa<| ?_
      refine⟨v+1,aW,nQ.u4.u4.u4.u4.u4.u4,gU,(jX G6 (aK B Cm)),(aK I aL),J,J⟩
     refine aE (v:=B false) rfl<|aa<|cL rfl<|an<|au<|aE oF<|V (ax O O J)<|aI rfl<|aa<| ?_
     refine⟨v+1,aW,nQ.u4.u4.u4.u4.u4.u4,dK,(jX G6 (aK B Cm)),(aK I aL),J,J⟩
    refine aE (v:=B false) rfl<|mB rfl<|cC O rfl<|aE (v:=B false) rfl<|aa<|cL rfl<|an<|au<|aE oF<|V (ax O O J)<|aI rfl<|aa<| ?_
    refine⟨v+1,aW,nQ.u4.u4.u4.u4.u4.u4,eM,(jX G6 (aK B Cm)),(aK I aL),J,J⟩
   refine a8 (id:=2) rfl<|SR<|aE G6<|aa<|bW O (fun BK=> ?_) (fun BK=> ?_)
   .refine SR<|aE pW<|aI rfl<|va (v:=B true) rfl<|aa<|aj<| ?_
    (refine kA O (aK I ?_) (aK B ?_) iD.below<;>rw[UF u0 aQ (show v=pts r by omega) aQ hg])
   refine an<|au<|aE pW<|V (ax O O J)<|aI rfl<|aa<| ?_
   refine⟨u+1,aW,(((C1.u4.u4.u4.u4).t nQ O)).u4.u4,iD,(aK I aL),J,J,?_⟩
   exact fun x a b=>if e:x=u then e▸(by rw[Iw r i j u (show v=pts r by omega)];assumption)else hg x a J
  refine aE (v:=B false) rfl<|aB rfl<|aa<|ai<|SR<|va (v:=I 0) rfl<|aa<|aA<|bt (G:=Int) (fun v s' w'=>(Fr (9::10::(rg 27 23 [])) _ s')/\(Hp w w' _)/\(s' 9=B (Ey r i j u v))/\(s' 10=I v)/\(0<=v)/\(v<=pts r)) (fun v=>(pts r-v).toNat) (0) ⟨Fr.refl _ _,cg,(aK B (by simp[Ey,upto, *])),rfl,J,J⟩<| ?_
  rintro v aEU w36 ⟨Jd,j7,G7,oG,v0,v1⟩
  obtain⟨ajV,ajW,G8,Od⟩:=Jd.t4 1 AE 2 Ko 3 za 8 Jb
  refine ai<|SR<|aE oG<|V (aR bS O O G8 (j7.blk (i:=0) O))<|aH O j7 (bN _ _) (ay nN O)<|fun w38 kF=>V (aN O O)<|aa<|aF O (fun h41=> ?_) (fun h41=> ?_)
  .refine an<|ai<|aA<|SR<|V (aR bS O O G8 (kF.blk (i:=0) O))<|aE oG<|aE ajV<|aH O kF (bC _ _ _ _) (bz jr O O O)<|fun w42 mo=>mB rfl<|ez 37 O (fun h45=> ?_) (fun h45=> ?_)
   .refine V (aR bS O O G8 (mo.blk (i:=0) O))<|aE oG<|aE ajW<|aH O mo (bC _ _ _ _) (bz jr O O O)<|fun w46 oY=>mB rfl<|mB rfl<|ez 43 O (fun h49=> ?_) (fun h49=> ?_)
    .refine V (aR bS O O G8 (oY.blk (i:=0) O))<|aE oG<|aE Od<|aH O oY (bC _ _ _ _) (bz jr O O O)<|fun w50 rX=>V (bJ O)<|mB rfl<|aa<|bW O (fun h54=> ?_) (fun h54=> ?_)
     .refine au<|va (v:=B false) rfl<|aa<|au<|aE oG<|V (ax O O J)<|aI rfl<|aa<| ?_
      refine⟨v+1,aW,Jd.u4.u4.u4.u4.u4.u4.u1,rX,(aK B Cm),(aK I aL),J,J⟩
     refine an<|au<|aE oG<|V (ax O O J)<|aI rfl<|aa<| ?_
     refine⟨v+1,aW,Jd.u4.u4.u4.u4.u4.u4,rX,(jX G7 (aK B Cm)),(aK I aL),J,J⟩
    refine aE (v:=B false) rfl<|aa<|cL rfl<|an<|au<|aE oG<|V (ax O O J)<|aI rfl<|aa<| ?_
    refine⟨v+1,aW,Jd.u4.u4.u4.u4.u4.u4,oY,(jX G7 (aK B Cm)),(aK I aL),J,J⟩
   refine aE (v:=B false) rfl<|mB rfl<|cC O rfl<|aE (v:=B false) rfl<|aa<|cL rfl<|an<|au<|aE oG<|V (ax O O J)<|aI rfl<|aa<| ?_
   refine⟨v+1,aW,Jd.u4.u4.u4.u4.u4.u4,mo,(jX G7 (aK B Cm)),(aK I aL),J,J⟩
  refine a8 (id:=2) rfl<|SR<|aE G7<|aa<|bW O (fun h55=> ?_) (fun h55=> ?_)
  .refine SR<|aE Od<|aI rfl<|va (v:=B true) rfl<|aa<|aj<| ?_
   (refine kA O (aK I ?_) (aK B ?_) kF.below<;>rw[UF u0 aQ (show v=pts r by omega) aQ hg])
  refine an<|au<|aE Od<|V (ax O O J)<|aI rfl<|aa<| ?_
  refine⟨u+1,aW,(((C1.u4.u4.u4.u4).t Jd O)).u4.u4,kF,(aK I aL),J,J,?_⟩
  exact fun x a b=>if e:x=u then e▸(by rw[Iw r i j u (show v=pts r by omega)];assumption)else hg x a J
 refine a8 (id:=0) rfl<|SR<|va (v:=I 0) rfl<|va (v:=B false) rfl<|aa<|aj<| ?_
 (refine kA O (aK I ?_) (aK B ?_) jQ.below<;>rw[amh aQ hg])
theorem yt(r:Rl)(w:World):Calls Tryz.prog 151 #[.agg (dU r)] w (Pure (B (tj r)) w):=by
 have hp:=dA r
 refine eH func151 rfl rfl fun hH=>SR<|gN hH (v:= .agg _) rfl<|fun b3 w1 bp=>va (v:=B false) rfl<|aa<|ai<|SR<|V (fA bS 0 O aO O)<|lV bx bp 0 O O (fx _)<|V (aN O O)<|mB rfl<|bK 12 O (fun h5=> ?_) (fun h5=> ?_)
 .refine aE (v:=B true) rfl<|mB rfl<|cC O rfl<|aE (v:=B true) rfl<|aa<|ct rfl<|SR<|va (v:=B false) rfl<|aa<|aj<|oB O ?_ bp
  exact(KL J).symm
 refine V (fA bS 0 O aO O)<|lV bx bp 0 O O (fx _)<|V (dN O O)<|mB rfl<|mB rfl<|bK 17 O (fun h7=> ?_) (fun h7=> ?_)
 .refine aE (v:=B true) rfl<|aa<|ct rfl<|SR<|va (v:=B false) rfl<|aa<|aj<|oB O ?_ bp
  exact(KL J).symm
 refine V (aR bS O O O (bp.blk (i:=0) O))<|aH O bp (AL _ _) (ay call148 O)<|fun w8 iE=>V (bJ O)<|mB rfl<|aa<|bW O (fun h12=> ?_) (fun h12=> ?_)
 .refine SR<|va (v:=B false) rfl<|aa<|aj<|oB O ?_ iE
  exact(abe (nt aQ)).symm
 refine an<|ai<|SR<|va (v:=I 0) rfl<|aa<|aA<|have hn:1<=r.n/\r.n<=64:=J;have ho:gx r=true:=nf aQ;bt (G:=Int) (fun i s' w'=>(Fr (rg 2 7 (rg 22 31 [])) _ s')/\(Hp w w' _)/\(s' 3=I i)/\(0<=i)/\(i<=r.n)/\(∀a b:Int,0<=b->b<a->a<i->uE r a b=true)) (fun i=>(r.n-i).toNat) (0) ⟨Fr.refl _ _,iE,rfl,J,J,fun a b x y z=>absurd z J⟩<| ?_
 rintro i aag C2 ⟨rW,bX,xw,i0,i1,hg⟩
 have G5:=rW.w1 1
 refine ai<|SR<|aE xw<|V (fA bS 0 O aO G5)<|lV bx bX 0 O O (fx _)<|V (aN O O)<|aa<|aF O (fun Ec=> ?_) (fun Ec=> ?_)
 .refine an<|ai<|aA<|SR<|va (v:=I 0) rfl<|aa<|aA<|bt (G:=Int) (fun j s' w'=>(Fr (2::(rg 4 5 (rg 28 25 []))) _ s')/\(Hp w w' _)/\(s' 4=I j)/\(0<=j)/\(j<=i)/\(∀b:Int,0<=b->b<j->uE r i b=true)) (fun j=>(i-j).toNat) (0) ⟨Fr.refl _ _,bX,rfl,J,J,fun b x y=>absurd y J⟩<| ?_
  rintro j aai Ja ⟨nQ,cI,EO,j0,j1,hh⟩
  obtain⟨xx,oE⟩:=nQ.t2 1 G5 3 xw
  refine ai<|SR<|aE EO<|aE oE<|V (aN O O)<|aa<|aF O (fun qn=> ?_) (fun qn=> ?_)
  .refine an<|ai<|aA<|SR<|V (aR bS O O xx (cI.blk (i:=0) O))<|aE oE<|aE EO<|aH O cI (sj _ _ _ _) (bz call121 O O O)<|fun Tq cT=> ?_
   refine V (run_move bA) ?_
   refine V (bg O (v:=I _) O)<|V (bg O (v:=B _) O)<|aI rfl<|aB rfl<|aa<|SR<|V (aR bS O O xx (cT.blk (i:=0) O))<|aE oE<|aE EO<|aH O cT (BM _ _ _ _) (bz call184 O O O)<|fun QV eM=> ?_
   refine V (run_move bA) ?_
   refine V (bg O (v:=I _) O)<|V (bg O (v:=B _) O)<|aI rfl<|aB rfl<|aa<|SR<|mB rfl<|V (bJ O)<|mB rfl<|ez 49 O (fun Wt=> ?_) (fun Wt=> ?_)
   .refine aE (v:=B true) rfl<|aa<|ct rfl<|SR<|va (v:=B false) rfl<|aa<|aj<|oB O ?_ eM
    exact(KM ‹i<r.n› j0 ‹j<i› afU).symm
   refine mB rfl<|V (bJ O)<|mB rfl<|aa<|bW O (fun Wv=> ?_) (fun Wv=> ?_)
   .refine SR<|va (v:=B false) rfl<|aa<|aj<|oB O ?_ eM
    exact(KM ‹i<r.n› j0 ‹j<i› afQ).symm
   refine an<|au<|aE EO<|V (ax O O J)<|aI rfl<|aa<| ?_
   refine⟨j+1,aW,nQ.u4.u4.u4.u4.u4.u4.u4.u1.u1,eM,(aK I aL),J,J,?_⟩
   exact fun b x y=>if e:b=j then e▸(by rw[uE,cM];exact⟨nf ‹(!(jj r i j).2)=false›,nf ‹(!(q9 r i j).2)=false›⟩)else hh b x J
  refine a8 (id:=2) rfl<|au<|aE oE<|V (ax O O J)<|aI rfl<|aa<| ?_
  refine⟨i+1,aW,(((rW.u4.u1).t nQ O)).u4.u1.u1,cI,(aK I aL),J,J,?_⟩
  exact fun a b x y z=>if e:a=i then e▸hh b x (by omega)else hg a b x y J
 refine a8 (id:=0) rfl<|SR<|va (v:=B true) rfl<|aa<|aj<|oB O ?_ bX
 exact(abf hn ho aQ hg).symm
theorem nR(r:Rl)(i:Int)(w:World):Calls Tryz.prog 117 #[.agg (dU r),I i] w (Pure (U (bQ r i)) w):=by
 have hp:=dA r
 refine eH func117 rfl rfl fun hH=>SR<|gN hH (v:= .agg _) rfl<|fun b3 w1 bp=>va (v:=U 0#64) rfl<|aa<|SR<|va (v:= .slice none 0 0) rfl<|have iw:=bp.eR 3 1;aa<|ai<|SR<|va (v:=I 0) rfl<|aa<|aA<|bt (G:=Int×(List Int)×Value) (fun⟨k,l,v5⟩ s' w'=>(Fr (rg 5 16 []) _ s')/\(Hp w w' (.row v5 3 1 (l.length) (l.map I)::_))/\(s' 5=v5)/\(s' 6=I k)/\(0<=k)/\(k<=pts r)/\(l=ru r i k)) (fun⟨k,l,v5⟩=>(pts r-k).toNat) ((0,[],(.slice none 0 0:Value))) ⟨Fr.refl _ _,iw,rfl,rfl,J,J,rfl⟩<| ?_
 rintro⟨k,l,v5⟩ sg5 w5 ⟨Uc,bY,aeG,Wy,k0,k1,hl⟩
 obtain⟨Tl,aal⟩:=Uc.w2 1 2
 refine ai<|SR<|aE Wy<|V (aR bS O O aal (bY.blk (i:=1) O))<|aH O bY (bN _ _) (ay nN O)<|fun w6 eE=>V (aN O O)<|aa<|aF O (fun h9=> ?_) (fun h9=> ?_)
 .refine an<|ai<|aA<|SR<|V (aR bS O O aal (eE.blk (i:=1) O))<|aE Wy<|aE Tl<|aH O eE (bC _ _ _ _) (bz jr O O O)<|fun EL df=>aa<|bW O (fun To=> ?_) (fun To=> ?_)
  .refine au<|aE aeG<|aE Wy<|tR 1 1 df (cB bD O O (sz:=1) (vs:=[I _]) O O az az O O)<|fun b16 QT gT=> ?_
   (try simp only[lj]at gT)
   refine gf O gT (i:=1) O (gT.dS (i:=0) (n:=1) (sz:=1) O O az) O O bD O O (size:=1) (bytes:=8) O O O az gX (by have:= @PM r i k;rw[<-hl]at this;omega) (by have:= @PM r i k;rw[<-hl]at this;simp only[maxLen];omega)<|fun v17 K9 iD=> ?_
   refine V (run_assign bA) ?_
   refine aa<|au<|aE Wy<|V (ax O O J)<|aI rfl<|aa<| ?_
   refine⟨(k+1,l++[k],v17),aW,Uc.u4.u4.u4.u4,(Hp.conv (iD.sub (sQ sR)) aJ),rfl,(aK I aL),J,J,?_⟩
   (rw[hl];exact adx k0 aQ)
  refine an<|au<|aE Wy<|V (ax O O J)<|aI rfl<|aa<| ?_
  refine⟨(k+1,l,v5),aW,Uc.u4.u4.u1.u1.u1,(Hp.conv df aL),aeG,(aK I aL),J,J,?_⟩
  (rw[hl];exact agR k0 aQ)
 refine a8 (id:=0) rfl<|SR<|aE aeG<|aH O eE (fO _ _ _ (eE.sl (i:=0) O)) (ay Ch O)<|fun Z7 fJ=>aU rfl<|aa<|aj<|oU O ?_ fJ
 (rw[hl];exact ady J)
theorem mO(r:Rl)(s:BitVec 64)(w:World):Calls Tryz.prog 120 #[.agg (dU r),U s] w (Pure (.tuple #[I (eX r s).1,B (eX r s).2]) w):=by
 have hp:=dA r
 refine eH func120 rfl rfl fun hH=>SR<|gN hH (v:= .agg _) rfl<|fun b3 w1 bp=>va (v:=I 0) rfl<|va (v:=B false) rfl<|aa<|ai<|SR<|va (v:=I 0) rfl<|aa<|aA<|bt (G:=Int) (fun k s' w'=>(Fr (rg 4 15 []) _ s')/\(Hp w w' _)/\(s' 6=I k)/\(0<=k)/\(k<=pts r)/\(∀j:Int,0<=j->j<k->bQ r j≠s)) (fun k=>(pts r-k).toNat) (0) ⟨Fr.refl _ _,bp,rfl,J,J,fun j x y=>absurd y J⟩<| ?_
 rintro k sg4 w4 ⟨C1,iw,FP,h0,hk,hg⟩
 obtain⟨AE,Ko⟩:=C1.w2 1 2
 refine ai<|SR<|aE FP<|V (aR bS O O Ko (iw.blk (i:=0) O))<|aH O iw (bN _ _) (ay nN O)<|fun w5 jQ=>V (aN O O)<|aa<|aF O (fun h8=> ?_) (fun h8=> ?_)
 .refine an<|ai<|aA<|SR<|V (aR bS O O Ko (jQ.blk (i:=0) O))<|aE FP<|aH O jQ (nR _ _ _) (aM call117 O O)<|fun w9 cg=>aE AE<|V (iU O O)<|aa<|aF O (fun h12=> ?_) (fun h12=> ?_)
  .refine SR<|aE FP<|aI rfl<|va (v:=B true) rfl<|aa<|aj<| ?_
   refine kA O (aK I ?_) (aK B ?_) cg.below<;>rw[DJ h0 aQ aQ hg]
  refine an<|au<|aE FP<|V (ax O O J)<|aI rfl<|aa<| ?_
  refine⟨k+1,aW,C1.u4.u4.u4,cg,(aK I aL),J,J,?_⟩
  exact fun j x y=>if e:j=k then e▸‹¬bQ r k=s›else hg j x J
 refine a8 (id:=0) rfl<|SR<|va (v:=I 0) rfl<|va (v:=B false) rfl<|aa<|aj<| ?_
 refine kA O (aK I ?_) (aK B ?_) jQ.below<;>rw[Gn aQ hg]
theorem AP(r:Rl)(a b:BitVec 64)(w:World):Calls Tryz.prog 83 #[.agg (dU r),U a,U b] w (Pure (U (ju r a b)) w):=by
 refine eH func83 rfl rfl fun hH=>SR<|gN hH (v:= .agg _) rfl<|fun b3 w1 bp=>va (v:=U 0#64) rfl<|aa<|SR<|V (aR bS O O O (bp.blk (i:=0) O))<|mU rfl<|aH O bp (mO _ _ _) (aM call120 O O)<|fun w4 bY=> ?_
 refine V (run_move bA) ?_
 refine V (bg O (v:=I _) O)<|V (bg O (v:=B _) O)<|aI rfl<|aB rfl<|aa<|SR<|V (aR bS O O O (bY.blk (i:=0) O))<|mU rfl<|aH O bY (mO _ _ _) (aM call120 O O)<|fun w7 eW=> ?_
 refine V (run_move bA) ?_
 refine V (bg O (v:=I _) O)<|V (bg O (v:=B _) O)<|aI rfl<|aB rfl<|aa<|SR<|V (aR bS O O O (eW.blk (i:=0) O))<|mI rfl<|mI rfl<|aH O eW (sj _ _ _ _) (bz call121 O O O)<|fun EL df=> ?_
 refine V (run_move bA) ?_
 refine V (bg O (v:=I _) O)<|V (bg O (v:=B _) O)<|aI rfl<|aB rfl<|aa<|ai<|SR<|mB rfl<|mB rfl<|ez 33 O (fun To=> ?_) (fun To=> ?_)
 .refine mB rfl<|mB rfl<|mB rfl<|ez 36 O (fun Ga=> ?_) (fun Ga=> ?_)
  .refine mB rfl<|mB rfl<|aa<|bW O (fun Ec=> ?_) (fun Ec=> ?_)
   .refine SR<|V (aR bS O O O (df.blk (i:=0) O))<|mI rfl<|aH O df (nR _ _ _) (aM call117 O O)<|fun Ja er=>aU rfl<|aa<|aj<|oU O ?_ er
    rw[Ix aQ aQ aQ]
   refine an<|SR<|mU rfl<|mU rfl<|V (iH O O)<|aU rfl<|aa<|aj<|oU O ?_ df
   rw[PL aQ]
  refine aE (v:=B false) rfl<|aa<|cL rfl<|an<|SR<|mU rfl<|mU rfl<|V (iH O O)<|aU rfl<|aa<|aj<|oU O ?_ df
  rw[Iz aQ]
 refine aE (v:=B false) rfl<|mB rfl<|cC O rfl<|aE (v:=B false) rfl<|aa<|cL rfl<|an<|SR<|mU rfl<|mU rfl<|V (iH O O)<|aU rfl<|aa<|aj<|oU O ?_ df
 rw[Iy aQ]
theorem C5(r:Rl)(t:Bool)(w:World):Calls Tryz.prog 116 #[.agg (dU r),B t] w (Pure (.tuple #[I (wK r (if t=true then bQ r else gy r)).1,B (wK r (if t=true then bQ r else gy r)).2]) w):=by
 have hp:=dA r
 refine eH func116 rfl rfl fun hH=>SR<|gN hH (v:= .agg _) rfl<|fun b4 w2 tZ=>va (v:=I 0) rfl<|va (v:=B false) rfl<|aa<|ai<|SR<|va (v:=I 0) rfl<|aa<|aA<|bt (G:=Int) (fun i s' w'=>(Fr (rg 4 38 []) _ s')/\(Hp w w' _)/\(s' 6=I i)/\(0<=i)/\(i<=pts r)/\(∀x:Int,0<=x->x<i->Ft r t x (pts r)=false)) (fun i=>(pts r-i).toNat) (0) ⟨Fr.refl _ _,tZ,rfl,J,J,fun x a b=>absurd b J⟩<| ?_
 rintro i sg5 w5 ⟨Uc,bY,Wy,i0,i1,hg⟩
 obtain⟨Tl,aal⟩:=Uc.w2 1 2
 refine ai<|SR<|aE Wy<|V (aR bS O O aal (bY.blk (i:=0) O))<|aH O bY (bN _ _) (ay nN O)<|fun w6 eE=>V (aN O O)<|aa<|aF O (fun h9=> ?_) (fun h9=> ?_)
 .refine an<|ai<|aA<|SR<|va (v:=B true) rfl<|aa<|ai<|SR<|va (v:=I 0) rfl<|aa<|aA<|bt (G:=Int) (fun k s' w'=>(Fr (7::8::(rg 15 25 [])) _ s')/\(Hp w w' _)/\(s' 7=B (Ft r t i k))/\(s' 8=I k)/\(0<=k)/\(k<=pts r)) (fun k=>(pts r-k).toNat) (0) ⟨Fr.refl _ _,eE,(aK B (by simp[Ft,upto])),rfl,J,J⟩<| ?_
  rintro k Wz EL ⟨nS,cg,WA,ze,k0,k1⟩
  obtain⟨Oe,xz,wx⟩:=nS.t3 1 Tl 2 aal 6 Wy
  refine ai<|SR<|aE ze<|V (aR bS O O xz (cg.blk (i:=0) O))<|aH O cg (bN _ _) (ay nN O)<|fun zc bX=>V (aN O O)<|aa<|aF O (fun Ec=> ?_) (fun Ec=> ?_)
  .refine an<|ai<|aA<|SR<|aE Oe<|V (bJ O)<|mB rfl<|ez 23 O (fun G9=> ?_) (fun G9=> ?_)
   .refine V (aR bS O O xz (bX.blk (i:=0) O))<|aE wx<|aE ze<|aH O bX (bC _ _ _ _) (bz jr O O O)<|fun K9 iD=>V (bJ O)<|mB rfl<|mB rfl<|ez 30 O (fun h22=> ?_) (fun h22=> ?_)
    .refine gm O O rfl<|gm O O rfl<|gm O O rfl<|gm O O rfl<|gm O O rfl<|zV<|aE (v:=B true) rfl<|aa<|ct rfl<|au<|va (v:=B false) rfl<|aa<|au<|aE ze<|V (ax O O J)<|aI rfl<|aa<| ?_
     refine⟨k+1,aW,nS.u4.u4.u4.u4.u4.u4.u1.u1.u1,iD,(aK B Fg),(aK I aL),J,J⟩
    refine aE Oe<|mB rfl<|ez 32 O (fun FQ=> ?_) (fun FQ=> ?_)
    .refine V (aR bS O O xz (iD.blk (i:=0) O))<|aE ze<|aE wx<|aH O iD (bC _ _ _ _) (bz jr O O O)<|fun w24 oc=>V (bJ O)<|mB rfl<|mB rfl<|aa<|bW O (fun Wv=> ?_) (fun Wv=> ?_)
     .refine au<|va (v:=B false) rfl<|aa<|au<|aE ze<|V (ax O O J)<|aI rfl<|aa<| ?_
      refine⟨k+1,aW,nS.u4.u4.u4.u4.u4.u4.u1.u1.u1,oc,(aK B Fg),(aK I aL),J,J⟩
     refine an<|au<|aE ze<|V (ax O O J)<|aI rfl<|aa<| ?_
     refine⟨k+1,aW,nS.u4.u4.u4.u4.u4.u4.u1.u1,oc,(jX WA (aK B Fg)),(aK I aL),J,J⟩
    refine aE (v:=B false) rfl<|mB rfl<|aa<|cL rfl<|an<|au<|aE ze<|V (ax O O J)<|aI rfl<|aa<| ?_
    refine⟨k+1,aW,nS.u4.u4.u4.u4.u4.u4.u1.u1,iD,(jX WA (aK B Fg)),(aK I aL),J,J⟩
   refine aE (v:=B false) rfl<|mB rfl<|cC O rfl<|aE Oe<|mB rfl<|ez 32 O (fun rK=> ?_) (fun rK=> ?_)
   .refine V (aR bS O O xz (bX.blk (i:=0) O))<|aE ze<|aE wx<|aH O bX (bC _ _ _ _) (bz jr O O O)<|fun w30 gU=>V (bJ O)<|mB rfl<|mB rfl<|aa<|bW O (fun h34=> ?_) (fun h34=> ?_)
    .refine au<|va (v:=B false) rfl<|aa<|au<|aE ze<|V (ax O O J)<|aI rfl<|aa<| ?_
     refine⟨k+1,aW,nS.u4.u4.u4.u4.u4.u4.u1.u1.u1,gU,(aK B Fg),(aK I aL),J,J⟩
    refine an<|au<|aE ze<|V (ax O O J)<|aI rfl<|aa<| ?_
    refine⟨k+1,aW,nS.u4.u4.u4.u4.u4.u4.u1.u1,gU,(jX WA (aK B Fg)),(aK I aL),J,J⟩
   refine aE (v:=B false) rfl<|mB rfl<|aa<|cL rfl<|an<|au<|aE ze<|V (ax O O J)<|aI rfl<|aa<| ?_
   refine⟨k+1,aW,nS.u4.u4.u4.u4.u4.u4.u1.u1,bX,(jX WA (aK B Fg)),(aK I aL),J,J⟩
  refine a8 (id:=2) rfl<|SR<|aE WA<|aa<|bW O (fun BK=> ?_) (fun BK=> ?_)
  .refine SR<|aE wx<|aI rfl<|va (v:=B true) rfl<|aa<|aj<| ?_
   (refine kA O (aK I ?_) (aK B ?_) bX.below<;>rw[agS i0 aQ (show k=pts r by omega) aQ hg])
  refine an<|au<|aE wx<|V (ax O O J)<|aI rfl<|aa<| ?_
  refine⟨i+1,aW,(((Uc.u4.u1.u1).t nS O)).u4.u4,bX,(aK I aL),J,J,?_⟩
  exact fun x a b=>if e:x=i then e▸(by rw[<-show k=pts r by omega];assumption)else hg x a J
 refine a8 (id:=0) rfl<|SR<|va (v:=I 0) rfl<|va (v:=B false) rfl<|aa<|aj<| ?_
 (refine kA O (aK I ?_) (aK B ?_) eE.below<;>rw[agT aQ hg])
theorem AR(r:Rl)(w:World):Calls Tryz.prog 137 #[.agg (dU r)] w (Pure (B (cV r)) w):=by
 refine eH func137 rfl rfl fun hH=>SR<|gN hH (v:= .agg _) rfl<|fun b3 w1 bp=>va (v:=B false) rfl<|aa<|SR<|V (fA bS 0 O aO O)<|lV bx bp 0 O O (fx _)<|V (dF O O)<|mB rfl<|bK 6 O (fun h5=> ?_) (fun h5=> ?_)
 .refine V (fA bS 0 O aO O)<|lV bx bp 0 O O (fx _)<|V (wY O O)<|mB rfl<|mB rfl<|bK 11 O (fun h7=> ?_) (fun h7=> ?_)
  .refine V (aR bS O O O (bp.blk (i:=0) O))<|aH O bp (Bq _ _) (ay call166 O)<|fun w8 iE=>mB rfl<|aB rfl<|aa<|aj<|oB O ?_ iE
   rw[cV,gW (show 1<=r.n/\r.n<=8 by omega),mF]
  refine aE (v:=B false) rfl<|aB rfl<|aa<|aj<|oB O ?_ bp
  rw[cV,gZ (show¬(1<=r.n/\r.n<=8)by omega),qW]
 refine aE (v:=B false) rfl<|mB rfl<|cC O rfl<|aE (v:=B false) rfl<|aB rfl<|aa<|aj<|oB O ?_ bp
 rw[cV,gZ (show¬(1<=r.n/\r.n<=8)by omega),qW]
theorem aam(r:Rl)(s:BitVec 64)(o:Int)(ho:0<=o/\o<8)(w:World):Calls Tryz.prog 241 #[.agg (dU r),U s,I o] w (Pure (U (JC r s o)) w):=by
 refine eH func241 rfl rfl fun hH=>SR<|gN hH (v:= .agg _) rfl<|fun b3 w1 bp=>va (v:=U 0#64) rfl<|aa<|SR<|mU rfl<|mI rfl<|V (zT O O J)<|V (iZ bx xR O)<|V (yF O O)<|V (fA bS 0 O aO O)<|lV bx bp 0 O O (fx _)<|aH O bp (oW _ _) (ay HV O)<|fun w4 bY=>V (kx O O)<|aU rfl<|aa<|aj<|oU O ?_ bY
 rfl
theorem WB(r:Rl)(f:FuncId)(cs:List Value)(ff:Int->BitVec 64)(hn:1<=r.n/\r.n<=8)(w:World)(hf:∀args w,(callFunc f args).run Tryz.prog w= .ok (.enter f args) w)(go:∀i w',Below w.heap.size w w'->0<=i->i<r.n->Calls Tryz.prog f (I i::cs).toArray w' (Pure (U (ff i)) w')):Calls Tryz.prog 239 #[.agg (dU r),.func (.func f) #[] cs.toArray] w (Pure (U (xe ff r.n)) w):=by
 refine eH func239 rfl rfl fun hH=>SR<|gN hH (v:= .agg _) rfl<|fun b3 w1 bp=>va (v:=U 0#64) rfl<|aa<|SR<|va (v:=U 0#64) rfl<|aa<|ai<|SR<|V (fA bS 0 O aO O)<|lV bx bp 0 O O (fx _)<|aE (v:=I 0) rfl<|aa<|aA<|bt (G:=Int) (fun k s' w'=>(Fr (5::6::(rg 9 13 [])) _ s')/\(Hp w w' _)/\(s' 5=U (xe ff k))/\(s' 9=I k)/\(0<=k)/\(k<=r.n)) (fun k=>(r.n-k).toNat) (0) ⟨Fr.refl _ _,bp,rfl,rfl,J,J⟩<| ?_
 rintro k sg4 w4 ⟨C1,iw,G3,aeP,h0,hk⟩
 have AE:=C1.vv 1 (a:= .func _ _ _) rfl rfl
 have Jb:=C1.w1 8
 refine SR<|V (aN aeP Jb)<|aa<|ai<|aF O (fun h6=> ?_) (fun h6=> ?_)
 .refine an<|ai<|aA<|SR<|aE aeP<|aI rfl<|aa<|au<|aE G3<|aE AE<|mI rfl<|aH O iw (go _ _ iw.below J J) (lC hf (cs:=cs) O O)<|fun w7 eW=>mI rfl<|V (zT O O J)<|V (iZ bx xR O)<|V (Ge O O)<|V (iH O O)<|aU rfl<|aa<|au<|V (ax aeP O J)<|mI rfl<|aa<| ?_
  refine⟨k+1,aW,C1.u4.u4.u4.u1.u1.u1,eW,(aK U (IB h0)),(aK I aL),J,J⟩
 refine a8 (id:=0) rfl<|SR<|aE G3<|aU rfl<|aa<|aj<|oU O ?_ iw
 (rw[show k=r.n by omega])
theorem Of(b c:Nat)(r:Rl)(s:BitVec 64)(o:Int)(hr:cV r=true)(w:World)(hb:w.heap[b]?=some (.cells (dU r) 86 (0,0)))(hc:w.heap[c]?=some (.cells #[U s] 35 (0,0)))(hT:o6 w):Calls Tryz.prog 240 #[I o,.pointer (some ⟨b,0,none⟩),.pointer (some ⟨c,0,none⟩)] w (Pure (U (IC r s o)) w):=by
 have hl:=Gh (upR r (kW [o]))
 refine eH func240 rfl rfl fun hH=>SR<|va (v:=U 0#64) rfl<|aa<|SR<|va (v:=U 0#64) rfl<|aa<|ai<|ai<|ed aP hH<|fun w1 bp=>have kV:=bp;AT 0 O kV (fun w hS=>aR bS O O O (hS.ext hb))<|AQ 1 O kV (mV (I _) O)<|AQ 7 O kV (mV (I 0) O)<|A1 2<|cH O aD O bp sR (f:=fun b=> .slice (some ⟨b,0,none⟩) 1 1) (cB bD O O (sz:=1) (vs:=[I _]) O O az az O O)<|fun b5 w3 iw=> ?_
 (try simp only[lj]at iw)
 have jQ:=iw.sF 1 1 O az
 refine A1 3<|cw O aD O jQ (sQ sR) (y9 _ [o] _ (jQ.sl (i:=0) O)) (ay call203 O)<|fun w7 eW=>A1 4<|cw O aD O eW (sQ sR) (C4 _ _ _ (hT.hp eW)) (aM call209 O O)<|fun w9 cg=>A1 5<|L3 O aD O cg (sQ sR) (C3 _ _ (hT.hp cg)) (ay call233 O)<|fun v13 I8 cP=>A1 6<|cf O aD O cP (sQ (sQ sR)) (aC (cP.sl (i:=0) O) O bD O)<|AD<|aA<|bt (G:=Int) (fun k s' w'=>(Fr (5::(7::(rg 15 13 []))) _ s')/\(Hp w w' _)/\(s' 5=U (wZ (fun p=>Ev r (JC r s p)) ((gL (upR r (kW [o]))).take k.toNat)))/\(s' 15=I k)/\(0<=k)/\(k<=(gL (upR r (kW [o]))).length)) (fun k=>((gL (upR r (kW [o]))).length-k).toNat) (0) ⟨Fr.refl _ _,cP,(aK U (by simp[wZ])),rfl,J,J⟩<| ?_
 rintro k aai Ja ⟨nQ,cI,zf,aan,h0,hk⟩
 obtain⟨xx,Ww,ato,atp⟩:=nQ.w4 1 2 13 14
 refine SR<|V (aN aan atp)<|aa<|ai<|aF O (fun qn=> ?_) (fun qn=> ?_)
 .refine an<|ai<|aA<|SR<|V (ah (cI.sl (i:=0) O) bD aO ato aan J)<|V (aG bx O O ((cI.sl (i:=0) O).cell _ _ (eS J)))<|aI rfl<|aa<|ed aP cI<|fun Tq cT=>have rL:=cT;AQ 0 O rL (run_move zf)<|AT 1 O rL (fun w hS=>aR bS O O xx (hS.ext hb))<|AT 2 O rL (fun w hS=>aR bS O O xx (hS.ext hb))<|AT 3 O rL (fun w hS=>aG dM O Ww (hS.eP hc (v:=U _) O))<|AQ 4 O rL (mV (I _) O)<|A1 5<|cw O aD O cT sR (aam _ _ _ (agY hr (YL h0 aQ)) _) (bz call241 O O O)<|fun NU cF=>A1 6<|cw O aD O cF sR (yo _ _ _) (aM call211 O O)<|fun w23 gY=>AQ 7 O gY (iH O O)<|AQ 8 O gY (aV (U _) O)<|AD<|au<|V (ax aan O J)<|mI rfl<|aa<| ?_
  refine⟨k+1,aW,nQ.u4.u4.u4.u1.u1.u1,gY,(aK U (Md (f:=fun p=>Ev r (JC r s p)) h0 aQ)),(aK I aL),J,J⟩
 refine a8 (id:=0) rfl<|SR<|aE zf<|aU rfl<|aa<|aj<|oU O ?_ cI
 (rw[Ma aQ];rfl)
theorem Ts(r:Rl)(s:BitVec 64)(w:World)(hT:o6 w):Calls Tryz.prog 213 #[.agg (dU r),U s] w (Pure (U (gh r s)) w):=by
 refine eH func213 rfl rfl fun hH=>SR<|gN hH (v:= .agg _) rfl<|fun b3 w1 bp=>gN bp (v:=U _) rfl<|fun b6 w4 bY=>va (v:=U 0#64) rfl<|aa<|ai<|SR<|V (aR bS O O O (bY.blk (i:=1) O))<|aH O bY (AR _ _) (ay call137 O)<|fun w7 eW=>V (bJ O)<|aa<|bW O (fun h11=> ?_) (fun h11=> ?_)
 .refine SR<|va (v:=U 0#64) rfl<|aa<|aj<|oU O ?_ eW
  exact(UL (nt aQ)).symm
 refine an<|SR<|V (aR bS O O O (eW.blk (i:=1) O))<| ?_
 refine V (s6 bA bA) ?_
 refine aH O eW (WB r 240 [.pointer (some ⟨b3,0,none⟩),.pointer (some ⟨b6,0,none⟩)] (IC r s) (eY (nf ‹(!cV r)=false›)).1 _ call240 (fun i w h _ _=>Of b3 b6 r s i (nf ‹(!cV r)=false›) w (keep h (eW.blk (i:=1) O)) (keep h (eW.blk (i:=0) O)) ((hT.hp eW).below h))) (aM call239 O O)<|fun zc bX=>aU rfl<|aa<|aj<|oU O ?_ bX
 exact adB (nf aQ)
theorem Po(r:Rl)(s:BitVec 64)(w:World)(hT:o6 w):Calls Tryz.prog 180 #[.agg (dU r),U s] w (Pure (B (p6 r s)) w):=by
 refine eH func180 rfl rfl fun hH=>SR<|gN hH (v:= .agg _) rfl<|fun b3 w1 bp=>va (v:=B false) rfl<|aa<|SR<|V (aR bS O O O (bp.blk (i:=0) O))<|aH O bp (AR _ _) (ay call137 O)<|fun w4 bY=>mB rfl<|ez 7 O (fun h7=> ?_) (fun h7=> ?_)
 .refine V (aR bS O O O (bY.blk (i:=0) O))<|mU rfl<|aH O bY (Ts _ _ _ (hT.hp bY)) (aM call213 O O)<|fun w8 iE=>mU rfl<|V (iU O O)<|mB rfl<|aB rfl<|aa<|aj<|oB O ?_ iE
  (rw[p6,‹cV r=true›];rfl)
 refine aE (v:=B false) rfl<|aB rfl<|aa<|aj<|oB O ?_ bY
 (rw[p6,‹cV r=false›];rfl)
theorem mP(r:Rl)(w:World):Calls Tryz.prog 146 #[.agg (dU r)] w (Pure (B (cV r)) w):=by
 refine eH func146 rfl rfl fun hH=>SR<|gN hH (v:= .agg _) rfl<|fun b3 w1 bp=>va (v:=B false) rfl<|aa<|SR<|V (fA bS 0 O aO O)<|lV bx bp 0 O O (fx _)<|V (dF O O)<|mB rfl<|bK 6 O (fun h5=> ?_) (fun h5=> ?_)
 .refine V (fA bS 0 O aO O)<|lV bx bp 0 O O (fx _)<|V (wY O O)<|mB rfl<|mB rfl<|bK 11 O (fun h7=> ?_) (fun h7=> ?_)
  .refine V (aR bS O O O (bp.blk (i:=0) O))<|aH O bp (qH _ _) (ay call182 O)<|fun w8 iE=>mB rfl<|aB rfl<|aa<|aj<|oB O ?_ iE
   rw[cV,gW (show 1<=r.n/\r.n<=8 by omega),mF]
  refine aE (v:=B false) rfl<|aB rfl<|aa<|aj<|oB O ?_ bp
  rw[cV,gZ (show¬(1<=r.n/\r.n<=8)by omega),qW]
 refine aE (v:=B false) rfl<|mB rfl<|cC O rfl<|aE (v:=B false) rfl<|aB rfl<|aa<|aj<|oB O ?_ bp
 rw[cV,gZ (show¬(1<=r.n/\r.n<=8)by omega),qW]
theorem C6(r:Rl)(s:BitVec 64)(o x:Int)(hn:1<=r.n/\r.n<=8)(w:World):Calls Tryz.prog 216 #[.agg (dU r),U s,I o,I x] w (Pure (B (Gp r s o x)) w):=by
 refine eH func216 rfl rfl fun hH=>SR<|gN hH (v:= .agg _) rfl<|fun b3 w1 bp=>va (v:=B false) rfl<|aa<|SR<|mI rfl<|V (dF O O)<|mB rfl<|bK 11 O (fun h5=> ?_) (fun h5=> ?_)
 .refine mI rfl<|V (dF O O)<|mB rfl<|mB rfl<|bK 15 O (fun h7=> ?_) (fun h7=> ?_)
  .refine mI rfl<|V (fA bS 0 O aO O)<|lV bx bp 0 O O (fx _)<|V (aN O O)<|mB rfl<|mB rfl<|bK 21 O (fun h9=> ?_) (fun h9=> ?_)
   .refine mI rfl<|V (fA bS 0 O aO O)<|lV bx bp 0 O O (fx _)<|V (aN O O)<|mB rfl<|mB rfl<|bK 27 O (fun h11=> ?_) (fun h11=> ?_)
    .refine mU rfl<|mI rfl<|V (zT O O J)<|mI rfl<|V (ax O O J)<|aH O bp (tT _ _ _) (aM call102 O O)<|fun zc bX=>mB rfl<|aB rfl<|aa<|aj<|oB O ?_ bX
     rw[Gp,gW J,mF]
    refine aE (v:=B false) rfl<|aB rfl<|aa<|aj<|oB O ?_ bp
    rw[Gp,gZ J,qW]
   refine aE (v:=B false) rfl<|mB rfl<|cC O rfl<|aE (v:=B false) rfl<|aB rfl<|aa<|aj<|oB O ?_ bp
   rw[Gp,gZ J,qW]
  refine aE (v:=B false) rfl<|mB rfl<|cC O rfl<|aE (v:=B false) rfl<|mB rfl<|cC O rfl<|aE (v:=B false) rfl<|aB rfl<|aa<|aj<|oB O ?_ bp
  rw[Gp,gZ J,qW]
 refine aE (v:=B false) rfl<|mB rfl<|cC O rfl<|aE (v:=B false) rfl<|mB rfl<|cC O rfl<|aE (v:=B false) rfl<|mB rfl<|cC O rfl<|aE (v:=B false) rfl<|aB rfl<|aa<|aj<|oB O ?_ bp
 rw[Gp,gZ J,qW]
theorem yu(r:Rl)(s:BitVec 64)(o x:Int)(hn:1<=r.n/\r.n<=8)(w:World):Calls Tryz.prog 186 #[.agg (dU r),U s,I o,I x] w (Pure (B (Sq r s o x)) w):=by
 refine eH func186 rfl rfl fun hH=>SR<|gN hH (v:= .agg _) rfl<|fun b3 w1 bp=>va (v:=B false) rfl<|aa<|ai<|SR<|va (v:=I 0) rfl<|aa<|aA<|bt (G:=Int) (fun p s' w'=>(Fr (rg 8 32 []) _ s')/\(Hp w w' _)/\(s' 9=I p)/\(0<=p)/\(p<=r.n)/\(∀q y:Int,0<=q->q<p->¬(Gp r s q y=true/\bL r o q=true/\bL r x y=true))) (fun p=>(r.n-p).toNat) (0) ⟨Fr.refl _ _,bp,rfl,J,J,fun q y a b=>absurd b J⟩<| ?_
 rintro p sg4 w4 ⟨C1,iw,aeP,p0,p1,hf⟩
 obtain⟨AE,Ko,za,Wo⟩:=C1.w4 1 2 3 4
 refine ai<|SR<|aE aeP<|V (fA bS 0 O aO Wo)<|lV bx iw 0 O O (fx _)<|V (aN O O)<|aa<|aF O (fun h6=> ?_) (fun h6=> ?_)
 .refine an<|ai<|aA<|SR<|va (v:=I 0) rfl<|aa<|aA<|bt (G:=Int) (fun y s' w'=>(Fr (8::(10::(rg 17 23 []))) _ s')/\(Hp w w' _)/\(s' 10=I y)/\(0<=y)/\(y<=r.n)/\(∀z:Int,0<=z->z<y->¬(Gp r s p z=true/\bL r o p=true/\bL r x z=true))) (fun y=>(r.n-y).toNat) (0) ⟨Fr.refl _ _,iw,rfl,J,J,fun z a b=>absurd b J⟩<| ?_
  rintro y sg7 w7 ⟨Ed,eE,QW,y0,y1,hg⟩
  obtain⟨aeQ,ajY,WC,Je,Pp⟩:=Ed.t5 1 AE 2 Ko 3 za 4 Wo 9 aeP
  refine ai<|SR<|aE QW<|V (fA bS 0 O aO Je)<|lV bx eE 0 O O (fx _)<|V (aN O O)<|aa<|aF O (fun h9=> ?_) (fun h9=> ?_)
  .refine an<|ai<|aA<|SR<|V (aR bS O O Je (eE.blk (i:=0) O))<|aE aeQ<|aE Pp<|aE QW<|aH O eE (C6 _ _ _ _ lA _) (jH call216 O O O O)<|fun EL df=>mB rfl<|ez 28 O (fun To=> ?_) (fun To=> ?_)
   .refine V (aR bS O O Je (df.blk (i:=0) O))<|aE ajY<|aE Pp<|aH O df (bC _ _ _ _) (bz jr O O O)<|fun QT gT=>mB rfl<|mB rfl<|ez 34 O (fun G9=> ?_) (fun G9=> ?_)
    .refine V (aR bS O O Je (gT.blk (i:=0) O))<|aE WC<|aE QW<|aH O gT (bC _ _ _ _) (bz jr O O O)<|fun K9 iD=>mB rfl<|aa<|bW O (fun Ob=> ?_) (fun Ob=> ?_)
     .refine SR<|va (v:=B true) rfl<|aa<|aj<|oB O ?_ iD
      exact(KR.2 ⟨p,y,aQ,aQ,aQ⟩).symm
     refine an<|au<|aE QW<|V (ax O O J)<|aI rfl<|aa<| ?_
     refine⟨y+1,aW,Ed.u4.u4.u4.u4.u4.u4,iD,(aK I aL),J,J,?_⟩
     exact fun z a b h=>if e:z=y then(by subst e;simp_all)else hg z a J h
    refine aE (v:=B false) rfl<|aa<|cL rfl<|an<|au<|aE QW<|V (ax O O J)<|aI rfl<|aa<| ?_
    refine⟨y+1,aW,Ed.u4.u4.u4.u4.u4.u4,gT,(aK I aL),J,J,?_⟩
    exact fun z a b h=>if e:z=y then(by subst e;simp_all)else hg z a J h
   refine aE (v:=B false) rfl<|mB rfl<|cC O rfl<|aE (v:=B false) rfl<|aa<|cL rfl<|an<|au<|aE QW<|V (ax O O J)<|aI rfl<|aa<| ?_
   refine⟨y+1,aW,Ed.u4.u4.u4.u4.u4.u4,df,(aK I aL),J,J,?_⟩
   exact fun z a b h=>if e:z=y then(by subst e;simp_all)else hg z a J h
  refine a8 (id:=2) rfl<|au<|aE Pp<|V (ax O O J)<|aI rfl<|aa<| ?_
  refine⟨p+1,aW,(((C1.u4.u1).t Ed O)).u4.u1.u1.u1,eE,(aK I aL),J,J,?_⟩
  exact fun q y a b h=>if e:q=p then hg y (DK.1 h.1).1.2.1 (by have:=(DK.1 h.1).1;omega) (e▸h)else hf q y a J h
 refine a8 (id:=0) rfl<|SR<|va (v:=B false) rfl<|aa<|aj<|oB O ?_ iw
 exact(agU aQ hf).symm
theorem AS(r:Rl)(s:BitVec 64)(w:World):Calls Tryz.prog 153 #[.agg (dU r),U s] w (Pure (U (gh r s)) w):=by
 refine eH func153 rfl rfl fun hH=>SR<|gN hH (v:= .agg _) rfl<|fun b3 w1 bp=>va (v:=U 0#64) rfl<|aa<|SR<|va (v:= .slice none 0 0) rfl<|have iw:=bp.eR 3 1;aa<|ai<|SR<|V (aR bS O O O (iw.blk (i:=1) O))<|aH O iw (mP _ _) (ay call146 O)<|fun w5 jQ=>V (bJ O)<|aa<|bW O (fun h9=> ?_) (fun h9=> ?_)
 .refine SR<|va (v:=U 0#64) rfl<|aa<|aj<|oU O ?_ jQ
  exact(UL (nt aQ)).symm
 refine an<|ai<|SR<|va (v:=I 0) rfl<|aa<|aA<|have hr:cV r=true:=nf aQ;have hs:=eY hr;bt (G:=Int×(List Int)×Value) (fun⟨o,l,v5⟩ s' w'=>(Fr (rg 5 3 (rg 11 24 [])) _ s')/\(Hp w w' (.row v5 3 1 (l.length) (l.map I)::_))/\(s' 5=v5)/\(s' 6=I o)/\(0<=o)/\(o<=r.n)/\(l=Cx r s o)) (fun⟨o,l,v5⟩=>(r.n-o).toNat) ((0,[],(.slice none 0 0:Value))) ⟨Fr.refl _ _,jQ,rfl,rfl,J,J,rfl⟩<| ?_
 rintro⟨o,l,v5⟩ Wz EL ⟨nS,cg,Og,wx,o0,o1,hl⟩
 obtain⟨Oe,xz,QX⟩:=nS.w3 1 2 4
 refine ai<|SR<|aE wx<|V (fA bS 0 O aO xz)<|lV bx cg 1 O O (fx _)<|V (aN O O)<|aa<|aF O (fun h12=> ?_) (fun h12=> ?_)
 .refine an<|ai<|aA<|SR<|va (v:=I 0) rfl<|aa<|aA<|bt (G:=Int×(List Int)×Value) (fun⟨x,l2,v5⟩ s' w'=>(Fr (5::(7::(rg 17 18 []))) _ s')/\(Hp w w' (.row v5 3 1 (l2.length) (l2.map I)::_))/\(s' 5=v5)/\(s' 7=I x)/\(0<=x)/\(x<=r.n)/\(l2=Cx r s o++Fv r s o x)) (fun⟨x,l2,v5⟩=>(r.n-x).toNat) ((0,l,(v5:Value))) ⟨Fr.refl _ _,cg,Og,rfl,J,J,(by rw[hl,Fv];simp[upto])⟩<| ?_
  rintro⟨x,l2,v5⟩ aag C2 ⟨rW,bX,EP,WD,x0,x1,h2⟩
  obtain⟨G5,acu,Bt⟩:=rW.t3 1 Oe 2 xz 6 wx
  refine ai<|SR<|aE WD<|V (fA bS 0 O aO acu)<|lV bx bX 1 O O (fx _)<|V (aN O O)<|aa<|aF O (fun Ec=> ?_) (fun Ec=> ?_)
  .refine an<|ai<|aA<|SR<|V (aR bS O O acu (bX.blk (i:=1) O))<|aE G5<|aE Bt<|aE WD<|aH O bX (yu _ _ _ _ J _) (jH call186 O O O O)<|fun Ja er=>aa<|bW O (fun N3=> ?_) (fun N3=> ?_)
   .refine au<|aE EP<|aE Bt<|V (zT O O J)<|aE WD<|V (ax O O J)<|tR 1 1 er (cB bD O O (sz:=1) (vs:=[I _]) O O az az O O)<|fun b22 Z7 fJ=> ?_
    (try simp only[lj]at fJ)
    refine gf O fJ (i:=1) O (fJ.dS (i:=0) (n:=1) (sz:=1) O O az) O O bD O O (size:=1) (bytes:=8) O O O az gX (by rw[h2];have:= @Mu r s o hs.1.2 J;have:= @Mt r s o x;simp;omega) (by rw[h2];have:= @Mu r s o hs.1.2 J;have:= @Mt r s o x;simp only[maxLen];simp;omega)<|fun v23 w24 oc=> ?_
    refine V (run_assign bA) ?_
    refine aa<|au<|aE WD<|V (ax O O J)<|aI rfl<|aa<| ?_
    refine⟨(x+1,l2++[8*o+x],v23),aW,rW.u4.u4.u4.u4.u4,(Hp.conv (oc.sub (sQ sR)) aJ),rfl,(aK I aL),J,J,?_⟩
    (rw[h2];(rw[dG,agV x0 aQ]))
   refine an<|au<|aE WD<|V (ax O O J)<|aI rfl<|aa<| ?_
   refine⟨(x+1,l2,v5),aW,rW.u4.u4.u4,(Hp.conv er aL),EP,(aK I aL),J,J,?_⟩
   (rw[h2];(rw[amm x0 aQ]))
  refine a8 (id:=2) rfl<|au<|aE Bt<|V (ax O O J)<|aI rfl<|aa<| ?_
  refine⟨(o+1,l2,v5),aW,(((nS.u4.u1).t rW O)).u4.u1.u1.u1,(Hp.conv bX aL),EP,(aK I aL),J,J,?_⟩
  (rw[h2];exact UM o0 J)
 refine a8 (id:=0) rfl<|SR<|aE Og<|aH O cg (fO _ _ _ (cg.sl (i:=0) O)) (ay Ch O)<|fun Wx dK=>aU rfl<|aa<|aj<|oU O ?_ dK
 (rw[hl];exact adC hr J)
theorem C7(r:Rl)(w:World):Calls Tryz.prog 118 #[.agg (dU r)] w (Pure (U (J5 r)) w):=by
 refine eH func118 rfl rfl fun hH=>SR<|gN hH (v:= .agg _) rfl<|fun b3 w1 bp=>va (v:=U 0#64) rfl<|aa<|SR<|va (v:= .slice none 0 0) rfl<|have iw:=bp.eR 3 1;aa<|ai<|SR<|va (v:=I 0) rfl<|aa<|aA<|bt (G:=Int×(List Int)×Value) (fun⟨o,l,v3⟩ s' w'=>(Fr (rg 3 26 []) _ s')/\(Hp w w' (.row v3 3 1 (l.length) (l.map I)::_))/\(s' 3=v3)/\(s' 4=I o)/\(0<=o)/\(cV r=true->o<=r.n)/\(cV r=false->l=[])/\(cV r=true->l=UO r o)) (fun⟨o,l,v3⟩=>(9-o).toNat) ((0,[],(.slice none 0 0:Value))) ⟨Fr.refl _ _,iw,rfl,rfl,J,(fun h=>by have:=eY h;omega),fun _=>rfl,fun _=>rfl⟩<| ?_
 rintro⟨o,l,v3⟩ sg5 w5 ⟨Uc,bY,aeR,ayb,o0,o1,o2,hl⟩
 obtain⟨Tl,aal⟩:=Uc.w2 1 2
 refine ai<|SR<|V (aR bS O O Tl (bY.blk (i:=1) O))<|aH O bY (mP _ _) (ay call146 O)<|fun w6 eE=>mB rfl<|ez 8 O (fun h9=> ?_) (fun h9=> ?_)
 .refine aE ayb<|V (fA bS 0 O aO Tl)<|lV bx eE 1 O O (fx _)<|V (aN O O)<|mB rfl<|aa<|aF O (fun h11=> ?_) (fun h11=> ?_)
  .refine an<|ai<|aA<|SR<|va (v:=I 0) rfl<|aa<|aA<|have hs:=eY ‹cV r=true›;bt (G:=Int×(List Int)×Value) (fun⟨x,l2,v3⟩ s' w'=>(Fr (3::(5::(rg 16 13 []))) _ s')/\(Hp w w' (.row v3 3 1 (l2.length) (l2.map I)::_))/\(s' 3=v3)/\(s' 5=I x)/\(0<=x)/\(x<=r.n)/\(l2=UO r o++(upto x).map (8*o+·))) (fun⟨x,l2,v3⟩=>(r.n-x).toNat) ((0,l,(v3:Value))) ⟨Fr.refl _ _,eE,aeR,rfl,J,J,(by rw[hl aQ];simp[upto])⟩<| ?_
   rintro⟨x,l2,v3⟩ aab zc ⟨mj,cP,kP,mD,x0,x1,h2⟩
   obtain⟨pe,tW⟩:=mj.t2 1 Tl 4 ayb
   refine ai<|SR<|aE mD<|V (fA bS 0 O aO pe)<|lV bx cP 1 O O (fx _)<|V (aN O O)<|aa<|aF O (fun Ga=> ?_) (fun Ga=> ?_)
   .refine an<|ai<|aA<|au<|aE kP<|aE tW<|V (zT O O J)<|aE mD<|V (ax O O J)<|tR 1 1 cP (cB bD O O (sz:=1) (vs:=[I _]) O O az az O O)<|fun b17 Tm cI=> ?_
    (try simp only[lj]at cI)
    refine gf O cI (i:=1) O (cI.dS (i:=0) (n:=1) (sz:=1) O O az) O O bD O O (size:=1) (bytes:=8) O O O az gX (by rw[h2];have:= @UP r o J J;simp[m7];omega) (by rw[h2];have:= @UP r o J J;simp only[maxLen];simp[m7];omega)<|fun v18 Tq cT=> ?_
    refine V (run_assign bA) ?_
    refine aa<|au<|aE mD<|V (ax O O J)<|aI rfl<|aa<| ?_
    refine⟨(x+1,l2++[8*o+x],v18),aW,mj.u4.u4.u4.u1.u1.u1,(Hp.conv (cT.sub (sQ sR)) aJ),rfl,(aK I aL),J,J,?_⟩
    (rw[h2,dG,adE x0])
   refine a8 (id:=2) rfl<|au<|aE tW<|V (ax O O J)<|aI rfl<|aa<| ?_
   refine⟨(o+1,l2,v3),?_,(((Uc.u4.u4.u1).t mj O)).u4.u1.u1.u1,(Hp.conv cP aL),kP,(aK I aL),J,?_,?_,?_⟩
   .have:=eY ‹cV r=true›;((try dsimp only);omega)
   .exact fun h=>by omega
   .exact fun h=>by rw[‹cV r=true›]at h;cases h
   exact fun _=>by rw[h2];exact adD o0 J
  refine a8 (id:=0) rfl<|SR<|aE aeR<|aH O eE (fO _ _ _ (eE.sl (i:=0) O)) (ay Ch O)<|fun NU cF=>aU rfl<|aa<|aj<|oU O ?_ cF
  (rw[hl aQ];exact amn aQ (by have:=o1 aQ;omega))
 refine aE (v:=B false) rfl<|aa<|cL rfl<|a8 (id:=0) rfl<|SR<|aE aeR<|aH O eE (fO _ _ _ (eE.sl (i:=0) O)) (ay Ch O)<|fun w23 gY=>aU rfl<|aa<|aj<|oU O ?_ gY
 (rw[o2 aQ,arB aQ];exact Sj)
theorem EQ(c:Int)(w:World):Calls Tryz.prog 197 #[.int .u8 c] w (Pure (B (jG c)) w):=by
 refine eH func197 rfl rfl fun hH=>SR<|va (v:=B false) rfl<|aa<|SR<|aE (v:= .int _ _) rfl<|V (dF O O)<|mB rfl<|bK 5 O (fun h2=> ?_) (fun h2=> ?_)
 .refine aE (v:= .int _ _) rfl<|V (wY O O)<|mB rfl<|aB rfl<|aa<|aj<|oB O ?_ hH
  (rw[jG,gH];simp only[eD,uB,zL];omega)
 refine aE (v:=B false) rfl<|aB rfl<|aa<|aj<|oB O ?_ hH
 (rw[jG,gH];simp only[eD,uB,zL];omega)
theorem qI(c:Int)(w:World):Calls Tryz.prog 113 #[.int .u8 c] w (Pure (B (jG c)) w):=by
 refine eH func113 rfl rfl fun hH=>SR<|va (v:=B false) rfl<|aa<|SR<|aE (v:= .int _ _) rfl<|V (dF O O)<|mB rfl<|bK 5 O (fun h2=> ?_) (fun h2=> ?_)
 .refine aE (v:= .int _ _) rfl<|V (wY O O)<|mB rfl<|aB rfl<|aa<|aj<|oB O ?_ hH
  (rw[jG,gH];simp only[eD,uB,zL];omega)
 refine aE (v:=B false) rfl<|aB rfl<|aa<|aj<|oB O ?_ hH
 (rw[jG,gH];simp only[eD,uB,zL];omega)
theorem WE(c:Int)(w:World):Calls Tryz.prog 198 #[.int .u8 c] w (Pure (B (uD c)) w):=by
 refine eH func198 rfl rfl fun hH=>SR<|va (v:=B false) rfl<|aa<|SR<|aE (v:= .int _ _) rfl<|aH O hH (EQ _ _) (ay call197 O)<|fun w1 bp=>mB rfl<|ez 5 O (fun h4=> ?_) (fun h4=> ?_)
 .refine gm O O rfl<|gm O O rfl<|zV<|aE (v:=B true) rfl<|mB rfl<|cC O rfl<|aE (v:=B true) rfl<|aB rfl<|aa<|aj<|oB O ?_ bp
  exact(Cy aQ).symm
 refine aE (v:= .int _ _) rfl<|V (dF O O)<|mB rfl<|bK 8 O (fun h6=> ?_) (fun h6=> ?_)
 .refine aE (v:= .int _ _) rfl<|V (wY O O)<|mB rfl<|mB rfl<|mB rfl<|bK 13 O (fun h8=> ?_) (fun h8=> ?_)
  .refine aE (v:=B true) rfl<|aB rfl<|aa<|aj<|oB O ?_ bp
   (have hlc:=‹jG c=false›;rw[jG,wW]at hlc;rw[uD,gH];simp only[eD,uB,zL,true_iff];omega)
  refine aE (v:= .int _ _) rfl<|V (bV O O)<|mB rfl<|aB rfl<|aa<|aj<|oB O ?_ bp
  (have hlc:=‹jG c=false›;rw[jG,wW]at hlc;rw[uD,gH];simp only[eD,uB,zL,true_iff];omega)
 refine aE (v:=B false) rfl<|mB rfl<|mB rfl<|cC O rfl<|aE (v:= .int _ _) rfl<|V (bV O O)<|mB rfl<|aB rfl<|aa<|aj<|oB O ?_ bp
 (have hlc:=‹jG c=false›;rw[jG,wW]at hlc;rw[uD,gH];simp only[eD,uB,zL,true_iff];omega)
theorem Tt(s:Tx)(w:World):Calls Tryz.prog 164 #[S s] w (Pure (B (iS s)) w):=by
 have htx:= @arE s
 refine eH func164 rfl rfl fun hH=>SR<|va (v:=B false) rfl<|aa<|ai<|SR<|aE (v:= .string _) rfl<|V (MA O O)<|mB rfl<|bK 6 O (fun h2=> ?_) (fun h2=> ?_)
 .refine aE (v:=B true) rfl<|mB rfl<|cC O rfl<|aE (v:=B true) rfl<|aa<|ct rfl<|SR<|va (v:=B false) rfl<|aa<|aj<|oB O ?_ hH
  exact(DL (by have:=htx.1 ‹s=qg›;omega)).symm
 refine aE (v:= .string _) rfl<|V (lB O iy O)<|V (dN O O)<|mB rfl<|mB rfl<|bK 11 O (fun h4=> ?_) (fun h4=> ?_)
 .refine aE (v:=B true) rfl<|aa<|ct rfl<|SR<|va (v:=B false) rfl<|aa<|aj<|oB O ?_ hH
  exact(DL J).symm
 refine aE (v:= .string _) rfl<|V (tA iy O O (by have:=mt htx.2 ‹¬s=qg›;omega))<|aH O hH (EQ _ _) (ay call197 O)<|fun w5 jQ=>V (bJ O)<|mB rfl<|aa<|bW O (fun h9=> ?_) (fun h9=> ?_)
 .refine SR<|va (v:=B false) rfl<|aa<|aj<|oB O ?_ jQ
  exact(PR (nt aQ)).symm
 refine an<|ai<|SR<|aE (v:= .string _) rfl<|V (lB O iy O)<|aE (v:=I 0) rfl<|aa<|aA<|have hsz:1<=s.size/\s.size<=16:=⟨by have:=mt htx.2 ‹¬s=qg›;omega,J⟩;bt (G:=Int) (fun k s' w'=>(Fr (2::3::(rg 19 9 [])) _ s')/\(Hp w w' _)/\(s' 19=I k)/\(0<=k)/\(k<=s.size)/\(∀j:Int,0<=j->j<k->uD (sC s j)=true)) (fun k=>(s.size-k).toNat) (0) ⟨Fr.refl _ _,jQ,rfl,J,J,fun j a b=>absurd b J⟩<| ?_
 rintro k Wz EL ⟨nS,cg,aao,h0,hk,hf⟩
 obtain⟨ER,atr⟩:=nS.w2 0 18
 refine SR<|V (aN aao atr)<|aa<|ai<|aF O (fun h12=> ?_) (fun h12=> ?_)
 .refine an<|ai<|aA<|SR<|aE aao<|aI rfl<|aa<|SR<|aE ER<|mI rfl<|V (tA iy O O J)<|aH O cg (WE _ _) (ay call198 O)<|fun C2 cG=>V (bJ O)<|aa<|bW O (fun G9=> ?_) (fun G9=> ?_)
  .refine SR<|va (v:=B false) rfl<|aa<|aj<|oB O ?_ cG
   exact(IE h0 aQ (nt aQ)).symm
  refine an<|au<|V (ax aao O J)<|mI rfl<|aa<| ?_
  refine⟨k+1,aW,nS.u4.u4.u1.u1,cG,(aK I aL),J,J,?_⟩
  exact fun j a b=>if e:j=k then e▸nf ‹_›else hf j a J
 refine a8 (id:=0) rfl<|SR<|va (v:=B true) rfl<|aa<|aj<|oB O ?_ cg
 exact(PS hsz (nf aQ) aQ hf).symm
theorem iK(s:Tx)(w:World):Calls Tryz.prog 74 #[S s] w (Pure (B (iS s)) w):=by
 refine eH func74 rfl rfl fun hH=>SR<|va (v:=B false) rfl<|aa<|ai<|SR<|aE (v:= .string _) rfl<|V (lB O iy O)<|V (aN O O)<|mB rfl<|bK 7 O (fun h2=> ?_) (fun h2=> ?_)
 .refine aE (v:=B true) rfl<|mB rfl<|cC O rfl<|aE (v:=B true) rfl<|aa<|ct rfl<|SR<|va (v:=B false) rfl<|aa<|aj<|oB O ?_ hH
  exact(DL J).symm
 refine aE (v:= .string _) rfl<|V (lB O iy O)<|V (dN O O)<|mB rfl<|mB rfl<|bK 12 O (fun h4=> ?_) (fun h4=> ?_)
 .refine aE (v:=B true) rfl<|aa<|ct rfl<|SR<|va (v:=B false) rfl<|aa<|aj<|oB O ?_ hH
  exact(DL J).symm
 refine aE (v:= .string _) rfl<|V (tA iy O O J)<|aH O hH (qI _ _) (ay call113 O)<|fun w5 jQ=>V (bJ O)<|mB rfl<|aa<|bW O (fun h9=> ?_) (fun h9=> ?_)
 .refine SR<|va (v:=B false) rfl<|aa<|aj<|oB O ?_ jQ
  exact(PR (nt aQ)).symm
 refine an<|ai<|SR<|va (v:=I 1) rfl<|aa<|aA<|have hsz:1<=s.size/\s.size<=16:=J;have hlt:jG (sC s 0)=true:=nf aQ;bt (G:=Int) (fun k s' w'=>(Fr (2::3::(rg 18 29 [])) _ s')/\(Hp w w' _)/\(s' 3=I k)/\(1<=k)/\(k<=s.size)/\(∀j:Int,0<=j->j<k->uD (sC s j)=true)) (fun k=>(s.size-k).toNat) (1) ⟨Fr.refl _ _,jQ,rfl,J,J,fun j a b=>by rw[show j=0 by omega];exact Cy hlt⟩<| ?_
 rintro k Wz EL ⟨nS,cg,pX,h0,hk,hf⟩
 have ER:=nS.w1 0
 refine ai<|SR<|aE pX<|aE ER<|V (lB O iy O)<|V (aN O O)<|aa<|aF O (fun h12=> ?_) (fun h12=> ?_)
 .refine an<|ai<|aA<|SR<|aE ER<|aE pX<|V (tA iy O O J)<|aH O cg (qI _ _) (ay call113 O)<|fun C2 cG=>V (bJ O)<|mB rfl<|ez 29 O (fun G9=> ?_) (fun G9=> ?_)
  .refine aE ER<|aE pX<|V (tA iy O O J)<|V (aN O O)<|mB rfl<|bK 34 O (fun N3=> ?_) (fun N3=> ?_)
   .refine aE (v:=B true) rfl<|mB rfl<|mB rfl<|cC O rfl<|aE ER<|aE pX<|V (tA iy O O J)<|V (jZ O O)<|mB rfl<|aa<|aF O (fun Ob=> ?_) (fun Ob=> ?_)
    .refine SR<|va (v:=B false) rfl<|aa<|aj<|oB O ?_ cG
     exact(IE (i:=k) J aQ afG).symm
    refine an<|au<|aE pX<|V (ax O O J)<|aI rfl<|aa<| ?_
    refine⟨k+1,aW,nS.u4.u4.u4.u4.u4.u4.u4.u1.u1,cG,(aK I aL),J,J,?_⟩
    exact fun j a b=>if e:j=k then e▸(by rw[uD,eD];omega)else hf j a J
   refine aE ER<|aE pX<|V (tA iy O O J)<|V (dN O O)<|mB rfl<|mB rfl<|mB rfl<|bK 41 O (fun FQ=> ?_) (fun FQ=> ?_)
   .refine aE ER<|aE pX<|V (tA iy O O J)<|V (jZ O O)<|mB rfl<|aa<|aF O (fun Jc=> ?_) (fun Jc=> ?_)
    .refine SR<|va (v:=B false) rfl<|aa<|aj<|oB O ?_ cG
     exact(IE (i:=k) J aQ afG).symm
    refine an<|au<|aE pX<|V (ax O O J)<|aI rfl<|aa<| ?_
    refine⟨k+1,aW,nS.u4.u4.u4.u4.u4.u4.u4.u1.u1,cG,(aK I aL),J,J,?_⟩
    exact fun j a b=>if e:j=k then e▸(by rw[uD,eD];omega)else hf j a J
   refine aE (v:=B false) rfl<|aa<|cL rfl<|an<|au<|aE pX<|V (ax O O J)<|aI rfl<|aa<| ?_
   refine⟨k+1,aW,nS.u4.u4.u4.u4.u4.u4.u4.u1.u1,cG,(aK I aL),J,J,?_⟩
   exact fun j a b=>if e:j=k then e▸(by rw[uD,eD];omega)else hf j a J
  refine gm O O rfl<|gm O O rfl<|gm O O rfl<|gm O O rfl<|zV<|aE (v:=B false) rfl<|mB rfl<|cC O rfl<|aE (v:=B false) rfl<|aa<|cL rfl<|an<|au<|aE pX<|V (ax O O J)<|aI rfl<|aa<| ?_
  refine⟨k+1,aW,nS.u4.u4.u4.u4.u4.u4.u4.u1.u1,cG,(aK I aL),J,J,?_⟩
  exact fun j a b=>if e:j=k then e▸(by exact Cy (nf aQ))else hf j a J
 refine a8 (id:=0) rfl<|SR<|va (v:=B true) rfl<|aa<|aj<|oB O ?_ cg
 exact(PS hsz hlt aQ hf).symm
theorem He(n:Int)(f:FuncId)(cs:List Value)(P:Int->Bool)(hn:0<=n/\n<=9223372036854775807)(w:World)(hf:∀args w,(callFunc f args).run Tryz.prog w= .ok (.enter f args) w)(go:∀i w',Below w.heap.size w w'->0<=i->i<n->Calls Tryz.prog f (I i::cs).toArray w' (Pure (B (P i)) w')):Calls Tryz.prog 194 #[I 0,I n,.func (.func f) #[] cs.toArray] w (Pure (I (tw P n)) w):=by
 refine eH func194 rfl rfl fun hH=>SR<|va (v:=I 0) rfl<|aa<|ai<|SR<|mI rfl<|aI rfl<|aa<|aA<|bt (G:=Int) (fun k s' w'=>(Fr (6::7::(rg 9 9 [])) _ s')/\(Hp w w' _)/\(s' 7=I k)/\(0<=k)/\(k<=n)/\(∀j:Int,0<=j->j<k->P j=false)) (fun k=>(n-k).toNat) (0) ⟨Fr.refl _ _,hH,rfl,J,J,fun j a b=>absurd b J⟩<| ?_
 rintro k sg1 w1 ⟨uJ,jf,Wn,h0,hk,hg⟩
 have AA:=uJ.w1 1
 have ajO:=uJ.vv 2 (a:= .func _ _ _) rfl rfl
 refine ai<|SR<|aE Wn<|aE AA<|V (aN O O)<|aa<|aF O (fun h3=> ?_) (fun h3=> ?_)
 .refine an<|ai<|aA<|SR<|aE ajO<|aE Wn<|aH O jf (go _ _ jf.below J J) (lC hf (cs:=cs) O O)<|fun w4 bY=>aa<|bW O (fun h7=> ?_) (fun h7=> ?_)
  .refine SR<|aE Wn<|aI rfl<|aa<|aj<|oI O ?_ bY
   exact(vI h0 aQ aQ hg).symm
  refine an<|au<|aE Wn<|V (ax O O J)<|aI rfl<|aa<| ?_
  refine⟨k+1,aW,uJ.u4.u4.u1,bY,(aK I aL),J,J,?_⟩
  exact fun j a b=>if e:j=k then e▸‹P k=false›else hg j a J
 refine a8 (id:=0) rfl<|SR<|va (v:=I (-1)) rfl<|aa<|aj<|oI O ?_ jf
 exact(Gq fun j a b=>hg j a J).symm
theorem Pq(b c:Nat)(v:Value)(l:List Tx)(s:Tx)(i:Int)(hi:0<=i/\i<l.length)(w:World)(hs:Sl w v 1 l.length (JD l))(hb:w.heap[b]?=some (.cells #[v] 83 (0,0)))(hc:w.heap[c]?=some (.cells #[S s] 9 (0,0))):Calls Tryz.prog 230 #[I i,.pointer (some ⟨b,0,none⟩),.pointer (some ⟨c,0,none⟩)] w (Pure (B (decide (l.getD i.toNat qg=s))) w):=by
 have hm:=hs.small
 unfold maxLen at hm
 refine eH func230 rfl rfl fun hH=>SR<|va (v:=B false) rfl<|aa<|ai<|ed aP hH<|fun w1 bp=>have kV:=bp;AT 0 O kV (fun w hS=>aG dX O O (hS.eP hb O))<|AQ 1 O kV (mV (I _) O)<|AT 2 O kV (fun w hS=>ah (hs.hp hS) dX kr O O J)<|AT 3 O kV (fun w hS=>aG iy O O ((hs.hp hS).cell _ _ (Cz J)))<|AT 4 O kV (fun w hS=>aG iy O O (hS.eP hc (v:= .string _) O))<|AQ 5 O kV (MA O O)<|AQ 6 O kV (aV (B _) O)<|AD<|aj<|oB O ?_ bp
 rfl
theorem WG(v:Value)(l:List Tx)(s:Tx)(w:World)(hs:Sl w v 1 l.length (JD l)):Calls Tryz.prog 196 #[v,S s] w (Pure (I (ry l s)) w):=by
 have hm:=hs.small
 unfold maxLen at hm
 refine eH func196 rfl rfl fun hH=>SR<| ?_
 refine lK hH (KD bA) ?_
 intro b3 w1 bp
 rw[(iq hs).2]at bp
 refine gN bp (v:= .string _) rfl<|fun b6 w4 bY=>va (v:=I 0) rfl<|aa<|SR<|lV dX bY 1 O O rfl<|V (aC (hs.hp bY) O dX O)<| ?_
 refine V (s6 bA bA) ?_
 refine aH O bY (He _ 230 [.pointer (some ⟨b3,0,none⟩),.pointer (some ⟨b6,0,none⟩)] (fun i=>decide (l.getD i.toNat qg=s)) J _ call230 (fun i w h h0 h1=>Pq b3 b6 v l s i ⟨h0,h1⟩ w ((hs.hp bY).below h) (keep h (bY.blk (i:=1) O)) (keep h (bY.blk (i:=0) O)))) (bz call194 (show _=I 0 from O) O O)<|fun w7 eW=>aI rfl<|aa<|aj<|oI O ?_ eW
 rfl
theorem Oh(b:Nat)(v:Value)(l:List Tx)(i:Int)(hi:0<=i/\i<l.length)(w:World)(hs:Sl w v 1 l.length (JD l))(hb:w.heap[b]?=some (.cells #[v] 83 (0,0))):Calls Tryz.prog 195 #[I i,.pointer (some ⟨b,0,none⟩)] w (Pure (B (decide (ry l (l.getD i.toNat qg)<i))) w):=by
 have hm:=hs.small
 unfold maxLen at hm
 refine eH func195 rfl rfl fun hH=>SR<|va (v:=B false) rfl<|aa<|ai<|ed aP hH<|fun w1 bp=>have kV:=bp;AT 0 O kV (fun w hS=>aG dX O O (hS.eP hb O))<|AQ 1 O kV (mV (I _) O)<|AT 3 O kV (fun w hS=>aG dX O O (hS.eP hb O))<|AQ 4 O kV (mV (I _) O)<|AT 5 O kV (fun w hS=>ah (hs.hp hS) dX kr O O J)<|AT 6 O kV (fun w hS=>aG iy O O ((hs.hp hS).cell _ _ (Cz J)))<|A1 2<|cf O aD O bp sR (p5 (hs.hp bp) dX kr O O J)<|A1 7<|cw O aD O bp sR (WG _ _ _ _ ((hs.hp bp).aDw J)) (aM call196 O O)<|fun w5 jQ=>AQ 8 O jQ (dF O O)<|AQ 9 O jQ (aV (B _) O)<|AD<|aj<|oB O ?_ jQ
 exact ag0 hi.1 hi.2
theorem Tu(v:Value)(l:List Tx)(w:World)(hs:Sl w v 1 l.length (JD l)):Calls Tryz.prog 163 #[v] w (Pure (I (yL l)) w):=by
 have hm:=hs.small
 unfold maxLen at hm
 refine eH func163 rfl rfl fun hH=>SR<| ?_
 refine lK hH (KD bA) ?_
 intro b3 w1 bp
 rw[(iq hs).2]at bp
 refine va (v:=I 0) rfl<|aa<|SR<|lV dX bp 0 O O rfl<|V (aC (hs.hp bp) O dX O)<| ?_
 refine V (Cv bA) ?_
 refine aH O bp (He _ 195 [.pointer (some ⟨b3,0,none⟩)] (fun i=>decide (ry l (l.getD i.toNat qg)<i)) J _ call195 (fun i w h h0 h1=>Oh b3 v l i ⟨h0,h1⟩ w ((hs.hp bp).below h) (keep h (bp.blk (i:=0) O)))) (bz call194 (show _=I 0 from O) O O)<|fun w4 bY=>aI rfl<|aa<|aj<|oI O ?_ bY
 rfl
theorem BN(v:Value)(l:List Tx)(s:Tx)(w:World)(hs:Sl w v 1 l.length (JD l)):Calls Tryz.prog 114 #[v,S s] w (Pure (I (ry l s)) w):=by
 have hm:=hs.small
 unfold maxLen at hm
 refine eH func114 rfl rfl fun hH=>SR<|va (v:=I 0) rfl<|aa<|ai<|SR<|va (v:=I 0) rfl<|aa<|aA<|bt (G:=Int) (fun k s' w'=>(Fr (rg 4 15 []) _ s')/\(Hp w w' _)/\(s' 5=I k)/\(0<=k)/\(k<=l.length)/\(∀j:Int,0<=j->j<k->decide (l.getD j.toNat qg=s)=false)) (fun k=>(l.length-k).toNat) (0) ⟨Fr.refl _ _,hH,rfl,J,J,fun j a b=>absurd b J⟩<| ?_
 rintro k sg1 w1 ⟨uJ,jf,NR,h0,hk,hg⟩
 obtain⟨my,AA⟩:=uJ.w2 0 1
 refine ai<|SR<|aE NR<|aE my<|V (aC (hs.hp jf) O dX O)<|V (aN O O)<|aa<|aF O (fun h3=> ?_) (fun h3=> ?_)
 .refine an<|ai<|aA<|SR<|aE my<|aE NR<|V (ah (hs.hp jf) dX kr O O J)<|V (aG iy O O ((hs.hp jf).cell _ _ (Cz J)))<|aE AA<|V (MA O O)<|aa<|aF O (fun h5=> ?_) (fun h5=> ?_)
  .refine SR<|aE NR<|aI rfl<|aa<|aj<|oI O ?_ jf
   exact(vI h0 aQ (gW aQ) hg).symm
  refine an<|au<|aE NR<|V (ax O O J)<|aI rfl<|aa<| ?_
  refine⟨k+1,aW,uJ.u4.u4.u4.u1,jf,(aK I aL),J,J,?_⟩
  exact fun j a b=>if e:j=k then e▸gZ ‹_›else hg j a J
 refine a8 (id:=0) rfl<|SR<|va (v:=I (-1)) rfl<|aa<|aj<|oI O ?_ jf
 exact(Gq fun j a b=>hg j a J).symm
theorem j8(v:Value)(l:List Tx)(w:World)(hs:Sl w v 1 l.length (JD l)):Calls Tryz.prog 75 #[v] w (Pure (I (yL l)) w):=by
 have hm:=hs.small
 unfold maxLen at hm
 refine eH func75 rfl rfl fun hH=>SR<|va (v:=I 0) rfl<|aa<|ai<|SR<|va (v:=I 0) rfl<|aa<|aA<|bt (G:=Int) (fun k s' w'=>(Fr (rg 2 17 []) _ s')/\(Hp w w' _)/\(s' 3=I k)/\(0<=k)/\(k<=l.length)/\(∀j:Int,0<=j->j<k->decide (ry l (l.getD j.toNat qg)<j)=false)) (fun k=>(l.length-k).toNat) (0) ⟨Fr.refl _ _,hH,rfl,J,J,fun j a b=>absurd b J⟩<| ?_
 rintro k sg1 w1 ⟨uJ,jf,sX,h0,hk,hg⟩
 have my:=uJ.w1 0
 refine ai<|SR<|aE sX<|aE my<|V (aC (hs.hp jf) O dX O)<|V (aN O O)<|aa<|aF O (fun h3=> ?_) (fun h3=> ?_)
 .refine an<|ai<|aA<|SR<|aE my<|aE my<|aE sX<|V (ah (hs.hp jf) dX kr O O J)<|V (aG iy O O ((hs.hp jf).cell _ _ (Cz J)))<|aH O jf (BN _ _ _ _ (hs.hp jf)) (aM call114 O O)<|fun w4 bY=>aE sX<|V (aN O O)<|aa<|aF O (fun h7=> ?_) (fun h7=> ?_)
  .refine SR<|aE sX<|aI rfl<|aa<|aj<|oI O ?_ bY
   exact(vI h0 aQ (gW aQ) hg).symm
  refine an<|au<|aE sX<|V (ax O O J)<|aI rfl<|aa<| ?_
  refine⟨k+1,aW,uJ.u4.u4.u4.u1.u1.u1,bY,(aK I aL),J,J,?_⟩
  exact fun j a b=>if e:j=k then e▸gZ ‹_›else hg j a J
 refine a8 (id:=0) rfl<|SR<|va (v:=I (-1)) rfl<|aa<|aj<|oI O ?_ jf
 exact(Gq fun j a b=>hg j a J).symm
theorem Pr(v:Value)(l:List Tx)(w:World)(hs:Sl w v 1 l.length (JD l)):Calls Tryz.prog 135 #[v] w (Pure (B (ir l)) w):=by
 have hm:=hs.small
 unfold maxLen at hm
 refine eH func135 rfl rfl fun hH=>SR<|va (v:=B false) rfl<|aa<|ai<|SR<| ?_
 refine V (run_move bA) ?_
 refine V (aC (hs.hp hH) O dX O)<|V (aN O O)<|mB rfl<|bK 8 O (fun h2=> ?_) (fun h2=> ?_)
 .refine aE (v:=B true) rfl<|mB rfl<|cC O rfl<|aE (v:=B true) rfl<|aa<|ct rfl<|SR<|va (v:=B false) rfl<|aa<|aj<|oB O ?_ hH
  exact(DM J).symm
 refine V (run_move bA) ?_
 refine V (aC (hs.hp hH) O dX O)<|V (dN O O)<|mB rfl<|mB rfl<|bK 13 O (fun h4=> ?_) (fun h4=> ?_)
 .refine aE (v:=B true) rfl<|aa<|ct rfl<|SR<|va (v:=B false) rfl<|aa<|aj<|oB O ?_ hH
  exact(DM J).symm
 refine V (run_move bA) ?_
 refine aH O hH (Tu _ _ _ (hs.hp hH)) (ay call163 O)<|fun w5 jQ=>V (dF O O)<|mB rfl<|aa<|aF O (fun h8=> ?_) (fun h8=> ?_)
 .refine SR<|va (v:=B false) rfl<|aa<|aj<|oB O ?_ jQ
  exact(PV J).symm
 refine an<|ai<|SR<| ?_
 refine V (run_move bA) ?_
 refine V (aC (hs.hp jQ) O dX O)<|aE (v:=I 0) rfl<|aa<|aA<|have hn1:1<=l.length/\l.length<=64:=J;have Qj:yL l<0:=J;bt (G:=Int) (fun k s' w'=>(Fr (2::(4::(rg 20 8 []))) _ s')/\(Hp w w' _)/\(s' 20=I k)/\(0<=k)/\(k<=l.length)/\(∀j:Int,0<=j->j<k->iS (l.getD j.toNat qg)=true)) (fun k=>(l.length-k).toNat) (0) ⟨Fr.refl _ _,jQ,rfl,J,J,fun j a b=>absurd b J⟩<| ?_
 rintro k sg9 w9 ⟨fr9,iE,ajZ,h0,hk,hg⟩
 obtain⟨ayd,aye⟩:=fr9.w2 18 19
 refine SR<|V (aN ajZ aye)<|aa<|ai<|aF O (fun h11=> ?_) (fun h11=> ?_)
 .refine an<|ai<|aA<|SR<|V (ah (hs.hp iE) dX kr ayd ajZ J)<|V (aG iy O O ((hs.hp iE).cell _ _ (Cz J)))<|va (v:= .string _) rfl<|aa<|SR<|aE (v:= .string _) rfl<|aH O iE (Tt _ _) (ay call164 O)<|fun zc bX=>V (bJ O)<|aa<|bW O (fun ym=> ?_) (fun ym=> ?_)
  .refine SR<|va (v:=B false) rfl<|aa<|aj<|oB O ?_ bX
   exact(PW h0 aQ (nt aQ)).symm
  refine an<|au<|V (ax ajZ O J)<|mI rfl<|aa<| ?_
  refine⟨k+1,aW,fr9.u4.u4.u1,bX,(aK I aL),J,J,?_⟩
  exact fun j a b=>if e:j=k then e▸nf ‹_›else hg j a J
 refine a8 (id:=0) rfl<|SR<|va (v:=B true) rfl<|aa<|aj<|oB O ?_ iE
 exact(qy hn1 Qj aQ hg).symm
theorem C8(f:qz)(w:World)(hf:wL (Kw w) f)(hT:o6 w):Calls Tryz.prog 93 #[.agg (uP f)] w (Pure (B (cZ f.fc)) w):=by
 have hm:=hf.names.sl.small
 unfold maxLen at hm
 refine eH func93 rfl rfl fun hH=>SR<|gN hH (v:= .agg _) rfl<|fun b3 w1 bp=>va (v:=B false) rfl<|aa<|ai<|SR<|V (fA dx 1 O pn O)<|lV dX bp 0 O O rfl<|aH O bp (Pr _ _ _ (hf.names.sl.hp bp)) (ay call135 O)<|fun w4 bY=>V (bJ O)<|aa<|bW O (fun h8=> ?_) (fun h8=> ?_)
 .refine SR<|va (v:=B false) rfl<|aa<|aj<|oB O ?_ bY
  exact(MJ (f:=f.fc) (nt aQ)).symm
 refine an<|ai<|SR<|V (fA dx 0 O aO O)<|lI bx bY 0 O O rfl<|aa<|aA<|ai<|SR<|V (bV O O)<|aB rfl<|aa<|aF O (fun h10=> ?_) (fun h10=> ?_)
 .refine an<|ct (bT h10)<|SR<|V (fA dx 2 O iX O)<|V (iV bS O O O (bY.blk (i:=0) O))<|V (dI (vs:=[]) O NO)<|aH O bY (EK _ _ _) (aM call136 O O)<|fun I8 cP=>aB rfl<|aa<|aj<|oB O ?_ cP
  exact(abm (f:=f.fc) (nf ‹(!ir f.names)=false›) (.inl aQ)).symm
 refine au<|V (bV O O)<|aB rfl<|aa<|aF O (fun ym=> ?_) (fun ym=> ?_)
 .refine SR<|V (fA dx 2 O iX O)<|V (iV bS O O O (bY.blk (i:=0) O))<|V (dI (vs:=[]) O NO)<|aH O bY (EK _ _ _) (aM call136 O O)<|fun Tp dP=>aB rfl<|aa<|aj<|oB O ?_ dP
  exact(abm (f:=f.fc) (nf ‹(!ir f.names)=false›) (.inr aQ)).symm
 refine SR<|V (bV O O)<|aB rfl<|aa<|aF O (fun h22=> ?_) (fun h22=> ?_)
 .refine SR<|V (fA dx 2 O iX O)<|V (fA bS 0 O aO O)<|lI bx bY 0 O O rfl<|V (fA dx 1 O pn O)<|lV dX bY 0 O O rfl<|V (aC (hf.names.sl.hp bY) O dX O)<|V (bV O O)<|mB rfl<|bK 25 O (fun xu=> ?_) (fun xu=> ?_)
  .refine V (fA dx 2 O iX O)<|V (iV bS O O O (bY.blk (i:=0) O))<|aH O bY (AR _ _) (ay call137 O)<|fun w25 jg=>mB rfl<|aB rfl<|aa<|aj<|oB O ?_ jg
   exact(ahg (f:=f.fc) (nf ‹(!ir f.names)=false›) aQ aQ).symm
  refine aE (v:=B false) rfl<|aB rfl<|aa<|aj<|oB O ?_ bY
  exact(ahe (f:=f.fc) aQ aQ).symm
 refine SR<|V (bV O O)<|aB rfl<|aa<|aF O (fun rK=> ?_) (fun rK=> ?_)
 .refine SR<|V (fA dx 2 O iX O)<|V (fA bS 0 O aO O)<|lI bx bY 0 O O rfl<|V (fA dx 1 O pn O)<|lV dX bY 0 O O rfl<|V (aC (hf.names.sl.hp bY) O dX O)<|V (bV O O)<|mB rfl<|bK 39 O (fun h31=> ?_) (fun h31=> ?_)
  .refine V (fA dx 2 O iX O)<|V (iV bS O O O (bY.blk (i:=0) O))<|aH O bY (Kn _ _ (hT.hp bY)) (ay call138 O)<|fun w32 ko=>mB rfl<|aB rfl<|aa<|aj<|oB O ?_ ko
   exact(ahh (f:=f.fc) (nf ‹(!ir f.names)=false›) aQ aQ).symm
  refine aE (v:=B false) rfl<|aB rfl<|aa<|aj<|oB O ?_ bY
  exact(ahf (f:=f.fc) aQ aQ).symm
 refine an<|SR<|va (v:=B false) rfl<|aa<|aj<|oB O ?_ bY
 exact(ape (f:=f.fc) aQ aQ aQ aQ).symm
end
section
open Go Go.RowKit Go.Proofs.YtlhjdflgjbkpmaaGreatDoor.E Go.Proofs.YtlhjdflgjbkpmaaGreatDoor.M
set_option maxRecDepth 100000
open Go.Proofs.Tryz
variable{fr:List bu}
theorem yw(s:kR)(w:World)(hs:k8 (Kw w) s)(hT:o6 w):Calls Tryz.prog 50 #[.agg (qL s)] w (Pure (B (mA s.sh)) w):=by
 have hsl:=pw s
 have hm:=hs.aZ.sl.small
 unfold maxLen at hm
 refine eH func50 rfl rfl fun hH=>SR<|gN hH (v:= .agg _) rfl<|fun b3 w1 bp=>va (v:=B false) rfl<|aa<|SR<|V (fA dw 1 O jF O)<|lV dm bp 0 O O rfl<|V (aC (hs.aZ.sl.hp bp) O dm O)<|aI rfl<|aa<|ai<|SR<|mI rfl<|V (aN O O)<|mB rfl<|bK 11 O (fun h5=> ?_) (fun h5=> ?_)
 .refine aE (v:=B true) rfl<|mB rfl<|cC O rfl<|gm O O rfl<|gm O O rfl<|zV<|aE (v:=B true) rfl<|aa<|ct rfl<|SR<|va (v:=B false) rfl<|aa<|aj<|oB O ?_ bp
  exact(KT J).symm
 refine mI rfl<|V (dN O O)<|mB rfl<|mB rfl<|bK 15 O (fun h7=> ?_) (fun h7=> ?_)
 .refine gm O O rfl<|gm O O rfl<|zV<|aE (v:=B true) rfl<|aa<|ct rfl<|SR<|va (v:=B false) rfl<|aa<|aj<|oB O ?_ bp
  exact(KT J).symm
 refine V (fA dw 0 O oq O)<|V (aG qZ O O (bp.cell (i:=0) O (v:=B _) O))<|V (bJ O)<|mB rfl<|ez 19 O (fun h10=> ?_) (fun h10=> ?_)
 .refine mI rfl<|V (jZ O O)<|mB rfl<|mB rfl<|aa<|aF O (fun h12=> ?_) (fun h12=> ?_)
  .refine SR<|va (v:=B false) rfl<|aa<|aj<|oB O ?_ bp
   exact(abi (by exact nt aQ) J).symm
  refine an<|ai<|SR<|V (fA dw 1 O jF O)<|lV dm bp 0 O O rfl<|V (aC (hs.aZ.sl.hp bp) O dm O)<|aE (v:=I 0) rfl<|aa<|aA<|have hc2:s.sh.tuple=true\/s.sh.aZ.length=1:=(by exact .inr J);have Y6:1<=s.aZ.length/\s.aZ.length<=8:=J;bt (G:=Int) (fun k s' w'=>(Fr (2::(5::(rg 27 8 []))) _ s')/\(Hp w w' _)/\(s' 27=I k)/\(0<=k)/\(k<=s.aZ.length)/\(∀j:Int,0<=j->j<k->cZ (s.aZ.getD j.toNat iB).fc=true)) (fun k=>(s.aZ.length-k).toNat) (0) ⟨Fr.refl _ _,bp,rfl,J,J,fun j a b=>absurd b J⟩<| ?_
  rintro k aag C2 ⟨rW,bX,aap,h0,hk,hg⟩
  obtain⟨N9,atu⟩:=rW.w2 25 26
  refine SR<|V (aN aap atu)<|aa<|ai<|aF O (fun Ec=> ?_) (fun Ec=> ?_)
  .refine an<|ai<|aA<|SR<|V (ah (hs.aZ.sl.hp bX) dm qd N9 aap J)<|V (dZ (dv:=iB) fB (hs.aZ.sl.hp bX) dx O O O J)<|lK bX (aS tS)<|fun b18 Ja er=>bk er (i:=0) O (sJ (hs.at J J) O O O (er.blk (i:=0) O))<|fun Tq cT=>aa<|SR<|V (yN dx O O O (cT.blk (i:=0) O))<|aH O cT (C8 _ _ ((hs.at J J).mono cT.kw) (hT.hp cT)) (ay call93 O)<|fun NU cF=>V (bJ O)<|aa<|bW O (fun Jc=> ?_) (fun Jc=> ?_)
   .refine SR<|va (v:=B false) rfl<|aa<|aj<|oB O ?_ cF
    exact(KU (k:=k) h0 J H6).symm
   refine an<|au<|V (ax aap O J)<|mI rfl<|aa<| ?_
   refine⟨k+1,aW,rW.u4.u4.u1,(cF.sub (sQ sR)),(aK I aL),J,J,?_⟩
   exact fun j a b=>if e:j=k then e▸nf ‹_›else hg j a J
  refine a8 (id:=0) rfl<|SR<|va (v:=B true) rfl<|aa<|aj<|oB O ?_ bX
  exact(KV (k:=k) J hc2 J fun j a b=>by rw[iF];exact hg j a b).symm
 refine aE (v:=B false) rfl<|mB rfl<|aa<|cL rfl<|an<|ai<|SR<|V (fA dw 1 O jF O)<|lV dm bp 0 O O rfl<|V (aC (hs.aZ.sl.hp bp) O dm O)<|aE (v:=I 0) rfl<|aa<|aA<|have hc2:s.sh.tuple=true\/s.sh.aZ.length=1:=(by exact .inl (nf ‹(!s.tuple)=false›));have Y6:1<=s.aZ.length/\s.aZ.length<=8:=J;bt (G:=Int) (fun k s' w'=>(Fr (2::(5::(rg 27 8 []))) _ s')/\(Hp w w' _)/\(s' 27=I k)/\(0<=k)/\(k<=s.aZ.length)/\(∀j:Int,0<=j->j<k->cZ (s.aZ.getD j.toNat iB).fc=true)) (fun k=>(s.aZ.length-k).toNat) (0) ⟨Fr.refl _ _,bp,rfl,J,J,fun j a b=>absurd b J⟩<| ?_
 rintro k aEW Wx ⟨aj0,jg,aaq,h0,hk,hg⟩
 obtain⟨atv,atw⟩:=aj0.w2 25 26
 refine SR<|V (aN aaq atw)<|aa<|ai<|aF O (fun Wv=> ?_) (fun Wv=> ?_)
 .refine an<|ai<|aA<|SR<|V (ah (hs.aZ.sl.hp jg) dm qd atv aaq J)<|V (dZ (dv:=iB) fB (hs.aZ.sl.hp jg) dx O O O J)<|lK jg (aS tS)<|fun b31 w29 iW=>bk iW (i:=0) O (sJ (hs.at J J) O O O (iW.blk (i:=0) O))<|fun w32 ko=>aa<|SR<|V (yN dx O O O (ko.blk (i:=0) O))<|aH O ko (C8 _ _ ((hs.at J J).mono ko.kw) (hT.hp ko)) (ay call93 O)<|fun w34 uW=>V (bJ O)<|aa<|bW O (fun h38=> ?_) (fun h38=> ?_)
  .refine SR<|va (v:=B false) rfl<|aa<|aj<|oB O ?_ uW
   exact(KU (k:=k) h0 J H6).symm
  refine an<|au<|V (ax aaq O J)<|mI rfl<|aa<| ?_
  refine⟨k+1,aW,aj0.u4.u4.u1,(uW.sub (sQ sR)),(aK I aL),J,J,?_⟩
  exact fun j a b=>if e:j=k then e▸nf ‹_›else hg j a J
 refine a8 (id:=0) rfl<|SR<|va (v:=B true) rfl<|aa<|aj<|oB O ?_ jg
 exact(KV (k:=k) J hc2 J fun j a b=>by rw[iF];exact hg j a b).symm
theorem Tv(f:qz)(s:BitVec 64)(w:World)(hf:wL (Kw w) f)(hT:o6 w):Calls Tryz.prog 145 #[.agg (uP f),U s] w (Pure (B (kC f.fc s)) w):=by
 have hm:=hf.names.sl.small
 unfold maxLen at hm
 refine eH func145 rfl rfl fun hH=>SR<|gN hH (v:= .agg _) rfl<|fun b3 w1 bp=>va (v:=B false) rfl<|aa<|ai<|SR<|V (fA dx 0 O aO O)<|lI bx bp 0 O O rfl<|aa<|aA<|SR<|V (bV O O)<|aB rfl<|aa<|aF O (fun h5=> ?_) (fun h5=> ?_)
 .refine SR<|V (fA dx 1 O pn O)<|lV dX bp 0 O O rfl<|V (aC (hf.names.sl.hp bp) O dX O)<|mU rfl<|aH O bp (Tn _ _ _) (aM call178 O O)<|fun w6 eE=>aB rfl<|aa<|aj<|oB O ?_ eE
  exact(PY (f:=f.fc) aQ s).symm
 refine SR<|V (bV O O)<|aB rfl<|aa<|aF O (fun h10=> ?_) (fun h10=> ?_)
 .refine SR<|mU rfl<|V (fA dx 1 O pn O)<|lV dX bp 0 O O rfl<|V (aC (hf.names.sl.hp bp) O dX O)<|aH O bp (oW _ _) (ay HV O)<|fun I8 cP=>aH O cP (FO _ _ _) (aM call140 O O)<|fun C2 cG=>aB rfl<|aa<|aj<|oB O ?_ cG
  exact(PZ (f:=f.fc) aQ s).symm
 refine SR<|V (bV O O)<|aB rfl<|aa<|aF O (fun G9=> ?_) (fun G9=> ?_)
 .refine SR<|V (fA dx 2 O iX O)<|V (iV bS O O O (bp.blk (i:=0) O))<|mU rfl<|aH O bp (Po _ _ _ (hT.hp bp)) (aM call180 O O)<|fun K9 iD=>aB rfl<|aa<|aj<|oB O ?_ iD
  exact(P0 (f:=f.fc) aQ s).symm
 refine an<|SR<|V (fA dx 2 O iX O)<|V (iV bS O O O (bp.blk (i:=0) O))<|mU rfl<|aH O bp (yq _ _ _ (hT.hp bp)) (aM call181 O O)<|fun NU cF=> ?_
 refine V (run_move bA) ?_
 refine V (bg O (v:=I _) O)<|V (bg O (v:=B _) O)<|aI rfl<|aB rfl<|aa<|SR<|mB rfl<|aB rfl<|aa<|aj<|oB O ?_ cF
 exact(apf (f:=f.fc) aQ aQ aQ s).symm
theorem AV(s:kR)(e:El)(w:World)(hs:k8 (Kw w) s)(hT:o6 w):Calls Tryz.prog 105 #[.agg (qL s),.agg (iM e)] w (Pure (B (cJ s.sh e)) w):=by
 have hsl:=pw s
 have hm:=hs.aZ.sl.small
 unfold maxLen at hm
 refine eH func105 rfl rfl fun hH=>SR<|gN hH (v:= .agg _) rfl<|fun b3 w1 bp=>gN bp (v:= .agg _) rfl<|fun b6 w4 bY=>va (v:=B false) rfl<|aa<|ai<|SR<|V (cA (cs:=[B _,_]) dw O O O (bj (bY.blk (i:=1) O)))<|aH O bY (yw _ _ (hs.mono bY.kw) (hT.hp bY)) (ay call50 O)<|fun w7 eW=>V (bJ O)<|aa<|bW O (fun h11=> ?_) (fun h11=> ?_)
 .refine SR<|va (v:=B false) rfl<|aa<|aj<|oB O ?_ eW
  exact(UQ (nt aQ)).symm
 refine an<|ai<|SR<|V (cN bI O O O (eW.blk (i:=0) O))<|aE (v:=I 0) rfl<|aa<|aA<|have hr:mA s.sh=true:=nf aQ;bt (G:=Int) (fun k s' w'=>(Fr (rg 4 3 (rg 11 20 [])) _ s')/\(Hp w w' _)/\(s' 11=I k)/\(0<=k)/\(k<=8)/\(Ez s.sh e k)) (fun k=>(8-k).toNat) (0) ⟨Fr.refl _ _,eW,rfl,J,J,Ez.none _ _⟩<| ?_
 rintro k aab zc ⟨mj,cP,Oi,h0,hk,hf⟩
 obtain⟨zg,aty⟩:=mj.w2 2 10
 refine SR<|V (aN Oi O)<|aa<|ai<|aF O (fun Ga=> ?_) (fun Ga=> ?_)
 .refine an<|ai<|aA<|SR<|aE Oi<|V (LY bI isAgg35 cQ aty Oi J (arI _ J))<|aI rfl<|aU rfl<|aa<|ai<|SR<|mI rfl<|V (fA dw 1 O jF zg)<|lV dm cP 1 O O rfl<|V (aC (hs.aZ.sl.hp cP) O dm O)<|V (dF O O)<|aa<|aF O (fun ym=> ?_) (fun ym=> ?_)
  .refine ai<|SR<|mU rfl<|V (vx O (b:=0#64) O)<|aa<|aF O (fun qn=> ?_) (fun qn=> ?_)
   .refine SR<|va (v:=B false) rfl<|aa<|aj<|oB O ?_ cP
    exact(MB h0 aQ J aQ).symm
   refine an<|a8 (id:=1) rfl<|au<|V (ax Oi O J)<|mI rfl<|aa<| ?_
   refine⟨k+1,aW,mj.u4.u4.u4.u1.u1,cP,(aK I aL),J,J,?_⟩
   exact hf.next (fun h=>by exfalso;omega) (fun h=>by exact HJ aQ)
  refine an<|SR<|V (fA dw 1 O jF zg)<|lV dm cP 1 O O rfl<|mI rfl<|V (ah (hs.aZ.sl.hp cP) dm qd O O J)<|V (dZ (dv:=iB) fB (hs.aZ.sl.hp cP) dx O O O J)<|mU rfl<|aH O cP (Tv _ _ _ ((hs.at J J).mono cP.kw) (hT.hp cP)) (aM call145 O O)<|fun Tq cT=>V (bJ O)<|aa<|bW O (fun FQ=> ?_) (fun FQ=> ?_)
  .refine SR<|va (v:=B false) rfl<|aa<|aj<|oB O ?_ cT
   exact(UR h0 aQ J H6).symm
  refine an<|au<|V (ax Oi O J)<|mI rfl<|aa<| ?_
  refine⟨k+1,aW,mj.u4.u4.u4.u4.u4,cT,(aK I aL),J,J,?_⟩
  exact hf.next (fun h=>by rw[iF];exact nf aQ) (fun h=>by exfalso;omega)
 refine a8 (id:=0) rfl<|SR<|va (v:=B true) rfl<|aa<|aj<|oB O ?_ cP
 exact(MC hr aQ hf).symm
theorem WH(a b:El)(w:World):Calls Tryz.prog 97 #[.agg (iM a),.agg (iM b)] w (Pure (B (cS a b)) w):=by
 refine eH func97 rfl rfl fun hH=>SR<|gN hH (v:= .agg _) rfl<|fun b3 w1 bp=>gN bp (v:= .agg _) rfl<|fun b6 w4 bY=>va (v:=B false) rfl<|aa<|ai<|SR<|aE (v:=I 0) rfl<|aa<|aA<|bt (G:=Int) (fun k s' w'=>(Fr (rg 4 14 []) _ s')/\(Hp w w' _)/\(s' 6=I k)/\(0<=k)/\(k<=8)/\(∀j:Int,0<=j->j<k->eu (a j.toNat) (b j.toNat)=true)) (fun k=>(8-k).toNat) (0) ⟨Fr.refl _ _,bY,rfl,J,J,fun j u v=>absurd v J⟩<| ?_
 rintro k sg7 w7 ⟨Ed,eE,aj1,h0,hk,hf⟩
 obtain⟨ajY,WC⟩:=Ed.w2 2 3
 refine SR<|V (aN aj1 O)<|aa<|ai<|aF O (fun h9=> ?_) (fun h9=> ?_)
 .refine an<|ai<|aA<|SR<|aE aj1<|aI rfl<|aa<|ai<|ed aP eE<|fun EL df=>have iQ:=df;AQ 0 O iQ (mV (I _) O)<|AQ 1 O iQ (a7 bI cQ ajY O J)<|tV 2 O iQ dM 1 O O (jM _ J)<|AQ 3 O iQ (mV (I _) O)<|AQ 4 O iQ (a7 bI cQ WC O J)<|tV 5 O iQ dM 0 O O (jM _ J)<|A1 6<|cw O aD O df sR (FO _ _ _) (aM call140 O O)<|fun zc bX=>AQ 7 O bX (bJ O)<|AD<|bW O (fun ym=> ?_) (fun ym=> ?_)
  .refine SR<|va (v:=B false) rfl<|aa<|aj<|oB O ?_ bX
   exact(ag3 h0 aQ (nt aQ)).symm
  refine an<|au<|V (ax aj1 O J)<|mI rfl<|aa<| ?_
  refine⟨k+1,aW,Ed.u4.u4.u4.u1,bX,(aK I aL),J,J,?_⟩
  exact fun j u v=>if e:j=k then e▸nf ‹_›else hf j u J
 refine a8 (id:=0) rfl<|SR<|va (v:=B true) rfl<|aa<|aj<|oB O ?_ eE
 exact(abj aQ hf).symm
theorem Tw(s:kR)(a b:El)(w:World)(hs:k8 (Kw w) s)(hT:o6 w):Calls Tryz.prog 170 #[.agg (qL s),.agg (iM a),.agg (iM b)] w (Pure (.agg (iM (eo s.sh a b))) w):=by
 have hsl:=pw s
 have hm:=hs.aZ.sl.small
 unfold maxLen at hm
 refine eH func170 rfl rfl fun hH=>SR<|gN hH (v:= .agg _) rfl<|fun b3 w1 bp=>gN bp (v:= .agg _) rfl<|fun b6 w4 bY=>gN bY (v:= .agg _) rfl<|fun b9 w7 eW=>lK eW (aS eZ)<|fun b12 EL df=>aa<|ai<|SR<|aE (v:=I 0) rfl<|aa<|aA<|bt (G:=Int×El) (fun⟨k,e1⟩ s' w'=>(Fr (rg 7 42 []) _ s')/\(Hp w w' (_::_:: .blk b6 (.cells (iM e1) 37 (0,0))::_))/\(s' 8=I k)/\(0<=k)/\(k<=8)/\(e1=m8 (eo s.sh a b) a k)) (fun⟨k,e1⟩=>(8-k).toNat) ((0,a)) ⟨Fr.refl _ _,df,rfl,J,J,(vK _ _).symm⟩<| ?_
 rintro⟨k,e1⟩ aag C2 ⟨rW,bX,WI,h0,hk,hr⟩
 obtain⟨xw,Bs,EP,Bt⟩:=rW.w4 3 4 5 6
 refine SR<|V (aN WI O)<|aa<|ai<|aF O (fun Ec=> ?_) (fun Ec=> ?_)
 .refine an<|ai<|aA<|SR<|aE WI<|aI rfl<|aa<|ai<|SR<|mI rfl<|V (fA dw 1 O jF xw)<|lV dm bX 3 O O rfl<|V (aC (hs.aZ.sl.hp bX) O dm O)<|V (aN O O)<|mB rfl<|bK 16 O (fun G9=> ?_) (fun G9=> ?_)
  .refine V (fA dw 1 O jF xw)<|lV dm bX 3 O O rfl<|mI rfl<|V (ah (hs.aZ.sl.hp bX) dm qd O O J)<|V (fA dx 0 O aO O)<|V (gC (dv:=iB) fB (hs.aZ.sl.hp bX) bx O O J O)<|V (bV O O)<|mB rfl<|aa<|aF O (fun N3=> ?_) (fun N3=> ?_)
   .refine ai<|gp aP bX (sP (sP (sQ sR)))<|fun Z7 fJ=>have oH:=fJ.sub (sP (sP (sQ sR)));AQ 0 O oH (mV (I _) O)<|AQ 1 O oH (fA dw 1 O jF xw)<|tV 2 O oH dm 2 O O rfl<|AQ 3 O oH (mV (I _) O)<|AT 4 O oH (fun w hS=>ah (hs.aZ.sl.hp hS) dm qd O O J)<|AQ 5 O oH (fA dx 2 O iX O)<|AT 6 O oH (fun w hS=>UW (hs.aZ.sl.hp hS) bS O O O J)<|AQ 7 O oH (mV (I _) O)<|AQ 8 O oH (a7 bI cQ Bs O J)<|AQ 10 O oH (mV (I _) O)<|AQ 11 O oH (a7 bI cQ EP O J)<|tV 12 O oH dM 1 O O (jM _ J)<|A1 9<|cf O aD O fJ (sP (sP (sQ sR))) (aG dM O O (fJ.cell (i:=2) O (jM _ J)))<|A1 13<|cw O aD O fJ (sP (sP (sQ sR))) (Pm _ _ _ _ (hT.hp fJ)) (bz call205 O O O)<|fun w24 oc=>AQ 14 O (oc.sub (sP (sP (sQ sR)))) (a7 bI cQ Bs O J)<|A1 15<|ef O aD oc (j:=2) O (sP (sP (sQ sR))) (bM O O (v:=U _) O O O (oc.blk (i:=2) O) xY)<|fun w28 gj=> ?_
    rw[n5]at gj
    refine AD<|a8 (id:=1) rfl<|au<|V (ax WI O J)<|mI rfl<|aa<| ?_
    refine⟨(k+1,_),aW,rW.u4.u4.u4.u4.u4.u4.u4.u4.u1.u1,gj,(aK I aL),J,J,?_⟩
    exact adM hr h0 aQ aQ
   refine an<|gp aP bX (sP (sP (sQ sR)))<|fun w30 gU=>have AW:=gU.sub (sP (sP (sQ sR)));AQ 0 O AW (mV (I _) O)<|AQ 1 O AW (a7 bI cQ Bs O J)<|AQ 3 O AW (mV (I _) O)<|AQ 4 O AW (a7 bI cQ EP O J)<|tV 5 O AW dM 1 O O (jM _ J)<|A1 2<|cf O aD O gU (sP (sP (sQ sR))) (aG dM O O (gU.cell (i:=2) O (jM _ J)))<|AQ 6 O AW (iH O O)<|AQ 7 O AW (a7 bI cQ Bs O J)<|A1 8<|ef O aD gU (j:=2) O (sP (sP (sQ sR))) (bM O O (v:=U _) O O O (gU.blk (i:=2) O) xY)<|fun w36 uw=> ?_
   rw[n5]at uw
   refine AD<|au<|V (ax WI O J)<|mI rfl<|aa<| ?_
   refine⟨(k+1,_),aW,rW.u4.u4.u4.u4.u4.u4.u1.u1.u1,uw,(aK I aL),J,J,?_⟩
   exact P5 hr h0 (fun hc=>absurd hc.1 J)
  refine aE (v:=B false) rfl<|aa<|cL rfl<|an<|gp aP bX (sP (sP (sQ sR)))<|fun w38 kF=>have C9:=kF.sub (sP (sP (sQ sR)));AQ 0 O C9 (mV (I _) O)<|AQ 1 O C9 (a7 bI cQ Bs O J)<|AQ 3 O C9 (mV (I _) O)<|AQ 4 O C9 (a7 bI cQ EP O J)<|tV 5 O C9 dM 1 O O (jM _ J)<|A1 2<|cf O aD O kF (sP (sP (sQ sR))) (aG dM O O (kF.cell (i:=2) O (jM _ J)))<|AQ 6 O C9 (iH O O)<|AQ 7 O C9 (a7 bI cQ Bs O J)<|A1 8<|ef O aD kF (j:=2) O (sP (sP (sQ sR))) (bM O O (v:=U _) O O O (kF.blk (i:=2) O) xY)<|fun w44 rY=> ?_
  rw[n5]at rY
  refine AD<|au<|V (ax WI O J)<|mI rfl<|aa<| ?_
  refine⟨(k+1,_),aW,rW.u4.u4.u4.u4.u4.u4.u1.u1.u1,rY,(aK I aL),J,J,?_⟩
  exact P5 hr h0 (fun hc=>absurd hc.1 J)
 refine a8 (id:=0) rfl<|SR<|V (cN bI O O Bs (bX.blk (i:=2) O))<|bk bX (i:=0) O (cR O Bt O (bX.blk (i:=0) O))<|fun w46 oY=>aa<|aj<|rz O Bt oY (i:=0) O bI O jL ⟨?_,oY.below⟩
 (exact aK Value.agg (l8 LK))
theorem Ty(a b:El)(w:World):Calls Tryz.prog 171 #[.agg (iM a),.agg (iM b)] w (Pure (.agg (iM (o7 a b))) w):=by
 refine eH func171 rfl rfl fun hH=>SR<|gN hH (v:= .agg _) rfl<|fun b3 w1 bp=>gN bp (v:= .agg _) rfl<|fun b6 w4 bY=>lK bY (aS eZ)<|fun b9 w7 eW=>aa<|ai<|SR<|aE (v:=I 0) rfl<|aa<|aA<|bt (G:=Int×El) (fun⟨k,e1⟩ s' w'=>(Fr (rg 5 13 []) _ s')/\(Hp w w' (_::_:: .blk b3 (.cells (iM e1) 37 (0,0))::_))/\(s' 6=I k)/\(0<=k)/\(k<=8)/\(e1=m8 (o7 a b) a k)) (fun⟨k,e1⟩=>(8-k).toNat) ((0,a)) ⟨Fr.refl _ _,eW,rfl,J,J,(vK _ _).symm⟩<| ?_
 rintro⟨k,e1⟩ Wz EL ⟨nS,cg,wx,h0,hk,hr⟩
 obtain⟨xz,pX,QX⟩:=nS.w3 2 3 4
 refine SR<|V (aN wx O)<|aa<|ai<|aF O (fun h12=> ?_) (fun h12=> ?_)
 .refine an<|ai<|aA<|SR<|aE wx<|aI rfl<|aa<|gp aP cg (sP (sP (sQ sR)))<|fun C2 cG=>have yx:=cG.sub (sP (sP (sQ sR)));AQ 0 O yx (mV (I _) O)<|AQ 1 O yx (a7 bI cQ xz O J)<|AQ 3 O yx (mV (I _) O)<|AQ 4 O yx (a7 bI cQ pX O J)<|tV 5 O yx dM 1 O O (jM _ J)<|A1 2<|cf O aD O cG (sP (sP (sQ sR))) (aG dM O O (cG.cell (i:=2) O (jM _ J)))<|AQ 6 O yx (kx O O)<|AQ 7 O yx (a7 bI cQ xz O J)<|A1 8<|ef O aD cG (j:=2) O (sP (sP (sQ sR))) (bM O O (v:=U _) O O O (cG.blk (i:=2) O) xY)<|fun Tq cT=> ?_
  rw[n5]at cT
  refine AD<|au<|V (ax wx O J)<|mI rfl<|aa<| ?_
  refine⟨(k+1,_),aW,nS.u4.u4.u4.u1,cT,(aK I aL),J,J,?_⟩
  exact ahi hr h0
 refine a8 (id:=0) rfl<|SR<|V (cN bI O O xz (cg.blk (i:=2) O))<|bk cg (i:=0) O (cR O QX O (cg.blk (i:=0) O))<|fun NU cF=>aa<|aj<|rz O QX cF (i:=0) O bI O jL ⟨?_,cF.below⟩
 (exact aK Value.agg (l8 LK))
theorem Tz(s:kR)(fi:FuncId)(gg:Fc->BitVec 64)(w:World)(hs:k8 (Kw w) s)(hf:∀args w,(callFunc fi args).run Tryz.prog w= .ok (.enter fi args) w)(go:∀f w',wL (Kw w') f->o6 w'->Calls Tryz.prog fi #[.agg (uP f)] w' (Pure (U (gg f.fc)) w'))(hT:o6 w):Calls Tryz.prog 99 #[.agg (qL s),.func (.func fi) #[] #[]] w (Pure (.agg (iM (gJ s.sh gg))) w):=by
 have hsl:=pw s
 have hm:=hs.aZ.sl.small
 unfold maxLen at hm
 refine eH func99 rfl rfl fun hH=>SR<|gN hH (v:= .agg _) rfl<|fun b3 w1 bp=>lK bp (aS eZ)<|fun b6 w4 bY=>aa<|SR<|lK bY (aS eZ)<|fun b9 w7 eW=>aa<|ai<|SR<|V (cA (cs:=[B _,_]) dw O O O (bj (eW.blk (i:=2) O)))<|aH O eW (yw _ _ (hs.mono eW.kw) (hT.hp eW)) (ay call50 O)<|fun EL df=>aa<|bW O (fun To=> ?_) (fun To=> ?_)
 .refine SR<|V (fA dw 1 O jF O)<|lV dm df 2 O O rfl<|V (aC (hs.aZ.sl.hp df) O dm O)<|aE (v:=I 0) rfl<|aa<|aA<|have hln:=(n4 ‹mA s.sh=true›).1;bt (G:=Int×El) (fun⟨k,e1⟩ s' w'=>(Fr (6::7::(rg 13 11 [])) _ s')/\(Hp w w' (.blk b9 (.cells (iM e1) 37 (0,0))::_))/\(s' 13=I k)/\(0<=k)/\(k<=s.aZ.length)/\(e1=m8 (gJ s.sh gg) dg k)) (fun⟨k,e1⟩=>(s.aZ.length-k).toNat) ((0,dg)) ⟨Fr.refl _ _,df,rfl,J,J,(vK _ _).symm⟩<| ?_
  rintro⟨k,e1⟩ Z0 QT ⟨mN,cG,TA,h0,hk,hr⟩
  have NT:=mN.vv 1 (a:= .func _ _ _) rfl rfl
  obtain⟨EJ,xA,NW,atz⟩:=mN.w4 4 5 11 12
  refine SR<|V (aN TA atz)<|aa<|ai<|aF O (fun ym=> ?_) (fun ym=> ?_)
  .refine an<|ai<|aA<|SR<|aE TA<|V (ah (hs.aZ.sl.hp cG) dm qd NW TA J)<|V (dZ (dv:=iB) fB (hs.aZ.sl.hp cG) dx O O O J)<|lK cG (aS tS)<|fun b19 Tp dP=>aI rfl<|bk dP (i:=0) O (sJ (hs.at J J) O O O (dP.blk (i:=0) O))<|fun Z7 fJ=>aa<|au<|mI rfl<|aE NT<|V (yN dx O O O (fJ.blk (i:=0) O))<|aH O fJ (go _ _ ((hs.at J J).mono fJ.kw) (hT.hp fJ)) (lC hf (cs:=[]) O O)<|fun QV eM=>V (a7 bI cQ xA O J)<|bk eM (i:=1) O (bM O O (v:=U _) O O O (eM.blk (i:=1) O) xY)<|fun w24 oc=> ?_
   rw[n5]at oc
   refine aa<|au<|V (ax TA O J)<|mI rfl<|aa<| ?_
   refine⟨(k+1,_),aW,mN.u4.u4.u4.u1,(oc.sub (sQ sR)),(aK I aL),J,J,?_⟩
   (have hp:=CD ‹mA s.sh=true› hr h0 (show k<s.sh.aZ.length by omega);rw[iF]at hp;exact hp)
  refine a8 (id:=0) rfl<|SR<|V (cN bI O O xA (cG.blk (i:=0) O))<|bk cG (i:=1) O (cR O EJ O (cG.blk (i:=1) O))<|fun Wx dK=>aa<|aj<|rz O EJ dK (i:=1) O bI O jL ⟨?_,dK.below⟩
  exact aK Value.agg (l8 (by rw[hr];exact U1 J))
 refine an<|SR<|V (cN bI O O O (df.blk (i:=0) O))<|bk df (i:=1) O (cR O O O (df.blk (i:=1) O))<|fun w28 gj=>aa<|aj<|rz O O gj (i:=1) O bI O jL ⟨?_,gj.below⟩
 exact aK Value.agg (l8 (abn aQ))
theorem Ps(f:qz)(w:World)(hf:wL (Kw w) f)(hT:o6 w):Calls Tryz.prog 100 #[.agg (uP f)] w (Pure (U (ew f.fc)) w):=by
 refine eH func100 rfl rfl fun hH=>SR<|gN hH (v:= .agg _) rfl<|fun b3 w1 bp=>va (v:=U 0#64) rfl<|aa<|ai<|SR<|V (fA dx 0 O aO O)<|lI bx bp 0 O O rfl<|V (jZ O O)<|aa<|aF O (fun h5=> ?_) (fun h5=> ?_)
 .refine SR<|va (v:=U 0#64) rfl<|aa<|aj<|oU O ?_ bp
  exact(aX (show f.fc.kind≠4 from aQ)).symm
 refine an<|SR<|V (fA dx 2 O iX O)<|V (iV bS O O O (bp.blk (i:=0) O))<|aH O bp (Oc _ _ (hT.hp bp)) (ay call143 O)<|fun w6 eE=> ?_
 refine V (run_move bA) ?_
 refine V (bg O (v:=I _) O)<|V (bg O (v:=B _) O)<|aI rfl<|aB rfl<|aa<|SR<|V (fA dx 2 O iX O)<|V (iV bS O O O (eE.blk (i:=0) O))<|mI rfl<|aH O eE (oX _ _ _ (hT.hp eE)) (aM HX O O)<|fun w9 cg=>aU rfl<|aa<|aj<|oU O ?_ cg
 exact(aT (show¬f.fc.kind≠4 from aQ)).symm
theorem wz(s:kR)(w:World)(hs:k8 (Kw w) s)(hT:o6 w):Calls Tryz.prog 53 #[.agg (qL s)] w (Pure (.agg (iM (gJ s.sh ew))) w):=by
 refine eH func53 rfl rfl fun hH=>SR<|gN hH (v:= .agg _) rfl<|fun b3 w1 bp=>lK bp (aS eZ)<|fun b6 w4 bY=>aa<|SR<|V (cA (cs:=[B _,_]) dw O O O (bj (bY.blk (i:=1) O)))<|aH O bY (Tz s 100 ew _ (hs.mono bY.kw) call100 (fun f w h ht=>Ps f w h ht) (hT.hp bY)) (aM call99 O O)<|fun w7 eW=>bk eW (i:=0) O (cR O O O (eW.blk (i:=0) O))<|fun w9 cg=>aa<|aj<|rz O O cg (i:=0) O bI O jL ⟨?_,cg.below⟩
 rfl
theorem qJ(f:qz)(w:World)(hf:wL (Kw w) f):Calls Tryz.prog 112 #[.agg (uP f)] w (Pure (B (cZ f.fc)) w):=by
 have hm:=hf.names.sl.small
 unfold maxLen at hm
 refine eH func112 rfl rfl fun hH=>SR<|gN hH (v:= .agg _) rfl<|fun b3 w1 bp=>va (v:=B false) rfl<|aa<|SR<|V (fA dx 1 O pn O)<|lV dX bp 0 O O rfl<|V (aC (hf.names.sl.hp bp) O dX O)<|aI rfl<|aa<|ai<|SR<|mI rfl<|V (aN O O)<|mB rfl<|bK 10 O (fun h5=> ?_) (fun h5=> ?_)
 .refine aE (v:=B true) rfl<|mB rfl<|cC O rfl<|aE (v:=B true) rfl<|aa<|ct rfl<|SR<|va (v:=B false) rfl<|aa<|aj<|oB O ?_ bp
  exact(MJ (f:=f.fc) (DM afL)).symm
 refine mI rfl<|V (dN O O)<|mB rfl<|mB rfl<|bK 14 O (fun h7=> ?_) (fun h7=> ?_)
 .refine aE (v:=B true) rfl<|aa<|ct rfl<|SR<|va (v:=B false) rfl<|aa<|aj<|oB O ?_ bp
  exact(MJ (f:=f.fc) (DM afL)).symm
 refine V (fA dx 1 O pn O)<|lV dX bp 0 O O rfl<|aH O bp (j8 _ _ _ (hf.names.sl.hp bp)) (ay call75 O)<|fun w8 iE=>V (dF O O)<|mB rfl<|aa<|aF O (fun h11=> ?_) (fun h11=> ?_)
 .refine SR<|va (v:=B false) rfl<|aa<|aj<|oB O ?_ iE
  exact(MJ (f:=f.fc) (PV (by show¬yL f.names<0;omega))).symm
 refine an<|ai<|SR<|va (v:=I 0) rfl<|aa<|aA<|have hn1:1<=f.names.length/\f.names.length<=64:=J;have Qj:yL f.names<0:=J;bt (G:=Int) (fun k s' w'=>(Fr (2::(4::(rg 20 12 []))) _ s')/\(Hp w w' _)/\(s' 4=I k)/\(0<=k)/\(k<=f.names.length)/\(∀j:Int,0<=j->j<k->iS (f.names.getD j.toNat qg)=true)) (fun k=>(f.names.length-k).toNat) (0) ⟨Fr.refl _ _,iE,rfl,J,J,fun j a b=>absurd b J⟩<| ?_
 rintro k aab zc ⟨mj,cP,tW,h0,hk,hg⟩
 obtain⟨pe,kP⟩:=mj.w2 1 3
 refine ai<|SR<|aE tW<|aE kP<|V (aN O O)<|aa<|aF O (fun Ga=> ?_) (fun Ga=> ?_)
 .refine an<|ai<|aA<|SR<|V (fA dx 1 O pn pe)<|lV dX cP 0 O O rfl<|aE tW<|V (ah (hf.names.sl.hp cP) dX kr O O J)<|V (aG iy O O ((hf.names.sl.hp cP).cell _ _ (Cz J)))<|aH O cP (iK _ _) (ay call74 O)<|fun Tm cI=>V (bJ O)<|aa<|bW O (fun N3=> ?_) (fun N3=> ?_)
  .refine SR<|va (v:=B false) rfl<|aa<|aj<|oB O ?_ cI
   exact(MJ (f:=f.fc) (PW h0 aQ (nt aQ))).symm
  refine an<|au<|aE tW<|V (ax O O J)<|aI rfl<|aa<| ?_
  refine⟨k+1,aW,mj.u4.u4.u4.u1,cI,(aK I aL),J,J,?_⟩
  exact fun j a b=>if e:j=k then e▸nf ‹_›else hg j a J
 refine a8 (id:=0) rfl<|ai<|SR<|V (fA dx 0 O aO pe)<|lI bx cP 0 O O rfl<|V (bV O O)<|mB rfl<|bK 35 O (fun Ob=> ?_) (fun Ob=> ?_)
 .refine aE (v:=B true) rfl<|aa<|ct rfl<|SR<|V (fA dx 2 O iX pe)<|V (iV bS O O O (cP.blk (i:=0) O))<|aH O cP (bN _ _) (ay nN O)<|fun QV eM=>V (bV O O)<|aB rfl<|aa<|aj<|oB O ?_ eM
  (have hny:ir f.names=true:=qy hn1 Qj ‹¬k<_› hg;exact(YX (f:=f.fc) hny (.inl aQ)).symm)
 refine V (fA dx 0 O aO pe)<|lI bx cP 0 O O rfl<|V (bV O O)<|mB rfl<|aa<|aF O (fun Wt=> ?_) (fun Wt=> ?_)
 .refine SR<|V (fA dx 2 O iX pe)<|V (iV bS O O O (cP.blk (i:=0) O))<|aH O cP (bN _ _) (ay nN O)<|fun w27 iJ=>V (bV O O)<|aB rfl<|aa<|aj<|oB O ?_ iJ
  (have hny:ir f.names=true:=qy hn1 Qj ‹¬k<_› hg;exact(YX (f:=f.fc) hny (.inr aQ)).symm)
 refine an<|ai<|SR<|V (fA dx 0 O aO pe)<|lI bx cP 0 O O rfl<|V (bV O O)<|aa<|aF O (fun h31=> ?_) (fun h31=> ?_)
 .refine SR<|V (fA dx 2 O iX pe)<|V (fA bS 0 O aO O)<|lI bx cP 0 O O rfl<|aE kP<|V (bV O O)<|mB rfl<|bK 52 O (fun Pt=> ?_) (fun Pt=> ?_)
  .refine V (fA dx 2 O iX pe)<|V (iV bS O O O (cP.blk (i:=0) O))<|aH O cP (mP _ _) (ay call146 O)<|fun w34 uW=>mB rfl<|aB rfl<|aa<|aj<|oB O ?_ uW
   (have hny:ir f.names=true:=qy hn1 Qj ‹¬k<_› hg;exact(ahg (f:=f.fc) hny aQ aQ).symm)
  refine aE (v:=B false) rfl<|aB rfl<|aa<|aj<|oB O ?_ cP
  (have hny:ir f.names=true:=qy hn1 Qj ‹¬k<_› hg;exact(ahe (f:=f.fc) aQ aQ).symm)
 refine an<|SR<|V (fA dx 0 O aO pe)<|lI bx cP 0 O O rfl<|V (bV O O)<|mB rfl<|bK 60 O (fun h38=> ?_) (fun h38=> ?_)
 .refine V (fA dx 2 O iX pe)<|V (fA bS 0 O aO O)<|lI bx cP 0 O O rfl<|aE kP<|V (bV O O)<|mB rfl<|mB rfl<|bK 67 O (fun h40=> ?_) (fun h40=> ?_)
  .refine V (fA dx 2 O iX pe)<|V (iV bS O O O (cP.blk (i:=0) O))<|aH O cP (yt _ _) (ay call151 O)<|fun w41 qQ=>mB rfl<|aB rfl<|aa<|aj<|oB O ?_ qQ
   (have hny:ir f.names=true:=qy hn1 Qj ‹¬k<_› hg;exact(ahh (f:=f.fc) hny aQ aQ).symm)
  refine aE (v:=B false) rfl<|aB rfl<|aa<|aj<|oB O ?_ cP
  (have hny:ir f.names=true:=qy hn1 Qj ‹¬k<_› hg;exact(ahf (f:=f.fc) aQ aQ).symm)
 refine aE (v:=B false) rfl<|mB rfl<|cC O rfl<|aE (v:=B false) rfl<|aB rfl<|aa<|aj<|oB O ?_ cP
 (have hny:ir f.names=true:=qy hn1 Qj ‹¬k<_› hg;exact(ape (f:=f.fc) aQ aQ aQ aQ).symm)
theorem mQ(s:kR)(w:World)(hs:k8 (Kw w) s):Calls Tryz.prog 73 #[.agg (qL s)] w (Pure (B (mA s.sh)) w):=by
 have hsl:=pw s
 have hm:=hs.aZ.sl.small
 unfold maxLen at hm
 refine eH func73 rfl rfl fun hH=>SR<|gN hH (v:= .agg _) rfl<|fun b3 w1 bp=>va (v:=B false) rfl<|aa<|ai<|SR<|V (fA dw 1 O jF O)<|lV dm bp 0 O O rfl<|V (aC (hs.aZ.sl.hp bp) O dm O)<|V (aN O O)<|mB rfl<|bK 8 O (fun h5=> ?_) (fun h5=> ?_)
 .refine aE (v:=B true) rfl<|mB rfl<|cC O rfl<|gm O O rfl<|gm O O rfl<|gm O O rfl<|gm O O rfl<|zV<|aE (v:=B true) rfl<|aa<|ct rfl<|SR<|va (v:=B false) rfl<|aa<|aj<|oB O ?_ bp
  exact(KT J).symm
 refine V (fA dw 1 O jF O)<|lV dm bp 0 O O rfl<|V (aC (hs.aZ.sl.hp bp) O dm O)<|V (dN O O)<|mB rfl<|mB rfl<|bK 14 O (fun h7=> ?_) (fun h7=> ?_)
 .refine gm O O rfl<|gm O O rfl<|gm O O rfl<|gm O O rfl<|zV<|aE (v:=B true) rfl<|aa<|ct rfl<|SR<|va (v:=B false) rfl<|aa<|aj<|oB O ?_ bp
  exact(KT J).symm
 refine V (fA dw 0 O oq O)<|V (aG qZ O O (bp.cell (i:=0) O (v:=B _) O))<|V (bJ O)<|mB rfl<|ez 18 O (fun h10=> ?_) (fun h10=> ?_)
 .refine V (fA dw 1 O jF O)<|lV dm bp 0 O O rfl<|V (aC (hs.aZ.sl.hp bp) O dm O)<|V (jZ O O)<|mB rfl<|mB rfl<|aa<|aF O (fun h12=> ?_) (fun h12=> ?_)
  .refine SR<|va (v:=B false) rfl<|aa<|aj<|oB O ?_ bp
   exact(abi (by exact nt aQ) J).symm
  refine an<|ai<|SR<|va (v:=I 0) rfl<|aa<|aA<|have hc2:s.sh.tuple=true\/s.sh.aZ.length=1:=(by exact .inr J);have Y6:1<=s.aZ.length/\s.aZ.length<=8:=J;bt (G:=Int) (fun k s' w'=>(Fr (2::3::(rg 25 14 [])) _ s')/\(Hp w w' _)/\(s' 3=I k)/\(0<=k)/\(k<=s.aZ.length)/\(∀j:Int,0<=j->j<k->cZ (s.aZ.getD j.toNat iB).fc=true)) (fun k=>(s.aZ.length-k).toNat) (0) ⟨Fr.refl _ _,bp,rfl,J,J,fun j a b=>absurd b J⟩<| ?_
  rintro k aag C2 ⟨rW,bX,xw,h0,hk,hg⟩
  have G5:=rW.w1 1
  refine ai<|SR<|aE xw<|V (fA dw 1 O jF G5)<|lV dm bX 0 O O rfl<|V (aC (hs.aZ.sl.hp bX) O dm O)<|V (aN O O)<|aa<|aF O (fun Ec=> ?_) (fun Ec=> ?_)
  .refine an<|ai<|aA<|SR<|V (fA dw 1 O jF G5)<|lV dm bX 0 O O rfl<|aE xw<|V (ah (hs.aZ.sl.hp bX) dm qd O O J)<|V (dZ (dv:=iB) fB (hs.aZ.sl.hp bX) dx O O O J)<|aH O bX (qJ _ _ ((hs.at J J).mono bX.kw)) (ay call112 O)<|fun Ja er=>V (bJ O)<|aa<|bW O (fun O0=> ?_) (fun O0=> ?_)
   .refine SR<|va (v:=B false) rfl<|aa<|aj<|oB O ?_ er
    exact(KU (k:=k) h0 J H6).symm
   refine an<|au<|aE xw<|V (ax O O J)<|aI rfl<|aa<| ?_
   refine⟨k+1,aW,rW.u4.u4.u4.u1.u1.u1,er,(aK I aL),J,J,?_⟩
   exact fun j a b=>if e:j=k then e▸nf ‹_›else hg j a J
  refine a8 (id:=0) rfl<|SR<|va (v:=B true) rfl<|aa<|aj<|oB O ?_ bX
  exact(KV (k:=k) J hc2 J fun j a b=>by rw[iF];exact hg j a b).symm
 refine aE (v:=B false) rfl<|mB rfl<|aa<|cL rfl<|an<|ai<|SR<|va (v:=I 0) rfl<|aa<|aA<|have hc2:s.sh.tuple=true\/s.sh.aZ.length=1:=(by exact .inl (nf ‹(!s.tuple)=false›));have Y6:1<=s.aZ.length/\s.aZ.length<=8:=J;bt (G:=Int) (fun k s' w'=>(Fr (2::3::(rg 25 14 [])) _ s')/\(Hp w w' _)/\(s' 3=I k)/\(0<=k)/\(k<=s.aZ.length)/\(∀j:Int,0<=j->j<k->cZ (s.aZ.getD j.toNat iB).fc=true)) (fun k=>(s.aZ.length-k).toNat) (0) ⟨Fr.refl _ _,bp,rfl,J,J,fun j a b=>absurd b J⟩<| ?_
 rintro k aER NU ⟨aeM,fJ,NY,h0,hk,hg⟩
 have aqj:=aeM.w1 1
 refine ai<|SR<|aE NY<|V (fA dw 1 O jF aqj)<|lV dm fJ 0 O O rfl<|V (aC (hs.aZ.sl.hp fJ) O dm O)<|V (aN O O)<|aa<|aF O (fun FQ=> ?_) (fun FQ=> ?_)
 .refine an<|ai<|aA<|SR<|V (fA dw 1 O jF aqj)<|lV dm fJ 0 O O rfl<|aE NY<|V (ah (hs.aZ.sl.hp fJ) dm qd O O J)<|V (dZ (dv:=iB) fB (hs.aZ.sl.hp fJ) dx O O O J)<|aH O fJ (qJ _ _ ((hs.at J J).mono fJ.kw)) (ay call112 O)<|fun w24 oc=>V (bJ O)<|aa<|bW O (fun Wv=> ?_) (fun Wv=> ?_)
  .refine SR<|va (v:=B false) rfl<|aa<|aj<|oB O ?_ oc
   exact(KU (k:=k) h0 J H6).symm
  refine an<|au<|aE NY<|V (ax O O J)<|aI rfl<|aa<| ?_
  refine⟨k+1,aW,aeM.u4.u4.u4.u1.u1.u1,oc,(aK I aL),J,J,?_⟩
  exact fun j a b=>if e:j=k then e▸nf ‹_›else hg j a J
 refine a8 (id:=0) rfl<|SR<|va (v:=B true) rfl<|aa<|aj<|oB O ?_ fJ
 exact(KV (k:=k) J hc2 J fun j a b=>by rw[iF];exact hg j a b).symm
theorem BO(f:qz)(s:BitVec 64)(hfr:cZ f.fc=true)(w:World)(hf:wL (Kw w) f):Calls Tryz.prog 115 #[.agg (uP f),U s] w (Pure (B (kC f.fc s)) w):=by
 have hm:=hf.names.sl.small
 unfold maxLen at hm
 refine eH func115 rfl rfl fun hH=>SR<|gN hH (v:= .agg _) rfl<|fun b3 w1 bp=>va (v:=B false) rfl<|aa<|ai<|SR<|V (fA dx 0 O aO O)<|lI bx bp 0 O O rfl<|V (bV O O)<|aa<|aF O (fun h5=> ?_) (fun h5=> ?_)
 .refine SR<|V (fA dx 1 O pn O)<|lV dX bp 0 O O rfl<|V (aC (hf.names.sl.hp bp) O dX O)<|mU rfl<|aH O bp (Az _ _ _) (aM call152 O O)<|fun w6 eE=> ?_
  refine V (run_move bA) ?_
  refine V (bg O (v:=I _) O)<|V (bg O (v:=B _) O)<|aI rfl<|aB rfl<|aa<|SR<|mB rfl<|aB rfl<|aa<|aj<|oB O ?_ eE
  exact(PY (f:=f.fc) aQ s).symm
 refine an<|ai<|SR<|V (fA dx 0 O aO O)<|lI bx bp 0 O O rfl<|V (bV O O)<|aa<|aF O (fun h10=> ?_) (fun h10=> ?_)
 .refine SR<|mU rfl<|V (fA dx 1 O pn O)<|lV dX bp 0 O O rfl<|V (aC (hf.names.sl.hp bp) O dX O)<|aH O bp (j6 _ _) (ay call119 O)<|fun I8 cP=>aH O cP (tU _ _ _) (aM call55 O O)<|fun C2 cG=>aB rfl<|aa<|aj<|oB O ?_ cG
  exact(PZ (f:=f.fc) aQ s).symm
 refine an<|ai<|SR<|V (fA dx 0 O aO O)<|lI bx bp 0 O O rfl<|V (bV O O)<|aa<|aF O (fun G9=> ?_) (fun G9=> ?_)
 .refine SR<|V (fA dx 2 O iX O)<|V (iV bS O O O (bp.blk (i:=0) O))<|mU rfl<|aH O bp (AS _ _ _) (aM call153 O O)<|fun K9 iD=>mU rfl<|V (iU O O)<|aB rfl<|aa<|aj<|oB O ?_ iD
  exact(arO (f:=f.fc) hfr aQ s).symm
 refine an<|SR<|V (fA dx 2 O iX O)<|V (iV bS O O O (bp.blk (i:=0) O))<|mU rfl<|aH O bp (mO _ _ _) (aM call120 O O)<|fun NU cF=> ?_
 refine V (run_move bA) ?_
 refine V (bg O (v:=I _) O)<|V (bg O (v:=B _) O)<|aI rfl<|aB rfl<|aa<|SR<|mB rfl<|aB rfl<|aa<|aj<|oB O ?_ cF
 exact(apf (f:=f.fc) aQ aQ aQ s).symm
theorem nT(s:kR)(e:El)(w:World)(hs:k8 (Kw w) s):Calls Tryz.prog 80 #[.agg (qL s),.agg (iM e)] w (Pure (B (cJ s.sh e)) w):=by
 have hsl:=pw s
 have hm:=hs.aZ.sl.small
 unfold maxLen at hm
 refine eH func80 rfl rfl fun hH=>SR<|gN hH (v:= .agg _) rfl<|fun b3 w1 bp=>gN bp (v:= .agg _) rfl<|fun b6 w4 bY=>va (v:=B false) rfl<|aa<|ai<|SR<|V (cA (cs:=[B _,_]) dw O O O (bj (bY.blk (i:=1) O)))<|aH O bY (mQ _ _ (hs.mono bY.kw)) (ay call73 O)<|fun w7 eW=>V (bJ O)<|aa<|bW O (fun h11=> ?_) (fun h11=> ?_)
 .refine SR<|va (v:=B false) rfl<|aa<|aj<|oB O ?_ eW
  exact(UQ (nt aQ)).symm
 refine an<|ai<|SR<|va (v:=I 0) rfl<|aa<|aA<|have hr:mA s.sh=true:=nf aQ;bt (G:=Int) (fun k s' w'=>(Fr (4::5::(rg 9 34 [])) _ s')/\(Hp w w' _)/\(s' 5=I k)/\(0<=k)/\(k<=8)/\(Ez s.sh e k)) (fun k=>(8-k).toNat) (0) ⟨Fr.refl _ _,eW,rfl,J,J,Ez.none _ _⟩<| ?_
 rintro k aab zc ⟨mj,cP,mD,h0,hk,hf⟩
 obtain⟨zg,kP⟩:=mj.w2 2 3
 refine ai<|SR<|aE mD<|V (aN O O)<|aa<|aF O (fun Ga=> ?_) (fun Ga=> ?_)
 .refine an<|ai<|aA<|ai<|ed aP cP<|fun Tm cI=>have tX:=cI;AQ 0 O tX (run_move mD)<|AQ 1 O tX (fA dw 1 O jF zg)<|tV 2 O tX dm 1 O O rfl<|AT 3 O tX (fun w hS=>aC (hs.aZ.sl.hp hS) O dm O)<|AQ 4 O tX (aN O O)<|AQ 5 O tX (mV (B _) O)<|Cu (dj:=18) O (fun qn=> ?_) (fun qn=> ?_)
  .refine BQ 6 O O (bT qn) cI (fA dw 1 O jF zg)<|AG 7 O O (bT qn) cI (fun w hS=>aG dm O O (hS.cell (i:=1) O O))<|BQ 8 O O (bT qn) cI (run_move mD)<|AG 9 O O (bT qn) cI (fun w hS=>ah (hs.aZ.sl.hp hS) dm qd O O J)<|AG 10 O O (bT qn) cI (fun w hS=>dZ (dv:=iB) fB (hs.aZ.sl.hp hS) dx O O O J)<|BQ 11 O O (bT qn) cI (run_move mD)<|BQ 12 O O (bT qn) cI (a7 bI cQ kP O J)<|AG 13 O O (bT qn) cI (fun w hS=>aG dM O O (hS.cell (i:=0) O (jM _ J)))<|A1 14<|cw O (A8 O (bT qn)) O cI sR (BO _ _ (by have hat:=PC hr (k:=k) h0 J;rw[iF]at hat;exact hat) _ ((hs.at J J).mono cI.kw)) (aM call115 O O)<|fun Tq cT=>BQ 15 O O (bT qn) cT (bJ O)<|have rL:=cT;AQ 16 O rL (gM (bT qn) (v:=B _) O)<|AQ 17 O rL (mV (B _) O)<|L4 (dj:=30) O (fun FQ=> ?_) (fun FQ=> ?_)
   .refine AK 18 O O (bR (c:=true) FQ) cT<|AK 19 O O (bR (c:=true) FQ) cT<|AK 20 O O (bR (c:=true) FQ) cT<|AK 21 O O (bR (c:=true) FQ) cT<|AK 22 O O (bR (c:=true) FQ) cT<|AK 23 O O (bR (c:=true) FQ) cT<|AU 24 O O O cT<|AU 25 O O O cT<|AU 26 O O O cT<|AU 27 O O O cT<|AK 28 O O (bR (c:=true) FQ) cT<|AQ 29 O rL (gM (bR (c:=true) FQ) (v:=B true) O)<|AD<|ct rfl<|SR<|va (v:=B false) rfl<|aa<|aj<|oB O ?_ cT
    exact(UR h0 aQ J H6).symm
   refine BQ 18 O O (bR (c:=false) FQ) cT (run_move mD)<|BQ 19 O O (bR (c:=false) FQ) cT (fA dw 1 O jF zg)<|AG 20 O O (bR (c:=false) FQ) cT (fun w hS=>aG dm O O (hS.cell (i:=1) O O))<|AG 21 O O (bR (c:=false) FQ) cT (fun w hS=>aC (hs.aZ.sl.hp hS) O dm O)<|BQ 22 O O (bR (c:=false) FQ) cT (dF O O)<|BQ 23 O O (bR (c:=false) FQ) cT (mV (B _) O)<|Cu (dj:=36) O (fun Jc=> ?_) (fun Jc=> ?_)
   .refine BQ 24 O O (bT Jc) cT (run_move mD)<|BQ 25 O O (bT Jc) cT (a7 bI cQ kP O J)<|AG 26 O O (bT Jc) cT (fun w hS=>aG dM O O (hS.cell (i:=0) O (jM _ J)))<|BQ 27 O O (bT Jc) cT (vx O (b:=0#64) O)<|BQ 28 O O (bR (c:=false) FQ) cT (gM (bT Jc) (v:=B _) O)<|AQ 29 O rL (ep (bR (c:=false) FQ) (v:=B _) O)<|AD<|aF O (fun h27=> ?_) (fun h27=> ?_)
    .refine SR<|va (v:=B false) rfl<|aa<|aj<|oB O ?_ cT
     exact(MB h0 aQ J aQ).symm
    refine an<|au<|aE mD<|V (ax O O J)<|aI rfl<|aa<| ?_
    refine⟨k+1,aW,mj.u4.u4.u4.u4.u4.u4.u4.u4.u1.u1.u1,cT,(aK I aL),J,J,?_⟩
    exact hf.next (fun h=>by exfalso;omega) (fun h=>by exact HJ aQ)
   refine AK 24 O O (bF Jc) cT<|AK 25 O O (bF Jc) cT<|AK 26 O O (bF Jc) cT<|AK 27 O O (bF Jc) cT<|BQ 28 O O (bR (c:=false) FQ) cT (ep (bF Jc) (v:=B false) O)<|AQ 29 O rL (ep (bR (c:=false) FQ) (v:=B _) O)<|AD<|cL rfl<|an<|au<|aE mD<|V (ax O O J)<|aI rfl<|aa<| ?_
   refine⟨k+1,aW,mj.u4.u4.u4.u4.u4.u4.u4.u4.u1.u1.u1,cT,(aK I aL),J,J,?_⟩
   exact hf.next (fun h=>by rw[iF];exact nf aQ) (fun h=>by exfalso;omega)
  refine AK 6 O O (bF qn) cI<|AK 7 O O (bF qn) cI<|AK 8 O O (bF qn) cI<|AK 9 O O (bF qn) cI<|AK 10 O O (bF qn) cI<|AK 11 O O (bF qn) cI<|AK 12 O O (bF qn) cI<|AK 13 O O (bF qn) cI<|AK 14 O O (bF qn) cI<|AK 15 O O (bF qn) cI<|AQ 16 O tX (ep (bF qn) (v:=B false) O)<|AQ 17 O tX (mV (B _) O)<|BQ 18 O O O cI (run_move mD)<|BQ 19 O O O cI (fA dw 1 O jF zg)<|AG 20 O O O cI (fun w hS=>aG dm O O (hS.cell (i:=1) O O))<|AG 21 O O O cI (fun w hS=>aC (hs.aZ.sl.hp hS) O dm O)<|BQ 22 O O O cI (dF O O)<|BQ 23 O O O cI (mV (B _) O)<|Cu (dj:=36) O (fun rK=> ?_) (fun rK=> ?_)
  .refine BQ 24 O O (bT rK) cI (run_move mD)<|BQ 25 O O (bT rK) cI (a7 bI cQ kP O J)<|AG 26 O O (bT rK) cI (fun w hS=>aG dM O O (hS.cell (i:=0) O (jM _ J)))<|BQ 27 O O (bT rK) cI (vx O (b:=0#64) O)<|BQ 28 O O O cI (gM (bT rK) (v:=B _) O)<|AQ 29 O tX (ep O (v:=B _) O)<|AD<|aF O (fun h31=> ?_) (fun h31=> ?_)
   .refine SR<|va (v:=B false) rfl<|aa<|aj<|oB O ?_ cI
    exact(MB h0 aQ J aQ).symm
   refine an<|au<|aE mD<|V (ax O O J)<|aI rfl<|aa<| ?_
   refine⟨k+1,aW,mj.u4.u4.u4.u4.u4.u4.u4.u4.u1.u1.u1,cI,(aK I aL),J,J,?_⟩
   exact hf.next (fun h=>by exfalso;omega) (fun h=>by exact HJ aQ)
  refine AK 24 O O (bF rK) cI<|AK 25 O O (bF rK) cI<|AK 26 O O (bF rK) cI<|AK 27 O O (bF rK) cI<|BQ 28 O O O cI (ep (bF rK) (v:=B false) O)<|AQ 29 O tX (ep O (v:=B _) O)<|AD<|cL rfl<|an<|au<|aE mD<|V (ax O O J)<|aI rfl<|aa<| ?_
  refine⟨k+1,aW,mj.u4.u4.u4.u4.u4.u4.u4.u4.u1.u1.u1,cI,(aK I aL),J,J,?_⟩
  exact hf.next (fun h=>by exfalso;omega) (fun h=>by exfalso;omega)
 refine a8 (id:=0) rfl<|SR<|va (v:=B true) rfl<|aa<|aj<|oB O ?_ cP
 exact(MC hr aQ hf).symm
theorem oJ(a b:El)(w:World):Calls Tryz.prog 22 #[.agg (iM a),.agg (iM b)] w (Pure (B (cS a b)) w):=by
 refine eH func22 rfl rfl fun hH=>SR<|gN hH (v:= .agg _) rfl<|fun b3 w1 bp=>gN bp (v:= .agg _) rfl<|fun b6 w4 bY=>va (v:=B false) rfl<|aa<|ai<|SR<|va (v:=I 0) rfl<|aa<|aA<|bt (G:=Int) (fun k s' w'=>(Fr (rg 4 14 []) _ s')/\(Hp w w' _)/\(s' 5=I k)/\(0<=k)/\(k<=8)/\(∀j:Int,0<=j->j<k->eu (a j.toNat) (b j.toNat)=true)) (fun k=>(8-k).toNat) (0) ⟨Fr.refl _ _,bY,rfl,J,J,fun j u v=>absurd v J⟩<| ?_
 rintro k sg7 w7 ⟨Ed,eE,aoh,h0,hk,hf⟩
 obtain⟨ajY,WC⟩:=Ed.w2 2 3
 refine ai<|SR<|aE aoh<|V (aN O O)<|aa<|aF O (fun h9=> ?_) (fun h9=> ?_)
 .refine an<|ai<|aA<|ai<|ed aP eE<|fun EL df=>have iQ:=df;AQ 0 O iQ (run_move aoh)<|AQ 1 O iQ (a7 bI cQ ajY O J)<|tV 2 O iQ dM 1 O O (jM _ J)<|AQ 3 O iQ (run_move aoh)<|AQ 4 O iQ (a7 bI cQ WC O J)<|tV 5 O iQ dM 0 O O (jM _ J)<|A1 6<|cw O aD O df sR (tU _ _ _) (aM call55 O O)<|fun zc bX=>AQ 7 O bX (bJ O)<|AD<|bW O (fun ym=> ?_) (fun ym=> ?_)
  .refine SR<|va (v:=B false) rfl<|aa<|aj<|oB O ?_ bX
   exact(ag3 h0 aQ (nt aQ)).symm
  refine an<|au<|aE aoh<|V (ax O O J)<|aI rfl<|aa<| ?_
  refine⟨k+1,aW,Ed.u4.u4.u4.u1,bX,(aK I aL),J,J,?_⟩
  exact fun j u v=>if e:j=k then e▸nf ‹_›else hf j u J
 refine a8 (id:=0) rfl<|SR<|va (v:=B true) rfl<|aa<|aj<|oB O ?_ eE
 exact(abj aQ hf).symm
theorem sq(s:kR)(a b:El)(w:World)(hs:k8 (Kw w) s):Calls Tryz.prog 39 #[.agg (qL s),.agg (iM a),.agg (iM b)] w (Pure (.agg (iM (eo s.sh a b))) w):=by
 have hsl:=pw s
 have hm:=hs.aZ.sl.small
 unfold maxLen at hm
 refine eH func39 rfl rfl fun hH=>SR<|gN hH (v:= .agg _) rfl<|fun b3 w1 bp=>gN bp (v:= .agg _) rfl<|fun b6 w4 bY=>gN bY (v:= .agg _) rfl<|fun b9 w7 eW=>lK eW (aS eZ)<|fun b12 EL df=>aa<|SR<|lK df (aS eZ)<|fun b15 C2 cG=>aa<|ai<|SR<|va (v:=I 0) rfl<|aa<|aA<|bt (G:=Int×El) (fun⟨k,e1⟩ s' w'=>(Fr (rg 8 43 []) _ s')/\(Hp w w' (.blk b15 (.cells (iM e1) 37 (0,0))::_))/\(s' 8=I k)/\(0<=k)/\(k<=8)/\(e1=m8 (eo s.sh a b) dg k)) (fun⟨k,e1⟩=>(8-k).toNat) ((0,dg)) ⟨Fr.refl _ _,cG,rfl,J,J,(vK _ _).symm⟩<| ?_
 rintro⟨k,e1⟩ aai Ja ⟨nQ,cI,pW,h0,hk,hr⟩
 obtain⟨oE,EO,zf,aqk,aj3⟩:=nQ.w5 3 4 5 6 7
 refine ai<|SR<|aE pW<|V (aN O O)<|aa<|aF O (fun qn=> ?_) (fun qn=> ?_)
 .refine an<|ai<|aA<|ai<|gp aP cI (sQ sR)<|fun Tq cT=>have rL:=cT.sub (sQ sR);AQ 0 O rL (run_move pW)<|AQ 1 O rL (run_move pW)<|AQ 2 O rL (a7 bI cQ EO O J)<|tV 3 O rL dM 2 O O (jM _ J)<|AQ 4 O rL (run_move pW)<|AQ 5 O rL (a7 bI cQ zf O J)<|tV 6 O rL dM 1 O O (jM _ J)<|AQ 7 O rL (iH O O)<|AQ 8 O rL (a7 bI cQ aj3 O J)<|A1 9<|ef O aD cT (j:=0) O (sQ sR) (bM O O (v:=U _) O O O (cT.blk (i:=0) O) xY)<|fun w23 gY=> ?_
  rw[n5]at gY
  refine AD<|SR<|aE pW<|V (fA dw 1 O jF oE)<|lV dm gY 4 O O rfl<|V (aC (hs.aZ.sl.hp gY) O dm O)<|V (aN O O)<|mB rfl<|bK 27 O (fun Wt=> ?_) (fun Wt=> ?_)
  .refine V (fA dw 1 O jF oE)<|lV dm gY 4 O O rfl<|aE pW<|V (ah (hs.aZ.sl.hp gY) dm qd O O J)<|V (fA dx 0 O aO O)<|V (gC (dv:=iB) fB (hs.aZ.sl.hp gY) bx O O J O)<|V (bV O O)<|mB rfl<|aa<|aF O (fun Wv=> ?_) (fun Wv=> ?_)
   .refine gp aP gY (sQ sR)<|fun w29 iW=>have Jf:=iW.sub (sQ sR);AQ 0 O Jf (run_move pW)<|AQ 1 O Jf (fA dw 1 O jF oE)<|tV 2 O Jf dm 3 O O rfl<|AQ 3 O Jf (run_move pW)<|AT 4 O Jf (fun w hS=>ah (hs.aZ.sl.hp hS) dm qd O O J)<|AQ 5 O Jf (fA dx 2 O iX O)<|AT 6 O Jf (fun w hS=>UW (hs.aZ.sl.hp hS) bS O O O J)<|AQ 7 O Jf (run_move pW)<|AQ 8 O Jf (a7 bI cQ EO O J)<|tV 9 O Jf dM 2 O O (jM _ J)<|AQ 10 O Jf (run_move pW)<|AQ 11 O Jf (a7 bI cQ zf O J)<|tV 12 O Jf dM 1 O O (jM _ J)<|A1 13<|cw O aD O iW (sQ sR) (AP _ _ _ _) (bz call83 O O O)<|fun w31 iC=>AQ 14 O (iC.sub (sQ sR)) (a7 bI cQ aj3 O J)<|A1 15<|ef O aD iC (j:=0) O (sQ sR) (bM O O (v:=U _) O O O (iC.blk (i:=0) O) xY)<|fun w35 j7=> ?_
    rw[n5]at j7
    refine AD<|au<|aE pW<|V (ax O O J)<|aI rfl<|aa<| ?_
    refine⟨(k+1,_),aW,nQ.u4.u4.u4.u4.u4.u4.u4.u4.u4.u4.u1.u1.u1,j7,(aK I aL),J,J,?_⟩
    exact YZ hr h0 aQ aQ
   refine an<|au<|aE pW<|V (ax O O J)<|aI rfl<|aa<| ?_
   refine⟨(k+1,_),aW,nQ.u4.u4.u4.u4.u4.u4.u4,gY,(aK I aL),J,J,?_⟩
   exact MK hr h0 (fun hc=>absurd hc.1 J)
  refine aE (v:=B false) rfl<|aa<|cL rfl<|an<|au<|aE pW<|V (ax O O J)<|aI rfl<|aa<| ?_
  refine⟨(k+1,_),aW,nQ.u4.u4.u4.u4.u4.u4.u4,gY,(aK I aL),J,J,?_⟩
  exact MK hr h0 (fun hc=>absurd hc.1 J)
 refine a8 (id:=0) rfl<|SR<|V (cN bI O O aj3 (cI.blk (i:=0) O))<|bk cI (i:=1) O (cR O aqk O (cI.blk (i:=1) O))<|fun w37 ux=>aa<|aj<|rz O aqk ux (i:=1) O bI O jL ⟨?_,ux.below⟩
 (exact aK Value.agg (l8 LK))
theorem BP(a b:El)(w:World):Calls Tryz.prog 82 #[.agg (iM a),.agg (iM b)] w (Pure (.agg (iM (o7 a b))) w):=by
 refine eH func82 rfl rfl fun hH=>SR<|gN hH (v:= .agg _) rfl<|fun b3 w1 bp=>gN bp (v:= .agg _) rfl<|fun b6 w4 bY=>lK bY (aS eZ)<|fun b9 w7 eW=>aa<|SR<|lK eW (aS eZ)<|fun b12 EL df=>aa<|ai<|SR<|va (v:=I 0) rfl<|aa<|aA<|bt (G:=Int×El) (fun⟨k,e1⟩ s' w'=>(Fr (rg 6 14 []) _ s')/\(Hp w w' (.blk b12 (.cells (iM e1) 37 (0,0))::_))/\(s' 6=I k)/\(0<=k)/\(k<=8)/\(e1=m8 (o7 a b) dg k)) (fun⟨k,e1⟩=>(8-k).toNat) ((0,dg)) ⟨Fr.refl _ _,df,rfl,J,J,(vK _ _).symm⟩<| ?_
 rintro⟨k,e1⟩ aag C2 ⟨rW,bX,Bt,h0,hk,hr⟩
 obtain⟨acu,xw,Bs,EP⟩:=rW.w4 2 3 4 5
 refine ai<|SR<|aE Bt<|V (aN O O)<|aa<|aF O (fun Ec=> ?_) (fun Ec=> ?_)
 .refine an<|ai<|aA<|gp aP bX (sQ sR)<|fun Ja er=>have TB:=er.sub (sQ sR);AQ 0 O TB (run_move Bt)<|AQ 1 O TB (run_move Bt)<|AQ 2 O TB (a7 bI cQ acu O J)<|tV 3 O TB dM 2 O O (jM _ J)<|AQ 4 O TB (run_move Bt)<|AQ 5 O TB (a7 bI cQ xw O J)<|tV 6 O TB dM 1 O O (jM _ J)<|AQ 7 O TB (kx O O)<|AQ 8 O TB (a7 bI cQ EP O J)<|A1 9<|ef O aD er (j:=0) O (sQ sR) (bM O O (v:=U _) O O O (er.blk (i:=0) O) xY)<|fun Z7 fJ=> ?_
  rw[n5]at fJ
  refine AD<|au<|aE Bt<|V (ax O O J)<|aI rfl<|aa<| ?_
  refine⟨(k+1,_),aW,rW.u4.u4.u4.u1.u1,fJ,(aK I aL),J,J,?_⟩
  exact adL hr h0
 refine a8 (id:=0) rfl<|SR<|V (cN bI O O EP (bX.blk (i:=0) O))<|bk bX (i:=1) O (cR O Bs O (bX.blk (i:=1) O))<|fun QV eM=>aa<|aj<|rz O Bs eM (i:=1) O bI O jL ⟨?_,eM.below⟩
 (exact aK Value.agg (l8 LK))
theorem Da(s:kR)(t:Bool)(w:World)(hs:k8 (Kw w) s):Calls Tryz.prog 81 #[.agg (qL s),B t] w (Pure (.agg (iM (gJ s.sh (IK t)))) w):=by
 have hsl:=pw s
 have hm:=hs.aZ.sl.small
 unfold maxLen at hm
 refine eH func81 rfl rfl fun hH=>SR<|gN hH (v:= .agg _) rfl<|fun b4 w2 tZ=>lK tZ (aS eZ)<|fun b7 w5 jQ=>aa<|SR<|lK jQ (aS eZ)<|fun b10 w8 iE=>aa<|ai<|SR<|va (v:=I 0) rfl<|aa<|aA<|bt (G:=Int×El) (fun⟨k,e1⟩ s' w'=>(Fr (rg 6 67 []) _ s')/\(Hp w w' (.blk b10 (.cells (iM e1) 37 (0,0))::_))/\(s' 6=I k)/\(0<=k)/\(mA s.sh=true->k<=s.aZ.length)/\(mA s.sh=true->e1=m8 (gJ s.sh (IK t)) dg k)/\(mA s.sh=false->e1=dg)) (fun⟨k,e1⟩=>(9-k).toNat) ((0,dg)) ⟨Fr.refl _ _,iE,rfl,J,(fun h=>J),(fun _=>(vK _ _).symm),fun _=>rfl⟩<| ?_
 rintro⟨k,e1⟩ ax2 I8 ⟨Kk,df,Db,h0,hk,hr,hz⟩
 obtain⟨ES,Ws,acv,G4⟩:=Kk.w4 1 2 4 5
 refine ai<|SR<|V (cA (cs:=[B _,_]) dw O O Ws (bj (df.blk (i:=2) O)))<|aH O df (mQ _ _ (hs.mono df.kw)) (ay call73 O)<|fun zc bX=>mB rfl<|ez 13 O (fun Ec=> ?_) (fun Ec=> ?_)
 .refine aE Db<|V (fA dw 1 O jF Ws)<|lV dm bX 2 O O rfl<|V (aC (hs.aZ.sl.hp bX) O dm O)<|V (aN O O)<|mB rfl<|aa<|aF O (fun G9=> ?_) (fun G9=> ?_)
  .refine an<|ai<|aA<|SR<|V (fA dw 1 O jF Ws)<|lV dm bX 2 O O rfl<|aE Db<|V (ah (hs.aZ.sl.hp bX) dm qd O O J)<|V (dZ (dv:=iB) fB (hs.aZ.sl.hp bX) dx O O O J)<|lK bX (aS tS)<|fun b20 K9 iD=>bk iD (i:=0) O (sJ (hs.at J J) O O O (iD.blk (i:=0) O))<|fun NU cF=>aa<|SR<|V (fA dx 1 O pn O)<|lV dX cF 0 O O rfl<|V (aC ((hs.at J J).names.sl.hp cF) O dX O)<|aI rfl<|aa<|SR<|V (fA dx 0 O aO O)<|lI bx cF 0 O O rfl<|V (bV O O)<|aa<|aF O (fun xu=> ?_) (fun xu=> ?_)
   .refine SR<|V (fA dx 2 O iX O)<|V (iV bS O O O (cF.blk (i:=0) O))<|aE ES<|aH O cF (C5 _ _ _) (aM call116 O O)<|fun w25 jg=> ?_
    refine V (run_move bA) ?_
    refine V (bg O (v:=I _) O)<|V (bg O (v:=B _) O)<|aI rfl<|aB rfl<|aa<|au<|aE Db<|V (fA dx 2 O iX O)<|V (iV bS O O O (jg.blk (i:=0) O))<|mI rfl<|aH O jg (nR _ _ _) (aM call117 O O)<|fun w28 gj=>V (a7 bI cQ G4 O RU)<|bk gj (i:=1) O (bM O O (v:=U _) O O O (gj.blk (i:=1) O) RP)<|fun w30 gU=> ?_
    rw[n5]at gU
    refine aa<|au<|aE Db<|V (ax O O Uf)<|aI rfl<|aa<| ?_
    refine⟨(k+1,_),?_,Kk.u4.u4.u4.u4.u4.u4.u4.u4.u4.u4,(gU.sub (sQ sR)),(aK I aL),J,?_,?_,?_⟩
    .have hln:=(n4 ‹mA s.sh=true›).1;((try dsimp only);omega)
    .exact fun h=>by omega
    .exact fun _=>by((have hp:=CD (f:=IK t) ‹mA s.sh=true› (hr aQ) h0 (show k<s.sh.aZ.length by omega);rw[iF,<-awD (t:=t) (show(s.aZ.getD k.toNat iB).kind=4 from aQ)]at hp;exact hp))
    exact fun h=>by rw[‹mA s.sh=true›]at h;cases h
   refine SR<|aE ES<|mB rfl<|ez 47 O (fun BR=> ?_) (fun BR=> ?_)
   .refine V (fA dx 0 O aO O)<|lI bx cF 0 O O rfl<|V (bV O O)<|mB rfl<|aa<|aF O (fun h34=> ?_) (fun h34=> ?_)
    .refine au<|aE Db<|V (fA dx 2 O iX O)<|V (iV bS O O O (cF.blk (i:=0) O))<|aH O cF (C7 _ _) (ay call118 O)<|fun w35 j7=>V (a7 bI cQ G4 O RU)<|bk j7 (i:=1) O (bM O O (v:=U _) O O O (j7.blk (i:=1) O) RP)<|fun w37 ux=> ?_
     rw[n5]at ux
     refine aa<|au<|aE Db<|V (ax O O Uf)<|aI rfl<|aa<| ?_
     refine⟨(k+1,_),?_,Kk.u4.u4.u4.u4.u4.u4.u4.u4.u4,(ux.sub (sQ sR)),(aK I aL),J,?_,?_,?_⟩
     .have hln:=(n4 ‹mA s.sh=true›).1;((try dsimp only);omega)
     .exact fun h=>by omega
     .exact fun _=>by((have hp:=CD (f:=IK t) ‹mA s.sh=true› (hr aQ) h0 (show k<s.sh.aZ.length by omega);rw[iF,<-awE ‹t=true› (show(s.aZ.getD k.toNat iB).kind=3 from aQ)]at hp;exact hp))
     exact fun h=>by rw[‹mA s.sh=true›]at h;cases h
    refine SR<|aE ES<|mB rfl<|cC O (bR (c:=true) BR)<|V (fA dx 0 O aO O)<|lI bx cF 0 O O rfl<|V (bV O O)<|mB rfl<|aa<|aF O (fun h40=> ?_) (fun h40=> ?_)
    .refine au<|aE Db<|mI rfl<|aH O cF (j6 _ _) (ay call119 O)<|fun w41 qQ=>V (a7 bI cQ G4 O RU)<|bk qQ (i:=1) O (bM O O (v:=U _) O O O (qQ.blk (i:=1) O) RP)<|fun w43 qo=> ?_
     rw[n5]at qo
     refine aa<|au<|aE Db<|V (ax O O Uf)<|aI rfl<|aa<| ?_
     refine⟨(k+1,_),?_,Kk.u4.u4.u4.u4.u4.u4.u4.u4.u4.u4.u1,(qo.sub (sQ sR)),(aK I aL),J,?_,?_,?_⟩
     .have hln:=(n4 ‹mA s.sh=true›).1;((try dsimp only);omega)
     .exact fun h=>by omega
     .exact fun _=>by((have hp:=CD (f:=IK t) ‹mA s.sh=true› (hr aQ) h0 (show k<s.sh.aZ.length by omega);rw[iF,<-awF ‹t=true› (show(s.aZ.getD k.toNat iB).kind=2 from aQ)]at hp;exact hp))
     exact fun h=>by rw[‹mA s.sh=true›]at h;cases h
    refine SR<|aE ES<|aa<|ct (bR (c:=true) BR)<|au<|aE Db<|mI rfl<|V (eO O O (by have afC:=PC ‹mA s.sh=true› h0 (show k<s.sh.aZ.length by omega);rw[iF]at afC;have:=(pG afC).1;have:(s.aZ.getD k.toNat iB).fc.names=(s.aZ.getD k.toNat iB).names:=rfl;((simp only[qz.fc]at*;omega))))<|aH O cF (j6 _ _) (ay call119 O)<|fun w45 oe=>V (a7 bI cQ G4 O RU)<|bk oe (i:=1) O (bM O O (v:=U _) O O O (oe.blk (i:=1) O) RP)<|fun w47 jB=> ?_
    rw[n5]at jB
    refine aa<|au<|aE Db<|V (ax O O Uf)<|aI rfl<|aa<| ?_
    refine⟨(k+1,_),?_,Kk.u4.u4.u4.u4.u4.u4.u4.u4.u4.u4.u1.u1.u1,(jB.sub (sQ sR)),(aK I aL),J,?_,?_,?_⟩
    .have hln:=(n4 ‹mA s.sh=true›).1;((try dsimp only);omega)
    .exact fun h=>by omega
    .exact fun _=>by((have hp:=CD (f:=IK t) ‹mA s.sh=true› (hr aQ) h0 (show k<s.sh.aZ.length by omega);rw[iF,<-end_1 (by have hat:=PC ‹mA s.sh=true› (k:=k) h0 J;rw[iF]at hat;exact hat) ‹t=true› (show¬(s.aZ.getD k.toNat iB).kind=2 from aQ) (show¬(s.aZ.getD k.toNat iB).kind=3 from aQ) (show¬(s.aZ.getD k.toNat iB).kind=4 from aQ)]at hp;exact hp))
    exact fun h=>by rw[‹mA s.sh=true›]at h;cases h
   refine aE (v:=B false) rfl<|aa<|cL rfl<|SR<|aE ES<|mB rfl<|cC O (bR (c:=false) BR)<|aE (v:=B false) rfl<|aa<|cL rfl<|SR<|aE ES<|aa<|cL (bR (c:=false) BR)<|an<|au<|aE Db<|V (ax O O Uf)<|aI rfl<|aa<| ?_
   refine⟨(k+1,_),?_,Kk.u4.u4.u4.u4.u4.u4.u4.u4.u4.u1.u1,(cF.sub (sQ sR)),(aK I aL),J,?_,?_,?_⟩
   .have hln:=(n4 ‹mA s.sh=true›).1;((try dsimp only);omega)
   .exact fun h=>by omega
   .exact fun _=>by(exact adK ‹mA s.sh=true› (hr aQ) h0 (show k<s.sh.aZ.length by omega) (by rw[iF];exact awG aQ (show¬(s.aZ.getD k.toNat iB).kind=4 from aQ)))
   exact fun h=>by rw[‹mA s.sh=true›]at h;cases h
  refine a8 (id:=0) rfl<|SR<|V (cN bI O O G4 (bX.blk (i:=0) O))<|bk bX (i:=1) O (cR O acv O (bX.blk (i:=1) O))<|fun w49 eL=>aa<|aj<|rz O acv eL (i:=1) O bI O jL ⟨?_,eL.below⟩
  exact aK Value.agg (l8 (by rw[hr aQ];exact U1 (by have:=hk aQ;omega)))
 refine aE (v:=B false) rfl<|aa<|cL rfl<|a8 (id:=0) rfl<|SR<|V (cN bI O O G4 (bX.blk (i:=0) O))<|bk bX (i:=1) O (cR O acv O (bX.blk (i:=1) O))<|fun w51 BS=>aa<|aj<|rz O acv BS (i:=1) O bI O jL ⟨?_,BS.below⟩
 exact aK Value.agg (l8 (by rw[hz aQ];exact abn aQ))
theorem Dc(s:kR)(w:World)(hs:k8 (Kw w) s):Calls Tryz.prog 72 #[.agg (qL s)] w (Pure (B (U2 s.sh)) w):=by
 have hsl:=pw s
 have hm:=hs.aZ.sl.small
 unfold maxLen at hm
 refine eH func72 rfl rfl fun hH=>SR<|gN hH (v:= .agg _) rfl<|fun b3 w1 bp=>va (v:=B false) rfl<|aa<|ai<|SR<|V (fA dw 1 O jF O)<|lV dm bp 0 O O rfl<|V (aC (hs.aZ.sl.hp bp) O dm O)<|V (dN O O)<|aa<|aF O (fun h5=> ?_) (fun h5=> ?_)
 .refine SR<|va (v:=B true) rfl<|aa<|aj<|oB O ?_ bp
  exact(awH (s:=s.sh) J).symm
 refine an<|ai<|SR<|va (v:=I 0) rfl<|aa<|aA<|bt (G:=Int) (fun k s' w'=>(Fr (rg 2 4 (rg 10 30 [])) _ s')/\(Hp w w' _)/\(s' 3=I k)/\(0<=k)/\(k<=s.aZ.length)/\(∀j:Int,0<=j->j<k->O5 (s.aZ.getD j.toNat iB).names=false)) (fun k=>(s.aZ.length-k).toNat) (0) ⟨Fr.refl _ _,bp,rfl,J,J,fun j a b=>absurd b J⟩<| ?_
 rintro k sg6 w6 ⟨QR,jQ,aar,h0,hk,hg⟩
 have Pd:=QR.w1 1
 refine ai<|SR<|aE aar<|V (fA dw 1 O jF Pd)<|lV dm jQ 0 O O rfl<|V (aC (hs.aZ.sl.hp jQ) O dm O)<|V (aN O O)<|aa<|aF O (fun h8=> ?_) (fun h8=> ?_)
 .refine an<|ai<|aA<|SR<|V (fA dw 1 O jF Pd)<|lV dm jQ 0 O O rfl<|aE aar<|V (ah (hs.aZ.sl.hp jQ) dm qd O O J)<|V (dZ (dv:=iB) fB (hs.aZ.sl.hp jQ) dx O O O J)<|lK jQ (aS tS)<|fun b11 w9 cg=>bk cg (i:=0) O (sJ (hs.at J J) O O O (cg.blk (i:=0) O))<|fun zc bX=>aa<|ai<|SR<|V (fA dx 1 O pn O)<|lV dX bX 0 O O rfl<|V (aC ((hs.at J J).names.sl.hp bX) O dX O)<|V (dN O O)<|aa<|aF O (fun Ec=> ?_) (fun Ec=> ?_)
  .refine SR<|va (v:=B true) rfl<|aa<|aj<|oB O ?_ bX
   exact(apg (s:=s.sh) (k:=k) h0 J (by rw[iF];(exact arP (by show 70<(s.aZ.getD k.toNat iB).names.length;omega)))).symm
  refine an<|SR<|va (v:=I 0) rfl<|aa<|aA<|have hnb:(s.aZ.getD k.toNat iB).names.length<=70:=J;bt (G:=Int) (fun i s' w'=>(Fr (2::(5::(rg 26 14 []))) _ s')/\(Hp w w' _)/\(s' 5=I i)/\(0<=i)/\(i<=(s.aZ.getD k.toNat iB).names.length)/\(∀j:Int,0<=j->j<i->¬40<((s.aZ.getD k.toNat iB).names.getD j.toNat qg).size)) (fun i=>((s.aZ.getD k.toNat iB).names.length-i).toNat) (0) ⟨Fr.refl _ _,bX,rfl,J,J,fun j a b=>absurd b J⟩<| ?_
  rintro i aai Ja ⟨nQ,cI,zf,i0,i1,hn⟩
  have EO:=nQ.w1 4
  have oE:=nQ.t1 3 aar
  refine ai<|SR<|aE zf<|V (fA dx 1 O pn EO)<|lV dX cI 0 O O rfl<|V (aC ((hs.at J J).names.sl.hp cI) O dX O)<|V (aN O O)<|aa<|aF O (fun qn=> ?_) (fun qn=> ?_)
  .refine an<|ai<|aA<|SR<|V (fA dx 1 O pn EO)<|lV dX cI 0 O O rfl<|aE zf<|V (ah ((hs.at J J).names.sl.hp cI) dX kr O O J)<|V (aG iy O O (((hs.at J J).names.sl.hp cI).cell _ _ (Cz J)))<|V (lB O iy O)<|V (dN O O)<|aa<|aF O (fun O0=> ?_) (fun O0=> ?_)
   .refine SR<|va (v:=B true) rfl<|aa<|aj<|oB O ?_ cI
    exact(apg (s:=s.sh) (k:=k) h0 J (by rw[iF];(exact arQ i0 aQ (by show 40<((s.aZ.getD k.toNat iB).names.getD i.toNat qg).size;omega)))).symm
   refine an<|au<|aE zf<|V (ax O O J)<|aI rfl<|aa<| ?_
   refine⟨i+1,aW,nQ.u4.u4.u4.u1.u1.u1,cI,(aK I aL),J,J,?_⟩
   exact fun j a b=>if e:j=i then e▸(by omega)else hn j a J
  refine a8 (id:=2) rfl<|au<|aE oE<|V (ax O O J)<|aI rfl<|aa<| ?_
  refine⟨k+1,aW,(((QR.u4.u4.u4.u4).t nQ O)).u4.u4,(cI.sub (sQ sR)),(aK I aL),J,J,?_⟩
  exact fun j a b=>if e:j=k then e▸amu J ‹¬i<_› hn else hg j a J
 refine a8 (id:=0) rfl<|SR<|va (v:=B false) rfl<|aa<|aj<|oB O ?_ jQ
 exact(arR (s:=s.sh) (k:=k) J J fun j a b=>by rw[iF];exact hg j a b).symm
theorem ET(K:Vu)(f:qz)(hn:f.names.length<=1000)(w:World)(hK:Le K (Kw w))(hf:wL K f):Calls Tryz.prog 94 #[.agg (uP f)] w (Gt K (fun K' u=>∃f':qz,u= .agg (uP f')/\f'.fc=f.fc/\wL K' f') w):=by
 refine eH func94 rfl rfl fun hH=>SR<|gN hH (v:= .agg _) rfl<|fun b3 w1 bp=>lK bp (aS tS)<|fun b6 w4 bY=>aa<|SR<|tR 0 0 bY (s3 dX kr)<|fun b9 w7 eW=> ?_
 (try simp only[lj]at eW)
 have cg:=eW.sF 0 1 O az
 refine V (fA dx 1 O pn O)<|lV dX cg 2 O O rfl<|gf O cg (i:=0) O ((hf.mono hK).names.sl.hp cg) O O dX O O (size:=1) (bytes:=16) O O O az gX J iz<|fun v11 zc bX=>V (fA dx 1 O pn O)<|have hone:=(a6 (bX.get (i:=0) O)).2;bk bX (i:=2) O (Y1 O O O (a6 (bX.get (i:=0) O)).1 hone (bX.blk (i:=2) O))<|fun QT gT=>aa<|SR<|V (yN dx O O O (gT.blk (i:=2) O))<|bk gT (i:=1) O (Y0 (adO hf hone) O O O (gT.blk (i:=1) O))<|fun Ja er=>aa<|aj<| ?_
 obtain⟨Zc,hz,hzv,-⟩:=er.T4 K
 refine rz O O er (i:=1) O dx O (by simp only[vb,fB];rfl) ⟨Zc,hz.sub (afB _ _),_,rfl,rfl,⟨?_⟩⟩
 simpa using hzv
theorem Bu(K:Vu)(v:Value)(l:List kR)(hl:l.length<=1000)(hfn:∀s∈l,s.aZ.length<=1000)(hnn:∀s∈l,∀f∈s.aZ,f.names.length<=1000)(w:World)(hK:Le K (Kw w))(hs:Sl w v 2 l.length (l.flatMap yd))(hv:P6 K l):Calls Tryz.prog 51 #[v] w (Gt K (fun K' u=>∃p:kR,u= .agg (qL p)/\p.sh=⟨true,Bd l⟩/\k8 K' p) w):=by
 refine eH func51 rfl rfl fun hH=>SR<|lK hH (aS Tryz.zeroValue56)<|fun b3 w1 bp=>aa<|SR<|V (dI (vs:=[(0,B true)]) O ZW)<|lK bp (aS Tryz.zeroValue56)<|fun b6 w4 bY=>bk bY (i:=0) O (dO (c':=#[B true,.slice none 0 0]) O O O gX (bY.blk (i:=0) O) O)<|fun w7 eW=>have iE:=eW.eR 88 67;aa<|ai<|SR<| ?_
 refine V (run_move bA) ?_
 refine V (aC (hs.hp iE) O RD O)<|aE (v:=I 0) rfl<|aa<|aA<|bt (G:=Int×Value×(List qz)×(List bu)) (fun⟨k,fv0,fs,Z⟩ s' w'=>(Fr (5::(7::(rg 11 20 []))) _ s')/\(Hp w w' (.row fv0 88 67 (fs.length) (fs.flatMap sI):: .blk b6 (.cells (#[B true,fv0]) 56 (0,0))::_::Z))/\(s' 11=I k)/\(0<=k)/\(k<=l.length)/\(fs.map qz.fc=Bd (l.take k.toNat))/\(tD (Kz K Z) fs)/\((fs.length:Int)<=1000*k)) (fun⟨k,fv0,fs,Z⟩=>(l.length-k).toNat) ((0,(.slice none 0 0:Value),[],[])) ⟨Fr.refl _ _,iE,rfl,J,J,rfl,tD.nil _,aJ⟩<| ?_
 rintro⟨k,fv0,fs,Z⟩ Wz EL ⟨nS,cg,aas,h0,hk,hm,hF,hb⟩
 obtain⟨xz,pX,Oj,atD⟩:=nS.w4 2 3 9 10
 refine SR<|V (aN aas atD)<|aa<|ai<|aF O (fun h12=> ?_) (fun h12=> ?_)
 .refine an<|ai<|aA<|SR<|V (ah (hs.hp cg) RD vi Oj aas J)<|V (dZ (dv:=D2) ML (hs.hp cg) dw O O O J)<|lK cg (aS Tryz.zeroValue56)<|fun b15 C2 cG=>bk cG (i:=0) O (DN ((hv.mono hK).at J J) O O O (cG.blk (i:=0) O) O)<|fun Ja er=>aa<|SR<|V (fA dw 1 O jF O)<|lV dm er 0 O O rfl<|V (aC (((hv.mono hK).at J J).aZ.sl.hp er) O dm O)<|aE (v:=I 0) rfl<|aa<|aA<|have hfk:=hfn _ (lR (fF (d:=D2) h0 ‹k<l.length›));bt (G:=Int×Value×(List qz)×(List bu)) (fun⟨i,fv1,gs,Z1⟩ s' w'=>(Fr (7::(rg 18 12 [])) _ s')/\(Hp w w' (_:: .row fv1 88 67 (gs.length) (gs.flatMap sI):: .blk b6 (.cells (#[B true,fv1]) 56 (0,0))::_::Z1))/\(s' 18=I i)/\(0<=i)/\(i<=(l.getD k.toNat D2).aZ.length)/\(gs.map qz.fc=fs.map qz.fc++((l.getD k.toNat D2).aZ.take i.toNat).map qz.fc)/\(tD (Kz K Z1) gs)/\((gs.length:Int)=fs.length+i)) (fun⟨i,fv1,gs,Z1⟩=>((l.getD k.toNat D2).aZ.length-i).toNat) ((0,(fv0:Value),fs,Z)) ⟨Fr.refl _ _,er,rfl,J,J,aJ,hF,aJ⟩<| ?_
  rintro⟨i,fv1,gs,Z1⟩ aoc K9 ⟨rV,dP,Ol,i0,ik,B0,hF1,hb1⟩
  obtain⟨atE,atF⟩:=rV.w2 16 17
  obtain⟨NV,atG⟩:=rV.t2 3 pX 11 aas
  refine SR<|V (aN Ol atF)<|aa<|ai<|aF O (fun O0=> ?_) (fun O0=> ?_)
  .refine an<|ai<|aA<|SR<|V (ah (((hv.mono hK).at J J).aZ.sl.hp dP) dm qd atE Ol J)<|V (dZ (dv:=iB) fB (((hv.mono hK).at J J).aZ.sl.hp dP) dx O O O J)<|lK dP (aS tS)<|fun b23 NU cF=>bk cF (i:=0) O (sJ (((hv.mono hK).at J J).at J J) O O O (cF.blk (i:=0) O))<|fun w24 oc=>aa<|gp aP oc (sP (sP (sQ (sQ sR))))<|fun Wx dK=>AQ 0 O (dK.sub (sP (sP (sQ (sQ sR))))) (fA dw 1 O jF NV)<|AT 2 O (dK.sub (sP (sP (sQ (sQ sR))))) (fun w hS=>yN dx O O O (hS.blk (i:=0) O))<|gq 1 3 aP ?_ ?_
   .refine cf O aD O dK (sP (sP (sQ (sQ sR)))) (aG dm O O (dK.cell (i:=3) O O))<|A1 3<|YR O aD O dK (sP (sP (sQ (sQ sR)))) (ET K ((l.getD k.toNat D2).aZ.getD i.toNat iB) (hnn _ (lR (fF (d:=D2) h0 ‹k<l.length›)) _ (lR (fF (d:=iB) i0 aQ))) _ (hK.trans dK.kw) ((hv.at h0 aQ).at i0 aQ)) (ay call94 O)<|fun v32 w33 Z35 lF aEZ=>have uw:Hp _ w33 (_::_::_::_::_::(Z35++Z1)):=lF.HD (L:=[_,_,_,_,_]) (L':=Z1);?_
    obtain⟨f38,rfl,ayi,aqm⟩:=aEZ
    refine A1 4<|cH O aD O uw (sP (sP (sQ (sQ (sP (sA sR)))))) (f:=fun b=> .slice (some ⟨b,0,none⟩) 1 1) (Ab dm O O O (l:=[_]) O az az O)<|fun b43 w41 qQ=>A1 5<|fT O aD O qQ (j:=3) O (fun _=>(sQ (sP (sP (sQ (sQ (sP (sA sR)))))))) (Hp.iu fB qQ (i:=0) (l:=[_]) O gd) O O dm O O (size:=67) (bytes:=552) O O O az (MM aqm) Yr Ym<|fun v46 w44 rY=>AQ 6 O (rY.sub (sQ (sP (sP (sQ (sQ (sP (sA sR)))))))) (fA dw 1 O jF NV)<|A1 7<|ef O aD rY (j:=4) O (sQ (sP (sP (sQ (sQ (sP (sA sR))))))) (bM O O (v:=v46) O (a6 (rY.get (i:=3) O)).1 (a6 (rY.get (i:=3) O)).2 (rY.blk (i:=4) O) aJ)<|fun w49 eL=>AD<|au<|V (ax Ol O J)<|mI rfl<|aa<| ?_
    refine⟨(i+1,v46,(gs++[f38]),(Z35++Z1)),aW,rV.u4.u4.u4.u1,(Hp.conv (eL.sub (sQ (sQ sR))) aJ),(aK I aL),J,J,?_,?_,?_⟩
    .rw[IL i0 aQ,gV,B0,dG];simp only[lT,Cc];rw[ayi]
    .exact(hF1.mono (Le.zz fun y hy=>bH _ hy)).snoc (aqm.mono (Le.zz fun y hy=>dL _ hy))
    simp only[ec,eA];omega
   refine YR O aD O dK (sP (sP (sQ (sQ sR)))) (ET K ((l.getD k.toNat D2).aZ.getD i.toNat iB) (hnn _ (lR (fF (d:=D2) h0 ‹k<l.length›)) _ (lR (fF (d:=iB) i0 aQ))) _ (hK.trans dK.kw) ((hv.at h0 aQ).at i0 aQ)) (ay call94 O)<|fun v53 w54 Z56 jC aE1=>have oK:Hp _ w54 (_::_::_::_::_::(Z56++Z1)):=jC.HD (L:=[_,_,_,_,_]) (L':=Z1);?_
   obtain⟨f59,rfl,aqn,acw⟩:=aE1
   refine gq 1 4 aP ?_ ?_
   .refine cf O aD O oK (sP (sP (sQ (sQ (sP (sA sR)))))) (aG dm O O (oK.cell (i:=3) O O))<|A1 4<|cH O aD O oK (sP (sP (sQ (sQ (sP (sA sR)))))) (f:=fun b=> .slice (some ⟨b,0,none⟩) 1 1) (Ab dm O O O (l:=[_]) O az az O)<|fun b66 w64 wR=>A1 5<|fT O aD O wR (j:=3) O (fun _=>(sQ (sP (sP (sQ (sQ (sP (sA sR)))))))) (Hp.iu fB wR (i:=0) (l:=[_]) O gd) O O dm O O (size:=67) (bytes:=552) O O O az (MM acw) Yr Ym<|fun v69 w67 kG=>AQ 6 O (kG.sub (sQ (sP (sP (sQ (sQ (sP (sA sR)))))))) (fA dw 1 O jF NV)<|A1 7<|ef O aD kG (j:=4) O (sQ (sP (sP (sQ (sQ (sP (sA sR))))))) (bM O O (v:=v69) O (a6 (kG.get (i:=3) O)).1 (a6 (kG.get (i:=3) O)).2 (kG.blk (i:=4) O) aJ)<|fun w72 uX=>AD<|au<|V (ax Ol O J)<|mI rfl<|aa<| ?_
    refine⟨(i+1,v69,(gs++[f59]),(Z56++Z1)),aW,rV.u4.u4.u4.u1,(Hp.conv (uX.sub (sQ (sQ sR))) aJ),(aK I aL),J,J,?_,?_,?_⟩
    .rw[IL i0 aQ,gV,B0,dG];simp only[lT,Cc];rw[aqn]
    .exact(hF1.mono (Le.zz fun y hy=>bH _ hy)).snoc (acw.mono (Le.zz fun y hy=>dL _ hy))
    simp only[ec,eA];omega
   refine cH O aD O oK (sP (sP (sQ (sQ (sP (sA sR)))))) (f:=fun b=> .slice (some ⟨b,0,none⟩) 1 1) (Ab dm O O O (l:=[_]) O az az O)<|fun b76 w74 uY=>A1 1<|cf O aD O uY (sQ (sP (sP (sQ (sQ (sP (sA sR))))))) (aG dm O O (uY.cell (i:=4) O O))<|A1 5<|fT O aD O uY (j:=3) O (fun _=>(sQ (sP (sP (sQ (sQ (sP (sA sR)))))))) (Hp.iu fB uY (i:=0) (l:=[_]) O gd) O O dm O O (size:=67) (bytes:=552) O O O az (MM acw) Yr Ym<|fun v81 w79 pE=>AQ 6 O (pE.sub (sQ (sP (sP (sQ (sQ (sP (sA sR)))))))) (fA dw 1 O jF NV)<|A1 7<|ef O aD pE (j:=4) O (sQ (sP (sP (sQ (sQ (sP (sA sR))))))) (bM O O (v:=v81) O (a6 (pE.get (i:=3) O)).1 (a6 (pE.get (i:=3) O)).2 (pE.blk (i:=4) O) aJ)<|fun w84 WJ=>AD<|au<|V (ax Ol O J)<|mI rfl<|aa<| ?_
   refine⟨(i+1,v81,(gs++[f59]),(Z56++Z1)),aW,rV.u4.u4.u4.u1,(Hp.conv (WJ.sub (sQ (sQ sR))) aJ),(aK I aL),J,J,?_,?_,?_⟩
   .rw[IL i0 aQ,gV,B0,dG];simp only[lT,Cc];rw[aqn]
   .exact(hF1.mono (Le.zz fun y hy=>bH _ hy)).snoc (acw.mono (Le.zz fun y hy=>dL _ hy))
   simp only[ec,eA];omega
  refine a8 (id:=2) rfl<|au<|V (ax atG O J)<|mI rfl<|aa<| ?_
  refine⟨(k+1,fv1,gs,Z1),aW,(((nS.u4.u4).t rV O)).u1.u1.u1,(Hp.conv (dP.sub (sQ sR)) aL),(aK I aL),J,J,?_,?_,J⟩
  .rw[adN h0 aQ,<-hm,B0,jm J];rfl
  exact hF1
 refine a8 (id:=0) rfl<|SR<|V (cA (cs:=[B _,_]) dw O O pX (bj (cg.blk (i:=1) O)))<|bk cg (i:=2) O (dO (c':=#[B true,fv0]) O xz O (amv (a6 (cg.get (i:=0) O)).2) (cg.blk (i:=2) O) O)<|fun w86 WK=>aa<|aj<| ?_
 obtain⟨Zr,hz,hzv,-⟩:=WK.T4 K
 refine rz (i:=Zr.length+1) results51 xz hz (amw (i:=1) O) dw O O ⟨Zr++Z,hz.sub (XL (.refl _) (sQ (sQ (.refl _)))),⟨true,fv0,fs⟩,rfl,?_,?_,?_⟩
 .rw[kR.sh,hm,ahk aQ]
 .exact hzv.mono (Le.zz fun y hy=>dL _ hy)
 exact(hF.mono (Le.zz fun y hy=>bH _ hy)).each
theorem AX(K:Vu)(s:lM)(hvl:s.vars.length<=1000)(w:World)(hK:Le K (Kw w))(hs:D4 K s):Calls Tryz.prog 37 #[.agg (IM s)] w (Gt K (fun K' u=>∃m:Gz,u= .agg (adQ m).toArray/\m.HC=MW s.sc/\MY K' m) w):=by
 have B0:=hs.aq.small
 have Ke:=hs.vars.small
 unfold maxLen at B0 Ke
 refine eH func37 rfl rfl fun hH=>SR<|gN hH (v:= .agg _) rfl<|fun b3 w1 bp=>lK bp (aS Wl)<|fun b6 w4 bY=>aa<|SR<|lK bY (aS Wl)<|fun b9 w7 eW=>have cg:=eW.eR 37 8;have df:=cg.eR 297 1;aa<|ai<|SR<|va (v:=I 0) rfl<|aa<|aA<|bt (G:=Int×Value×(List El)×Value×(List T5)) (fun⟨k,v0,ls,v1,gr⟩ s' w'=>(Fr (rg 4 51 []) _ s')/\(Hp w w' (.row v1 297 1 (gr.length) (apo gr):: .row v0 37 8 (ls.length) (ls.flatMap pJ):: .blk b9 (.cells (#[v0,v1]) 93 (0,0))::_))/\(s' 4=I k)/\(0<=k)/\(k<=s.vars.length)/\(ls=(s.vars.take k.toNat).map (Ad s.sc))/\(gr=List.replicate k.toNat HA)/\((ls.length:Int)=k)/\((gr.length:Int)=k)) (fun⟨k,v0,ls,v1,gr⟩=>(s.vars.length-k).toNat) ((0,(.slice none 0 0:Value),[],(.slice none 0 0:Value),[])) ⟨Fr.refl _ _,df,rfl,J,J,rfl,rfl,rfl,rfl⟩<| ?_
 rintro⟨k,v0,ls,v1,gr⟩ aab zc ⟨mj,cP,tW,h0,hk,hm,hgr,hl,hl2⟩
 obtain⟨pe,zg,kP⟩:=mj.w3 1 2 3
 refine ai<|SR<|aE tW<|V (fA gI 1 O uo pe)<|V (bZ ((hs.mono hK).vars.sl.hp cP) lU O O (cP.cell (i:=4) O O))<|V (aC ((hs.mono hK).vars.sl.hp cP) O lU O)<|V (aN O O)<|aa<|aF O (fun Ga=> ?_) (fun Ga=> ?_)
 .refine an<|ai<|aA<|SR<|V (fA gI 1 O uo pe)<|V (bZ ((hs.mono hK).vars.sl.hp cP) lU O O (cP.cell (i:=4) O O))<|aE tW<|V (ah ((hs.mono hK).vars.sl.hp cP) lU Fb O O J)<|V (dZ (dv:=fq) tF ((hs.mono hK).vars.sl.hp cP) o4 O O O J)<|lK cP (aS Tryz.zeroValue63)<|fun b17 Tm cI=>bk cI (i:=0) O (dO (c':=(O1 _).toArray) O O O LN (cI.blk (i:=0) O) O)<|fun K9 iD=>aa<|SR<|V (dI (vs:=[]) O (oV))<|lK iD (aS eZ)<|fun b22 Z7 fJ=>bk fJ (i:=0) O (cR O O O (fJ.blk (i:=0) O))<|fun w23 gY=>aa<|ai<|SR<|V (fA o4 1 O aO O)<|lI bx gY 1 O O rfl<|V (bV O O)<|mB rfl<|bK 23 O (fun Wt=> ?_) (fun Wt=> ?_)
  .refine V (fA o4 2 O aO O)<|lI bx gY 1 O O rfl<|V (dF O O)<|mB rfl<|mB rfl<|bK 28 O (fun Wv=> ?_) (fun Wv=> ?_)
   .refine V (fA o4 2 O aO O)<|lI bx gY 1 O O rfl<|V (fA gI 0 O oo pe)<|V (bZ ((hs.mono hK).aq.sl.hp gY) ji O O (gY.cell (i:=6) O O))<|V (aC ((hs.mono hK).aq.sl.hp gY) O ji O)<|V (aN O O)<|mB rfl<|aa<|aF O (fun Pj=> ?_) (fun Pj=> ?_)
    .refine au<|V (fA gI 0 O oo pe)<|V (bZ ((hs.mono hK).aq.sl.hp gY) ji O O (gY.cell (i:=6) O O))<|V (fA o4 2 O aO O)<|lI bx gY 1 O O rfl<|V (ah ((hs.mono hK).aq.sl.hp gY) ji xV O O J)<|V (fA sB 1 O vi O)<|V (l7 (dv:=mJ) (off:=1) (cs:=yd _) oz ((hs.mono hK).aq.sl.hp gY) dw O O O J (Ac _))<|aH O gY (Da _ _ _ (((hs.mono hK).at J J).mono gY.kw)) (aM call81 O (show _=B false from O))<|fun w31 iC=>bk iC (i:=0) O (cR O O O (iC.blk (i:=0) O))<|fun w33 lF=>aa<|SR<|V (fA mG 0 O jq kP)<|lV bU lF 4 O O rfl<|V (cN bI O O O (lF.blk (i:=0) O))<|tR 1 1 lF (fY bU O O O O)<|fun b37 w35 j7=> ?_
     (try simp only[lj]at j7)
     refine gf O j7 (i:=4) O (Hp.iu cY j7 (i:=0) (l:=[_]) O gd) O O bU O O (size:=8) (bytes:=64) O O O az (gS _) R2 RW<|fun v38 w39 lG=>V (fA mG 0 O jq kP)<|bk lG (i:=5) O (bM O O (v:=v38) O (a6 (lG.get (i:=4) O)).1 (a6 (lG.get (i:=4) O)).2 (lG.blk (i:=5) O) Sa)<|fun w41 qQ=>aa<|au<|V (fA mG 1 O Cf kP)<|lV uk qQ 5 O O rfl<|tR 1 1 qQ (yO (v:=(.slice none 0 0)) O uk O O O O)<|fun b45 w43 qo=> ?_
     (try simp only[lj]at qo)
     refine gf O qo (i:=4) O (qo.dS (i:=0) (n:=1) (sz:=1) O O az) O O uk O O (size:=1) (bytes:=24) O O O az (abw O) R3 RX<|fun v46 w47 jB=>V (fA mG 1 O Cf kP)<|bk jB (i:=6) O (bM O O (v:=v46) O (a6 (jB.get (i:=4) O)).1 (a6 (jB.get (i:=4) O)).2 (jB.blk (i:=6) O) Sb)<|fun w49 eL=>aa<|au<|aE tW<|V (ax O O J)<|aI rfl<|aa<| ?_
     refine⟨(k+1,v38,(ls++[Ad s.sc (s.vars.getD k.toNat fq)]),v46,(gr++[HA])),aW,mj.u4.u4.u4.u4.u4.u4.u4.u4.u4.u4.u4.u4.u1.u1.u1,(Hp.conv (eL.sub (sQ (sQ (sQ (sQ sR))))) (by rw[awZ ‹(s.vars.getD k.toNat fq).kind=1› ⟨J,J⟩,<-ahj];simp[HA,shG];done)),(aK I aL),J,J,?_,?_,?_,?_⟩
     .rw[hm];exact DO h0 ‹k<_›
     .rw[hgr];exact DP h0
     .simp only[ec,eA];omega
     simp only[ec,eA];omega
    refine an<|SR<|V (fA mG 0 O jq kP)<|lV bU gY 4 O O rfl<|V (cN bI O O O (gY.blk (i:=0) O))<|tR 1 1 gY (fY bU O O O O)<|fun b53 w51 BS=> ?_
    (try simp only[lj]at BS)
    refine gf O BS (i:=4) O (Hp.iu cY BS (i:=0) (l:=[_]) O gd) O O bU O O (size:=8) (bytes:=64) O O O az (gS _) R2 RW<|fun v54 w55 ni=>V (fA mG 0 O jq kP)<|bk ni (i:=5) O (bM O O (v:=v54) O (a6 (ni.get (i:=4) O)).1 (a6 (ni.get (i:=4) O)).2 (ni.blk (i:=5) O) Sa)<|fun w57 oK=>aa<|au<|V (fA mG 1 O Cf kP)<|lV uk oK 5 O O rfl<|tR 1 1 oK (yO (v:=(.slice none 0 0)) O uk O O O O)<|fun b61 w59 yy=> ?_
    (try simp only[lj]at yy)
    refine gf O yy (i:=4) O (yy.dS (i:=0) (n:=1) (sz:=1) O O az) O O uk O O (size:=1) (bytes:=24) O O O az (abw O) R3 RX<|fun v62 w63 wS=>V (fA mG 1 O Cf kP)<|bk wS (i:=6) O (bM O O (v:=v62) O (a6 (wS.get (i:=4) O)).1 (a6 (wS.get (i:=4) O)).2 (wS.blk (i:=6) O) Sb)<|fun w65 aoj=>aa<|au<|aE tW<|V (ax O O J)<|aI rfl<|aa<| ?_
    refine⟨(k+1,v54,(ls++[Ad s.sc (s.vars.getD k.toNat fq)]),v62,(gr++[HA])),aW,mj.u4.u4.u4.u4.u4.u4.u4.u4.u4.u4.u1.u1.u1,(Hp.conv (aoj.sub (sQ (sQ (sQ (sQ sR))))) Yq),(aK I aL),J,J,?_,?_,?_,?_⟩
    .rw[hm];exact DO h0 ‹k<_›
    .rw[hgr];exact DP h0
    .simp only[ec,eA];omega
    simp only[ec,eA];omega
   refine aE (v:=B false) rfl<|aa<|cL rfl<|an<|SR<|V (fA mG 0 O jq kP)<|lV bU gY 4 O O rfl<|V (cN bI O O O (gY.blk (i:=0) O))<|tR 1 1 gY (fY bU O O O O)<|fun b69 w67 kG=> ?_
   (try simp only[lj]at kG)
   refine gf O kG (i:=4) O (Hp.iu cY kG (i:=0) (l:=[_]) O gd) O O bU O O (size:=8) (bytes:=64) O O O az (gS _) R2 RW<|fun v70 w71 Jg=>V (fA mG 0 O jq kP)<|bk Jg (i:=5) O (bM O O (v:=v70) O (a6 (Jg.get (i:=4) O)).1 (a6 (Jg.get (i:=4) O)).2 (Jg.blk (i:=5) O) Sa)<|fun w73 uZ=>aa<|au<|V (fA mG 1 O Cf kP)<|lV uk uZ 5 O O rfl<|tR 1 1 uZ (yO (v:=(.slice none 0 0)) O uk O O O O)<|fun b77 w75 oL=> ?_
   (try simp only[lj]at oL)
   refine gf O oL (i:=4) O (oL.dS (i:=0) (n:=1) (sz:=1) O O az) O O uk O O (size:=1) (bytes:=24) O O O az (abw O) R3 RX<|fun v78 w79 pE=>V (fA mG 1 O Cf kP)<|bk pE (i:=6) O (bM O O (v:=v78) O (a6 (pE.get (i:=4) O)).1 (a6 (pE.get (i:=4) O)).2 (pE.blk (i:=6) O) Sb)<|fun w81 oZ=>aa<|au<|aE tW<|V (ax O O J)<|aI rfl<|aa<| ?_
   refine⟨(k+1,v70,(ls++[Ad s.sc (s.vars.getD k.toNat fq)]),v78,(gr++[HA])),aW,mj.u4.u4.u4.u4.u4.u4.u4.u4.u4.u4.u1.u1.u1,(Hp.conv (oZ.sub (sQ (sQ (sQ (sQ sR))))) Yq),(aK I aL),J,J,?_,?_,?_,?_⟩
   .rw[hm];exact DO h0 ‹k<_›
   .rw[hgr];exact DP h0
   .simp only[ec,eA];omega
   simp only[ec,eA];omega
  refine aE (v:=B false) rfl<|mB rfl<|cC O rfl<|aE (v:=B false) rfl<|aa<|cL rfl<|an<|SR<|V (fA mG 0 O jq kP)<|lV bU gY 4 O O rfl<|V (cN bI O O O (gY.blk (i:=0) O))<|tR 1 1 gY (fY bU O O O O)<|fun b85 w83 lm=> ?_
  (try simp only[lj]at lm)
  refine gf O lm (i:=4) O (Hp.iu cY lm (i:=0) (l:=[_]) O gd) O O bU O O (size:=8) (bytes:=64) O O O az (gS _) R2 RW<|fun v86 w87 zh=>V (fA mG 0 O jq kP)<|bk zh (i:=5) O (bM O O (v:=v86) O (a6 (zh.get (i:=4) O)).1 (a6 (zh.get (i:=4) O)).2 (zh.blk (i:=5) O) Sa)<|fun w89 oM=>aa<|au<|V (fA mG 1 O Cf kP)<|lV uk oM 5 O O rfl<|tR 1 1 oM (yO (v:=(.slice none 0 0)) O uk O O O O)<|fun b93 w91 Jh=> ?_
  (try simp only[lj]at Jh)
  refine gf O Jh (i:=4) O (Jh.dS (i:=0) (n:=1) (sz:=1) O O az) O O uk O O (size:=1) (bytes:=24) O O O az (abw O) R3 RX<|fun v94 w95 pY=>V (fA mG 1 O Cf kP)<|bk pY (i:=6) O (bM O O (v:=v94) O (a6 (pY.get (i:=4) O)).1 (a6 (pY.get (i:=4) O)).2 (pY.blk (i:=6) O) Sb)<|fun w97 Om=>aa<|au<|aE tW<|V (ax O O J)<|aI rfl<|aa<| ?_
  refine⟨(k+1,v86,(ls++[Ad s.sc (s.vars.getD k.toNat fq)]),v94,(gr++[HA])),aW,mj.u4.u4.u4.u4.u4.u4.u4.u4.u4.u4.u1.u1.u1,(Hp.conv (Om.sub (sQ (sQ (sQ (sQ sR))))) Yq),(aK I aL),J,J,?_,?_,?_,?_⟩
  .rw[hm];exact DO h0 ‹k<_›
  .rw[hgr];exact DP h0
  .simp only[ec,eA];omega
  simp only[ec,eA];omega
 refine a8 (id:=0) rfl<|SR<| ?_
 obtain⟨Z99,ayo,ayp,-⟩:=(cP.pj [1]).T4 (K)
 have rM:Hp _ zc (_::_::_::_::Z99):=ayo.amx (L:=[_,_,_,_])
 obtain⟨aat,aj5,aj6,-⟩:=rM.T4 (K)
 have nj:Hp _ zc (_::_::_::(aat++Z99)):=aj5.HD (L:=[_,_,_]) (L':=Z99)
 subst hgr
 have aqq:MY (Kz K (aat++Z99)) (⟨v0,ls,v1,List.replicate k.toNat HA⟩:Gz):=⟨(ayp.mono (Le.zz (fun x hx=>(bH _ hx)))),(aj6.mono (Le.zz (fun x hx=>(dL _ hx)))),uG.amF _ _⟩
 refine V (cA (cs:=adQ (⟨v0,ls,v1,List.replicate k.toNat HA⟩:Gz)) mG O O kP (bj (nj.blk (i:=0) O)))<|bk nj (i:=1) O (dO (c':=(adQ (⟨v0,ls,v1,List.replicate k.toNat HA⟩:Gz)).toArray) O zg O (ahB aqq) (nj.blk (i:=1) O) O)<|fun atM xB=>aa<|aj<|rz O zg xB (i:=1) O mG O O ⟨(aat++Z99),(xB.sub (sQ (sQ (sQ sR)))),(⟨v0,ls,v1,List.replicate k.toNat HA⟩:Gz),rfl,?_,aqq⟩
 exact UC hm h0 ‹¬k<_› hk
theorem Dd(s:lM)(w:World)(hs:D4 (Kw w) s):Calls Tryz.prog 32 #[.agg (IM s)] w (Pure (B (vP s)) w):=by
 have B0:=hs.aq.sl.small
 have Ke:=hs.vars.sl.small
 unfold maxLen at B0 Ke
 refine eH func32 rfl rfl fun hH=>SR<|gN hH (v:= .agg _) rfl<|fun b3 w1 bp=>va (v:=B false) rfl<|aa<|ai<|SR<|V (fA gI 0 O oo O)<|V (bZ (hs.aq.sl.hp bp) ji O O (bp.cell (i:=0) O O))<|V (aC (hs.aq.sl.hp bp) O ji O)<|V (dN O O)<|mB rfl<|bK 11 O (fun h5=> ?_) (fun h5=> ?_)
 .refine aE (v:=B true) rfl<|aa<|ct rfl<|SR<|va (v:=B true) rfl<|aa<|aj<|oB O ?_ bp
  (rw[vP,gW J];rfl)
 refine V (fA gI 1 O uo O)<|V (bZ (hs.vars.sl.hp bp) lU O O (bp.cell (i:=0) O O))<|V (aC (hs.vars.sl.hp bp) O lU O)<|V (dN O O)<|mB rfl<|aa<|aF O (fun h7=> ?_) (fun h7=> ?_)
 .refine SR<|va (v:=B true) rfl<|aa<|aj<|oB O ?_ bp
  (rw[vP,gW J];rfl)
 refine an<|ai<|SR<|V (fA gI 0 O oo O)<|V (bZ (hs.aq.sl.hp bp) ji O O (bp.cell (i:=0) O O))<|V (aC (hs.aq.sl.hp bp) O ji O)<|aE (v:=I 0) rfl<|aa<|aA<|have hno:¬(20<s.aq.length\/80<s.vars.length):=J;bt (G:=Int) (fun k s' w'=>(Fr (2::(4::(rg 20 14 []))) _ s')/\(Hp w w' _)/\(s' 20=I k)/\(0<=k)/\(k<=s.aq.length)/\(∀j:Int,0<=j->j<k->U7 (s.aq.getD j.toNat mJ)=false)) (fun k=>(s.aq.length-k).toNat) (0) ⟨Fr.refl _ _,bp,rfl,J,J,fun j a b=>absurd b J⟩<| ?_
 rintro k sg8 w8 ⟨fr8,eW,aj7,h0,hk,hg⟩
 obtain⟨aE8,ayq,ayr⟩:=fr8.w3 1 18 19
 refine SR<|V (aN aj7 ayr)<|aa<|ai<|aF O (fun h10=> ?_) (fun h10=> ?_)
 .refine an<|ai<|aA<|SR<|V (ah (hs.aq.sl.hp eW) ji xV ayq aj7 J)<|V (dZ (dv:=mJ) oz (hs.aq.sl.hp eW) sB O O O J)<|lK eW (aS Wj)<|fun N8 I8 cP=>bk cP (i:=0) O (dO (c':=(MP _).toArray) O O O (U6 (hs.at J J)) (cP.blk (i:=0) O) O)<|fun QT gT=>aa<|SR<|V (fA sB 1 O vi O)<|V (iN (sub:=yd _) dw O O O (gT.blk (i:=0) O) O)<|aH O gT (Dc _ _ ((hs.at J J).mono gT.kw)) (ay call72 O)<|fun Ja er=>mB rfl<|ez 27 O (fun N3=> ?_) (fun N3=> ?_)
  .refine aE (v:=B true) rfl<|aa<|ct rfl<|SR<|va (v:=B true) rfl<|aa<|aj<|oB O ?_ er
   (rw[vP,Gw (d:=mJ) (P:=U7) h0 ‹k<_› (by rw[U7,qa];exact .inl aQ)];simp)
  refine V (fA sB 0 O kr O)<|V (aG iy O O (er.cell (i:=0) O (v:= .string _) O))<|V (lB O iy O)<|V (dN O O)<|mB rfl<|aa<|aF O (fun Ob=> ?_) (fun Ob=> ?_)
  .refine SR<|va (v:=B true) rfl<|aa<|aj<|oB O ?_ er
   (rw[vP,Gw (d:=mJ) (P:=U7) h0 ‹k<_› (by rw[U7,qa];exact .inr (gW J))];simp)
  refine an<|au<|V (ax aj7 O J)<|mI rfl<|aa<| ?_
  refine⟨k+1,aW,fr8.u4.u4.u4.u1.u1.u1,(er.sub (sQ sR)),(aK I aL),J,J,?_⟩
  exact fun j a b=>if e:j=k then e▸(by rw[U7,Bool.or_eq_false_iff];exact⟨aQ,gZ J⟩)else hg j a J
 refine a8 (id:=0) rfl<|ai<|SR<|V (fA gI 1 O uo aE8)<|V (bZ (hs.vars.sl.hp eW) lU O O (eW.cell (i:=0) O O))<|V (aC (hs.vars.sl.hp eW) O lU O)<|aE (v:=I 0) rfl<|aa<|aA<|have hla:s.aq.any U7=false:=SB (d:=mJ) aQ hg;bt (G:=Int) (fun j s' w'=>(Fr (2::(6::(rg 37 9 []))) _ s')/\(Hp w w' _)/\(s' 37=I j)/\(0<=j)/\(j<=s.vars.length)/\(∀i:Int,0<=i->i<j->arV (s.vars.getD i.toNat fq)=false)) (fun j=>(s.vars.length-j).toNat) (0) ⟨Fr.refl _ _,eW,rfl,J,J,fun j a b=>absurd b J⟩<| ?_
 rintro j ays QV ⟨TC,cF,aau,j0,jk,hv⟩
 obtain⟨atN,atO⟩:=TC.w2 35 36
 refine SR<|V (aN aau atO)<|aa<|ai<|aF O (fun xu=> ?_) (fun xu=> ?_)
 .refine an<|ai<|aA<|SR<|V (ah (hs.vars.sl.hp cF) lU Fb atN aau J)<|V (dZ (dv:=fq) tF (hs.vars.sl.hp cF) o4 O O O J)<|lK cF (aS Tryz.zeroValue63)<|fun b27 w25 jg=>bk jg (i:=0) O (dO (c':=(O1 _).toArray) O O O LN (jg.blk (i:=0) O) O)<|fun w28 gj=>aa<|SR<|V (fA o4 0 O kr O)<|V (aG iy O O (gj.cell (i:=0) O (v:= .string _) O))<|V (lB O iy O)<|V (dN O O)<|aa<|aF O (fun h31=> ?_) (fun h31=> ?_)
  .refine SR<|va (v:=B true) rfl<|aa<|aj<|oB O ?_ gj
   (rw[vP,Gw (d:=fq) (P:=arV) j0 ‹j<_› (gW J)];simp)
  refine an<|au<|V (ax aau O J)<|mI rfl<|aa<| ?_
  refine⟨j+1,aW,TC.u4.u4.u1.u1,(gj.sub (sQ sR)),(aK I aL),J,J,?_⟩
  exact fun i a b=>if e:i=j then e▸(gZ J)else hv i a J
 refine a8 (id:=2) rfl<|SR<|va (v:=B false) rfl<|aa<|aj<|oB O ?_ cF
 (rw[vP,hla,SB (d:=fq) aQ hv,gZ hno];rfl)
theorem AY(s:lM)(w:World)(hs:D4 (Kw w) s):Calls Tryz.prog 34 #[.agg (IM s)] w (Pure (B (jc s)) w):=by
 have B0:=hs.aq.sl.small
 have Ke:=hs.vars.sl.small
 unfold maxLen at B0 Ke
 refine eH func34 rfl rfl fun hH=>SR<|gN hH (v:= .agg _) rfl<|fun b3 w1 bp=>va (v:=B false) rfl<|aa<|SR<|va (v:= .slice none 0 0) rfl<|have iw:=bp.eR 9 1;aa<|ai<|SR<|V (fA gI 0 O oo O)<|V (bZ (hs.aq.sl.hp iw) ji O O (iw.cell (i:=1) O O))<|V (aC (hs.aq.sl.hp iw) O ji O)<|V (dN O O)<|mB rfl<|bK 12 O (fun h6=> ?_) (fun h6=> ?_)
 .refine aE (v:=B true) rfl<|aa<|ct rfl<|SR<|va (v:=B false) rfl<|aa<|aj<|oB O ?_ iw
  exact(Qc J).symm
 refine V (fA gI 1 O uo O)<|V (bZ (hs.vars.sl.hp iw) lU O O (iw.cell (i:=1) O O))<|V (aC (hs.vars.sl.hp iw) O lU O)<|V (dN O O)<|mB rfl<|aa<|aF O (fun h8=> ?_) (fun h8=> ?_)
 .refine SR<|va (v:=B false) rfl<|aa<|aj<|oB O ?_ iw
  exact(Qc J).symm
 refine an<|ai<|SR<|va (v:=I 0) rfl<|aa<|aA<|have hsz:s.aq.length<=16/\s.vars.length<=64:=J;have hnl:(rB s).length=s.aq.length+s.vars.length:=(by simp[rB]);bt (G:=Int×(List Tx)×Value) (fun⟨k,m,v3⟩ s' w'=>(Fr (rg 2 3 (rg 18 24 [])) _ s')/\(Hp w w' (.row v3 9 1 (m.length) (JD m)::_))/\(s' 3=v3)/\(s' 4=I k)/\(0<=k)/\(k<=s.aq.length)/\(m=(s.aq.take k.toNat).map D3.name)/\((m.length:Int)=k)/\(∀j:Int,0<=j->j<k->mA (s.aq.getD j.toNat mJ).zx.sh=true)) (fun⟨k,m,v3⟩=>(s.aq.length-k).toNat) ((0,[],(.slice none 0 0:Value))) ⟨Fr.refl _ _,iw,rfl,rfl,J,J,rfl,rfl,fun j a b=>absurd b J⟩<| ?_
 rintro⟨k,m,v3⟩ sg9 w9 ⟨fr9,iE,aae,Pk,h0,hk,hm,hml,hg⟩
 have aad:=fr9.w1 1
 refine ai<|SR<|aE Pk<|V (fA gI 0 O oo aad)<|V (bZ (hs.aq.sl.hp iE) ji O O (iE.cell (i:=1) O O))<|V (aC (hs.aq.sl.hp iE) O ji O)<|V (aN O O)<|aa<|aF O (fun h11=> ?_) (fun h11=> ?_)
 .refine an<|ai<|aA<|ai<|SR<|V (fA gI 0 O oo aad)<|V (bZ (hs.aq.sl.hp iE) ji O O (iE.cell (i:=1) O O))<|aE Pk<|V (ah (hs.aq.sl.hp iE) ji xV O O J)<|V (fA sB 1 O vi O)<|V (l7 (dv:=mJ) (off:=1) (cs:=yd _) oz (hs.aq.sl.hp iE) dw O O O J (Ac _))<|aH O iE (mQ _ _ ((hs.at J J).mono iE.kw)) (ay call73 O)<|fun zc bX=>V (bJ O)<|aa<|bW O (fun ym=> ?_) (fun ym=> ?_)
  .refine SR<|va (v:=B false) rfl<|aa<|aj<|oB O ?_ bX
   exact(adS h0 ‹k<_› (by rw[MZ,nt ‹(!mA _)=true›,Li])).symm
  refine an<|au<|aE aae<|V (fA gI 0 O oo aad)<|V (bZ (hs.aq.sl.hp bX) ji O O (bX.cell (i:=1) O O))<|aE Pk<|V (ah (hs.aq.sl.hp bX) ji xV O O J)<|V (fA sB 0 O kr O)<|V (gC (dv:=mJ) (off:=0) oz (hs.aq.sl.hp bX) iy O O J O)<|tR 1 1 bX (cB dX O O (sz:=1) (vs:=[.string _]) O O az az O O)<|fun b19 Tp dP=> ?_
  (try simp only[lj]at dP)
  refine gf O dP (i:=1) O (dP.dS (i:=0) (n:=1) (sz:=1) O O az) O O dX O O (size:=1) (bytes:=16) O O O az gX J iz<|fun v20 NU cF=> ?_
  refine V (run_assign bA) ?_
  refine aa<|au<|aE Pk<|V (ax O O J)<|aI rfl<|aa<| ?_
  refine⟨(k+1,m++[(s.aq.getD k.toNat mJ).name],v20),aW,fr9.u4.u4.u4.u4.u4.u4.u1.u1,(Hp.conv (cF.sub (sQ sR)) aJ),rfl,(aK I aL),J,J,?_,?_,?_⟩
  .rw[Vd h0 ‹k<_›,<-hm]
  .simp only[ec,eA];omega
  exact fun j a b=>if e:j=k then e▸nf ‹(!mA _)=false›else hg j a J
 refine a8 (id:=0) rfl<|ai<|SR<|va (v:=I 0) rfl<|aa<|aA<|bt (G:=Int×(List Tx)×Value) (fun⟨j,m2,v3⟩ s' w'=>(Fr (2::3::(5::6::(rg 42 38 []))) _ s')/\(Hp w w' (.row v3 9 1 (m2.length) (JD m2)::_))/\(s' 3=v3)/\(s' 5=I j)/\(0<=j)/\(j<=s.vars.length)/\(m2=m++(s.vars.take j.toNat).map vO.name)/\((m2.length:Int)=k+j)/\(∀i:Int,0<=i->i<j->((s.vars.getD i.toNat fq).kind=1\/(s.vars.getD i.toNat fq).kind=2)/\0<=(s.vars.getD i.toNat fq).bf/\(s.vars.getD i.toNat fq).bf<s.aq.length)) (fun⟨j,m2,v3⟩=>(s.vars.length-j).toNat) ((0,m,(v3:Value))) ⟨Fr.refl _ _,iE,aae,rfl,J,J,(mY m).symm,J,fun j a b=>absurd b J⟩<| ?_
 rintro⟨j,m2,v3⟩ aE9 w23 ⟨aeT,eM,aj8,acy,j0,hj,Ke,aN0,hv⟩
 have QY:=aeT.t1 1 aad
 refine ai<|SR<|aE acy<|V (fA gI 1 O uo QY)<|V (bZ (hs.vars.sl.hp eM) lU O O (eM.cell (i:=1) O O))<|V (aC (hs.vars.sl.hp eM) O lU O)<|V (aN O O)<|aa<|aF O (fun Jc=> ?_) (fun Jc=> ?_)
 .refine an<|ai<|aA<|SR<|V (fA gI 1 O uo QY)<|V (bZ (hs.vars.sl.hp eM) lU O O (eM.cell (i:=1) O O))<|aE acy<|V (ah (hs.vars.sl.hp eM) lU Fb O O J)<|V (dZ (dv:=fq) tF (hs.vars.sl.hp eM) o4 O O O J)<|lK eM (aS Tryz.zeroValue63)<|fun b28 Wx dK=>bk dK (i:=0) O (dO (c':=(O1 _).toArray) O O O LN (dK.blk (i:=0) O) O)<|fun w29 iW=>aa<|ai<|SR<|V (fA o4 1 O aO O)<|lI bx iW 0 O O rfl<|V (jZ O O)<|mB rfl<|bK 57 O (fun BR=> ?_) (fun BR=> ?_)
  .refine V (fA o4 1 O aO O)<|lI bx iW 0 O O rfl<|V (jZ O O)<|mB rfl<|mB rfl<|bK 62 O (fun h34=> ?_) (fun h34=> ?_)
   .refine aE (v:=B true) rfl<|mB rfl<|cC O rfl<|aE (v:=B true) rfl<|aa<|ct rfl<|SR<|va (v:=B false) rfl<|aa<|aj<|oB O ?_ iW
    exact(yP j0 ‹j<_› LL).symm
   refine V (fA o4 2 O aO O)<|lI bx iW 0 O O rfl<|V (aN O O)<|mB rfl<|mB rfl<|bK 67 O (fun h36=> ?_) (fun h36=> ?_)
   .refine aE (v:=B true) rfl<|aa<|ct rfl<|SR<|va (v:=B false) rfl<|aa<|aj<|oB O ?_ iW
    exact(yP j0 ‹j<_› LL).symm
   refine V (fA o4 2 O aO O)<|lI bx iW 0 O O rfl<|V (fA gI 0 O oo QY)<|V (bZ (hs.aq.sl.hp iW) ji O O (iW.cell (i:=2) O O))<|V (aC (hs.aq.sl.hp iW) O ji O)<|V (dF O O)<|mB rfl<|aa<|aF O (fun h38=> ?_) (fun h38=> ?_)
   .refine SR<|va (v:=B false) rfl<|aa<|aj<|oB O ?_ iW
    exact(yP j0 ‹j<_› LL).symm
   refine an<|au<|aE aj8<|V (fA o4 0 O kr O)<|V (aG iy O O (iW.cell (i:=0) O (v:= .string _) O))<|tR 1 1 iW (cB dX O O (sz:=1) (vs:=[.string _]) O O az az O O)<|fun b41 w39 lG=> ?_
   (try simp only[lj]at lG)
   refine gf O lG (i:=2) O (lG.dS (i:=0) (n:=1) (sz:=1) O O az) O O dX O O (size:=1) (bytes:=16) O O O az gX J iz<|fun v42 w43 qo=> ?_
   refine V (run_assign bA) ?_
   refine aa<|au<|aE acy<|V (ax O O J)<|aI rfl<|aa<| ?_
   refine⟨(j+1,m2++[(s.vars.getD j.toNat fq).name],v42),aW,aeT.u4.u4.u4.u4.u4.u4.u4.u4.u4.u4.u1,(Hp.conv (qo.sub (sQ (sQ sR))) aJ),rfl,(aK I aL),J,J,?_,?_,?_⟩
   .rw[JF j0 ‹j<_›,Ke,dG]
   .simp only[ec,eA];omega
   exact fun i a b=>if e:i=j then e▸(by omega)else hv i a J
  refine aE (v:=B false) rfl<|mB rfl<|cC O rfl<|V (fA o4 2 O aO O)<|lI bx iW 0 O O rfl<|V (aN O O)<|mB rfl<|mB rfl<|bK 67 O (fun h46=> ?_) (fun h46=> ?_)
  .refine aE (v:=B true) rfl<|aa<|ct rfl<|SR<|va (v:=B false) rfl<|aa<|aj<|oB O ?_ iW
   exact(yP j0 ‹j<_› LL).symm
  refine V (fA o4 2 O aO O)<|lI bx iW 0 O O rfl<|V (fA gI 0 O oo QY)<|V (bZ (hs.aq.sl.hp iW) ji O O (iW.cell (i:=2) O O))<|V (aC (hs.aq.sl.hp iW) O ji O)<|V (dF O O)<|mB rfl<|aa<|aF O (fun h48=> ?_) (fun h48=> ?_)
  .refine SR<|va (v:=B false) rfl<|aa<|aj<|oB O ?_ iW
   exact(yP j0 ‹j<_› LL).symm
  refine an<|au<|aE aj8<|V (fA o4 0 O kr O)<|V (aG iy O O (iW.cell (i:=0) O (v:= .string _) O))<|tR 1 1 iW (cB dX O O (sz:=1) (vs:=[.string _]) O O az az O O)<|fun b51 w49 eL=> ?_
  (try simp only[lj]at eL)
  refine gf O eL (i:=2) O (eL.dS (i:=0) (n:=1) (sz:=1) O O az) O O dX O O (size:=1) (bytes:=16) O O O az gX J iz<|fun v52 w53 gR=> ?_
  refine V (run_assign bA) ?_
  refine aa<|au<|aE acy<|V (ax O O J)<|aI rfl<|aa<| ?_
  refine⟨(j+1,m2++[(s.vars.getD j.toNat fq).name],v52),aW,aeT.u4.u4.u4.u4.u4.u4.u4.u4.u4.u4.u1,(Hp.conv (gR.sub (sQ (sQ sR))) aJ),rfl,(aK I aL),J,J,?_,?_,?_⟩
  .rw[JF j0 ‹j<_›,Ke,dG]
  .simp only[ec,eA];omega
  exact fun i a b=>if e:i=j then e▸(by omega)else hv i a J
 refine a8 (id:=2) rfl<|ai<|SR<|va (v:=I 0) rfl<|aa<|aA<|have hnm:m2=rB s:=(by rw[Ke,hm,jm J,jm J];rfl);bt (G:=Int) (fun i s' w'=>(Fr (2::(7::(rg 80 12 []))) _ s')/\(Hp w w' _)/\(s' 7=I i)/\(0<=i)/\(i<=m2.length)/\(∀x:Int,0<=x->x<i->iS (m2.getD x.toNat qg)=true)) (fun i=>(m2.length-i).toNat) (0) ⟨Fr.refl _ _,eM,rfl,J,J,fun j a b=>absurd b J⟩<| ?_
 rintro i ayt w55 ⟨On,jC,WL,i0,i1,hn⟩
 have Oo:=On.t1 3 aj8
 refine ai<|SR<|aE WL<|aE Oo<|V (aC (jC.sl (i:=0) O) O dX O)<|V (aN O O)<|aa<|aF O (fun Pu=> ?_) (fun Pu=> ?_)
 .refine an<|ai<|aA<|SR<|aE Oo<|aE WL<|V (ah (jC.sl (i:=0) O) dX kr O O J)<|V (aG iy O O ((jC.sl (i:=0) O).cell _ _ (Cz J)))<|aH O jC (iK _ _) (ay call74 O)<|fun w58 BT=>V (bJ O)<|aa<|bW O (fun h62=> ?_) (fun h62=> ?_)
  .refine SR<|va (v:=B false) rfl<|aa<|aj<|oB O ?_ BT
   exact(Y7 i0 (by rw[hnm]at*;omega) (by rw[<-hnm];exact nt ‹(!iS _)=true›)).symm
  refine an<|au<|aE WL<|V (ax O O J)<|aI rfl<|aa<| ?_
  refine⟨i+1,aW,On.u4.u4.u4.u1,BT,(aK I aL),J,J,?_⟩
  exact fun x a b=>if e:x=i then e▸nf ‹(!iS _)=false›else hn x a J
 refine a8 (id:=4) rfl<|SR<|aE Oo<|aH O jC (j8 _ _ _ (jC.sl (i:=0) O)) (ay call75 O)<|fun w63 wS=>V (aN O O)<|aB rfl<|aa<|aj<|oB O ?_ wS
 (rw[hnm]at*;exact(adU hk hj hsz ‹¬k<_› hg ‹¬j<_› hv ‹¬i<_› hn).symm)
theorem Hf(v:Value)(l:List dV)(w:World)(hs:Sl w v 10 l.length (l.flatMap kg)):Calls Tryz.prog 103 #[v] w (Pure (B (fU l)) w):=by
 have hm:=hs.small
 unfold maxLen at hm
 refine eH func103 rfl rfl fun hH=>SR<|va (v:=B false) rfl<|aa<|SR<|va (v:=I 0) rfl<|aa<|ai<|SR<| ?_
 refine V (run_move bA) ?_
 refine V (aC (hs.hp hH) O ia O)<|aE (v:=I 0) rfl<|aa<|aA<|bt (G:=Int×Int) (fun⟨k,d⟩ s' w'=>(Fr (2::3::(5::(rg 8 29 []))) _ s')/\(Hp w w' _)/\(s' 3=I d)/\(s' 8=I k)/\(0<=k)/\(k<=l.length)/\(jx l k=some d)) (fun⟨k,d⟩=>(l.length-k).toNat) ((0,0)) ⟨Fr.refl _ _,hH,rfl,rfl,J,J,yQ l⟩<| ?_
 rintro⟨k,d⟩ sg1 w1 ⟨uJ,jf,sX,Pe,h0,hk,hd⟩
 obtain⟨Pf,Wn⟩:=uJ.w2 6 7
 have hdb:=KY h0 hk hd
 refine SR<|V (aN Pe Wn)<|aa<|ai<|aF O (fun h3=> ?_) (fun h3=> ?_)
 .refine an<|ai<|aA<|SR<|V (ah (hs.hp jf) ia po Pf Pe J)<|V (dZ (dv:=bG) gP (hs.hp jf) dY O O O J)<|lK jf (aS y8)<|fun b6 w4 bY=>bk bY (i:=0) O (dO (c':=(kg _).toArray) O O O (vV _) (bY.blk (i:=0) O) O)<|fun w7 eW=>aa<|SR<|V (fA dY 0 O aO O)<|lI bx eW 0 O O rfl<|aa<|aA<|ai<|SR<|V (bV O O)<|aB rfl<|aa<|aF O (fun h10=> ?_) (fun h10=> ?_)
  .refine an<|ct (bT h10)<|au<|aE sX<|V (ax O O J)<|aI rfl<|aa<|au<|V (ax Pe O J)<|mI rfl<|aa<| ?_
   refine⟨(k+1,d+1),aW,uJ.u4.u4.u4.u1,(eW.sub (sQ sR)),(aK I aL),(aK I aL),J,J,?_⟩
   rw[jd h0 ‹k<_›,hd];exact uS (.inl aQ)
  refine au<|V (bV O O)<|aB rfl<|aa<|aF O (fun h12=> ?_) (fun h12=> ?_)
  .refine au<|aE sX<|V (ax O O J)<|aI rfl<|aa<|au<|V (ax Pe O J)<|mI rfl<|aa<| ?_
   refine⟨(k+1,d+1),aW,uJ.u4.u4.u4.u1.u1.u1,(eW.sub (sQ sR)),(aK I aL),(aK I aL),J,J,?_⟩
   rw[jd h0 ‹k<_›,hd];exact uS (.inr aQ)
  refine ai<|SR<|V (bV O O)<|aB rfl<|aa<|aF O (fun Ga=> ?_) (fun Ga=> ?_)
  .refine an<|ct (bT Ga)<|ai<|SR<|V (fA dY 1 O aO O)<|lI bx eW 0 O O rfl<|V (aN O O)<|mB rfl<|bK 25 O (fun ym=> ?_) (fun ym=> ?_)
   .refine aE (v:=B true) rfl<|aa<|ct rfl<|SR<|va (v:=B false) rfl<|aa<|aj<|oB O ?_ eW
    exact(EB h0 ‹k<_› hd (Ae J J)).symm
   refine V (fA dY 1 O aO O)<|lI bx eW 0 O O rfl<|aE sX<|V (dN O O)<|mB rfl<|aa<|aF O (fun qn=> ?_) (fun qn=> ?_)
   .refine SR<|va (v:=B false) rfl<|aa<|aj<|oB O ?_ eW
    exact(EB h0 ‹k<_› hd (Ae J J)).symm
   refine an<|au<|aE sX<|V (fA dY 1 O aO O)<|lI bx eW 0 O O rfl<|V (eO O O J)<|V (eO O O J)<|aI rfl<|aa<|au<|V (ax Pe O J)<|mI rfl<|aa<| ?_
   refine⟨(k+1,d-(l.getD k.toNat bG).n+1),aW,uJ.u4.u4.u4.u4.u4.u4.u4.u1,(eW.sub (sQ sR)),(aK I J),(aK I aL),J,J,?_⟩
   rw[jd h0 ‹k<_›,hd];exact M1 J J J
  refine au<|V (bV O O)<|aB rfl<|aa<|aF O (fun O0=> ?_) (fun O0=> ?_)
  .refine ai<|SR<|V (fA dY 1 O aO O)<|lI bx eW 0 O O rfl<|V (aN O O)<|mB rfl<|bK 25 O (fun h22=> ?_) (fun h22=> ?_)
   .refine aE (v:=B true) rfl<|aa<|ct rfl<|SR<|va (v:=B false) rfl<|aa<|aj<|oB O ?_ eW
    exact(EB h0 ‹k<_› hd (Ae J J)).symm
   refine V (fA dY 1 O aO O)<|lI bx eW 0 O O rfl<|aE sX<|V (dN O O)<|mB rfl<|aa<|aF O (fun xu=> ?_) (fun xu=> ?_)
   .refine SR<|va (v:=B false) rfl<|aa<|aj<|oB O ?_ eW
    exact(EB h0 ‹k<_› hd (Ae J J)).symm
   refine an<|au<|aE sX<|V (fA dY 1 O aO O)<|lI bx eW 0 O O rfl<|V (eO O O J)<|V (eO O O J)<|aI rfl<|aa<|au<|V (ax Pe O J)<|mI rfl<|aa<| ?_
   refine⟨(k+1,d-(l.getD k.toNat bG).n+1),aW,uJ.u4.u4.u4.u4.u4.u4.u4.u1.u1.u1,(eW.sub (sQ sR)),(aK I J),(aK I aL),J,J,?_⟩
   rw[jd h0 ‹k<_›,hd];exact M1 J J J
  refine SR<|va (v:=B false) rfl<|aa<|aj<|oB O ?_ eW
  exact(EB h0 ‹k<_› hd (SG J J)).symm
 refine a8 (id:=0) rfl<|SR<|aE sX<|V (bV O O)<|aB rfl<|aa<|aj<|oB O ?_ jf
 exact(Y9 hk ‹¬k<_› hd).symm
theorem rN(v:Value)(l:List dV)(w:World)(hs:Sl w v 10 l.length (l.flatMap kg)):Calls Tryz.prog 78 #[v] w (Pure (B (fU l)) w):=by
 have hm:=hs.small
 unfold maxLen at hm
 refine eH func78 rfl rfl fun hH=>SR<|va (v:=B false) rfl<|aa<|SR<|va (v:=I 0) rfl<|aa<|ai<|SR<|va (v:=I 0) rfl<|aa<|aA<|bt (G:=Int×Int) (fun⟨k,d⟩ s' w'=>(Fr (rg 2 45 []) _ s')/\(Hp w w' _)/\(s' 3=I d)/\(s' 4=I k)/\(0<=k)/\(k<=l.length)/\(jx l k=some d)) (fun⟨k,d⟩=>(l.length-k).toNat) ((0,0)) ⟨Fr.refl _ _,hH,rfl,rfl,J,J,yQ l⟩<| ?_
 rintro⟨k,d⟩ sg1 w1 ⟨uJ,jf,sX,Ay,h0,hk,hd⟩
 have my:=uJ.w1 0
 have hdb:=KY h0 hk hd
 refine ai<|SR<|aE Ay<|aE my<|V (aC (hs.hp jf) O ia O)<|V (aN O O)<|aa<|aF O (fun h3=> ?_) (fun h3=> ?_)
 .refine an<|ai<|aA<|SR<|aE my<|aE Ay<|V (ah (hs.hp jf) ia po O O J)<|V (fA dY 0 O aO O)<|V (gC (dv:=bG) (off:=0) gP (hs.hp jf) bx O O J O)<|aa<|aA<|ai<|SR<|V (bV O O)<|aB rfl<|aa<|aF O (fun h5=> ?_) (fun h5=> ?_)
  .refine an<|ct (bT h5)<|au<|aE sX<|V (ax O O J)<|aI rfl<|aa<|au<|aE Ay<|V (ax O O J)<|aI rfl<|aa<| ?_
   refine⟨(k+1,d+1),aW,uJ.u4.u4.u4.u4.u1,jf,(aK I aL),(aK I aL),J,J,?_⟩
   rw[jd h0 ‹k<_›,hd];exact uS (.inl aQ)
  refine au<|V (bV O O)<|aB rfl<|aa<|aF O (fun h7=> ?_) (fun h7=> ?_)
  .refine au<|aE sX<|V (ax O O J)<|aI rfl<|aa<|au<|aE Ay<|V (ax O O J)<|aI rfl<|aa<| ?_
   refine⟨(k+1,d+1),aW,uJ.u4.u4.u4.u4.u1.u1.u1,jf,(aK I aL),(aK I aL),J,J,?_⟩
   rw[jd h0 ‹k<_›,hd];exact uS (.inr aQ)
  refine ai<|SR<|V (bV O O)<|aB rfl<|aa<|aF O (fun h9=> ?_) (fun h9=> ?_)
  .refine an<|ct (bT h9)<|ai<|SR<|aE my<|aE Ay<|V (ah (hs.hp jf) ia po O O J)<|V (fA dY 1 O aO O)<|V (gC (dv:=bG) (off:=1) gP (hs.hp jf) bx O O J O)<|V (aN O O)<|mB rfl<|bK 30 O (fun h11=> ?_) (fun h11=> ?_)
   .refine aE (v:=B true) rfl<|aa<|ct rfl<|SR<|va (v:=B false) rfl<|aa<|aj<|oB O ?_ jf
    exact(EB h0 ‹k<_› hd (Ae J J)).symm
   refine aE my<|aE Ay<|V (ah (hs.hp jf) ia po O O J)<|V (fA dY 1 O aO O)<|V (gC (dv:=bG) (off:=1) gP (hs.hp jf) bx O O J O)<|aE sX<|V (dN O O)<|mB rfl<|aa<|aF O (fun To=> ?_) (fun To=> ?_)
   .refine SR<|va (v:=B false) rfl<|aa<|aj<|oB O ?_ jf
    exact(EB h0 ‹k<_› hd (Ae J J)).symm
   refine an<|au<|aE sX<|aE my<|aE Ay<|V (ah (hs.hp jf) ia po O O J)<|V (fA dY 1 O aO O)<|V (gC (dv:=bG) (off:=1) gP (hs.hp jf) bx O O J O)<|V (eO O O J)<|V (ax O O J)<|aI rfl<|aa<|au<|aE Ay<|V (ax O O J)<|aI rfl<|aa<| ?_
   refine⟨(k+1,d-(l.getD k.toNat bG).n+1),aW,uJ.u4.u4.u4.u4.u4.u4.u4.u4.u4.u4.u1.u1,jf,(aK I aL),(aK I aL),J,J,?_⟩
   rw[jd h0 ‹k<_›,hd];exact M1 J J J
  refine au<|V (bV O O)<|aB rfl<|aa<|aF O (fun Ec=> ?_) (fun Ec=> ?_)
  .refine ai<|SR<|aE my<|aE Ay<|V (ah (hs.hp jf) ia po O O J)<|V (fA dY 1 O aO O)<|V (gC (dv:=bG) (off:=1) gP (hs.hp jf) bx O O J O)<|V (aN O O)<|mB rfl<|bK 30 O (fun G9=> ?_) (fun G9=> ?_)
   .refine aE (v:=B true) rfl<|aa<|ct rfl<|SR<|va (v:=B false) rfl<|aa<|aj<|oB O ?_ jf
    exact(EB h0 ‹k<_› hd (Ae J J)).symm
   refine aE my<|aE Ay<|V (ah (hs.hp jf) ia po O O J)<|V (fA dY 1 O aO O)<|V (gC (dv:=bG) (off:=1) gP (hs.hp jf) bx O O J O)<|aE sX<|V (dN O O)<|mB rfl<|aa<|aF O (fun N3=> ?_) (fun N3=> ?_)
   .refine SR<|va (v:=B false) rfl<|aa<|aj<|oB O ?_ jf
    exact(EB h0 ‹k<_› hd (Ae J J)).symm
   refine an<|au<|aE sX<|aE my<|aE Ay<|V (ah (hs.hp jf) ia po O O J)<|V (fA dY 1 O aO O)<|V (gC (dv:=bG) (off:=1) gP (hs.hp jf) bx O O J O)<|V (eO O O J)<|V (ax O O J)<|aI rfl<|aa<|au<|aE Ay<|V (ax O O J)<|aI rfl<|aa<| ?_
   refine⟨(k+1,d-(l.getD k.toNat bG).n+1),aW,uJ.u4.u4.u4.u4.u4.u4.u4.u4.u4.u4.u4,jf,(aK I aL),(aK I aL),J,J,?_⟩
   rw[jd h0 ‹k<_›,hd];exact M1 J J J
  refine SR<|va (v:=B false) rfl<|aa<|aj<|oB O ?_ jf
  exact(EB h0 ‹k<_› hd (SG J J)).symm
 refine a8 (id:=0) rfl<|SR<|aE sX<|V (bV O O)<|aB rfl<|aa<|aj<|oB O ?_ jf
 exact(Y9 hk ‹¬k<_› hd).symm
theorem kJ(s:lM)(v kd bf:Int)(w:World)(hs:D4 (Kw w) s):Calls Tryz.prog 76 #[.agg (IM s),I v,I kd,I bf] w (Pure (B (rf s v kd bf)) w):=by
 have B0:=hs.aq.sl.small
 have Ke:=hs.vars.sl.small
 unfold maxLen at B0 Ke
 refine eH func76 rfl rfl fun hH=>SR<|gN hH (v:= .agg _) rfl<|fun b3 w1 bp=>va (v:=B false) rfl<|aa<|SR<|mI rfl<|V (dF O O)<|mB rfl<|bK 11 O (fun h5=> ?_) (fun h5=> ?_)
 .refine mI rfl<|V (fA gI 1 O uo O)<|V (bZ (hs.vars.sl.hp bp) lU O O (bp.cell (i:=0) O O))<|V (aC (hs.vars.sl.hp bp) O lU O)<|V (aN O O)<|mB rfl<|mB rfl<|bK 18 O (fun h7=> ?_) (fun h7=> ?_)
  .refine V (fA gI 1 O uo O)<|V (bZ (hs.vars.sl.hp bp) lU O O (bp.cell (i:=0) O O))<|mI rfl<|V (ah (hs.vars.sl.hp bp) lU Fb O O J)<|V (fA o4 1 O aO O)<|V (gC (dv:=fq) (off:=1) tF (hs.vars.sl.hp bp) bx O O J O)<|mI rfl<|V (bV O O)<|mB rfl<|mB rfl<|bK 28 O (fun h9=> ?_) (fun h9=> ?_)
   .refine V (fA gI 1 O uo O)<|V (bZ (hs.vars.sl.hp bp) lU O O (bp.cell (i:=0) O O))<|mI rfl<|V (ah (hs.vars.sl.hp bp) lU Fb O O J)<|V (fA o4 2 O aO O)<|V (gC (dv:=fq) (off:=2) tF (hs.vars.sl.hp bp) bx O O J O)<|mI rfl<|V (bV O O)<|mB rfl<|aB rfl<|aa<|aj<|oB O ?_ bp
    (rw[ahH ⟨J,J⟩ ‹(List.getD s.vars _ _).kind=kd›];done)
   refine aE (v:=B false) rfl<|aB rfl<|aa<|aj<|oB O ?_ bp
   (rw[ahG ‹¬(List.getD s.vars _ _).kind=kd›];done)
  refine aE (v:=B false) rfl<|mB rfl<|cC O rfl<|aE (v:=B false) rfl<|aB rfl<|aa<|aj<|oB O ?_ bp
  (rw[Vh J];done)
 refine aE (v:=B false) rfl<|mB rfl<|cC O rfl<|aE (v:=B false) rfl<|mB rfl<|cC O rfl<|aE (v:=B false) rfl<|aB rfl<|aa<|aj<|oB O ?_ bp
 (rw[Vh J];done)
theorem mq(s:lM)(bf:Int)(t:iT)(aFc:0<=bf/\bf<s.aq.length)(w:World)(hs:D4 (Kw w) s):Calls Tryz.prog 79 #[.agg (IM s),I bf,.agg (jJ t).toArray] w (Pure (B (mh s bf t)) w):=by
 have B0:=hs.aq.sl.small
 have Ke:=hs.vars.sl.small
 unfold maxLen at B0 Ke
 refine eH func79 rfl rfl fun hH=>SR<|gN hH (v:= .agg _) rfl<|fun b3 w1 bp=>gN bp (v:= .agg _) rfl<|fun b6 w4 bY=>va (v:=B false) rfl<|aa<|ai<|SR<|V (fA kM 0 O aO O)<|lI bx bY 0 O O rfl<|V (aN O O)<|aa<|aF O (fun h8=> ?_) (fun h8=> ?_)
 .refine ai<|ed aP bY<|fun w9 cg=>have AJ:=cg;AQ 0 O AJ (fA gI 0 O oo O)<|AT 1 O AJ (fun w hS=>bZ (hs.aq.sl.hp hS) ji O O (hS.cell (i:=1) O O))<|AQ 2 O AJ (mV (I _) O)<|AT 3 O AJ (fun w hS=>ah (hs.aq.sl.hp hS) ji xV O O J)<|AQ 4 O AJ (fA sB 1 O vi O)<|AT 5 O AJ (fun w hS=>l7 (dv:=mJ) (off:=1) (cs:=yd _) oz (hs.aq.sl.hp hS) dw O O O J (Ac _))<|AQ 6 O AJ (fA kM 1 O fl O)<|AT 7 O AJ (fun w hS=>nr bI O O O (hS.blk (i:=0) O) (Ve _))<|A1 8<|cw O aD O cg sR (nT _ _ _ ((hs.at J J).mono cg.kw)) (aM call80 O O)<|fun I8 cP=>AQ 9 O cP (aV (B _) O)<|AD<|aj<|oB O ?_ cP
  (rw[atom_1 ‹t.var<0›];rfl)
 refine an<|SR<|V (cA (cs:=CE _) gI O O O (bj (bY.blk (i:=1) O)))<|V (fA kM 0 O aO O)<|lI bx bY 0 O O rfl<|mI rfl<|aH O bY (kJ _ _ _ _ _ (hs.mono bY.kw)) (jH call76 O O (show _=I 1 from O) O)<|fun QT gT=>aB rfl<|aa<|aj<|oB O ?_ gT
 (rw[ar7 ‹¬t.var<0›];done)
theorem rO(s:lM)(bf:Int)(r:BA)(aFc:0<=bf/\bf<s.aq.length)(w:World)(hs:D4 (Kw w) s)(hr:Y8 (Kw w) r):Calls Tryz.prog 77 #[.agg (IM s),I bf,.agg (SE r).toArray] w (Pure (B (vX s bf r)) w):=by
 have B0:=hs.aq.sl.small
 have Ke:=hs.vars.sl.small
 unfold maxLen at B0 Ke
 have hm3:=hr.fields.small
 unfold maxLen at hm3
 refine eH func77 rfl rfl fun hH=>SR<|gN hH (v:= .agg _) rfl<|fun b3 w1 bp=>gN bp (v:= .agg _) rfl<|fun b6 w4 bY=>va (v:=B false) rfl<|aa<|SR<|va (v:= .slice none 0 0) rfl<|have eE:=bY.eR 9 1;aa<|ai<|SR<|V (fA qb 0 O vk O)<|V (bZ (hr.fields.sl.hp eE) m4 O O (eE.cell (i:=1) O O))<|V (aC (hr.fields.sl.hp eE) O m4 O)<|V (dN O O)<|mB rfl<|bK 13 O (fun h9=> ?_) (fun h9=> ?_)
 .refine gm O O rfl<|gm O O rfl<|gm O O rfl<|gm O O rfl<|gm O O rfl<|gm O O rfl<|zV<|aE (v:=B true) rfl<|aa<|ct rfl<|SR<|va (v:=B false) rfl<|aa<|aj<|oB O ?_ eE
  exact(amI J).symm
 refine V (fA qb 1 O aO O)<|lI bx eE 1 O O rfl<|V (dF O O)<|mB rfl<|bK 17 O (fun h11=> ?_) (fun h11=> ?_)
 .refine V (cA (cs:=CE _) gI O O O (bj (eE.blk (i:=2) O)))<|V (fA qb 1 O aO O)<|lI bx eE 1 O O rfl<|mI rfl<|aH O eE (kJ _ _ _ _ _ (hs.mono eE.kw)) (jH call76 O O (show _=I 2 from O) O)<|fun zc bX=>V (bJ O)<|mB rfl<|mB rfl<|aa<|bW O (fun ym=> ?_) (fun ym=> ?_)
  .refine SR<|va (v:=B false) rfl<|aa<|aj<|oB O ?_ bX
   exact(amJ J (nt ‹(!rf s r.tail 2 bf)=true›)).symm
  refine an<|ai<|SR<|va (v:=I 0) rfl<|aa<|aA<|have hsz:r.fields.length<=16:=J;have htl:r.tail<0\/rf s r.tail 2 bf=true:=(by exact .inr (nf ‹(!rf s r.tail 2 bf)=false›));bt (G:=Int×(List Tx)×Value) (fun⟨k,m,v7⟩ s' w'=>(Fr (rg 6 3 (rg 26 34 [])) _ s')/\(Hp w w' (.row v7 9 1 (m.length) (JD m)::_))/\(s' 7=v7)/\(s' 8=I k)/\(0<=k)/\(k<=r.fields.length)/\(m=(r.fields.take k.toNat).map lD.name)/\((m.length:Int)=k)/\(∀j:Int,0<=j->j<k->rC s bf (r.fields.getD j.toNat nO)=true)) (fun⟨k,m,v7⟩=>(r.fields.length-k).toNat) ((0,[],(.slice none 0 0:Value))) ⟨Fr.refl _ _,bX,rfl,rfl,J,J,rfl,rfl,fun j a b=>absurd b J⟩<| ?_
  rintro⟨k,m,v7⟩ aES Tp ⟨ajR,er,aqr,WM,h0,hk,hm,hml,hg⟩
  obtain⟨ayu,ayv,N2⟩:=ajR.w3 1 3 5
  refine ai<|SR<|aE WM<|V (fA qb 0 O vk N2)<|V (bZ (hr.fields.sl.hp er) m4 O O (er.cell (i:=1) O O))<|V (aC (hr.fields.sl.hp er) O m4 O)<|V (aN O O)<|aa<|aF O (fun N3=> ?_) (fun N3=> ?_)
  .refine an<|ai<|aA<|SR<|aE aqr<|V (fA qb 0 O vk N2)<|V (bZ (hr.fields.sl.hp er) m4 O O (er.cell (i:=1) O O))<|aE WM<|V (ah (hr.fields.sl.hp er) m4 HR O O J)<|V (fA HP 0 O kr O)<|V (gC (dv:=nO) (off:=0) sK (hr.fields.sl.hp er) iy O O J O)<|tR 1 1 er (cB dX O O (sz:=1) (vs:=[.string _]) O O az az O O)<|fun b22 Z7 fJ=> ?_
   (try simp only[lj]at fJ)
   refine gf O fJ (i:=1) O (fJ.dS (i:=0) (n:=1) (sz:=1) O O az) O O dX O O (size:=1) (bytes:=16) O O O az gX J iz<|fun v23 w24 oc=> ?_
   refine V (run_assign bA) ?_
   refine aa<|ai<|ed aP oc<|fun Wx dK=>have TD:=dK;?_
   refine AQ 0 O TD (run_move bA) ?_
   refine AQ 1 O TD (run_move WM)<|AT 2 O TD (fun w hS=>ah (hS.sl (i:=1) O) dX kr O O J)<|AT 3 O TD (fun w hS=>aG iy O O ((hS.sl (i:=1) O).cell _ _ (Vi hml)))<|A1 4<|cw O aD O dK sR (iK _ _) (ay call74 O)<|fun w28 gj=>have Ee:=gj;AQ 5 O Ee (bJ O)<|AQ 6 O Ee (mV (B _) O)<|L4 (dj:=48) O (fun BR=> ?_) (fun BR=> ?_)
   .refine AK 7 O O (bR (c:=true) BR) gj<|AK 8 O O (bR (c:=true) BR) gj<|AK 9 O O (bR (c:=true) BR) gj<|AK 10 O O (bR (c:=true) BR) gj<|AK 11 O O (bR (c:=true) BR) gj<|AK 12 O O (bR (c:=true) BR) gj<|AK 13 O O (bR (c:=true) BR) gj<|AK 14 O O (bR (c:=true) BR) gj<|AK 15 O O (bR (c:=true) BR) gj<|AK 16 O O (bR (c:=true) BR) gj<|AQ 17 O Ee (gM (bR (c:=true) BR) (v:=B true) O)<|AD<|ct rfl<|SR<|va (v:=B false) rfl<|aa<|aj<|oB O ?_ gj
    exact(K1 h0 ‹k<_› (Qe (nt ‹(!iS _)=true›))).symm
   refine AG 7 O O (bR (c:=false) BR) gj (fun w hS=>cA (cs:=CE _) gI O O ayv (bj (hS.blk (i:=3) O)))<|BQ 8 O O (bR (c:=false) BR) gj (run_move ayu)<|BQ 9 O O (bR (c:=false) BR) gj (fA qb 0 O vk N2)<|AG 10 O O (bR (c:=false) BR) gj (fun w hS=>bZ (hr.fields.sl.hp hS) m4 O O (hS.cell (i:=2) O O))<|BQ 11 O O (bR (c:=false) BR) gj (run_move WM)<|AG 12 O O (bR (c:=false) BR) gj (fun w hS=>ah (hr.fields.sl.hp hS) m4 HR O O J)<|BQ 13 O O (bR (c:=false) BR) gj (fA HP 1 O kQ O)<|AG 14 O O (bR (c:=false) BR) gj (fun w hS=>l7 (dv:=nO) (off:=1) (cs:=jJ _) sK (hr.fields.sl.hp hS) kM O O O J (Qd _))<|A1 15<|cw O (A8 O (bR (c:=false) BR)) O gj sR (mq _ _ _ J _ (hs.mono gj.kw)) (bz call79 O O O)<|fun w33 lF=>BQ 16 O O (bR (c:=false) BR) lF (bJ O)<|AQ 17 O lF (ep (bR (c:=false) BR) (v:=B _) O)<|AD<|bW O (fun h37=> ?_) (fun h37=> ?_)
   .refine SR<|va (v:=B false) rfl<|aa<|aj<|oB O ?_ lF
    exact(K1 h0 ‹k<_› (Qf (nt ‹(!mh s bf _)=true›))).symm
   refine an<|au<|aE WM<|V (ax O O J)<|aI rfl<|aa<| ?_
   refine⟨(k+1,m++[(r.fields.getD k.toNat nO).name],v23),aW,ajR.u4.u4.u4.u4.u4.u4.u4.u4.u4,(Hp.conv (lF.sub (sQ sR)) aJ),rfl,(aK I aL),J,J,?_,?_,?_⟩
   .rw[JG h0 ‹k<_›,<-hm]
   .simp only[ec,eA];omega
   exact fun j a b=>if e:j=k then e▸Qg (nf ‹(!iS _)=false›) (nf ‹(!mh s bf _)=false›)else hg j a J
  refine a8 (id:=0) rfl<|SR<|aE aqr<|aH O er (j8 _ _ _ (er.sl (i:=0) O)) (ay call75 O)<|fun w38 kF=>V (aN O O)<|aB rfl<|aa<|aj<|oB O ?_ kF
  (rw[abA hsz htl ‹¬k<_› hg,show m=SH r by rw[hm,jm J];rfl])
 refine aE (v:=B false) rfl<|mB rfl<|aa<|cL rfl<|an<|ai<|SR<|va (v:=I 0) rfl<|aa<|aA<|have hsz:r.fields.length<=16:=J;have htl:r.tail<0\/rf s r.tail 2 bf=true:=(by exact .inl J);bt (G:=Int×(List Tx)×Value) (fun⟨k,m,v7⟩ s' w'=>(Fr (rg 6 3 (rg 26 34 [])) _ s')/\(Hp w w' (.row v7 9 1 (m.length) (JD m)::_))/\(s' 7=v7)/\(s' 8=I k)/\(0<=k)/\(k<=r.fields.length)/\(m=(r.fields.take k.toNat).map lD.name)/\((m.length:Int)=k)/\(∀j:Int,0<=j->j<k->rC s bf (r.fields.getD j.toNat nO)=true)) (fun⟨k,m,v7⟩=>(r.fields.length-k).toNat) ((0,[],(.slice none 0 0:Value))) ⟨Fr.refl _ _,eE,rfl,rfl,J,J,rfl,rfl,fun j a b=>absurd b J⟩<| ?_
 rintro⟨k,m,v7⟩ aFd w41 ⟨WN,jU,aqs,WO,h0,hk,hm,hml,hg⟩
 obtain⟨ayw,Oq,EU⟩:=WN.w3 1 3 5
 refine ai<|SR<|aE WO<|V (fA qb 0 O vk EU)<|V (bZ (hr.fields.sl.hp jU) m4 O O (jU.cell (i:=1) O O))<|V (aC (hr.fields.sl.hp jU) O m4 O)<|V (aN O O)<|aa<|aF O (fun h43=> ?_) (fun h43=> ?_)
 .refine an<|ai<|aA<|SR<|aE aqs<|V (fA qb 0 O vk EU)<|V (bZ (hr.fields.sl.hp jU) m4 O O (jU.cell (i:=1) O O))<|aE WO<|V (ah (hr.fields.sl.hp jU) m4 HR O O J)<|V (fA HP 0 O kr O)<|V (gC (dv:=nO) (off:=0) sK (hr.fields.sl.hp jU) iy O O J O)<|tR 1 1 jU (cB dX O O (sz:=1) (vs:=[.string _]) O O az az O O)<|fun b46 w44 rY=> ?_
  (try simp only[lj]at rY)
  refine gf O rY (i:=1) O (rY.dS (i:=0) (n:=1) (sz:=1) O O az) O O dX O O (size:=1) (bytes:=16) O O O az gX J iz<|fun v47 w48 FR=> ?_
  refine V (run_assign bA) ?_
  refine aa<|ai<|ed aP FR<|fun w50 rX=>have tY:=rX;?_
  refine AQ 0 O tY (run_move bA) ?_
  refine AQ 1 O tY (run_move WO)<|AT 2 O tY (fun w hS=>ah (hS.sl (i:=1) O) dX kr O O J)<|AT 3 O tY (fun w hS=>aG iy O O ((hS.sl (i:=1) O).cell _ _ (Vi hml)))<|A1 4<|cw O aD O rX sR (iK _ _) (ay call74 O)<|fun w52 jD=>have atT:=jD;AQ 5 O atT (bJ O)<|AQ 6 O atT (mV (B _) O)<|L4 (dj:=48) O (fun Hg=> ?_) (fun Hg=> ?_)
  .refine AK 7 O O (bR (c:=true) Hg) jD<|AK 8 O O (bR (c:=true) Hg) jD<|AK 9 O O (bR (c:=true) Hg) jD<|AK 10 O O (bR (c:=true) Hg) jD<|AK 11 O O (bR (c:=true) Hg) jD<|AK 12 O O (bR (c:=true) Hg) jD<|AK 13 O O (bR (c:=true) Hg) jD<|AK 14 O O (bR (c:=true) Hg) jD<|AK 15 O O (bR (c:=true) Hg) jD<|AK 16 O O (bR (c:=true) Hg) jD<|AQ 17 O atT (gM (bR (c:=true) Hg) (v:=B true) O)<|AD<|ct rfl<|SR<|va (v:=B false) rfl<|aa<|aj<|oB O ?_ jD
   exact(K1 h0 ‹k<_› (Qe (nt ‹(!iS _)=true›))).symm
  refine AG 7 O O (bR (c:=false) Hg) jD (fun w hS=>cA (cs:=CE _) gI O O Oq (bj (hS.blk (i:=3) O)))<|BQ 8 O O (bR (c:=false) Hg) jD (run_move ayw)<|BQ 9 O O (bR (c:=false) Hg) jD (fA qb 0 O vk EU)<|AG 10 O O (bR (c:=false) Hg) jD (fun w hS=>bZ (hr.fields.sl.hp hS) m4 O O (hS.cell (i:=2) O O))<|BQ 11 O O (bR (c:=false) Hg) jD (run_move WO)<|AG 12 O O (bR (c:=false) Hg) jD (fun w hS=>ah (hr.fields.sl.hp hS) m4 HR O O J)<|BQ 13 O O (bR (c:=false) Hg) jD (fA HP 1 O kQ O)<|AG 14 O O (bR (c:=false) Hg) jD (fun w hS=>l7 (dv:=nO) (off:=1) (cs:=jJ _) sK (hr.fields.sl.hp hS) kM O O O J (Qd _))<|A1 15<|cw O (A8 O (bR (c:=false) Hg)) O jD sR (mq _ _ _ J _ (hs.mono jD.kw)) (bz call79 O O O)<|fun w57 oK=>BQ 16 O O (bR (c:=false) Hg) oK (bJ O)<|AQ 17 O oK (ep (bR (c:=false) Hg) (v:=B _) O)<|AD<|bW O (fun h61=> ?_) (fun h61=> ?_)
  .refine SR<|va (v:=B false) rfl<|aa<|aj<|oB O ?_ oK
   exact(K1 h0 ‹k<_› (Qf (nt ‹(!mh s bf _)=true›))).symm
  refine an<|au<|aE WO<|V (ax O O J)<|aI rfl<|aa<| ?_
  refine⟨(k+1,m++[(r.fields.getD k.toNat nO).name],v47),aW,WN.u4.u4.u4.u4.u4.u4.u4.u4.u4,(Hp.conv (oK.sub (sQ sR)) aJ),rfl,(aK I aL),J,J,?_,?_,?_⟩
  .rw[JG h0 ‹k<_›,<-hm]
  .simp only[ec,eA];omega
  exact fun j a b=>if e:j=k then e▸Qg (nf ‹(!iS _)=false›) (nf ‹(!mh s bf _)=false›)else hg j a J
 refine a8 (id:=0) rfl<|SR<|aE aqs<|aH O jU (j8 _ _ _ (jU.sl (i:=0) O)) (ay call75 O)<|fun w62 nU=>V (aN O O)<|aB rfl<|aa<|aj<|oB O ?_ nU
 (rw[abA hsz htl ‹¬k<_› hg,show m=SH r by rw[hm,jm J];rfl])
end
end Go.Proofs.YtlhjdflgjbkpmaaGreatDoor.W

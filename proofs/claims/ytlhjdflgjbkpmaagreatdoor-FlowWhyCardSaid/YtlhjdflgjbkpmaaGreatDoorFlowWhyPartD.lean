/- Part 4 of the proof of FlowWhy: its plain laws and the walks of its functions. -/
import Derived.Test.YtlhjdflgjbkpmaaGreatDoorFlowWhyPartC
set_option linter.all false
namespace Go.Proofs.YtlhjdflgjbkpmaaGreatDoor.W
section
open Go Go.RowKit Go.Proofs.YtlhjdflgjbkpmaaGreatDoor.E Go.Proofs.YtlhjdflgjbkpmaaGreatDoor.M
set_option maxRecDepth 100000
open Go.Proofs.Tryz
theorem rR:∀w,(zeroValue 86).run Tryz.prog w= .ok (.agg (dV Rl.none)) w:=fun w=>by
 rw[jq];exact Tryz.zeroValue86 w
theorem zh(a:Int):Tryz.prog.built 86 [(0,I a)]=some (dV ⟨a,fun _=>0#64⟩):=by
 rw[jq];rfl
theorem JV:Tryz.prog.fieldsOf 86=#[{name:= "N",type:=3,offset:=0,embedded:=false,tag:= "",pkgPath:= "",byteOffset:=0},{name:= "Up",type:=84,offset:=1,embedded:=false,tag:= "",pkgPath:= "",byteOffset:=8}]:=by
 unfold Program.fieldsOf;rw[bS]
theorem Jd:amq Tryz.prog 86 {name:= "N",type:=3,offset:=0,embedded:=false,tag:= "",pkgPath:= "",byteOffset:=0} {name:= "Up",type:=84,offset:=1,embedded:=false,tag:= "",pkgPath:= "",byteOffset:=8} 35:=
 ⟨by rw[JV];exact bS,JV,az,az,rfl,rfl,bx,Tryz.isAgg3,sH,Tryz.isAgg84,uy,dO,cQ,Tryz.isAgg35,aQ,aQ⟩
theorem Hi:ElT Tryz.prog 37 35:=⟨bI,dO,cQ,Tryz.isAgg35,aQ⟩
theorem fg:∀w,(zeroValue 37).run Tryz.prog w= .ok (.agg (iM df)) w:=fun w=>by
 rw[ahf];exact Tryz.zeroValue37 w
theorem uf:∀w,(zeroValue 88).run Tryz.prog w= .ok (.agg (uY iB)) w:=fun w=>Tryz.zeroValue88 w
theorem NY:Tryz.prog.built 86 []=some (dV Rl.none):=by
 rw[jq];rfl
theorem aaa{v:Value}(h:v.cells=#[v]):Tryz.prog.built 56 [(1,v)]=some #[B false,v]:=
 (show Tryz.prog.built 56 [(1,v)]=Instr.fill (#[(0,1),(1,1)][·]?) #[B false,.slice none 0 0] [(1,v)]from O).trans (by simp only[Instr.fill,h];rfl)
theorem aab:Tryz.prog.built 56 [(0,B true)]=some #[B true,.slice none 0 0]:=rfl
theorem aeN(k:Int)(b n:Nat)(l:List Tx):Tryz.prog.built 88 [(0,I k),(1,.slice (some ⟨b,0,none⟩) n n)]=some (uY ⟨k,.slice (some ⟨b,0,none⟩) n n,l,Rl.none⟩):=rfl
theorem QY(a:BitVec 64):Tryz.prog.built 37 [(0,U a)]=some (iM (tK df 0 a)):=by
 rw[iq];rfl
theorem oY:Tryz.prog.built 37 []=some (iM df):=by
 rw[iq];rfl
theorem WA:∀w,(zeroValue 58).run Tryz.prog w= .ok (.agg (MV mP).toArray) w:=fun w=>Tryz.zeroValue58 w
theorem WB:∀w,(zeroValue 93).run Tryz.prog w= .ok (.agg (ad0 amT).toArray) w:=fun w=>Tryz.zeroValue93 w
theorem zi:∀w,(zeroValue 90).run Tryz.prog w= .ok (.agg (kq bG).toArray) w:=fun w=>(Tryz.zeroValue90 w).trans aQ
theorem aac:∀w,(zeroValue 143).run Tryz.prog w= .ok (.agg (uE nS).toArray) w:=fun w=>(Tryz.zeroValue143 w).trans aQ
theorem Hj:∀w,(zeroValue 44).run Tryz.prog w= .ok (.agg (u3 dN).toArray) w:=fun w=>(Tryz.zeroValue44 w).trans aQ
theorem aeO(r:Rl):Tryz.prog.built 212 [(0,.agg (dV r))]=some (lS r 0 0 (.slice none 0 0) (.slice none 0 0)).toArray:=by
 rw[jq];kernel_rfl
abbrev TX:O3:=(⟨95,97,141,59,62,64,66,56,199,139,72,117,135,212,[]⟩:O3)
abbrev BN(fr:List bu):O3:=(⟨95,97,141,59,62,64,66,56,199,139,72,117,135,212,fr⟩:O3)
theorem aeP(f g k:FuncId)(a b c:Array Value):Tryz.prog.built 117 [(0,jO f a),(1,jO g b),(2,jO k c)]=some #[jO f a,jO g b,jO k c]:=rfl
theorem WC:∀w,(zeroValue 117).run Tryz.prog w= .ok (.agg #[.nilFunc,.nilFunc,.nilFunc]) w:=fun w=>Tryz.zeroValue117 w
variable{fr:List bu}
theorem Tv(n:Int)(w:World):Calls Tryz.prog 238 #[I n] w (Pure (B (Ac n)) w):=by
 refine eH func238 rfl rfl fun hH=>SR<|va (v:=B false) rfl<|aa<|SR<|mI rfl<|V (dF O O)<|mB rfl<|bM 5 O (fun h2=> ?_) (fun h2=> ?_)
 .refine mI rfl<|V (xj O O)<|mB rfl<|aB rfl<|aa<|aj<|oB O ?_ hH
  (simp[Ac];omega)
 refine aF (v:=B false) rfl<|aB rfl<|aa<|aj<|oB O ?_ hH
 (simp[Ac];omega)
theorem oZ(n:Int)(w:World):Calls Tryz.prog 179 #[I n] w (Pure (U (below n)) w):=by
 refine eH func179 rfl rfl fun hH=>SR<|va (v:=U 0#64) rfl<|aa<|ai<|SR<|mI rfl<|V (xj O O)<|aa<|aG O (fun h2=> ?_) (fun h2=> ?_)
 .refine SR<|va (v:=U 0#64) rfl<|aa<|aj<|Gu O (aK U (Su aR).symm) hH.below
 refine an<|ai<|SR<|mI rfl<|V (dF O O)<|aa<|aG O (fun h4=> ?_) (fun h4=> ?_)
 .refine SR<|va (v:=U 18446744073709551615#64) rfl<|aa<|aj<|Gu O (aK U (adg aR).symm) hH.below
 refine an<|SR<|mI rfl<|V (jL bx zS O)<|V (Gs (a:=1#64) O O)<|V (Uy O (b:=1#64) O)<|aU rfl<|aa<|aj<|Gu O (aK U (adh aR aR).symm) hH.below
theorem Tw(n:Int)(s:BitVec 64)(w:World):Calls Tryz.prog 212 #[I n,U s] w (Pure (.tuple #[I (level n s).1,B (level n s).2]) w):=by
 refine eH func212 rfl rfl fun hH=>SR<|va (v:=I 0) rfl<|va (v:=B false) rfl<|aa<|ai<|SR<|mI rfl<|aH O hH (Tv _ _) (ay call238 O)<|fun w1 bq=>V (bJ O)<|aa<|bX O (fun h5=> ?_) (fun h5=> ?_)
 .refine SR<|va (v:=I 0) rfl<|va (v:=B false) rfl<|aa<|aj<|have hn:=amg ‹(!Ac n)=true›;?_
  refine kE O (aK I ?_) (aK B ?_) bq.below<;>rw[Md s hn]
 refine an<|ai<|SR<|mI rfl<|aF (v:=I 0) rfl<|aa<|aA<|have hn:=amf ‹(!Ac n)=false›;bt (G:=Int) (fun k s' w'=>(Fr (rg 4 3 (rg 11 9 [])) _ s')/\(Hp w w' _)/\(s' 11=I k)/\(0<=k)/\(k<=n)/\(∀j:Int,0<=j->j<k->s≠below j)) (fun k=>(n-k).toNat) (0) ⟨Fr.refl _ _,bq,rfl,J,J,fun j a b=>absurd b J⟩<| ?_
 rintro k sg6 w6 ⟨QZ,jQ,N0,h0,hk,hf⟩
 obtain⟨Pk,ajY⟩:=QZ.w2 1 10
 refine SR<|V (aN N0 ajY)<|aa<|ai<|aG O (fun h8=> ?_) (fun h8=> ?_)
 .refine an<|ai<|aA<|SR<|aF N0<|aI rfl<|aa<|SR<|aF Pk<|mI rfl<|aH O jQ (oZ _ _) (ay H7 O)<|fun w9 cg=>V (jm O O)<|aa<|aG O (fun h12=> ?_) (fun h12=> ?_)
  .refine SR<|mI rfl<|aI rfl<|va (v:=B true) rfl<|aa<|aj<| ?_
   refine kE O (aK I ?_) (aK B ?_) cg.below<;>rw[Me hn h0 J aR hf]
  refine an<|au<|V (ax N0 O J)<|mI rfl<|aa<| ?_
  refine⟨k+1,aX,QZ.u4.u4.u1,cg,(aK I aM),J,J,?_⟩
  exact fun j a b=>if e:j=k then e▸‹¬s=below k›else hf j a J
 refine a8 (id:=0) rfl<|SR<|va (v:=I 0) rfl<|va (v:=B false) rfl<|aa<|aj<| ?_
 refine kE O (aK I ?_) (aK B ?_) jQ.below<;>rw[Fx hn (fun j a b=>hf j a J)]
theorem Q0(i:Int)(w:World):Calls Tryz.prog 250 #[I i] w (Pure (B (Ad i)) w):=by
 refine eH func250 rfl rfl fun hH=>SR<|va (v:=B false) rfl<|aa<|SR<|mI rfl<|V (dF O O)<|mB rfl<|bM 5 O (fun h2=> ?_) (fun h2=> ?_)
 .refine mI rfl<|V (aN O O)<|mB rfl<|aB rfl<|aa<|aj<|oB O ?_ hH
  (simp[Ad];try omega)
 refine aF (v:=B false) rfl<|aB rfl<|aa<|aj<|oB O ?_ hH
 (simp[Ad];try omega)
theorem aad(s:BitVec 64)(i:Int)(w:World):Calls Tryz.prog 232 #[U s,I i] w (Pure (B (hasB s i)) w):=by
 refine eH func232 rfl rfl fun hH=>SR<|va (v:=B false) rfl<|aa<|SR<|mI rfl<|aH O hH (Q0 _ _) (ay call250 O)<|fun w1 bq=>mB rfl<|eK 7 O (fun h4=> ?_) (fun h4=> ?_)
 .refine mU rfl<|mI rfl<|V (jL bx zS O)<|V (Cy O O)<|V (mh O (b:=1#64) O)<|V (jm O (b:=1#64) O)<|mB rfl<|aB rfl<|aa<|aj<|oB O ?_ bq
  exact ami s ‹Ad i=true›
 refine aF (v:=B false) rfl<|aB rfl<|aa<|aj<|oB O ?_ bq
 exact(YP s ‹Ad i=false›).symm
theorem C7(s:BitVec 64)(i:Int)(w:World):Calls Tryz.prog 231 #[U s,I i] w (Pure (U (vK s i)) w):=by
 refine eH func231 rfl rfl fun hH=>SR<|va (v:=U 0#64) rfl<|aa<|ai<|SR<|mI rfl<|aH O hH (Q0 _ _) (ay call250 O)<|fun w1 bq=>V (bJ O)<|aa<|bX O (fun h5=> ?_) (fun h5=> ?_)
 .refine SR<|mU rfl<|aU rfl<|aa<|aj<|oU O ?_ bq
  simp_all [vK]
 refine an<|SR<|mU rfl<|mI rfl<|V (jL bx zS O)<|V (Gs (a:=1#64) O O)<|V (iG O O)<|aU rfl<|aa<|aj<|oU O ?_ bq
 simp_all [vK]
theorem F4(a b:BitVec 64)(w:World):Calls Tryz.prog 140 #[U a,U b] w (Pure (B (ep a b)) w):=by
 refine eH func140 rfl rfl fun hH=>SR<|va (v:=B false) rfl<|aa<|SR<|mU rfl<|mU rfl<|V (Uz O O)<|V (jm O (b:=0#64) O)<|aB rfl<|aa<|aj<|oB O ?_ hH
 rfl
theorem zj(v:Value)(l:List Int)(w:World)(hs:Sl w v 1 l.length (l.map I)):Calls Tryz.prog 203 #[v] w (Pure (U (k8 l)) w):=by
 have hm:=hs.small
 unfold maxLen at hm
 refine eH func203 rfl rfl fun hH=>SR<|va (v:=U 0#64) rfl<|aa<|SR<|va (v:=U 0#64) rfl<|aa<|ai<|SR<| ?_
 refine V (run_move bz) ?_
 refine V (aD (hs.hp hH) O bD O)<|aF (v:=I 0) rfl<|aa<|aA<|bt (G:=Int) (fun k s' w'=>(Fr (3::(5::(rg 8 8 []))) _ s')/\(Hp w w' _)/\(s' 3=U (k8 (l.take k.toNat)))/\(s' 8=I k)/\(0<=k)/\(k<=l.length)) (fun k=>(l.length-k).toNat) (0) ⟨Fr.refl _ _,hH,(aK U (by simp[Sv])),rfl,J,J⟩<| ?_
 rintro k sg1 w1 ⟨uT,jc,s7,Pm,h0,hk⟩
 obtain⟨Po,WD⟩:=uT.w2 6 7
 refine SR<|V (aN Pm WD)<|aa<|ai<|aG O (fun h3=> ?_) (fun h3=> ?_)
 .refine an<|ai<|aA<|SR<|V (ah (hs.hp jc) bD aP Po Pm J)<|V (aE bx O O ((hs.hp jc).cell _ _ (eU J)))<|aI rfl<|aa<|au<|aF s7<|mI rfl<|aH O jc (C7 _ _ _) (aL call231 O O)<|fun w4 bY=>aU rfl<|aa<|au<|V (ax Pm O J)<|mI rfl<|aa<| ?_
  refine⟨k+1,aX,uT.u4.u4.u1.u1,bY,(aK U (by rw[adi,<-PM h0 aR])),(aK I aM),J,J⟩
 refine a8 (id:=0) rfl<|SR<|aF s7<|aU rfl<|aa<|aj<|oU O ?_ jc
 rw[Mg aR]
theorem ug(s:BitVec 64)(i:Int)(w:World):Calls Tryz.prog 102 #[U s,I i] w (Pure (B (hasB s i)) w):=by
 refine eH func102 rfl rfl fun hH=>SR<|va (v:=B false) rfl<|aa<|ai<|SR<|mI rfl<|V (aN O O)<|mB rfl<|bM 8 O (fun h2=> ?_) (fun h2=> ?_)
 .refine aF (v:=B true) rfl<|aa<|cz rfl<|SR<|va (v:=B false) rfl<|aa<|aj<|oB O ?_ hH
  exact(YP s (by simp[Ad];omega)).symm
 refine mI rfl<|V (dP O O)<|mB rfl<|aa<|aG O (fun h4=> ?_) (fun h4=> ?_)
 .refine SR<|va (v:=B false) rfl<|aa<|aj<|oB O ?_ hH
  exact(YP s (by simp[Ad];omega)).symm
 refine an<|ai<|SR<|va (v:=I 0) rfl<|aa<|aA<|bt (G:=Int) (fun k s' w'=>(Fr (0::(5::(rg 12 7 []))) _ s')/\(Hp w w' _)/\(s' 0=U (s>>>k.toNat))/\(s' 5=I k)/\(0<=k)/\(k<=i)) (fun k=>(i-k).toNat) (0) ⟨Fr.refl _ _,hH,(aK U aJ),rfl,J,J⟩<| ?_
 rintro k sg5 w5 ⟨Up,bY,aae,aeR,h0,hk⟩
 have Ty:=Up.w1 1
 refine ai<|SR<|aF aeR<|aF Ty<|V (aN O O)<|aa<|aG O (fun h7=> ?_) (fun h7=> ?_)
 .refine an<|ai<|aA<|au<|aF aae<|V (L6 O (b:=2#64) O az)<|aU rfl<|aa<|au<|aF aeR<|V (ax O O J)<|aI rfl<|aa<| ?_
  refine⟨k+1,aX,Up.u4.u4.u1,bY,(aK U Yy),(aK I aM),J,J⟩
 refine a8 (id:=0) rfl<|SR<|aF aae<|V (Gr O (b:=2#64) O az)<|V (jm O (b:=1#64) O)<|aB rfl<|aa<|aj<|oB O ?_ bY
 (rw[hasB,show Ad i=true by simp[Ad];omega,show k=i by omega];rw[gX];simp only[eD,l7];exact KJ s _)
theorem fQ(v:Value)(l:List Int)(w:World)(hs:Sl w v 1 l.length (l.map I)):Calls Tryz.prog 154 #[v] w (Pure (U (k8 l)) w):=by
 have hm:=hs.small
 unfold maxLen at hm
 refine eH func154 rfl rfl fun hH=>SR<|va (v:=U 0#64) rfl<|aa<|SR<|va (v:=U 0#64) rfl<|va (v:=U 1#64) rfl<|aa<|ai<|SR<|va (v:=I 0) rfl<|aa<|aA<|bt (G:=Int) (fun i s' w'=>(Fr (rg 3 25 []) _ s')/\(Hp w w' _)/\(s' 3=U (Bf l i.toNat))/\(s' 4=U (1#64<<<i.toNat))/\(s' 5=I i)/\(0<=i)/\(i<=64)) (fun i=>(64-i).toNat) (0) ⟨Fr.refl _ _,hH,(aK U aM),(aK U aM),rfl,J,J⟩<| ?_
 rintro i sg1 w1 ⟨uT,jc,s7,AJ,N1,i0,i1⟩
 obtain⟨mF,ajZ⟩:=uT.w2 0 2
 refine ai<|SR<|aF N1<|V (aN O O)<|aa<|aG O (fun h3=> ?_) (fun h3=> ?_)
 .refine an<|ai<|aA<|ai<|SR<|va (v:=I 0) rfl<|aa<|aA<|bt (G:=Int) (fun k s' w'=>(Fr (3::(6::(rg 11 15 []))) _ s')/\(Hp w w' _)/\(s' 3=U (Bf l i.toNat))/\(s' 6=I k)/\(0<=k)/\(k<=l.length)/\(∀j:Int,0<=j->j<k->l.getD j.toNat 0≠i)) (fun k=>(l.length-k).toNat) (0) ⟨Fr.refl _ _,jc,s7,rfl,J,J,fun j a b=>absurd b J⟩<| ?_
  rintro k sg4 w4 ⟨C8,ix,zk,F5,k0,k1,hf⟩
  obtain⟨aeS,WE,Hl⟩:=C8.t3 0 mF 4 AJ 5 N1
  refine ai<|SR<|aF F5<|aF aeS<|V (aD (hs.hp ix) O bD O)<|V (aN O O)<|aa<|aG O (fun h6=> ?_) (fun h6=> ?_)
  .refine an<|ai<|aA<|SR<|aF aeS<|aF F5<|V (ah (hs.hp ix) bD aP O O J)<|V (aE bx O O ((hs.hp ix).cell _ _ (eU J)))<|aF Hl<|V (bW O O)<|aa<|aG O (fun h8=> ?_) (fun h8=> ?_)
   .refine SR<|aF zk<|aF WE<|V (age O O)<|aU rfl<|aa<|a8 (id:=2) rfl<|au<|aF WE<|V (L5 O (b:=2#64) O)<|aU rfl<|aa<|au<|aF Hl<|V (ax O O J)<|aI rfl<|aa<| ?_
    refine⟨i+1,aX,(((uT.u1.u1.u1).t C8 O)).u4.u4.u4.u4.u4,ix,(aK U (YQ i0 J k0 J aR)),(aK U af5),(aK I aM),J,J⟩
   refine an<|au<|aF F5<|V (ax O O J)<|aI rfl<|aa<| ?_
   refine⟨k+1,aX,C8.u4.u4.u4.u1,ix,zk,(aK I aM),J,J,?_⟩
   exact fun j a b=>if e:j=k then e▸‹¬l.getD k.toNat 0=i›else hf j a J
  refine a8 (id:=2) rfl<|au<|aF WE<|V (L5 O (b:=2#64) O)<|aU rfl<|aa<|au<|aF Hl<|V (ax O O J)<|aI rfl<|aa<| ?_
  refine⟨i+1,aX,(((uT.u1.u1.u1).t C8 O)).u4.u4.u1.u1,ix,(jZ zk (aK U (adl i0 (fun j a b=>hf j a J)))),(aK U af5),(aK I aM),J,J⟩
 refine a8 (id:=0) rfl<|SR<|aF s7<|aU rfl<|aa<|aj<|oU O ?_ jc
 (rw[show i.toNat=64 by omega];rfl)
theorem BO(s:BitVec 64)(w:World):Calls Tryz.prog 101 #[U s] w (tg 3 1 (gK s).length ((gK s).map I) w):=by
 refine eH func101 rfl rfl fun hH=>SR<|va (v:= .slice none 0 0) rfl<|have jc:=hH.eI 3 1;aa<|SR<|va (v:= .slice none 0 0) rfl<|have bq:=jc.eI 3 1;aa<|ai<|SR<|va (v:=I 0) rfl<|aa<|aA<|bt (G:=Int×(List Int)×Value) (fun⟨k,l,v3⟩ s' w'=>(Fr (0::(rg 3 15 [])) _ s')/\(Hp w w' (.row v3 3 1 (l.length) (l.map I)::_))/\(s' 0=U (s>>>k.toNat))/\(s' 3=v3)/\(s' 4=I k)/\(0<=k)/\(k<=64)/\(l=tC s k.toNat)) (fun⟨k,l,v3⟩=>(64-k).toNat) ((0,[],(.slice none 0 0:Value))) ⟨Fr.refl _ _,bq,(aK U aJ),rfl,rfl,J,J,rfl⟩<| ?_
 rintro⟨k,l,v3⟩ sg3 w3 ⟨fr3,uo,BP,aty,aom,h0,hk,hl⟩
 refine ai<|SR<|aF aom<|V (aN O O)<|aa<|aG O (fun h5=> ?_) (fun h5=> ?_)
 .refine an<|ai<|aA<|ai<|SR<|aF BP<|V (Gr O (b:=2#64) O az)<|V (jm O (b:=1#64) O)<|aa<|aG O (fun h7=> ?_) (fun h7=> ?_)
  .refine au<|aF aty<|aF aom<|ud 1 1 uo (cA bD O O (sz:=1) (vs:=[I _]) O O az az O O)<|fun b10 w8 iD=> ?_
   (try simp only[lC]at iD)
   refine gh O iD (i:=1) O (iD.dU (i:=0) (n:=1) (sz:=1) O O az) O O bD O O (size:=1) (bytes:=8) O O O az gZ (by have:=It s k.toNat;rw[<-hl]at this;omega) (by have:=It s k.toNat;rw[<-hl]at this;simp only[maxLen];omega)<|fun v11 zl bV=> ?_
   refine V (run_assign bz) ?_
   refine aa<|au<|aF BP<|V (L6 O (b:=2#64) O az)<|aU rfl<|aa<|au<|aF aom<|V (ax O O J)<|aI rfl<|aa<| ?_
   refine⟨(k+1,l++[k],v11),aX,fr3.u4.u4.u4.u4,(Hp.conv (bV.sub (sQ sR)) aJ),(aK U Yy),rfl,(aK I aM),J,J,?_⟩
   rw[hl,adm h0 aR]
  refine an<|au<|aF BP<|V (L6 O (b:=2#64) O az)<|aU rfl<|aa<|au<|aF aom<|V (ax O O J)<|aI rfl<|aa<| ?_
  refine⟨(k+1,l,v3),aX,fr3.u4.u4.u1.u1.u1,(Hp.conv uo aM),(aK U Yy),aty,(aK I aM),J,J,?_⟩
  rw[hl,agr h0 aR]
 refine a8 (id:=0) rfl<|SR<|aF aty<| ?_
 refine V (run_assign bz) ?_
 refine aa<|aj<|Pa O O uo (i:=0) O (by rw[hl,PN aR hk]) (by rw[hl,PN aR hk])
theorem j7(n:Int)(w:World):Calls Tryz.prog 119 #[I n] w (Pure (U (below n)) w):=by
 refine eH func119 rfl rfl fun hH=>SR<|va (v:=U 0#64) rfl<|aa<|SR<|va (v:= .slice none 0 0) rfl<|have jc:=hH.eI 3 1;aa<|ai<|SR<|va (v:=I 0) rfl<|aa<|aA<|bt (G:=Int×(List Int)×Value) (fun⟨k,l,v3⟩ s' w'=>(Fr (rg 3 15 []) _ s')/\(Hp w w' (.row v3 3 1 (l.length) (l.map I)::_))/\(s' 3=v3)/\(s' 4=I k)/\(0<=k)/\(k<=64)/\(k<=max n 0)/\(l=upto k)) (fun⟨k,l,v3⟩=>(64-k).toNat) ((0,[],(.slice none 0 0:Value))) ⟨Fr.refl _ _,jc,rfl,rfl,J,J,J,rfl⟩<| ?_
 rintro⟨k,l,v3⟩ sg2 w2 ⟨Vk,bq,WG,aon,h0,hk,hn,hl⟩
 have aE9:=Vk.w1 0
 refine ai<|SR<|aF aon<|aF aE9<|V (aN O O)<|mB rfl<|bM 8 O (fun h4=> ?_) (fun h4=> ?_)
 .refine aF aon<|V (aN O O)<|mB rfl<|aa<|aG O (fun h6=> ?_) (fun h6=> ?_)
  .refine an<|ai<|aA<|au<|aF WG<|aF aon<|ud 1 1 bq (cA bD O O (sz:=1) (vs:=[I _]) O O az az O O)<|fun b9 w7 eX=> ?_
   (try simp only[lC]at eX)
   refine gh O eX (i:=1) O (eX.dU (i:=0) (n:=1) (sz:=1) O O az) O O bD O O (size:=1) (bytes:=8) O O O az gZ (by have:= @nc k;rw[<-hl]at this;omega) (by have:= @nc k;rw[<-hl]at this;simp only[maxLen];omega)<|fun v10 Je cM=> ?_
   refine V (run_assign bz) ?_
   refine aa<|au<|aF aon<|V (ax O O J)<|aI rfl<|aa<| ?_
   refine⟨(k+1,l++[k],v10),aX,Vk.u4.u4.u4.u1.u1.u1,(Hp.conv (cM.sub (sQ sR)) aJ),rfl,(aK I aM),J,J,J,?_⟩
   rw[hl,iX h0]
  refine a8 (id:=0) rfl<|SR<|aF WG<|aH O bq (fQ _ _ _ (bq.sl (i:=0) O)) (ay Co O)<|fun BR cD=>aU rfl<|aa<|aj<|oU O ?_ cD
  exact Gx fun i a b=>by rw[hl,cJ];omega
 refine aF (v:=B false) rfl<|aa<|cT rfl<|a8 (id:=0) rfl<|SR<|aF WG<|aH O bq (fQ _ _ _ (bq.sl (i:=0) O)) (ay Co O)<|fun Tz cH=>aU rfl<|aa<|aj<|oU O ?_ cH
 exact Gx fun i a b=>by rw[hl,cJ];omega
theorem TA(n:Int)(s:BitVec 64)(w:World):Calls Tryz.prog 178 #[I n,U s] w (Pure (B (level n s).2) w):=by
 refine eH func178 rfl rfl fun hH=>SR<|va (v:=B false) rfl<|aa<|SR<|mI rfl<|mU rfl<|aH O hH (Tw _ _ _) (aL call212 O O)<|fun w1 bq=> ?_
 refine V (run_move bz) ?_
 refine V (bk O (v:=I _) O)<|V (bk O (v:=B _) O)<|aI rfl<|aB rfl<|aa<|SR<|mB rfl<|aB rfl<|aa<|aj<|oB O ?_ bq
 rfl
theorem BS(n k:Int)(w:World):Calls Tryz.prog 185 #[I n,I k] w (Pure (.tuple #[U (vJ n k).1,B (vJ n k).2]) w):=by
 refine eH func185 rfl rfl fun hH=>SR<|va (v:=U 0#64) rfl<|va (v:=B false) rfl<|aa<|ai<|SR<|mI rfl<|V (aN O O)<|mB rfl<|bM 8 O (fun h2=> ?_) (fun h2=> ?_)
 .refine aF (v:=B true) rfl<|mB rfl<|cF O rfl<|aF (v:=B true) rfl<|mB rfl<|cF O rfl<|aF (v:=B true) rfl<|aa<|cz rfl<|SR<|va (v:=U 0#64) rfl<|va (v:=B false) rfl<|aa<|aj<| ?_
  refine kE O (aK U ?_) (aK B ?_) hH.below<;>rw[CE J]
 refine mI rfl<|V (dP O O)<|mB rfl<|mB rfl<|bM 12 O (fun h4=> ?_) (fun h4=> ?_)
 .refine aF (v:=B true) rfl<|mB rfl<|cF O rfl<|aF (v:=B true) rfl<|aa<|cz rfl<|SR<|va (v:=U 0#64) rfl<|va (v:=B false) rfl<|aa<|aj<| ?_
  refine kE O (aK U ?_) (aK B ?_) hH.below<;>rw[CE J]
 refine mI rfl<|V (aN O O)<|mB rfl<|mB rfl<|bM 16 O (fun h6=> ?_) (fun h6=> ?_)
 .refine aF (v:=B true) rfl<|aa<|cz rfl<|SR<|va (v:=U 0#64) rfl<|va (v:=B false) rfl<|aa<|aj<| ?_
  refine kE O (aK U ?_) (aK B ?_) hH.below<;>rw[CE J]
 refine mI rfl<|mI rfl<|V (dF O O)<|mB rfl<|aa<|aG O (fun h8=> ?_) (fun h8=> ?_)
 .refine SR<|va (v:=U 0#64) rfl<|va (v:=B false) rfl<|aa<|aj<| ?_
  refine kE O (aK U ?_) (aK B ?_) hH.below<;>rw[CE J]
 refine an<|SR<|mI rfl<|aH O hH (j7 _ _) (ay call119 O)<|fun w9 cg=>aU rfl<|va (v:=B true) rfl<|aa<|aj<| ?_
 refine kE O (aK U ?_) (aK B ?_) cg.below<;>rw[vh J]
theorem AL(n:Int)(s:BitVec 64)(w:World):Calls Tryz.prog 152 #[I n,U s] w (Pure (.tuple #[I (level n s).1,B (level n s).2]) w):=by
 refine eH func152 rfl rfl fun hH=>SR<|va (v:=I 0) rfl<|va (v:=B false) rfl<|aa<|ai<|SR<|va (v:=I 0) rfl<|aa<|aA<|bt (G:=Int) (fun k s' w'=>(Fr (rg 4 27 []) _ s')/\(Hp w w' _)/\(s' 6=I k)/\(0<=k)/\(k<=n\/k=0)/\(k<=64)/\(n<=64->∀j:Int,0<=j->j<k->s≠below j)) (fun k=>(64-k).toNat) (0) ⟨Fr.refl _ _,hH,rfl,J,J,J,fun _ j a b=>absurd b J⟩<| ?_
 rintro k sg1 w1 ⟨uT,jc,Po,h0,hk,h6,hf⟩
 obtain⟨mF,AM⟩:=uT.w2 0 1
 refine ai<|SR<|aF Po<|aF mF<|V (aN O O)<|mB rfl<|bM 12 O (fun h3=> ?_) (fun h3=> ?_)
 .refine aF Po<|V (aN O O)<|mB rfl<|aa<|aG O (fun h5=> ?_) (fun h5=> ?_)
  .refine an<|ai<|aA<|SR<|aF mF<|aF Po<|aH O jc (BS _ _ _) (aL call185 O O)<|fun w6 eE=> ?_
   refine V (run_move bz) ?_
   refine V (bk O (v:=U _) O)<|V (bk O (v:=B _) O)<|aU rfl<|aB rfl<|aa<|SR<|mB rfl<|mB rfl<|eK 25 O (fun h9=> ?_) (fun h9=> ?_)
   .refine mU rfl<|aF AM<|V (jm O O)<|mB rfl<|aa<|aG O (fun h11=> ?_) (fun h11=> ?_)
    .refine SR<|aF Po<|aI rfl<|va (v:=B true) rfl<|aa<|aj<| ?_
     refine kE O (aK I ?_) (aK B ?_) eE.below<;>rw[adn h0 aR hf aR]
    refine an<|au<|aF Po<|V (ax O O J)<|aI rfl<|aa<| ?_
    refine⟨k+1,aX,uT.u4.u4.u4.u4.u4.u4,eE,(aK I aM),J,J,J,?_⟩
    exact UE h0 aR aR hf
   refine aF (v:=B false) rfl<|aa<|cT rfl<|an<|au<|aF Po<|V (ax O O J)<|aI rfl<|aa<| ?_
   refine⟨k+1,aX,uT.u4.u4.u4.u4.u4.u4,eE,(aK I aM),J,J,J,?_⟩
   exact UF h0 aR hf aR
  refine a8 (id:=0) rfl<|SR<|va (v:=I 0) rfl<|va (v:=B false) rfl<|aa<|aj<| ?_
  refine kE O (aK I ?_) (aK B ?_) jc.below<;>rw[ED h0 hk h6 hf J]
 refine aF (v:=B false) rfl<|aa<|cT rfl<|a8 (id:=0) rfl<|SR<|va (v:=I 0) rfl<|va (v:=B false) rfl<|aa<|aj<| ?_
 refine kE O (aK I ?_) (aK B ?_) jc.below<;>rw[ED h0 hk h6 hf J]
theorem AP(s:BitVec 64)(w:World)(hT:pc w):Calls Tryz.prog 258 #[U s] w (Pure (I (tz s)) w):=by
 refine eH func258 rfl rfl fun hH=>SR<|va (v:=I 0) rfl<|aa<|ai<|SR<|mU rfl<|V (jm O (b:=0#64) O)<|aa<|aG O (fun h2=> ?_) (fun h2=> ?_)
 .refine SR<|va (v:=I 64) rfl<|aa<|aj<|oI O ?_ hH
  rw[‹s=0#64›];rfl
 refine an<|SR<|mU rfl<|mU rfl<|V (agf O)<|V (mh O O)<|V (L5 O (b:=285870213051353865#64) O)<|V (Cy O (b:=58#64) O)<|V (a7 underlying280 sizeOf5 O O (by exact agu _))<|V (aE underlying5 O O (hT.at _))<|V (YI underlying5 bx O (amn (agw _)))<|aI rfl<|aa<|aj<|oI O ?_ hH
 exact awF aR
theorem WH(f:FuncId)(cap:Array Value)(Inv Stop:List Int->World->Prop)(s:BitVec 64)(w:World)(hf:∀args w,(callFunc f args).run Tryz.prog w= .ok (.enter f args) w)(hm:∀l w w',Inv l w->Below w.heap.size w w'->Inv l w')(hT:∀l w,Inv l w->pc w)(go:∀l i r w,gK s=l++i::r->Inv l w->Calls Tryz.prog f (#[I i]++cap) w (j3 fun u w'=>∃c:Bool,u=B c/\(c=true->Inv (l++[i]) w')/\(c=false->Stop (l++[i]) w')))(h0:Inv [] w):Calls Tryz.prog 251 #[U s,.func (.func f) #[] cap] w (j3 fun u w'=>u= .tuple #[]/\(Inv (gK s) w'\/∃l i r,gK s=l++i::r/\Stop (l++[i]) w')):=by
 refine eH func251 rfl rfl fun hH=>aA<|bt (G:=(BitVec 64)×(List Int)) (fun⟨s1,l⟩ s' w'=>(Fr (0::(rg 4 11 [])) _ s')/\(Inv l w')/\(s' 0=U s1)/\(gK s=l++gK s1)) (fun⟨s1,l⟩=>(gK s1).length) ((s,[])) ⟨Fr.refl _ _,h0,rfl,aJ⟩<| ?_
 rintro⟨s1,l⟩ sg1 w1 ⟨uT,jc,mF,hl⟩
 have hI1:=jc
 clear jc
 have jc:=Hp.start w1
 have AM:=uT.vv 1 (a:= .func _ _ _) rfl rfl
 refine ai<|SR<|aF mF<|V (vG O (b:=0#64) O)<|aa<|aG O (fun h3=> ?_) (fun h3=> ?_)
 .refine an<|aA<|ai<|SR<|aF AM<|aF mF<|aH O jc (AP _ _ (hT _ _ hI1)) (ay call258 O)<|fun w4 bY=>have hI:=hm _ _ _ hI1 bY.below;Im O (YN hf O (v1:=I (tz s1)) O) (go l (tz s1) (gK (s1&&&(s1-1#64))) _ (by rw[hl,Mh aR]) hI)<| ?_
  rintro u8 w6 ⟨c,rfl,hJ1,hJ2⟩
  have eE:=Hp.start w6
  refine V (bJ O)<|aa<|bX O (fun h11=> ?_) (fun h11=> ?_)
  .refine aj<|rC O ⟨rfl,.inr ⟨l,tz s1,gK (s1&&&(s1-1#64)),by rw[hl,Mh aR],hJ2 (by simpa using‹(!c)=true›)⟩⟩
  refine an<|au<|aF mF<|aF mF<|V (Uy O (b:=1#64) O)<|V (mh O O)<|aU rfl<|aa<| ?_
  refine⟨(s1&&&(s1-1#64),l++[tz s1]),?_,uT.u4.u4.u4,(hJ1 (by simpa using‹(!c)=false›)),rfl,?_⟩
  .exact Sw aR
  rw[hl,Mh aR];simp
 refine a8 (id:=0) rfl<|have hn:gK s1=[]:=Af.2 (by simpa using‹¬s1≠0#64›);rC O ⟨rfl,.inl (by rw[hl,hn,mG];assumption)⟩
theorem Pp(W0:World)(b:Nat)(v:Value)(l:List Int)(i:Int)(w:World)(hH:Hp W0 w [.row v 3 1 l.length (l.map I),.blk b (.cells #[v] 99 (0,0))])(hlen:l.length<=64):Calls Tryz.prog 252 #[I i,.pointer (some ⟨b,0,none⟩)] w (j3 fun u w'=>u=B true/\∃v',Hp W0 w' [.row v' 3 1 (l++[i]).length ((l++[i]).map I),.blk b (.cells #[v'] 99 (0,0))]):=by
 refine en func252 rfl rfl<|SR<|va (v:=B false) rfl<|aa<|SR<|lV bD hH 1 O O rfl<|mI rfl<|ud 1 1 hH (cA bD O O (sz:=1) (vs:=[I _]) O O az az O O)<|fun b3 w1 bq=> ?_
 (try simp only[lC]at bq)
 refine gh O bq (i:=1) O (bq.dU (i:=0) (n:=1) (sz:=1) O O az) O O bD O O (size:=1) (bytes:=8) O O O az gZ J iA<|fun v4 w5 jQ=> ?_
 refine bg jQ (i:=2) O (bK O O bz (aZ (jQ.get (i:=1) O)).1 (aZ (jQ.get (i:=1) O)).2 (jQ.blk (i:=2) O) aJ) ?_
 intro w7 eX
 refine aa<|SR<|va (v:=B true) rfl<|aa<|aj<|jx O O ⟨rfl,(v4:Value),Hp.conv eX.tail aJ⟩
theorem C9(s:BitVec 64)(w:World)(hT:pc w):Calls Tryz.prog 233 #[U s] w (tg 3 1 (gK s).length ((gK s).map I) w):=by
 refine eH func233 rfl rfl fun hH=>SR<|va (v:= .slice none 0 0) rfl<|aa<|SR<|lN hH (aT Tryz.zeroValue99)<|fun b3 w1 bq=>have ix:=bq.eI 3 1;aa<|SR<|mU rfl<| ?_
 refine V (CD bz) ?_
 refine Im O (aL call251 (v1:=U s) O (v2:= .func (.func 252) #[] #[.pointer (some ⟨b3,0,none⟩)]) rfl) (WH 252 _ (fun l w'=>∃v,Hp w w' [.row v 3 1 l.length (l.map I),.blk b3 (.cells #[v] 99 (0,0))]) (fun _ _=>False) s _ call252 (fun l w' w'' h hb=>h.imp fun v h=>h.call hb) (fun l w' h=>h.elim fun v h=>hT.hp h) (fun l i r w' he h=>h.elim fun v h=>by
  have aFb:l.length<=64:=by have:=Gv s;rw[he]at this;simp at this;omega
  have hc:=Pp w b3 v l i w' h aFb
  refine j3.calls hc<|fun u w2 hq=>⟨true,hq.1,fun _=>hq.2,fun h=>mO⟩) ⟨.slice none 0 0,ix⟩) ?_
 rintro u w5 ⟨rfl,hor⟩
 obtain⟨v7,jQ⟩:=hor.resolve_right (fun⟨_,_,_,_,h⟩=>h)
 refine aa<|SR<|lV bD jQ 1 O O rfl<| ?_
 refine V (run_assign bz) ?_
 refine aa<|aj<|Pa O O jQ (i:=0) O (O) (O)
theorem uh(a b:BitVec 64)(w:World):Calls Tryz.prog 55 #[U a,U b] w (Pure (B (ep a b)) w):=by
 have hl:=Gv a
 refine eH func55 rfl rfl fun hH=>SR<|va (v:=B false) rfl<|aa<|SR<|mU rfl<|CA O hH (BO _ _) (ay call101 O)<|fun v3 w1 bq=> ?_
 refine V (run_assign bz) ?_
 refine aa<|ai<|SR<|va (v:=I 0) rfl<|aa<|aA<|bt (G:=Int) (fun k s' w'=>(Fr (4::(6::(rg 9 13 []))) _ s')/\(Hp w w' _)/\(s' 6=I k)/\(0<=k)/\(k<=(gK a).length)/\(∀j:Int,0<=j->j<k->hasB b ((gK a).getD j.toNat 0)=true)) (fun k=>((gK a).length-k).toNat) (0) ⟨Fr.refl _ _,bq,rfl,J,J,fun j a b=>absurd b J⟩<| ?_
 rintro k sg4 w4 ⟨C8,ix,F5,h0,hk,hf⟩
 obtain⟨AR,Hl⟩:=C8.w2 1 5
 refine ai<|SR<|aF F5<|aF Hl<|V (aD (ix.sl (i:=0) O) O bD O)<|V (aN O O)<|aa<|aG O (fun h6=> ?_) (fun h6=> ?_)
 .refine an<|ai<|aA<|SR<|aF AR<|aF Hl<|aF F5<|V (ah (ix.sl (i:=0) O) bD aP O O J)<|V (aE bx O O ((ix.sl (i:=0) O).cell _ _ (eU J)))<|aH O ix (ug _ _ _) (aL call102 O O)<|fun w7 eX=>V (bJ O)<|aa<|bX O (fun h11=> ?_) (fun h11=> ?_)
  .refine SR<|va (v:=B false) rfl<|aa<|aj<|oB O ?_ eX
   (exact(amm h0 aR aR).symm)
  refine an<|au<|aF F5<|V (ax O O J)<|aI rfl<|aa<| ?_
  refine⟨k+1,aX,C8.u4.u4.u4.u1.u1,eX,(aK I aM),J,J,?_⟩
  exact fun j x y=>if e:j=k then e▸(by simpa using‹(!hasB b ((gK a).getD k.toNat 0))=false›)else hf j x J
 refine a8 (id:=0) rfl<|SR<|va (v:=B true) rfl<|aa<|aj<|oB O ?_ ix
 (exact(agv fun j x y=>hf j x J).symm)
theorem bN(r:Rl)(w:World):Calls Tryz.prog 149 #[.agg (dV r)] w (Pure (I (pts r)) w):=by
 refine eH func149 rfl rfl fun hH=>SR<|gO hH (v:= .agg _) rfl<|fun b3 w1 bq=>va (v:=I 0) rfl<|aa<|ai<|SR<|V (fA bS 0 O aP O)<|lV bx bq 0 O O (fx _)<|V (aN O O)<|aa<|aG O (fun h5=> ?_) (fun h5=> ?_)
 .refine SR<|va (v:=I 0) rfl<|aa<|aj<|oI O ?_ bq
  (unfold pts;omega)
 refine an<|ai<|SR<|V (fA bS 0 O aP O)<|lV bx bq 0 O O (fx _)<|V (dP O O)<|aa<|aG O (fun h7=> ?_) (fun h7=> ?_)
 .refine SR<|va (v:=I 64) rfl<|aa<|aj<|oI O ?_ bq
  (unfold pts;omega)
 refine an<|SR<|V (fA bS 0 O aP O)<|lV bx bq 0 O O (fx _)<|aI rfl<|aa<|aj<|oI O ?_ bq
 (unfold pts;omega)
theorem ld(r:Rl)(w:World):Calls Tryz.prog 199 #[.agg (dV r)] w (Pure (I (pts r)) w):=by
 refine eH func199 rfl rfl fun hH=>SR<|gO hH (v:= .agg _) rfl<|fun b3 w1 bq=>va (v:=I 0) rfl<|aa<|SR<|V (fA bS 0 O aP O)<|lV bx bq 0 O O (fx _)<|V (vI O O)<|V (Gt O O)<|aI rfl<|aa<|aj<|oI O ?_ bq
 rfl
theorem bC(r:Rl)(i j:Int)(w:World):Calls Tryz.prog 150 #[.agg (dV r),I i,I j] w (Pure (B (bL r i j)) w):=by
 have hp:=dA r
 refine eH func150 rfl rfl fun hH=>SR<|gO hH (v:= .agg _) rfl<|fun b3 w1 bq=>va (v:=B false) rfl<|aa<|SR<|V (aS bS O O O (bq.blk (i:=0) O))<|aH O bq (bN _ _) (ay nR O)<|fun w4 bY=>aI rfl<|aa<|SR<|mI rfl<|V (dF O O)<|mB rfl<|bM 12 O (fun h7=> ?_) (fun h7=> ?_)
 .refine mI rfl<|V (dF O O)<|mB rfl<|mB rfl<|bM 16 O (fun h9=> ?_) (fun h9=> ?_)
  .refine mI rfl<|mI rfl<|V (aN O O)<|mB rfl<|mB rfl<|bM 21 O (fun h11=> ?_) (fun h11=> ?_)
   .refine mI rfl<|mI rfl<|V (aN O O)<|mB rfl<|mB rfl<|bM 26 O (fun TB=> ?_) (fun TB=> ?_)
    .refine mI rfl<|V (fA bS 1 O uy O)<|V (a7 sH cQ O O J)<|lV dO bY 0 O O (xl _ J)<|mI rfl<|V (jL bx zS O)<|V (Cy O O)<|V (Gr O (b:=2#64) O az)<|V (jm O (b:=1#64) O)<|mB rfl<|aB rfl<|aa<|aj<|oB O ?_ bY
     exact amp J J J J
    refine aF (v:=B false) rfl<|aB rfl<|aa<|aj<|oB O ?_ bY
    exact(KL J).symm
   refine aF (v:=B false) rfl<|mB rfl<|cF O rfl<|aF (v:=B false) rfl<|aB rfl<|aa<|aj<|oB O ?_ bY
   exact(KL J).symm
  refine aF (v:=B false) rfl<|mB rfl<|cF O rfl<|aF (v:=B false) rfl<|mB rfl<|cF O rfl<|aF (v:=B false) rfl<|aB rfl<|aa<|aj<|oB O ?_ bY
  exact(KL J).symm
 refine aF (v:=B false) rfl<|mB rfl<|cF O rfl<|aF (v:=B false) rfl<|mB rfl<|cF O rfl<|aF (v:=B false) rfl<|mB rfl<|cF O rfl<|aF (v:=B false) rfl<|aB rfl<|aa<|aj<|oB O ?_ bY
 exact(KL J).symm
theorem En(v:Value)(l:List Int)(x:Int)(w:World)(hs:Sl w v 1 l.length (l.map I)):Calls Tryz.prog 110 #[v,I x] w (Pure (B (l.contains x)) w):=by
 have hm:=hs.small
 unfold maxLen at hm
 refine eH func110 rfl rfl fun hH=>SR<|va (v:=B false) rfl<|aa<|ai<|SR<|va (v:=I 0) rfl<|aa<|aA<|bt (G:=Int) (fun k s' w'=>(Fr (rg 4 14 []) _ s')/\(Hp w w' _)/\(s' 5=I k)/\(0<=k)/\(k<=l.length)/\(∀j:Int,0<=j->j<k->l.getD j.toNat 0≠x)) (fun k=>(l.length-k).toNat) (0) ⟨Fr.refl _ _,hH,rfl,J,J,fun j a b=>absurd b J⟩<| ?_
 rintro k sg1 w1 ⟨uT,jc,N1,h0,hk,hf⟩
 obtain⟨mF,AM⟩:=uT.w2 0 1
 refine ai<|SR<|aF N1<|aF mF<|V (aD (hs.hp jc) O bD O)<|V (aN O O)<|aa<|aG O (fun h3=> ?_) (fun h3=> ?_)
 .refine an<|ai<|aA<|SR<|aF mF<|aF N1<|V (ah (hs.hp jc) bD aP O O J)<|V (aE bx O O ((hs.hp jc).cell _ _ (eU J)))<|aF AM<|V (bW O O)<|aa<|aG O (fun h5=> ?_) (fun h5=> ?_)
  .refine SR<|va (v:=B true) rfl<|aa<|aj<|oB O ?_ jc
   (exact(arS h0 aR aR).symm)
  refine an<|au<|aF N1<|V (ax O O J)<|aI rfl<|aa<| ?_
  refine⟨k+1,aX,uT.u4.u4.u4.u1,jc,(aK I aM),J,J,?_⟩
  exact fun j a b=>if e:j=k then e▸‹¬l.getD k.toNat 0=x›else hf j a J
 refine a8 (id:=0) rfl<|SR<|va (v:=B false) rfl<|aa<|aj<|oB O ?_ jc
 (exact(awH fun j a b=>hf j a J).symm)
theorem AS(r:Rl)(i:Int)(hi:0<=i/\i<64)(w:World):Calls Tryz.prog 200 #[.agg (dV r),I i] w (Pure (U (vM r i)) w):=by
 refine eH func200 rfl rfl fun hH=>SR<|gO hH (v:= .agg _) rfl<|fun b3 w1 bq=>va (v:=U 0#64) rfl<|aa<|ai<|ew aQ bq<|fun w4 bY=>have Pq:=bY;AQ 0 O Pq (mV (I _) O)<|AQ 1 O Pq (fA bS 1 O uy O)<|AQ 2 O Pq (a7 sH cQ O O J)<|tV 3 O Pq dO 0 O O (xl _ J)<|AT 4 O Pq (fun w hS=>aS bS O O O (hS.blk (i:=0) O))<|A1 5<|cm O aC O bY sR (ld _ _) (ay H8 O)<|fun w6 eE=>A1 6<|cm O aC O eE sR (oZ _ _) (ay H7 O)<|fun w8 iD=>AQ 7 O iD (mh O O)<|AQ 8 O iD (aV (U _) O)<|AD<|aj<|oU O ?_ iD
 rfl
theorem rS(r:Rl)(w:World):Calls Tryz.prog 165 #[.agg (dV r)] w (Pure (.agg (dV (eM r))) w):=by
 have hp:=dA r
 refine eH func165 rfl rfl fun hH=>SR<|gO hH (v:= .agg _) rfl<|fun b3 w1 bq=>lN bq (aT rR)<|fun b6 w4 bY=>aa<|SR<|V (aS bS O O O (bY.blk (i:=1) O))<|aH O bY (ld _ _) (ay H8 O)<|fun w7 eX=>V (dL (vs:=[(0,I _)]) O (zh _))<|lN eX (aT rR)<|fun b11 w9 cg=>bg cg (i:=0) O (oV O O O (cg.blk (i:=0) O))<|fun zl bV=>aa<|ai<|SR<|V (fA bS 0 O aP O)<|lV bx bV 0 O O (fx _)<|aF (v:=I 0) rfl<|aa<|aA<|have hz:(⟨pts r,fun _=>0#64⟩:Rl).n=pts r:=rfl;bt (G:=Int×Rl) (fun⟨k,r1⟩ s' w'=>(Fr (4::(rg 10 10 [])) _ s')/\(Hp w w' (.blk b11 (.cells (dV r1) 86 (0,0))::_))/\(s' 10=I k)/\(0<=k)/\(k<=pts r)/\(r1=EE (pts r) (fun i=>vM r i) k)) (fun⟨k,r1⟩=>(pts r-k).toNat) ((0,⟨pts r,fun _=>0#64⟩)) ⟨Fr.refl _ _,bV,rfl,J,J,Iw _ _⟩<| ?_
 rintro⟨k,r1⟩ aaf Q1 ⟨mW,cD,N2,h0,hk,hr⟩
 obtain⟨N3,Bt,kI,Bu⟩:=mW.w4 1 2 3 9
 have hn:r1.n=pts r:=by rw[hr];rfl
 refine SR<|V (aN N2 Bu)<|aa<|ai<|aG O (fun yt=> ?_) (fun yt=> ?_)
 .refine an<|ai<|aA<|SR<|aF N2<|aI rfl<|aa<|au<|mI rfl<|V (aS bS O O N3 (cD.blk (i:=2) O))<|mI rfl<|aH O cD (AS _ _ J _) (aL call200 O O)<|fun TC dQ=>V (fA bS 1 O uy kI)<|V (a7 sH cQ O O J)<|bg dQ (i:=0) O (bK O O (v:=U _) O O O (dQ.blk (i:=0) O) Ig)<|fun Q2 cP=> ?_
  rw[yO]at cP
  refine aa<|au<|V (ax N2 O J)<|mI rfl<|aa<| ?_
  refine⟨(k+1,_),aX,mW.u4.u4.u1.u1.u1,cP,(aK I aM),J,J,?_⟩
  rw[hr];exact Mi h0 (by rw[gm h0])
 refine a8 (id:=0) rfl<|SR<|V (aS bS O O kI (cD.blk (i:=0) O))<|bg cD (i:=1) O (oV O Bt O (cD.blk (i:=1) O))<|fun N4 cK=>aa<|aj<|agH O Bt cK (i:=1) O bS O O ⟨?_,cK.below⟩
 (rw[hr,show k=pts r by omega];rfl)
theorem Da(r:Rl)(s:BitVec 64)(w:World)(hT:pc w):Calls Tryz.prog 209 #[.agg (dV r),U s] w (Pure (U (upR r s)) w):=by
 have hp:=dA r
 refine eH func209 rfl rfl fun hH=>SR<|gO hH (v:= .agg _) rfl<|fun b3 w1 bq=>va (v:=U 0#64) rfl<|aa<|SR<|va (v:=U 0#64) rfl<|aa<|ai<|SR<|mU rfl<|V (aS bS O O O (bq.blk (i:=0) O))<|aH O bq (ld _ _) (ay H8 O)<|fun w4 bY=>aH O bY (oZ _ _) (ay H7 O)<|fun w6 eE=>V (mh O O)<|CA O eE (C9 _ _ (hT.hp eE)) (ay call233 O)<|fun v10 w8 iD=>V (aD (iD.sl (i:=0) O) O bD O)<|aF (v:=I 0) rfl<|aa<|aA<|have hl:=Gv (s&&&below (pts r));bt (G:=Int) (fun k s' w'=>(Fr (5::(7::(rg 15 10 []))) _ s')/\(Hp w w' _)/\(s' 5=U (xk (vM r) ((gK (s&&&below (pts r))).take k.toNat)))/\(s' 15=I k)/\(0<=k)/\(k<=(gK (s&&&below (pts r))).length)) (fun k=>((gK (s&&&below (pts r))).length-k).toNat) (0) ⟨Fr.refl _ _,iD,(aK U (by simp[xk])),rfl,J,J⟩<| ?_
 rintro k ayl Je ⟨Kp,dr,Ho,aag,h0,hk⟩
 obtain⟨WI,atz,atA⟩:=Kp.w3 2 13 14
 refine SR<|V (aN aag atA)<|aa<|ai<|aG O (fun TB=> ?_) (fun TB=> ?_)
 .refine an<|ai<|aA<|SR<|V (ah (dr.sl (i:=0) O) bD aP atz aag J)<|V (aE bx O O ((dr.sl (i:=0) O).cell _ _ (eU J)))<|aI rfl<|aa<|au<|aF Ho<|V (aS bS O O WI (dr.blk (i:=1) O))<|mI rfl<|aH O dr (AS _ _ (by exact PR jK jK) _) (aL call200 O O)<|fun Q1 gW=>V (iG O O)<|aU rfl<|aa<|au<|V (ax aag O J)<|mI rfl<|aa<| ?_
  refine⟨k+1,aX,Kp.u4.u4.u4,gW,(aK U (Mj h0 aR)),(aK I aM),J,J⟩
 refine a8 (id:=0) rfl<|SR<|aF Ho<|aU rfl<|aa<|aj<|oU O ?_ dr
 (rw[Mg aR];rfl)
theorem yu(r:Rl)(s:BitVec 64)(w:World):Calls Tryz.prog 211 #[.agg (dV r),U s] w (Pure (U (EF r s)) w):=by
 have hp:=dA r
 refine eH func211 rfl rfl fun hH=>SR<|gO hH (v:= .agg _) rfl<|fun b3 w1 bq=>va (v:=U 0#64) rfl<|aa<|SR<|va (v:=U 0#64) rfl<|aa<|ai<|SR<|V (aS bS O O O (bq.blk (i:=0) O))<|aH O bq (ld _ _) (ay H8 O)<|fun w4 bY=>aF (v:=I 0) rfl<|aa<|aA<|bt (G:=Int) (fun k s' w'=>(Fr (5::6::(rg 9 13 [])) _ s')/\(Hp w w' _)/\(s' 5=U (yg r s k))/\(s' 9=I k)/\(0<=k)/\(k<=pts r)) (fun k=>(pts r-k).toNat) (0) ⟨Fr.refl _ _,bY,(aK U (by simp[yg,oA])),rfl,J,J⟩<| ?_
 rintro k sg6 w6 ⟨QZ,jQ,atB,aoo,h0,hk⟩
 obtain⟨Pk,aj0,aFc⟩:=QZ.w3 1 2 8
 refine SR<|V (aN aoo aFc)<|aa<|ai<|aG O (fun h8=> ?_) (fun h8=> ?_)
 .refine an<|ai<|aA<|SR<|aF aoo<|aI rfl<|aa<|SR<|V (aS bS O O aj0 (jQ.blk (i:=0) O))<|mI rfl<|aH O jQ (AS _ _ J _) (aL call200 O O)<|fun w9 cg=>aF Pk<|V (mh O O)<|V (vG O (b:=0#64) O)<|aa<|aG O (fun h12=> ?_) (fun h12=> ?_)
  .refine au<|aF atB<|mI rfl<|aH O cg (C7 _ _ _) (aL call231 O O)<|fun BR cD=>aU rfl<|aa<|au<|V (ax aoo O J)<|mI rfl<|aa<| ?_
   refine⟨k+1,aX,QZ.u4.u4.u4.u1.u1.u1,cD,(aK U (by exact agB h0 J aR)),(aK I aM),J,J⟩
  refine an<|au<|V (ax aoo O J)<|mI rfl<|aa<| ?_
  refine⟨k+1,aX,QZ.u4.u4.u1.u1.u1,cg,(jZ atB (aK U (by exact agC h0 aR))),(aK I aM),J,J⟩
 refine a8 (id:=0) rfl<|SR<|aF atB<|aU rfl<|aa<|aj<|oU O ?_ jQ
 (rw[show k=pts r by omega];rfl)
theorem rT(r:Rl)(w:World):Calls Tryz.prog 242 #[.agg (dV r)] w (Pure (.agg (dV (eM r))) w):=by
 have hp:=dA r
 refine eH func242 rfl rfl fun hH=>SR<|gO hH (v:= .agg _) rfl<|fun b3 w1 bq=>lN bq (aT rR)<|fun b6 w4 bY=>aa<|SR<|V (aS bS O O O (bY.blk (i:=1) O))<|aH O bY (bN _ _) (ay nR O)<|fun w7 eX=>V (dL (vs:=[(0,I _)]) O (zh _))<|lN eX (aT rR)<|fun b11 w9 cg=>bg cg (i:=0) O (oV O O O (cg.blk (i:=0) O))<|fun zl bV=>aa<|ai<|SR<|va (v:=I 0) rfl<|aa<|aA<|have hz:(⟨pts r,fun _=>0#64⟩:Rl).n=pts r:=rfl;bt (G:=Int×Rl) (fun⟨k,r1⟩ s' w'=>(Fr (rg 4 3 (rg 10 25 [])) _ s')/\(Hp w w' (.blk b11 (.cells (dV r1) 86 (0,0))::_))/\(s' 4=I k)/\(0<=k)/\(k<=pts r)/\(r1=EE (pts r) (fun i=>vM r i) k)) (fun⟨k,r1⟩=>(pts r-k).toNat) ((0,⟨pts r,fun _=>0#64⟩)) ⟨Fr.refl _ _,bV,rfl,J,J,Iw _ _⟩<| ?_
 rintro⟨k,r1⟩ aaf Q1 ⟨mW,cD,ES,h0,hk,hr⟩
 obtain⟨N3,Bt,kI⟩:=mW.w3 1 2 3
 have hn:r1.n=pts r:=by rw[hr];rfl
 refine ai<|SR<|aF ES<|V (fA bS 0 O aP kI)<|lV bx cD 0 O O (fx _)<|V (aN O O)<|aa<|aG O (fun yt=> ?_) (fun yt=> ?_)
 .refine an<|ai<|aA<|SR<|va (v:= .slice none 0 0) rfl<|have er:=cD.eI 3 1;aa<|ai<|SR<|va (v:=I 0) rfl<|aa<|aA<|bt (G:=Int×(List Int)×Value) (fun⟨j,l,v5⟩ s' w'=>(Fr (5::6::(rg 16 14 [])) _ s')/\(Hp w w' (.row v5 3 1 (l.length) (l.map I)::_))/\(s' 5=v5)/\(s' 6=I j)/\(0<=j)/\(j<=pts r)/\(l=rF r k j)) (fun⟨j,l,v5⟩=>(pts r-j).toNat) ((0,[],(.slice none 0 0:Value))) ⟨Fr.refl _ _,er,rfl,rfl,J,J,rfl⟩<| ?_
  rintro⟨j,l,v5⟩ aop Lf ⟨r8,dQ,JW,Bv,j0,j1,hl⟩
  obtain⟨JX,N5,wB⟩:=r8.t3 1 N3 3 kI 4 ES
  refine ai<|SR<|aF Bv<|V (fA bS 0 O aP N5)<|lV bx dQ 1 O O (fx _)<|V (aN O O)<|aa<|aG O (fun O7=> ?_) (fun O7=> ?_)
  .refine an<|ai<|aA<|SR<|V (aS bS O O JX (dQ.blk (i:=3) O))<|aF wB<|aF Bv<|aH O dQ (bC _ _ _ _) (bA jj O O O)<|fun N4 cK=>aa<|bX O (fun yI=> ?_) (fun yI=> ?_)
   .refine au<|aF JW<|aF Bv<|ud 1 1 cK (cA bD O O (sz:=1) (vs:=[I _]) O O az az O O)<|fun b27 w25 jy=> ?_
    (try simp only[lC]at jy)
    refine gh O jy (i:=1) O (jy.dU (i:=0) (n:=1) (sz:=1) O O az) O O bD O O (size:=1) (bytes:=8) O O O az gZ (by have:= @PO r k j;rw[<-hl]at this;omega) (by have:= @PO r k j;rw[<-hl]at this;simp only[maxLen];omega)<|fun v28 w29 iU=> ?_
    refine V (run_assign bz) ?_
    refine aa<|au<|aF Bv<|V (ax O O J)<|aI rfl<|aa<| ?_
    refine⟨(j+1,l++[j],v28),aX,r8.u4.u4.u4.u4,(Hp.conv (iU.sub (sQ sR)) aJ),rfl,(aK I aM),J,J,?_⟩
    (rw[hl];exact adq j0 aR)
   refine an<|au<|aF Bv<|V (ax O O J)<|aI rfl<|aa<| ?_
   refine⟨(j+1,l,v5),aX,r8.u4.u4.u1.u1.u1,(Hp.conv cK aM),JW,(aK I aM),J,J,?_⟩
   (rw[hl];exact adr j0 aR)
  refine a8 (id:=2) rfl<|au<|aF wB<|aF JW<|aH O dQ (fQ _ _ _ (dQ.sl (i:=0) O)) (ay Co O)<|fun w31 ij=>V (fA bS 1 O uy N5)<|V (a7 sH cQ O O J)<|bg ij (i:=1) O (bK O O (v:=U _) O O O (ij.blk (i:=1) O) Ig)<|fun w33 kr=> ?_
  rw[yO]at kr
  refine aa<|au<|aF wB<|V (ax O O J)<|aI rfl<|aa<| ?_
  refine⟨(k+1,_),aX,(((mW.u4.u1.u1).t r8 O)).u4.u4.u4,(kr.sub (sQ sR)),(aK I aM),J,J,?_⟩
  rw[hr];exact Mi h0 (by rw[gm h0,hl,show j=pts r by omega];exact ads ⟨h0,J⟩)
 refine a8 (id:=0) rfl<|SR<|V (aS bS O O kI (cD.blk (i:=0) O))<|bg cD (i:=1) O (oV O Bt O (cD.blk (i:=1) O))<|fun w35 j8=>aa<|aj<|agH O Bt j8 (i:=1) O bS O O ⟨?_,j8.below⟩
 (rw[hr,show k=pts r by omega];rfl)
theorem Jf(r:Rl)(w:World):Calls Tryz.prog 201 #[.agg (dV r)] w (Pure (.agg (dV (jo r))) w):=by
 have hp:=dA r
 have hn0:(eM r).n=pts r:=rfl
 refine eH func201 rfl rfl fun hH=>SR<|gO hH (v:= .agg _) rfl<|fun b3 w1 bq=>lN bq (aT rR)<|fun b6 w4 bY=>aa<|SR<|V (aS bS O O O (bY.blk (i:=1) O))<|aH O bY (rS _ _) (ay call165 O)<|fun w7 eX=>lN eX (aT rR)<|fun b11 w9 cg=>bg cg (i:=0) O (oV O O O (cg.blk (i:=0) O))<|fun zl bV=>aa<|ai<|SR<|V (fA bS 0 O aP O)<|lV bx bV 0 O O (fx _)<|aF (v:=I 0) rfl<|aa<|aA<|bt (G:=Int×Rl) (fun⟨k,r1⟩ s' w'=>(Fr (4::(rg 11 13 [])) _ s')/\(Hp w w' (.blk b11 (.cells (dV r1) 86 (0,0))::_))/\(s' 11=I k)/\(0<=k)/\(k<=pts r)/\(r1=⟨pts r,qq (eM r).up k⟩)) (fun⟨k,r1⟩=>(pts r-k).toNat) ((0,eM r)) ⟨Fr.refl _ _,bV,rfl,J,J,adt _ _⟩<| ?_
 rintro⟨k,r1⟩ aaf Q1 ⟨mW,cD,N6,h0,hk,hr⟩
 obtain⟨Bt,kI,N2⟩:=mW.w3 2 3 10
 have hn:r1.n=pts r:=by rw[hr]
 refine SR<|V (aN N6 N2)<|aa<|ai<|aG O (fun yt=> ?_) (fun yt=> ?_)
 .refine an<|ai<|aA<|SR<|aF N6<|aI rfl<|aa<|au<|mI rfl<|mI rfl<|V (fA bS 1 O uy kI)<|V (a7 sH cQ O O J)<|lV dO cD 0 O O (xl _ J)<|mI rfl<|aH O cD (C7 _ _ _) (aL call231 O O)<|fun TC dQ=>V (fA bS 1 O uy kI)<|V (a7 sH cQ O O J)<|bg dQ (i:=0) O (bK O O (v:=U _) O O O (dQ.blk (i:=0) O) Ig)<|fun Q2 cP=> ?_
  rw[yO]at cP
  refine aa<|au<|V (ax N6 O J)<|mI rfl<|aa<| ?_
  refine⟨(k+1,_),aX,mW.u4.u4.u4.u1.u1,cP,(aK I aM),J,J,?_⟩
  rw[hr];exact agD h0
 refine a8 (id:=0) rfl<|ai<|SR<|V (fA bS 0 O aP kI)<|lV bx cD 0 O O (fx _)<|aF (v:=I 0) rfl<|aa<|aA<|bt (G:=Int×Rl) (fun⟨m,r2⟩ s' w'=>(Fr (5::6::(rg 26 27 [])) _ s')/\(Hp w w' (.blk b11 (.cells (dV r2) 86 (0,0))::_))/\(s' 26=I m)/\(0<=m)/\(m<=pts r)/\(r2=⟨pts r,wall (pts r) (qq (eM r).up (pts r)) m.toNat⟩)) (fun⟨m,r2⟩=>(pts r-m).toNat) ((0,r1)) ⟨Fr.refl _ _,cD,rfl,J,J,(by rw[hr,show k=pts r by omega];rfl)⟩<| ?_
 rintro⟨m,r2⟩ aFd N4 ⟨aeW,fK,aai,m0,m1,hr2⟩
 have atC:=aeW.w1 25
 obtain⟨aqq,N7⟩:=aeW.t2 2 Bt 3 kI
 have Qq:r2.n=pts r:=by rw[hr2]
 refine SR<|V (aN aai atC)<|aa<|ai<|aG O (fun F6=> ?_) (fun F6=> ?_)
 .refine an<|ai<|aA<|SR<|aF aai<|aI rfl<|aa<|SR<|V (fA bS 0 O aP N7)<|lV bx fK 0 O O (fx _)<|aF (v:=I 0) rfl<|aa<|aA<|bt (G:=Int×Rl) (fun⟨i,r3⟩ s' w'=>(Fr (6::(rg 31 21 [])) _ s')/\(Hp w w' (.blk b11 (.cells (dV r3) 86 (0,0))::_))/\(s' 31=I i)/\(0<=i)/\(i<=pts r)/\(r3=⟨pts r,j4 m.toNat i r2.up⟩)) (fun⟨i,r3⟩=>(pts r-i).toNat) ((0,r2)) ⟨Fr.refl _ _,fK,rfl,J,J,(by rw[hr2];exact adu _ _ _)⟩<| ?_
  rintro⟨i,r3⟩ aOb w24 ⟨aeX,gM,N8,i0,i1,hr3⟩
  obtain⟨aqr,atD⟩:=aeX.w2 5 30
  obtain⟨acD,atE⟩:=aeX.t2 3 N7 26 aai
  have hn3:r3.n=pts r:=by rw[hr3]
  refine SR<|V (aN N8 atD)<|aa<|ai<|aG O (fun WJ=> ?_) (fun WJ=> ?_)
  .refine an<|ai<|aA<|SR<|aF N8<|aI rfl<|aa<|SR<|mI rfl<|V (fA bS 1 O uy acD)<|V (a7 sH cQ O O J)<|lV dO gM 0 O O (xl _ J)<|aF aqr<|aH O gM (aad _ _ _) (aL call232 O O)<|fun w27 iJ=>aa<|bX O (fun Pr=> ?_) (fun Pr=> ?_)
   .refine fX aQ iJ (sQ sR)<|fun w31 ij=>have N9:=ij.sub (sQ sR);AQ 0 O N9 (mV (I _) O)<|AQ 1 O N9 (fA bS 1 O uy acD)<|AQ 2 O N9 (a7 sH cQ O O J)<|AQ 4 O N9 (run_move aqr)<|AQ 5 O N9 (fA bS 1 O uy acD)<|AQ 6 O N9 (a7 sH cQ O O J)<|AQ 9 O N9 (fA bS 1 O uy acD)<|gj 3 7 aQ ?_ ?_
    .refine cf O aC O ij (sQ sR) (aE dO O O (ij.cell (i:=0) O (xl _ J)))<|A1 7<|cf O aC O ij (sQ sR) (aE dO O O (ij.cell (i:=0) O (xl _ J)))<|AQ 8 O N9 (iG O O)<|AQ 10 O N9 (a7 sH cQ O O J)<|A1 11<|dW O aC ij (j:=0) O (sQ sR) (bK O O (v:=U _) O O O (ij.blk (i:=0) O) Ig)<|fun w39 lO=> ?_
     rw[yO]at lO
     refine AD<|au<|V (ax N8 O J)<|mI rfl<|aa<| ?_
     refine⟨(i+1,_),aX,aeX.u4.u4.u4.u4.u4.u1.u1,lO,(aK I aM),J,J,?_⟩
     (rw[hr3]at*;exact UH m0 i0 aR)
    refine cf O aC O ij (sQ sR) (aE dO O O (ij.cell (i:=0) O (xl _ J)))<|A1 3<|cf O aC O ij (sQ sR) (aE dO O O (ij.cell (i:=0) O (xl _ J)))<|AQ 8 O N9 (iG O O)<|AQ 10 O N9 (a7 sH cQ O O J)<|A1 11<|dW O aC ij (j:=0) O (sQ sR) (bK O O (v:=U _) O O O (ij.blk (i:=0) O) Ig)<|fun w47 jR=> ?_
    rw[yO]at jR
    refine AD<|au<|V (ax N8 O J)<|mI rfl<|aa<| ?_
    refine⟨(i+1,_),aX,aeX.u4.u4.u4.u4.u4.u1.u1,jR,(aK I aM),J,J,?_⟩
    (rw[hr3]at*;exact UH m0 i0 aR)
   refine an<|au<|V (ax N8 O J)<|mI rfl<|aa<| ?_
   refine⟨(i+1,_),aX,aeX.u4.u4.u1.u1.u1,iJ,(aK I aM),J,J,?_⟩
   (rw[hr3]at*;exact agF ⟨m0,J⟩ i0 aR)
  refine a8 (id:=4) rfl<|au<|V (ax atE O J)<|mI rfl<|aa<| ?_
  refine⟨(m+1,_),aX,(((aeW.u4.u1.u1).t aeX O)).u1.u1.u1,gM,(aK I aM),J,J,?_⟩
  rw[hr3,hr2,show i=pts r by omega];exact adv m0
 refine a8 (id:=2) rfl<|SR<|V (aS bS O O N7 (fK.blk (i:=0) O))<|bg fK (i:=1) O (oV O aqq O (fK.blk (i:=1) O))<|fun w49 eO=>aa<|aj<|agH O aqq eO (i:=1) O bS O O ⟨?_,eO.below⟩
 (rw[hr2,show m=pts r by omega];rfl)
theorem AV(r:Rl)(i:Int)(w:World):Calls Tryz.prog 215 #[.agg (dV r),I i] w (tg 3 1 (yh r i).length ((yh r i).map I) w):=by
 have hp:=dA r
 refine eH func215 rfl rfl fun hH=>SR<|gO hH (v:= .agg _) rfl<|fun b3 w1 bq=>va (v:= .slice none 0 0) rfl<|have ix:=bq.eI 3 1;aa<|ai<|SR<|mI rfl<|V (aN O O)<|mB rfl<|bM 10 O (fun h6=> ?_) (fun h6=> ?_)
 .refine aF (v:=B true) rfl<|aa<|cz rfl<|SR<|va (v:= .slice none 0 0) rfl<|have eE:=ix.eI 3 1;aa<|aj<|Pa O O eE (i:=0) O Sf Sf
 refine mI rfl<|V (aS bS O O O (ix.blk (i:=1) O))<|aH O ix (bN _ _) (ay nR O)<|fun w8 iD=>V (dF O O)<|mB rfl<|aa<|aG O (fun h11=> ?_) (fun h11=> ?_)
 .refine SR<|va (v:= .slice none 0 0) rfl<|have cM:=iD.eI 3 1;aa<|aj<|Pa O O cM (i:=0) O Sf Sf
 refine an<|SR<|mI rfl<|ud 1 1 iD (cA bD O O (sz:=1) (vs:=[I _]) O O az az O O)<|fun b15 BR cD=> ?_
 (try simp only[lC]at cD)
 have cH:=cD.sM 1 1 O az
 refine V (run_assign bz) ?_
 refine aa<|ai<|SR<|va (v:=I 0) rfl<|aa<|aA<|bt (G:=Int×(List Int)×Value) (fun⟨a,l,v5⟩ s' w'=>(Fr (rg 5 3 (rg 18 29 [])) _ s')/\(Hp w w' (.row v5 3 1 (l.length) (l.map I)::_))/\(s' 5=v5)/\(s' 6=I a)/\(0<=a)/\(a<=l.length)/\(UJ r l)/\(XA r (65-a.toNat) a.toNat l=yh r i)) (fun⟨a,l,v5⟩=>((65:Int)-a).toNat) ((0,[i],(.slice (some ⟨b15,0,none⟩) 1 1:Value))) ⟨Fr.refl _ _,cH,rfl,rfl,J,aJ,UJ.one J,(by rw[yh,aY (rE.2 J)];rfl)⟩<| ?_
 rintro⟨a,l,v5⟩ aFe TC ⟨aj1,er,Oa,aqs,a0,a1,hok,hl⟩
 obtain⟨ayn,aKQ⟩:=aj1.w2 2 4
 refine ai<|SR<|aF aqs<|aF Oa<|V (aD (er.sl (i:=0) O) O bD O)<|V (aN O O)<|aa<|aG O (fun Ob=> ?_) (fun Ob=> ?_)
 .refine an<|ai<|aA<|SR<|va (v:=I 0) rfl<|aa<|aA<|bt (G:=Int×(List Int)×Value) (fun⟨b,l2,v5⟩ s' w'=>(Fr (5::(7::(rg 24 23 []))) _ s')/\(Hp w w' (.row v5 3 1 (l2.length) (l2.map I)::_))/\(s' 5=v5)/\(s' 7=I b)/\(0<=b)/\(b<=pts r)/\(l2=scan r (l.getD a.toNat 0) l b.toNat)/\(UJ r l2)/\(l.length<=l2.length)/\(l2.getD a.toNat 0=l.getD a.toNat 0)) (fun⟨b,l2,v5⟩=>(pts r-b).toNat) ((0,l,(v5:Value))) ⟨Fr.refl _ _,er,Oa,rfl,J,J,rfl,hok,eu _,rfl⟩<| ?_
  rintro⟨b,l2,v5⟩ aOc w20 ⟨aj2,cP,Q3,Oc,b0,b1,h2,WK,hle,UL⟩
  obtain⟨aqt,aqu⟩:=aj2.t2 2 ayn 6 aqs
  refine ai<|SR<|aF Oc<|V (aS bS O O aqt (cP.blk (i:=2) O))<|aH O cP (bN _ _) (ay nR O)<|fun N4 cK=>V (aN O O)<|aa<|aG O (fun yI=> ?_) (fun yI=> ?_)
  .refine an<|ai<|aA<|ai<|ew aQ cK<|fun w25 jy=>have Kq:=jy;AT 0 O Kq (fun w hS=>aS bS O O aqt (hS.blk (i:=2) O))<|AQ 1 O Kq (run_move Q3)<|AQ 2 O Kq (run_move aqu)<|AT 3 O Kq (fun w hS=>ah (hS.sl (i:=0) O) bD aP O O J)<|AT 4 O Kq (fun w hS=>aE bx O O ((hS.sl (i:=0) O).cell _ _ (eU J)))<|AQ 5 O Kq (run_move Oc)<|A1 6<|cm O aC O jy sR (bC r (l2.getD a.toNat 0) b _) (bA jj O O O)<|fun w27 iJ=>have aak:=iJ;AQ 7 O aak (mV (B _) O)<|Ma (dj:=37) O (fun Pr=> ?_) (fun Pr=> ?_)
   .refine BQ 8 O O (bR (c:=true) Pr) iJ (run_move Q3)<|BQ 9 O O (bR (c:=true) Pr) iJ (run_move Oc)<|A1 10<|cm O (yM O (bR (c:=true) Pr)) O iJ sR (En _ _ _ _ (iJ.sl (i:=0) O)) (aL call110 O O)<|fun w31 ij=>BQ 11 O O (bR (c:=true) Pr) ij (bJ O)<|AQ 12 O ij (gN (bR (c:=true) Pr) (v:=B _) O)<|AD<|bX O (fun BT=> ?_) (fun BT=> ?_)
    .refine au<|aF Q3<|aF Oc<|ud 1 1 ij (cA bD O O (sz:=1) (vs:=[I _]) O O az az O O)<|fun b38 w36 uF=> ?_
     (try simp only[lC]at uF)
     refine gh O uF (i:=1) O (uF.dU (i:=0) (n:=1) (sz:=1) O O az) O O bD O O (size:=1) (bytes:=8) O O O az gZ (by have:=WK.len;omega) (by have:=WK.len;simp only[maxLen];omega)<|fun v39 w40 jW=> ?_
     refine V (run_assign bz) ?_
     refine aa<|au<|aF Oc<|V (ax O O J)<|aI rfl<|aa<| ?_
     refine⟨(b+1,l2++[b],v39),aX,aj2.u4.u4.u4.u4.u4.u4.u1,(Hp.conv (jW.sub (sQ sR)) aJ),rfl,(aK I aM),J,J,?_,?_,L3,?_⟩
     .rw[UL]at*;((rw[h2]at*;exact agK b0 aR (nt aR)))
     .exact WK.add ⟨b0,aR⟩ (nt aR)
     (rw[<-UL,eV,eV,zL J])
    refine an<|au<|aF Oc<|V (ax O O J)<|aI rfl<|aa<| ?_
    refine⟨(b+1,l2,v5),aX,aj2.u4.u4.u4.u4.u4,(Hp.conv ij aM),Q3,(aK I aM),J,J,?_,?_,?_,?_⟩
    .rw[UL]at*;((rw[h2]at*;exact agM b0 (nf aR)))
    .exact WK
    .exact hle
    exact UL
   refine AK 8 O O (bR (c:=false) Pr) iJ<|AK 9 O O (bR (c:=false) Pr) iJ<|AK 10 O O (bR (c:=false) Pr) iJ<|AK 11 O O (bR (c:=false) Pr) iJ<|AQ 12 O aak (dR (bR (c:=false) Pr) (v:=B false) O)<|AD<|cT rfl<|an<|au<|aF Oc<|V (ax O O J)<|aI rfl<|aa<| ?_
   refine⟨(b+1,l2,v5),aX,aj2.u4.u4.u4.u4.u4,(Hp.conv iJ aM),Q3,(aK I aM),J,J,?_,?_,?_,?_⟩
   .rw[UL]at*;((rw[h2]at*;exact agL b0 aR))
   .exact WK
   .exact hle
   exact UL
  refine a8 (id:=2) rfl<|au<|aF aqu<|V (ax O O (by have:=hok.len;omega))<|aI rfl<|aa<| ?_
  refine⟨(a+1,l2,v5),?_,(((aj1.u4.u1).t aj2 O)).u4.u1.u1.u1,(Hp.conv cK aM),Q3,(aK I aM),J,J,?_,?_⟩
  .have:=hok.len;(try dsimp only);omega
  .exact WK
  (rw[h2,show b=pts r by omega,<-agJ a0 aR hok.len];exact hl)
 refine a8 (id:=0) rfl<|SR<|aF Oa<| ?_
 refine V (run_assign bz) ?_
 refine aa<|aj<|Pa O O er (i:=0) O (by rw[<-hl,abh a0 aR]) (by rw[<-hl,abh a0 aR])
theorem yw(r:Rl)(w:World):Calls Tryz.prog 183 #[.agg (dV r)] w (Pure (.agg (dV (jo r))) w):=by
 have hp:=dA r
 refine eH func183 rfl rfl fun hH=>SR<|gO hH (v:= .agg _) rfl<|fun b3 w1 bq=>lN bq (aT rR)<|fun b6 w4 bY=>aa<|SR<|V (aS bS O O O (bY.blk (i:=1) O))<|aH O bY (bN _ _) (ay nR O)<|fun w7 eX=>V (dL (vs:=[(0,I _)]) O (zh _))<|lN eX (aT rR)<|fun b11 w9 cg=>bg cg (i:=0) O (oV O O O (cg.blk (i:=0) O))<|fun zl bV=>aa<|ai<|SR<|va (v:=I 0) rfl<|aa<|aA<|have hz:(⟨pts r,fun _=>0#64⟩:Rl).n=pts r:=rfl;bt (G:=Int×Rl) (fun⟨k,r1⟩ s' w'=>(Fr (4::(rg 8 13 [])) _ s')/\(Hp w w' (.blk b11 (.cells (dV r1) 86 (0,0))::_))/\(s' 4=I k)/\(0<=k)/\(k<=pts r)/\(r1=EE (pts r) (fun i=>k8 (yh r i)) k)) (fun⟨k,r1⟩=>(pts r-k).toNat) ((0,⟨pts r,fun _=>0#64⟩)) ⟨Fr.refl _ _,bV,rfl,J,J,Iw _ _⟩<| ?_
 rintro⟨k,r1⟩ aaf Q1 ⟨mW,cD,ES,h0,hk,hr⟩
 obtain⟨N3,Bt,kI⟩:=mW.w3 1 2 3
 have hn:r1.n=pts r:=by rw[hr];rfl
 refine ai<|SR<|aF ES<|V (fA bS 0 O aP kI)<|lV bx cD 0 O O (fx _)<|V (aN O O)<|aa<|aG O (fun yt=> ?_) (fun yt=> ?_)
 .refine an<|ai<|aA<|au<|aF ES<|V (aS bS O O N3 (cD.blk (i:=2) O))<|aF ES<|CA O cD (AV _ _ _) (aL call215 O O)<|fun v19 TC dQ=>aH O dQ (fQ _ _ _ (dQ.sl (i:=0) O)) (ay Co O)<|fun w20 fK=>V (fA bS 1 O uy kI)<|V (a7 sH cQ O O J)<|bg fK (i:=1) O (bK O O (v:=U _) O O O (fK.blk (i:=1) O) Ig)<|fun TD eP=> ?_
  rw[yO]at eP
  refine aa<|au<|aF ES<|V (ax O O J)<|aI rfl<|aa<| ?_
  refine⟨(k+1,_),aX,mW.u4.u4.u4.u1.u1,(eP.sub (sQ sR)),(aK I aM),J,J,?_⟩
  rw[hr];exact Mi h0 (by rw[gm h0])
 refine a8 (id:=0) rfl<|SR<|V (aS bS O O kI (cD.blk (i:=0) O))<|bg cD (i:=1) O (oV O Bt O (cD.blk (i:=1) O))<|fun w24 om=>aa<|aj<|agH O Bt om (i:=1) O bS O O ⟨?_,om.below⟩
 (rw[hr,show k=pts r by omega,amr])
theorem ET(a b:Rl)(w:World):Calls Tryz.prog 136 #[.agg (dV a),.agg (dV b)] w (Pure (B (decide ((eM a).eq (eM b)))) w):=by
 refine eH func136 rfl rfl fun hH=>SR<|gO hH (v:= .agg _) rfl<|fun b3 w1 bq=>gO bq (v:= .agg _) rfl<|fun b6 w4 bY=>va (v:=B false) rfl<|aa<|ai<|ew aQ bY<|fun w7 eX=>AT 0 O eX (fun w hS=>aS bS O O O (hS.blk (i:=1) O))<|AT 2 O eX (fun w hS=>aS bS O O O (hS.blk (i:=0) O))<|A1 1<|cm O aC O eX sR (rS _ _) (ay call165 O)<|fun w9 cg=>A1 3<|cm O aC O cg sR (rS _ _) (ay call165 O)<|fun Je cM=>AQ 4 O cM (Fy Jd O O)<|AQ 5 O cM (aV (B _) O)<|AD<|aj<|oB O ?_ cM
 rfl
theorem BU(a b:Rl)(w:World):Calls Tryz.prog 214 #[.agg (dV a),.agg (dV b)] w (Pure (B (decide ((eM a).eq (eM b)))) w):=by
 refine eH func214 rfl rfl fun hH=>SR<|gO hH (v:= .agg _) rfl<|fun b3 w1 bq=>gO bq (v:= .agg _) rfl<|fun b6 w4 bY=>va (v:=B false) rfl<|aa<|ai<|ew aQ bY<|fun w7 eX=>AT 0 O eX (fun w hS=>aS bS O O O (hS.blk (i:=1) O))<|AT 2 O eX (fun w hS=>aS bS O O O (hS.blk (i:=0) O))<|A1 1<|cm O aC O eX sR (rT _ _) (ay call242 O)<|fun w9 cg=>A1 3<|cm O aC O cg sR (rT _ _) (ay call242 O)<|fun Je cM=>AQ 4 O cM (Fy Jd O O)<|AQ 5 O cM (aV (B _) O)<|AD<|aj<|oB O ?_ cM
 rfl
theorem Bw(r:Rl)(w:World):Calls Tryz.prog 166 #[.agg (dV r)] w (Pure (B (decide ((eM r).eq (jo r)))) w):=by
 refine eH func166 rfl rfl fun hH=>SR<|gO hH (v:= .agg _) rfl<|fun b3 w1 bq=>va (v:=B false) rfl<|aa<|ai<|ew aQ bq<|fun w4 bY=>AT 0 O bY (fun w hS=>aS bS O O O (hS.blk (i:=0) O))<|AT 2 O bY (fun w hS=>aS bS O O O (hS.blk (i:=0) O))<|A1 1<|cm O aC O bY sR (rS _ _) (ay call165 O)<|fun w6 eE=>A1 3<|cm O aC O eE sR (Jf _ _) (ay call201 O)<|fun w8 iD=>AQ 4 O iD (Fy Jd O O)<|AQ 5 O iD (aV (B _) O)<|AD<|aj<|oB O ?_ iD
 rfl
theorem qR(r:Rl)(w:World):Calls Tryz.prog 182 #[.agg (dV r)] w (Pure (B (decide ((eM r).eq (jo r)))) w):=by
 refine eH func182 rfl rfl fun hH=>SR<|gO hH (v:= .agg _) rfl<|fun b3 w1 bq=>va (v:=B false) rfl<|aa<|ai<|ew aQ bq<|fun w4 bY=>AT 0 O bY (fun w hS=>aS bS O O O (hS.blk (i:=0) O))<|AT 1 O bY (fun w hS=>aS bS O O O (hS.blk (i:=0) O))<|A1 2<|cm O aC O bY sR (yw _ _) (ay call183 O)<|fun w6 eE=>A1 3<|cm O aC O eE sR (BU _ _ _) (aL call214 O O)<|fun w8 iD=>AQ 4 O iD (aV (B _) O)<|AD<|aj<|oB O ?_ iD
 rw[adz]
theorem AW(n:Int)(w:World):Calls Tryz.prog 208 #[I n] w (Pure (.agg (dV (agN n))) w):=by
 refine eH func208 rfl rfl fun hH=>SR<|lN hH (aT rR)<|fun b3 w1 bq=>aa<|SR<|mI rfl<|V (dL (vs:=[(0,I _)]) O (zh _))<|aH O bq (ld _ _) (ay H8 O)<|fun w4 bY=>V (dL (vs:=[(0,I _)]) O (zh _))<|bg bY (i:=0) O (oV O O O (bY.blk (i:=0) O))<|fun w6 eE=>aa<|aj<|agH O O eE (i:=0) O bS O O ⟨?_,eE.below⟩
 rfl
theorem Kr(r:Rl)(i:Int)(w:World)(hT:pc w):Calls Tryz.prog 202 #[.agg (dV r),I i] w (Pure (U (DT r i)) w):=by
 refine eH func202 rfl rfl fun hH=>SR<|gO hH (v:= .agg _) rfl<|fun b3 w1 bq=>va (v:=U 0#64) rfl<|aa<|SR<|mI rfl<|ud 1 1 bq (cA bD O O (sz:=1) (vs:=[I _]) O O az az O O)<|fun b6 w4 bY=> ?_
 (try simp only[lC]at bY)
 refine aH O bY (zj _ [i] _ (bY.dU (i:=0) (n:=1) (sz:=1) O O az)) (ay call203 O)<|fun w7 eX=>aU rfl<|aa<|ai<|ew aQ eX<|fun w9 cg=>have AX:=cg;AT 0 O AX (fun w hS=>aS bS O O O (hS.blk (i:=1) O))<|AQ 1 O AX (mV (U _) O)<|AT 3 O AX (fun w hS=>aS bS O O O (hS.blk (i:=1) O))<|AQ 4 O AX (mV (U _) O)<|A1 2<|cm O aC O cg sR (Da _ _ _ (hT.hp cg)) (aL call209 O O)<|fun Je cM=>A1 5<|cm O aC O cM sR (yu _ _ _) (aL call211 O O)<|fun BR cD=>AQ 6 O cD (mh O O)<|AQ 7 O cD (aV (U _) O)<|AD<|aj<|oU O ?_ cD
 rfl
theorem Od(r:Rl)(w:World)(hT:pc w):Calls Tryz.prog 167 #[.agg (dV r)] w (Pure (B (gq r)) w):=by
 have hp:=dA r
 refine eH func167 rfl rfl fun hH=>SR<|gO hH (v:= .agg _) rfl<|fun b3 w1 bq=>va (v:=B false) rfl<|aa<|ai<|SR<|V (aS bS O O O (bq.blk (i:=0) O))<|aH O bq (Bw _ _) (ay call166 O)<|fun w4 bY=>V (vH O)<|aa<|aG O (fun h9=> ?_) (fun h9=> ?_)
 .refine SR<|va (v:=B false) rfl<|aa<|aj<|oB O ?_ bY
  exact(adB aR).symm
 refine an<|ai<|SR<|V (aS bS O O O (bY.blk (i:=0) O))<|aH O bY (ld _ _) (ay H8 O)<|fun Eo dr=>aF (v:=I 0) rfl<|aa<|aA<|have hc:=HQ ‹¬¬(eM r).eq (jo r)›;bt (G:=Int) (fun k s' w'=>(Fr (2::3::(rg 9 11 [])) _ s')/\(Hp w w' _)/\(s' 9=I k)/\(0<=k)/\(k<=pts r)/\(∀j:Int,0<=j->j<k->DT r j=k8 [j])) (fun k=>(pts r-k).toNat) (0) ⟨Fr.refl _ _,dr,rfl,J,J,fun j a b=>absurd b J⟩<| ?_
 rintro k aal zl ⟨my,cM,aj3,h0,hk,hf⟩
 obtain⟨po,Oe⟩:=my.w2 1 8
 refine SR<|V (aN aj3 Oe)<|aa<|ai<|aG O (fun Gl=> ?_) (fun Gl=> ?_)
 .refine an<|ai<|aA<|SR<|aF aj3<|aI rfl<|aa<|SR<|V (aS bS O O po (cM.blk (i:=0) O))<|mI rfl<|aH O cM (Kr _ _ _ (hT.hp cM)) (aL call202 O O)<|fun Tz cH=>mI rfl<|ud 1 1 cH (cA bD O O (sz:=1) (vs:=[I _]) O O az az O O)<|fun b19 TC dQ=> ?_
  (try simp only[lC]at dQ)
  refine aH O dQ (zj _ [k] _ (dQ.dU (i:=0) (n:=1) (sz:=1) O O az)) (ay call203 O)<|fun w20 fK=>V (vG O O)<|aa<|aG O (fun F6=> ?_) (fun F6=> ?_)
  .refine SR<|va (v:=B false) rfl<|aa<|aj<|oB O ?_ fK
   exact(agP hc ⟨h0,J⟩ aR).symm
  refine an<|au<|V (ax aj3 O J)<|mI rfl<|aa<| ?_
  refine⟨k+1,aX,my.u4.u4.u4,(fK.sub (sQ sR)),(aK I aM),J,J,?_⟩
  exact fun j a b=>if e:j=k then e▸HQ ‹_›else hf j a J
 refine a8 (id:=0) rfl<|SR<|va (v:=B true) rfl<|aa<|aj<|oB O ?_ cM
 exact(adC hc fun j a b=>hf j a J).symm
theorem AY(r:Rl)(w:World):Calls Tryz.prog 148 #[.agg (dV r)] w (Pure (B (gq r)) w):=by
 have hp:=dA r
 refine eH func148 rfl rfl fun hH=>SR<|gO hH (v:= .agg _) rfl<|fun b3 w1 bq=>va (v:=B false) rfl<|aa<|ai<|SR<|va (v:=I 0) rfl<|aa<|aA<|bt (G:=Int) (fun k s' w'=>(Fr (rg 2 24 []) _ s')/\(Hp w w' _)/\(s' 3=I k)/\(0<=k)/\(k<=pts r)/\(∀i j:Int,0<=j->j<i->i<k->(bL r i j&&bL r j i)=false)) (fun k=>(pts r-k).toNat) (0) ⟨Fr.refl _ _,bq,rfl,J,J,fun i j a b c=>absurd c J⟩<| ?_
 rintro k sg4 w4 ⟨C8,ix,zk,k0,k1,hf⟩
 have AR:=C8.w1 1
 refine ai<|SR<|aF zk<|V (aS bS O O AR (ix.blk (i:=0) O))<|aH O ix (bN _ _) (ay nR O)<|fun w5 jQ=>V (aN O O)<|aa<|aG O (fun h8=> ?_) (fun h8=> ?_)
 .refine an<|ai<|aA<|SR<|va (v:=I 0) rfl<|aa<|aA<|bt (G:=Int) (fun j s' w'=>(Fr (2::(4::(rg 11 15 []))) _ s')/\(Hp w w' _)/\(s' 4=I j)/\(0<=j)/\(j<=k)/\(∀x:Int,0<=x->x<j->(bL r k x&&bL r x k)=false)) (fun j=>(k-j).toNat) (0) ⟨Fr.refl _ _,jQ,rfl,J,J,fun x a b=>absurd b J⟩<| ?_
  rintro j sg9 w9 ⟨fr9,iD,Ps,j0,j1,hg⟩
  obtain⟨aan,aao⟩:=fr9.t2 1 AR 3 zk
  refine ai<|SR<|aF Ps<|aF aao<|V (aN O O)<|aa<|aG O (fun h11=> ?_) (fun h11=> ?_)
  .refine an<|ai<|aA<|SR<|V (aS bS O O aan (iD.blk (i:=0) O))<|aF aao<|aF Ps<|aH O iD (bC _ _ _ _) (bA jj O O O)<|fun zl bV=>mB rfl<|eK 20 O (fun Db=> ?_) (fun Db=> ?_)
   .refine V (aS bS O O aan (bV.blk (i:=0) O))<|aF Ps<|aF aao<|aH O bV (bC _ _ _ _) (bA jj O O O)<|fun Jg er=>mB rfl<|aa<|bX O (fun Ob=> ?_) (fun Ob=> ?_)
    .refine SR<|va (v:=B false) rfl<|aa<|aj<|oB O ?_ er
     exact(UP ‹bL r k j=true› ‹bL r j k=true› aR).symm
    refine an<|au<|aF Ps<|V (ax O O J)<|aI rfl<|aa<| ?_
    refine⟨j+1,aX,fr9.u4.u4.u4.u4,er,(aK I aM),J,J,?_⟩
    exact fun x u v=>if e:x=j then e▸(by rw[‹bL r j k=false›];simp)else hg x u J
   refine aF (v:=B false) rfl<|aa<|cT rfl<|an<|au<|aF Ps<|V (ax O O J)<|aI rfl<|aa<| ?_
   refine⟨j+1,aX,fr9.u4.u4.u4.u4,bV,(aK I aM),J,J,?_⟩
   exact fun x u v=>if e:x=j then e▸(by rw[‹bL r k j=false›];rfl)else hg x u J
  refine a8 (id:=2) rfl<|au<|aF aao<|V (ax O O J)<|aI rfl<|aa<| ?_
  refine⟨k+1,aX,(((C8.u4.u1).t fr9 O)).u4.u1.u1,iD,(aK I aM),J,J,?_⟩
  exact fun i x u v y=>if e:i=k then e▸hg x u (by omega)else hf i x u v J
 refine a8 (id:=0) rfl<|SR<|V (aS bS O O AR (jQ.blk (i:=0) O))<|aH O jQ (qR _ _) (ay call182 O)<|fun w20 fK=>aB rfl<|aa<|aj<|oB O ?_ fK
 exact(adD aR hf).symm
theorem aap(r:Rl)(i:Int)(w:World):Calls Tryz.prog 210 #[.agg (dV r),I i] w (Pure (B (BG r i)) w):=by
 have hp:=dA r
 have hnn:(agN r.n).n=pts r:=rfl
 refine eH func210 rfl rfl fun hH=>SR<|gO hH (v:= .agg _) rfl<|fun b3 w1 bq=>va (v:=B false) rfl<|aa<|SR<|mI rfl<|V (dF O O)<|mB rfl<|bM 7 O (fun h5=> ?_) (fun h5=> ?_)
 .refine mI rfl<|V (fA bS 0 O aP O)<|lV bx bq 0 O O (fx _)<|aH O bq (AW _ _) (ay call208 O)<|fun w6 eE=>V (DM bS O isAgg3 O (fx _))<|V (aN O O)<|mB rfl<|aB rfl<|aa<|aj<|oB O ?_ eE
  (rw[BG,gX];simp only[eD,uL,zT];omega)
 refine aF (v:=B false) rfl<|aB rfl<|aa<|aj<|oB O ?_ bq
 (rw[BG,gX];simp only[eD,uL,zT];omega)
theorem EU(r:Rl)(i:Int)(w:World)(hT:pc w):Calls Tryz.prog 176 #[.agg (dV r),I i] w (Pure (U (gx r i)) w):=by
 refine eH func176 rfl rfl fun hH=>SR<|gO hH (v:= .agg _) rfl<|fun b3 w1 bq=>va (v:=U 0#64) rfl<|aa<|ai<|ew aQ bq<|fun w4 bY=>AT 0 O bY (fun w hS=>aS bS O O O (hS.blk (i:=0) O))<|AQ 1 O bY (mV (I _) O)<|A1 2<|cB O aC O bY sR (f:=fun b=> .slice (some ⟨b,0,none⟩) 1 1) (cA bD O O (sz:=1) (vs:=[I _]) O O az az O O)<|fun b8 w6 eE=> ?_
 (try simp only[lC]at eE)
 refine A1 3<|cm O aC O eE (sQ sR) (zj _ [i] _ (eE.dU (i:=0) (n:=1) (sz:=1) O O az)) (ay call203 O)<|fun w9 cg=>A1 4<|cm O aC O cg (sQ sR) (Da _ _ _ (hT.hp cg)) (aL call209 O O)<|fun Je cM=>AQ 5 O (cM.sub (sQ sR)) (aV (U _) O)<|AD<|aj<|oU O ?_ cM
 rfl
theorem EV(r:Rl)(i:Int)(w:World)(hT:pc w):Calls Tryz.prog 177 #[.agg (dV r),I i] w (Pure (U (bQ r i)) w):=by
 refine eH func177 rfl rfl fun hH=>SR<|gO hH (v:= .agg _) rfl<|fun b3 w1 bq=>va (v:=U 0#64) rfl<|aa<|ai<|SR<|V (aS bS O O O (bq.blk (i:=0) O))<|mI rfl<|aH O bq (aap _ _ _) (aL call210 O O)<|fun w4 bY=>V (bJ O)<|aa<|bX O (fun h8=> ?_) (fun h8=> ?_)
 .refine SR<|va (v:=U 0#64) rfl<|aa<|aj<|oU O ?_ bY
  rw[bQ,aW (by simpa using‹(!BG r i)=true›)]
 refine an<|ai<|ew aQ bY<|fun w9 cg=>AT 0 O cg (fun w hS=>aS bS O O O (hS.blk (i:=0) O))<|AQ 1 O cg (mV (I _) O)<|A1 2<|cB O aC O cg sR (f:=fun b=> .slice (some ⟨b,0,none⟩) 1 1) (cA bD O O (sz:=1) (vs:=[I _]) O O az az O O)<|fun Of Je cM=> ?_
 (try simp only[lC]at cM)
 refine A1 3<|cm O aC O cM (sQ sR) (zj _ [i] _ (cM.dU (i:=0) (n:=1) (sz:=1) O O az)) (ay call203 O)<|fun Q1 gW=>A1 4<|cm O aC O gW (sQ sR) (yu _ _ _) (aL call211 O O)<|fun Jg er=>AQ 5 O (er.sub (sQ sR)) (aV (U _) O)<|AD<|aj<|oU O ?_ er
 rw[bQ,aY (by simpa using‹(!BG r i)=false›)]
theorem Bx(r:Rl)(i j:Int)(f:FuncId)(gg:Int->BitVec 64)(w:World)(hf:∀args w,(callFunc f args).run Tryz.prog w= .ok (.enter f args) w)(go:∀i w,pc w->Calls Tryz.prog f #[.agg (dV r),I i] w (Pure (U (gg i)) w))(hn:∀u,hasB (gg i&&&gg j) u=true->u<pts r)(hT:pc w):Calls Tryz.prog 204 #[.agg (dV r),I i,I j,.func (.func f) #[] #[]] w (Pure (.tuple #[I (Bi gg (pts r) i j).1,B (Bi gg (pts r) i j).2]) w):=by
 have hl:=Gv (gg i&&&gg j)
 refine eH func204 rfl rfl fun hH=>SR<|gO hH (v:= .agg _) rfl<|fun b3 w1 bq=>va (v:=I 0) rfl<|va (v:=B false) rfl<|aa<|ai<|ew aQ bq<|fun w4 bY=>have Pq:=bY;AQ 0 O Pq (mV (.func _ _ _) rfl)<|AT 1 rfl Pq (fun w hS=>aS bS O O O (hS.blk (i:=0) O))<|AQ 2 O Pq (mV (I _) O)<|AQ 4 O Pq (mV (.func _ _ _) O)<|AT 5 O Pq (fun w hS=>aS bS O O O (hS.blk (i:=0) O))<|AQ 6 O Pq (mV (I _) O)<|A1 3<|cm O aC O bY sR (go _ _ (hT.hp bY)) (iY hf (cs:=[]) O O O)<|fun w6 eE=>A1 7<|cm O aC O eE sR (go _ _ (hT.hp eE)) (iY hf (cs:=[]) O O O)<|fun w8 iD=>AQ 8 O iD (mh O O)<|AQ 9 O iD (aV (U _) O)<|AD<|ai<|SR<|mU rfl<|CA O iD (C9 _ _ (hT.hp iD)) (ay call233 O)<|fun v12 Eo dr=>V (aD (dr.sl (i:=0) O) O bD O)<|aF (v:=I 0) rfl<|aa<|aA<|bt (G:=Int) (fun a s' w'=>(Fr (8::9::(12::(rg 25 12 []))) _ s')/\(Hp w w' _)/\(s' 25=I a)/\(0<=a)/\(a<=(gK (gg i&&&gg j)).length)/\(∀b:Int,0<=b->b<a->ep (gg i&&&gg j) (gg ((gK (gg i&&&gg j)).getD b.toNat 0))=false)) (fun a=>((gK (gg i&&&gg j)).length-a).toNat) (0) ⟨Fr.refl _ _,dr,rfl,J,J,fun b x y=>absurd y J⟩<| ?_
 rintro a WL BR ⟨pJ,bV,Og,a0,a1,hg⟩
 have xE:=pJ.vv 3 (a:= .func _ _ _) rfl rfl
 obtain⟨wC,atH,aaq,Oh⟩:=pJ.w4 4 10 23 24
 refine SR<|V (aN Og Oh)<|aa<|ai<|aG O (fun Db=> ?_) (fun Db=> ?_)
 .refine an<|ai<|aA<|SR<|V (ah (bV.sl (i:=0) O) bD aP aaq Og J)<|V (aE bx O O ((bV.sl (i:=0) O).cell _ _ (eU J)))<|aI rfl<|aa<|SR<|aF atH<|aF xE<|V (aS bS O O wC (bV.blk (i:=1) O))<|mI rfl<|aH O bV (go _ _ (hT.hp bV)) (iY hf (cs:=[]) O O O)<|fun Jg er=>aH O er (F4 _ _ _) (aL call140 O O)<|fun Lf iC=>aa<|bX O (fun Pt=> ?_) (fun Pt=> ?_)
  .refine SR<|mI rfl<|aI rfl<|va (v:=B true) rfl<|aa<|aj<| ?_
   refine kE O (aK I ?_) (aK B ?_) iC.below<;>rw[agY hn a0 aR aR hg]
  refine an<|au<|V (ax Og O J)<|mI rfl<|aa<| ?_
  refine⟨a+1,aX,pJ.u4.u4.u4,iC,(aK I aM),J,J,?_⟩
  exact fun b x y=>if e:b=a then e▸‹_›else hg b x J
 refine a8 (id:=0) rfl<|SR<|va (v:=I 0) rfl<|va (v:=B false) rfl<|aa<|aj<| ?_
 refine kE O (aK I ?_) (aK B ?_) bV.below<;>rw[amv aR hg]
theorem AZ(r:Rl)(i j:Int)(w:World)(hT:pc w):Calls Tryz.prog 168 #[.agg (dV r),I i,I j] w (Pure (.tuple #[I (jf r i j).1,B (jf r i j).2]) w):=by
 refine eH func168 rfl rfl fun hH=>SR<|gO hH (v:= .agg _) rfl<|fun b3 w1 bq=>va (v:=I 0) rfl<|va (v:=B false) rfl<|aa<|SR<|V (aS bS O O O (bq.blk (i:=0) O))<|mI rfl<|mI rfl<|aH O bq (Bx r i j 176 (gx r) _ call176 (fun i w h=>EU r i w h) (fun u h=>agZ h) (hT.hp bq)) (jE call204 O O O O)<|fun w4 bY=>V (bk O (v:=I _) O)<|V (bk O (v:=B _) O)<|aI rfl<|aB rfl<|aa<|aj<|kE O (aK I ?_) (aK B ?_) bY.below
 all_goals rfl
theorem TE(r:Rl)(i j:Int)(w:World)(hT:pc w):Calls Tryz.prog 169 #[.agg (dV r),I i,I j] w (Pure (.tuple #[I (rA r i j).1,B (rA r i j).2]) w):=by
 refine eH func169 rfl rfl fun hH=>SR<|gO hH (v:= .agg _) rfl<|fun b3 w1 bq=>va (v:=I 0) rfl<|va (v:=B false) rfl<|aa<|SR<|V (aS bS O O O (bq.blk (i:=0) O))<|mI rfl<|mI rfl<|aH O bq (Bx r i j 177 (bQ r) _ call177 (fun i w h=>EV r i w h) (fun u h=>adF h) (hT.hp bq)) (jE call204 O O O O)<|fun w4 bY=>V (bk O (v:=I _) O)<|V (bk O (v:=B _) O)<|aI rfl<|aB rfl<|aa<|aj<|kE O (aK I ?_) (aK B ?_) bY.below
 all_goals rfl
theorem o3(r:Rl)(i:Int)(w:World)(hT:pc w):Calls Tryz.prog 144 #[.agg (dV r),I i] w (Pure (U (bQ r i)) w):=by
 refine eH func144 rfl rfl fun hH=>SR<|gO hH (v:= .agg _) rfl<|fun b3 w1 bq=>va (v:=U 0#64) rfl<|aa<|SR<|V (aS bS O O O (bq.blk (i:=0) O))<|mI rfl<|aH O bq (EV _ _ _ (hT.hp bq)) (aL call177 O O)<|fun w4 bY=>aU rfl<|aa<|aj<|oU O ?_ bY
 rfl
theorem yx(r:Rl)(s:BitVec 64)(w:World)(hT:pc w):Calls Tryz.prog 181 #[.agg (dV r),U s] w (Pure (.tuple #[I (eZ r s).1,B (eZ r s).2]) w):=by
 have hp:=dA r
 have hnn:(agN r.n).n=pts r:=rfl
 refine eH func181 rfl rfl fun hH=>SR<|gO hH (v:= .agg _) rfl<|fun b3 w1 bq=>va (v:=I 0) rfl<|va (v:=B false) rfl<|aa<|ai<|SR<|V (fA bS 0 O aP O)<|lV bx bq 0 O O (fx _)<|aH O bq (AW _ _) (ay call208 O)<|fun w4 bY=>V (DM bS O isAgg3 O (fx _))<|aF (v:=I 0) rfl<|aa<|aA<|bt (G:=Int) (fun k s' w'=>(Fr (rg 4 3 (rg 11 10 [])) _ s')/\(Hp w w' _)/\(s' 11=I k)/\(0<=k)/\(k<=pts r)/\(∀j:Int,0<=j->j<k->bQ r j≠s)) (fun k=>(pts r-k).toNat) (0) ⟨Fr.refl _ _,bY,rfl,J,J,fun j x y=>absurd y J⟩<| ?_
 rintro k sg6 w6 ⟨QZ,jQ,N0,h0,hk,hg⟩
 obtain⟨Pk,aj0,ajY⟩:=QZ.w3 1 2 10
 refine SR<|V (aN N0 ajY)<|aa<|ai<|aG O (fun h8=> ?_) (fun h8=> ?_)
 .refine an<|ai<|aA<|SR<|aF N0<|aI rfl<|aa<|SR<|V (aS bS O O aj0 (jQ.blk (i:=0) O))<|mI rfl<|aH O jQ (o3 _ _ _ (hT.hp jQ)) (aL H9 O O)<|fun w9 cg=>aF Pk<|V (jm O O)<|aa<|aG O (fun h12=> ?_) (fun h12=> ?_)
  .refine SR<|mI rfl<|aI rfl<|va (v:=B true) rfl<|aa<|aj<| ?_
   refine kE O (aK I ?_) (aK B ?_) cg.below<;>rw[DU h0 J aR hg]
  refine an<|au<|V (ax N0 O J)<|mI rfl<|aa<| ?_
  refine⟨k+1,aX,QZ.u4.u4.u1.u1,cg,(aK I aM),J,J,?_⟩
  exact fun j x y=>if e:j=k then e▸‹¬bQ r k=s›else hg j x J
 refine a8 (id:=0) rfl<|SR<|va (v:=I 0) rfl<|va (v:=B false) rfl<|aa<|aj<| ?_
 refine kE O (aK I ?_) (aK B ?_) jQ.below<;>rw[GD J hg]
theorem Pu(r:Rl)(a b:BitVec 64)(w:World)(hT:pc w):Calls Tryz.prog 205 #[.agg (dV r),U a,U b] w (Pure (U (jr r a b)) w):=by
 refine eH func205 rfl rfl fun hH=>SR<|gO hH (v:= .agg _) rfl<|fun b3 w1 bq=>va (v:=U 0#64) rfl<|aa<|ai<|SR<|V (aS bS O O O (bq.blk (i:=0) O))<|mU rfl<|aH O bq (yx _ _ _ (hT.hp bq)) (aL call181 O O)<|fun w4 bY=> ?_
 refine V (run_move bz) ?_
 refine V (bk O (v:=I _) O)<|V (bk O (v:=B _) O)<|aI rfl<|aB rfl<|aa<|SR<|mB rfl<|aa<|bX O (fun h7=> ?_) (fun h7=> ?_)
 .refine SR<|V (aS bS O O O (bY.blk (i:=0) O))<|mU rfl<|aH O bY (yx _ _ _ (hT.hp bY)) (aL call181 O O)<|fun w8 iD=> ?_
  refine V (run_move bz) ?_
  refine V (bk O (v:=I _) O)<|V (bk O (v:=B _) O)<|aI rfl<|aB rfl<|aa<|SR<|mB rfl<|aa<|bX O (fun h11=> ?_) (fun h11=> ?_)
  .refine SR<|V (aS bS O O O (iD.blk (i:=0) O))<|mI rfl<|mI rfl<|aH O iD (AZ _ _ _ _ (hT.hp iD)) (bA call168 O O O)<|fun zl bV=> ?_
   refine V (run_move bz) ?_
   refine V (bk O (v:=I _) O)<|V (bk O (v:=B _) O)<|aI rfl<|aB rfl<|aa<|SR<|mB rfl<|aa<|bX O (fun Db=> ?_) (fun Db=> ?_)
   .refine SR<|V (aS bS O O O (bV.blk (i:=0) O))<|mI rfl<|aH O bV (o3 _ _ _ (hT.hp bV)) (aL H9 O O)<|fun Jg er=>aU rfl<|aa<|aj<|oU O ?_ er
    rw[IE aR aR aR]
   refine an<|SR<|mU rfl<|mU rfl<|V (iG O O)<|aU rfl<|aa<|aj<|oU O ?_ bV
   rw[PU aR]
  refine an<|SR<|mU rfl<|mU rfl<|V (iG O O)<|aU rfl<|aa<|aj<|oU O ?_ iD
  rw[IG aR]
 refine an<|SR<|mU rfl<|mU rfl<|V (iG O O)<|aU rfl<|aa<|aj<|oU O ?_ bY
 rw[IF aR]
theorem WM(r:Rl)(f:FuncId)(gg:Int->BitVec 64)(w:World)(hf:∀args w,(callFunc f args).run Tryz.prog w= .ok (.enter f args) w)(go:∀i w,pc w->Calls Tryz.prog f #[.agg (dV r),I i] w (Pure (U (gg i)) w))(hT:pc w):Calls Tryz.prog 175 #[.agg (dV r),.func (.func f) #[] #[]] w (Pure (.tuple #[I (wT r gg).1,B (wT r gg).2]) w):=by
 have hp:=dA r
 have hnn:(agN r.n).n=pts r:=rfl
 refine eH func175 rfl rfl fun hH=>SR<|gO hH (v:= .agg _) rfl<|fun b3 w1 bq=>va (v:=I 0) rfl<|va (v:=B false) rfl<|aa<|SR<|V (fA bS 0 O aP O)<|lV bx bq 0 O O (fx _)<|aH O bq (AW _ _) (ay call208 O)<|fun w4 bY=>V (DM bS O isAgg3 O (fx _))<|aI rfl<|aa<|ai<|SR<|mI rfl<|aF (v:=I 0) rfl<|aa<|aA<|bt (G:=Int) (fun k s' w'=>(Fr (4::5::(7::(rg 13 12 []))) _ s')/\(Hp w w' _)/\(s' 13=I k)/\(0<=k)/\(k<=pts r)/\(∀j:Int,0<=j->j<k->gg j≠below (pts r))) (fun k=>(pts r-k).toNat) (0) ⟨Fr.refl _ _,bY,rfl,J,J,fun j x y=>absurd y J⟩<| ?_
 rintro k sg6 w6 ⟨QZ,jQ,aj4,h0,hk,hg⟩
 have Pk:=QZ.vv 1 (a:= .func _ _ _) rfl rfl
 obtain⟨aj0,aFf,ayo⟩:=QZ.w3 2 6 12
 refine SR<|V (aN aj4 ayo)<|aa<|ai<|aG O (fun h8=> ?_) (fun h8=> ?_)
 .refine an<|ai<|aA<|SR<|aF aj4<|aI rfl<|aa<|SR<|aF Pk<|V (aS bS O O aj0 (jQ.blk (i:=0) O))<|mI rfl<|aH O jQ (go _ _ (hT.hp jQ)) (iY hf (cs:=[]) O O O)<|fun w9 cg=>aF aFf<|aH O cg (oZ _ _) (ay H7 O)<|fun Je cM=>V (jm O O)<|aa<|aG O (fun Gl=> ?_) (fun Gl=> ?_)
  .refine SR<|mI rfl<|aI rfl<|va (v:=B true) rfl<|aa<|aj<| ?_
   refine kE O (aK I ?_) (aK B ?_) cM.below<;>rw[abo h0 J aR hg]
  refine an<|au<|V (ax aj4 O J)<|mI rfl<|aa<| ?_
  refine⟨k+1,aX,QZ.u4.u4.u4,cM,(aK I aM),J,J,?_⟩
  exact fun j x y=>if e:j=k then e▸‹¬gg k=below _›else hg j x J
 refine a8 (id:=0) rfl<|SR<|va (v:=I 0) rfl<|va (v:=B false) rfl<|aa<|aj<| ?_
 refine kE O (aK I ?_) (aK B ?_) jQ.below<;>rw[ag0 J hg]
theorem Oi(r:Rl)(w:World)(hT:pc w):Calls Tryz.prog 143 #[.agg (dV r)] w (Pure (.tuple #[I (wT r (gx r)).1,B (wT r (gx r)).2]) w):=by
 refine eH func143 rfl rfl fun hH=>SR<|gO hH (v:= .agg _) rfl<|fun b3 w1 bq=>va (v:=I 0) rfl<|va (v:=B false) rfl<|aa<|SR<|V (aS bS O O O (bq.blk (i:=0) O))<|aH O bq (WM r 176 (gx r) _ call176 (fun i w h=>EU r i w h) (hT.hp bq)) (aL call175 O O)<|fun w4 bY=>V (bk O (v:=I _) O)<|V (bk O (v:=B _) O)<|aI rfl<|aB rfl<|aa<|aj<|kE O (aK I ?_) (aK B ?_) bY.below
 all_goals rfl
theorem Ks(r:Rl)(w:World)(hT:pc w):Calls Tryz.prog 138 #[.agg (dV r)] w (Pure (B (tG r)) w):=by
 have hp:=dA r
 refine eH func138 rfl rfl fun hH=>SR<|gO hH (v:= .agg _) rfl<|fun b3 w1 bq=>va (v:=B false) rfl<|aa<|ai<|SR<|V (fA bS 0 O aP O)<|lV bx bq 0 O O (fx _)<|V (aN O O)<|mB rfl<|bM 12 O (fun h5=> ?_) (fun h5=> ?_)
 .refine aF (v:=B true) rfl<|mB rfl<|cF O rfl<|aF (v:=B true) rfl<|aa<|cz rfl<|SR<|va (v:=B false) rfl<|aa<|aj<|oB O ?_ bq
  exact(KR J).symm
 refine V (fA bS 0 O aP O)<|lV bx bq 0 O O (fx _)<|V (dP O O)<|mB rfl<|mB rfl<|bM 17 O (fun h7=> ?_) (fun h7=> ?_)
 .refine aF (v:=B true) rfl<|aa<|cz rfl<|SR<|va (v:=B false) rfl<|aa<|aj<|oB O ?_ bq
  exact(KR J).symm
 refine V (aS bS O O O (bq.blk (i:=0) O))<|aH O bq (Od _ _ (hT.hp bq)) (ay call167 O)<|fun w8 iD=>V (bJ O)<|mB rfl<|aa<|bX O (fun h12=> ?_) (fun h12=> ?_)
 .refine SR<|va (v:=B false) rfl<|aa<|aj<|oB O ?_ iD
  exact(abm (nt aR)).symm
 refine an<|ai<|SR<|V (fA bS 0 O aP O)<|lV bx iD 0 O O (fx _)<|aF (v:=I 0) rfl<|aa<|aA<|have hn:1<=r.n/\r.n<=64:=J;have ho:gq r=true:=nf aR;bt (G:=Int) (fun i s' w'=>(Fr (rg 2 7 (rg 24 29 [])) _ s')/\(Hp w w' _)/\(s' 24=I i)/\(0<=i)/\(i<=r.n)/\(∀a b:Int,0<=b->b<a->a<i->uO r a b=true)) (fun i=>(r.n-i).toNat) (0) ⟨Fr.refl _ _,iD,rfl,J,J,fun a b x y z=>absurd z J⟩<| ?_
 rintro i WL BR ⟨pJ,bV,Oh,i0,i1,hg⟩
 obtain⟨Dc,aaq⟩:=pJ.w2 1 23
 refine SR<|V (aN Oh aaq)<|aa<|ai<|aG O (fun Db=> ?_) (fun Db=> ?_)
 .refine an<|ai<|aA<|SR<|aF Oh<|aI rfl<|aa<|SR<|mI rfl<|aF (v:=I 0) rfl<|aa<|aA<|bt (G:=Int) (fun j s' w'=>(Fr (2::(rg 4 5 (rg 28 24 []))) _ s')/\(Hp w w' _)/\(s' 28=I j)/\(0<=j)/\(j<=i)/\(∀b:Int,0<=b->b<j->uO r i b=true)) (fun j=>(i-j).toNat) (0) ⟨Fr.refl _ _,bV,rfl,J,J,fun b x y=>absurd y J⟩<| ?_
  rintro j aar Jg ⟨nV,cH,aas,j0,j1,hh⟩
  obtain⟨oL,atI⟩:=nV.w2 3 27
  obtain⟨xF,atJ⟩:=nV.t2 1 Dc 24 Oh
  refine SR<|V (aN aas atI)<|aa<|ai<|aG O (fun p9=> ?_) (fun p9=> ?_)
  .refine an<|ai<|aA<|SR<|aF aas<|aI rfl<|aa<|SR<|V (aS bS O O xF (cH.blk (i:=0) O))<|aF oL<|mI rfl<|aH O cH (AZ _ _ _ _ (hT.hp cH)) (bA call168 O O O)<|fun Q2 cP=> ?_
   refine V (run_move bz) ?_
   refine V (bk O (v:=I _) O)<|V (bk O (v:=B _) O)<|aI rfl<|aB rfl<|aa<|SR<|V (aS bS O O xF (cP.blk (i:=0) O))<|aF oL<|mI rfl<|aH O cP (TE _ _ _ _ (hT.hp cP)) (bA call169 O O O)<|fun TD eP=> ?_
   refine V (run_move bz) ?_
   refine V (bk O (v:=I _) O)<|V (bk O (v:=B _) O)<|aI rfl<|aB rfl<|aa<|SR<|mB rfl<|V (bJ O)<|mB rfl<|eK 47 O (fun WJ=> ?_) (fun WJ=> ?_)
   .refine aF (v:=B true) rfl<|aa<|cz rfl<|SR<|va (v:=B false) rfl<|aa<|aj<|oB O ?_ eP
    exact(KS ‹i<r.n› j0 ‹j<i› af6).symm
   refine mB rfl<|V (bJ O)<|mB rfl<|aa<|bX O (fun WN=> ?_) (fun WN=> ?_)
   .refine SR<|va (v:=B false) rfl<|aa<|aj<|oB O ?_ eP
    exact(KS ‹i<r.n› j0 ‹j<i› af2).symm
   refine an<|au<|V (ax aas O J)<|mI rfl<|aa<| ?_
   refine⟨j+1,aX,nV.u4.u4.u4.u4.u4.u4.u4.u1,eP,(aK I aM),J,J,?_⟩
   exact fun b x y=>if e:b=j then e▸(by rw[uO,cL];exact⟨nf ‹(!(jf r i j).2)=false›,nf ‹(!(rA r i j).2)=false›⟩)else hh b x J
  refine a8 (id:=2) rfl<|au<|V (ax atJ O J)<|mI rfl<|aa<| ?_
  refine⟨i+1,aX,(((pJ.u4.u1).t nV O)).u1.u1.u1,cH,(aK I aM),J,J,?_⟩
  exact fun a b x y z=>if e:a=i then e▸hh b x (by omega)else hg a b x y J
 refine a8 (id:=0) rfl<|SR<|va (v:=B true) rfl<|aa<|aj<|oB O ?_ bV
 exact(abn hn ho aR hg).symm
theorem sB(r:Rl)(i j:Int)(w:World):Calls Tryz.prog 121 #[.agg (dV r),I i,I j] w (Pure (.tuple #[I (jf r i j).1,B (jf r i j).2]) w):=by
 have hp:=dA r
 refine eH func121 rfl rfl fun hH=>SR<|gO hH (v:= .agg _) rfl<|fun b3 w1 bq=>va (v:=I 0) rfl<|va (v:=B false) rfl<|aa<|ai<|SR<|va (v:=I 0) rfl<|aa<|aA<|bt (G:=Int) (fun u s' w'=>(Fr (rg 6 46 []) _ s')/\(Hp w w' _)/\(s' 8=I u)/\(0<=u)/\(u<=pts r)/\(∀x:Int,0<=x->x<u->oD (gx r) i j x=false)) (fun u=>(pts r-u).toNat) (0) ⟨Fr.refl _ _,bq,rfl,J,J,fun x a b=>absurd b J⟩<| ?_
 rintro u sg4 w4 ⟨C8,ix,Jh,u0,u1,hg⟩
 obtain⟨AR,Kt,zk⟩:=C8.w3 1 2 3
 refine ai<|SR<|aF Jh<|V (aS bS O O zk (ix.blk (i:=0) O))<|aH O ix (bN _ _) (ay nR O)<|fun w5 jQ=>V (aN O O)<|aa<|aG O (fun h8=> ?_) (fun h8=> ?_)
 .refine an<|ai<|aA<|SR<|V (aS bS O O zk (jQ.blk (i:=0) O))<|aF AR<|aF Jh<|aH O jQ (bC _ _ _ _) (bA jj O O O)<|fun w9 cg=>mB rfl<|eK 21 O (fun h12=> ?_) (fun h12=> ?_)
  .refine V (aS bS O O zk (cg.blk (i:=0) O))<|aF Kt<|aF Jh<|aH O cg (bC _ _ _ _) (bA jj O O O)<|fun BR cD=>mB rfl<|aB rfl<|aa<|ai<|SR<|va (v:=I 0) rfl<|aa<|aA<|bt (G:=Int) (fun v s' w'=>(Fr (9::10::(rg 27 23 [])) _ s')/\(Hp w w' _)/\(s' 9=B (EG r i j u v))/\(s' 10=I v)/\(0<=v)/\(v<=pts r)) (fun v=>(pts r-v).toNat) (0) ⟨Fr.refl _ _,cD,(aK B (by simp[EG,upto, *])),rfl,J,J⟩<| ?_
   rintro v aar Jg ⟨nV,cH,Hq,oM,v0,v1⟩
   obtain⟨xF,WO,oL,qa⟩:=nV.t4 1 AR 2 Kt 3 zk 8 Jh
   refine ai<|SR<|aF oM<|V (aS bS O O oL (cH.blk (i:=0) O))<|aH O cH (bN _ _) (ay nR O)<|fun Lf iC=>V (aN O O)<|aa<|aG O (fun Pt=> ?_) (fun Pt=> ?_)
   .refine an<|ai<|aA<|SR<|V (aS bS O O oL (iC.blk (i:=0) O))<|aF xF<|aF oM<|aH O iC (bC _ _ _ _) (bA jj O O O)<|fun TD eP=>mB rfl<|eK 37 O (fun Ji=> ?_) (fun Ji=> ?_)
    .refine V (aS bS O O oL (eP.blk (i:=0) O))<|aF WO<|aF oM<|aH O eP (bC _ _ _ _) (bA jj O O O)<|fun Uq dG=>mB rfl<|mB rfl<|eK 43 O (fun rU=> ?_) (fun rU=> ?_)
     .refine V (aS bS O O oL (dG.blk (i:=0) O))<|aF qa<|aF oM<|aH O dG (bC _ _ _ _) (bA jj O O O)<|fun w30 kZ=>V (bJ O)<|mB rfl<|aa<|bX O (fun h34=> ?_) (fun h34=> ?_)
      .refine au<|va (v:=B false) rfl<|aa<|au<|aF oM<|V (ax O O J)<|aI rfl<|aa<| ?_
       refine⟨v+1,aX,nV.u4.u4.u4.u4.u4.u4.u1,kZ,(aK B Cs),(aK I aM),J,J⟩
      refine an<|au<|aF oM<|V (ax O O J)<|aI rfl<|aa<| ?_
      refine⟨v+1,aX,nV.u4.u4.u4.u4.u4.u4,kZ,(jZ Hq (aK B Cs)),(aK I aM),J,J⟩
     refine aF (v:=B false) rfl<|aa<|cT rfl<|an<|au<|aF oM<|V (ax O O J)<|aI rfl<|aa<| ?_
     refine⟨v+1,aX,nV.u4.u4.u4.u4.u4.u4,dG,(jZ Hq (aK B Cs)),(aK I aM),J,J⟩
    refine aF (v:=B false) rfl<|mB rfl<|cF O rfl<|aF (v:=B false) rfl<|aa<|cT rfl<|an<|au<|aF oM<|V (ax O O J)<|aI rfl<|aa<| ?_
    refine⟨v+1,aX,nV.u4.u4.u4.u4.u4.u4,eP,(jZ Hq (aK B Cs)),(aK I aM),J,J⟩
   refine a8 (id:=2) rfl<|SR<|aF Hq<|aa<|bX O (fun BT=> ?_) (fun BT=> ?_)
   .refine SR<|aF qa<|aI rfl<|va (v:=B true) rfl<|aa<|aj<| ?_
    (refine kE O (aK I ?_) (aK B ?_) iC.below<;>rw[UU u0 aR (show v=pts r by omega) aR hg])
   refine an<|au<|aF qa<|V (ax O O J)<|aI rfl<|aa<| ?_
   refine⟨u+1,aX,(((C8.u4.u4.u4.u4).t nV O)).u4.u4,iC,(aK I aM),J,J,?_⟩
   exact fun x a b=>if e:x=u then e▸(by rw[IC r i j u (show v=pts r by omega)];assumption)else hg x a J
  refine aF (v:=B false) rfl<|aB rfl<|aa<|ai<|SR<|va (v:=I 0) rfl<|aa<|aA<|bt (G:=Int) (fun v s' w'=>(Fr (9::10::(rg 27 23 [])) _ s')/\(Hp w w' _)/\(s' 9=B (EG r i j u v))/\(s' 10=I v)/\(0<=v)/\(v<=pts r)) (fun v=>(pts r-v).toNat) (0) ⟨Fr.refl _ _,cg,(aK B (by simp[EG,upto, *])),rfl,J,J⟩<| ?_
  rintro v aFg w36 ⟨Jj,j8,Hr,oN,v0,v1⟩
  obtain⟨aj5,aj6,Ht,Oj⟩:=Jj.t4 1 AR 2 Kt 3 zk 8 Jh
  refine ai<|SR<|aF oN<|V (aS bS O O Ht (j8.blk (i:=0) O))<|aH O j8 (bN _ _) (ay nR O)<|fun w38 jS=>V (aN O O)<|aa<|aG O (fun h41=> ?_) (fun h41=> ?_)
  .refine an<|ai<|aA<|SR<|V (aS bS O O Ht (jS.blk (i:=0) O))<|aF aj5<|aF oN<|aH O jS (bC _ _ _ _) (bA jj O O O)<|fun w42 mz=>mB rfl<|eK 37 O (fun h45=> ?_) (fun h45=> ?_)
   .refine V (aS bS O O Ht (mz.blk (i:=0) O))<|aF aj6<|aF oN<|aH O mz (bC _ _ _ _) (bA jj O O O)<|fun w46 o4=>mB rfl<|mB rfl<|eK 43 O (fun h49=> ?_) (fun h49=> ?_)
    .refine V (aS bS O O Ht (o4.blk (i:=0) O))<|aF Oj<|aF oN<|aH O o4 (bC _ _ _ _) (bA jj O O O)<|fun w50 qy=>V (bJ O)<|mB rfl<|aa<|bX O (fun h54=> ?_) (fun h54=> ?_)
     .refine au<|va (v:=B false) rfl<|aa<|au<|aF oN<|V (ax O O J)<|aI rfl<|aa<| ?_
      refine⟨v+1,aX,Jj.u4.u4.u4.u4.u4.u4.u1,qy,(aK B Cs),(aK I aM),J,J⟩
     refine an<|au<|aF oN<|V (ax O O J)<|aI rfl<|aa<| ?_
     refine⟨v+1,aX,Jj.u4.u4.u4.u4.u4.u4,qy,(jZ Hr (aK B Cs)),(aK I aM),J,J⟩
    refine aF (v:=B false) rfl<|aa<|cT rfl<|an<|au<|aF oN<|V (ax O O J)<|aI rfl<|aa<| ?_
    refine⟨v+1,aX,Jj.u4.u4.u4.u4.u4.u4,o4,(jZ Hr (aK B Cs)),(aK I aM),J,J⟩
   refine aF (v:=B false) rfl<|mB rfl<|cF O rfl<|aF (v:=B false) rfl<|aa<|cT rfl<|an<|au<|aF oN<|V (ax O O J)<|aI rfl<|aa<| ?_
   refine⟨v+1,aX,Jj.u4.u4.u4.u4.u4.u4,mz,(jZ Hr (aK B Cs)),(aK I aM),J,J⟩
  refine a8 (id:=2) rfl<|SR<|aF Hr<|aa<|bX O (fun h55=> ?_) (fun h55=> ?_)
  .refine SR<|aF Oj<|aI rfl<|va (v:=B true) rfl<|aa<|aj<| ?_
   (refine kE O (aK I ?_) (aK B ?_) jS.below<;>rw[UU u0 aR (show v=pts r by omega) aR hg])
  refine an<|au<|aF Oj<|V (ax O O J)<|aI rfl<|aa<| ?_
  refine⟨u+1,aX,(((C8.u4.u4.u4.u4).t Jj O)).u4.u4,jS,(aK I aM),J,J,?_⟩
  exact fun x a b=>if e:x=u then e▸(by rw[IC r i j u (show v=pts r by omega)];assumption)else hg x a J
 refine a8 (id:=0) rfl<|SR<|va (v:=I 0) rfl<|va (v:=B false) rfl<|aa<|aj<| ?_
 (refine kE O (aK I ?_) (aK B ?_) jQ.below<;>rw[amw aR hg])
theorem BV(r:Rl)(i j:Int)(w:World):Calls Tryz.prog 184 #[.agg (dV r),I i,I j] w (Pure (.tuple #[I (rA r i j).1,B (rA r i j).2]) w):=by
 have hp:=dA r
 refine eH func184 rfl rfl fun hH=>SR<|gO hH (v:= .agg _) rfl<|fun b3 w1 bq=>va (v:=I 0) rfl<|va (v:=B false) rfl<|aa<|ai<|SR<|va (v:=I 0) rfl<|aa<|aA<|bt (G:=Int) (fun u s' w'=>(Fr (rg 6 46 []) _ s')/\(Hp w w' _)/\(s' 8=I u)/\(0<=u)/\(u<=pts r)/\(∀x:Int,0<=x->x<u->oD (bQ r) i j x=false)) (fun u=>(pts r-u).toNat) (0) ⟨Fr.refl _ _,bq,rfl,J,J,fun x a b=>absurd b J⟩<| ?_
 rintro u sg4 w4 ⟨C8,ix,Jh,u0,u1,hg⟩
 obtain⟨AR,Kt,zk⟩:=C8.w3 1 2 3
 refine ai<|SR<|aF Jh<|V (aS bS O O zk (ix.blk (i:=0) O))<|aH O ix (bN _ _) (ay nR O)<|fun w5 jQ=>V (aN O O)<|aa<|aG O (fun h8=> ?_) (fun h8=> ?_)
 .refine an<|ai<|aA<|SR<|V (aS bS O O zk (jQ.blk (i:=0) O))<|aF Jh<|aF AR<|aH O jQ (bC _ _ _ _) (bA jj O O O)<|fun w9 cg=>mB rfl<|eK 21 O (fun h12=> ?_) (fun h12=> ?_)
  .refine V (aS bS O O zk (cg.blk (i:=0) O))<|aF Jh<|aF Kt<|aH O cg (bC _ _ _ _) (bA jj O O O)<|fun BR cD=>mB rfl<|aB rfl<|aa<|ai<|SR<|va (v:=I 0) rfl<|aa<|aA<|bt (G:=Int) (fun v s' w'=>(Fr (9::10::(rg 27 23 [])) _ s')/\(Hp w w' _)/\(s' 9=B (EH r i j u v))/\(s' 10=I v)/\(0<=v)/\(v<=pts r)) (fun v=>(pts r-v).toNat) (0) ⟨Fr.refl _ _,cD,(aK B (by simp[EH,upto, *])),rfl,J,J⟩<| ?_
   rintro v aar Jg ⟨nV,cH,Hq,oM,v0,v1⟩
   obtain⟨xF,WO,oL,qa⟩:=nV.t4 1 AR 2 Kt 3 zk 8 Jh
   refine ai<|SR<|aF oM<|V (aS bS O O oL (cH.blk (i:=0) O))<|aH O cH (bN _ _) (ay nR O)<|fun Lf iC=>V (aN O O)<|aa<|aG O (fun Pt=> ?_) (fun Pt=> ?_)
   .refine an<|ai<|aA<|SR<|V (aS bS O O oL (iC.blk (i:=0) O))<|aF oM<|aF xF<|aH O iC (bC _ _ _ _) (bA jj O O O)<|fun TD eP=>mB rfl<|eK 37 O (fun Ji=> ?_) (fun Ji=> ?_)
    .refine V (aS bS O O oL (eP.blk (i:=0) O))<|aF oM<|aF WO<|aH O eP (bC _ _ _ _) (bA jj O O O)<|fun Uq dG=>mB rfl<|mB rfl<|eK 43 O (fun rU=> ?_) (fun rU=> ?_)
     .refine V (aS bS O O oL (dG.blk (i:=0) O))<|aF oM<|aF qa<|aH O dG (bC _ _ _ _) (bA jj O O O)<|fun w30 kZ=>V (bJ O)<|mB rfl<|aa<|bX O (fun h34=> ?_) (fun h34=> ?_)
      .refine au<|va (v:=B false) rfl<|aa<|au<|aF oM<|V (ax O O J)<|aI rfl<|aa<| ?_
       refine⟨v+1,aX,nV.u4.u4.u4.u4.u4.u4.u1,kZ,(aK B Cu),(aK I aM),J,J⟩
      refine an<|au<|aF oM<|V (ax O O J)<|aI rfl<|aa<| ?_
      refine⟨v+1,aX,nV.u4.u4.u4.u4.u4.u4,kZ,(jZ Hq (aK B Cu)),(aK I aM),J,J⟩
     refine aF (v:=B false) rfl<|aa<|cT rfl<|an<|au<|aF oM<|V (ax O O J)<|aI rfl<|aa<| ?_
     refine⟨v+1,aX,nV.u4.u4.u4.u4.u4.u4,dG,(jZ Hq (aK B Cu)),(aK I aM),J,J⟩
    refine aF (v:=B false) rfl<|mB rfl<|cF O rfl<|aF (v:=B false) rfl<|aa<|cT rfl<|an<|au<|aF oM<|V (ax O O J)<|aI rfl<|aa<| ?_
    refine⟨v+1,aX,nV.u4.u4.u4.u4.u4.u4,eP,(jZ Hq (aK B Cu)),(aK I aM),J,J⟩
   refine a8 (id:=2) rfl<|SR<|aF Hq<|aa<|bX O (fun BT=> ?_) (fun BT=> ?_)
   .refine SR<|aF qa<|aI rfl<|va (v:=B true) rfl<|aa<|aj<| ?_
    (refine kE O (aK I ?_) (aK B ?_) iC.below<;>rw[UW u0 aR (show v=pts r by omega) aR hg])
   refine an<|au<|aF qa<|V (ax O O J)<|aI rfl<|aa<| ?_
   refine⟨u+1,aX,(((C8.u4.u4.u4.u4).t nV O)).u4.u4,iC,(aK I aM),J,J,?_⟩
   exact fun x a b=>if e:x=u then e▸(by rw[ID r i j u (show v=pts r by omega)];assumption)else hg x a J
  refine aF (v:=B false) rfl<|aB rfl<|aa<|ai<|SR<|va (v:=I 0) rfl<|aa<|aA<|bt (G:=Int) (fun v s' w'=>(Fr (9::10::(rg 27 23 [])) _ s')/\(Hp w w' _)/\(s' 9=B (EH r i j u v))/\(s' 10=I v)/\(0<=v)/\(v<=pts r)) (fun v=>(pts r-v).toNat) (0) ⟨Fr.refl _ _,cg,(aK B (by simp[EH,upto, *])),rfl,J,J⟩<| ?_
  rintro v aFg w36 ⟨Jj,j8,Hr,oN,v0,v1⟩
  obtain⟨aj5,aj6,Ht,Oj⟩:=Jj.t4 1 AR 2 Kt 3 zk 8 Jh
  refine ai<|SR<|aF oN<|V (aS bS O O Ht (j8.blk (i:=0) O))<|aH O j8 (bN _ _) (ay nR O)<|fun w38 jS=>V (aN O O)<|aa<|aG O (fun h41=> ?_) (fun h41=> ?_)
  .refine an<|ai<|aA<|SR<|V (aS bS O O Ht (jS.blk (i:=0) O))<|aF oN<|aF aj5<|aH O jS (bC _ _ _ _) (bA jj O O O)<|fun w42 mz=>mB rfl<|eK 37 O (fun h45=> ?_) (fun h45=> ?_)
   .refine V (aS bS O O Ht (mz.blk (i:=0) O))<|aF oN<|aF aj6<|aH O mz (bC _ _ _ _) (bA jj O O O)<|fun w46 o4=>mB rfl<|mB rfl<|eK 43 O (fun h49=> ?_) (fun h49=> ?_)
    .refine V (aS bS O O Ht (o4.blk (i:=0) O))<|aF oN<|aF Oj<|aH O o4 (bC _ _ _ _) (bA jj O O O)<|fun w50 qy=>V (bJ O)<|mB rfl<|aa<|bX O (fun h54=> ?_) (fun h54=> ?_)
     .refine au<|va (v:=B false) rfl<|aa<|au<|aF oN<|V (ax O O J)<|aI rfl<|aa<| ?_
      refine⟨v+1,aX,Jj.u4.u4.u4.u4.u4.u4.u1,qy,(aK B Cu),(aK I aM),J,J⟩
     refine an<|au<|aF oN<|V (ax O O J)<|aI rfl<|aa<| ?_
     refine⟨v+1,aX,Jj.u4.u4.u4.u4.u4.u4,qy,(jZ Hr (aK B Cu)),(aK I aM),J,J⟩
    refine aF (v:=B false) rfl<|aa<|cT rfl<|an<|au<|aF oN<|V (ax O O J)<|aI rfl<|aa<| ?_
    refine⟨v+1,aX,Jj.u4.u4.u4.u4.u4.u4,o4,(jZ Hr (aK B Cu)),(aK I aM),J,J⟩
   refine aF (v:=B false) rfl<|mB rfl<|cF O rfl<|aF (v:=B false) rfl<|aa<|cT rfl<|an<|au<|aF oN<|V (ax O O J)<|aI rfl<|aa<| ?_
   refine⟨v+1,aX,Jj.u4.u4.u4.u4.u4.u4,mz,(jZ Hr (aK B Cu)),(aK I aM),J,J⟩
  refine a8 (id:=2) rfl<|SR<|aF Hr<|aa<|bX O (fun h55=> ?_) (fun h55=> ?_)
  .refine SR<|aF Oj<|aI rfl<|va (v:=B true) rfl<|aa<|aj<| ?_
   (refine kE O (aK I ?_) (aK B ?_) jS.below<;>rw[UW u0 aR (show v=pts r by omega) aR hg])
  refine an<|au<|aF Oj<|V (ax O O J)<|aI rfl<|aa<| ?_
  refine⟨u+1,aX,(((C8.u4.u4.u4.u4).t Jj O)).u4.u4,jS,(aK I aM),J,J,?_⟩
  exact fun x a b=>if e:x=u then e▸(by rw[ID r i j u (show v=pts r by omega)];assumption)else hg x a J
 refine a8 (id:=0) rfl<|SR<|va (v:=I 0) rfl<|va (v:=B false) rfl<|aa<|aj<| ?_
 (refine kE O (aK I ?_) (aK B ?_) jQ.below<;>rw[amx aR hg])
theorem yy(r:Rl)(w:World):Calls Tryz.prog 151 #[.agg (dV r)] w (Pure (B (tG r)) w):=by
 have hp:=dA r
 refine eH func151 rfl rfl fun hH=>SR<|gO hH (v:= .agg _) rfl<|fun b3 w1 bq=>va (v:=B false) rfl<|aa<|ai<|SR<|V (fA bS 0 O aP O)<|lV bx bq 0 O O (fx _)<|V (aN O O)<|mB rfl<|bM 12 O (fun h5=> ?_) (fun h5=> ?_)
 .refine aF (v:=B true) rfl<|mB rfl<|cF O rfl<|aF (v:=B true) rfl<|aa<|cz rfl<|SR<|va (v:=B false) rfl<|aa<|aj<|oB O ?_ bq
  exact(KR J).symm
 refine V (fA bS 0 O aP O)<|lV bx bq 0 O O (fx _)<|V (dP O O)<|mB rfl<|mB rfl<|bM 17 O (fun h7=> ?_) (fun h7=> ?_)
 .refine aF (v:=B true) rfl<|aa<|cz rfl<|SR<|va (v:=B false) rfl<|aa<|aj<|oB O ?_ bq
  exact(KR J).symm
 refine V (aS bS O O O (bq.blk (i:=0) O))<|aH O bq (AY _ _) (ay call148 O)<|fun w8 iD=>V (bJ O)<|mB rfl<|aa<|bX O (fun h12=> ?_) (fun h12=> ?_)
 .refine SR<|va (v:=B false) rfl<|aa<|aj<|oB O ?_ iD
  exact(abm (nt aR)).symm
 refine an<|ai<|SR<|va (v:=I 0) rfl<|aa<|aA<|have hn:1<=r.n/\r.n<=64:=J;have ho:gq r=true:=nf aR;bt (G:=Int) (fun i s' w'=>(Fr (rg 2 7 (rg 22 31 [])) _ s')/\(Hp w w' _)/\(s' 3=I i)/\(0<=i)/\(i<=r.n)/\(∀a b:Int,0<=b->b<a->a<i->uO r a b=true)) (fun i=>(r.n-i).toNat) (0) ⟨Fr.refl _ _,iD,rfl,J,J,fun a b x y z=>absurd z J⟩<| ?_
 rintro i WL BR ⟨pJ,bV,xE,i0,i1,hg⟩
 have Dc:=pJ.w1 1
 refine ai<|SR<|aF xE<|V (fA bS 0 O aP Dc)<|lV bx bV 0 O O (fx _)<|V (aN O O)<|aa<|aG O (fun Db=> ?_) (fun Db=> ?_)
 .refine an<|ai<|aA<|SR<|va (v:=I 0) rfl<|aa<|aA<|bt (G:=Int) (fun j s' w'=>(Fr (2::(rg 4 5 (rg 28 25 []))) _ s')/\(Hp w w' _)/\(s' 4=I j)/\(0<=j)/\(j<=i)/\(∀b:Int,0<=b->b<j->uO r i b=true)) (fun j=>(i-j).toNat) (0) ⟨Fr.refl _ _,bV,rfl,J,J,fun b x y=>absurd y J⟩<| ?_
  rintro j aar Jg ⟨nV,cH,EW,j0,j1,hh⟩
  obtain⟨xF,oL⟩:=nV.t2 1 Dc 3 xE
  refine ai<|SR<|aF EW<|aF oL<|V (aN O O)<|aa<|aG O (fun p9=> ?_) (fun p9=> ?_)
  .refine an<|ai<|aA<|SR<|V (aS bS O O xF (cH.blk (i:=0) O))<|aF oL<|aF EW<|aH O cH (sB _ _ _ _) (bA call121 O O O)<|fun Q2 cP=> ?_
   refine V (run_move bz) ?_
   refine V (bk O (v:=I _) O)<|V (bk O (v:=B _) O)<|aI rfl<|aB rfl<|aa<|SR<|V (aS bS O O xF (cP.blk (i:=0) O))<|aF oL<|aF EW<|aH O cP (BV _ _ _ _) (bA call184 O O O)<|fun TD eP=> ?_
   refine V (run_move bz) ?_
   refine V (bk O (v:=I _) O)<|V (bk O (v:=B _) O)<|aI rfl<|aB rfl<|aa<|SR<|mB rfl<|V (bJ O)<|mB rfl<|eK 49 O (fun WJ=> ?_) (fun WJ=> ?_)
   .refine aF (v:=B true) rfl<|aa<|cz rfl<|SR<|va (v:=B false) rfl<|aa<|aj<|oB O ?_ eP
    exact(KS ‹i<r.n› j0 ‹j<i› af6).symm
   refine mB rfl<|V (bJ O)<|mB rfl<|aa<|bX O (fun WN=> ?_) (fun WN=> ?_)
   .refine SR<|va (v:=B false) rfl<|aa<|aj<|oB O ?_ eP
    exact(KS ‹i<r.n› j0 ‹j<i› af2).symm
   refine an<|au<|aF EW<|V (ax O O J)<|aI rfl<|aa<| ?_
   refine⟨j+1,aX,nV.u4.u4.u4.u4.u4.u4.u4.u1.u1,eP,(aK I aM),J,J,?_⟩
   exact fun b x y=>if e:b=j then e▸(by rw[uO,cL];exact⟨nf ‹(!(jf r i j).2)=false›,nf ‹(!(rA r i j).2)=false›⟩)else hh b x J
  refine a8 (id:=2) rfl<|au<|aF oL<|V (ax O O J)<|aI rfl<|aa<| ?_
  refine⟨i+1,aX,(((pJ.u4.u1).t nV O)).u4.u1.u1,cH,(aK I aM),J,J,?_⟩
  exact fun a b x y z=>if e:a=i then e▸hh b x (by omega)else hg a b x y J
 refine a8 (id:=0) rfl<|SR<|va (v:=B true) rfl<|aa<|aj<|oB O ?_ bV
 exact(abn hn ho aR hg).symm
theorem nW(r:Rl)(i:Int)(w:World):Calls Tryz.prog 117 #[.agg (dV r),I i] w (Pure (U (bQ r i)) w):=by
 have hp:=dA r
 refine eH func117 rfl rfl fun hH=>SR<|gO hH (v:= .agg _) rfl<|fun b3 w1 bq=>va (v:=U 0#64) rfl<|aa<|SR<|va (v:= .slice none 0 0) rfl<|have ix:=bq.eI 3 1;aa<|ai<|SR<|va (v:=I 0) rfl<|aa<|aA<|bt (G:=Int×(List Int)×Value) (fun⟨k,l,v5⟩ s' w'=>(Fr (rg 5 16 []) _ s')/\(Hp w w' (.row v5 3 1 (l.length) (l.map I)::_))/\(s' 5=v5)/\(s' 6=I k)/\(0<=k)/\(k<=pts r)/\(l=rH r i k)) (fun⟨k,l,v5⟩=>(pts r-k).toNat) ((0,[],(.slice none 0 0:Value))) ⟨Fr.refl _ _,ix,rfl,rfl,J,J,rfl⟩<| ?_
 rintro⟨k,l,v5⟩ sg5 w5 ⟨Up,bY,aeR,WQ,k0,k1,hl⟩
 obtain⟨Ty,aau⟩:=Up.w2 1 2
 refine ai<|SR<|aF WQ<|V (aS bS O O aau (bY.blk (i:=1) O))<|aH O bY (bN _ _) (ay nR O)<|fun w6 eE=>V (aN O O)<|aa<|aG O (fun h9=> ?_) (fun h9=> ?_)
 .refine an<|ai<|aA<|SR<|V (aS bS O O aau (eE.blk (i:=1) O))<|aF WQ<|aF Ty<|aH O eE (bC _ _ _ _) (bA jj O O O)<|fun Eo dr=>aa<|bX O (fun TB=> ?_) (fun TB=> ?_)
  .refine au<|aF aeR<|aF WQ<|ud 1 1 dr (cA bD O O (sz:=1) (vs:=[I _]) O O az az O O)<|fun b16 Q1 gW=> ?_
   (try simp only[lC]at gW)
   refine gh O gW (i:=1) O (gW.dU (i:=0) (n:=1) (sz:=1) O O az) O O bD O O (size:=1) (bytes:=8) O O O az gZ (by have:= @PV r i k;rw[<-hl]at this;omega) (by have:= @PV r i k;rw[<-hl]at this;simp only[maxLen];omega)<|fun v17 Lf iC=> ?_
   refine V (run_assign bz) ?_
   refine aa<|au<|aF WQ<|V (ax O O J)<|aI rfl<|aa<| ?_
   refine⟨(k+1,l++[k],v17),aX,Up.u4.u4.u4.u4,(Hp.conv (iC.sub (sQ sR)) aJ),rfl,(aK I aM),J,J,?_⟩
   (rw[hl];exact adG k0 aR)
  refine an<|au<|aF WQ<|V (ax O O J)<|aI rfl<|aa<| ?_
  refine⟨(k+1,l,v5),aX,Up.u4.u4.u1.u1.u1,(Hp.conv dr aM),aeR,(aK I aM),J,J,?_⟩
  (rw[hl];exact ag2 k0 aR)
 refine a8 (id:=0) rfl<|SR<|aF aeR<|aH O eE (fQ _ _ _ (eE.sl (i:=0) O)) (ay Co O)<|fun w20 fK=>aU rfl<|aa<|aj<|oU O ?_ fK
 (rw[hl];exact adH J)
theorem mX(r:Rl)(s:BitVec 64)(w:World):Calls Tryz.prog 120 #[.agg (dV r),U s] w (Pure (.tuple #[I (eZ r s).1,B (eZ r s).2]) w):=by
 have hp:=dA r
 refine eH func120 rfl rfl fun hH=>SR<|gO hH (v:= .agg _) rfl<|fun b3 w1 bq=>va (v:=I 0) rfl<|va (v:=B false) rfl<|aa<|ai<|SR<|va (v:=I 0) rfl<|aa<|aA<|bt (G:=Int) (fun k s' w'=>(Fr (rg 4 15 []) _ s')/\(Hp w w' _)/\(s' 6=I k)/\(0<=k)/\(k<=pts r)/\(∀j:Int,0<=j->j<k->bQ r j≠s)) (fun k=>(pts r-k).toNat) (0) ⟨Fr.refl _ _,bq,rfl,J,J,fun j x y=>absurd y J⟩<| ?_
 rintro k sg4 w4 ⟨C8,ix,F5,h0,hk,hg⟩
 obtain⟨AR,Kt⟩:=C8.w2 1 2
 refine ai<|SR<|aF F5<|V (aS bS O O Kt (ix.blk (i:=0) O))<|aH O ix (bN _ _) (ay nR O)<|fun w5 jQ=>V (aN O O)<|aa<|aG O (fun h8=> ?_) (fun h8=> ?_)
 .refine an<|ai<|aA<|SR<|V (aS bS O O Kt (jQ.blk (i:=0) O))<|aF F5<|aH O jQ (nW _ _ _) (aL call117 O O)<|fun w9 cg=>aF AR<|V (jm O O)<|aa<|aG O (fun h12=> ?_) (fun h12=> ?_)
  .refine SR<|aF F5<|aI rfl<|va (v:=B true) rfl<|aa<|aj<| ?_
   refine kE O (aK I ?_) (aK B ?_) cg.below<;>rw[DU h0 aR aR hg]
  refine an<|au<|aF F5<|V (ax O O J)<|aI rfl<|aa<| ?_
  refine⟨k+1,aX,C8.u4.u4.u4,cg,(aK I aM),J,J,?_⟩
  exact fun j x y=>if e:j=k then e▸‹¬bQ r k=s›else hg j x J
 refine a8 (id:=0) rfl<|SR<|va (v:=I 0) rfl<|va (v:=B false) rfl<|aa<|aj<| ?_
 refine kE O (aK I ?_) (aK B ?_) jQ.below<;>rw[GD aR hg]
theorem A0(r:Rl)(a b:BitVec 64)(w:World):Calls Tryz.prog 83 #[.agg (dV r),U a,U b] w (Pure (U (jr r a b)) w):=by
 refine eH func83 rfl rfl fun hH=>SR<|gO hH (v:= .agg _) rfl<|fun b3 w1 bq=>va (v:=U 0#64) rfl<|aa<|SR<|V (aS bS O O O (bq.blk (i:=0) O))<|mU rfl<|aH O bq (mX _ _ _) (aL call120 O O)<|fun w4 bY=> ?_
 refine V (run_move bz) ?_
 refine V (bk O (v:=I _) O)<|V (bk O (v:=B _) O)<|aI rfl<|aB rfl<|aa<|SR<|V (aS bS O O O (bY.blk (i:=0) O))<|mU rfl<|aH O bY (mX _ _ _) (aL call120 O O)<|fun w7 eX=> ?_
 refine V (run_move bz) ?_
 refine V (bk O (v:=I _) O)<|V (bk O (v:=B _) O)<|aI rfl<|aB rfl<|aa<|SR<|V (aS bS O O O (eX.blk (i:=0) O))<|mI rfl<|mI rfl<|aH O eX (sB _ _ _ _) (bA call121 O O O)<|fun Eo dr=> ?_
 refine V (run_move bz) ?_
 refine V (bk O (v:=I _) O)<|V (bk O (v:=B _) O)<|aI rfl<|aB rfl<|aa<|ai<|SR<|mB rfl<|mB rfl<|eK 33 O (fun TB=> ?_) (fun TB=> ?_)
 .refine mB rfl<|mB rfl<|mB rfl<|eK 36 O (fun Gl=> ?_) (fun Gl=> ?_)
  .refine mB rfl<|mB rfl<|aa<|bX O (fun Db=> ?_) (fun Db=> ?_)
   .refine SR<|V (aS bS O O O (dr.blk (i:=0) O))<|mI rfl<|aH O dr (nW _ _ _) (aL call117 O O)<|fun Jg er=>aU rfl<|aa<|aj<|oU O ?_ er
    rw[IE aR aR aR]
   refine an<|SR<|mU rfl<|mU rfl<|V (iG O O)<|aU rfl<|aa<|aj<|oU O ?_ dr
   rw[PU aR]
  refine aF (v:=B false) rfl<|aa<|cT rfl<|an<|SR<|mU rfl<|mU rfl<|V (iG O O)<|aU rfl<|aa<|aj<|oU O ?_ dr
  rw[IG aR]
 refine aF (v:=B false) rfl<|mB rfl<|cF O rfl<|aF (v:=B false) rfl<|aa<|cT rfl<|an<|SR<|mU rfl<|mU rfl<|V (iG O O)<|aU rfl<|aa<|aj<|oU O ?_ dr
 rw[IF aR]
theorem Dd(r:Rl)(t:Bool)(w:World):Calls Tryz.prog 116 #[.agg (dV r),B t] w (Pure (.tuple #[I (wT r (if t=true then bQ r else gx r)).1,B (wT r (if t=true then bQ r else gx r)).2]) w):=by
 have hp:=dA r
 refine eH func116 rfl rfl fun hH=>SR<|gO hH (v:= .agg _) rfl<|fun b4 w2 uo=>va (v:=I 0) rfl<|va (v:=B false) rfl<|aa<|ai<|SR<|va (v:=I 0) rfl<|aa<|aA<|bt (G:=Int) (fun i s' w'=>(Fr (rg 4 38 []) _ s')/\(Hp w w' _)/\(s' 6=I i)/\(0<=i)/\(i<=pts r)/\(∀x:Int,0<=x->x<i->FC r t x (pts r)=false)) (fun i=>(pts r-i).toNat) (0) ⟨Fr.refl _ _,uo,rfl,J,J,fun x a b=>absurd b J⟩<| ?_
 rintro i sg5 w5 ⟨Up,bY,WQ,i0,i1,hg⟩
 obtain⟨Ty,aau⟩:=Up.w2 1 2
 refine ai<|SR<|aF WQ<|V (aS bS O O aau (bY.blk (i:=0) O))<|aH O bY (bN _ _) (ay nR O)<|fun w6 eE=>V (aN O O)<|aa<|aG O (fun h9=> ?_) (fun h9=> ?_)
 .refine an<|ai<|aA<|SR<|va (v:=B true) rfl<|aa<|ai<|SR<|va (v:=I 0) rfl<|aa<|aA<|bt (G:=Int) (fun k s' w'=>(Fr (7::8::(rg 15 25 [])) _ s')/\(Hp w w' _)/\(s' 7=B (FC r t i k))/\(s' 8=I k)/\(0<=k)/\(k<=pts r)) (fun k=>(pts r-k).toNat) (0) ⟨Fr.refl _ _,eE,(aK B (by simp[FC,upto])),rfl,J,J⟩<| ?_
  rintro k WR Eo ⟨nX,cg,WS,zm,k0,k1⟩
  obtain⟨Ol,xG,wD⟩:=nX.t3 1 Ty 2 aau 6 WQ
  refine ai<|SR<|aF zm<|V (aS bS O O xG (cg.blk (i:=0) O))<|aH O cg (bN _ _) (ay nR O)<|fun zl bV=>V (aN O O)<|aa<|aG O (fun Db=> ?_) (fun Db=> ?_)
  .refine an<|ai<|aA<|SR<|aF Ol<|V (bJ O)<|mB rfl<|eK 23 O (fun Hu=> ?_) (fun Hu=> ?_)
   .refine V (aS bS O O xG (bV.blk (i:=0) O))<|aF wD<|aF zm<|aH O bV (bC _ _ _ _) (bA jj O O O)<|fun Lf iC=>V (bJ O)<|mB rfl<|mB rfl<|eK 30 O (fun h22=> ?_) (fun h22=> ?_)
    .refine gp O O rfl<|gp O O rfl<|gp O O rfl<|gp O O rfl<|gp O O rfl<|Ab<|aF (v:=B true) rfl<|aa<|cz rfl<|au<|va (v:=B false) rfl<|aa<|au<|aF zm<|V (ax O O J)<|aI rfl<|aa<| ?_
     refine⟨k+1,aX,nX.u4.u4.u4.u4.u4.u4.u1.u1.u1,iC,(aK B Fs),(aK I aM),J,J⟩
    refine aF Ol<|mB rfl<|eK 32 O (fun F6=> ?_) (fun F6=> ?_)
    .refine V (aS bS O O xG (iC.blk (i:=0) O))<|aF zm<|aF wD<|aH O iC (bC _ _ _ _) (bA jj O O O)<|fun w24 om=>V (bJ O)<|mB rfl<|mB rfl<|aa<|bX O (fun WN=> ?_) (fun WN=> ?_)
     .refine au<|va (v:=B false) rfl<|aa<|au<|aF zm<|V (ax O O J)<|aI rfl<|aa<| ?_
      refine⟨k+1,aX,nX.u4.u4.u4.u4.u4.u4.u1.u1.u1,om,(aK B Fs),(aK I aM),J,J⟩
     refine an<|au<|aF zm<|V (ax O O J)<|aI rfl<|aa<| ?_
     refine⟨k+1,aX,nX.u4.u4.u4.u4.u4.u4.u1.u1,om,(jZ WS (aK B Fs)),(aK I aM),J,J⟩
    refine aF (v:=B false) rfl<|mB rfl<|aa<|cT rfl<|an<|au<|aF zm<|V (ax O O J)<|aI rfl<|aa<| ?_
    refine⟨k+1,aX,nX.u4.u4.u4.u4.u4.u4.u1.u1,iC,(jZ WS (aK B Fs)),(aK I aM),J,J⟩
   refine aF (v:=B false) rfl<|mB rfl<|cF O rfl<|aF Ol<|mB rfl<|eK 32 O (fun rU=> ?_) (fun rU=> ?_)
   .refine V (aS bS O O xG (bV.blk (i:=0) O))<|aF zm<|aF wD<|aH O bV (bC _ _ _ _) (bA jj O O O)<|fun w30 kZ=>V (bJ O)<|mB rfl<|mB rfl<|aa<|bX O (fun h34=> ?_) (fun h34=> ?_)
    .refine au<|va (v:=B false) rfl<|aa<|au<|aF zm<|V (ax O O J)<|aI rfl<|aa<| ?_
     refine⟨k+1,aX,nX.u4.u4.u4.u4.u4.u4.u1.u1.u1,kZ,(aK B Fs),(aK I aM),J,J⟩
    refine an<|au<|aF zm<|V (ax O O J)<|aI rfl<|aa<| ?_
    refine⟨k+1,aX,nX.u4.u4.u4.u4.u4.u4.u1.u1,kZ,(jZ WS (aK B Fs)),(aK I aM),J,J⟩
   refine aF (v:=B false) rfl<|mB rfl<|aa<|cT rfl<|an<|au<|aF zm<|V (ax O O J)<|aI rfl<|aa<| ?_
   refine⟨k+1,aX,nX.u4.u4.u4.u4.u4.u4.u1.u1,bV,(jZ WS (aK B Fs)),(aK I aM),J,J⟩
  refine a8 (id:=2) rfl<|SR<|aF WS<|aa<|bX O (fun BT=> ?_) (fun BT=> ?_)
  .refine SR<|aF wD<|aI rfl<|va (v:=B true) rfl<|aa<|aj<| ?_
   (refine kE O (aK I ?_) (aK B ?_) bV.below<;>rw[ag3 i0 aR (show k=pts r by omega) aR hg])
  refine an<|au<|aF wD<|V (ax O O J)<|aI rfl<|aa<| ?_
  refine⟨i+1,aX,(((Up.u4.u1.u1).t nX O)).u4.u4,bV,(aK I aM),J,J,?_⟩
  exact fun x a b=>if e:x=i then e▸(by rw[<-show k=pts r by omega];assumption)else hg x a J
 refine a8 (id:=0) rfl<|SR<|va (v:=I 0) rfl<|va (v:=B false) rfl<|aa<|aj<| ?_
 (refine kE O (aK I ?_) (aK B ?_) eE.below<;>rw[ag4 aR hg])
theorem A2(r:Rl)(w:World):Calls Tryz.prog 137 #[.agg (dV r)] w (Pure (B (cV r)) w):=by
 refine eH func137 rfl rfl fun hH=>SR<|gO hH (v:= .agg _) rfl<|fun b3 w1 bq=>va (v:=B false) rfl<|aa<|SR<|V (fA bS 0 O aP O)<|lV bx bq 0 O O (fx _)<|V (dF O O)<|mB rfl<|bM 6 O (fun h5=> ?_) (fun h5=> ?_)
 .refine V (fA bS 0 O aP O)<|lV bx bq 0 O O (fx _)<|V (xj O O)<|mB rfl<|mB rfl<|bM 11 O (fun h7=> ?_) (fun h7=> ?_)
  .refine V (aS bS O O O (bq.blk (i:=0) O))<|aH O bq (Bw _ _) (ay call166 O)<|fun w8 iD=>mB rfl<|aB rfl<|aa<|aj<|oB O ?_ iD
   rw[cV,gY (show 1<=r.n/\r.n<=8 by omega),l7]
  refine aF (v:=B false) rfl<|aB rfl<|aa<|aj<|oB O ?_ bq
  rw[cV,hG (show¬(1<=r.n/\r.n<=8)by omega),rq]
 refine aF (v:=B false) rfl<|mB rfl<|cF O rfl<|aF (v:=B false) rfl<|aB rfl<|aa<|aj<|oB O ?_ bq
 rw[cV,hG (show¬(1<=r.n/\r.n<=8)by omega),rq]
theorem aav(r:Rl)(s:BitVec 64)(o:Int)(ho:0<=o/\o<8)(w:World):Calls Tryz.prog 241 #[.agg (dV r),U s,I o] w (Pure (U (JK r s o)) w):=by
 refine eH func241 rfl rfl fun hH=>SR<|gO hH (v:= .agg _) rfl<|fun b3 w1 bq=>va (v:=U 0#64) rfl<|aa<|SR<|mU rfl<|mI rfl<|V (z8 O O J)<|V (jL bx zS O)<|V (Cy O O)<|V (fA bS 0 O aP O)<|lV bx bq 0 O O (fx _)<|aH O bq (oZ _ _) (ay H7 O)<|fun w4 bY=>V (mh O O)<|aU rfl<|aa<|aj<|oU O ?_ bY
 rfl
theorem WT(r:Rl)(f:FuncId)(cs:List Value)(ff:Int->BitVec 64)(hn:1<=r.n/\r.n<=8)(w:World)(hf:∀args w,(callFunc f args).run Tryz.prog w= .ok (.enter f args) w)(go:∀i w',Below w.heap.size w w'->0<=i->i<r.n->Calls Tryz.prog f (I i::cs).toArray w' (Pure (U (ff i)) w')):Calls Tryz.prog 239 #[.agg (dV r),.func (.func f) #[] cs.toArray] w (Pure (U (xo ff r.n)) w):=by
 refine eH func239 rfl rfl fun hH=>SR<|gO hH (v:= .agg _) rfl<|fun b3 w1 bq=>va (v:=U 0#64) rfl<|aa<|SR<|va (v:=U 0#64) rfl<|aa<|ai<|SR<|V (fA bS 0 O aP O)<|lV bx bq 0 O O (fx _)<|aF (v:=I 0) rfl<|aa<|aA<|bt (G:=Int) (fun k s' w'=>(Fr (5::6::(rg 9 13 [])) _ s')/\(Hp w w' _)/\(s' 5=U (xo ff k))/\(s' 9=I k)/\(0<=k)/\(k<=r.n)) (fun k=>(r.n-k).toNat) (0) ⟨Fr.refl _ _,bq,rfl,rfl,J,J⟩<| ?_
 rintro k sg4 w4 ⟨C8,ix,Hl,aeZ,h0,hk⟩
 have AR:=C8.vv 1 (a:= .func _ _ _) rfl rfl
 have Jh:=C8.w1 8
 refine SR<|V (aN aeZ Jh)<|aa<|ai<|aG O (fun h6=> ?_) (fun h6=> ?_)
 .refine an<|ai<|aA<|SR<|aF aeZ<|aI rfl<|aa<|au<|aF Hl<|aF AR<|mI rfl<|aH O ix (go _ _ ix.below J J) (lH hf (cs:=cs) O O)<|fun w7 eX=>mI rfl<|V (z8 O O J)<|V (jL bx zS O)<|V (Gs O O)<|V (iG O O)<|aU rfl<|aa<|au<|V (ax aeZ O J)<|mI rfl<|aa<| ?_
  refine⟨k+1,aX,C8.u4.u4.u4.u1.u1.u1,eX,(aK U (IJ h0)),(aK I aM),J,J⟩
 refine a8 (id:=0) rfl<|SR<|aF Hl<|aU rfl<|aa<|aj<|oU O ?_ ix
 (rw[show k=r.n by omega])
theorem Om(b c:Nat)(r:Rl)(s:BitVec 64)(o:Int)(hr:cV r=true)(w:World)(hb:w.heap[b]?=some (.cells (dV r) 86 (0,0)))(hc:w.heap[c]?=some (.cells #[U s] 35 (0,0)))(hT:pc w):Calls Tryz.prog 240 #[I o,.pointer (some ⟨b,0,none⟩),.pointer (some ⟨c,0,none⟩)] w (Pure (U (IK r s o)) w):=by
 have hl:=Gv (upR r (k8 [o]))
 refine eH func240 rfl rfl fun hH=>SR<|va (v:=U 0#64) rfl<|aa<|SR<|va (v:=U 0#64) rfl<|aa<|ai<|ai<|ew aQ hH<|fun w1 bq=>have k7:=bq;AT 0 O k7 (fun w hS=>aS bS O O O (hS.ext hb))<|AQ 1 O k7 (mV (I _) O)<|AQ 7 O k7 (mV (I 0) O)<|A1 2<|cB O aC O bq sR (f:=fun b=> .slice (some ⟨b,0,none⟩) 1 1) (cA bD O O (sz:=1) (vs:=[I _]) O O az az O O)<|fun b5 w3 ix=> ?_
 (try simp only[lC]at ix)
 have jQ:=ix.sM 1 1 O az
 refine A1 3<|cm O aC O jQ (sQ sR) (zj _ [o] _ (jQ.sl (i:=0) O)) (ay call203 O)<|fun w7 eX=>A1 4<|cm O aC O eX (sQ sR) (Da _ _ _ (hT.hp eX)) (aL call209 O O)<|fun w9 cg=>A1 5<|L9 O aC O cg (sQ sR) (C9 _ _ (hT.hp cg)) (ay call233 O)<|fun v13 Je cM=>A1 6<|cf O aC O cM (sQ (sQ sR)) (aD (cM.sl (i:=0) O) O bD O)<|AD<|aA<|bt (G:=Int) (fun k s' w'=>(Fr (5::(7::(rg 15 13 []))) _ s')/\(Hp w w' _)/\(s' 5=U (xk (fun p=>EF r (JK r s p)) ((gK (upR r (k8 [o]))).take k.toNat)))/\(s' 15=I k)/\(0<=k)/\(k<=(gK (upR r (k8 [o]))).length)) (fun k=>((gK (upR r (k8 [o]))).length-k).toNat) (0) ⟨Fr.refl _ _,cM,(aK U (by simp[xk])),rfl,J,J⟩<| ?_
 rintro k aar Jg ⟨nV,cH,zn,aaw,h0,hk⟩
 obtain⟨xF,WO,atM,atN⟩:=nV.w4 1 2 13 14
 refine SR<|V (aN aaw atN)<|aa<|ai<|aG O (fun p9=> ?_) (fun p9=> ?_)
 .refine an<|ai<|aA<|SR<|V (ah (cH.sl (i:=0) O) bD aP atM aaw J)<|V (aE bx O O ((cH.sl (i:=0) O).cell _ _ (eU J)))<|aI rfl<|aa<|ew aQ cH<|fun Q2 cP=>have oo:=cP;AQ 0 O oo (run_move zn)<|AT 1 O oo (fun w hS=>aS bS O O xF (hS.ext hb))<|AT 2 O oo (fun w hS=>aS bS O O xF (hS.ext hb))<|AT 3 O oo (fun w hS=>aE dO O WO (hS.eT hc (v:=U _) O))<|AQ 4 O oo (mV (I _) O)<|A1 5<|cm O aC O cP sR (aav _ _ _ (ag9 hr (YV h0 aR)) _) (bA call241 O O O)<|fun N4 cK=>A1 6<|cm O aC O cK sR (yu _ _ _) (aL call211 O O)<|fun w23 gM=>AQ 7 O gM (iG O O)<|AQ 8 O gM (aV (U _) O)<|AD<|au<|V (ax aaw O J)<|mI rfl<|aa<| ?_
  refine⟨k+1,aX,nV.u4.u4.u4.u1.u1.u1,gM,(aK U (Mj (f:=fun p=>EF r (JK r s p)) h0 aR)),(aK I aM),J,J⟩
 refine a8 (id:=0) rfl<|SR<|aF zn<|aU rfl<|aa<|aj<|oU O ?_ cH
 (rw[Mg aR];rfl)
theorem TF(r:Rl)(s:BitVec 64)(w:World)(hT:pc w):Calls Tryz.prog 213 #[.agg (dV r),U s] w (Pure (U (gk r s)) w):=by
 refine eH func213 rfl rfl fun hH=>SR<|gO hH (v:= .agg _) rfl<|fun b3 w1 bq=>gO bq (v:=U _) rfl<|fun b6 w4 bY=>va (v:=U 0#64) rfl<|aa<|ai<|SR<|V (aS bS O O O (bY.blk (i:=1) O))<|aH O bY (A2 _ _) (ay call137 O)<|fun w7 eX=>V (bJ O)<|aa<|bX O (fun h11=> ?_) (fun h11=> ?_)
 .refine SR<|va (v:=U 0#64) rfl<|aa<|aj<|oU O ?_ eX
  exact(U2 (nt aR)).symm
 refine an<|SR<|V (aS bS O O O (eX.blk (i:=1) O))<| ?_
 refine V (tA bz bz) ?_
 refine aH O eX (WT r 240 [.pointer (some ⟨b3,0,none⟩),.pointer (some ⟨b6,0,none⟩)] (IK r s) (e8 (nf ‹(!cV r)=false›)).1 _ call240 (fun i w h _ _=>Om b3 b6 r s i (nf ‹(!cV r)=false›) w (keep h (eX.blk (i:=1) O)) (keep h (eX.blk (i:=0) O)) ((hT.hp eX).below h))) (aL call239 O O)<|fun zl bV=>aU rfl<|aa<|aj<|oU O ?_ bV
 exact adK (nf aR)
theorem Pv(r:Rl)(s:BitVec 64)(w:World)(hT:pc w):Calls Tryz.prog 180 #[.agg (dV r),U s] w (Pure (B (qe r s)) w):=by
 refine eH func180 rfl rfl fun hH=>SR<|gO hH (v:= .agg _) rfl<|fun b3 w1 bq=>va (v:=B false) rfl<|aa<|SR<|V (aS bS O O O (bq.blk (i:=0) O))<|aH O bq (A2 _ _) (ay call137 O)<|fun w4 bY=>mB rfl<|eK 7 O (fun h7=> ?_) (fun h7=> ?_)
 .refine V (aS bS O O O (bY.blk (i:=0) O))<|mU rfl<|aH O bY (TF _ _ _ (hT.hp bY)) (aL call213 O O)<|fun w8 iD=>mU rfl<|V (jm O O)<|mB rfl<|aB rfl<|aa<|aj<|oB O ?_ iD
  (rw[qe,‹cV r=true›];rfl)
 refine aF (v:=B false) rfl<|aB rfl<|aa<|aj<|oB O ?_ bY
 (rw[qe,‹cV r=false›];rfl)
theorem mY(r:Rl)(w:World):Calls Tryz.prog 146 #[.agg (dV r)] w (Pure (B (cV r)) w):=by
 refine eH func146 rfl rfl fun hH=>SR<|gO hH (v:= .agg _) rfl<|fun b3 w1 bq=>va (v:=B false) rfl<|aa<|SR<|V (fA bS 0 O aP O)<|lV bx bq 0 O O (fx _)<|V (dF O O)<|mB rfl<|bM 6 O (fun h5=> ?_) (fun h5=> ?_)
 .refine V (fA bS 0 O aP O)<|lV bx bq 0 O O (fx _)<|V (xj O O)<|mB rfl<|mB rfl<|bM 11 O (fun h7=> ?_) (fun h7=> ?_)
  .refine V (aS bS O O O (bq.blk (i:=0) O))<|aH O bq (qR _ _) (ay call182 O)<|fun w8 iD=>mB rfl<|aB rfl<|aa<|aj<|oB O ?_ iD
   rw[cV,gY (show 1<=r.n/\r.n<=8 by omega),l7]
  refine aF (v:=B false) rfl<|aB rfl<|aa<|aj<|oB O ?_ bq
  rw[cV,hG (show¬(1<=r.n/\r.n<=8)by omega),rq]
 refine aF (v:=B false) rfl<|mB rfl<|cF O rfl<|aF (v:=B false) rfl<|aB rfl<|aa<|aj<|oB O ?_ bq
 rw[cV,hG (show¬(1<=r.n/\r.n<=8)by omega),rq]
theorem De(r:Rl)(s:BitVec 64)(o x:Int)(hn:1<=r.n/\r.n<=8)(w:World):Calls Tryz.prog 216 #[.agg (dV r),U s,I o,I x] w (Pure (B (GF r s o x)) w):=by
 refine eH func216 rfl rfl fun hH=>SR<|gO hH (v:= .agg _) rfl<|fun b3 w1 bq=>va (v:=B false) rfl<|aa<|SR<|mI rfl<|V (dF O O)<|mB rfl<|bM 11 O (fun h5=> ?_) (fun h5=> ?_)
 .refine mI rfl<|V (dF O O)<|mB rfl<|mB rfl<|bM 15 O (fun h7=> ?_) (fun h7=> ?_)
  .refine mI rfl<|V (fA bS 0 O aP O)<|lV bx bq 0 O O (fx _)<|V (aN O O)<|mB rfl<|mB rfl<|bM 21 O (fun h9=> ?_) (fun h9=> ?_)
   .refine mI rfl<|V (fA bS 0 O aP O)<|lV bx bq 0 O O (fx _)<|V (aN O O)<|mB rfl<|mB rfl<|bM 27 O (fun h11=> ?_) (fun h11=> ?_)
    .refine mU rfl<|mI rfl<|V (z8 O O J)<|mI rfl<|V (ax O O J)<|aH O bq (ug _ _ _) (aL call102 O O)<|fun zl bV=>mB rfl<|aB rfl<|aa<|aj<|oB O ?_ bV
     rw[GF,gY J,l7]
    refine aF (v:=B false) rfl<|aB rfl<|aa<|aj<|oB O ?_ bq
    rw[GF,hG J,rq]
   refine aF (v:=B false) rfl<|mB rfl<|cF O rfl<|aF (v:=B false) rfl<|aB rfl<|aa<|aj<|oB O ?_ bq
   rw[GF,hG J,rq]
  refine aF (v:=B false) rfl<|mB rfl<|cF O rfl<|aF (v:=B false) rfl<|mB rfl<|cF O rfl<|aF (v:=B false) rfl<|aB rfl<|aa<|aj<|oB O ?_ bq
  rw[GF,hG J,rq]
 refine aF (v:=B false) rfl<|mB rfl<|cF O rfl<|aF (v:=B false) rfl<|mB rfl<|cF O rfl<|aF (v:=B false) rfl<|mB rfl<|cF O rfl<|aF (v:=B false) rfl<|aB rfl<|aa<|aj<|oB O ?_ bq
 rw[GF,hG J,rq]
theorem yz(r:Rl)(s:BitVec 64)(o x:Int)(hn:1<=r.n/\r.n<=8)(w:World):Calls Tryz.prog 186 #[.agg (dV r),U s,I o,I x] w (Pure (B (SB r s o x)) w):=by
 refine eH func186 rfl rfl fun hH=>SR<|gO hH (v:= .agg _) rfl<|fun b3 w1 bq=>va (v:=B false) rfl<|aa<|ai<|SR<|va (v:=I 0) rfl<|aa<|aA<|bt (G:=Int) (fun p s' w'=>(Fr (rg 8 32 []) _ s')/\(Hp w w' _)/\(s' 9=I p)/\(0<=p)/\(p<=r.n)/\(∀q y:Int,0<=q->q<p->¬(GF r s q y=true/\bL r o q=true/\bL r x y=true))) (fun p=>(r.n-p).toNat) (0) ⟨Fr.refl _ _,bq,rfl,J,J,fun q y a b=>absurd b J⟩<| ?_
 rintro p sg4 w4 ⟨C8,ix,aeZ,p0,p1,hf⟩
 obtain⟨AR,Kt,zk,WE⟩:=C8.w4 1 2 3 4
 refine ai<|SR<|aF aeZ<|V (fA bS 0 O aP WE)<|lV bx ix 0 O O (fx _)<|V (aN O O)<|aa<|aG O (fun h6=> ?_) (fun h6=> ?_)
 .refine an<|ai<|aA<|SR<|va (v:=I 0) rfl<|aa<|aA<|bt (G:=Int) (fun y s' w'=>(Fr (8::(10::(rg 17 23 []))) _ s')/\(Hp w w' _)/\(s' 10=I y)/\(0<=y)/\(y<=r.n)/\(∀z:Int,0<=z->z<y->¬(GF r s p z=true/\bL r o p=true/\bL r x z=true))) (fun y=>(r.n-y).toNat) (0) ⟨Fr.refl _ _,ix,rfl,J,J,fun z a b=>absurd b J⟩<| ?_
  rintro y sg7 w7 ⟨Ep,eE,Q4,y0,y1,hg⟩
  obtain⟨ae0,aj8,WU,Jk,Px⟩:=Ep.t5 1 AR 2 Kt 3 zk 4 WE 9 aeZ
  refine ai<|SR<|aF Q4<|V (fA bS 0 O aP Jk)<|lV bx eE 0 O O (fx _)<|V (aN O O)<|aa<|aG O (fun h9=> ?_) (fun h9=> ?_)
  .refine an<|ai<|aA<|SR<|V (aS bS O O Jk (eE.blk (i:=0) O))<|aF ae0<|aF Px<|aF Q4<|aH O eE (De _ _ _ _ jK _) (jE call216 O O O O)<|fun Eo dr=>mB rfl<|eK 28 O (fun TB=> ?_) (fun TB=> ?_)
   .refine V (aS bS O O Jk (dr.blk (i:=0) O))<|aF aj8<|aF Px<|aH O dr (bC _ _ _ _) (bA jj O O O)<|fun Q1 gW=>mB rfl<|mB rfl<|eK 34 O (fun Hu=> ?_) (fun Hu=> ?_)
    .refine V (aS bS O O Jk (gW.blk (i:=0) O))<|aF WU<|aF Q4<|aH O gW (bC _ _ _ _) (bA jj O O O)<|fun Lf iC=>mB rfl<|aa<|bX O (fun Pt=> ?_) (fun Pt=> ?_)
     .refine SR<|va (v:=B true) rfl<|aa<|aj<|oB O ?_ iC
      exact(KW.2 ⟨p,y,aR,aR,aR⟩).symm
     refine an<|au<|aF Q4<|V (ax O O J)<|aI rfl<|aa<| ?_
     refine⟨y+1,aX,Ep.u4.u4.u4.u4.u4.u4,iC,(aK I aM),J,J,?_⟩
     exact fun z a b h=>if e:z=y then(by subst e;simp_all)else hg z a J h
    refine aF (v:=B false) rfl<|aa<|cT rfl<|an<|au<|aF Q4<|V (ax O O J)<|aI rfl<|aa<| ?_
    refine⟨y+1,aX,Ep.u4.u4.u4.u4.u4.u4,gW,(aK I aM),J,J,?_⟩
    exact fun z a b h=>if e:z=y then(by subst e;simp_all)else hg z a J h
   refine aF (v:=B false) rfl<|mB rfl<|cF O rfl<|aF (v:=B false) rfl<|aa<|cT rfl<|an<|au<|aF Q4<|V (ax O O J)<|aI rfl<|aa<| ?_
   refine⟨y+1,aX,Ep.u4.u4.u4.u4.u4.u4,dr,(aK I aM),J,J,?_⟩
   exact fun z a b h=>if e:z=y then(by subst e;simp_all)else hg z a J h
  refine a8 (id:=2) rfl<|au<|aF Px<|V (ax O O J)<|aI rfl<|aa<| ?_
  refine⟨p+1,aX,(((C8.u4.u1).t Ep O)).u4.u1.u1.u1,eE,(aK I aM),J,J,?_⟩
  exact fun q y a b h=>if e:q=p then hg y (DV.1 h.1).1.2.1 (by have:=(DV.1 h.1).1;omega) (e▸h)else hf q y a J h
 refine a8 (id:=0) rfl<|SR<|va (v:=B false) rfl<|aa<|aj<|oB O ?_ ix
 exact(ag5 aR hf).symm
theorem A3(r:Rl)(s:BitVec 64)(w:World):Calls Tryz.prog 153 #[.agg (dV r),U s] w (Pure (U (gk r s)) w):=by
 refine eH func153 rfl rfl fun hH=>SR<|gO hH (v:= .agg _) rfl<|fun b3 w1 bq=>va (v:=U 0#64) rfl<|aa<|SR<|va (v:= .slice none 0 0) rfl<|have ix:=bq.eI 3 1;aa<|ai<|SR<|V (aS bS O O O (ix.blk (i:=1) O))<|aH O ix (mY _ _) (ay call146 O)<|fun w5 jQ=>V (bJ O)<|aa<|bX O (fun h9=> ?_) (fun h9=> ?_)
 .refine SR<|va (v:=U 0#64) rfl<|aa<|aj<|oU O ?_ jQ
  exact(U2 (nt aR)).symm
 refine an<|ai<|SR<|va (v:=I 0) rfl<|aa<|aA<|have hr:cV r=true:=nf aR;have hs:=e8 hr;bt (G:=Int×(List Int)×Value) (fun⟨o,l,v5⟩ s' w'=>(Fr (rg 5 3 (rg 11 24 [])) _ s')/\(Hp w w' (.row v5 3 1 (l.length) (l.map I)::_))/\(s' 5=v5)/\(s' 6=I o)/\(0<=o)/\(o<=r.n)/\(l=CF r s o)) (fun⟨o,l,v5⟩=>(r.n-o).toNat) ((0,[],(.slice none 0 0:Value))) ⟨Fr.refl _ _,jQ,rfl,rfl,J,J,rfl⟩<| ?_
 rintro⟨o,l,v5⟩ WR Eo ⟨nX,cg,On,wD,o0,o1,hl⟩
 obtain⟨Ol,xG,Q5⟩:=nX.w3 1 2 4
 refine ai<|SR<|aF wD<|V (fA bS 0 O aP xG)<|lV bx cg 1 O O (fx _)<|V (aN O O)<|aa<|aG O (fun h12=> ?_) (fun h12=> ?_)
 .refine an<|ai<|aA<|SR<|va (v:=I 0) rfl<|aa<|aA<|bt (G:=Int×(List Int)×Value) (fun⟨x,l2,v5⟩ s' w'=>(Fr (5::(7::(rg 17 18 []))) _ s')/\(Hp w w' (.row v5 3 1 (l2.length) (l2.map I)::_))/\(s' 5=v5)/\(s' 7=I x)/\(0<=x)/\(x<=r.n)/\(l2=CF r s o++FE r s o x)) (fun⟨x,l2,v5⟩=>(r.n-x).toNat) ((0,l,(v5:Value))) ⟨Fr.refl _ _,cg,On,rfl,J,J,(by rw[hl,FE];simp[upto])⟩<| ?_
  rintro⟨x,l2,v5⟩ WL BR ⟨pJ,bV,wF,WV,x0,x1,h2⟩
  obtain⟨Dc,Oo,qS⟩:=pJ.t3 1 Ol 2 xG 6 wD
  refine ai<|SR<|aF WV<|V (fA bS 0 O aP Oo)<|lV bx bV 1 O O (fx _)<|V (aN O O)<|aa<|aG O (fun Db=> ?_) (fun Db=> ?_)
  .refine an<|ai<|aA<|SR<|V (aS bS O O Oo (bV.blk (i:=1) O))<|aF Dc<|aF qS<|aF WV<|aH O bV (yz _ _ _ _ J _) (jE call186 O O O O)<|fun Jg er=>aa<|bX O (fun Ob=> ?_) (fun Ob=> ?_)
   .refine au<|aF wF<|aF qS<|V (z8 O O J)<|aF WV<|V (ax O O J)<|ud 1 1 er (cA bD O O (sz:=1) (vs:=[I _]) O O az az O O)<|fun b22 w20 fK=> ?_
    (try simp only[lC]at fK)
    refine gh O fK (i:=1) O (fK.dU (i:=0) (n:=1) (sz:=1) O O az) O O bD O O (size:=1) (bytes:=8) O O O az gZ (by rw[h2];have:= @MA r s o hs.1.2 J;have:= @Mz r s o x;simp;omega) (by rw[h2];have:= @MA r s o hs.1.2 J;have:= @Mz r s o x;simp only[maxLen];simp;omega)<|fun v23 w24 om=> ?_
    refine V (run_assign bz) ?_
    refine aa<|au<|aF WV<|V (ax O O J)<|aI rfl<|aa<| ?_
    refine⟨(x+1,l2++[8*o+x],v23),aX,pJ.u4.u4.u4.u4.u4,(Hp.conv (om.sub (sQ sR)) aJ),rfl,(aK I aM),J,J,?_⟩
    (rw[h2];(rw[dH,ag6 x0 aR]))
   refine an<|au<|aF WV<|V (ax O O J)<|aI rfl<|aa<| ?_
   refine⟨(x+1,l2,v5),aX,pJ.u4.u4.u4,(Hp.conv er aM),wF,(aK I aM),J,J,?_⟩
   (rw[h2];(rw[amC x0 aR]))
  refine a8 (id:=2) rfl<|au<|aF qS<|V (ax O O J)<|aI rfl<|aa<| ?_
  refine⟨(o+1,l2,v5),aX,(((nX.u4.u1).t pJ O)).u4.u1.u1.u1,(Hp.conv bV aM),wF,(aK I aM),J,J,?_⟩
  (rw[h2];exact U3 o0 J)
 refine a8 (id:=0) rfl<|SR<|aF On<|aH O cg (fQ _ _ _ (cg.sl (i:=0) O)) (ay Co O)<|fun Uq dG=>aU rfl<|aa<|aj<|oU O ?_ dG
 (rw[hl];exact adL hr J)
theorem Df(r:Rl)(w:World):Calls Tryz.prog 118 #[.agg (dV r)] w (Pure (U (Ka r)) w):=by
 refine eH func118 rfl rfl fun hH=>SR<|gO hH (v:= .agg _) rfl<|fun b3 w1 bq=>va (v:=U 0#64) rfl<|aa<|SR<|va (v:= .slice none 0 0) rfl<|have ix:=bq.eI 3 1;aa<|ai<|SR<|va (v:=I 0) rfl<|aa<|aA<|bt (G:=Int×(List Int)×Value) (fun⟨o,l,v3⟩ s' w'=>(Fr (rg 3 26 []) _ s')/\(Hp w w' (.row v3 3 1 (l.length) (l.map I)::_))/\(s' 3=v3)/\(s' 4=I o)/\(0<=o)/\(cV r=true->o<=r.n)/\(cV r=false->l=[])/\(cV r=true->l=U5 r o)) (fun⟨o,l,v3⟩=>(9-o).toNat) ((0,[],(.slice none 0 0:Value))) ⟨Fr.refl _ _,ix,rfl,rfl,J,(fun h=>by have:=e8 h;omega),fun _=>rfl,fun _=>rfl⟩<| ?_
 rintro⟨o,l,v3⟩ sg5 w5 ⟨Up,bY,ae1,ayu,o0,o1,o2,hl⟩
 obtain⟨Ty,aau⟩:=Up.w2 1 2
 refine ai<|SR<|V (aS bS O O Ty (bY.blk (i:=1) O))<|aH O bY (mY _ _) (ay call146 O)<|fun w6 eE=>mB rfl<|eK 8 O (fun h9=> ?_) (fun h9=> ?_)
 .refine aF ayu<|V (fA bS 0 O aP Ty)<|lV bx eE 1 O O (fx _)<|V (aN O O)<|mB rfl<|aa<|aG O (fun h11=> ?_) (fun h11=> ?_)
  .refine an<|ai<|aA<|SR<|va (v:=I 0) rfl<|aa<|aA<|have hs:=e8 ‹cV r=true›;bt (G:=Int×(List Int)×Value) (fun⟨x,l2,v3⟩ s' w'=>(Fr (3::(5::(rg 16 13 []))) _ s')/\(Hp w w' (.row v3 3 1 (l2.length) (l2.map I)::_))/\(s' 3=v3)/\(s' 5=I x)/\(0<=x)/\(x<=r.n)/\(l2=U5 r o++(upto x).map (8*o+·))) (fun⟨x,l2,v3⟩=>(r.n-x).toNat) ((0,l,(v3:Value))) ⟨Fr.refl _ _,eE,ae1,rfl,J,J,(by rw[hl aR];simp[upto])⟩<| ?_
   rintro⟨x,l2,v3⟩ aal zl ⟨my,cM,kU,mL,x0,x1,h2⟩
   obtain⟨po,uj⟩:=my.t2 1 Ty 4 ayu
   refine ai<|SR<|aF mL<|V (fA bS 0 O aP po)<|lV bx cM 1 O O (fx _)<|V (aN O O)<|aa<|aG O (fun Gl=> ?_) (fun Gl=> ?_)
   .refine an<|ai<|aA<|au<|aF kU<|aF uj<|V (z8 O O J)<|aF mL<|V (ax O O J)<|ud 1 1 cM (cA bD O O (sz:=1) (vs:=[I _]) O O az az O O)<|fun b17 Tz cH=> ?_
    (try simp only[lC]at cH)
    refine gh O cH (i:=1) O (cH.dU (i:=0) (n:=1) (sz:=1) O O az) O O bD O O (size:=1) (bytes:=8) O O O az gZ (by rw[h2];have:= @U6 r o J J;simp[nc];omega) (by rw[h2];have:= @U6 r o J J;simp only[maxLen];simp[nc];omega)<|fun v18 Q2 cP=> ?_
    refine V (run_assign bz) ?_
    refine aa<|au<|aF mL<|V (ax O O J)<|aI rfl<|aa<| ?_
    refine⟨(x+1,l2++[8*o+x],v18),aX,my.u4.u4.u4.u1.u1.u1,(Hp.conv (cP.sub (sQ sR)) aJ),rfl,(aK I aM),J,J,?_⟩
    (rw[h2,dH,adN x0])
   refine a8 (id:=2) rfl<|au<|aF uj<|V (ax O O J)<|aI rfl<|aa<| ?_
   refine⟨(o+1,l2,v3),?_,(((Up.u4.u4.u1).t my O)).u4.u1.u1.u1,(Hp.conv cM aM),kU,(aK I aM),J,?_,?_,?_⟩
   .have:=e8 ‹cV r=true›;((try dsimp only);omega)
   .exact fun h=>by omega
   .exact fun h=>by rw[‹cV r=true›]at h;cases h
   exact fun _=>by rw[h2];exact adM o0 J
  refine a8 (id:=0) rfl<|SR<|aF ae1<|aH O eE (fQ _ _ _ (eE.sl (i:=0) O)) (ay Co O)<|fun N4 cK=>aU rfl<|aa<|aj<|oU O ?_ cK
  (rw[hl aR];exact amD aR (by have:=o1 aR;omega))
 refine aF (v:=B false) rfl<|aa<|cT rfl<|a8 (id:=0) rfl<|SR<|aF ae1<|aH O eE (fQ _ _ _ (eE.sl (i:=0) O)) (ay Co O)<|fun w23 gM=>aU rfl<|aa<|aj<|oU O ?_ gM
 (rw[o2 aR,arX aR];exact Sv)
theorem EX(c:Int)(w:World):Calls Tryz.prog 197 #[.int .u8 c] w (Pure (B (jD c)) w):=by
 refine eH func197 rfl rfl fun hH=>SR<|va (v:=B false) rfl<|aa<|SR<|aF (v:= .int _ _) rfl<|V (dF O O)<|mB rfl<|bM 5 O (fun h2=> ?_) (fun h2=> ?_)
 .refine aF (v:= .int _ _) rfl<|V (xj O O)<|mB rfl<|aB rfl<|aa<|aj<|oB O ?_ hH
  (rw[jD,gX];simp only[eD,uL,zT];omega)
 refine aF (v:=B false) rfl<|aB rfl<|aa<|aj<|oB O ?_ hH
 (rw[jD,gX];simp only[eD,uL,zT];omega)
theorem qT(c:Int)(w:World):Calls Tryz.prog 113 #[.int .u8 c] w (Pure (B (jD c)) w):=by
 refine eH func113 rfl rfl fun hH=>SR<|va (v:=B false) rfl<|aa<|SR<|aF (v:= .int _ _) rfl<|V (dF O O)<|mB rfl<|bM 5 O (fun h2=> ?_) (fun h2=> ?_)
 .refine aF (v:= .int _ _) rfl<|V (xj O O)<|mB rfl<|aB rfl<|aa<|aj<|oB O ?_ hH
  (rw[jD,gX];simp only[eD,uL,zT];omega)
 refine aF (v:=B false) rfl<|aB rfl<|aa<|aj<|oB O ?_ hH
 (rw[jD,gX];simp only[eD,uL,zT];omega)
theorem WW(c:Int)(w:World):Calls Tryz.prog 198 #[.int .u8 c] w (Pure (B (uN c)) w):=by
 refine eH func198 rfl rfl fun hH=>SR<|va (v:=B false) rfl<|aa<|SR<|aF (v:= .int _ _) rfl<|aH O hH (EX _ _) (ay call197 O)<|fun w1 bq=>mB rfl<|eK 5 O (fun h4=> ?_) (fun h4=> ?_)
 .refine gp O O rfl<|gp O O rfl<|Ab<|aF (v:=B true) rfl<|mB rfl<|cF O rfl<|aF (v:=B true) rfl<|aB rfl<|aa<|aj<|oB O ?_ bq
  exact(CG aR).symm
 refine aF (v:= .int _ _) rfl<|V (dF O O)<|mB rfl<|bM 8 O (fun h6=> ?_) (fun h6=> ?_)
 .refine aF (v:= .int _ _) rfl<|V (xj O O)<|mB rfl<|mB rfl<|mB rfl<|bM 13 O (fun h8=> ?_) (fun h8=> ?_)
  .refine aF (v:=B true) rfl<|aB rfl<|aa<|aj<|oB O ?_ bq
   (have hlc:=‹jD c=false›;rw[jD,xg]at hlc;rw[uN,gX];simp only[eD,uL,zT,true_iff];omega)
  refine aF (v:= .int _ _) rfl<|V (bW O O)<|mB rfl<|aB rfl<|aa<|aj<|oB O ?_ bq
  (have hlc:=‹jD c=false›;rw[jD,xg]at hlc;rw[uN,gX];simp only[eD,uL,zT,true_iff];omega)
 refine aF (v:=B false) rfl<|mB rfl<|mB rfl<|cF O rfl<|aF (v:= .int _ _) rfl<|V (bW O O)<|mB rfl<|aB rfl<|aa<|aj<|oB O ?_ bq
 (have hlc:=‹jD c=false›;rw[jD,xg]at hlc;rw[uN,gX];simp only[eD,uL,zT,true_iff];omega)
theorem TG(s:Tx)(w:World):Calls Tryz.prog 164 #[S s] w (Pure (B (iR s)) w):=by
 have htx:= @ar0 s
 refine eH func164 rfl rfl fun hH=>SR<|va (v:=B false) rfl<|aa<|ai<|SR<|aF (v:= .string _) rfl<|V (MG O O)<|mB rfl<|bM 6 O (fun h2=> ?_) (fun h2=> ?_)
 .refine aF (v:=B true) rfl<|mB rfl<|cF O rfl<|aF (v:=B true) rfl<|aa<|cz rfl<|SR<|va (v:=B false) rfl<|aa<|aj<|oB O ?_ hH
  exact(DW (by have:=htx.1 ‹s=qt›;omega)).symm
 refine aF (v:= .string _) rfl<|V (lG O iz O)<|V (dP O O)<|mB rfl<|mB rfl<|bM 11 O (fun h4=> ?_) (fun h4=> ?_)
 .refine aF (v:=B true) rfl<|aa<|cz rfl<|SR<|va (v:=B false) rfl<|aa<|aj<|oB O ?_ hH
  exact(DW J).symm
 refine aF (v:= .string _) rfl<|V (tJ iz O O (by have:=mt htx.2 ‹¬s=qt›;omega))<|aH O hH (EX _ _) (ay call197 O)<|fun w5 jQ=>V (bJ O)<|mB rfl<|aa<|bX O (fun h9=> ?_) (fun h9=> ?_)
 .refine SR<|va (v:=B false) rfl<|aa<|aj<|oB O ?_ jQ
  exact(PY (nt aR)).symm
 refine an<|ai<|SR<|aF (v:= .string _) rfl<|V (lG O iz O)<|aF (v:=I 0) rfl<|aa<|aA<|have hsz:1<=s.size/\s.size<=16:=⟨by have:=mt htx.2 ‹¬s=qt›;omega,J⟩;bt (G:=Int) (fun k s' w'=>(Fr (2::3::(rg 19 9 [])) _ s')/\(Hp w w' _)/\(s' 19=I k)/\(0<=k)/\(k<=s.size)/\(∀j:Int,0<=j->j<k->uN (sJ s j)=true)) (fun k=>(s.size-k).toNat) (0) ⟨Fr.refl _ _,jQ,rfl,J,J,fun j a b=>absurd b J⟩<| ?_
 rintro k WR Eo ⟨nX,cg,aax,h0,hk,hf⟩
 obtain⟨EY,atP⟩:=nX.w2 0 18
 refine SR<|V (aN aax atP)<|aa<|ai<|aG O (fun h12=> ?_) (fun h12=> ?_)
 .refine an<|ai<|aA<|SR<|aF aax<|aI rfl<|aa<|SR<|aF EY<|mI rfl<|V (tJ iz O O J)<|aH O cg (WW _ _) (ay call198 O)<|fun BR cD=>V (bJ O)<|aa<|bX O (fun Hu=> ?_) (fun Hu=> ?_)
  .refine SR<|va (v:=B false) rfl<|aa<|aj<|oB O ?_ cD
   exact(IM h0 aR (nt aR)).symm
  refine an<|au<|V (ax aax O J)<|mI rfl<|aa<| ?_
  refine⟨k+1,aX,nX.u4.u4.u1.u1,cD,(aK I aM),J,J,?_⟩
  exact fun j a b=>if e:j=k then e▸nf ‹_›else hf j a J
 refine a8 (id:=0) rfl<|SR<|va (v:=B true) rfl<|aa<|aj<|oB O ?_ cg
 exact(PZ hsz (nf aR) aR hf).symm
theorem iK(s:Tx)(w:World):Calls Tryz.prog 74 #[S s] w (Pure (B (iR s)) w):=by
 refine eH func74 rfl rfl fun hH=>SR<|va (v:=B false) rfl<|aa<|ai<|SR<|aF (v:= .string _) rfl<|V (lG O iz O)<|V (aN O O)<|mB rfl<|bM 7 O (fun h2=> ?_) (fun h2=> ?_)
 .refine aF (v:=B true) rfl<|mB rfl<|cF O rfl<|aF (v:=B true) rfl<|aa<|cz rfl<|SR<|va (v:=B false) rfl<|aa<|aj<|oB O ?_ hH
  exact(DW J).symm
 refine aF (v:= .string _) rfl<|V (lG O iz O)<|V (dP O O)<|mB rfl<|mB rfl<|bM 12 O (fun h4=> ?_) (fun h4=> ?_)
 .refine aF (v:=B true) rfl<|aa<|cz rfl<|SR<|va (v:=B false) rfl<|aa<|aj<|oB O ?_ hH
  exact(DW J).symm
 refine aF (v:= .string _) rfl<|V (tJ iz O O J)<|aH O hH (qT _ _) (ay call113 O)<|fun w5 jQ=>V (bJ O)<|mB rfl<|aa<|bX O (fun h9=> ?_) (fun h9=> ?_)
 .refine SR<|va (v:=B false) rfl<|aa<|aj<|oB O ?_ jQ
  exact(PY (nt aR)).symm
 refine an<|ai<|SR<|va (v:=I 1) rfl<|aa<|aA<|have hsz:1<=s.size/\s.size<=16:=J;have hlt:jD (sJ s 0)=true:=nf aR;bt (G:=Int) (fun k s' w'=>(Fr (2::3::(rg 18 29 [])) _ s')/\(Hp w w' _)/\(s' 3=I k)/\(1<=k)/\(k<=s.size)/\(∀j:Int,0<=j->j<k->uN (sJ s j)=true)) (fun k=>(s.size-k).toNat) (1) ⟨Fr.refl _ _,jQ,rfl,J,J,fun j a b=>by rw[show j=0 by omega];exact CG hlt⟩<| ?_
 rintro k WR Eo ⟨nX,cg,qb,h0,hk,hf⟩
 have EY:=nX.w1 0
 refine ai<|SR<|aF qb<|aF EY<|V (lG O iz O)<|V (aN O O)<|aa<|aG O (fun h12=> ?_) (fun h12=> ?_)
 .refine an<|ai<|aA<|SR<|aF EY<|aF qb<|V (tJ iz O O J)<|aH O cg (qT _ _) (ay call113 O)<|fun BR cD=>V (bJ O)<|mB rfl<|eK 29 O (fun Hu=> ?_) (fun Hu=> ?_)
  .refine aF EY<|aF qb<|V (tJ iz O O J)<|V (aN O O)<|mB rfl<|bM 34 O (fun Ob=> ?_) (fun Ob=> ?_)
   .refine aF (v:=B true) rfl<|mB rfl<|mB rfl<|cF O rfl<|aF EY<|aF qb<|V (tJ iz O O J)<|V (kL O O)<|mB rfl<|aa<|aG O (fun Pt=> ?_) (fun Pt=> ?_)
    .refine SR<|va (v:=B false) rfl<|aa<|aj<|oB O ?_ cD
     exact(IM (i:=k) J aR afS).symm
    refine an<|au<|aF qb<|V (ax O O J)<|aI rfl<|aa<| ?_
    refine⟨k+1,aX,nX.u4.u4.u4.u4.u4.u4.u4.u1.u1,cD,(aK I aM),J,J,?_⟩
    exact fun j a b=>if e:j=k then e▸(by rw[uN,eD];omega)else hf j a J
   refine aF EY<|aF qb<|V (tJ iz O O J)<|V (dP O O)<|mB rfl<|mB rfl<|mB rfl<|bM 41 O (fun F6=> ?_) (fun F6=> ?_)
   .refine aF EY<|aF qb<|V (tJ iz O O J)<|V (kL O O)<|mB rfl<|aa<|aG O (fun Ji=> ?_) (fun Ji=> ?_)
    .refine SR<|va (v:=B false) rfl<|aa<|aj<|oB O ?_ cD
     exact(IM (i:=k) J aR afS).symm
    refine an<|au<|aF qb<|V (ax O O J)<|aI rfl<|aa<| ?_
    refine⟨k+1,aX,nX.u4.u4.u4.u4.u4.u4.u4.u1.u1,cD,(aK I aM),J,J,?_⟩
    exact fun j a b=>if e:j=k then e▸(by rw[uN,eD];omega)else hf j a J
   refine aF (v:=B false) rfl<|aa<|cT rfl<|an<|au<|aF qb<|V (ax O O J)<|aI rfl<|aa<| ?_
   refine⟨k+1,aX,nX.u4.u4.u4.u4.u4.u4.u4.u1.u1,cD,(aK I aM),J,J,?_⟩
   exact fun j a b=>if e:j=k then e▸(by rw[uN,eD];omega)else hf j a J
  refine gp O O rfl<|gp O O rfl<|gp O O rfl<|gp O O rfl<|Ab<|aF (v:=B false) rfl<|mB rfl<|cF O rfl<|aF (v:=B false) rfl<|aa<|cT rfl<|an<|au<|aF qb<|V (ax O O J)<|aI rfl<|aa<| ?_
  refine⟨k+1,aX,nX.u4.u4.u4.u4.u4.u4.u4.u1.u1,cD,(aK I aM),J,J,?_⟩
  exact fun j a b=>if e:j=k then e▸(by exact CG (nf aR))else hf j a J
 refine a8 (id:=0) rfl<|SR<|va (v:=B true) rfl<|aa<|aj<|oB O ?_ cg
 exact(PZ hsz hlt aR hf).symm
theorem Hv(n:Int)(f:FuncId)(cs:List Value)(P:Int->Bool)(hn:0<=n/\n<=9223372036854775807)(w:World)(hf:∀args w,(callFunc f args).run Tryz.prog w= .ok (.enter f args) w)(go:∀i w',Below w.heap.size w w'->0<=i->i<n->Calls Tryz.prog f (I i::cs).toArray w' (Pure (B (P i)) w')):Calls Tryz.prog 194 #[I 0,I n,.func (.func f) #[] cs.toArray] w (Pure (I (tH P n)) w):=by
 refine eH func194 rfl rfl fun hH=>SR<|va (v:=I 0) rfl<|aa<|ai<|SR<|mI rfl<|aI rfl<|aa<|aA<|bt (G:=Int) (fun k s' w'=>(Fr (6::7::(rg 9 9 [])) _ s')/\(Hp w w' _)/\(s' 7=I k)/\(0<=k)/\(k<=n)/\(∀j:Int,0<=j->j<k->P j=false)) (fun k=>(n-k).toNat) (0) ⟨Fr.refl _ _,hH,rfl,J,J,fun j a b=>absurd b J⟩<| ?_
 rintro k sg1 w1 ⟨uT,jc,WD,h0,hk,hg⟩
 have AM:=uT.w1 1
 have ajZ:=uT.vv 2 (a:= .func _ _ _) rfl rfl
 refine ai<|SR<|aF WD<|aF AM<|V (aN O O)<|aa<|aG O (fun h3=> ?_) (fun h3=> ?_)
 .refine an<|ai<|aA<|SR<|aF ajZ<|aF WD<|aH O jc (go _ _ jc.below J J) (lH hf (cs:=cs) O O)<|fun w4 bY=>aa<|bX O (fun h7=> ?_) (fun h7=> ?_)
  .refine SR<|aF WD<|aI rfl<|aa<|aj<|oI O ?_ bY
   exact(vS h0 aR aR hg).symm
  refine an<|au<|aF WD<|V (ax O O J)<|aI rfl<|aa<| ?_
  refine⟨k+1,aX,uT.u4.u4.u1,bY,(aK I aM),J,J,?_⟩
  exact fun j a b=>if e:j=k then e▸‹P k=false›else hg j a J
 refine a8 (id:=0) rfl<|SR<|va (v:=I (-1)) rfl<|aa<|aj<|oI O ?_ jc
 exact(GG fun j a b=>hg j a J).symm
theorem Py(b c:Nat)(v:Value)(l:List Tx)(s:Tx)(i:Int)(hi:0<=i/\i<l.length)(w:World)(hs:Sl w v 1 l.length (JL l))(hb:w.heap[b]?=some (.cells #[v] 83 (0,0)))(hc:w.heap[c]?=some (.cells #[S s] 9 (0,0))):Calls Tryz.prog 230 #[I i,.pointer (some ⟨b,0,none⟩),.pointer (some ⟨c,0,none⟩)] w (Pure (B (decide (l.getD i.toNat qt=s))) w):=by
 have hm:=hs.small
 unfold maxLen at hm
 refine eH func230 rfl rfl fun hH=>SR<|va (v:=B false) rfl<|aa<|ai<|ew aQ hH<|fun w1 bq=>have k7:=bq;AT 0 O k7 (fun w hS=>aE dZ O O (hS.eT hb O))<|AQ 1 O k7 (mV (I _) O)<|AT 2 O k7 (fun w hS=>ah (hs.hp hS) dZ kC O O J)<|AT 3 O k7 (fun w hS=>aE iz O O ((hs.hp hS).cell _ _ (CH J)))<|AT 4 O k7 (fun w hS=>aE iz O O (hS.eT hc (v:= .string _) O))<|AQ 5 O k7 (MG O O)<|AQ 6 O k7 (aV (B _) O)<|AD<|aj<|oB O ?_ bq
 rfl
theorem WX(v:Value)(l:List Tx)(s:Tx)(w:World)(hs:Sl w v 1 l.length (JL l)):Calls Tryz.prog 196 #[v,S s] w (Pure (I (rI l s)) w):=by
 have hm:=hs.small
 unfold maxLen at hm
 refine eH func196 rfl rfl fun hH=>SR<| ?_
 refine lN hH (KI bz) ?_
 intro b3 w1 bq
 rw[(iu hs).2]at bq
 refine gO bq (v:= .string _) rfl<|fun b6 w4 bY=>va (v:=I 0) rfl<|aa<|SR<|lV dZ bY 1 O O rfl<|V (aD (hs.hp bY) O dZ O)<| ?_
 refine V (tA bz bz) ?_
 refine aH O bY (Hv _ 230 [.pointer (some ⟨b3,0,none⟩),.pointer (some ⟨b6,0,none⟩)] (fun i=>decide (l.getD i.toNat qt=s)) J _ call230 (fun i w h h0 h1=>Py b3 b6 v l s i ⟨h0,h1⟩ w ((hs.hp bY).below h) (keep h (bY.blk (i:=1) O)) (keep h (bY.blk (i:=0) O)))) (bA call194 (show _=I 0 from O) O O)<|fun w7 eX=>aI rfl<|aa<|aj<|oI O ?_ eX
 rfl
theorem Oq(b:Nat)(v:Value)(l:List Tx)(i:Int)(hi:0<=i/\i<l.length)(w:World)(hs:Sl w v 1 l.length (JL l))(hb:w.heap[b]?=some (.cells #[v] 83 (0,0))):Calls Tryz.prog 195 #[I i,.pointer (some ⟨b,0,none⟩)] w (Pure (B (decide (rI l (l.getD i.toNat qt)<i))) w):=by
 have hm:=hs.small
 unfold maxLen at hm
 refine eH func195 rfl rfl fun hH=>SR<|va (v:=B false) rfl<|aa<|ai<|ew aQ hH<|fun w1 bq=>have k7:=bq;AT 0 O k7 (fun w hS=>aE dZ O O (hS.eT hb O))<|AQ 1 O k7 (mV (I _) O)<|AT 3 O k7 (fun w hS=>aE dZ O O (hS.eT hb O))<|AQ 4 O k7 (mV (I _) O)<|AT 5 O k7 (fun w hS=>ah (hs.hp hS) dZ kC O O J)<|AT 6 O k7 (fun w hS=>aE iz O O ((hs.hp hS).cell _ _ (CH J)))<|A1 2<|cf O aC O bq sR (rD (hs.hp bq) dZ kC O O J)<|A1 7<|cm O aC O bq sR (WX _ _ _ _ ((hs.hp bq).aDS J)) (aL call196 O O)<|fun w5 jQ=>AQ 8 O jQ (dF O O)<|AQ 9 O jQ (aV (B _) O)<|AD<|aj<|oB O ?_ jQ
 exact ahb hi.1 hi.2
theorem TH(v:Value)(l:List Tx)(w:World)(hs:Sl w v 1 l.length (JL l)):Calls Tryz.prog 163 #[v] w (Pure (I (yR l)) w):=by
 have hm:=hs.small
 unfold maxLen at hm
 refine eH func163 rfl rfl fun hH=>SR<| ?_
 refine lN hH (KI bz) ?_
 intro b3 w1 bq
 rw[(iu hs).2]at bq
 refine va (v:=I 0) rfl<|aa<|SR<|lV dZ bq 0 O O rfl<|V (aD (hs.hp bq) O dZ O)<| ?_
 refine V (CD bz) ?_
 refine aH O bq (Hv _ 195 [.pointer (some ⟨b3,0,none⟩)] (fun i=>decide (rI l (l.getD i.toNat qt)<i)) J _ call195 (fun i w h h0 h1=>Oq b3 v l i ⟨h0,h1⟩ w ((hs.hp bq).below h) (keep h (bq.blk (i:=0) O)))) (bA call194 (show _=I 0 from O) O O)<|fun w4 bY=>aI rfl<|aa<|aj<|oI O ?_ bY
 rfl
theorem BW(v:Value)(l:List Tx)(s:Tx)(w:World)(hs:Sl w v 1 l.length (JL l)):Calls Tryz.prog 114 #[v,S s] w (Pure (I (rI l s)) w):=by
 have hm:=hs.small
 unfold maxLen at hm
 refine eH func114 rfl rfl fun hH=>SR<|va (v:=I 0) rfl<|aa<|ai<|SR<|va (v:=I 0) rfl<|aa<|aA<|bt (G:=Int) (fun k s' w'=>(Fr (rg 4 15 []) _ s')/\(Hp w w' _)/\(s' 5=I k)/\(0<=k)/\(k<=l.length)/\(∀j:Int,0<=j->j<k->decide (l.getD j.toNat qt=s)=false)) (fun k=>(l.length-k).toNat) (0) ⟨Fr.refl _ _,hH,rfl,J,J,fun j a b=>absurd b J⟩<| ?_
 rintro k sg1 w1 ⟨uT,jc,N1,h0,hk,hg⟩
 obtain⟨mF,AM⟩:=uT.w2 0 1
 refine ai<|SR<|aF N1<|aF mF<|V (aD (hs.hp jc) O dZ O)<|V (aN O O)<|aa<|aG O (fun h3=> ?_) (fun h3=> ?_)
 .refine an<|ai<|aA<|SR<|aF mF<|aF N1<|V (ah (hs.hp jc) dZ kC O O J)<|V (aE iz O O ((hs.hp jc).cell _ _ (CH J)))<|aF AM<|V (MG O O)<|aa<|aG O (fun h5=> ?_) (fun h5=> ?_)
  .refine SR<|aF N1<|aI rfl<|aa<|aj<|oI O ?_ jc
   exact(vS h0 aR (gY aR) hg).symm
  refine an<|au<|aF N1<|V (ax O O J)<|aI rfl<|aa<| ?_
  refine⟨k+1,aX,uT.u4.u4.u4.u1,jc,(aK I aM),J,J,?_⟩
  exact fun j a b=>if e:j=k then e▸hG ‹_›else hg j a J
 refine a8 (id:=0) rfl<|SR<|va (v:=I (-1)) rfl<|aa<|aj<|oI O ?_ jc
 exact(GG fun j a b=>hg j a J).symm
theorem j9(v:Value)(l:List Tx)(w:World)(hs:Sl w v 1 l.length (JL l)):Calls Tryz.prog 75 #[v] w (Pure (I (yR l)) w):=by
 have hm:=hs.small
 unfold maxLen at hm
 refine eH func75 rfl rfl fun hH=>SR<|va (v:=I 0) rfl<|aa<|ai<|SR<|va (v:=I 0) rfl<|aa<|aA<|bt (G:=Int) (fun k s' w'=>(Fr (rg 2 17 []) _ s')/\(Hp w w' _)/\(s' 3=I k)/\(0<=k)/\(k<=l.length)/\(∀j:Int,0<=j->j<k->decide (rI l (l.getD j.toNat qt)<j)=false)) (fun k=>(l.length-k).toNat) (0) ⟨Fr.refl _ _,hH,rfl,J,J,fun j a b=>absurd b J⟩<| ?_
 rintro k sg1 w1 ⟨uT,jc,s7,h0,hk,hg⟩
 have mF:=uT.w1 0
 refine ai<|SR<|aF s7<|aF mF<|V (aD (hs.hp jc) O dZ O)<|V (aN O O)<|aa<|aG O (fun h3=> ?_) (fun h3=> ?_)
 .refine an<|ai<|aA<|SR<|aF mF<|aF mF<|aF s7<|V (ah (hs.hp jc) dZ kC O O J)<|V (aE iz O O ((hs.hp jc).cell _ _ (CH J)))<|aH O jc (BW _ _ _ _ (hs.hp jc)) (aL call114 O O)<|fun w4 bY=>aF s7<|V (aN O O)<|aa<|aG O (fun h7=> ?_) (fun h7=> ?_)
  .refine SR<|aF s7<|aI rfl<|aa<|aj<|oI O ?_ bY
   exact(vS h0 aR (gY aR) hg).symm
  refine an<|au<|aF s7<|V (ax O O J)<|aI rfl<|aa<| ?_
  refine⟨k+1,aX,uT.u4.u4.u4.u1.u1.u1,bY,(aK I aM),J,J,?_⟩
  exact fun j a b=>if e:j=k then e▸hG ‹_›else hg j a J
 refine a8 (id:=0) rfl<|SR<|va (v:=I (-1)) rfl<|aa<|aj<|oI O ?_ jc
 exact(GG fun j a b=>hg j a J).symm
theorem Pz(v:Value)(l:List Tx)(w:World)(hs:Sl w v 1 l.length (JL l)):Calls Tryz.prog 135 #[v] w (Pure (B (iv l)) w):=by
 have hm:=hs.small
 unfold maxLen at hm
 refine eH func135 rfl rfl fun hH=>SR<|va (v:=B false) rfl<|aa<|ai<|SR<| ?_
 refine V (run_move bz) ?_
 refine V (aD (hs.hp hH) O dZ O)<|V (aN O O)<|mB rfl<|bM 8 O (fun h2=> ?_) (fun h2=> ?_)
 .refine aF (v:=B true) rfl<|mB rfl<|cF O rfl<|aF (v:=B true) rfl<|aa<|cz rfl<|SR<|va (v:=B false) rfl<|aa<|aj<|oB O ?_ hH
  exact(DX J).symm
 refine V (run_move bz) ?_
 refine V (aD (hs.hp hH) O dZ O)<|V (dP O O)<|mB rfl<|mB rfl<|bM 13 O (fun h4=> ?_) (fun h4=> ?_)
 .refine aF (v:=B true) rfl<|aa<|cz rfl<|SR<|va (v:=B false) rfl<|aa<|aj<|oB O ?_ hH
  exact(DX J).symm
 refine V (run_move bz) ?_
 refine aH O hH (TH _ _ _ (hs.hp hH)) (ay call163 O)<|fun w5 jQ=>V (dF O O)<|mB rfl<|aa<|aG O (fun h8=> ?_) (fun h8=> ?_)
 .refine SR<|va (v:=B false) rfl<|aa<|aj<|oB O ?_ jQ
  exact(P3 J).symm
 refine an<|ai<|SR<| ?_
 refine V (run_move bz) ?_
 refine V (aD (hs.hp jQ) O dZ O)<|aF (v:=I 0) rfl<|aa<|aA<|have hn1:1<=l.length/\l.length<=64:=J;have Qq:yR l<0:=J;bt (G:=Int) (fun k s' w'=>(Fr (2::(4::(rg 20 8 []))) _ s')/\(Hp w w' _)/\(s' 20=I k)/\(0<=k)/\(k<=l.length)/\(∀j:Int,0<=j->j<k->iR (l.getD j.toNat qt)=true)) (fun k=>(l.length-k).toNat) (0) ⟨Fr.refl _ _,jQ,rfl,J,J,fun j a b=>absurd b J⟩<| ?_
 rintro k sg9 w9 ⟨fr9,iD,aj9,h0,hk,hg⟩
 obtain⟨ayw,ayx⟩:=fr9.w2 18 19
 refine SR<|V (aN aj9 ayx)<|aa<|ai<|aG O (fun h11=> ?_) (fun h11=> ?_)
 .refine an<|ai<|aA<|SR<|V (ah (hs.hp iD) dZ kC ayw aj9 J)<|V (aE iz O O ((hs.hp iD).cell _ _ (CH J)))<|va (v:= .string _) rfl<|aa<|SR<|aF (v:= .string _) rfl<|aH O iD (TG _ _) (ay call164 O)<|fun zl bV=>V (bJ O)<|aa<|bX O (fun yt=> ?_) (fun yt=> ?_)
  .refine SR<|va (v:=B false) rfl<|aa<|aj<|oB O ?_ bV
   exact(P4 h0 aR (nt aR)).symm
  refine an<|au<|V (ax aj9 O J)<|mI rfl<|aa<| ?_
  refine⟨k+1,aX,fr9.u4.u4.u1,bV,(aK I aM),J,J,?_⟩
  exact fun j a b=>if e:j=k then e▸nf ‹_›else hg j a J
 refine a8 (id:=0) rfl<|SR<|va (v:=B true) rfl<|aa<|aj<|oB O ?_ iD
 exact(qH hn1 Qq aR hg).symm
theorem Dg(f:qI)(w:World)(hf:wU (Kw w) f)(hT:pc w):Calls Tryz.prog 93 #[.agg (uY f)] w (Pure (B (cZ f.fc)) w):=by
 have hm:=hf.names.sl.small
 unfold maxLen at hm
 refine eH func93 rfl rfl fun hH=>SR<|gO hH (v:= .agg _) rfl<|fun b3 w1 bq=>va (v:=B false) rfl<|aa<|ai<|SR<|V (fA dx 1 O pw O)<|lV dZ bq 0 O O rfl<|aH O bq (Pz _ _ _ (hf.names.sl.hp bq)) (ay call135 O)<|fun w4 bY=>V (bJ O)<|aa<|bX O (fun h8=> ?_) (fun h8=> ?_)
 .refine SR<|va (v:=B false) rfl<|aa<|aj<|oB O ?_ bY
  exact(MQ (f:=f.fc) (nt aR)).symm
 refine an<|ai<|SR<|V (fA dx 0 O aP O)<|lI bx bY 0 O O rfl<|aa<|aA<|ai<|SR<|V (bW O O)<|aB rfl<|aa<|aG O (fun h10=> ?_) (fun h10=> ?_)
 .refine an<|cz (bT h10)<|SR<|V (fA dx 2 O iV O)<|V (iT bS O O O (bY.blk (i:=0) O))<|V (dL (vs:=[]) O NY)<|aH O bY (ET _ _ _) (aL call136 O O)<|fun Je cM=>aB rfl<|aa<|aj<|oB O ?_ cM
  exact(abv (f:=f.fc) (nf ‹(!iv f.names)=false›) (.inl aR)).symm
 refine au<|V (bW O O)<|aB rfl<|aa<|aG O (fun yt=> ?_) (fun yt=> ?_)
 .refine SR<|V (fA dx 2 O iV O)<|V (iT bS O O O (bY.blk (i:=0) O))<|V (dL (vs:=[]) O NY)<|aH O bY (ET _ _ _) (aL call136 O O)<|fun TC dQ=>aB rfl<|aa<|aj<|oB O ?_ dQ
  exact(abv (f:=f.fc) (nf ‹(!iv f.names)=false›) (.inr aR)).symm
 refine SR<|V (bW O O)<|aB rfl<|aa<|aG O (fun h22=> ?_) (fun h22=> ?_)
 .refine SR<|V (fA dx 2 O iV O)<|V (fA bS 0 O aP O)<|lI bx bY 0 O O rfl<|V (fA dx 1 O pw O)<|lV dZ bY 0 O O rfl<|V (aD (hf.names.sl.hp bY) O dZ O)<|V (bW O O)<|mB rfl<|bM 25 O (fun yI=> ?_) (fun yI=> ?_)
  .refine V (fA dx 2 O iV O)<|V (iT bS O O O (bY.blk (i:=0) O))<|aH O bY (A2 _ _) (ay call137 O)<|fun w25 jy=>mB rfl<|aB rfl<|aa<|aj<|oB O ?_ jy
   exact(ahq (f:=f.fc) (nf ‹(!iv f.names)=false›) aR aR).symm
  refine aF (v:=B false) rfl<|aB rfl<|aa<|aj<|oB O ?_ bY
  exact(aho (f:=f.fc) aR aR).symm
 refine SR<|V (bW O O)<|aB rfl<|aa<|aG O (fun rU=> ?_) (fun rU=> ?_)
 .refine SR<|V (fA dx 2 O iV O)<|V (fA bS 0 O aP O)<|lI bx bY 0 O O rfl<|V (fA dx 1 O pw O)<|lV dZ bY 0 O O rfl<|V (aD (hf.names.sl.hp bY) O dZ O)<|V (bW O O)<|mB rfl<|bM 39 O (fun h31=> ?_) (fun h31=> ?_)
  .refine V (fA dx 2 O iV O)<|V (iT bS O O O (bY.blk (i:=0) O))<|aH O bY (Ks _ _ (hT.hp bY)) (ay call138 O)<|fun w32 ku=>mB rfl<|aB rfl<|aa<|aj<|oB O ?_ ku
   exact(ahr (f:=f.fc) (nf ‹(!iv f.names)=false›) aR aR).symm
  refine aF (v:=B false) rfl<|aB rfl<|aa<|aj<|oB O ?_ bY
  exact(ahp (f:=f.fc) aR aR).symm
 refine an<|SR<|va (v:=B false) rfl<|aa<|aj<|oB O ?_ bY
 exact(aps (f:=f.fc) aR aR aR aR).symm
end
section
open Go Go.RowKit Go.Proofs.YtlhjdflgjbkpmaaGreatDoor.E Go.Proofs.YtlhjdflgjbkpmaaGreatDoor.M
set_option maxRecDepth 100000
open Go.Proofs.Tryz
variable{fr:List bu}
theorem yA(s:kW)(w:World)(hs:lm (Kw w) s)(hT:pc w):Calls Tryz.prog 50 #[.agg (qW s)] w (Pure (B (mJ s.sh)) w):=by
 have hsl:=pB s
 have hm:=hs.a6.sl.small
 unfold maxLen at hm
 refine eH func50 rfl rfl fun hH=>SR<|gO hH (v:= .agg _) rfl<|fun b3 w1 bq=>va (v:=B false) rfl<|aa<|SR<|V (fA dw 1 O jC O)<|lV di bq 0 O O rfl<|V (aD (hs.a6.sl.hp bq) O di O)<|aI rfl<|aa<|ai<|SR<|mI rfl<|V (aN O O)<|mB rfl<|bM 11 O (fun h5=> ?_) (fun h5=> ?_)
 .refine aF (v:=B true) rfl<|mB rfl<|cF O rfl<|gp O O rfl<|gp O O rfl<|Ab<|aF (v:=B true) rfl<|aa<|cz rfl<|SR<|va (v:=B false) rfl<|aa<|aj<|oB O ?_ bq
  exact(KY J).symm
 refine mI rfl<|V (dP O O)<|mB rfl<|mB rfl<|bM 15 O (fun h7=> ?_) (fun h7=> ?_)
 .refine gp O O rfl<|gp O O rfl<|Ab<|aF (v:=B true) rfl<|aa<|cz rfl<|SR<|va (v:=B false) rfl<|aa<|aj<|oB O ?_ bq
  exact(KY J).symm
 refine V (fA dw 0 O oy O)<|V (aE xY O O (bq.cell (i:=0) O (v:=B _) O))<|V (bJ O)<|mB rfl<|eK 19 O (fun h10=> ?_) (fun h10=> ?_)
 .refine mI rfl<|V (kL O O)<|mB rfl<|mB rfl<|aa<|aG O (fun h12=> ?_) (fun h12=> ?_)
  .refine SR<|va (v:=B false) rfl<|aa<|aj<|oB O ?_ bq
   exact(abq (by exact nt aR) J).symm
  refine an<|ai<|SR<|V (fA dw 1 O jC O)<|lV di bq 0 O O rfl<|V (aD (hs.a6.sl.hp bq) O di O)<|aF (v:=I 0) rfl<|aa<|aA<|have hc2:s.sh.tuple=true\/s.sh.a6.length=1:=(by exact .inr J);have Zh:1<=s.a6.length/\s.a6.length<=8:=J;bt (G:=Int) (fun k s' w'=>(Fr (2::(5::(rg 27 8 []))) _ s')/\(Hp w w' _)/\(s' 27=I k)/\(0<=k)/\(k<=s.a6.length)/\(∀j:Int,0<=j->j<k->cZ (s.a6.getD j.toNat iB).fc=true)) (fun k=>(s.a6.length-k).toNat) (0) ⟨Fr.refl _ _,bq,rfl,J,J,fun j a b=>absurd b J⟩<| ?_
  rintro k WL BR ⟨pJ,bV,aay,h0,hk,hg⟩
  obtain⟨Og,atS⟩:=pJ.w2 25 26
  refine SR<|V (aN aay atS)<|aa<|ai<|aG O (fun Db=> ?_) (fun Db=> ?_)
  .refine an<|ai<|aA<|SR<|V (ah (hs.a6.sl.hp bV) di qn Og aay J)<|V (dY (dv:=iB) fC (hs.a6.sl.hp bV) dx O O O J)<|lN bV (aT uf)<|fun b18 Jg er=>bg er (i:=0) O (sU (hs.at J J) O O O (er.blk (i:=0) O))<|fun Q2 cP=>aa<|SR<|V (yT dx O O O (cP.blk (i:=0) O))<|aH O cP (Dg _ _ ((hs.at J J).mono cP.kw) (hT.hp cP)) (ay call93 O)<|fun N4 cK=>V (bJ O)<|aa<|bX O (fun Ji=> ?_) (fun Ji=> ?_)
   .refine SR<|va (v:=B false) rfl<|aa<|aj<|oB O ?_ cK
    exact(KZ (k:=k) h0 J Ic).symm
   refine an<|au<|V (ax aay O J)<|mI rfl<|aa<| ?_
   refine⟨k+1,aX,pJ.u4.u4.u1,(cK.sub (sQ sR)),(aK I aM),J,J,?_⟩
   exact fun j a b=>if e:j=k then e▸nf ‹_›else hg j a J
  refine a8 (id:=0) rfl<|SR<|va (v:=B true) rfl<|aa<|aj<|oB O ?_ bV
  exact(K0 (k:=k) J hc2 J fun j a b=>by rw[iE];exact hg j a b).symm
 refine aF (v:=B false) rfl<|mB rfl<|aa<|cT rfl<|an<|ai<|SR<|V (fA dw 1 O jC O)<|lV di bq 0 O O rfl<|V (aD (hs.a6.sl.hp bq) O di O)<|aF (v:=I 0) rfl<|aa<|aA<|have hc2:s.sh.tuple=true\/s.sh.a6.length=1:=(by exact .inl (nf ‹(!s.tuple)=false›));have Zh:1<=s.a6.length/\s.a6.length<=8:=J;bt (G:=Int) (fun k s' w'=>(Fr (2::(5::(rg 27 8 []))) _ s')/\(Hp w w' _)/\(s' 27=I k)/\(0<=k)/\(k<=s.a6.length)/\(∀j:Int,0<=j->j<k->cZ (s.a6.getD j.toNat iB).fc=true)) (fun k=>(s.a6.length-k).toNat) (0) ⟨Fr.refl _ _,bq,rfl,J,J,fun j a b=>absurd b J⟩<| ?_
 rintro k aFi Uq ⟨aka,jy,aaz,h0,hk,hg⟩
 obtain⟨atT,atV⟩:=aka.w2 25 26
 refine SR<|V (aN aaz atV)<|aa<|ai<|aG O (fun WN=> ?_) (fun WN=> ?_)
 .refine an<|ai<|aA<|SR<|V (ah (hs.a6.sl.hp jy) di qn atT aaz J)<|V (dY (dv:=iB) fC (hs.a6.sl.hp jy) dx O O O J)<|lN jy (aT uf)<|fun b31 w29 iU=>bg iU (i:=0) O (sU (hs.at J J) O O O (iU.blk (i:=0) O))<|fun w32 ku=>aa<|SR<|V (yT dx O O O (ku.blk (i:=0) O))<|aH O ku (Dg _ _ ((hs.at J J).mono ku.kw) (hT.hp ku)) (ay call93 O)<|fun w34 zo=>V (bJ O)<|aa<|bX O (fun h38=> ?_) (fun h38=> ?_)
  .refine SR<|va (v:=B false) rfl<|aa<|aj<|oB O ?_ zo
   exact(KZ (k:=k) h0 J Ic).symm
  refine an<|au<|V (ax aaz O J)<|mI rfl<|aa<| ?_
  refine⟨k+1,aX,aka.u4.u4.u1,(zo.sub (sQ sR)),(aK I aM),J,J,?_⟩
  exact fun j a b=>if e:j=k then e▸nf ‹_›else hg j a J
 refine a8 (id:=0) rfl<|SR<|va (v:=B true) rfl<|aa<|aj<|oB O ?_ jy
 exact(K0 (k:=k) J hc2 J fun j a b=>by rw[iE];exact hg j a b).symm
theorem TI(f:qI)(s:BitVec 64)(w:World)(hf:wU (Kw w) f)(hT:pc w):Calls Tryz.prog 145 #[.agg (uY f),U s] w (Pure (B (kG f.fc s)) w):=by
 have hm:=hf.names.sl.small
 unfold maxLen at hm
 refine eH func145 rfl rfl fun hH=>SR<|gO hH (v:= .agg _) rfl<|fun b3 w1 bq=>va (v:=B false) rfl<|aa<|ai<|SR<|V (fA dx 0 O aP O)<|lI bx bq 0 O O rfl<|aa<|aA<|SR<|V (bW O O)<|aB rfl<|aa<|aG O (fun h5=> ?_) (fun h5=> ?_)
 .refine SR<|V (fA dx 1 O pw O)<|lV dZ bq 0 O O rfl<|V (aD (hf.names.sl.hp bq) O dZ O)<|mU rfl<|aH O bq (TA _ _ _) (aL call178 O O)<|fun w6 eE=>aB rfl<|aa<|aj<|oB O ?_ eE
  exact(P5 (f:=f.fc) aR s).symm
 refine SR<|V (bW O O)<|aB rfl<|aa<|aG O (fun h10=> ?_) (fun h10=> ?_)
 .refine SR<|mU rfl<|V (fA dx 1 O pw O)<|lV dZ bq 0 O O rfl<|V (aD (hf.names.sl.hp bq) O dZ O)<|aH O bq (oZ _ _) (ay H7 O)<|fun Je cM=>aH O cM (F4 _ _ _) (aL call140 O O)<|fun BR cD=>aB rfl<|aa<|aj<|oB O ?_ cD
  exact(P6 (f:=f.fc) aR s).symm
 refine SR<|V (bW O O)<|aB rfl<|aa<|aG O (fun Hu=> ?_) (fun Hu=> ?_)
 .refine SR<|V (fA dx 2 O iV O)<|V (iT bS O O O (bq.blk (i:=0) O))<|mU rfl<|aH O bq (Pv _ _ _ (hT.hp bq)) (aL call180 O O)<|fun Lf iC=>aB rfl<|aa<|aj<|oB O ?_ iC
  exact(P7 (f:=f.fc) aR s).symm
 refine an<|SR<|V (fA dx 2 O iV O)<|V (iT bS O O O (bq.blk (i:=0) O))<|mU rfl<|aH O bq (yx _ _ _ (hT.hp bq)) (aL call181 O O)<|fun N4 cK=> ?_
 refine V (run_move bz) ?_
 refine V (bk O (v:=I _) O)<|V (bk O (v:=B _) O)<|aI rfl<|aB rfl<|aa<|SR<|mB rfl<|aB rfl<|aa<|aj<|oB O ?_ cK
 exact(apt (f:=f.fc) aR aR aR s).symm
theorem A4(s:kW)(e:El)(w:World)(hs:lm (Kw w) s)(hT:pc w):Calls Tryz.prog 105 #[.agg (qW s),.agg (iM e)] w (Pure (B (cI s.sh e)) w):=by
 have hsl:=pB s
 have hm:=hs.a6.sl.small
 unfold maxLen at hm
 refine eH func105 rfl rfl fun hH=>SR<|gO hH (v:= .agg _) rfl<|fun b3 w1 bq=>gO bq (v:= .agg _) rfl<|fun b6 w4 bY=>va (v:=B false) rfl<|aa<|ai<|SR<|V (cC (cs:=[B _,_]) dw O O O (bj (bY.blk (i:=1) O)))<|aH O bY (yA _ _ (hs.mono bY.kw) (hT.hp bY)) (ay call50 O)<|fun w7 eX=>V (bJ O)<|aa<|bX O (fun h11=> ?_) (fun h11=> ?_)
 .refine SR<|va (v:=B false) rfl<|aa<|aj<|oB O ?_ eX
  exact(U7 (nt aR)).symm
 refine an<|ai<|SR<|V (cN bI O O O (eX.blk (i:=0) O))<|aF (v:=I 0) rfl<|aa<|aA<|have hr:mJ s.sh=true:=nf aR;bt (G:=Int) (fun k s' w'=>(Fr (rg 4 3 (rg 11 20 [])) _ s')/\(Hp w w' _)/\(s' 11=I k)/\(0<=k)/\(k<=8)/\(EJ s.sh e k)) (fun k=>(8-k).toNat) (0) ⟨Fr.refl _ _,eX,rfl,J,J,EJ.none _ _⟩<| ?_
 rintro k aal zl ⟨my,cM,Ot,h0,hk,hf⟩
 obtain⟨zq,atX⟩:=my.w2 2 10
 refine SR<|V (aN Ot O)<|aa<|ai<|aG O (fun Gl=> ?_) (fun Gl=> ?_)
 .refine an<|ai<|aA<|SR<|aF Ot<|V (L7 bI isAgg35 cQ atX Ot J (ar4 _ J))<|aI rfl<|aU rfl<|aa<|ai<|SR<|mI rfl<|V (fA dw 1 O jC zq)<|lV di cM 1 O O rfl<|V (aD (hs.a6.sl.hp cM) O di O)<|V (dF O O)<|aa<|aG O (fun yt=> ?_) (fun yt=> ?_)
  .refine ai<|SR<|mU rfl<|V (vG O (b:=0#64) O)<|aa<|aG O (fun p9=> ?_) (fun p9=> ?_)
   .refine SR<|va (v:=B false) rfl<|aa<|aj<|oB O ?_ cM
    exact(MH h0 aR J aR).symm
   refine an<|a8 (id:=1) rfl<|au<|V (ax Ot O J)<|mI rfl<|aa<| ?_
   refine⟨k+1,aX,my.u4.u4.u4.u1.u1,cM,(aK I aM),J,J,?_⟩
   exact hf.next (fun h=>by exfalso;omega) (fun h=>by exact HQ aR)
  refine an<|SR<|V (fA dw 1 O jC zq)<|lV di cM 1 O O rfl<|mI rfl<|V (ah (hs.a6.sl.hp cM) di qn O O J)<|V (dY (dv:=iB) fC (hs.a6.sl.hp cM) dx O O O J)<|mU rfl<|aH O cM (TI _ _ _ ((hs.at J J).mono cM.kw) (hT.hp cM)) (aL call145 O O)<|fun Q2 cP=>V (bJ O)<|aa<|bX O (fun F6=> ?_) (fun F6=> ?_)
  .refine SR<|va (v:=B false) rfl<|aa<|aj<|oB O ?_ cP
   exact(U8 h0 aR J Ic).symm
  refine an<|au<|V (ax Ot O J)<|mI rfl<|aa<| ?_
  refine⟨k+1,aX,my.u4.u4.u4.u4.u4,cP,(aK I aM),J,J,?_⟩
  exact hf.next (fun h=>by rw[iE];exact nf aR) (fun h=>by exfalso;omega)
 refine a8 (id:=0) rfl<|SR<|va (v:=B true) rfl<|aa<|aj<|oB O ?_ cM
 exact(MI hr aR hf).symm
theorem WY(a b:El)(w:World):Calls Tryz.prog 97 #[.agg (iM a),.agg (iM b)] w (Pure (B (cS a b)) w):=by
 refine eH func97 rfl rfl fun hH=>SR<|gO hH (v:= .agg _) rfl<|fun b3 w1 bq=>gO bq (v:= .agg _) rfl<|fun b6 w4 bY=>va (v:=B false) rfl<|aa<|ai<|SR<|aF (v:=I 0) rfl<|aa<|aA<|bt (G:=Int) (fun k s' w'=>(Fr (rg 4 14 []) _ s')/\(Hp w w' _)/\(s' 6=I k)/\(0<=k)/\(k<=8)/\(∀j:Int,0<=j->j<k->ep (a j.toNat) (b j.toNat)=true)) (fun k=>(8-k).toNat) (0) ⟨Fr.refl _ _,bY,rfl,J,J,fun j u v=>absurd v J⟩<| ?_
 rintro k sg7 w7 ⟨Ep,eE,akb,h0,hk,hf⟩
 obtain⟨aj8,WU⟩:=Ep.w2 2 3
 refine SR<|V (aN akb O)<|aa<|ai<|aG O (fun h9=> ?_) (fun h9=> ?_)
 .refine an<|ai<|aA<|SR<|aF akb<|aI rfl<|aa<|ai<|ew aQ eE<|fun Eo dr=>have iP:=dr;AQ 0 O iP (mV (I _) O)<|AQ 1 O iP (a7 bI cQ aj8 O J)<|tV 2 O iP dO 1 O O (jM _ J)<|AQ 3 O iP (mV (I _) O)<|AQ 4 O iP (a7 bI cQ WU O J)<|tV 5 O iP dO 0 O O (jM _ J)<|A1 6<|cm O aC O dr sR (F4 _ _ _) (aL call140 O O)<|fun zl bV=>AQ 7 O bV (bJ O)<|AD<|bX O (fun yt=> ?_) (fun yt=> ?_)
  .refine SR<|va (v:=B false) rfl<|aa<|aj<|oB O ?_ bV
   exact(ahd h0 aR (nt aR)).symm
  refine an<|au<|V (ax akb O J)<|mI rfl<|aa<| ?_
  refine⟨k+1,aX,Ep.u4.u4.u4.u1,bV,(aK I aM),J,J,?_⟩
  exact fun j u v=>if e:j=k then e▸nf ‹_›else hf j u J
 refine a8 (id:=0) rfl<|SR<|va (v:=B true) rfl<|aa<|aj<|oB O ?_ eE
 exact(abr aR hf).symm
theorem TJ(s:kW)(a b:El)(w:World)(hs:lm (Kw w) s)(hT:pc w):Calls Tryz.prog 170 #[.agg (qW s),.agg (iM a),.agg (iM b)] w (Pure (.agg (iM (eo s.sh a b))) w):=by
 have hsl:=pB s
 have hm:=hs.a6.sl.small
 unfold maxLen at hm
 refine eH func170 rfl rfl fun hH=>SR<|gO hH (v:= .agg _) rfl<|fun b3 w1 bq=>gO bq (v:= .agg _) rfl<|fun b6 w4 bY=>gO bY (v:= .agg _) rfl<|fun b9 w7 eX=>lN eX (aT fg)<|fun b12 Eo dr=>aa<|ai<|SR<|aF (v:=I 0) rfl<|aa<|aA<|bt (G:=Int×El) (fun⟨k,e1⟩ s' w'=>(Fr (rg 7 42 []) _ s')/\(Hp w w' (_::_:: .blk b6 (.cells (iM e1) 37 (0,0))::_))/\(s' 8=I k)/\(0<=k)/\(k<=8)/\(e1=ng (eo s.sh a b) a k)) (fun⟨k,e1⟩=>(8-k).toNat) ((0,a)) ⟨Fr.refl _ _,dr,rfl,J,J,(vX _ _).symm⟩<| ?_
 rintro⟨k,e1⟩ WL BR ⟨pJ,bV,WZ,h0,hk,hr⟩
 obtain⟨xE,wC,wF,qS⟩:=pJ.w4 3 4 5 6
 refine SR<|V (aN WZ O)<|aa<|ai<|aG O (fun Db=> ?_) (fun Db=> ?_)
 .refine an<|ai<|aA<|SR<|aF WZ<|aI rfl<|aa<|ai<|SR<|mI rfl<|V (fA dw 1 O jC xE)<|lV di bV 3 O O rfl<|V (aD (hs.a6.sl.hp bV) O di O)<|V (aN O O)<|mB rfl<|bM 16 O (fun Hu=> ?_) (fun Hu=> ?_)
  .refine V (fA dw 1 O jC xE)<|lV di bV 3 O O rfl<|mI rfl<|V (ah (hs.a6.sl.hp bV) di qn O O J)<|V (fA dx 0 O aP O)<|V (gC (dv:=iB) fC (hs.a6.sl.hp bV) bx O O J O)<|V (bW O O)<|mB rfl<|aa<|aG O (fun Ob=> ?_) (fun Ob=> ?_)
   .refine ai<|fX aQ bV (sP (sP (sQ sR)))<|fun w20 fK=>have oO:=fK.sub (sP (sP (sQ sR)));AQ 0 O oO (mV (I _) O)<|AQ 1 O oO (fA dw 1 O jC xE)<|tV 2 O oO di 2 O O rfl<|AQ 3 O oO (mV (I _) O)<|AT 4 O oO (fun w hS=>ah (hs.a6.sl.hp hS) di qn O O J)<|AQ 5 O oO (fA dx 2 O iV O)<|AT 6 O oO (fun w hS=>Vc (hs.a6.sl.hp hS) bS O O O J)<|AQ 7 O oO (mV (I _) O)<|AQ 8 O oO (a7 bI cQ wC O J)<|AQ 10 O oO (mV (I _) O)<|AQ 11 O oO (a7 bI cQ wF O J)<|tV 12 O oO dO 1 O O (jM _ J)<|A1 9<|cf O aC O fK (sP (sP (sQ sR))) (aE dO O O (fK.cell (i:=2) O (jM _ J)))<|A1 13<|cm O aC O fK (sP (sP (sQ sR))) (Pu _ _ _ _ (hT.hp fK)) (bA call205 O O O)<|fun w24 om=>AQ 14 O (om.sub (sP (sP (sQ sR)))) (a7 bI cQ wC O J)<|A1 15<|dW O aC om (j:=2) O (sP (sP (sQ sR))) (bK O O (v:=U _) O O O (om.blk (i:=2) O) yb)<|fun w28 gE=> ?_
    rw[oa]at gE
    refine AD<|a8 (id:=1) rfl<|au<|V (ax WZ O J)<|mI rfl<|aa<| ?_
    refine⟨(k+1,_),aX,pJ.u4.u4.u4.u4.u4.u4.u4.u4.u1.u1,gE,(aK I aM),J,J,?_⟩
    exact adW hr h0 aR aR
   refine an<|fX aQ bV (sP (sP (sQ sR)))<|fun w30 kZ=>have Jl:=kZ.sub (sP (sP (sQ sR)));AQ 0 O Jl (mV (I _) O)<|AQ 1 O Jl (a7 bI cQ wC O J)<|AQ 3 O Jl (mV (I _) O)<|AQ 4 O Jl (a7 bI cQ wF O J)<|tV 5 O Jl dO 1 O O (jM _ J)<|A1 2<|cf O aC O kZ (sP (sP (sQ sR))) (aE dO O O (kZ.cell (i:=2) O (jM _ J)))<|AQ 6 O Jl (iG O O)<|AQ 7 O Jl (a7 bI cQ wC O J)<|A1 8<|dW O aC kZ (j:=2) O (sP (sP (sQ sR))) (bK O O (v:=U _) O O O (kZ.blk (i:=2) O) yb)<|fun w36 uF=> ?_
   rw[oa]at uF
   refine AD<|au<|V (ax WZ O J)<|mI rfl<|aa<| ?_
   refine⟨(k+1,_),aX,pJ.u4.u4.u4.u4.u4.u4.u1.u1.u1,uF,(aK I aM),J,J,?_⟩
   exact Qa hr h0 (fun hc=>absurd hc.1 J)
  refine aF (v:=B false) rfl<|aa<|cT rfl<|an<|fX aQ bV (sP (sP (sQ sR)))<|fun w38 jS=>have Dh:=jS.sub (sP (sP (sQ sR)));AQ 0 O Dh (mV (I _) O)<|AQ 1 O Dh (a7 bI cQ wC O J)<|AQ 3 O Dh (mV (I _) O)<|AQ 4 O Dh (a7 bI cQ wF O J)<|tV 5 O Dh dO 1 O O (jM _ J)<|A1 2<|cf O aC O jS (sP (sP (sQ sR))) (aE dO O O (jS.cell (i:=2) O (jM _ J)))<|AQ 6 O Dh (iG O O)<|AQ 7 O Dh (a7 bI cQ wC O J)<|A1 8<|dW O aC jS (j:=2) O (sP (sP (sQ sR))) (bK O O (v:=U _) O O O (jS.blk (i:=2) O) yb)<|fun w44 r9=> ?_
  rw[oa]at r9
  refine AD<|au<|V (ax WZ O J)<|mI rfl<|aa<| ?_
  refine⟨(k+1,_),aX,pJ.u4.u4.u4.u4.u4.u4.u1.u1.u1,r9,(aK I aM),J,J,?_⟩
  exact Qa hr h0 (fun hc=>absurd hc.1 J)
 refine a8 (id:=0) rfl<|SR<|V (cN bI O O wC (bV.blk (i:=2) O))<|bg bV (i:=0) O (cR O qS O (bV.blk (i:=0) O))<|fun w46 o4=>aa<|aj<|qJ O qS o4 (i:=0) O bI O jJ ⟨?_,o4.below⟩
 (exact aK Value.agg (mo LU))
theorem TK(a b:El)(w:World):Calls Tryz.prog 171 #[.agg (iM a),.agg (iM b)] w (Pure (.agg (iM (pe a b))) w):=by
 refine eH func171 rfl rfl fun hH=>SR<|gO hH (v:= .agg _) rfl<|fun b3 w1 bq=>gO bq (v:= .agg _) rfl<|fun b6 w4 bY=>lN bY (aT fg)<|fun b9 w7 eX=>aa<|ai<|SR<|aF (v:=I 0) rfl<|aa<|aA<|bt (G:=Int×El) (fun⟨k,e1⟩ s' w'=>(Fr (rg 5 13 []) _ s')/\(Hp w w' (_::_:: .blk b3 (.cells (iM e1) 37 (0,0))::_))/\(s' 6=I k)/\(0<=k)/\(k<=8)/\(e1=ng (pe a b) a k)) (fun⟨k,e1⟩=>(8-k).toNat) ((0,a)) ⟨Fr.refl _ _,eX,rfl,J,J,(vX _ _).symm⟩<| ?_
 rintro⟨k,e1⟩ WR Eo ⟨nX,cg,wD,h0,hk,hr⟩
 obtain⟨xG,qb,Q5⟩:=nX.w3 2 3 4
 refine SR<|V (aN wD O)<|aa<|ai<|aG O (fun h12=> ?_) (fun h12=> ?_)
 .refine an<|ai<|aA<|SR<|aF wD<|aI rfl<|aa<|fX aQ cg (sP (sP (sQ sR)))<|fun BR cD=>have yB:=cD.sub (sP (sP (sQ sR)));AQ 0 O yB (mV (I _) O)<|AQ 1 O yB (a7 bI cQ xG O J)<|AQ 3 O yB (mV (I _) O)<|AQ 4 O yB (a7 bI cQ qb O J)<|tV 5 O yB dO 1 O O (jM _ J)<|A1 2<|cf O aC O cD (sP (sP (sQ sR))) (aE dO O O (cD.cell (i:=2) O (jM _ J)))<|AQ 6 O yB (mh O O)<|AQ 7 O yB (a7 bI cQ xG O J)<|A1 8<|dW O aC cD (j:=2) O (sP (sP (sQ sR))) (bK O O (v:=U _) O O O (cD.blk (i:=2) O) yb)<|fun Q2 cP=> ?_
  rw[oa]at cP
  refine AD<|au<|V (ax wD O J)<|mI rfl<|aa<| ?_
  refine⟨(k+1,_),aX,nX.u4.u4.u4.u1,cP,(aK I aM),J,J,?_⟩
  exact ahs hr h0
 refine a8 (id:=0) rfl<|SR<|V (cN bI O O xG (cg.blk (i:=2) O))<|bg cg (i:=0) O (cR O Q5 O (cg.blk (i:=0) O))<|fun N4 cK=>aa<|aj<|qJ O Q5 cK (i:=0) O bI O jJ ⟨?_,cK.below⟩
 (exact aK Value.agg (mo LU))
theorem TL(s:kW)(fi:FuncId)(gg:Fc->BitVec 64)(w:World)(hs:lm (Kw w) s)(hf:∀args w,(callFunc fi args).run Tryz.prog w= .ok (.enter fi args) w)(go:∀f w',wU (Kw w') f->pc w'->Calls Tryz.prog fi #[.agg (uY f)] w' (Pure (U (gg f.fc)) w'))(hT:pc w):Calls Tryz.prog 99 #[.agg (qW s),.func (.func fi) #[] #[]] w (Pure (.agg (iM (gI s.sh gg))) w):=by
 have hsl:=pB s
 have hm:=hs.a6.sl.small
 unfold maxLen at hm
 refine eH func99 rfl rfl fun hH=>SR<|gO hH (v:= .agg _) rfl<|fun b3 w1 bq=>lN bq (aT fg)<|fun b6 w4 bY=>aa<|SR<|lN bY (aT fg)<|fun b9 w7 eX=>aa<|ai<|SR<|V (cC (cs:=[B _,_]) dw O O O (bj (eX.blk (i:=2) O)))<|aH O eX (yA _ _ (hs.mono eX.kw) (hT.hp eX)) (ay call50 O)<|fun Eo dr=>aa<|bX O (fun TB=> ?_) (fun TB=> ?_)
 .refine SR<|V (fA dw 1 O jC O)<|lV di dr 2 O O rfl<|V (aD (hs.a6.sl.hp dr) O di O)<|aF (v:=I 0) rfl<|aa<|aA<|have hln:=(n9 ‹mJ s.sh=true›).1;bt (G:=Int×El) (fun⟨k,e1⟩ s' w'=>(Fr (6::7::(rg 13 11 [])) _ s')/\(Hp w w' (.blk b9 (.cells (iM e1) 37 (0,0))::_))/\(s' 13=I k)/\(0<=k)/\(k<=s.a6.length)/\(e1=ng (gI s.sh gg) df k)) (fun⟨k,e1⟩=>(s.a6.length-k).toNat) ((0,df)) ⟨Fr.refl _ _,dr,rfl,J,J,(vX _ _).symm⟩<| ?_
  rintro⟨k,e1⟩ aaf Q1 ⟨mW,cD,TM,h0,hk,hr⟩
  have N3:=mW.vv 1 (a:= .func _ _ _) rfl rfl
  obtain⟨ES,xH,N6,atY⟩:=mW.w4 4 5 11 12
  refine SR<|V (aN TM atY)<|aa<|ai<|aG O (fun yt=> ?_) (fun yt=> ?_)
  .refine an<|ai<|aA<|SR<|aF TM<|V (ah (hs.a6.sl.hp cD) di qn N6 TM J)<|V (dY (dv:=iB) fC (hs.a6.sl.hp cD) dx O O O J)<|lN cD (aT uf)<|fun b19 TC dQ=>aI rfl<|bg dQ (i:=0) O (sU (hs.at J J) O O O (dQ.blk (i:=0) O))<|fun w20 fK=>aa<|au<|mI rfl<|aF N3<|V (yT dx O O O (fK.blk (i:=0) O))<|aH O fK (go _ _ ((hs.at J J).mono fK.kw) (hT.hp fK)) (lH hf (cs:=[]) O O)<|fun TD eP=>V (a7 bI cQ xH O J)<|bg eP (i:=1) O (bK O O (v:=U _) O O O (eP.blk (i:=1) O) yb)<|fun w24 om=> ?_
   rw[oa]at om
   refine aa<|au<|V (ax TM O J)<|mI rfl<|aa<| ?_
   refine⟨(k+1,_),aX,mW.u4.u4.u4.u1,(om.sub (sQ sR)),(aK I aM),J,J,?_⟩
   (have hp:=CL ‹mJ s.sh=true› hr h0 (show k<s.sh.a6.length by omega);rw[iE]at hp;exact hp)
  refine a8 (id:=0) rfl<|SR<|V (cN bI O O xH (cD.blk (i:=0) O))<|bg cD (i:=1) O (cR O ES O (cD.blk (i:=1) O))<|fun Uq dG=>aa<|aj<|qJ O ES dG (i:=1) O bI O jJ ⟨?_,dG.below⟩
  exact aK Value.agg (mo (by rw[hr];exact Vg J))
 refine an<|SR<|V (cN bI O O O (dr.blk (i:=0) O))<|bg dr (i:=1) O (cR O O O (dr.blk (i:=1) O))<|fun w28 gE=>aa<|aj<|qJ O O gE (i:=1) O bI O jJ ⟨?_,gE.below⟩
 exact aK Value.agg (mo (abw aR))
theorem PA(f:qI)(w:World)(hf:wU (Kw w) f)(hT:pc w):Calls Tryz.prog 100 #[.agg (uY f)] w (Pure (U (ez f.fc)) w):=by
 refine eH func100 rfl rfl fun hH=>SR<|gO hH (v:= .agg _) rfl<|fun b3 w1 bq=>va (v:=U 0#64) rfl<|aa<|ai<|SR<|V (fA dx 0 O aP O)<|lI bx bq 0 O O rfl<|V (kL O O)<|aa<|aG O (fun h5=> ?_) (fun h5=> ?_)
 .refine SR<|va (v:=U 0#64) rfl<|aa<|aj<|oU O ?_ bq
  exact(aY (show f.fc.kind≠4 from aR)).symm
 refine an<|SR<|V (fA dx 2 O iV O)<|V (iT bS O O O (bq.blk (i:=0) O))<|aH O bq (Oi _ _ (hT.hp bq)) (ay call143 O)<|fun w6 eE=> ?_
 refine V (run_move bz) ?_
 refine V (bk O (v:=I _) O)<|V (bk O (v:=B _) O)<|aI rfl<|aB rfl<|aa<|SR<|V (fA dx 2 O iV O)<|V (iT bS O O O (eE.blk (i:=0) O))<|mI rfl<|aH O eE (o3 _ _ _ (hT.hp eE)) (aL H9 O O)<|fun w9 cg=>aU rfl<|aa<|aj<|oU O ?_ cg
 exact(aW (show¬f.fc.kind≠4 from aR)).symm
theorem wG(s:kW)(w:World)(hs:lm (Kw w) s)(hT:pc w):Calls Tryz.prog 53 #[.agg (qW s)] w (Pure (.agg (iM (gI s.sh ez))) w):=by
 refine eH func53 rfl rfl fun hH=>SR<|gO hH (v:= .agg _) rfl<|fun b3 w1 bq=>lN bq (aT fg)<|fun b6 w4 bY=>aa<|SR<|V (cC (cs:=[B _,_]) dw O O O (bj (bY.blk (i:=1) O)))<|aH O bY (TL s 100 ez _ (hs.mono bY.kw) call100 (fun f w h ht=>PA f w h ht) (hT.hp bY)) (aL call99 O O)<|fun w7 eX=>bg eX (i:=0) O (cR O O O (eX.blk (i:=0) O))<|fun w9 cg=>aa<|aj<|qJ O O cg (i:=0) O bI O jJ ⟨?_,cg.below⟩
 rfl
theorem qU(f:qI)(w:World)(hf:wU (Kw w) f):Calls Tryz.prog 112 #[.agg (uY f)] w (Pure (B (cZ f.fc)) w):=by
 have hm:=hf.names.sl.small
 unfold maxLen at hm
 refine eH func112 rfl rfl fun hH=>SR<|gO hH (v:= .agg _) rfl<|fun b3 w1 bq=>va (v:=B false) rfl<|aa<|SR<|V (fA dx 1 O pw O)<|lV dZ bq 0 O O rfl<|V (aD (hf.names.sl.hp bq) O dZ O)<|aI rfl<|aa<|ai<|SR<|mI rfl<|V (aN O O)<|mB rfl<|bM 10 O (fun h5=> ?_) (fun h5=> ?_)
 .refine aF (v:=B true) rfl<|mB rfl<|cF O rfl<|aF (v:=B true) rfl<|aa<|cz rfl<|SR<|va (v:=B false) rfl<|aa<|aj<|oB O ?_ bq
  exact(MQ (f:=f.fc) (DX afX)).symm
 refine mI rfl<|V (dP O O)<|mB rfl<|mB rfl<|bM 14 O (fun h7=> ?_) (fun h7=> ?_)
 .refine aF (v:=B true) rfl<|aa<|cz rfl<|SR<|va (v:=B false) rfl<|aa<|aj<|oB O ?_ bq
  exact(MQ (f:=f.fc) (DX afX)).symm
 refine V (fA dx 1 O pw O)<|lV dZ bq 0 O O rfl<|aH O bq (j9 _ _ _ (hf.names.sl.hp bq)) (ay call75 O)<|fun w8 iD=>V (dF O O)<|mB rfl<|aa<|aG O (fun h11=> ?_) (fun h11=> ?_)
 .refine SR<|va (v:=B false) rfl<|aa<|aj<|oB O ?_ iD
  exact(MQ (f:=f.fc) (P3 (by show¬yR f.names<0;omega))).symm
 refine an<|ai<|SR<|va (v:=I 0) rfl<|aa<|aA<|have hn1:1<=f.names.length/\f.names.length<=64:=J;have Qq:yR f.names<0:=J;bt (G:=Int) (fun k s' w'=>(Fr (2::(4::(rg 20 12 []))) _ s')/\(Hp w w' _)/\(s' 4=I k)/\(0<=k)/\(k<=f.names.length)/\(∀j:Int,0<=j->j<k->iR (f.names.getD j.toNat qt)=true)) (fun k=>(f.names.length-k).toNat) (0) ⟨Fr.refl _ _,iD,rfl,J,J,fun j a b=>absurd b J⟩<| ?_
 rintro k aal zl ⟨my,cM,uj,h0,hk,hg⟩
 obtain⟨po,kU⟩:=my.w2 1 3
 refine ai<|SR<|aF uj<|aF kU<|V (aN O O)<|aa<|aG O (fun Gl=> ?_) (fun Gl=> ?_)
 .refine an<|ai<|aA<|SR<|V (fA dx 1 O pw po)<|lV dZ cM 0 O O rfl<|aF uj<|V (ah (hf.names.sl.hp cM) dZ kC O O J)<|V (aE iz O O ((hf.names.sl.hp cM).cell _ _ (CH J)))<|aH O cM (iK _ _) (ay call74 O)<|fun Tz cH=>V (bJ O)<|aa<|bX O (fun Ob=> ?_) (fun Ob=> ?_)
  .refine SR<|va (v:=B false) rfl<|aa<|aj<|oB O ?_ cH
   exact(MQ (f:=f.fc) (P4 h0 aR (nt aR))).symm
  refine an<|au<|aF uj<|V (ax O O J)<|aI rfl<|aa<| ?_
  refine⟨k+1,aX,my.u4.u4.u4.u1,cH,(aK I aM),J,J,?_⟩
  exact fun j a b=>if e:j=k then e▸nf ‹_›else hg j a J
 refine a8 (id:=0) rfl<|ai<|SR<|V (fA dx 0 O aP po)<|lI bx cM 0 O O rfl<|V (bW O O)<|mB rfl<|bM 35 O (fun Pt=> ?_) (fun Pt=> ?_)
 .refine aF (v:=B true) rfl<|aa<|cz rfl<|SR<|V (fA dx 2 O iV po)<|V (iT bS O O O (cM.blk (i:=0) O))<|aH O cM (bN _ _) (ay nR O)<|fun TD eP=>V (bW O O)<|aB rfl<|aa<|aj<|oB O ?_ eP
  (have hny:iv f.names=true:=qH hn1 Qq ‹¬k<_› hg;exact(Y6 (f:=f.fc) hny (.inl aR)).symm)
 refine V (fA dx 0 O aP po)<|lI bx cM 0 O O rfl<|V (bW O O)<|mB rfl<|aa<|aG O (fun WJ=> ?_) (fun WJ=> ?_)
 .refine SR<|V (fA dx 2 O iV po)<|V (iT bS O O O (cM.blk (i:=0) O))<|aH O cM (bN _ _) (ay nR O)<|fun w27 iJ=>V (bW O O)<|aB rfl<|aa<|aj<|oB O ?_ iJ
  (have hny:iv f.names=true:=qH hn1 Qq ‹¬k<_› hg;exact(Y6 (f:=f.fc) hny (.inr aR)).symm)
 refine an<|ai<|SR<|V (fA dx 0 O aP po)<|lI bx cM 0 O O rfl<|V (bW O O)<|aa<|aG O (fun h31=> ?_) (fun h31=> ?_)
 .refine SR<|V (fA dx 2 O iV po)<|V (fA bS 0 O aP O)<|lI bx cM 0 O O rfl<|aF kU<|V (bW O O)<|mB rfl<|bM 52 O (fun h33=> ?_) (fun h33=> ?_)
  .refine V (fA dx 2 O iV po)<|V (iT bS O O O (cM.blk (i:=0) O))<|aH O cM (mY _ _) (ay call146 O)<|fun w34 zo=>mB rfl<|aB rfl<|aa<|aj<|oB O ?_ zo
   (have hny:iv f.names=true:=qH hn1 Qq ‹¬k<_› hg;exact(ahq (f:=f.fc) hny aR aR).symm)
  refine aF (v:=B false) rfl<|aB rfl<|aa<|aj<|oB O ?_ cM
  (have hny:iv f.names=true:=qH hn1 Qq ‹¬k<_› hg;exact(aho (f:=f.fc) aR aR).symm)
 refine an<|SR<|V (fA dx 0 O aP po)<|lI bx cM 0 O O rfl<|V (bW O O)<|mB rfl<|bM 60 O (fun h38=> ?_) (fun h38=> ?_)
 .refine V (fA dx 2 O iV po)<|V (fA bS 0 O aP O)<|lI bx cM 0 O O rfl<|aF kU<|V (bW O O)<|mB rfl<|mB rfl<|bM 67 O (fun h40=> ?_) (fun h40=> ?_)
  .refine V (fA dx 2 O iV po)<|V (iT bS O O O (cM.blk (i:=0) O))<|aH O cM (yy _ _) (ay call151 O)<|fun w41 q5=>mB rfl<|aB rfl<|aa<|aj<|oB O ?_ q5
   (have hny:iv f.names=true:=qH hn1 Qq ‹¬k<_› hg;exact(ahr (f:=f.fc) hny aR aR).symm)
  refine aF (v:=B false) rfl<|aB rfl<|aa<|aj<|oB O ?_ cM
  (have hny:iv f.names=true:=qH hn1 Qq ‹¬k<_› hg;exact(ahp (f:=f.fc) aR aR).symm)
 refine aF (v:=B false) rfl<|mB rfl<|cF O rfl<|aF (v:=B false) rfl<|aB rfl<|aa<|aj<|oB O ?_ cM
 (have hny:iv f.names=true:=qH hn1 Qq ‹¬k<_› hg;exact(aps (f:=f.fc) aR aR aR aR).symm)
theorem mZ(s:kW)(w:World)(hs:lm (Kw w) s):Calls Tryz.prog 73 #[.agg (qW s)] w (Pure (B (mJ s.sh)) w):=by
 have hsl:=pB s
 have hm:=hs.a6.sl.small
 unfold maxLen at hm
 refine eH func73 rfl rfl fun hH=>SR<|gO hH (v:= .agg _) rfl<|fun b3 w1 bq=>va (v:=B false) rfl<|aa<|ai<|SR<|V (fA dw 1 O jC O)<|lV di bq 0 O O rfl<|V (aD (hs.a6.sl.hp bq) O di O)<|V (aN O O)<|mB rfl<|bM 8 O (fun h5=> ?_) (fun h5=> ?_)
 .refine aF (v:=B true) rfl<|mB rfl<|cF O rfl<|gp O O rfl<|gp O O rfl<|gp O O rfl<|gp O O rfl<|Ab<|aF (v:=B true) rfl<|aa<|cz rfl<|SR<|va (v:=B false) rfl<|aa<|aj<|oB O ?_ bq
  exact(KY J).symm
 refine V (fA dw 1 O jC O)<|lV di bq 0 O O rfl<|V (aD (hs.a6.sl.hp bq) O di O)<|V (dP O O)<|mB rfl<|mB rfl<|bM 14 O (fun h7=> ?_) (fun h7=> ?_)
 .refine gp O O rfl<|gp O O rfl<|gp O O rfl<|gp O O rfl<|Ab<|aF (v:=B true) rfl<|aa<|cz rfl<|SR<|va (v:=B false) rfl<|aa<|aj<|oB O ?_ bq
  exact(KY J).symm
 refine V (fA dw 0 O oy O)<|V (aE xY O O (bq.cell (i:=0) O (v:=B _) O))<|V (bJ O)<|mB rfl<|eK 18 O (fun h10=> ?_) (fun h10=> ?_)
 .refine V (fA dw 1 O jC O)<|lV di bq 0 O O rfl<|V (aD (hs.a6.sl.hp bq) O di O)<|V (kL O O)<|mB rfl<|mB rfl<|aa<|aG O (fun h12=> ?_) (fun h12=> ?_)
  .refine SR<|va (v:=B false) rfl<|aa<|aj<|oB O ?_ bq
   exact(abq (by exact nt aR) J).symm
  refine an<|ai<|SR<|va (v:=I 0) rfl<|aa<|aA<|have hc2:s.sh.tuple=true\/s.sh.a6.length=1:=(by exact .inr J);have Zh:1<=s.a6.length/\s.a6.length<=8:=J;bt (G:=Int) (fun k s' w'=>(Fr (2::3::(rg 25 14 [])) _ s')/\(Hp w w' _)/\(s' 3=I k)/\(0<=k)/\(k<=s.a6.length)/\(∀j:Int,0<=j->j<k->cZ (s.a6.getD j.toNat iB).fc=true)) (fun k=>(s.a6.length-k).toNat) (0) ⟨Fr.refl _ _,bq,rfl,J,J,fun j a b=>absurd b J⟩<| ?_
  rintro k WL BR ⟨pJ,bV,xE,h0,hk,hg⟩
  have Dc:=pJ.w1 1
  refine ai<|SR<|aF xE<|V (fA dw 1 O jC Dc)<|lV di bV 0 O O rfl<|V (aD (hs.a6.sl.hp bV) O di O)<|V (aN O O)<|aa<|aG O (fun Db=> ?_) (fun Db=> ?_)
  .refine an<|ai<|aA<|SR<|V (fA dw 1 O jC Dc)<|lV di bV 0 O O rfl<|aF xE<|V (ah (hs.a6.sl.hp bV) di qn O O J)<|V (dY (dv:=iB) fC (hs.a6.sl.hp bV) dx O O O J)<|aH O bV (qU _ _ ((hs.at J J).mono bV.kw)) (ay call112 O)<|fun Jg er=>V (bJ O)<|aa<|bX O (fun O7=> ?_) (fun O7=> ?_)
   .refine SR<|va (v:=B false) rfl<|aa<|aj<|oB O ?_ er
    exact(KZ (k:=k) h0 J Ic).symm
   refine an<|au<|aF xE<|V (ax O O J)<|aI rfl<|aa<| ?_
   refine⟨k+1,aX,pJ.u4.u4.u4.u1.u1.u1,er,(aK I aM),J,J,?_⟩
   exact fun j a b=>if e:j=k then e▸nf ‹_›else hg j a J
  refine a8 (id:=0) rfl<|SR<|va (v:=B true) rfl<|aa<|aj<|oB O ?_ bV
  exact(K0 (k:=k) J hc2 J fun j a b=>by rw[iE];exact hg j a b).symm
 refine aF (v:=B false) rfl<|mB rfl<|aa<|cT rfl<|an<|ai<|SR<|va (v:=I 0) rfl<|aa<|aA<|have hc2:s.sh.tuple=true\/s.sh.a6.length=1:=(by exact .inl (nf ‹(!s.tuple)=false›));have Zh:1<=s.a6.length/\s.a6.length<=8:=J;bt (G:=Int) (fun k s' w'=>(Fr (2::3::(rg 25 14 [])) _ s')/\(Hp w w' _)/\(s' 3=I k)/\(0<=k)/\(k<=s.a6.length)/\(∀j:Int,0<=j->j<k->cZ (s.a6.getD j.toNat iB).fc=true)) (fun k=>(s.a6.length-k).toNat) (0) ⟨Fr.refl _ _,bq,rfl,J,J,fun j a b=>absurd b J⟩<| ?_
 rintro k aFd N4 ⟨aeW,fK,N7,h0,hk,hg⟩
 have aqA:=aeW.w1 1
 refine ai<|SR<|aF N7<|V (fA dw 1 O jC aqA)<|lV di fK 0 O O rfl<|V (aD (hs.a6.sl.hp fK) O di O)<|V (aN O O)<|aa<|aG O (fun F6=> ?_) (fun F6=> ?_)
 .refine an<|ai<|aA<|SR<|V (fA dw 1 O jC aqA)<|lV di fK 0 O O rfl<|aF N7<|V (ah (hs.a6.sl.hp fK) di qn O O J)<|V (dY (dv:=iB) fC (hs.a6.sl.hp fK) dx O O O J)<|aH O fK (qU _ _ ((hs.at J J).mono fK.kw)) (ay call112 O)<|fun w24 om=>V (bJ O)<|aa<|bX O (fun WN=> ?_) (fun WN=> ?_)
  .refine SR<|va (v:=B false) rfl<|aa<|aj<|oB O ?_ om
   exact(KZ (k:=k) h0 J Ic).symm
  refine an<|au<|aF N7<|V (ax O O J)<|aI rfl<|aa<| ?_
  refine⟨k+1,aX,aeW.u4.u4.u4.u1.u1.u1,om,(aK I aM),J,J,?_⟩
  exact fun j a b=>if e:j=k then e▸nf ‹_›else hg j a J
 refine a8 (id:=0) rfl<|SR<|va (v:=B true) rfl<|aa<|aj<|oB O ?_ fK
 exact(K0 (k:=k) J hc2 J fun j a b=>by rw[iE];exact hg j a b).symm
theorem BX(f:qI)(s:BitVec 64)(hfr:cZ f.fc=true)(w:World)(hf:wU (Kw w) f):Calls Tryz.prog 115 #[.agg (uY f),U s] w (Pure (B (kG f.fc s)) w):=by
 have hm:=hf.names.sl.small
 unfold maxLen at hm
 refine eH func115 rfl rfl fun hH=>SR<|gO hH (v:= .agg _) rfl<|fun b3 w1 bq=>va (v:=B false) rfl<|aa<|ai<|SR<|V (fA dx 0 O aP O)<|lI bx bq 0 O O rfl<|V (bW O O)<|aa<|aG O (fun h5=> ?_) (fun h5=> ?_)
 .refine SR<|V (fA dx 1 O pw O)<|lV dZ bq 0 O O rfl<|V (aD (hf.names.sl.hp bq) O dZ O)<|mU rfl<|aH O bq (AL _ _ _) (aL call152 O O)<|fun w6 eE=> ?_
  refine V (run_move bz) ?_
  refine V (bk O (v:=I _) O)<|V (bk O (v:=B _) O)<|aI rfl<|aB rfl<|aa<|SR<|mB rfl<|aB rfl<|aa<|aj<|oB O ?_ eE
  exact(P5 (f:=f.fc) aR s).symm
 refine an<|ai<|SR<|V (fA dx 0 O aP O)<|lI bx bq 0 O O rfl<|V (bW O O)<|aa<|aG O (fun h10=> ?_) (fun h10=> ?_)
 .refine SR<|mU rfl<|V (fA dx 1 O pw O)<|lV dZ bq 0 O O rfl<|V (aD (hf.names.sl.hp bq) O dZ O)<|aH O bq (j7 _ _) (ay call119 O)<|fun Je cM=>aH O cM (uh _ _ _) (aL call55 O O)<|fun BR cD=>aB rfl<|aa<|aj<|oB O ?_ cD
  exact(P6 (f:=f.fc) aR s).symm
 refine an<|ai<|SR<|V (fA dx 0 O aP O)<|lI bx bq 0 O O rfl<|V (bW O O)<|aa<|aG O (fun Hu=> ?_) (fun Hu=> ?_)
 .refine SR<|V (fA dx 2 O iV O)<|V (iT bS O O O (bq.blk (i:=0) O))<|mU rfl<|aH O bq (A3 _ _ _) (aL call153 O O)<|fun Lf iC=>mU rfl<|V (jm O O)<|aB rfl<|aa<|aj<|oB O ?_ iC
  exact(asa (f:=f.fc) hfr aR s).symm
 refine an<|SR<|V (fA dx 2 O iV O)<|V (iT bS O O O (bq.blk (i:=0) O))<|mU rfl<|aH O bq (mX _ _ _) (aL call120 O O)<|fun N4 cK=> ?_
 refine V (run_move bz) ?_
 refine V (bk O (v:=I _) O)<|V (bk O (v:=B _) O)<|aI rfl<|aB rfl<|aa<|SR<|mB rfl<|aB rfl<|aa<|aj<|oB O ?_ cK
 exact(apt (f:=f.fc) aR aR aR s).symm
theorem nY(s:kW)(e:El)(w:World)(hs:lm (Kw w) s):Calls Tryz.prog 80 #[.agg (qW s),.agg (iM e)] w (Pure (B (cI s.sh e)) w):=by
 have hsl:=pB s
 have hm:=hs.a6.sl.small
 unfold maxLen at hm
 refine eH func80 rfl rfl fun hH=>SR<|gO hH (v:= .agg _) rfl<|fun b3 w1 bq=>gO bq (v:= .agg _) rfl<|fun b6 w4 bY=>va (v:=B false) rfl<|aa<|ai<|SR<|V (cC (cs:=[B _,_]) dw O O O (bj (bY.blk (i:=1) O)))<|aH O bY (mZ _ _ (hs.mono bY.kw)) (ay call73 O)<|fun w7 eX=>V (bJ O)<|aa<|bX O (fun h11=> ?_) (fun h11=> ?_)
 .refine SR<|va (v:=B false) rfl<|aa<|aj<|oB O ?_ eX
  exact(U7 (nt aR)).symm
 refine an<|ai<|SR<|va (v:=I 0) rfl<|aa<|aA<|have hr:mJ s.sh=true:=nf aR;bt (G:=Int) (fun k s' w'=>(Fr (4::5::(rg 9 34 [])) _ s')/\(Hp w w' _)/\(s' 5=I k)/\(0<=k)/\(k<=8)/\(EJ s.sh e k)) (fun k=>(8-k).toNat) (0) ⟨Fr.refl _ _,eX,rfl,J,J,EJ.none _ _⟩<| ?_
 rintro k aal zl ⟨my,cM,mL,h0,hk,hf⟩
 obtain⟨zq,kU⟩:=my.w2 2 3
 refine ai<|SR<|aF mL<|V (aN O O)<|aa<|aG O (fun Gl=> ?_) (fun Gl=> ?_)
 .refine an<|ai<|aA<|ai<|ew aQ cM<|fun Tz cH=>have uk:=cH;AQ 0 O uk (run_move mL)<|AQ 1 O uk (fA dw 1 O jC zq)<|tV 2 O uk di 1 O O rfl<|AT 3 O uk (fun w hS=>aD (hs.a6.sl.hp hS) O di O)<|AQ 4 O uk (aN O O)<|AQ 5 O uk (mV (B _) O)<|CC (dj:=18) O (fun p9=> ?_) (fun p9=> ?_)
  .refine BQ 6 O O (bT p9) cH (fA dw 1 O jC zq)<|AG 7 O O (bT p9) cH (fun w hS=>aE di O O (hS.cell (i:=1) O O))<|BQ 8 O O (bT p9) cH (run_move mL)<|AG 9 O O (bT p9) cH (fun w hS=>ah (hs.a6.sl.hp hS) di qn O O J)<|AG 10 O O (bT p9) cH (fun w hS=>dY (dv:=iB) fC (hs.a6.sl.hp hS) dx O O O J)<|BQ 11 O O (bT p9) cH (run_move mL)<|BQ 12 O O (bT p9) cH (a7 bI cQ kU O J)<|AG 13 O O (bT p9) cH (fun w hS=>aE dO O O (hS.cell (i:=0) O (jM _ J)))<|A1 14<|cm O (yM O (bT p9)) O cH sR (BX _ _ (by have hat:=PJ hr (k:=k) h0 J;rw[iE]at hat;exact hat) _ ((hs.at J J).mono cH.kw)) (aL call115 O O)<|fun Q2 cP=>BQ 15 O O (bT p9) cP (bJ O)<|have oo:=cP;AQ 16 O oo (gN (bT p9) (v:=B _) O)<|AQ 17 O oo (mV (B _) O)<|Ma (dj:=30) O (fun F6=> ?_) (fun F6=> ?_)
   .refine AK 18 O O (bR (c:=true) F6) cP<|AK 19 O O (bR (c:=true) F6) cP<|AK 20 O O (bR (c:=true) F6) cP<|AK 21 O O (bR (c:=true) F6) cP<|AK 22 O O (bR (c:=true) F6) cP<|AK 23 O O (bR (c:=true) F6) cP<|AU 24 O O O cP<|AU 25 O O O cP<|AU 26 O O O cP<|AU 27 O O O cP<|AK 28 O O (bR (c:=true) F6) cP<|AQ 29 O oo (gN (bR (c:=true) F6) (v:=B true) O)<|AD<|cz rfl<|SR<|va (v:=B false) rfl<|aa<|aj<|oB O ?_ cP
    exact(U8 h0 aR J Ic).symm
   refine BQ 18 O O (bR (c:=false) F6) cP (run_move mL)<|BQ 19 O O (bR (c:=false) F6) cP (fA dw 1 O jC zq)<|AG 20 O O (bR (c:=false) F6) cP (fun w hS=>aE di O O (hS.cell (i:=1) O O))<|AG 21 O O (bR (c:=false) F6) cP (fun w hS=>aD (hs.a6.sl.hp hS) O di O)<|BQ 22 O O (bR (c:=false) F6) cP (dF O O)<|BQ 23 O O (bR (c:=false) F6) cP (mV (B _) O)<|CC (dj:=36) O (fun Ji=> ?_) (fun Ji=> ?_)
   .refine BQ 24 O O (bT Ji) cP (run_move mL)<|BQ 25 O O (bT Ji) cP (a7 bI cQ kU O J)<|AG 26 O O (bT Ji) cP (fun w hS=>aE dO O O (hS.cell (i:=0) O (jM _ J)))<|BQ 27 O O (bT Ji) cP (vG O (b:=0#64) O)<|BQ 28 O O (bR (c:=false) F6) cP (gN (bT Ji) (v:=B _) O)<|AQ 29 O oo (dR (bR (c:=false) F6) (v:=B _) O)<|AD<|aG O (fun h27=> ?_) (fun h27=> ?_)
    .refine SR<|va (v:=B false) rfl<|aa<|aj<|oB O ?_ cP
     exact(MH h0 aR J aR).symm
    refine an<|au<|aF mL<|V (ax O O J)<|aI rfl<|aa<| ?_
    refine⟨k+1,aX,my.u4.u4.u4.u4.u4.u4.u4.u4.u1.u1.u1,cP,(aK I aM),J,J,?_⟩
    exact hf.next (fun h=>by exfalso;omega) (fun h=>by exact HQ aR)
   refine AK 24 O O (bF Ji) cP<|AK 25 O O (bF Ji) cP<|AK 26 O O (bF Ji) cP<|AK 27 O O (bF Ji) cP<|BQ 28 O O (bR (c:=false) F6) cP (dR (bF Ji) (v:=B false) O)<|AQ 29 O oo (dR (bR (c:=false) F6) (v:=B _) O)<|AD<|cT rfl<|an<|au<|aF mL<|V (ax O O J)<|aI rfl<|aa<| ?_
   refine⟨k+1,aX,my.u4.u4.u4.u4.u4.u4.u4.u4.u1.u1.u1,cP,(aK I aM),J,J,?_⟩
   exact hf.next (fun h=>by rw[iE];exact nf aR) (fun h=>by exfalso;omega)
  refine AK 6 O O (bF p9) cH<|AK 7 O O (bF p9) cH<|AK 8 O O (bF p9) cH<|AK 9 O O (bF p9) cH<|AK 10 O O (bF p9) cH<|AK 11 O O (bF p9) cH<|AK 12 O O (bF p9) cH<|AK 13 O O (bF p9) cH<|AK 14 O O (bF p9) cH<|AK 15 O O (bF p9) cH<|AQ 16 O uk (dR (bF p9) (v:=B false) O)<|AQ 17 O uk (mV (B _) O)<|BQ 18 O O O cH (run_move mL)<|BQ 19 O O O cH (fA dw 1 O jC zq)<|AG 20 O O O cH (fun w hS=>aE di O O (hS.cell (i:=1) O O))<|AG 21 O O O cH (fun w hS=>aD (hs.a6.sl.hp hS) O di O)<|BQ 22 O O O cH (dF O O)<|BQ 23 O O O cH (mV (B _) O)<|CC (dj:=36) O (fun rU=> ?_) (fun rU=> ?_)
  .refine BQ 24 O O (bT rU) cH (run_move mL)<|BQ 25 O O (bT rU) cH (a7 bI cQ kU O J)<|AG 26 O O (bT rU) cH (fun w hS=>aE dO O O (hS.cell (i:=0) O (jM _ J)))<|BQ 27 O O (bT rU) cH (vG O (b:=0#64) O)<|BQ 28 O O O cH (gN (bT rU) (v:=B _) O)<|AQ 29 O uk (dR O (v:=B _) O)<|AD<|aG O (fun h31=> ?_) (fun h31=> ?_)
   .refine SR<|va (v:=B false) rfl<|aa<|aj<|oB O ?_ cH
    exact(MH h0 aR J aR).symm
   refine an<|au<|aF mL<|V (ax O O J)<|aI rfl<|aa<| ?_
   refine⟨k+1,aX,my.u4.u4.u4.u4.u4.u4.u4.u4.u1.u1.u1,cH,(aK I aM),J,J,?_⟩
   exact hf.next (fun h=>by exfalso;omega) (fun h=>by exact HQ aR)
  refine AK 24 O O (bF rU) cH<|AK 25 O O (bF rU) cH<|AK 26 O O (bF rU) cH<|AK 27 O O (bF rU) cH<|BQ 28 O O O cH (dR (bF rU) (v:=B false) O)<|AQ 29 O uk (dR O (v:=B _) O)<|AD<|cT rfl<|an<|au<|aF mL<|V (ax O O J)<|aI rfl<|aa<| ?_
  refine⟨k+1,aX,my.u4.u4.u4.u4.u4.u4.u4.u4.u1.u1.u1,cH,(aK I aM),J,J,?_⟩
  exact hf.next (fun h=>by exfalso;omega) (fun h=>by exfalso;omega)
 refine a8 (id:=0) rfl<|SR<|va (v:=B true) rfl<|aa<|aj<|oB O ?_ cM
 exact(MI hr aR hf).symm
theorem lD(a b:El)(w:World):Calls Tryz.prog 22 #[.agg (iM a),.agg (iM b)] w (Pure (B (cS a b)) w):=by
 refine eH func22 rfl rfl fun hH=>SR<|gO hH (v:= .agg _) rfl<|fun b3 w1 bq=>gO bq (v:= .agg _) rfl<|fun b6 w4 bY=>va (v:=B false) rfl<|aa<|ai<|SR<|va (v:=I 0) rfl<|aa<|aA<|bt (G:=Int) (fun k s' w'=>(Fr (rg 4 14 []) _ s')/\(Hp w w' _)/\(s' 5=I k)/\(0<=k)/\(k<=8)/\(∀j:Int,0<=j->j<k->ep (a j.toNat) (b j.toNat)=true)) (fun k=>(8-k).toNat) (0) ⟨Fr.refl _ _,bY,rfl,J,J,fun j u v=>absurd v J⟩<| ?_
 rintro k sg7 w7 ⟨Ep,eE,aot,h0,hk,hf⟩
 obtain⟨aj8,WU⟩:=Ep.w2 2 3
 refine ai<|SR<|aF aot<|V (aN O O)<|aa<|aG O (fun h9=> ?_) (fun h9=> ?_)
 .refine an<|ai<|aA<|ai<|ew aQ eE<|fun Eo dr=>have iP:=dr;AQ 0 O iP (run_move aot)<|AQ 1 O iP (a7 bI cQ aj8 O J)<|tV 2 O iP dO 1 O O (jM _ J)<|AQ 3 O iP (run_move aot)<|AQ 4 O iP (a7 bI cQ WU O J)<|tV 5 O iP dO 0 O O (jM _ J)<|A1 6<|cm O aC O dr sR (uh _ _ _) (aL call55 O O)<|fun zl bV=>AQ 7 O bV (bJ O)<|AD<|bX O (fun yt=> ?_) (fun yt=> ?_)
  .refine SR<|va (v:=B false) rfl<|aa<|aj<|oB O ?_ bV
   exact(ahd h0 aR (nt aR)).symm
  refine an<|au<|aF aot<|V (ax O O J)<|aI rfl<|aa<| ?_
  refine⟨k+1,aX,Ep.u4.u4.u4.u1,bV,(aK I aM),J,J,?_⟩
  exact fun j u v=>if e:j=k then e▸nf ‹_›else hf j u J
 refine a8 (id:=0) rfl<|SR<|va (v:=B true) rfl<|aa<|aj<|oB O ?_ eE
 exact(abr aR hf).symm
theorem sC(s:kW)(a b:El)(w:World)(hs:lm (Kw w) s):Calls Tryz.prog 39 #[.agg (qW s),.agg (iM a),.agg (iM b)] w (Pure (.agg (iM (eo s.sh a b))) w):=by
 have hsl:=pB s
 have hm:=hs.a6.sl.small
 unfold maxLen at hm
 refine eH func39 rfl rfl fun hH=>SR<|gO hH (v:= .agg _) rfl<|fun b3 w1 bq=>gO bq (v:= .agg _) rfl<|fun b6 w4 bY=>gO bY (v:= .agg _) rfl<|fun b9 w7 eX=>lN eX (aT fg)<|fun b12 Eo dr=>aa<|SR<|lN dr (aT fg)<|fun b15 BR cD=>aa<|ai<|SR<|va (v:=I 0) rfl<|aa<|aA<|bt (G:=Int×El) (fun⟨k,e1⟩ s' w'=>(Fr (rg 8 43 []) _ s')/\(Hp w w' (.blk b15 (.cells (iM e1) 37 (0,0))::_))/\(s' 8=I k)/\(0<=k)/\(k<=8)/\(e1=ng (eo s.sh a b) df k)) (fun⟨k,e1⟩=>(8-k).toNat) ((0,df)) ⟨Fr.refl _ _,cD,rfl,J,J,(vX _ _).symm⟩<| ?_
 rintro⟨k,e1⟩ aar Jg ⟨nV,cH,qa,h0,hk,hr⟩
 obtain⟨oL,EW,zn,aqB,akc⟩:=nV.w5 3 4 5 6 7
 refine ai<|SR<|aF qa<|V (aN O O)<|aa<|aG O (fun p9=> ?_) (fun p9=> ?_)
 .refine an<|ai<|aA<|ai<|fX aQ cH (sQ sR)<|fun Q2 cP=>have oo:=cP.sub (sQ sR);AQ 0 O oo (run_move qa)<|AQ 1 O oo (run_move qa)<|AQ 2 O oo (a7 bI cQ EW O J)<|tV 3 O oo dO 2 O O (jM _ J)<|AQ 4 O oo (run_move qa)<|AQ 5 O oo (a7 bI cQ zn O J)<|tV 6 O oo dO 1 O O (jM _ J)<|AQ 7 O oo (iG O O)<|AQ 8 O oo (a7 bI cQ akc O J)<|A1 9<|dW O aC cP (j:=0) O (sQ sR) (bK O O (v:=U _) O O O (cP.blk (i:=0) O) yb)<|fun w23 gM=> ?_
  rw[oa]at gM
  refine AD<|SR<|aF qa<|V (fA dw 1 O jC oL)<|lV di gM 4 O O rfl<|V (aD (hs.a6.sl.hp gM) O di O)<|V (aN O O)<|mB rfl<|bM 27 O (fun WJ=> ?_) (fun WJ=> ?_)
  .refine V (fA dw 1 O jC oL)<|lV di gM 4 O O rfl<|aF qa<|V (ah (hs.a6.sl.hp gM) di qn O O J)<|V (fA dx 0 O aP O)<|V (gC (dv:=iB) fC (hs.a6.sl.hp gM) bx O O J O)<|V (bW O O)<|mB rfl<|aa<|aG O (fun WN=> ?_) (fun WN=> ?_)
   .refine fX aQ gM (sQ sR)<|fun w29 iU=>have Jm:=iU.sub (sQ sR);AQ 0 O Jm (run_move qa)<|AQ 1 O Jm (fA dw 1 O jC oL)<|tV 2 O Jm di 3 O O rfl<|AQ 3 O Jm (run_move qa)<|AT 4 O Jm (fun w hS=>ah (hs.a6.sl.hp hS) di qn O O J)<|AQ 5 O Jm (fA dx 2 O iV O)<|AT 6 O Jm (fun w hS=>Vc (hs.a6.sl.hp hS) bS O O O J)<|AQ 7 O Jm (run_move qa)<|AQ 8 O Jm (a7 bI cQ EW O J)<|tV 9 O Jm dO 2 O O (jM _ J)<|AQ 10 O Jm (run_move qa)<|AQ 11 O Jm (a7 bI cQ zn O J)<|tV 12 O Jm dO 1 O O (jM _ J)<|A1 13<|cm O aC O iU (sQ sR) (A0 _ _ _ _) (bA call83 O O O)<|fun w31 ij=>AQ 14 O (ij.sub (sQ sR)) (a7 bI cQ akc O J)<|A1 15<|dW O aC ij (j:=0) O (sQ sR) (bK O O (v:=U _) O O O (ij.blk (i:=0) O) yb)<|fun w35 j8=> ?_
    rw[oa]at j8
    refine AD<|au<|aF qa<|V (ax O O J)<|aI rfl<|aa<| ?_
    refine⟨(k+1,_),aX,nV.u4.u4.u4.u4.u4.u4.u4.u4.u4.u4.u1.u1.u1,j8,(aK I aM),J,J,?_⟩
    exact Y8 hr h0 aR aR
   refine an<|au<|aF qa<|V (ax O O J)<|aI rfl<|aa<| ?_
   refine⟨(k+1,_),aX,nV.u4.u4.u4.u4.u4.u4.u4,gM,(aK I aM),J,J,?_⟩
   exact MR hr h0 (fun hc=>absurd hc.1 J)
  refine aF (v:=B false) rfl<|aa<|cT rfl<|an<|au<|aF qa<|V (ax O O J)<|aI rfl<|aa<| ?_
  refine⟨(k+1,_),aX,nV.u4.u4.u4.u4.u4.u4.u4,gM,(aK I aM),J,J,?_⟩
  exact MR hr h0 (fun hc=>absurd hc.1 J)
 refine a8 (id:=0) rfl<|SR<|V (cN bI O O akc (cH.blk (i:=0) O))<|bg cH (i:=1) O (cR O aqB O (cH.blk (i:=1) O))<|fun w37 uG=>aa<|aj<|qJ O aqB uG (i:=1) O bI O jJ ⟨?_,uG.below⟩
 (exact aK Value.agg (mo LU))
theorem BY(a b:El)(w:World):Calls Tryz.prog 82 #[.agg (iM a),.agg (iM b)] w (Pure (.agg (iM (pe a b))) w):=by
 refine eH func82 rfl rfl fun hH=>SR<|gO hH (v:= .agg _) rfl<|fun b3 w1 bq=>gO bq (v:= .agg _) rfl<|fun b6 w4 bY=>lN bY (aT fg)<|fun b9 w7 eX=>aa<|SR<|lN eX (aT fg)<|fun b12 Eo dr=>aa<|ai<|SR<|va (v:=I 0) rfl<|aa<|aA<|bt (G:=Int×El) (fun⟨k,e1⟩ s' w'=>(Fr (rg 6 14 []) _ s')/\(Hp w w' (.blk b12 (.cells (iM e1) 37 (0,0))::_))/\(s' 6=I k)/\(0<=k)/\(k<=8)/\(e1=ng (pe a b) df k)) (fun⟨k,e1⟩=>(8-k).toNat) ((0,df)) ⟨Fr.refl _ _,dr,rfl,J,J,(vX _ _).symm⟩<| ?_
 rintro⟨k,e1⟩ WL BR ⟨pJ,bV,qS,h0,hk,hr⟩
 obtain⟨Oo,xE,wC,wF⟩:=pJ.w4 2 3 4 5
 refine ai<|SR<|aF qS<|V (aN O O)<|aa<|aG O (fun Db=> ?_) (fun Db=> ?_)
 .refine an<|ai<|aA<|fX aQ bV (sQ sR)<|fun Jg er=>have TN:=er.sub (sQ sR);AQ 0 O TN (run_move qS)<|AQ 1 O TN (run_move qS)<|AQ 2 O TN (a7 bI cQ Oo O J)<|tV 3 O TN dO 2 O O (jM _ J)<|AQ 4 O TN (run_move qS)<|AQ 5 O TN (a7 bI cQ xE O J)<|tV 6 O TN dO 1 O O (jM _ J)<|AQ 7 O TN (mh O O)<|AQ 8 O TN (a7 bI cQ wF O J)<|A1 9<|dW O aC er (j:=0) O (sQ sR) (bK O O (v:=U _) O O O (er.blk (i:=0) O) yb)<|fun w20 fK=> ?_
  rw[oa]at fK
  refine AD<|au<|aF qS<|V (ax O O J)<|aI rfl<|aa<| ?_
  refine⟨(k+1,_),aX,pJ.u4.u4.u4.u1.u1,fK,(aK I aM),J,J,?_⟩
  exact adV hr h0
 refine a8 (id:=0) rfl<|SR<|V (cN bI O O wF (bV.blk (i:=0) O))<|bg bV (i:=1) O (cR O wC O (bV.blk (i:=1) O))<|fun TD eP=>aa<|aj<|qJ O wC eP (i:=1) O bI O jJ ⟨?_,eP.below⟩
 (exact aK Value.agg (mo LU))
theorem Di(s:kW)(t:Bool)(w:World)(hs:lm (Kw w) s):Calls Tryz.prog 81 #[.agg (qW s),B t] w (Pure (.agg (iM (gI s.sh (IT t)))) w):=by
 have hsl:=pB s
 have hm:=hs.a6.sl.small
 unfold maxLen at hm
 refine eH func81 rfl rfl fun hH=>SR<|gO hH (v:= .agg _) rfl<|fun b4 w2 uo=>lN uo (aT fg)<|fun b7 w5 jQ=>aa<|SR<|lN jQ (aT fg)<|fun b10 w8 iD=>aa<|ai<|SR<|va (v:=I 0) rfl<|aa<|aA<|bt (G:=Int×El) (fun⟨k,e1⟩ s' w'=>(Fr (rg 6 67 []) _ s')/\(Hp w w' (.blk b10 (.cells (iM e1) 37 (0,0))::_))/\(s' 6=I k)/\(0<=k)/\(mJ s.sh=true->k<=s.a6.length)/\(mJ s.sh=true->e1=ng (gI s.sh (IT t)) df k)/\(mJ s.sh=false->e1=df)) (fun⟨k,e1⟩=>(9-k).toNat) ((0,df)) ⟨Fr.refl _ _,iD,rfl,J,(fun h=>J),(fun _=>(vX _ _).symm),fun _=>rfl⟩<| ?_
 rintro⟨k,e1⟩ ayl Je ⟨Kp,dr,Dj,h0,hk,hr,hz⟩
 obtain⟨EZ,WI,acF,Ho⟩:=Kp.w4 1 2 4 5
 refine ai<|SR<|V (cC (cs:=[B _,_]) dw O O WI (bj (dr.blk (i:=2) O)))<|aH O dr (mZ _ _ (hs.mono dr.kw)) (ay call73 O)<|fun zl bV=>mB rfl<|eK 13 O (fun Db=> ?_) (fun Db=> ?_)
 .refine aF Dj<|V (fA dw 1 O jC WI)<|lV di bV 2 O O rfl<|V (aD (hs.a6.sl.hp bV) O di O)<|V (aN O O)<|mB rfl<|aa<|aG O (fun Hu=> ?_) (fun Hu=> ?_)
  .refine an<|ai<|aA<|SR<|V (fA dw 1 O jC WI)<|lV di bV 2 O O rfl<|aF Dj<|V (ah (hs.a6.sl.hp bV) di qn O O J)<|V (dY (dv:=iB) fC (hs.a6.sl.hp bV) dx O O O J)<|lN bV (aT uf)<|fun b20 Lf iC=>bg iC (i:=0) O (sU (hs.at J J) O O O (iC.blk (i:=0) O))<|fun N4 cK=>aa<|SR<|V (fA dx 1 O pw O)<|lV dZ cK 0 O O rfl<|V (aD ((hs.at J J).names.sl.hp cK) O dZ O)<|aI rfl<|aa<|SR<|V (fA dx 0 O aP O)<|lI bx cK 0 O O rfl<|V (bW O O)<|aa<|aG O (fun yI=> ?_) (fun yI=> ?_)
   .refine SR<|V (fA dx 2 O iV O)<|V (iT bS O O O (cK.blk (i:=0) O))<|aF EZ<|aH O cK (Dd _ _ _) (aL call116 O O)<|fun w25 jy=> ?_
    refine V (run_move bz) ?_
    refine V (bk O (v:=I _) O)<|V (bk O (v:=B _) O)<|aI rfl<|aB rfl<|aa<|au<|aF Dj<|V (fA dx 2 O iV O)<|V (iT bS O O O (jy.blk (i:=0) O))<|mI rfl<|aH O jy (nW _ _ _) (aL call117 O O)<|fun w28 gE=>V (a7 bI cQ Ho O R5)<|bg gE (i:=1) O (bK O O (v:=U _) O O O (gE.blk (i:=1) O) RZ)<|fun w30 kZ=> ?_
    rw[oa]at kZ
    refine aa<|au<|aF Dj<|V (ax O O Uu)<|aI rfl<|aa<| ?_
    refine⟨(k+1,_),?_,Kp.u4.u4.u4.u4.u4.u4.u4.u4.u4.u4,(kZ.sub (sQ sR)),(aK I aM),J,?_,?_,?_⟩
    .have hln:=(n9 ‹mJ s.sh=true›).1;((try dsimp only);omega)
    .exact fun h=>by omega
    .exact fun _=>by((have hp:=CL (f:=IT t) ‹mJ s.sh=true› (hr aR) h0 (show k<s.sh.a6.length by omega);rw[iE,<-awU (t:=t) (show(s.a6.getD k.toNat iB).kind=4 from aR)]at hp;exact hp))
    exact fun h=>by rw[‹mJ s.sh=true›]at h;cases h
   refine SR<|aF EZ<|mB rfl<|eK 47 O (fun BZ=> ?_) (fun BZ=> ?_)
   .refine V (fA dx 0 O aP O)<|lI bx cK 0 O O rfl<|V (bW O O)<|mB rfl<|aa<|aG O (fun h34=> ?_) (fun h34=> ?_)
    .refine au<|aF Dj<|V (fA dx 2 O iV O)<|V (iT bS O O O (cK.blk (i:=0) O))<|aH O cK (Df _ _) (ay call118 O)<|fun w35 j8=>V (a7 bI cQ Ho O R5)<|bg j8 (i:=1) O (bK O O (v:=U _) O O O (j8.blk (i:=1) O) RZ)<|fun w37 uG=> ?_
     rw[oa]at uG
     refine aa<|au<|aF Dj<|V (ax O O Uu)<|aI rfl<|aa<| ?_
     refine⟨(k+1,_),?_,Kp.u4.u4.u4.u4.u4.u4.u4.u4.u4,(uG.sub (sQ sR)),(aK I aM),J,?_,?_,?_⟩
     .have hln:=(n9 ‹mJ s.sh=true›).1;((try dsimp only);omega)
     .exact fun h=>by omega
     .exact fun _=>by((have hp:=CL (f:=IT t) ‹mJ s.sh=true› (hr aR) h0 (show k<s.sh.a6.length by omega);rw[iE,<-awV ‹t=true› (show(s.a6.getD k.toNat iB).kind=3 from aR)]at hp;exact hp))
     exact fun h=>by rw[‹mJ s.sh=true›]at h;cases h
    refine SR<|aF EZ<|mB rfl<|cF O (bR (c:=true) BZ)<|V (fA dx 0 O aP O)<|lI bx cK 0 O O rfl<|V (bW O O)<|mB rfl<|aa<|aG O (fun h40=> ?_) (fun h40=> ?_)
    .refine au<|aF Dj<|mI rfl<|aH O cK (j7 _ _) (ay call119 O)<|fun w41 q5=>V (a7 bI cQ Ho O R5)<|bg q5 (i:=1) O (bK O O (v:=U _) O O O (q5.blk (i:=1) O) RZ)<|fun w43 pK=> ?_
     rw[oa]at pK
     refine aa<|au<|aF Dj<|V (ax O O Uu)<|aI rfl<|aa<| ?_
     refine⟨(k+1,_),?_,Kp.u4.u4.u4.u4.u4.u4.u4.u4.u4.u4.u1,(pK.sub (sQ sR)),(aK I aM),J,?_,?_,?_⟩
     .have hln:=(n9 ‹mJ s.sh=true›).1;((try dsimp only);omega)
     .exact fun h=>by omega
     .exact fun _=>by((have hp:=CL (f:=IT t) ‹mJ s.sh=true› (hr aR) h0 (show k<s.sh.a6.length by omega);rw[iE,<-awW ‹t=true› (show(s.a6.getD k.toNat iB).kind=2 from aR)]at hp;exact hp))
     exact fun h=>by rw[‹mJ s.sh=true›]at h;cases h
    refine SR<|aF EZ<|aa<|cz (bR (c:=true) BZ)<|au<|aF Dj<|mI rfl<|V (eS O O (by have afO:=PJ ‹mJ s.sh=true› h0 (show k<s.sh.a6.length by omega);rw[iE]at afO;have:=(pO afO).1;have:(s.a6.getD k.toNat iB).fc.names=(s.a6.getD k.toNat iB).names:=rfl;((simp only[qI.fc]at*;omega))))<|aH O cK (j7 _ _) (ay call119 O)<|fun w45 oq=>V (a7 bI cQ Ho O R5)<|bg oq (i:=1) O (bK O O (v:=U _) O O O (oq.blk (i:=1) O) RZ)<|fun w47 jR=> ?_
    rw[oa]at jR
    refine aa<|au<|aF Dj<|V (ax O O Uu)<|aI rfl<|aa<| ?_
    refine⟨(k+1,_),?_,Kp.u4.u4.u4.u4.u4.u4.u4.u4.u4.u4.u1.u1.u1,(jR.sub (sQ sR)),(aK I aM),J,?_,?_,?_⟩
    .have hln:=(n9 ‹mJ s.sh=true›).1;((try dsimp only);omega)
    .exact fun h=>by omega
    .exact fun _=>by((have hp:=CL (f:=IT t) ‹mJ s.sh=true› (hr aR) h0 (show k<s.sh.a6.length by omega);rw[iE,<-end_1 (by have hat:=PJ ‹mJ s.sh=true› (k:=k) h0 J;rw[iE]at hat;exact hat) ‹t=true› (show¬(s.a6.getD k.toNat iB).kind=2 from aR) (show¬(s.a6.getD k.toNat iB).kind=3 from aR) (show¬(s.a6.getD k.toNat iB).kind=4 from aR)]at hp;exact hp))
    exact fun h=>by rw[‹mJ s.sh=true›]at h;cases h
   refine aF (v:=B false) rfl<|aa<|cT rfl<|SR<|aF EZ<|mB rfl<|cF O (bR (c:=false) BZ)<|aF (v:=B false) rfl<|aa<|cT rfl<|SR<|aF EZ<|aa<|cT (bR (c:=false) BZ)<|an<|au<|aF Dj<|V (ax O O Uu)<|aI rfl<|aa<| ?_
   refine⟨(k+1,_),?_,Kp.u4.u4.u4.u4.u4.u4.u4.u4.u4.u1.u1,(cK.sub (sQ sR)),(aK I aM),J,?_,?_,?_⟩
   .have hln:=(n9 ‹mJ s.sh=true›).1;((try dsimp only);omega)
   .exact fun h=>by omega
   .exact fun _=>by(exact adU ‹mJ s.sh=true› (hr aR) h0 (show k<s.sh.a6.length by omega) (by rw[iE];exact awX aR (show¬(s.a6.getD k.toNat iB).kind=4 from aR)))
   exact fun h=>by rw[‹mJ s.sh=true›]at h;cases h
  refine a8 (id:=0) rfl<|SR<|V (cN bI O O Ho (bV.blk (i:=0) O))<|bg bV (i:=1) O (cR O acF O (bV.blk (i:=1) O))<|fun w49 eO=>aa<|aj<|qJ O acF eO (i:=1) O bI O jJ ⟨?_,eO.below⟩
  exact aK Value.agg (mo (by rw[hr aR];exact Vg (by have:=hk aR;omega)))
 refine aF (v:=B false) rfl<|aa<|cT rfl<|a8 (id:=0) rfl<|SR<|V (cN bI O O Ho (bV.blk (i:=0) O))<|bg bV (i:=1) O (cR O acF O (bV.blk (i:=1) O))<|fun w51 B0=>aa<|aj<|qJ O acF B0 (i:=1) O bI O jJ ⟨?_,B0.below⟩
 exact aK Value.agg (mo (by rw[hz aR];exact abw aR))
theorem Dk(s:kW)(w:World)(hs:lm (Kw w) s):Calls Tryz.prog 72 #[.agg (qW s)] w (Pure (B (Vh s.sh)) w):=by
 have hsl:=pB s
 have hm:=hs.a6.sl.small
 unfold maxLen at hm
 refine eH func72 rfl rfl fun hH=>SR<|gO hH (v:= .agg _) rfl<|fun b3 w1 bq=>va (v:=B false) rfl<|aa<|ai<|SR<|V (fA dw 1 O jC O)<|lV di bq 0 O O rfl<|V (aD (hs.a6.sl.hp bq) O di O)<|V (dP O O)<|aa<|aG O (fun h5=> ?_) (fun h5=> ?_)
 .refine SR<|va (v:=B true) rfl<|aa<|aj<|oB O ?_ bq
  exact(awY (s:=s.sh) J).symm
 refine an<|ai<|SR<|va (v:=I 0) rfl<|aa<|aA<|bt (G:=Int) (fun k s' w'=>(Fr (rg 2 4 (rg 10 30 [])) _ s')/\(Hp w w' _)/\(s' 3=I k)/\(0<=k)/\(k<=s.a6.length)/\(∀j:Int,0<=j->j<k->Pc (s.a6.getD j.toNat iB).names=false)) (fun k=>(s.a6.length-k).toNat) (0) ⟨Fr.refl _ _,bq,rfl,J,J,fun j a b=>absurd b J⟩<| ?_
 rintro k sg6 w6 ⟨QZ,jQ,aaA,h0,hk,hg⟩
 have Pk:=QZ.w1 1
 refine ai<|SR<|aF aaA<|V (fA dw 1 O jC Pk)<|lV di jQ 0 O O rfl<|V (aD (hs.a6.sl.hp jQ) O di O)<|V (aN O O)<|aa<|aG O (fun h8=> ?_) (fun h8=> ?_)
 .refine an<|ai<|aA<|SR<|V (fA dw 1 O jC Pk)<|lV di jQ 0 O O rfl<|aF aaA<|V (ah (hs.a6.sl.hp jQ) di qn O O J)<|V (dY (dv:=iB) fC (hs.a6.sl.hp jQ) dx O O O J)<|lN jQ (aT uf)<|fun b11 w9 cg=>bg cg (i:=0) O (sU (hs.at J J) O O O (cg.blk (i:=0) O))<|fun zl bV=>aa<|ai<|SR<|V (fA dx 1 O pw O)<|lV dZ bV 0 O O rfl<|V (aD ((hs.at J J).names.sl.hp bV) O dZ O)<|V (dP O O)<|aa<|aG O (fun Db=> ?_) (fun Db=> ?_)
  .refine SR<|va (v:=B true) rfl<|aa<|aj<|oB O ?_ bV
   exact(apu (s:=s.sh) (k:=k) h0 J (by rw[iE];(exact asb (by show 70<(s.a6.getD k.toNat iB).names.length;omega)))).symm
  refine an<|SR<|va (v:=I 0) rfl<|aa<|aA<|have hnb:(s.a6.getD k.toNat iB).names.length<=70:=J;bt (G:=Int) (fun i s' w'=>(Fr (2::(5::(rg 26 14 []))) _ s')/\(Hp w w' _)/\(s' 5=I i)/\(0<=i)/\(i<=(s.a6.getD k.toNat iB).names.length)/\(∀j:Int,0<=j->j<i->¬40<((s.a6.getD k.toNat iB).names.getD j.toNat qt).size)) (fun i=>((s.a6.getD k.toNat iB).names.length-i).toNat) (0) ⟨Fr.refl _ _,bV,rfl,J,J,fun j a b=>absurd b J⟩<| ?_
  rintro i aar Jg ⟨nV,cH,zn,i0,i1,hn⟩
  have EW:=nV.w1 4
  have oL:=nV.t1 3 aaA
  refine ai<|SR<|aF zn<|V (fA dx 1 O pw EW)<|lV dZ cH 0 O O rfl<|V (aD ((hs.at J J).names.sl.hp cH) O dZ O)<|V (aN O O)<|aa<|aG O (fun p9=> ?_) (fun p9=> ?_)
  .refine an<|ai<|aA<|SR<|V (fA dx 1 O pw EW)<|lV dZ cH 0 O O rfl<|aF zn<|V (ah ((hs.at J J).names.sl.hp cH) dZ kC O O J)<|V (aE iz O O (((hs.at J J).names.sl.hp cH).cell _ _ (CH J)))<|V (lG O iz O)<|V (dP O O)<|aa<|aG O (fun O7=> ?_) (fun O7=> ?_)
   .refine SR<|va (v:=B true) rfl<|aa<|aj<|oB O ?_ cH
    exact(apu (s:=s.sh) (k:=k) h0 J (by rw[iE];(exact asc i0 aR (by show 40<((s.a6.getD k.toNat iB).names.getD i.toNat qt).size;omega)))).symm
   refine an<|au<|aF zn<|V (ax O O J)<|aI rfl<|aa<| ?_
   refine⟨i+1,aX,nV.u4.u4.u4.u1.u1.u1,cH,(aK I aM),J,J,?_⟩
   exact fun j a b=>if e:j=i then e▸(by omega)else hn j a J
  refine a8 (id:=2) rfl<|au<|aF oL<|V (ax O O J)<|aI rfl<|aa<| ?_
  refine⟨k+1,aX,(((QZ.u4.u4.u4.u4).t nV O)).u4.u4,(cH.sub (sQ sR)),(aK I aM),J,J,?_⟩
  exact fun j a b=>if e:j=k then e▸amK J ‹¬i<_› hn else hg j a J
 refine a8 (id:=0) rfl<|SR<|va (v:=B false) rfl<|aa<|aj<|oB O ?_ jQ
 exact(asd (s:=s.sh) (k:=k) J J fun j a b=>by rw[iE];exact hg j a b).symm
theorem E0(K:Vu)(f:qI)(hn:f.names.length<=1000)(w:World)(hK:Le K (Kw w))(hf:wU K f):Calls Tryz.prog 94 #[.agg (uY f)] w (EI K (fun K' u=>∃f':qI,u= .agg (uY f')/\f'.fc=f.fc/\wU K' f') w):=by
 refine eH func94 rfl rfl fun hH=>SR<|gO hH (v:= .agg _) rfl<|fun b3 w1 bq=>lN bq (aT uf)<|fun b6 w4 bY=>aa<|SR<|ud 0 0 bY (tj dZ kC)<|fun b9 w7 eX=> ?_
 (try simp only[lC]at eX)
 have cg:=eX.sM 0 1 O az
 refine V (fA dx 1 O pw O)<|lV dZ cg 2 O O rfl<|gh O cg (i:=0) O ((hf.mono hK).names.sl.hp cg) O O dZ O O (size:=1) (bytes:=16) O O O az gZ J iA<|fun v11 zl bV=>V (fA dx 1 O pw O)<|have hone:=(aZ (bV.get (i:=0) O)).2;bg bV (i:=2) O (Za O O O (aZ (bV.get (i:=0) O)).1 hone (bV.blk (i:=2) O))<|fun Q1 gW=>aa<|SR<|V (yT dx O O O (gW.blk (i:=2) O))<|bg gW (i:=1) O (Y9 (adY hf hone) O O O (gW.blk (i:=1) O))<|fun Jg er=>aa<|aj<| ?_
 obtain⟨Zc,hz,hzv,-⟩:=er.SG K
 refine qJ O O er (i:=1) O dx O (by simp only[vz,fC];rfl) ⟨Zc,hz.sub (afN _ _),_,rfl,rfl,⟨?_⟩⟩
 simpa using hzv
theorem Bz(K:Vu)(v:Value)(l:List kW)(hl:l.length<=1000)(hfn:∀s∈l,s.a6.length<=1000)(hnn:∀s∈l,∀f∈s.a6,f.names.length<=1000)(w:World)(hK:Le K (Kw w))(hs:Sl w v 2 l.length (l.flatMap yj))(hv:Qb K l):Calls Tryz.prog 51 #[v] w (EI K (fun K' u=>∃p:kW,u= .agg (qW p)/\p.sh=⟨true,Bj l⟩/\lm K' p) w):=by
 refine eH func51 rfl rfl fun hH=>SR<|lN hH (aT Tryz.zeroValue56)<|fun b3 w1 bq=>aa<|SR<|V (dL (vs:=[(0,B true)]) O aab)<|lN bq (aT Tryz.zeroValue56)<|fun b6 w4 bY=>bg bY (i:=0) O (dK (c':=#[B true,.slice none 0 0]) O O O gZ (bY.blk (i:=0) O) O)<|fun w7 eX=>have iD:=eX.eI 88 67;aa<|ai<|SR<| ?_
 refine V (run_move bz) ?_
 refine V (aD (hs.hp iD) O RN O)<|aF (v:=I 0) rfl<|aa<|aA<|bt (G:=Int×Value×(List qI)×(List bu)) (fun⟨k,fv0,fs,Z⟩ s' w'=>(Fr (5::(7::(rg 11 20 []))) _ s')/\(Hp w w' (.row fv0 88 67 (fs.length) (fs.flatMap sS):: .blk b6 (.cells (#[B true,fv0]) 56 (0,0))::_::Z))/\(s' 11=I k)/\(0<=k)/\(k<=l.length)/\(fs.map qI.fc=Bj (l.take k.toNat))/\(tM (Kz K Z) fs)/\((fs.length:Int)<=1000*k)) (fun⟨k,fv0,fs,Z⟩=>(l.length-k).toNat) ((0,(.slice none 0 0:Value),[],[])) ⟨Fr.refl _ _,iD,rfl,J,J,rfl,tM.nil _,aJ⟩<| ?_
 rintro⟨k,fv0,fs,Z⟩ WR Eo ⟨nX,cg,aaB,h0,hk,hm,hF,hb⟩
 obtain⟨xG,qb,Ou,at2⟩:=nX.w4 2 3 9 10
 refine SR<|V (aN aaB at2)<|aa<|ai<|aG O (fun h12=> ?_) (fun h12=> ?_)
 .refine an<|ai<|aA<|SR<|V (ah (hs.hp cg) RN vE Ou aaB J)<|V (dY (dv:=Ed) MS (hs.hp cg) dw O O O J)<|lN cg (aT Tryz.zeroValue56)<|fun b15 BR cD=>bg cD (i:=0) O (DY ((hv.mono hK).at J J) O O O (cD.blk (i:=0) O) O)<|fun Jg er=>aa<|SR<|V (fA dw 1 O jC O)<|lV di er 0 O O rfl<|V (aD (((hv.mono hK).at J J).a6.sl.hp er) O di O)<|aF (v:=I 0) rfl<|aa<|aA<|have hfk:=hfn _ (lX (fG (d:=Ed) h0 ‹k<l.length›));bt (G:=Int×Value×(List qI)×(List bu)) (fun⟨i,fv1,gs,Z1⟩ s' w'=>(Fr (7::(rg 18 12 [])) _ s')/\(Hp w w' (_:: .row fv1 88 67 (gs.length) (gs.flatMap sS):: .blk b6 (.cells (#[B true,fv1]) 56 (0,0))::_::Z1))/\(s' 18=I i)/\(0<=i)/\(i<=(l.getD k.toNat Ed).a6.length)/\(gs.map qI.fc=fs.map qI.fc++((l.getD k.toNat Ed).a6.take i.toNat).map qI.fc)/\(tM (Kz K Z1) gs)/\((gs.length:Int)=fs.length+i)) (fun⟨i,fv1,gs,Z1⟩=>((l.getD k.toNat Ed).a6.length-i).toNat) ((0,(fv0:Value),fs,Z)) ⟨Fr.refl _ _,er,rfl,J,J,aJ,hF,aJ⟩<| ?_
  rintro⟨i,fv1,gs,Z1⟩ aop Lf ⟨r8,dQ,Ov,i0,ik,BA,hF1,hb1⟩
  obtain⟨at3,at4⟩:=r8.w2 16 17
  obtain⟨N5,at5⟩:=r8.t2 3 qb 11 aaB
  refine SR<|V (aN Ov at4)<|aa<|ai<|aG O (fun O7=> ?_) (fun O7=> ?_)
  .refine an<|ai<|aA<|SR<|V (ah (((hv.mono hK).at J J).a6.sl.hp dQ) di qn at3 Ov J)<|V (dY (dv:=iB) fC (((hv.mono hK).at J J).a6.sl.hp dQ) dx O O O J)<|lN dQ (aT uf)<|fun b23 N4 cK=>bg cK (i:=0) O (sU (((hv.mono hK).at J J).at J J) O O O (cK.blk (i:=0) O))<|fun w24 om=>aa<|fX aQ om (sP (sP (sQ (sQ sR))))<|fun Uq dG=>AQ 0 O (dG.sub (sP (sP (sQ (sQ sR))))) (fA dw 1 O jC N5)<|AT 2 O (dG.sub (sP (sP (sQ (sQ sR))))) (fun w hS=>yT dx O O O (hS.blk (i:=0) O))<|gj 1 3 aQ ?_ ?_
   .refine cf O aC O dG (sP (sP (sQ (sQ sR)))) (aE di O O (dG.cell (i:=3) O O))<|A1 3<|SH O aC O dG (sP (sP (sQ (sQ sR)))) (E0 K ((l.getD k.toNat Ed).a6.getD i.toNat iB) (hnn _ (lX (fG (d:=Ed) h0 ‹k<l.length›)) _ (lX (fG (d:=iB) i0 aR))) _ (hK.trans dG.kw) ((hv.at h0 aR).at i0 aR)) (ay call94 O)<|fun v32 w33 Z35 kr aFl=>have uF:Hp _ w33 (_::_::_::_::_::(Z35++Z1)):=kr.Gh (L:=[_,_,_,_,_]) (L':=Z1);?_
    obtain⟨f38,rfl,ayC,aqE⟩:=aFl
    refine A1 4<|cB O aC O uF (sP (sP (sQ (sQ (sP (sA sR)))))) (f:=fun b=> .slice (some ⟨b,0,none⟩) 1 1) (Aj di O O O (l:=[_]) O az az O)<|fun b43 w41 q5=>A1 5<|fB O aC O q5 (j:=3) O (fun _=>(sQ (sP (sP (sQ (sQ (sP (sA sR)))))))) (Hp.gR fC q5 (i:=0) (l:=[_]) O fT) O O di O O (size:=67) (bytes:=552) O O O az (MT aqE) YC Yx<|fun v46 w44 r9=>AQ 6 O (r9.sub (sQ (sP (sP (sQ (sQ (sP (sA sR)))))))) (fA dw 1 O jC N5)<|A1 7<|dW O aC r9 (j:=4) O (sQ (sP (sP (sQ (sQ (sP (sA sR))))))) (bK O O (v:=v46) O (aZ (r9.get (i:=3) O)).1 (aZ (r9.get (i:=3) O)).2 (r9.blk (i:=4) O) aJ)<|fun w49 eO=>AD<|au<|V (ax Ov O J)<|mI rfl<|aa<| ?_
    refine⟨(i+1,v46,(gs++[f38]),(Z35++Z1)),aX,r8.u4.u4.u4.u1,(Hp.conv (eO.sub (sQ (sQ sR))) aJ),(aK I aM),J,J,?_,?_,?_⟩
    .rw[IU i0 aR,gP,BA,dH];simp only[lZ,Ci];rw[ayC]
    .exact(hF1.mono (Le.zz fun y hy=>bH _ hy)).snoc (aqE.mono (Le.zz fun y hy=>dI _ hy))
    simp only[ed,ey];omega
   refine SH O aC O dG (sP (sP (sQ (sQ sR)))) (E0 K ((l.getD k.toNat Ed).a6.getD i.toNat iB) (hnn _ (lX (fG (d:=Ed) h0 ‹k<l.length›)) _ (lX (fG (d:=iB) i0 aR))) _ (hK.trans dG.kw) ((hv.at h0 aR).at i0 aR)) (ay call94 O)<|fun v53 w54 Z56 jz aFo=>have oP:Hp _ w54 (_::_::_::_::_::(Z56++Z1)):=jz.Gh (L:=[_,_,_,_,_]) (L':=Z1);?_
   obtain⟨f59,rfl,aqF,acG⟩:=aFo
   refine gj 1 4 aQ ?_ ?_
   .refine cf O aC O oP (sP (sP (sQ (sQ (sP (sA sR)))))) (aE di O O (oP.cell (i:=3) O O))<|A1 4<|cB O aC O oP (sP (sP (sQ (sQ (sP (sA sR)))))) (f:=fun b=> .slice (some ⟨b,0,none⟩) 1 1) (Aj di O O O (l:=[_]) O az az O)<|fun b66 w64 wZ=>A1 5<|fB O aC O wZ (j:=3) O (fun _=>(sQ (sP (sP (sQ (sQ (sP (sA sR)))))))) (Hp.gR fC wZ (i:=0) (l:=[_]) O fT) O O di O O (size:=67) (bytes:=552) O O O az (MT acG) YC Yx<|fun v69 w67 kJ=>AQ 6 O (kJ.sub (sQ (sP (sP (sQ (sQ (sP (sA sR)))))))) (fA dw 1 O jC N5)<|A1 7<|dW O aC kJ (j:=4) O (sQ (sP (sP (sQ (sQ (sP (sA sR))))))) (bK O O (v:=v69) O (aZ (kJ.get (i:=3) O)).1 (aZ (kJ.get (i:=3) O)).2 (kJ.blk (i:=4) O) aJ)<|fun w72 vc=>AD<|au<|V (ax Ov O J)<|mI rfl<|aa<| ?_
    refine⟨(i+1,v69,(gs++[f59]),(Z56++Z1)),aX,r8.u4.u4.u4.u1,(Hp.conv (vc.sub (sQ (sQ sR))) aJ),(aK I aM),J,J,?_,?_,?_⟩
    .rw[IU i0 aR,gP,BA,dH];simp only[lZ,Ci];rw[aqF]
    .exact(hF1.mono (Le.zz fun y hy=>bH _ hy)).snoc (acG.mono (Le.zz fun y hy=>dI _ hy))
    simp only[ed,ey];omega
   refine cB O aC O oP (sP (sP (sQ (sQ (sP (sA sR)))))) (f:=fun b=> .slice (some ⟨b,0,none⟩) 1 1) (Aj di O O O (l:=[_]) O az az O)<|fun b76 w74 ve=>A1 1<|cf O aC O ve (sQ (sP (sP (sQ (sQ (sP (sA sR))))))) (aE di O O (ve.cell (i:=4) O O))<|A1 5<|fB O aC O ve (j:=3) O (fun _=>(sQ (sP (sP (sQ (sQ (sP (sA sR)))))))) (Hp.gR fC ve (i:=0) (l:=[_]) O fT) O O di O O (size:=67) (bytes:=552) O O O az (MT acG) YC Yx<|fun v81 w79 pL=>AQ 6 O (pL.sub (sQ (sP (sP (sQ (sQ (sP (sA sR)))))))) (fA dw 1 O jC N5)<|A1 7<|dW O aC pL (j:=4) O (sQ (sP (sP (sQ (sQ (sP (sA sR))))))) (bK O O (v:=v81) O (aZ (pL.get (i:=3) O)).1 (aZ (pL.get (i:=3) O)).2 (pL.blk (i:=4) O) aJ)<|fun w84 W3=>AD<|au<|V (ax Ov O J)<|mI rfl<|aa<| ?_
   refine⟨(i+1,v81,(gs++[f59]),(Z56++Z1)),aX,r8.u4.u4.u4.u1,(Hp.conv (W3.sub (sQ (sQ sR))) aJ),(aK I aM),J,J,?_,?_,?_⟩
   .rw[IU i0 aR,gP,BA,dH];simp only[lZ,Ci];rw[aqF]
   .exact(hF1.mono (Le.zz fun y hy=>bH _ hy)).snoc (acG.mono (Le.zz fun y hy=>dI _ hy))
   simp only[ed,ey];omega
  refine a8 (id:=2) rfl<|au<|V (ax at5 O J)<|mI rfl<|aa<| ?_
  refine⟨(k+1,fv1,gs,Z1),aX,(((nX.u4.u4).t r8 O)).u1.u1.u1,(Hp.conv (dQ.sub (sQ sR)) aM),(aK I aM),J,J,?_,?_,J⟩
  .rw[adX h0 aR,<-hm,BA,jg J];rfl
  exact hF1
 refine a8 (id:=0) rfl<|SR<|V (cC (cs:=[B _,_]) dw O O qb (bj (cg.blk (i:=1) O)))<|bg cg (i:=2) O (dK (c':=#[B true,fv0]) O xG O (amL (aZ (cg.get (i:=0) O)).2) (cg.blk (i:=2) O) O)<|fun w86 W4=>aa<|aj<| ?_
 obtain⟨Zr,hz,hzv,-⟩:=W4.SG K
 refine qJ (i:=Zr.length+1) results51 xG hz (amM (i:=1) O) dw O O ⟨Zr++Z,hz.sub (RA (.refl _) (sQ (sQ (.refl _)))),⟨true,fv0,fs⟩,rfl,?_,?_,?_⟩
 .rw[kW.sh,hm,ahu aR]
 .exact hzv.mono (Le.zz fun y hy=>dI _ hy)
 exact(hF.mono (Le.zz fun y hy=>bH _ hy)).each
theorem A5(K:Vu)(s:lQ)(hvl:s.vars.length<=1000)(w:World)(hK:Le K (Kw w))(hs:Ef K s):Calls Tryz.prog 37 #[.agg (MW s)] w (EI K (fun K' u=>∃m:GO,u= .agg (ad0 m).toArray/\m.HK=M4 s.sc/\M6 K' m) w):=by
 have BA:=hs.aq.small
 have Kj:=hs.vars.small
 unfold maxLen at BA Kj
 refine eH func37 rfl rfl fun hH=>SR<|gO hH (v:= .agg _) rfl<|fun b3 w1 bq=>lN bq (aT WB)<|fun b6 w4 bY=>aa<|SR<|lN bY (aT WB)<|fun b9 w7 eX=>have cg:=eX.eI 37 8;have dr:=cg.eI 297 1;aa<|ai<|SR<|va (v:=I 0) rfl<|aa<|aA<|bt (G:=Int×Value×(List El)×Value×(List Uj)) (fun⟨k,v0,ls,v1,gr⟩ s' w'=>(Fr (rg 4 51 []) _ s')/\(Hp w w' (.row v1 297 1 (gr.length) (apC gr):: .row v0 37 8 (ls.length) (ls.flatMap pM):: .blk b9 (.cells (#[v0,v1]) 93 (0,0))::_))/\(s' 4=I k)/\(0<=k)/\(k<=s.vars.length)/\(ls=(s.vars.take k.toNat).map (Al s.sc))/\(gr=List.replicate k.toNat HJ)/\((ls.length:Int)=k)/\((gr.length:Int)=k)) (fun⟨k,v0,ls,v1,gr⟩=>(s.vars.length-k).toNat) ((0,(.slice none 0 0:Value),[],(.slice none 0 0:Value),[])) ⟨Fr.refl _ _,dr,rfl,J,J,rfl,rfl,rfl,rfl⟩<| ?_
 rintro⟨k,v0,ls,v1,gr⟩ aal zl ⟨my,cM,uj,h0,hk,hm,hgr,hl,hl2⟩
 obtain⟨po,zq,kU⟩:=my.w3 1 2 3
 refine ai<|SR<|aF uj<|V (fA gH 1 O uz po)<|V (bZ ((hs.mono hK).vars.sl.hp cM) l6 O O (cM.cell (i:=4) O O))<|V (aD ((hs.mono hK).vars.sl.hp cM) O l6 O)<|V (aN O O)<|aa<|aG O (fun Gl=> ?_) (fun Gl=> ?_)
 .refine an<|ai<|aA<|SR<|V (fA gH 1 O uz po)<|V (bZ ((hs.mono hK).vars.sl.hp cM) l6 O O (cM.cell (i:=4) O O))<|aF uj<|V (ah ((hs.mono hK).vars.sl.hp cM) l6 Fm O O J)<|V (dY (dv:=fq) tN ((hs.mono hK).vars.sl.hp cM) o8 O O O J)<|lN cM (aT Tryz.zeroValue63)<|fun b17 Tz cH=>bg cH (i:=0) O (dK (c':=(O8 _).toArray) O O O LX (cH.blk (i:=0) O) O)<|fun Lf iC=>aa<|SR<|V (dL (vs:=[]) O (oY))<|lN iC (aT fg)<|fun b22 w20 fK=>bg fK (i:=0) O (cR O O O (fK.blk (i:=0) O))<|fun w23 gM=>aa<|ai<|SR<|V (fA o8 1 O aP O)<|lI bx gM 1 O O rfl<|V (bW O O)<|mB rfl<|bM 23 O (fun WJ=> ?_) (fun WJ=> ?_)
  .refine V (fA o8 2 O aP O)<|lI bx gM 1 O O rfl<|V (dF O O)<|mB rfl<|mB rfl<|bM 28 O (fun WN=> ?_) (fun WN=> ?_)
   .refine V (fA o8 2 O aP O)<|lI bx gM 1 O O rfl<|V (fA gH 0 O ox po)<|V (bZ ((hs.mono hK).aq.sl.hp gM) je O O (gM.cell (i:=6) O O))<|V (aD ((hs.mono hK).aq.sl.hp gM) O je O)<|V (aN O O)<|mB rfl<|aa<|aG O (fun Pr=> ?_) (fun Pr=> ?_)
    .refine au<|V (fA gH 0 O ox po)<|V (bZ ((hs.mono hK).aq.sl.hp gM) je O O (gM.cell (i:=6) O O))<|V (fA o8 2 O aP O)<|lI bx gM 1 O O rfl<|V (ah ((hs.mono hK).aq.sl.hp gM) je x8 O O J)<|V (fA sI 1 O vE O)<|V (mj (dv:=mP) (off:=1) (cs:=yj _) oG ((hs.mono hK).aq.sl.hp gM) dw O O O J (Ak _))<|aH O gM (Di _ _ _ (((hs.mono hK).at J J).mono gM.kw)) (aL call81 O (show _=B false from O))<|fun w31 ij=>bg ij (i:=0) O (cR O O O (ij.blk (i:=0) O))<|fun w33 kr=>aa<|SR<|V (fA mN 0 O ji kU)<|lV bU kr 4 O O rfl<|V (cN bI O O O (kr.blk (i:=0) O))<|ud 1 1 kr (gf bU O O O O)<|fun b37 w35 j8=> ?_
     (try simp only[lC]at j8)
     refine gh O j8 (i:=4) O (Hp.gR cY j8 (i:=0) (l:=[_]) O fT) O O bU O O (size:=8) (bytes:=64) O O O az (gV _) Sb R7<|fun v38 w39 lO=>V (fA mN 0 O ji kU)<|bg lO (i:=5) O (bK O O (v:=v38) O (aZ (lO.get (i:=4) O)).1 (aZ (lO.get (i:=4) O)).2 (lO.blk (i:=5) O) Sm)<|fun w41 q5=>aa<|au<|V (fA mN 1 O Cl kU)<|lV ux q5 5 O O rfl<|ud 1 1 q5 (yU (v:=(.slice none 0 0)) O ux O O O O)<|fun b45 w43 pK=> ?_
     (try simp only[lC]at pK)
     refine gh O pK (i:=4) O (pK.dU (i:=0) (n:=1) (sz:=1) O O az) O O ux O O (size:=1) (bytes:=24) O O O az (abE O) Sd R8<|fun v46 w47 jR=>V (fA mN 1 O Cl kU)<|bg jR (i:=6) O (bK O O (v:=v46) O (aZ (jR.get (i:=4) O)).1 (aZ (jR.get (i:=4) O)).2 (jR.blk (i:=6) O) Sn)<|fun w49 eO=>aa<|au<|aF uj<|V (ax O O J)<|aI rfl<|aa<| ?_
     refine⟨(k+1,v38,(ls++[Al s.sc (s.vars.getD k.toNat fq)]),v46,(gr++[HJ])),aX,my.u4.u4.u4.u4.u4.u4.u4.u4.u4.u4.u4.u4.u1.u1.u1,(Hp.conv (eO.sub (sQ (sQ (sQ (sQ sR))))) (by rw[axg ‹(s.vars.getD k.toNat fq).kind=1› ⟨J,J⟩,<-aht];simp[HJ,shG];done)),(aK I aM),J,J,?_,?_,?_,?_⟩
     .rw[hm];exact DZ h0 ‹k<_›
     .rw[hgr];exact D0 h0
     .simp only[ed,ey];omega
     simp only[ed,ey];omega
    refine an<|SR<|V (fA mN 0 O ji kU)<|lV bU gM 4 O O rfl<|V (cN bI O O O (gM.blk (i:=0) O))<|ud 1 1 gM (gf bU O O O O)<|fun b53 w51 B0=> ?_
    (try simp only[lC]at B0)
    refine gh O B0 (i:=4) O (Hp.gR cY B0 (i:=0) (l:=[_]) O fT) O O bU O O (size:=8) (bytes:=64) O O O az (gV _) Sb R7<|fun v54 w55 nu=>V (fA mN 0 O ji kU)<|bg nu (i:=5) O (bK O O (v:=v54) O (aZ (nu.get (i:=4) O)).1 (aZ (nu.get (i:=4) O)).2 (nu.blk (i:=5) O) Sm)<|fun w57 oP=>aa<|au<|V (fA mN 1 O Cl kU)<|lV ux oP 5 O O rfl<|ud 1 1 oP (yU (v:=(.slice none 0 0)) O ux O O O O)<|fun b61 w59 wH=> ?_
    (try simp only[lC]at wH)
    refine gh O wH (i:=4) O (wH.dU (i:=0) (n:=1) (sz:=1) O O az) O O ux O O (size:=1) (bytes:=24) O O O az (abE O) Sd R8<|fun v62 w63 xa=>V (fA mN 1 O Cl kU)<|bg xa (i:=6) O (bK O O (v:=v62) O (aZ (xa.get (i:=4) O)).1 (aZ (xa.get (i:=4) O)).2 (xa.blk (i:=6) O) Sn)<|fun w65 aou=>aa<|au<|aF uj<|V (ax O O J)<|aI rfl<|aa<| ?_
    refine⟨(k+1,v54,(ls++[Al s.sc (s.vars.getD k.toNat fq)]),v62,(gr++[HJ])),aX,my.u4.u4.u4.u4.u4.u4.u4.u4.u4.u4.u1.u1.u1,(Hp.conv (aou.sub (sQ (sQ (sQ (sQ sR))))) YB),(aK I aM),J,J,?_,?_,?_,?_⟩
    .rw[hm];exact DZ h0 ‹k<_›
    .rw[hgr];exact D0 h0
    .simp only[ed,ey];omega
    simp only[ed,ey];omega
   refine aF (v:=B false) rfl<|aa<|cT rfl<|an<|SR<|V (fA mN 0 O ji kU)<|lV bU gM 4 O O rfl<|V (cN bI O O O (gM.blk (i:=0) O))<|ud 1 1 gM (gf bU O O O O)<|fun b69 w67 kJ=> ?_
   (try simp only[lC]at kJ)
   refine gh O kJ (i:=4) O (Hp.gR cY kJ (i:=0) (l:=[_]) O fT) O O bU O O (size:=8) (bytes:=64) O O O az (gV _) Sb R7<|fun v70 w71 Jn=>V (fA mN 0 O ji kU)<|bg Jn (i:=5) O (bK O O (v:=v70) O (aZ (Jn.get (i:=4) O)).1 (aZ (Jn.get (i:=4) O)).2 (Jn.blk (i:=5) O) Sm)<|fun w73 xb=>aa<|au<|V (fA mN 1 O Cl kU)<|lV ux xb 5 O O rfl<|ud 1 1 xb (yU (v:=(.slice none 0 0)) O ux O O O O)<|fun b77 w75 oQ=> ?_
   (try simp only[lC]at oQ)
   refine gh O oQ (i:=4) O (oQ.dU (i:=0) (n:=1) (sz:=1) O O az) O O ux O O (size:=1) (bytes:=24) O O O az (abE O) Sd R8<|fun v78 w79 pL=>V (fA mN 1 O Cl kU)<|bg pL (i:=6) O (bK O O (v:=v78) O (aZ (pL.get (i:=4) O)).1 (aZ (pL.get (i:=4) O)).2 (pL.blk (i:=6) O) Sn)<|fun w81 o5=>aa<|au<|aF uj<|V (ax O O J)<|aI rfl<|aa<| ?_
   refine⟨(k+1,v70,(ls++[Al s.sc (s.vars.getD k.toNat fq)]),v78,(gr++[HJ])),aX,my.u4.u4.u4.u4.u4.u4.u4.u4.u4.u4.u1.u1.u1,(Hp.conv (o5.sub (sQ (sQ (sQ (sQ sR))))) YB),(aK I aM),J,J,?_,?_,?_,?_⟩
   .rw[hm];exact DZ h0 ‹k<_›
   .rw[hgr];exact D0 h0
   .simp only[ed,ey];omega
   simp only[ed,ey];omega
  refine aF (v:=B false) rfl<|mB rfl<|cF O rfl<|aF (v:=B false) rfl<|aa<|cT rfl<|an<|SR<|V (fA mN 0 O ji kU)<|lV bU gM 4 O O rfl<|V (cN bI O O O (gM.blk (i:=0) O))<|ud 1 1 gM (gf bU O O O O)<|fun b85 w83 kx=> ?_
  (try simp only[lC]at kx)
  refine gh O kx (i:=4) O (Hp.gR cY kx (i:=0) (l:=[_]) O fT) O O bU O O (size:=8) (bytes:=64) O O O az (gV _) Sb R7<|fun v86 w87 zu=>V (fA mN 0 O ji kU)<|bg zu (i:=5) O (bK O O (v:=v86) O (aZ (zu.get (i:=4) O)).1 (aZ (zu.get (i:=4) O)).2 (zu.blk (i:=5) O) Sm)<|fun w89 nZ=>aa<|au<|V (fA mN 1 O Cl kU)<|lV ux nZ 5 O O rfl<|ud 1 1 nZ (yU (v:=(.slice none 0 0)) O ux O O O O)<|fun b93 w91 Jo=> ?_
  (try simp only[lC]at Jo)
  refine gh O Jo (i:=4) O (Jo.dU (i:=0) (n:=1) (sz:=1) O O az) O O ux O O (size:=1) (bytes:=24) O O O az (abE O) Sd R8<|fun v94 w95 qc=>V (fA mN 1 O Cl kU)<|bg qc (i:=6) O (bK O O (v:=v94) O (aZ (qc.get (i:=4) O)).1 (aZ (qc.get (i:=4) O)).2 (qc.blk (i:=6) O) Sn)<|fun w97 Ow=>aa<|au<|aF uj<|V (ax O O J)<|aI rfl<|aa<| ?_
  refine⟨(k+1,v86,(ls++[Al s.sc (s.vars.getD k.toNat fq)]),v94,(gr++[HJ])),aX,my.u4.u4.u4.u4.u4.u4.u4.u4.u4.u4.u1.u1.u1,(Hp.conv (Ow.sub (sQ (sQ (sQ (sQ sR))))) YB),(aK I aM),J,J,?_,?_,?_,?_⟩
  .rw[hm];exact DZ h0 ‹k<_›
  .rw[hgr];exact D0 h0
  .simp only[ed,ey];omega
  simp only[ed,ey];omega
 refine a8 (id:=0) rfl<|SR<| ?_
 obtain⟨Z99,ayG,ayH,-⟩:=(cM.pj [1]).SG (K)
 have qd:Hp _ zl (_::_::_::_::Z99):=ayG.amN (L:=[_,_,_,_])
 obtain⟨PB,ake,akf,-⟩:=qd.SG (K)
 have ny:Hp _ zl (_::_::_::(PB++Z99)):=ake.Gh (L:=[_,_,_]) (L':=Z99)
 subst hgr
 have aqL:M6 (Kz K (PB++Z99)) (⟨v0,ls,v1,List.replicate k.toNat HJ⟩:GO):=⟨(ayH.mono (Le.zz (fun x hx=>(bH _ hx)))),(akf.mono (Le.zz (fun x hx=>(dI _ hx)))),uQ.amV _ _⟩
 refine V (cC (cs:=ad0 (⟨v0,ls,v1,List.replicate k.toNat HJ⟩:GO)) mN O O kU (bj (ny.blk (i:=0) O)))<|bg ny (i:=1) O (dK (c':=(ad0 (⟨v0,ls,v1,List.replicate k.toNat HJ⟩:GO)).toArray) O zq O (ahL aqL) (ny.blk (i:=1) O) O)<|fun aua xI=>aa<|aj<|qJ O zq xI (i:=1) O mN O O ⟨(PB++Z99),(xI.sub (sQ (sQ (sQ sR)))),(⟨v0,ls,v1,List.replicate k.toNat HJ⟩:GO),rfl,?_,aqL⟩
 exact UR hm h0 ‹¬k<_› hk
theorem Dl(s:lQ)(w:World)(hs:Ef (Kw w) s):Calls Tryz.prog 32 #[.agg (MW s)] w (Pure (B (wc s)) w):=by
 have BA:=hs.aq.sl.small
 have Kj:=hs.vars.sl.small
 unfold maxLen at BA Kj
 refine eH func32 rfl rfl fun hH=>SR<|gO hH (v:= .agg _) rfl<|fun b3 w1 bq=>va (v:=B false) rfl<|aa<|ai<|SR<|V (fA gH 0 O ox O)<|V (bZ (hs.aq.sl.hp bq) je O O (bq.cell (i:=0) O O))<|V (aD (hs.aq.sl.hp bq) O je O)<|V (dP O O)<|mB rfl<|bM 11 O (fun h5=> ?_) (fun h5=> ?_)
 .refine aF (v:=B true) rfl<|aa<|cz rfl<|SR<|va (v:=B true) rfl<|aa<|aj<|oB O ?_ bq
  (rw[wc,gY J];rfl)
 refine V (fA gH 1 O uz O)<|V (bZ (hs.vars.sl.hp bq) l6 O O (bq.cell (i:=0) O O))<|V (aD (hs.vars.sl.hp bq) O l6 O)<|V (dP O O)<|mB rfl<|aa<|aG O (fun h7=> ?_) (fun h7=> ?_)
 .refine SR<|va (v:=B true) rfl<|aa<|aj<|oB O ?_ bq
  (rw[wc,gY J];rfl)
 refine an<|ai<|SR<|V (fA gH 0 O ox O)<|V (bZ (hs.aq.sl.hp bq) je O O (bq.cell (i:=0) O O))<|V (aD (hs.aq.sl.hp bq) O je O)<|aF (v:=I 0) rfl<|aa<|aA<|have hno:¬(20<s.aq.length\/80<s.vars.length):=J;bt (G:=Int) (fun k s' w'=>(Fr (2::(4::(rg 20 14 []))) _ s')/\(Hp w w' _)/\(s' 20=I k)/\(0<=k)/\(k<=s.aq.length)/\(∀j:Int,0<=j->j<k->Vm (s.aq.getD j.toNat mP)=false)) (fun k=>(s.aq.length-k).toNat) (0) ⟨Fr.refl _ _,bq,rfl,J,J,fun j a b=>absurd b J⟩<| ?_
 rintro k sg8 w8 ⟨fr8,eX,akg,h0,hk,hg⟩
 obtain⟨aFw,ayI,ayJ⟩:=fr8.w3 1 18 19
 refine SR<|V (aN akg ayJ)<|aa<|ai<|aG O (fun h10=> ?_) (fun h10=> ?_)
 .refine an<|ai<|aA<|SR<|V (ah (hs.aq.sl.hp eX) je x8 ayI akg J)<|V (dY (dv:=mP) oG (hs.aq.sl.hp eX) sI O O O J)<|lN eX (aT WA)<|fun Of Je cM=>bg cM (i:=0) O (dK (c':=(MV _).toArray) O O O (Vl (hs.at J J)) (cM.blk (i:=0) O) O)<|fun Q1 gW=>aa<|SR<|V (fA sI 1 O vE O)<|V (iN (sub:=yj _) dw O O O (gW.blk (i:=0) O) O)<|aH O gW (Dk _ _ ((hs.at J J).mono gW.kw)) (ay call72 O)<|fun Jg er=>mB rfl<|eK 27 O (fun Ob=> ?_) (fun Ob=> ?_)
  .refine aF (v:=B true) rfl<|aa<|cz rfl<|SR<|va (v:=B true) rfl<|aa<|aj<|oB O ?_ er
   (rw[wc,GL (d:=mP) (P:=Vm) h0 ‹k<_› (by rw[Vm,qj];exact .inl aR)];simp)
  refine V (fA sI 0 O kC O)<|V (aE iz O O (er.cell (i:=0) O (v:= .string _) O))<|V (lG O iz O)<|V (dP O O)<|mB rfl<|aa<|aG O (fun Pt=> ?_) (fun Pt=> ?_)
  .refine SR<|va (v:=B true) rfl<|aa<|aj<|oB O ?_ er
   (rw[wc,GL (d:=mP) (P:=Vm) h0 ‹k<_› (by rw[Vm,qj];exact .inr (gY J))];simp)
  refine an<|au<|V (ax akg O J)<|mI rfl<|aa<| ?_
  refine⟨k+1,aX,fr8.u4.u4.u4.u1.u1.u1,(er.sub (sQ sR)),(aK I aM),J,J,?_⟩
  exact fun j a b=>if e:j=k then e▸(by rw[Vm,Bool.or_eq_false_iff];exact⟨aR,hG J⟩)else hg j a J
 refine a8 (id:=0) rfl<|ai<|SR<|V (fA gH 1 O uz aFw)<|V (bZ (hs.vars.sl.hp eX) l6 O O (eX.cell (i:=0) O O))<|V (aD (hs.vars.sl.hp eX) O l6 O)<|aF (v:=I 0) rfl<|aa<|aA<|have hla:s.aq.any Vm=false:=SO (d:=mP) aR hg;bt (G:=Int) (fun j s' w'=>(Fr (2::(6::(rg 37 9 []))) _ s')/\(Hp w w' _)/\(s' 37=I j)/\(0<=j)/\(j<=s.vars.length)/\(∀i:Int,0<=i->i<j->asi (s.vars.getD i.toNat fq)=false)) (fun j=>(s.vars.length-j).toNat) (0) ⟨Fr.refl _ _,eX,rfl,J,J,fun j a b=>absurd b J⟩<| ?_
 rintro j aFx TD ⟨akh,cK,aaC,j0,jk,hv⟩
 obtain⟨aub,auc⟩:=akh.w2 35 36
 refine SR<|V (aN aaC auc)<|aa<|ai<|aG O (fun yI=> ?_) (fun yI=> ?_)
 .refine an<|ai<|aA<|SR<|V (ah (hs.vars.sl.hp cK) l6 Fm aub aaC J)<|V (dY (dv:=fq) tN (hs.vars.sl.hp cK) o8 O O O J)<|lN cK (aT Tryz.zeroValue63)<|fun b27 w25 jy=>bg jy (i:=0) O (dK (c':=(O8 _).toArray) O O O LX (jy.blk (i:=0) O) O)<|fun w28 gE=>aa<|SR<|V (fA o8 0 O kC O)<|V (aE iz O O (gE.cell (i:=0) O (v:= .string _) O))<|V (lG O iz O)<|V (dP O O)<|aa<|aG O (fun h31=> ?_) (fun h31=> ?_)
  .refine SR<|va (v:=B true) rfl<|aa<|aj<|oB O ?_ gE
   (rw[wc,GL (d:=fq) (P:=asi) j0 ‹j<_› (gY J)];simp)
  refine an<|au<|V (ax aaC O J)<|mI rfl<|aa<| ?_
  refine⟨j+1,aX,akh.u4.u4.u1.u1,(gE.sub (sQ sR)),(aK I aM),J,J,?_⟩
  exact fun i a b=>if e:i=j then e▸(hG J)else hv i a J
 refine a8 (id:=2) rfl<|SR<|va (v:=B false) rfl<|aa<|aj<|oB O ?_ cK
 (rw[wc,hla,SO (d:=fq) aR hv,hG hno];rfl)
theorem A6(s:lQ)(w:World)(hs:Ef (Kw w) s):Calls Tryz.prog 34 #[.agg (MW s)] w (Pure (B (iZ s)) w):=by
 have BA:=hs.aq.sl.small
 have Kj:=hs.vars.sl.small
 unfold maxLen at BA Kj
 refine eH func34 rfl rfl fun hH=>SR<|gO hH (v:= .agg _) rfl<|fun b3 w1 bq=>va (v:=B false) rfl<|aa<|SR<|va (v:= .slice none 0 0) rfl<|have ix:=bq.eI 9 1;aa<|ai<|SR<|V (fA gH 0 O ox O)<|V (bZ (hs.aq.sl.hp ix) je O O (ix.cell (i:=1) O O))<|V (aD (hs.aq.sl.hp ix) O je O)<|V (dP O O)<|mB rfl<|bM 12 O (fun h6=> ?_) (fun h6=> ?_)
 .refine aF (v:=B true) rfl<|aa<|cz rfl<|SR<|va (v:=B false) rfl<|aa<|aj<|oB O ?_ ix
  exact(Qh J).symm
 refine V (fA gH 1 O uz O)<|V (bZ (hs.vars.sl.hp ix) l6 O O (ix.cell (i:=1) O O))<|V (aD (hs.vars.sl.hp ix) O l6 O)<|V (dP O O)<|mB rfl<|aa<|aG O (fun h8=> ?_) (fun h8=> ?_)
 .refine SR<|va (v:=B false) rfl<|aa<|aj<|oB O ?_ ix
  exact(Qh J).symm
 refine an<|ai<|SR<|va (v:=I 0) rfl<|aa<|aA<|have hsz:s.aq.length<=16/\s.vars.length<=64:=J;have hnl:(rK s).length=s.aq.length+s.vars.length:=(by simp[rK]);bt (G:=Int×(List Tx)×Value) (fun⟨k,m,v3⟩ s' w'=>(Fr (rg 2 3 (rg 18 24 [])) _ s')/\(Hp w w' (.row v3 9 1 (m.length) (JL m)::_))/\(s' 3=v3)/\(s' 4=I k)/\(0<=k)/\(k<=s.aq.length)/\(m=(s.aq.take k.toNat).map Ee.name)/\((m.length:Int)=k)/\(∀j:Int,0<=j->j<k->mJ (s.aq.getD j.toNat mP).zH.sh=true)) (fun⟨k,m,v3⟩=>(s.aq.length-k).toNat) ((0,[],(.slice none 0 0:Value))) ⟨Fr.refl _ _,ix,rfl,rfl,J,J,rfl,rfl,fun j a b=>absurd b J⟩<| ?_
 rintro⟨k,m,v3⟩ sg9 w9 ⟨fr9,iD,aao,Ps,h0,hk,hm,hml,hg⟩
 have aan:=fr9.w1 1
 refine ai<|SR<|aF Ps<|V (fA gH 0 O ox aan)<|V (bZ (hs.aq.sl.hp iD) je O O (iD.cell (i:=1) O O))<|V (aD (hs.aq.sl.hp iD) O je O)<|V (aN O O)<|aa<|aG O (fun h11=> ?_) (fun h11=> ?_)
 .refine an<|ai<|aA<|ai<|SR<|V (fA gH 0 O ox aan)<|V (bZ (hs.aq.sl.hp iD) je O O (iD.cell (i:=1) O O))<|aF Ps<|V (ah (hs.aq.sl.hp iD) je x8 O O J)<|V (fA sI 1 O vE O)<|V (mj (dv:=mP) (off:=1) (cs:=yj _) oG (hs.aq.sl.hp iD) dw O O O J (Ak _))<|aH O iD (mZ _ _ ((hs.at J J).mono iD.kw)) (ay call73 O)<|fun zl bV=>V (bJ O)<|aa<|bX O (fun yt=> ?_) (fun yt=> ?_)
  .refine SR<|va (v:=B false) rfl<|aa<|aj<|oB O ?_ bV
   exact(ad2 h0 ‹k<_› (by rw[M7,nt ‹(!mJ _)=true›,Ln])).symm
  refine an<|au<|aF aao<|V (fA gH 0 O ox aan)<|V (bZ (hs.aq.sl.hp bV) je O O (bV.cell (i:=1) O O))<|aF Ps<|V (ah (hs.aq.sl.hp bV) je x8 O O J)<|V (fA sI 0 O kC O)<|V (gC (dv:=mP) (off:=0) oG (hs.aq.sl.hp bV) iz O O J O)<|ud 1 1 bV (cA dZ O O (sz:=1) (vs:=[.string _]) O O az az O O)<|fun b19 TC dQ=> ?_
  (try simp only[lC]at dQ)
  refine gh O dQ (i:=1) O (dQ.dU (i:=0) (n:=1) (sz:=1) O O az) O O dZ O O (size:=1) (bytes:=16) O O O az gZ J iA<|fun v20 N4 cK=> ?_
  refine V (run_assign bz) ?_
  refine aa<|au<|aF Ps<|V (ax O O J)<|aI rfl<|aa<| ?_
  refine⟨(k+1,m++[(s.aq.getD k.toNat mP).name],v20),aX,fr9.u4.u4.u4.u4.u4.u4.u1.u1,(Hp.conv (cK.sub (sQ sR)) aJ),rfl,(aK I aM),J,J,?_,?_,?_⟩
  .rw[Vr h0 ‹k<_›,<-hm]
  .simp only[ed,ey];omega
  exact fun j a b=>if e:j=k then e▸nf ‹(!mJ _)=false›else hg j a J
 refine a8 (id:=0) rfl<|ai<|SR<|va (v:=I 0) rfl<|aa<|aA<|bt (G:=Int×(List Tx)×Value) (fun⟨j,m2,v3⟩ s' w'=>(Fr (2::3::(5::6::(rg 42 38 []))) _ s')/\(Hp w w' (.row v3 9 1 (m2.length) (JL m2)::_))/\(s' 3=v3)/\(s' 5=I j)/\(0<=j)/\(j<=s.vars.length)/\(m2=m++(s.vars.take j.toNat).map sV.name)/\((m2.length:Int)=k+j)/\(∀i:Int,0<=i->i<j->((s.vars.getD i.toNat fq).kind=1\/(s.vars.getD i.toNat fq).kind=2)/\0<=(s.vars.getD i.toNat fq).bf/\(s.vars.getD i.toNat fq).bf<s.aq.length)) (fun⟨j,m2,v3⟩=>(s.vars.length-j).toNat) ((0,m,(v3:Value))) ⟨Fr.refl _ _,iD,aao,rfl,J,J,(mG m).symm,J,fun j a b=>absurd b J⟩<| ?_
 rintro⟨j,m2,v3⟩ aFy w23 ⟨ae3,eP,aki,acH,j0,hj,Kj,aOg,hv⟩
 have Q6:=ae3.t1 1 aan
 refine ai<|SR<|aF acH<|V (fA gH 1 O uz Q6)<|V (bZ (hs.vars.sl.hp eP) l6 O O (eP.cell (i:=1) O O))<|V (aD (hs.vars.sl.hp eP) O l6 O)<|V (aN O O)<|aa<|aG O (fun Ji=> ?_) (fun Ji=> ?_)
 .refine an<|ai<|aA<|SR<|V (fA gH 1 O uz Q6)<|V (bZ (hs.vars.sl.hp eP) l6 O O (eP.cell (i:=1) O O))<|aF acH<|V (ah (hs.vars.sl.hp eP) l6 Fm O O J)<|V (dY (dv:=fq) tN (hs.vars.sl.hp eP) o8 O O O J)<|lN eP (aT Tryz.zeroValue63)<|fun b28 Uq dG=>bg dG (i:=0) O (dK (c':=(O8 _).toArray) O O O LX (dG.blk (i:=0) O) O)<|fun w29 iU=>aa<|ai<|SR<|V (fA o8 1 O aP O)<|lI bx iU 0 O O rfl<|V (kL O O)<|mB rfl<|bM 57 O (fun BZ=> ?_) (fun BZ=> ?_)
  .refine V (fA o8 1 O aP O)<|lI bx iU 0 O O rfl<|V (kL O O)<|mB rfl<|mB rfl<|bM 62 O (fun h34=> ?_) (fun h34=> ?_)
   .refine aF (v:=B true) rfl<|mB rfl<|cF O rfl<|aF (v:=B true) rfl<|aa<|cz rfl<|SR<|va (v:=B false) rfl<|aa<|aj<|oB O ?_ iU
    exact(yV j0 ‹j<_› LV).symm
   refine V (fA o8 2 O aP O)<|lI bx iU 0 O O rfl<|V (aN O O)<|mB rfl<|mB rfl<|bM 67 O (fun h36=> ?_) (fun h36=> ?_)
   .refine aF (v:=B true) rfl<|aa<|cz rfl<|SR<|va (v:=B false) rfl<|aa<|aj<|oB O ?_ iU
    exact(yV j0 ‹j<_› LV).symm
   refine V (fA o8 2 O aP O)<|lI bx iU 0 O O rfl<|V (fA gH 0 O ox Q6)<|V (bZ (hs.aq.sl.hp iU) je O O (iU.cell (i:=2) O O))<|V (aD (hs.aq.sl.hp iU) O je O)<|V (dF O O)<|mB rfl<|aa<|aG O (fun h38=> ?_) (fun h38=> ?_)
   .refine SR<|va (v:=B false) rfl<|aa<|aj<|oB O ?_ iU
    exact(yV j0 ‹j<_› LV).symm
   refine an<|au<|aF aki<|V (fA o8 0 O kC O)<|V (aE iz O O (iU.cell (i:=0) O (v:= .string _) O))<|ud 1 1 iU (cA dZ O O (sz:=1) (vs:=[.string _]) O O az az O O)<|fun b41 w39 lO=> ?_
   (try simp only[lC]at lO)
   refine gh O lO (i:=2) O (lO.dU (i:=0) (n:=1) (sz:=1) O O az) O O dZ O O (size:=1) (bytes:=16) O O O az gZ J iA<|fun v42 w43 pK=> ?_
   refine V (run_assign bz) ?_
   refine aa<|au<|aF acH<|V (ax O O J)<|aI rfl<|aa<| ?_
   refine⟨(j+1,m2++[(s.vars.getD j.toNat fq).name],v42),aX,ae3.u4.u4.u4.u4.u4.u4.u4.u4.u4.u4.u1,(Hp.conv (pK.sub (sQ (sQ sR))) aJ),rfl,(aK I aM),J,J,?_,?_,?_⟩
   .rw[JO j0 ‹j<_›,Kj,dH]
   .simp only[ed,ey];omega
   exact fun i a b=>if e:i=j then e▸(by omega)else hv i a J
  refine aF (v:=B false) rfl<|mB rfl<|cF O rfl<|V (fA o8 2 O aP O)<|lI bx iU 0 O O rfl<|V (aN O O)<|mB rfl<|mB rfl<|bM 67 O (fun h46=> ?_) (fun h46=> ?_)
  .refine aF (v:=B true) rfl<|aa<|cz rfl<|SR<|va (v:=B false) rfl<|aa<|aj<|oB O ?_ iU
   exact(yV j0 ‹j<_› LV).symm
  refine V (fA o8 2 O aP O)<|lI bx iU 0 O O rfl<|V (fA gH 0 O ox Q6)<|V (bZ (hs.aq.sl.hp iU) je O O (iU.cell (i:=2) O O))<|V (aD (hs.aq.sl.hp iU) O je O)<|V (dF O O)<|mB rfl<|aa<|aG O (fun h48=> ?_) (fun h48=> ?_)
  .refine SR<|va (v:=B false) rfl<|aa<|aj<|oB O ?_ iU
   exact(yV j0 ‹j<_› LV).symm
  refine an<|au<|aF aki<|V (fA o8 0 O kC O)<|V (aE iz O O (iU.cell (i:=0) O (v:= .string _) O))<|ud 1 1 iU (cA dZ O O (sz:=1) (vs:=[.string _]) O O az az O O)<|fun b51 w49 eO=> ?_
  (try simp only[lC]at eO)
  refine gh O eO (i:=2) O (eO.dU (i:=0) (n:=1) (sz:=1) O O az) O O dZ O O (size:=1) (bytes:=16) O O O az gZ J iA<|fun v52 w53 gU=> ?_
  refine V (run_assign bz) ?_
  refine aa<|au<|aF acH<|V (ax O O J)<|aI rfl<|aa<| ?_
  refine⟨(j+1,m2++[(s.vars.getD j.toNat fq).name],v52),aX,ae3.u4.u4.u4.u4.u4.u4.u4.u4.u4.u4.u1,(Hp.conv (gU.sub (sQ (sQ sR))) aJ),rfl,(aK I aM),J,J,?_,?_,?_⟩
  .rw[JO j0 ‹j<_›,Kj,dH]
  .simp only[ed,ey];omega
  exact fun i a b=>if e:i=j then e▸(by omega)else hv i a J
 refine a8 (id:=2) rfl<|ai<|SR<|va (v:=I 0) rfl<|aa<|aA<|have hnm:m2=rK s:=(by rw[Kj,hm,jg J,jg J];rfl);bt (G:=Int) (fun i s' w'=>(Fr (2::(7::(rg 80 12 []))) _ s')/\(Hp w w' _)/\(s' 7=I i)/\(0<=i)/\(i<=m2.length)/\(∀x:Int,0<=x->x<i->iR (m2.getD x.toNat qt)=true)) (fun i=>(m2.length-i).toNat) (0) ⟨Fr.refl _ _,eP,rfl,J,J,fun j a b=>absurd b J⟩<| ?_
 rintro i ayK w55 ⟨Ox,jz,W5,i0,i1,hn⟩
 have Oy:=Ox.t1 3 aki
 refine ai<|SR<|aF W5<|aF Oy<|V (aD (jz.sl (i:=0) O) O dZ O)<|V (aN O O)<|aa<|aG O (fun PC=> ?_) (fun PC=> ?_)
 .refine an<|ai<|aA<|SR<|aF Oy<|aF W5<|V (ah (jz.sl (i:=0) O) dZ kC O O J)<|V (aE iz O O ((jz.sl (i:=0) O).cell _ _ (CH J)))<|aH O jz (iK _ _) (ay call74 O)<|fun w58 B3=>V (bJ O)<|aa<|bX O (fun h62=> ?_) (fun h62=> ?_)
  .refine SR<|va (v:=B false) rfl<|aa<|aj<|oB O ?_ B3
   exact(Zi i0 (by rw[hnm]at*;omega) (by rw[<-hnm];exact nt ‹(!iR _)=true›)).symm
  refine an<|au<|aF W5<|V (ax O O J)<|aI rfl<|aa<| ?_
  refine⟨i+1,aX,Ox.u4.u4.u4.u1,B3,(aK I aM),J,J,?_⟩
  exact fun x a b=>if e:x=i then e▸nf ‹(!iR _)=false›else hn x a J
 refine a8 (id:=4) rfl<|SR<|aF Oy<|aH O jz (j9 _ _ _ (jz.sl (i:=0) O)) (ay call75 O)<|fun w63 xa=>V (aN O O)<|aB rfl<|aa<|aj<|oB O ?_ xa
 (rw[hnm]at*;exact(ad4 hk hj hsz ‹¬k<_› hg ‹¬j<_› hv ‹¬i<_› hn).symm)
theorem Hw(v:Value)(l:List dX)(w:World)(hs:Sl w v 10 l.length (l.flatMap kq)):Calls Tryz.prog 103 #[v] w (Pure (B (fY l)) w):=by
 have hm:=hs.small
 unfold maxLen at hm
 refine eH func103 rfl rfl fun hH=>SR<|va (v:=B false) rfl<|aa<|SR<|va (v:=I 0) rfl<|aa<|ai<|SR<| ?_
 refine V (run_move bz) ?_
 refine V (aD (hs.hp hH) O ic O)<|aF (v:=I 0) rfl<|aa<|aA<|bt (G:=Int×Int) (fun⟨k,d⟩ s' w'=>(Fr (2::3::(5::(rg 8 29 []))) _ s')/\(Hp w w' _)/\(s' 3=I d)/\(s' 8=I k)/\(0<=k)/\(k<=l.length)/\(jt l k=some d)) (fun⟨k,d⟩=>(l.length-k).toNat) ((0,0)) ⟨Fr.refl _ _,hH,rfl,rfl,J,J,yX l⟩<| ?_
 rintro⟨k,d⟩ sg1 w1 ⟨uT,jc,s7,Pm,h0,hk,hd⟩
 obtain⟨Po,WD⟩:=uT.w2 6 7
 have hdb:=K2 h0 hk hd
 refine SR<|V (aN Pm WD)<|aa<|ai<|aG O (fun h3=> ?_) (fun h3=> ?_)
 .refine an<|ai<|aA<|SR<|V (ah (hs.hp jc) ic px Po Pm J)<|V (dY (dv:=bG) gS (hs.hp jc) ec O O O J)<|lN jc (aT zi)<|fun b6 w4 bY=>bg bY (i:=0) O (dK (c':=(kq _).toArray) O O O (we _) (bY.blk (i:=0) O) O)<|fun w7 eX=>aa<|SR<|V (fA ec 0 O aP O)<|lI bx eX 0 O O rfl<|aa<|aA<|ai<|SR<|V (bW O O)<|aB rfl<|aa<|aG O (fun h10=> ?_) (fun h10=> ?_)
  .refine an<|cz (bT h10)<|au<|aF s7<|V (ax O O J)<|aI rfl<|aa<|au<|V (ax Pm O J)<|mI rfl<|aa<| ?_
   refine⟨(k+1,d+1),aX,uT.u4.u4.u4.u1,(eX.sub (sQ sR)),(aK I aM),(aK I aM),J,J,?_⟩
   rw[ja h0 ‹k<_›,hd];exact u5 (.inl aR)
  refine au<|V (bW O O)<|aB rfl<|aa<|aG O (fun h12=> ?_) (fun h12=> ?_)
  .refine au<|aF s7<|V (ax O O J)<|aI rfl<|aa<|au<|V (ax Pm O J)<|mI rfl<|aa<| ?_
   refine⟨(k+1,d+1),aX,uT.u4.u4.u4.u1.u1.u1,(eX.sub (sQ sR)),(aK I aM),(aK I aM),J,J,?_⟩
   rw[ja h0 ‹k<_›,hd];exact u5 (.inr aR)
  refine ai<|SR<|V (bW O O)<|aB rfl<|aa<|aG O (fun Gl=> ?_) (fun Gl=> ?_)
  .refine an<|cz (bT Gl)<|ai<|SR<|V (fA ec 1 O aP O)<|lI bx eX 0 O O rfl<|V (aN O O)<|mB rfl<|bM 25 O (fun yt=> ?_) (fun yt=> ?_)
   .refine aF (v:=B true) rfl<|aa<|cz rfl<|SR<|va (v:=B false) rfl<|aa<|aj<|oB O ?_ eX
    exact(EL h0 ‹k<_› hd (Am J J)).symm
   refine V (fA ec 1 O aP O)<|lI bx eX 0 O O rfl<|aF s7<|V (dP O O)<|mB rfl<|aa<|aG O (fun p9=> ?_) (fun p9=> ?_)
   .refine SR<|va (v:=B false) rfl<|aa<|aj<|oB O ?_ eX
    exact(EL h0 ‹k<_› hd (Am J J)).symm
   refine an<|au<|aF s7<|V (fA ec 1 O aP O)<|lI bx eX 0 O O rfl<|V (eS O O J)<|V (eS O O J)<|aI rfl<|aa<|au<|V (ax Pm O J)<|mI rfl<|aa<| ?_
   refine⟨(k+1,d-(l.getD k.toNat bG).n+1),aX,uT.u4.u4.u4.u4.u4.u4.u4.u1,(eX.sub (sQ sR)),(aK I J),(aK I aM),J,J,?_⟩
   rw[ja h0 ‹k<_›,hd];exact M9 J J J
  refine au<|V (bW O O)<|aB rfl<|aa<|aG O (fun O7=> ?_) (fun O7=> ?_)
  .refine ai<|SR<|V (fA ec 1 O aP O)<|lI bx eX 0 O O rfl<|V (aN O O)<|mB rfl<|bM 25 O (fun h22=> ?_) (fun h22=> ?_)
   .refine aF (v:=B true) rfl<|aa<|cz rfl<|SR<|va (v:=B false) rfl<|aa<|aj<|oB O ?_ eX
    exact(EL h0 ‹k<_› hd (Am J J)).symm
   refine V (fA ec 1 O aP O)<|lI bx eX 0 O O rfl<|aF s7<|V (dP O O)<|mB rfl<|aa<|aG O (fun yI=> ?_) (fun yI=> ?_)
   .refine SR<|va (v:=B false) rfl<|aa<|aj<|oB O ?_ eX
    exact(EL h0 ‹k<_› hd (Am J J)).symm
   refine an<|au<|aF s7<|V (fA ec 1 O aP O)<|lI bx eX 0 O O rfl<|V (eS O O J)<|V (eS O O J)<|aI rfl<|aa<|au<|V (ax Pm O J)<|mI rfl<|aa<| ?_
   refine⟨(k+1,d-(l.getD k.toNat bG).n+1),aX,uT.u4.u4.u4.u4.u4.u4.u4.u1.u1.u1,(eX.sub (sQ sR)),(aK I J),(aK I aM),J,J,?_⟩
   rw[ja h0 ‹k<_›,hd];exact M9 J J J
  refine SR<|va (v:=B false) rfl<|aa<|aj<|oB O ?_ eX
  exact(EL h0 ‹k<_› hd (SW J J)).symm
 refine a8 (id:=0) rfl<|SR<|aF s7<|V (bW O O)<|aB rfl<|aa<|aj<|oB O ?_ jc
 exact(Zk hk ‹¬k<_› hd).symm
theorem rV(v:Value)(l:List dX)(w:World)(hs:Sl w v 10 l.length (l.flatMap kq)):Calls Tryz.prog 78 #[v] w (Pure (B (fY l)) w):=by
 have hm:=hs.small
 unfold maxLen at hm
 refine eH func78 rfl rfl fun hH=>SR<|va (v:=B false) rfl<|aa<|SR<|va (v:=I 0) rfl<|aa<|ai<|SR<|va (v:=I 0) rfl<|aa<|aA<|bt (G:=Int×Int) (fun⟨k,d⟩ s' w'=>(Fr (rg 2 45 []) _ s')/\(Hp w w' _)/\(s' 3=I d)/\(s' 4=I k)/\(0<=k)/\(k<=l.length)/\(jt l k=some d)) (fun⟨k,d⟩=>(l.length-k).toNat) ((0,0)) ⟨Fr.refl _ _,hH,rfl,rfl,J,J,yX l⟩<| ?_
 rintro⟨k,d⟩ sg1 w1 ⟨uT,jc,s7,AJ,h0,hk,hd⟩
 have mF:=uT.w1 0
 have hdb:=K2 h0 hk hd
 refine ai<|SR<|aF AJ<|aF mF<|V (aD (hs.hp jc) O ic O)<|V (aN O O)<|aa<|aG O (fun h3=> ?_) (fun h3=> ?_)
 .refine an<|ai<|aA<|SR<|aF mF<|aF AJ<|V (ah (hs.hp jc) ic px O O J)<|V (fA ec 0 O aP O)<|V (gC (dv:=bG) (off:=0) gS (hs.hp jc) bx O O J O)<|aa<|aA<|ai<|SR<|V (bW O O)<|aB rfl<|aa<|aG O (fun h5=> ?_) (fun h5=> ?_)
  .refine an<|cz (bT h5)<|au<|aF s7<|V (ax O O J)<|aI rfl<|aa<|au<|aF AJ<|V (ax O O J)<|aI rfl<|aa<| ?_
   refine⟨(k+1,d+1),aX,uT.u4.u4.u4.u4.u1,jc,(aK I aM),(aK I aM),J,J,?_⟩
   rw[ja h0 ‹k<_›,hd];exact u5 (.inl aR)
  refine au<|V (bW O O)<|aB rfl<|aa<|aG O (fun h7=> ?_) (fun h7=> ?_)
  .refine au<|aF s7<|V (ax O O J)<|aI rfl<|aa<|au<|aF AJ<|V (ax O O J)<|aI rfl<|aa<| ?_
   refine⟨(k+1,d+1),aX,uT.u4.u4.u4.u4.u1.u1.u1,jc,(aK I aM),(aK I aM),J,J,?_⟩
   rw[ja h0 ‹k<_›,hd];exact u5 (.inr aR)
  refine ai<|SR<|V (bW O O)<|aB rfl<|aa<|aG O (fun h9=> ?_) (fun h9=> ?_)
  .refine an<|cz (bT h9)<|ai<|SR<|aF mF<|aF AJ<|V (ah (hs.hp jc) ic px O O J)<|V (fA ec 1 O aP O)<|V (gC (dv:=bG) (off:=1) gS (hs.hp jc) bx O O J O)<|V (aN O O)<|mB rfl<|bM 30 O (fun h11=> ?_) (fun h11=> ?_)
   .refine aF (v:=B true) rfl<|aa<|cz rfl<|SR<|va (v:=B false) rfl<|aa<|aj<|oB O ?_ jc
    exact(EL h0 ‹k<_› hd (Am J J)).symm
   refine aF mF<|aF AJ<|V (ah (hs.hp jc) ic px O O J)<|V (fA ec 1 O aP O)<|V (gC (dv:=bG) (off:=1) gS (hs.hp jc) bx O O J O)<|aF s7<|V (dP O O)<|mB rfl<|aa<|aG O (fun TB=> ?_) (fun TB=> ?_)
   .refine SR<|va (v:=B false) rfl<|aa<|aj<|oB O ?_ jc
    exact(EL h0 ‹k<_› hd (Am J J)).symm
   refine an<|au<|aF s7<|aF mF<|aF AJ<|V (ah (hs.hp jc) ic px O O J)<|V (fA ec 1 O aP O)<|V (gC (dv:=bG) (off:=1) gS (hs.hp jc) bx O O J O)<|V (eS O O J)<|V (ax O O J)<|aI rfl<|aa<|au<|aF AJ<|V (ax O O J)<|aI rfl<|aa<| ?_
   refine⟨(k+1,d-(l.getD k.toNat bG).n+1),aX,uT.u4.u4.u4.u4.u4.u4.u4.u4.u4.u4.u1.u1,jc,(aK I aM),(aK I aM),J,J,?_⟩
   rw[ja h0 ‹k<_›,hd];exact M9 J J J
  refine au<|V (bW O O)<|aB rfl<|aa<|aG O (fun Db=> ?_) (fun Db=> ?_)
  .refine ai<|SR<|aF mF<|aF AJ<|V (ah (hs.hp jc) ic px O O J)<|V (fA ec 1 O aP O)<|V (gC (dv:=bG) (off:=1) gS (hs.hp jc) bx O O J O)<|V (aN O O)<|mB rfl<|bM 30 O (fun Hu=> ?_) (fun Hu=> ?_)
   .refine aF (v:=B true) rfl<|aa<|cz rfl<|SR<|va (v:=B false) rfl<|aa<|aj<|oB O ?_ jc
    exact(EL h0 ‹k<_› hd (Am J J)).symm
   refine aF mF<|aF AJ<|V (ah (hs.hp jc) ic px O O J)<|V (fA ec 1 O aP O)<|V (gC (dv:=bG) (off:=1) gS (hs.hp jc) bx O O J O)<|aF s7<|V (dP O O)<|mB rfl<|aa<|aG O (fun Ob=> ?_) (fun Ob=> ?_)
   .refine SR<|va (v:=B false) rfl<|aa<|aj<|oB O ?_ jc
    exact(EL h0 ‹k<_› hd (Am J J)).symm
   refine an<|au<|aF s7<|aF mF<|aF AJ<|V (ah (hs.hp jc) ic px O O J)<|V (fA ec 1 O aP O)<|V (gC (dv:=bG) (off:=1) gS (hs.hp jc) bx O O J O)<|V (eS O O J)<|V (ax O O J)<|aI rfl<|aa<|au<|aF AJ<|V (ax O O J)<|aI rfl<|aa<| ?_
   refine⟨(k+1,d-(l.getD k.toNat bG).n+1),aX,uT.u4.u4.u4.u4.u4.u4.u4.u4.u4.u4.u4,jc,(aK I aM),(aK I aM),J,J,?_⟩
   rw[ja h0 ‹k<_›,hd];exact M9 J J J
  refine SR<|va (v:=B false) rfl<|aa<|aj<|oB O ?_ jc
  exact(EL h0 ‹k<_› hd (SW J J)).symm
 refine a8 (id:=0) rfl<|SR<|aF s7<|V (bW O O)<|aB rfl<|aa<|aj<|oB O ?_ jc
 exact(Zk hk ‹¬k<_› hd).symm
theorem kN(s:lQ)(v kd bf:Int)(w:World)(hs:Ef (Kw w) s):Calls Tryz.prog 76 #[.agg (MW s),I v,I kd,I bf] w (Pure (B (rB s v kd bf)) w):=by
 have BA:=hs.aq.sl.small
 have Kj:=hs.vars.sl.small
 unfold maxLen at BA Kj
 refine eH func76 rfl rfl fun hH=>SR<|gO hH (v:= .agg _) rfl<|fun b3 w1 bq=>va (v:=B false) rfl<|aa<|SR<|mI rfl<|V (dF O O)<|mB rfl<|bM 11 O (fun h5=> ?_) (fun h5=> ?_)
 .refine mI rfl<|V (fA gH 1 O uz O)<|V (bZ (hs.vars.sl.hp bq) l6 O O (bq.cell (i:=0) O O))<|V (aD (hs.vars.sl.hp bq) O l6 O)<|V (aN O O)<|mB rfl<|mB rfl<|bM 18 O (fun h7=> ?_) (fun h7=> ?_)
  .refine V (fA gH 1 O uz O)<|V (bZ (hs.vars.sl.hp bq) l6 O O (bq.cell (i:=0) O O))<|mI rfl<|V (ah (hs.vars.sl.hp bq) l6 Fm O O J)<|V (fA o8 1 O aP O)<|V (gC (dv:=fq) (off:=1) tN (hs.vars.sl.hp bq) bx O O J O)<|mI rfl<|V (bW O O)<|mB rfl<|mB rfl<|bM 28 O (fun h9=> ?_) (fun h9=> ?_)
   .refine V (fA gH 1 O uz O)<|V (bZ (hs.vars.sl.hp bq) l6 O O (bq.cell (i:=0) O O))<|mI rfl<|V (ah (hs.vars.sl.hp bq) l6 Fm O O J)<|V (fA o8 2 O aP O)<|V (gC (dv:=fq) (off:=2) tN (hs.vars.sl.hp bq) bx O O J O)<|mI rfl<|V (bW O O)<|mB rfl<|aB rfl<|aa<|aj<|oB O ?_ bq
    (rw[ahR ⟨J,J⟩ ‹(List.getD s.vars _ _).kind=kd›];done)
   refine aF (v:=B false) rfl<|aB rfl<|aa<|aj<|oB O ?_ bq
   (rw[ahQ ‹¬(List.getD s.vars _ _).kind=kd›];done)
  refine aF (v:=B false) rfl<|mB rfl<|cF O rfl<|aF (v:=B false) rfl<|aB rfl<|aa<|aj<|oB O ?_ bq
  (rw[Vw J];done)
 refine aF (v:=B false) rfl<|mB rfl<|cF O rfl<|aF (v:=B false) rfl<|mB rfl<|cF O rfl<|aF (v:=B false) rfl<|aB rfl<|aa<|aj<|oB O ?_ bq
 (rw[Vw J];done)
theorem mA(s:lQ)(bf:Int)(t:iS)(aFB:0<=bf/\bf<s.aq.length)(w:World)(hs:Ef (Kw w) s):Calls Tryz.prog 79 #[.agg (MW s),I bf,.agg (jH t).toArray] w (Pure (B (mv s bf t)) w):=by
 have BA:=hs.aq.sl.small
 have Kj:=hs.vars.sl.small
 unfold maxLen at BA Kj
 refine eH func79 rfl rfl fun hH=>SR<|gO hH (v:= .agg _) rfl<|fun b3 w1 bq=>gO bq (v:= .agg _) rfl<|fun b6 w4 bY=>va (v:=B false) rfl<|aa<|ai<|SR<|V (fA kQ 0 O aP O)<|lI bx bY 0 O O rfl<|V (aN O O)<|aa<|aG O (fun h8=> ?_) (fun h8=> ?_)
 .refine ai<|ew aQ bY<|fun w9 cg=>have AX:=cg;AQ 0 O AX (fA gH 0 O ox O)<|AT 1 O AX (fun w hS=>bZ (hs.aq.sl.hp hS) je O O (hS.cell (i:=1) O O))<|AQ 2 O AX (mV (I _) O)<|AT 3 O AX (fun w hS=>ah (hs.aq.sl.hp hS) je x8 O O J)<|AQ 4 O AX (fA sI 1 O vE O)<|AT 5 O AX (fun w hS=>mj (dv:=mP) (off:=1) (cs:=yj _) oG (hs.aq.sl.hp hS) dw O O O J (Ak _))<|AQ 6 O AX (fA kQ 1 O fl O)<|AT 7 O AX (fun w hS=>nN bI O O O (hS.blk (i:=0) O) (Vs _))<|A1 8<|cm O aC O cg sR (nY _ _ _ ((hs.at J J).mono cg.kw)) (aL call80 O O)<|fun Je cM=>AQ 9 O cM (aV (B _) O)<|AD<|aj<|oB O ?_ cM
  (rw[atom_1 ‹t.var<0›];rfl)
 refine an<|SR<|V (cC (cs:=CM _) gH O O O (bj (bY.blk (i:=1) O)))<|V (fA kQ 0 O aP O)<|lI bx bY 0 O O rfl<|mI rfl<|aH O bY (kN _ _ _ _ _ (hs.mono bY.kw)) (jE call76 O O (show _=I 1 from O) O)<|fun Q1 gW=>aB rfl<|aa<|aj<|oB O ?_ gW
 (rw[asv ‹¬t.var<0›];done)
theorem rW(s:lQ)(bf:Int)(r:BI)(aFB:0<=bf/\bf<s.aq.length)(w:World)(hs:Ef (Kw w) s)(hr:Zj (Kw w) r):Calls Tryz.prog 77 #[.agg (MW s),I bf,.agg (SU r).toArray] w (Pure (B (wg s bf r)) w):=by
 have BA:=hs.aq.sl.small
 have Kj:=hs.vars.sl.small
 unfold maxLen at BA Kj
 have hm3:=hr.fields.small
 unfold maxLen at hm3
 refine eH func77 rfl rfl fun hH=>SR<|gO hH (v:= .agg _) rfl<|fun b3 w1 bq=>gO bq (v:= .agg _) rfl<|fun b6 w4 bY=>va (v:=B false) rfl<|aa<|SR<|va (v:= .slice none 0 0) rfl<|have eE:=bY.eI 9 1;aa<|ai<|SR<|V (fA qk 0 O vF O)<|V (bZ (hr.fields.sl.hp eE) m8 O O (eE.cell (i:=1) O O))<|V (aD (hr.fields.sl.hp eE) O m8 O)<|V (dP O O)<|mB rfl<|bM 13 O (fun h9=> ?_) (fun h9=> ?_)
 .refine gp O O rfl<|gp O O rfl<|gp O O rfl<|gp O O rfl<|gp O O rfl<|gp O O rfl<|Ab<|aF (v:=B true) rfl<|aa<|cz rfl<|SR<|va (v:=B false) rfl<|aa<|aj<|oB O ?_ eE
  exact(amY J).symm
 refine V (fA qk 1 O aP O)<|lI bx eE 1 O O rfl<|V (dF O O)<|mB rfl<|bM 17 O (fun h11=> ?_) (fun h11=> ?_)
 .refine V (cC (cs:=CM _) gH O O O (bj (eE.blk (i:=2) O)))<|V (fA qk 1 O aP O)<|lI bx eE 1 O O rfl<|mI rfl<|aH O eE (kN _ _ _ _ _ (hs.mono eE.kw)) (jE call76 O O (show _=I 2 from O) O)<|fun zl bV=>V (bJ O)<|mB rfl<|mB rfl<|aa<|bX O (fun yt=> ?_) (fun yt=> ?_)
  .refine SR<|va (v:=B false) rfl<|aa<|aj<|oB O ?_ bV
   exact(amZ J (nt ‹(!rB s r.tail 2 bf)=true›)).symm
  refine an<|ai<|SR<|va (v:=I 0) rfl<|aa<|aA<|have hsz:r.fields.length<=16:=J;have htl:r.tail<0\/rB s r.tail 2 bf=true:=(by exact .inr (nf ‹(!rB s r.tail 2 bf)=false›));bt (G:=Int×(List Tx)×Value) (fun⟨k,m,v7⟩ s' w'=>(Fr (rg 6 3 (rg 26 34 [])) _ s')/\(Hp w w' (.row v7 9 1 (m.length) (JL m)::_))/\(s' 7=v7)/\(s' 8=I k)/\(0<=k)/\(k<=r.fields.length)/\(m=(r.fields.take k.toNat).map lK.name)/\((m.length:Int)=k)/\(∀j:Int,0<=j->j<k->rM s bf (r.fields.getD j.toNat nS)=true)) (fun⟨k,m,v7⟩=>(r.fields.length-k).toNat) ((0,[],(.slice none 0 0:Value))) ⟨Fr.refl _ _,bV,rfl,rfl,J,J,rfl,rfl,fun j a b=>absurd b J⟩<| ?_
  rintro⟨k,m,v7⟩ aFe TC ⟨aj1,er,aqM,W6,h0,hk,hm,hml,hg⟩
  obtain⟨ayL,ayM,Oa⟩:=aj1.w3 1 3 5
  refine ai<|SR<|aF W6<|V (fA qk 0 O vF Oa)<|V (bZ (hr.fields.sl.hp er) m8 O O (er.cell (i:=1) O O))<|V (aD (hr.fields.sl.hp er) O m8 O)<|V (aN O O)<|aa<|aG O (fun Ob=> ?_) (fun Ob=> ?_)
  .refine an<|ai<|aA<|SR<|aF aqM<|V (fA qk 0 O vF Oa)<|V (bZ (hr.fields.sl.hp er) m8 O O (er.cell (i:=1) O O))<|aF W6<|V (ah (hr.fields.sl.hp er) m8 HX O O J)<|V (fA HV 0 O kC O)<|V (gC (dv:=nS) (off:=0) sW (hr.fields.sl.hp er) iz O O J O)<|ud 1 1 er (cA dZ O O (sz:=1) (vs:=[.string _]) O O az az O O)<|fun b22 w20 fK=> ?_
   (try simp only[lC]at fK)
   refine gh O fK (i:=1) O (fK.dU (i:=0) (n:=1) (sz:=1) O O az) O O dZ O O (size:=1) (bytes:=16) O O O az gZ J iA<|fun v23 w24 om=> ?_
   refine V (run_assign bz) ?_
   refine aa<|ai<|ew aQ om<|fun Uq dG=>have TO:=dG;?_
   refine AQ 0 O TO (run_move bz) ?_
   refine AQ 1 O TO (run_move W6)<|AT 2 O TO (fun w hS=>ah (hS.sl (i:=1) O) dZ kC O O J)<|AT 3 O TO (fun w hS=>aE iz O O ((hS.sl (i:=1) O).cell _ _ (Vx hml)))<|A1 4<|cm O aC O dG sR (iK _ _) (ay call74 O)<|fun w28 gE=>have Er:=gE;AQ 5 O Er (bJ O)<|AQ 6 O Er (mV (B _) O)<|Ma (dj:=48) O (fun BZ=> ?_) (fun BZ=> ?_)
   .refine AK 7 O O (bR (c:=true) BZ) gE<|AK 8 O O (bR (c:=true) BZ) gE<|AK 9 O O (bR (c:=true) BZ) gE<|AK 10 O O (bR (c:=true) BZ) gE<|AK 11 O O (bR (c:=true) BZ) gE<|AK 12 O O (bR (c:=true) BZ) gE<|AK 13 O O (bR (c:=true) BZ) gE<|AK 14 O O (bR (c:=true) BZ) gE<|AK 15 O O (bR (c:=true) BZ) gE<|AK 16 O O (bR (c:=true) BZ) gE<|AQ 17 O Er (gN (bR (c:=true) BZ) (v:=B true) O)<|AD<|cz rfl<|SR<|va (v:=B false) rfl<|aa<|aj<|oB O ?_ gE
    exact(K5 h0 ‹k<_› (Qk (nt ‹(!iR _)=true›))).symm
   refine AG 7 O O (bR (c:=false) BZ) gE (fun w hS=>cC (cs:=CM _) gH O O ayM (bj (hS.blk (i:=3) O)))<|BQ 8 O O (bR (c:=false) BZ) gE (run_move ayL)<|BQ 9 O O (bR (c:=false) BZ) gE (fA qk 0 O vF Oa)<|AG 10 O O (bR (c:=false) BZ) gE (fun w hS=>bZ (hr.fields.sl.hp hS) m8 O O (hS.cell (i:=2) O O))<|BQ 11 O O (bR (c:=false) BZ) gE (run_move W6)<|AG 12 O O (bR (c:=false) BZ) gE (fun w hS=>ah (hr.fields.sl.hp hS) m8 HX O O J)<|BQ 13 O O (bR (c:=false) BZ) gE (fA HV 1 O kV O)<|AG 14 O O (bR (c:=false) BZ) gE (fun w hS=>mj (dv:=nS) (off:=1) (cs:=jH _) sW (hr.fields.sl.hp hS) kQ O O O J (Qi _))<|A1 15<|cm O (yM O (bR (c:=false) BZ)) O gE sR (mA _ _ _ J _ (hs.mono gE.kw)) (bA call79 O O O)<|fun w33 kr=>BQ 16 O O (bR (c:=false) BZ) kr (bJ O)<|AQ 17 O kr (dR (bR (c:=false) BZ) (v:=B _) O)<|AD<|bX O (fun h37=> ?_) (fun h37=> ?_)
   .refine SR<|va (v:=B false) rfl<|aa<|aj<|oB O ?_ kr
    exact(K5 h0 ‹k<_› (Ql (nt ‹(!mv s bf _)=true›))).symm
   refine an<|au<|aF W6<|V (ax O O J)<|aI rfl<|aa<| ?_
   refine⟨(k+1,m++[(r.fields.getD k.toNat nS).name],v23),aX,aj1.u4.u4.u4.u4.u4.u4.u4.u4.u4,(Hp.conv (kr.sub (sQ sR)) aJ),rfl,(aK I aM),J,J,?_,?_,?_⟩
   .rw[JP h0 ‹k<_›,<-hm]
   .simp only[ed,ey];omega
   exact fun j a b=>if e:j=k then e▸Qn (nf ‹(!iR _)=false›) (nf ‹(!mv s bf _)=false›)else hg j a J
  refine a8 (id:=0) rfl<|SR<|aF aqM<|aH O er (j9 _ _ _ (er.sl (i:=0) O)) (ay call75 O)<|fun w38 jS=>V (aN O O)<|aB rfl<|aa<|aj<|oB O ?_ jS
  (rw[abI hsz htl ‹¬k<_› hg,show m=SX r by rw[hm,jg J];rfl])
 refine aF (v:=B false) rfl<|mB rfl<|aa<|cT rfl<|an<|ai<|SR<|va (v:=I 0) rfl<|aa<|aA<|have hsz:r.fields.length<=16:=J;have htl:r.tail<0\/rB s r.tail 2 bf=true:=(by exact .inl J);bt (G:=Int×(List Tx)×Value) (fun⟨k,m,v7⟩ s' w'=>(Fr (rg 6 3 (rg 26 34 [])) _ s')/\(Hp w w' (.row v7 9 1 (m.length) (JL m)::_))/\(s' 7=v7)/\(s' 8=I k)/\(0<=k)/\(k<=r.fields.length)/\(m=(r.fields.take k.toNat).map lK.name)/\((m.length:Int)=k)/\(∀j:Int,0<=j->j<k->rM s bf (r.fields.getD j.toNat nS)=true)) (fun⟨k,m,v7⟩=>(r.fields.length-k).toNat) ((0,[],(.slice none 0 0:Value))) ⟨Fr.refl _ _,eE,rfl,rfl,J,J,rfl,rfl,fun j a b=>absurd b J⟩<| ?_
 rintro⟨k,m,v7⟩ aFC w41 ⟨W7,jW,aqN,W8,h0,hk,hm,hml,hg⟩
 obtain⟨ayN,Oz,E1⟩:=W7.w3 1 3 5
 refine ai<|SR<|aF W8<|V (fA qk 0 O vF E1)<|V (bZ (hr.fields.sl.hp jW) m8 O O (jW.cell (i:=1) O O))<|V (aD (hr.fields.sl.hp jW) O m8 O)<|V (aN O O)<|aa<|aG O (fun h43=> ?_) (fun h43=> ?_)
 .refine an<|ai<|aA<|SR<|aF aqN<|V (fA qk 0 O vF E1)<|V (bZ (hr.fields.sl.hp jW) m8 O O (jW.cell (i:=1) O O))<|aF W8<|V (ah (hr.fields.sl.hp jW) m8 HX O O J)<|V (fA HV 0 O kC O)<|V (gC (dv:=nS) (off:=0) sW (hr.fields.sl.hp jW) iz O O J O)<|ud 1 1 jW (cA dZ O O (sz:=1) (vs:=[.string _]) O O az az O O)<|fun b46 w44 r9=> ?_
  (try simp only[lC]at r9)
  refine gh O r9 (i:=1) O (r9.dU (i:=0) (n:=1) (sz:=1) O O az) O O dZ O O (size:=1) (bytes:=16) O O O az gZ J iA<|fun v47 w48 F7=> ?_
  refine V (run_assign bz) ?_
  refine aa<|ai<|ew aQ F7<|fun w50 qy=>have um:=qy;?_
  refine AQ 0 O um (run_move bz) ?_
  refine AQ 1 O um (run_move W8)<|AT 2 O um (fun w hS=>ah (hS.sl (i:=1) O) dZ kC O O J)<|AT 3 O um (fun w hS=>aE iz O O ((hS.sl (i:=1) O).cell _ _ (Vx hml)))<|A1 4<|cm O aC O qy sR (iK _ _) (ay call74 O)<|fun w52 jA=>have aug:=jA;AQ 5 O aug (bJ O)<|AQ 6 O aug (mV (B _) O)<|Ma (dj:=48) O (fun Hx=> ?_) (fun Hx=> ?_)
  .refine AK 7 O O (bR (c:=true) Hx) jA<|AK 8 O O (bR (c:=true) Hx) jA<|AK 9 O O (bR (c:=true) Hx) jA<|AK 10 O O (bR (c:=true) Hx) jA<|AK 11 O O (bR (c:=true) Hx) jA<|AK 12 O O (bR (c:=true) Hx) jA<|AK 13 O O (bR (c:=true) Hx) jA<|AK 14 O O (bR (c:=true) Hx) jA<|AK 15 O O (bR (c:=true) Hx) jA<|AK 16 O O (bR (c:=true) Hx) jA<|AQ 17 O aug (gN (bR (c:=true) Hx) (v:=B true) O)<|AD<|cz rfl<|SR<|va (v:=B false) rfl<|aa<|aj<|oB O ?_ jA
   exact(K5 h0 ‹k<_› (Qk (nt ‹(!iR _)=true›))).symm
  refine AG 7 O O (bR (c:=false) Hx) jA (fun w hS=>cC (cs:=CM _) gH O O Oz (bj (hS.blk (i:=3) O)))<|BQ 8 O O (bR (c:=false) Hx) jA (run_move ayN)<|BQ 9 O O (bR (c:=false) Hx) jA (fA qk 0 O vF E1)<|AG 10 O O (bR (c:=false) Hx) jA (fun w hS=>bZ (hr.fields.sl.hp hS) m8 O O (hS.cell (i:=2) O O))<|BQ 11 O O (bR (c:=false) Hx) jA (run_move W8)<|AG 12 O O (bR (c:=false) Hx) jA (fun w hS=>ah (hr.fields.sl.hp hS) m8 HX O O J)<|BQ 13 O O (bR (c:=false) Hx) jA (fA HV 1 O kV O)<|AG 14 O O (bR (c:=false) Hx) jA (fun w hS=>mj (dv:=nS) (off:=1) (cs:=jH _) sW (hr.fields.sl.hp hS) kQ O O O J (Qi _))<|A1 15<|cm O (yM O (bR (c:=false) Hx)) O jA sR (mA _ _ _ J _ (hs.mono jA.kw)) (bA call79 O O O)<|fun w57 oP=>BQ 16 O O (bR (c:=false) Hx) oP (bJ O)<|AQ 17 O oP (dR (bR (c:=false) Hx) (v:=B _) O)<|AD<|bX O (fun h61=> ?_) (fun h61=> ?_)
  .refine SR<|va (v:=B false) rfl<|aa<|aj<|oB O ?_ oP
   exact(K5 h0 ‹k<_› (Ql (nt ‹(!mv s bf _)=true›))).symm
  refine an<|au<|aF W8<|V (ax O O J)<|aI rfl<|aa<| ?_
  refine⟨(k+1,m++[(r.fields.getD k.toNat nS).name],v47),aX,W7.u4.u4.u4.u4.u4.u4.u4.u4.u4,(Hp.conv (oP.sub (sQ sR)) aJ),rfl,(aK I aM),J,J,?_,?_,?_⟩
  .rw[JP h0 ‹k<_›,<-hm]
  .simp only[ed,ey];omega
  exact fun j a b=>if e:j=k then e▸Qn (nf ‹(!iR _)=false›) (nf ‹(!mv s bf _)=false›)else hg j a J
 refine a8 (id:=0) rfl<|SR<|aF aqN<|aH O jW (j9 _ _ _ (jW.sl (i:=0) O)) (ay call75 O)<|fun w62 o6=>V (aN O O)<|aB rfl<|aa<|aj<|oB O ?_ o6
 (rw[abI hsz htl ‹¬k<_› hg,show m=SX r by rw[hm,jg J];rfl])
end
end Go.Proofs.YtlhjdflgjbkpmaaGreatDoor.W

/- Part 6 of the proof of FlowWhy: its plain laws and the walks of its functions. -/
import Derived.Test.YtlhjdflgjbkpmaaGreatDoorFlowWhyPartE
set_option linter.all false
namespace Go.Proofs.YtlhjdflgjbkpmaaGreatDoor.W
section
open Go Go.RowKit Go.Proofs.YtlhjdflgjbkpmaaGreatDoor.E Go.Proofs.YtlhjdflgjbkpmaaGreatDoor.M
set_option maxRecDepth 100000
open Go.Proofs.Tryz
theorem TW(a:Int):Tryz.prog.built 233 [(0,I a)]=some (G3 ⟨a,0⟩).toArray:=rfl
theorem ae9{a b c d e:Value}(h1:a.cells=#[a])(h2:b.cells=#[b])(h3:c.cells=#[c])(h4:d.cells=#[d])(h5:e.cells=#[e]):Tryz.prog.built 222 [(0,a),(1,b),(2,c),(3,d),(7,e)]=some #[a,b,c,d,.slice none 0 0,.slice none 0 0,I 0,e]:=
 (show Tryz.prog.built 222 [(0,a),(1,b),(2,c),(3,d),(7,e)]=Instr.fill (#[(0,1),(1,1),(2,1),(3,1),(4,1),(5,1),(6,1),(7,1)][·]?) #[.slice none 0 0,.slice none 0 0,.slice none 0 0,.slice none 0 0,.slice none 0 0,.slice none 0 0,I 0,.slice none 0 0] [(0,a),(1,b),(2,c),(3,d),(7,e)]from O).trans (by simp only[Instr.fill,h1,h2,h3,h4,h5];rfl)
abbrev nE(n:Nat)(wr:Value)(vL:Value)(vt:Value)(vv:Value)(vy:Value)(vu:Value)(vq:Value)(sn:Int)(vW:Value)(vU:Value)(vT:Value)(cn:Int)(sk:Bool)(wy:BitVec 64)(vd:Value)(vm:Value)(cW:Option (Nat×Array Value))(cU:Option (Nat×Array Value))(W:List (BitVec 64))(ul:List (Value×jU))(ts:List Int)(aq:List pY)(bf:List Int)(ak:List El)(bp:List (BitVec 64))(us:List j5)(qs:List dD)(lg:List (Value×mE))(tm:List Int)(L:List bu):List bu:= .blk n (.cells #[wr,vL,vt,vv,vy,vu,vq,I sn,vW,vU,vT,I cn,B sk,U wy,vd,vm] 111 (0,0))::cE cW vW 35 (W.map U)::cE cU vU 1 (ul.map Prod.fst)::jY I vT 3 ts::wu XC 13 vL 119 aq::jY I vt 3 bf::wu pM 8 vv 37 ak::jY U vy 35 bp::jY j5.v vu 99 us::wu qw 13 vq 128 qs::jY Prod.fst vd 1 lg::jY I vm 3 tm::L
abbrev wE(b:Nat)(ql qi:Value)(cq:Option (Nat×Array Value))(wl:List Int)(wi:List Bool)(L:List bu):List bu:= .blk b (.cells #[ql,qi] 156 (0,0))::qE cq ql 3 (wl.map I)::jY B qi 4 wi::L
abbrev NX:NTy:=⟨54,48,58,193,157,88,45,31,3,37,35,128⟩
theorem PE(b k c:Nat):Tryz.prog.built 156 [(1,.slice (some ⟨b,0,none⟩) k c)]=some #[.slice none 0 0,.slice (some ⟨b,0,none⟩) k c]:=rfl
abbrev NZ(n:Nat)(F:NF)(s:NP)(lg:List (Value×mE))(tm:List Int)(L:List bu):List bu:=(nE n (s.wr) (F.vL) (F.vt) (F.vv) (F.vy) (F.vu) (F.vq) (s.sn) (F.vW) (F.vU) (F.vT) (F.cn) (s.sk) (s.wy) (F.vd) (F.vm) (F.cW) (F.cU) (F.W) (F.ul) (F.ts) (s.aq) (s.bf) (s.ak) (s.bp) (F.us) (s.qs) lg tm L)
structure azV(n m:Nat)(F:NF)(s:NP)(L:List bu):Prop where
 fo:xA FX n m s.cs F.vW F.vU F.cW F.cU F.W F.ul F.ts F.cn L
 us:qu F.us=s.us
def wL(n m:Nat)(s:NP)(lg:List (Value×mE))(tm:List Int)(R L0 Z:List bu):Prop:=∃F L,azV n m F s L/\(∀b o,bu.blk b o∈L0->bu.blk b o∈L)/\Z=NZ n F s lg tm (F.us.map (dS 3)++(R++L))
def aoI(W0:World)(n m:Nat)(R L0:List bu)(x:Value×mE)(s:NP):Prop:=∀lg tm Z w,wL n m s lg tm R L0 Z->Hp W0 w Z->Az Tryz.prog x.1 [] w (j3 fun u w'=>u= .tuple #[]/\∃Z',wL n m (wx x.2 s) lg tm R L0 Z'/\Hp W0 w' Z')
theorem afa{x:Value}(h:x.cells=#[x]):Tryz.prog.built 111 [(0,x)]=some #[x,.slice none 0 0,.slice none 0 0,.slice none 0 0,.slice none 0 0,.slice none 0 0,.slice none 0 0,I 0,.slice none 0 0,.slice none 0 0,.slice none 0 0,I 0,B false,U 0,.slice none 0 0,.slice none 0 0]:=
 (show Tryz.prog.built 111 [(0,x)]=Instr.fill (#[(0,1),(1,1),(2,1),(3,1),(4,1),(5,1),(6,1),(7,1),(8,4),(12,1),(13,1),(14,1),(15,1)][·]?) #[.nilFunc,.slice none 0 0,.slice none 0 0,.slice none 0 0,.slice none 0 0,.slice none 0 0,.slice none 0 0,I 0,.slice none 0 0,.slice none 0 0,.slice none 0 0,I 0,B false,U 0,.slice none 0 0,.slice none 0 0] [(0,x)]from O).trans (by simp only[Instr.fill,h];rfl)
theorem yC(p:kW)(e l j:Value)(d:Wr)(low:El):Tryz.prog.built 119 [(0,.agg (qW p)),(1,.agg #[e,l,j]),(2,.agg (iM low))]=some (XC ⟨p,e,l,j,d,low⟩).toArray:=by
 rw[iq];kernel_rfl
def WrF(x:Value)(ids:List Nat):Prop:=x= .nilFunc\/∃(m:Nat) (f:FuncId) (cs:List Value),x=jO f cs.toArray/\m∈ids/\(∀args w,(callFunc f args).run Tryz.prog w= .ok (.enter f args) w)/\∀(K:Vu) (d:Wr) (e l j:Value) (w:World),Le K (Kw w)->BK TX K d e l j->Calls Tryz.prog f ([Value.agg #[e,l,j]]++cs).toArray w (EI K (fun K' u=>∃f1 f2 f3 a1 a2 a3,u= .agg #[jO f1 a1,jO f2 a2,jO f3 a3]/\BK TX K' (.wrap m d) (jO f1 a1) (jO f2 a2) (jO f3 a3)) w)
theorem WrF.fn{x:Value}{ids:List Nat}(h:WrF x ids):x= .nilFunc\/∃f c,x=jO f c:=by
 rcases h with h|⟨m,f,cs,h,_⟩
 .exact .inl h
 exact .inr ⟨_,_,h⟩
theorem WrF.yes{x:Value}{ids:List Nat}(h:WrF x ids)(hx:aja x=true):∃(m:Nat) (f:FuncId) (cs:List Value),x=jO f cs.toArray/\m∈ids/\(∀args w,(callFunc f args).run Tryz.prog w= .ok (.enter f args) w)/\∀(K:Vu) (d:Wr) (e l j:Value) (w:World),Le K (Kw w)->BK TX K d e l j->Calls Tryz.prog f ([Value.agg #[e,l,j]]++cs).toArray w (EI K (fun K' u=>∃f1 f2 f3 a1 a2 a3,u= .agg #[jO f1 a1,jO f2 a2,jO f3 a3]/\BK TX K' (.wrap m d) (jO f1 a1) (jO f2 a2) (jO f3 a3)) w):=by
 rcases h with rfl|h
 .cases hx
 exact h
def WrD(x:Value)(d:Wr):Prop:=(aja x=false->d.dep=0)/\d.dep<=1
theorem Bb{v u:Value}(k:Int)(l:List dX)(t:iS)(y:BitVec 64)(m:List Int)(h:v.cells=#[v])(h2:u.cells=#[u]):Tryz.prog.built 128 [(0,I k),(1,v),(2,.agg (jH t).toArray),(3,U y),(4,u)]=some (qw ⟨k,v,l,t,y,u,m⟩).toArray:=
 (show Tryz.prog.built 128 [(0,I k),(1,v),(2,.agg (jH t).toArray),(3,U y),(4,u)]=Instr.fill (#[(0,1),(1,1),(2,9),(11,1),(12,1)][·]?) #[I 0,.slice none 0 0,I 0,U 0,U 0,U 0,U 0,U 0,U 0,U 0,U 0,U 0,.slice none 0 0] [(0,I k),(1,v),(2,.agg (jH t).toArray),(3,U y),(4,u)]from O).trans (by simp only[Instr.fill,h,h2];kernel_rfl)
def kA(fr:List bu)(W0:World)(n:Nat)(s:NP)(lg:List (Value×mE))(tm:List Int)(ids:List Nat)(f:Ct)(tl:List (Nat×Rl))(b c:Nat)(Z:List bu):Prop:=∃m L0 Zf,(m<=c+200*b/\lg.length<=c+4300000000*b/\tm.length<=c+b/\FO (20000000*b) f)/\kY (BN fr) ids f tl Zf/\Wf TX (Kz (Kw W0) L0) ids tl s.aq/\ZN (Kz (Kw W0) L0) s.qs/\(∀x∈lg,nr NX n L0 x)/\wL n m s lg tm Zf L0 Z
theorem Lg{α:Type}{l m:List α}(h:∀f:List α->Nat,(∀a b,f (a++b)=f a+f b)->f l=f m):l.Perm m:=by
 haveI:DecidableEq α:=fun a b=>Classical.propDecidable (a=b)
 rw[List.perm_iff_count]
 exact fun a=>h (List.count a) fun x y=>Yc
theorem Gb{n:Nat}{F:NF}{s:NP}{lg:List (Value×mE)}{tm:List Int}(X:List bu):NZ n F s lg tm X=NZ n F s lg tm []++X:=rfl
theorem kA.auJ{fr A R Z:List bu}{W0 w:World}{n:Nat}{s:NP}{lg:List (Value×mE)}{tm:List Int}{ids:List Nat}{f:Ct}{tl:List (Nat×Rl)}{b c:Nat}(h:kA fr W0 n s lg tm ids f tl b c Z)(hH:Hp W0 w (A++(Z++R))):∃Z2,kA (A++(R++fr)) W0 n s lg tm ids f tl b c Z2/\Hp W0 w Z2:=by
 obtain⟨m,L0,Zf,hb,⟨Zt,ht,rfl⟩,h1,h2,h3,F,L,hI,hL,rfl⟩:=h
 refine⟨_,⟨m,L0,_,hb,⟨Zt,ht,rfl⟩,h1,h2,h3,F,L,hI,hL,rfl⟩,hH.perm (Lg fun g hg=> ?_)⟩
 rw[Gb,Gb (X:=F.us.map (dS 3)++((_++(A++(R++fr))++Zt)++L)),show ids.map (fun m=>s0 (BN (A++(R++fr))) m (f m))=ids.map fun m=>s0 (BN fr) m (f m)from O]
 simp only[hg]
 omega
theorem kA.out{fr A R Z:List bu}{W0 w:World}{n:Nat}{s:NP}{lg:List (Value×mE)}{tm:List Int}{ids:List Nat}{f:Ct}{tl:List (Nat×Rl)}{b c:Nat}(h:kA (A++(R++fr)) W0 n s lg tm ids f tl b c Z)(hH:Hp W0 w Z):∃Z2,kA fr W0 n s lg tm ids f tl b c Z2/\Hp W0 w (A++(Z2++R)):=by
 obtain⟨m,L0,Zf,hb,⟨Zt,ht,rfl⟩,h1,h2,h3,F,L,hI,hL,rfl⟩:=h
 refine⟨_,⟨m,L0,_,hb,⟨Zt,ht,rfl⟩,h1,h2,h3,F,L,hI,hL,rfl⟩,hH.perm (Lg fun g hg=> ?_)⟩
 rw[Gb,Gb (X:=F.us.map (dS 3)++((_++fr++Zt)++L)),show ids.map (fun m=>s0 (BN (A++(R++fr))) m (f m))=ids.map fun m=>s0 (BN fr) m (f m)from O]
 simp only[hg]
 omega
theorem kA.azX{fr A X Z:List bu}{W0 w:World}{n:Nat}{s:NP}{lg:List (Value×mE)}{tm:List Int}{ids:List Nat}{f:Ct}{tl:List (Nat×Rl)}{b c:Nat}(h:kA fr W0 n s lg tm ids f tl b c Z)(hH:Hp W0 w (A++(Z++X))):∃m L0 Zf Z2,(m<=c+200*b/\lg.length<=c+4300000000*b/\tm.length<=c+b/\FO (20000000*b) f)/\kY (BN (A++([]++fr))) ids f tl Zf/\Wf TX (Kz (Kw W0) L0) ids tl s.aq/\ZN (Kz (Kw W0) L0) s.qs/\(∀x∈lg,nr NX n L0 x)/\wL n m s lg tm Zf L0 Z2/\Hp W0 w Z2/\∀b o,bu.blk b o∈X->bu.blk b o∈L0:=by
 obtain⟨m,L0,Zf,hb,⟨Zt,ht,rfl⟩,h1,h2,h3,F,L,hI,hL,rfl⟩:=h
 have hm:∀b o,bu.blk b o∈L0->bu.blk b o∈X++L0:=fun b o hb=>bH _ hb
 refine⟨m,X++L0,_,_,hb,⟨Zt,ht,rfl⟩,h1.mono (Le.zb hm),h2.mono (Le.zb hm),fun x hx=>(h3 x hx).EP hm,⟨F,X++L,⟨hI.fo.mono fun e he=>bH _ he,hI.us⟩,fun b o hb=> ?_,rfl⟩,hH.perm (Lg fun g hg=> ?_),fun b o hb=>dI _ hb⟩
 .rcases fh.1 hb with q|q
  .exact dI _ q
  exact bH _ (hL b o q)
 rw[Gb,Gb (X:=F.us.map (dS 3)++((_++(A++([]++fr))++Zt)++(X++L))),show ids.map (fun m=>s0 (BN (A++([]++fr))) m (f m))=ids.map fun m=>s0 (BN fr) m (f m)from O]
 simp only[hg,eR]
 omega
theorem WrF.cells{x:Value}{ids:List Nat}(h:WrF x ids):x.cells=#[x]:=by
 rcases h with rfl|⟨m,f,cs,rfl,_⟩<;>rfl
theorem WrF.one{x:Value}{ids:List Nat}(h:WrF x ids):x.oneCell'=true:=by
 rcases h with rfl|⟨m,f,cs,rfl,_⟩<;>rfl
theorem kA.new{fr A Zn Zf:List bu}{W0 w:World}{n:Nat}{x:Value}{ids:List Nat}{f:Ct}(hn:wL n 0 (NP.mk [] [] [] [] [] [] 0 [[]] false 0 x) [] [] [] [] Zn)(hz:kY (BN fr) ids f [] Zf)(hf:FO 0 f)(hH:Hp W0 w (Zn++(A++Zf))):∃Z,kA fr W0 n (npL [] x) [] [] ids f [] 0 0 Z/\Hp W0 w (A++(Z++[])):=by
 obtain⟨F,L,hI,hL,rfl⟩:=hn
 refine⟨_,⟨0,[],Zf,⟨J,aJ,aJ,hf⟩,hz,(fun x hx=>by cases hx),(fun x hx=>by cases hx),(fun x hx=>by cases hx),F,L,hI,(fun b o h=>mO),rfl⟩,hH.perm (Lg fun g hg=> ?_)⟩
 have e:∀X,NZ n F (npL [] x) [] [] X=NZ n F (NP.mk [] [] [] [] [] [] 0 [[]] false 0 x) [] [] []++X:=fun X=>rfl
 rw[Gb,e]
 simp only[hg]
 omega
theorem kA.more{fr Z:List bu}{W0:World}{n:Nat}{s:NP}{lg:List (Value×mE)}{tm:List Int}{ids:List Nat}{f:Ct}{tl:List (Nat×Rl)}{b c b' c':Nat}(h:kA fr W0 n s lg tm ids f tl b c Z)(hb:b<=b')(hc:c<=c'):kA fr W0 n s lg tm ids f tl b' c' Z:=by
 obtain⟨m,L0,Zf,⟨h1,h2,h3,h4⟩,h5⟩:=h
 exact⟨m,L0,Zf,⟨J,J,J,h4.mono J⟩,h5⟩
theorem aaN(k:Int)(e:El):Tryz.prog.built 90 [(0,I k),(2,.agg (iM e))]=some (kq ⟨k,0,e⟩).toArray:=by
 rw[iq];kernel_rfl
theorem OP(k v:Int):Tryz.prog.built 90 [(0,I k),(1,I v)]=some (kq ⟨k,v,df⟩).toArray:=aQ
theorem DE(v:Int):Tryz.prog.built 39 [(0,I v)]=some (jH ⟨v,df⟩).toArray:=aQ
theorem Xl(s:lQ):Tryz.prog.built 28 [(0,.agg (MW s))]=some (sy ⟨s,.slice none 0 0,[]⟩).toArray:=rfl
theorem aaO{l:List gL}{a:BitVec 64}{k:Int}(h0:0<=k):p8 l a (k+1).toNat=p8 l a k.toNat++if a.getLsbD k.toNat then[l.getD k.toNat dN]else[]:=by
 rw[show(k+1).toNat=k.toNat+1 by omega];exact aeK
theorem Rh:∀w,(zeroValue 28).run Tryz.prog w= .ok (.agg #[.slice none 0 0,.slice none 0 0,.slice none 0 0]) w:=fun w=>Tryz.zeroValue28 w
variable{fr:List bu}
variable{W0 w:World}{n m:Nat}{cs:List (List Nat)}{wr:Value}{vL:Value}{vt:Value}{vv:Value}{vy:Value}{vu:Value}{vq:Value}{sn:Int}{vW:Value}{vU:Value}{vT:Value}{cn:Int}{sk:Bool}{wy:BitVec 64}{vd:Value}{vm:Value}{cW:Option (Nat×Array Value)}{cU:Option (Nat×Array Value)}{W:List (BitVec 64)}{ul:List (Value×jU)}{ts:List Int}{aq:List pY}{bf:List Int}{ak:List El}{bp:List (BitVec 64)}{us:List j5}{qs:List dD}{lg:List (Value×mE)}{tm:List Int}{L:List bu}
theorem xM(W0:World)(b:Nat)(vg vo vl vn vs vf vq:Value)(cs:Option (Nat×Array Value))(od lo:List Int)(on:List Bool)(sk:List Int)(fr:List Ei)(tm:Int)(k8:List Int)(L:List bu)(i:Int)(hl1:lo.length=od.length)(hl2:on.length=od.length)(hl3:k8.length=od.length)(hi:0<=i/\i<od.length)(ht:0<=tm/\tm<=1000000)(hsl:sk.length<=1000000)(hfl:fr.length<=1000000)(w:World)(hks:cO cs vs (sk.map I))(hH:Hp W0 w (.blk b (.cells #[vg,vo,vl,vn,vs,vf,I (tm),vq] 222 (0,0))::jY I vo 3 (od)::jY I vl 3 (lo)::jY B vn 4 (on)::cE cs vs 3 ((sk).map I)::wu G3 2 vf 233 (fr)::jY I vq 3 (k8)::L)):Calls Tryz.prog 187 #[.pointer (some ⟨b,0,none⟩),I i] w (j3 fun u w'=>u= .tuple #[]/\∃vs' vf':Value,Hp W0 w' (.blk b (.cells #[vg,vo,vl,vn,vs',vf',I (tm+1),vq] 222 (0,0))::jY I vo 3 (od.set i.toNat (tm+1))::jY I vl 3 (lo.set i.toNat (tm+1))::jY B vn 4 (on.set i.toNat true)::cE none vs' 3 ((sk++[i]).map I)::wu G3 2 vf' 233 (fr++[⟨i,0⟩])::jY I vq 3 (k8)::L)):=by
 refine en func187 rfl rfl<|SR<|aF (v:=Pn _ _) rfl<|V (af O)<|V (fA fU 6 O aP O)<|lI bx hH 0 O O rfl<|V (ax O O J)<|V (af O)<|V (fA fU 6 O aP O)<|bg hH (i:=0) O (bK O O (v:=I _) O O O (hH.blk (i:=0) O) aJ)<|fun w1 bq=> ?_
 simp only[jd,lf,n5,gQ,Nat.reduceAdd]at bq
 refine aa<|ai<|fZ (z:=⟨none,_,_,_,_,none⟩) aQ O aQ bq (sP (sQ (sQ sR)))<|fun w3 ix=>have E4:=ix.sub (sP (sQ (sQ sR)));AQ 0 O E4 (mV (Pn _ _) O)<|AQ 1 O E4 (af O)<|AQ 2 O E4 (fA fU 1 O dJ O)<|tV 3 O E4 bD 0 O O rfl<|AQ 4 O E4 (mV (I _) O)<|AQ 5 O E4 (mV (Pn _ _) O)<|AQ 6 O E4 (af O)<|AQ 7 O E4 (fA fU 2 O dJ O)<|tV 8 O E4 bD 0 O O rfl<|AQ 9 O E4 (mV (I _) O)<|AQ 10 O E4 (mV (Pn _ _) O)<|AQ 11 O E4 (af O)<|AQ 12 O E4 (fA fU 3 O HY O)<|tV 13 O E4 ry 0 O O rfl<|AQ 14 O E4 (mV (I _) O)<|AQ 15 O E4 (mV (Pn _ _) O)<|AQ 16 O E4 (af O)<|AQ 17 O E4 (fA fU 6 O aP O)<|tI 18 O E4 bx 0 O O rfl<|AQ 19 O E4 (mV (Pn _ _) O)<|AQ 20 O E4 (af O)<|AQ 21 O E4 (fA fU 6 O aP O)<|tI 22 O E4 bx 0 O O rfl<|A1 23<|cf O aC O ix (sP (sQ (sQ sR))) (ah (ix.sl (i:=1) O) bD aP O O J)<|A1 24<|ZI O aC ix (i:=1) O (fun _=>(sP (sQ (sQ sR)))) J O O O O rfl<|fun w9 cg=>A1 25<|cf O aC O cg (sP (sQ (sQ sR))) (ah (cg.sl (i:=2) O) bD aP O O J)<|A1 26<|ZI O aC cg (i:=2) O (fun _=>(sP (sQ (sQ sR)))) J O O O O rfl<|fun Tz cH=>AT 27 O (cH.sub (sP (sQ (sQ sR)))) (fun w hS=>ah (hS.sl (i:=1) O) ry oy O O J)<|AD<|rN (a:=true) cH (i:=3) O J O O O O rfl<|fun TC dQ=>aa<|SR<|aF (v:=Pn _ _) rfl<|aF (v:=Pn _ _) rfl<|V (af O)<|V (fA fU 4 O dJ O)<|lV bD dQ 0 O O rfl<|mI rfl<|ud 1 1 dQ (cA bD O O (sz:=1) (vs:=[I _]) O O az az O O)<|fun b21 Q2 cP=> ?_
 (try simp only[lC]at cP)
 refine asY O cP (i:=5) O hks (cP.dU (i:=0) (n:=1) (sz:=1) O O az) O O bD O O (bytes:=8) O O O O J az<|fun v22 w23 gM=>V (af O)<|V (fA fU 4 O dJ O)<|bg gM (i:=1) O (bK O O (v:=v22) O (iu (gM.BJ (i:=5) O trivial)).2 (iu (gM.BJ (i:=5) O trivial)).1 (gM.blk (i:=1) O) aJ)<|fun w25 jy=> ?_
 simp only[jd,lf,n5,gQ,Nat.reduceAdd]at jy
 refine aa<|au<|aF (v:=Pn _ _) rfl<|aF (v:=Pn _ _) rfl<|V (af O)<|V (fA fU 5 O qm O)<|lV m7 jy 1 O O rfl<|mI rfl<|V (dL (vs:=[(0,I _)]) O (TW _))<|ud 1 1 jy (lJ nn m7 O O O (l:=[_]) O az az O)<|fun b29 w27 iJ=>asX nn az O iJ (i:=7) O (Hp.gR nn iJ (i:=0) (l:=[_]) O fT) O O m7 O O (bytes:=16) O O O aiM J az<|fun v30 w31 ij=>V (af O)<|V (fA fU 5 O qm O)<|bg ij (i:=2) O (bK O O (v:=v30) O (aZ (ij.get (i:=7) O)).1 (aZ (ij.get (i:=7) O)).2 (ij.blk (i:=2) O) aJ)<|fun w33 kr=> ?_
 simp only[jd,lf,n5,gQ,Nat.reduceAdd]at kr
 refine aa<|rC O ⟨rfl,v22,v30,(kr.sub (sQ (sQ sR)))⟩
theorem HD(W0:World)(b:Nat)(vg vo vl vn vs vf vq:Value)(cs:Option (Nat×Array Value))(od lo:List Int)(on:List Bool)(s1 s2:List Int)(a:Int)(fr:List Ei)(tm:Int)(k8:List Int)(L:List bu)(hl1:lo.length=od.length)(hl2:on.length=od.length)(hl3:k8.length=od.length)(hsl:s1.length+s2.length<=1000000)(hna:a∉s2)(hin:∀x∈((a:Int)::s2),0<=x/\x<od.length)(w:World)(hks:cO cs vs ((s1++((a:Int)::s2)).map I))(hH:Hp W0 w (.blk b (.cells #[vg,vo,vl,vn,vs,vf,I (tm),vq] 222 (0,0))::jY I vo 3 (od)::jY I vl 3 (lo)::jY B vn 4 (on)::cE cs vs 3 (((s1++((a:Int)::s2))).map I)::wu G3 2 vf 233 (fr)::jY I vq 3 (k8)::L)):Calls Tryz.prog 188 #[.pointer (some ⟨b,0,none⟩),I a] w (j3 fun u w'=>u= .tuple #[]/\∃cs':Option (Nat×Array Value),cO cs' (tO vs s1.length) (s1.map I)/\Hp W0 w' (.blk b (.cells #[vg,vo,vl,vn,(tO vs s1.length),vf,I (tm),vq] 222 (0,0))::jY I vo 3 (od)::jY I vl 3 (lo)::jY B vn 4 (gF on ((a:Int)::s2) false)::cE cs' (tO vs s1.length) 3 ((s1).map I)::wu G3 2 vf 233 (fr)::jY I vq 3 (gF k8 ((a:Int)::s2) (CV a ((a:Int)::s2)))::L)):=by
 have aPI:((a:Int)::s2).length=s2.length+1:=rfl
 refine en func188 rfl rfl<|SR<|aF (v:=Pn _ _) rfl<|V (af O)<|V (fA fU 4 O dJ O)<|lV bD hH 0 O O rfl<|V (aD (hH.BJ (i:=4) O hks) O bD O)<|V (eS O O iW)<|aI rfl<|aa<|ai<|aA<|bt (G:=Int) (fun k s' w'=>(Fr (4::(rg 17 11 [])) _ s')/\(Hp W0 w' _)/\(s' 4=I k)/\((s1.length:Int)<=k)/\(k<=s1.length+s2.length)) (fun k=>(k-s1.length).toNat) (((s1++((a:Int)::s2)).length:Int)-1) ⟨Fr.refl _ _,hH,(aK I aJ),iW,iW⟩<| ?_
 rintro k sg1 w1 ⟨uT,jc,AJ,k0,k1⟩
 obtain⟨mF,AM⟩:=uT.w2 0 1
 refine ai<|SR<|aF mF<|V (af O)<|V (fA fU 4 O dJ O)<|lV bD jc 0 O O rfl<|aF AJ<|V (ah (jc.BJ (i:=4) O hks) bD aP O O iW)<|V (aE bx O O ((jc.BJ (i:=4) O hks).cell _ _ (eU iW)))<|aF AM<|V (kL O O)<|aa<|aG O (fun h3=> ?_) (fun h3=> ?_)
 .refine an<|aA<|au<|aF AJ<|V (eS O O J)<|aI rfl<|aa<| ?_
  refine⟨k-1,?_,uT.u4.u4.u4,jc,(aK I aM),?_,J⟩
  ·(have:=aiD ‹_≠a› k0;omega)
  (have:=aiD ‹_≠a› k0;omega)
 refine a8 (id:=0) rfl<|SR<|aF mF<|V (af O)<|V (fA fU 4 O dJ O)<|lV bD jc 0 O O rfl<|aF AJ<|have ek:=asZ hna (Ru.1 ‹¬_≠a›) k0 k1;V (gD (jc.BJ (i:=4) O hks) bD aP O O iW)<| ?_
 refine V (run_assign bz) ?_
 refine aa<|SR<|aF AM<|aI rfl<|aa<|ai<|SR<| ?_
 refine V (run_move bz) ?_
 refine V (aD (D8 (s1:=s1) (a:=a) (s2:=s2) J (jc.BJ (i:=4) O hks)) O bD O)<|aF (v:=I 0) rfl<|aa<|aA<|bt (G:=Int) (fun q s' w'=>(Fr (6::(8::(rg 37 8 []))) _ s')/\(Hp W0 w' _)/\(s' 6=I (CV a (((a:Int)::s2).take q.toNat)))/\(s' 37=I q)/\(0<=q)/\(q<=((a:Int)::s2).length)) (fun q=>(((a:Int)::s2).length-q).toNat) (0) ⟨Fr.refl _ _,jc,rfl,rfl,J,J⟩<| ?_
 rintro q sg4 w4 ⟨C8,ix,F5,akR,q0,q1⟩
 obtain⟨Hl,azZ,az0⟩:=C8.w3 5 35 36
 obtain⟨aeS,WE⟩:=C8.t2 0 mF 4 AJ
 refine SR<|V (aN akR az0)<|aa<|ai<|aG O (fun h6=> ?_) (fun h6=> ?_)
 .refine an<|ai<|aA<|SR<|V (ah (D8 (s1:=s1) (a:=a) (s2:=s2) J (ix.BJ (i:=4) O hks)) bD aP azZ akR J)<|V (aE bx O O ((D8 (s1:=s1) (a:=a) (s2:=s2) J (ix.BJ (i:=4) O hks)).cell _ _ (eU J)))<|aI rfl<|aa<|au<|aF F5<|mI rfl<|V (vI O O)<|aI rfl<|aa<|au<|V (ax akR O J)<|mI rfl<|aa<| ?_
  refine⟨q+1,aX,C8.u4.u4.u1.u1,ix,(aK I (aeu q0 J).symm),(aK I aM),J,J⟩
 refine a8 (id:=2) rfl<|ai<|SR<|aF Hl<|V (aD (D8 (s1:=s1) (a:=a) (s2:=s2) J (ix.BJ (i:=4) O hks)) O bD O)<|aF (v:=I 0) rfl<|aa<|aA<|have hq:((a:Int)::s2).take q.toNat=((a:Int)::s2):=jg J;bt (G:=Int×(List Bool)×(List Int)) (fun⟨q2,J3,J4⟩ s' w'=>(Fr (10::(rg 47 18 [])) _ s')/\(Hp W0 w' (_::_::_::jY B vn 4 J3::_::_::jY I vq 3 J4::_))/\(s' 47=I q2)/\(0<=q2)/\(q2<=((a:Int)::s2).length)/\(J3=gF on (((a:Int)::s2).take q2.toNat) false)/\(J4=gF k8 (((a:Int)::s2).take q2.toNat) (CV a ((a:Int)::s2)))) (fun⟨q2,J3,J4⟩=>(((a:Int)::s2).length-q2).toNat) ((0,on,k8)) ⟨Fr.refl _ _,ix,rfl,J,J,rfl,rfl⟩<| ?_
 rintro⟨q2,J3,J4⟩ sg7 w7 ⟨Ep,eE,akS,r0,r1,hon,hof⟩
 obtain⟨az1,az2⟩:=Ep.w2 45 46
 obtain⟨Gc,Jk,akb⟩:=Ep.t3 0 aeS 4 WE 6 F5
 have l3:J3.length=od.length:=by rw[hon,jb];exact hl2
 have l4:J4.length=od.length:=by rw[hof,jb];exact hl3
 refine SR<|V (aN akS az2)<|aa<|ai<|aG O (fun h9=> ?_) (fun h9=> ?_)
 .refine an<|ai<|aA<|SR<|V (ah (D8 (s1:=s1) (a:=a) (s2:=s2) J (eE.BJ (i:=4) O hks)) bD aP az1 akS J)<|V (aE bx O O ((D8 (s1:=s1) (a:=a) (s2:=s2) J (eE.BJ (i:=4) O hks)).cell _ _ (eU J)))<|aI rfl<|aa<|have hix:=hin _ (dy (d:=0) r0 ‹q2<_›);fZ (z:=⟨none,_,_,_,_,none⟩) aQ O aQ eE (sP (sP (sP (sP (sP (sP (sQ sR)))))))<|fun Eo dr=>have iP:=dr.sub (sP (sP (sP (sP (sP (sP (sQ sR)))))));AQ 0 O iP (run_move Gc)<|AQ 1 O iP (af O)<|AQ 2 O iP (fA fU 7 O dJ O)<|tV 3 O iP bD 0 O O rfl<|AQ 4 O iP (mV (I _) O)<|AQ 5 O iP (run_move Gc)<|AQ 6 O iP (af O)<|AQ 7 O iP (fA fU 3 O HY O)<|tV 8 O iP ry 0 O O rfl<|AQ 9 O iP (mV (I _) O)<|AQ 10 O iP (run_move akb)<|A1 11<|cf O aC O dr (sP (sP (sP (sP (sP (sP (sQ sR))))))) (ah (dr.sl (i:=6) O) bD aP O O J)<|A1 12<|ZI O aC dr (i:=6) O (fun _=>(sP (sP (sP (sP (sP (sP (sQ sR)))))))) J O O O O rfl<|fun Jg er=>AT 13 O (er.sub (sP (sP (sP (sP (sP (sP (sQ sR)))))))) (fun w hS=>ah (hS.sl (i:=3) O) ry oy O O J)<|AD<|rN (a:=false) er (i:=3) O J O O O O rfl<|fun Lf iC=>aa<|au<|V (ax akS O J)<|mI rfl<|aa<| ?_
  refine⟨(q2+1,_,_),aX,Ep.u4.u4.u4.u4.u1.u1.u1,(Hp.conv iC aM),(aK I aM),J,J,?_,?_⟩
  .rw[CU r0 J,<-hon]
  rw[CU r0 J,<-hof,hq]
 refine a8 (id:=4) rfl<|au<|aF Gc<|aF Gc<|V (af O)<|V (fA fU 4 O dJ O)<|lV bD eE 0 O O rfl<|aF Jk<|aF Jk<|V (wj (eE.BJ (i:=4) O hks) bD aP O O O iW)<|V (af O)<|V (fA fU 4 O dJ O)<|have hs1:=((eE.BJ (i:=4) O hks)).tO (n:=k.toNat) iW;?_
 obtain⟨c20,auK,cK⟩:=eE.asD (i:=4) O hks (m:=k.toNat) iW
 simp only[jd,lf,<-Cg]at cK auK
 refine bg cK (i:=0) O (bK O O (v:=tO vs k.toNat) O (iu hs1).2 (iu hs1).1 (cK.blk (i:=0) O) aJ)<|fun w23 gM=> ?_
 simp only[jd,lf,n5,gQ,Nat.reduceAdd]at gM
 refine aa<|have ek:k.toNat=s1.length:=J;?_
 rw[ek,vC]at gM auK
 have eq2:((a:Int)::s2).take q2.toNat=((a:Int)::s2):=jg J
 rw[eq2]at hon hof
 rw[hon,hof]at gM
 exact rC O ⟨rfl,c20,auK,gM⟩
set_option maxHeartbeats 2000000 in
theorem Jr(W0:World)(b:Nat)(vg vo vl vn vs vf vq:Value)(cs:Option (Nat×Array Value))(gr:List j5)(od lo:List Int)(on:List Bool)(tm:Int)(k8:List Int)(nx:Nat->Nat)(K:Vu)(L:List bu)(i:Int)(hgn:gr.length<=100000)(hS:rZ (qu gr) od lo on tm k8 [] nx)(hi:0<=i/\i<od.length)(h0:oW od i.toNat=0)(w:World)(hK:Le K (Kw W0))(hg:GrV K vg gr)(hks:cO cs vs (([]:List Int).map I))(hH:Hp W0 w (.blk b (.cells #[vg,vo,vl,vn,vs,vf,I (tm),vq] 222 (0,0))::jY I vo 3 (od)::jY I vl 3 (lo)::jY B vn 4 (on)::cE cs vs 3 ([].map I)::wu G3 2 vf 233 []::jY I vq 3 (k8)::L)):Calls Tryz.prog 155 #[.pointer (some ⟨b,0,none⟩),I i] w (j3 fun u w'=>u= .tuple #[]/\∃(F3 PF:Value) (FP:Option (Nat×Array Value)) (Xm:Nat->Nat) (B7 lo1:List Int) (J3:List Bool) (Lh:Int) (J4:List Int),rZ (qu gr) B7 lo1 J3 Lh J4 [] Xm/\cO FP F3 (([]:List Int).map I)/\(oW B7 i.toNat≠0/\∀k,oW od k≠0->oW B7 k≠0)/\Hp W0 w' (.blk b (.cells #[vg,vo,vl,vn,F3,PF,I (Lh),vq] 222 (0,0))::jY I vo 3 (B7)::jY I vl 3 (lo1)::jY B vn 4 (J3)::cE FP F3 3 (([]).map I)::wu G3 2 PF 233 ([])::jY I vq 3 (J4)::L)):=by
 have hr0:=hS.room
 rw[gz]at hr0
 refine en func155 rfl rfl<|Zz<|SR<|aF (v:=Pn _ _) rfl<|mI rfl<|cG O (xM _ _ _ _ _ _ _ _ _ _ _ _ _ _ _ _ _ _ _ (by have:=hS.llo;have:=hS.Ul;omega) (by have:=hS.lon;have:=hS.Ul;omega) (by have:=hS.lof;have:=hS.Ul;omega) hi J (by simp[fJ,NI]) (by simp[pX]) _ hks hH) (aL call187 O O)<| ?_
 rintro _ w3 ⟨rfl,v5,v6,ix⟩
 have hS1:=hS.first (a:=i.toNat) (by rw[<-hS.Ul];omega) h0
 rw[show i=((i.toNat:Nat):Int)by omega,show([]:List Int)++[((i.toNat:Nat):Int)]=NI (fJ [(i.toNat,[])]).reverse from aiN (F:=[]),show([]:List Ei)++[⟨((i.toNat:Nat):Int),0⟩]=pX [(i.toNat,[])] nx from aiO (F:=[]) (hS.nx0 _ h0)]at ix
 simp only[eC]at ix
 refine aa<|ai<|ZA<|aA<| ?_
 refine bt (G:=Uk×(Nat->Nat)×Value×Value×(Option (Nat×Array Value))×(List Int)×(List Int)×(List Bool)×Int×(List Int)) (fun⟨F,Xm,F3,PF,FP,B7,lo1,J3,Lh,J4⟩ s' w'=>(Fr (rg 4 5 (rg 12 173 [])) _ s')/\(Hp W0 w' (.blk b (.cells #[vg,vo,vl,vn,F3,PF,I (Lh),vq] 222 (0,0))::jY I vo 3 (B7)::jY I vl 3 (lo1)::jY B vn 4 (J3)::cE FP F3 3 ((NI (fJ F).reverse).map I)::wu G3 2 PF 233 (pX F Xm)::jY I vq 3 (J4)::_))/\(rZ (qu gr) B7 lo1 J3 Lh J4 F Xm)/\(cO FP F3 ((NI (fJ F).reverse).map I))/\(oW B7 i.toNat≠0/\∀k,oW od k≠0->oW B7 k≠0)) (fun⟨F,Xm,F3,PF,FP,B7,lo1,J3,Lh,J4⟩=>2*B7.count 0+F.length) (([(i.toNat,[])],nx,v5,v6,none,od.set i.toNat (tm+1),lo.set i.toNat (tm+1),on.set i.toNat true,tm+1,k8)) ⟨Fr.refl _ _,ix,hS1,trivial,⟨by rw[AE J];unfold oJ;rw[aY O];omega,fun k hk=>by rw[AE J];unfold oJ;split<;>omega⟩⟩ ?_
 rintro⟨F,Xm,F3,PF,FP,B7,lo1,J3,Lh,J4⟩ sg7 w7 ⟨Ep,eE,hS,aaQ,hdn⟩
 have Gc:=Ep.w1 0
 refine ai<|SR<|aF Gc<|V (af O)<|V (fA fU 5 O qm O)<|lV m7 eE 0 O O rfl<|V (aD (eE.sl (i:=5) O) O m7 O)<|V (dP O O)<|aa<|aG O (fun h9=> ?_) (fun h9=> ?_)
 .refine an<|aA<|ai<| ?_
  obtain⟨a,sg,F0,rfl⟩:=as5 (F:=F) (nx:=Xm) J
  have han:=hS.Fz
  rw[gz]at han
  have q0:=hS.Ul;rw[gz]at q0
  have q1:=hS.llo;rw[gz]at q1
  have q2:=hS.lon;rw[gz]at q2
  have q3:=hS.lof;rw[gz]at q3
  have hrm:=hS.room
  rw[gz]at hrm
  have hst:=abZ hS
  rw[gz]at hst
  have hfs:=anC hS
  simp only[eG]at hfs
  have hlen:((pX ((a,sg)::F0) Xm).length:Int)-1=F0.length:=by rw[oT];simp
  have hfa:(pX ((a,sg)::F0) Xm).getD (F0.length:Int).toNat Kk=⟨a,Xm a⟩:=Te
  refine ew aQ eE<|fun Eo dr=>have iP:=dr;AQ 0 O iP (run_move Gc)<|AQ 1 O iP (af O)<|AQ 2 O iP (fA fU 5 O qm O)<|tV 3 O iP m7 0 O O rfl<|AQ 4 O iP (run_move Gc)<|AQ 5 O iP (af O)<|AQ 6 O iP (fA fU 5 O qm O)<|tV 7 O iP m7 0 O O rfl<|AT 8 O iP (fun w hS=>aD (hS.sl (i:=5) O) O m7 O)<|AQ 9 O iP (eS O O J)<|AT 10 O iP (fun w hS=>ah (hS.sl (i:=5) O) m7 LP O (aK I hlen) J)<|AQ 11 O iP (aV (Pn _ _) O)<|AD<|SR<|aF (v:=Pn _ _) rfl<|V (af O)<|V (fA Fk 0 O aP O)<|V (gC (dv:=Kk) (off:=0) nn (dr.sl (i:=5) O) bx O O J O)<|V (run_assign (show _=I (a:Int)from aK (fun x:Ei=>I x.node) hfa))<|aa<|ai<|aA<|bt (G:=(Nat->Nat)×(List Int)) (fun⟨wM,Li⟩ s' w'=>(Fr (6::(rg 33 83 [])) _ s')/\(Hp W0 w' (_::_::jY I vl 3 Li::_::_::wu G3 2 PF 233 (pX ((a,sg)::F0) wM)::_))/\(rZ (qu gr) B7 Li J3 Lh J4 ((a,sg)::F0) wM)) (fun⟨wM,Li⟩=>(gr.getD (a:Int).toNat de).l.length-wM a) ((Xm,lo1)) ⟨Fr.refl _ _,dr,hS⟩<| ?_
  rintro⟨wM,Li⟩ aal zl ⟨my,cM,hS⟩
  obtain⟨uj,mL⟩:=my.w2 4 5
  have lR:=my.t1 0 Gc
  have hlen:((pX ((a,sg)::F0) wM).length:Int)-1=F0.length:=by rw[oT];simp
  have hfa:(pX ((a,sg)::F0) wM).getD (F0.length:Int).toNat Kk=⟨a,wM a⟩:=Te
  have q1:=hS.llo;rw[gz]at q1
  have hml:=(hg.row (k:=(a:Int)) J J).small
  unfold maxLen at hml
  refine ai<|ai<|ew aQ cM<|fun BR cD=>have yB:=cD;AQ 0 O yB (run_move uj)<|AQ 1 O yB (af O)<|AQ 2 O yB (fA Fk 1 O aP O)<|AT 3 O yB (fun w hS=>gC (dv:=Kk) (off:=1) nn (hS.sl (i:=5) O) bx O O J O)<|AQ 4 O yB (run_move lR)<|AQ 5 O yB (af O)<|AQ 6 O yB (fA fU 0 O zV O)<|tV 7 O yB pN 0 O O rfl<|AQ 8 O yB (run_move mL)<|AT 9 O yB (fun w hS=>ah (hg.1.mono (Le.trans hK hS.kw)).sl pN dJ O O J)<|AT 10 O yB (fun w hS=>aE bD O O ((hg.1.mono (Le.trans hK hS.kw)).sl.cell _ _ (hg.at J)))<|AT 11 O yB (fun w hS=>aD ((hg.row (k:=(a:Int)) J J).mono (Le.trans hK hS.kw)).sl O bD O)<|AQ 12 O yB (aN (show _=I (wM a:Int)from aK (fun x:Ei=>I x.next) hfa) O)<|AD<|aG O (fun yt=> ?_) (fun yt=> ?_)
  .refine an<|aA<|ai<|ew aQ cD<|fun TC dQ=>have q7:=dQ;AQ 0 O q7 (run_move lR)<|AQ 1 O q7 (af O)<|AQ 2 O q7 (fA fU 0 O zV O)<|tV 3 O q7 pN 0 O O rfl<|AQ 4 O q7 (run_move mL)<|AT 5 O q7 (fun w hS=>ah (hg.1.mono (Le.trans hK hS.kw)).sl pN dJ O O J)<|AT 6 O q7 (fun w hS=>aE bD O O ((hg.1.mono (Le.trans hK hS.kw)).sl.cell _ _ (hg.at J)))<|AQ 7 O q7 (run_move uj)<|AQ 8 O q7 (af O)<|AQ 9 O q7 (fA Fk 1 O aP O)<|AT 10 O q7 (fun w hS=>gC (dv:=Kk) (off:=1) nn (hS.sl (i:=5) O) bx O O J O)<|AT 11 O q7 (fun w hS=>ah ((hg.row (k:=(a:Int)) J J).mono (Le.trans hK hS.kw)).sl bD aP O (show _=I (wM a:Int)from aK (fun x:Ei=>I x.next) hfa) J)<|AT 12 O q7 (fun w hS=>aE bx O O (((hg.row (k:=(a:Int)) J J).mono (Le.trans hK hS.kw)).sl.cell _ _ (eU J)))<|AQ 13 O q7 (aV (I _) O)<|AD<|SR<|aF uj<|V (af O)<|V (fA Fk 1 O aP O)<|V (gC (dv:=Kk) (off:=1) nn (dQ.sl (i:=5) O) bx O O J O)<|V (ax (show _=I (wM a:Int)from aK (fun x:Ei=>I x.next) hfa) O J)<|V (af O)<|V (fA Fk 1 O aP O)<|asV (a:=Kk) (u:=I ((wM a:Int)+1)) (b:=⟨((pX ((a,sg)::F0) wM).getD (F0.length:Int).toNat Kk).node,(wM a:Int)+1⟩) nn dQ (i:=5) O Ib O O O O O az rfl<|fun Q2 cP=> ?_
   rw[hfa,eC,aiL hS]at cP
   refine aa<|ai<|SR<|mI rfl<|V (aN O O)<|mB rfl<|bM 68 O (fun h22=> ?_) (fun h22=> ?_)
   .refine aF (v:=B true) rfl<|aa<|cz rfl<|a8 (id:=3) rfl<| ?_
    refine⟨(qY wM a,Li),?_,my.u4.u4.u4.u4.u4.u4.u4.u4.u4.u4.u4.u1,(Hp.conv cP aM),?_⟩
    ·(show(gr.getD (a:Int).toNat de).l.length-qY wM a a<(gr.getD (a:Int).toNat de).l.length-wM a;unfold qY;rw[aY O];omega)
    exact hS.skip fun⟨j,h1,h2⟩=>by rw[FQ]at h2;rw[gz]at h1;have e:((gr.getD (a:Int).toNat de).l.getD (wM a:Int).toNat 0)=j:=h2;omega
   refine mI rfl<|aF lR<|V (af O)<|V (fA fU 0 O zV O)<|lV pN cP 0 O O rfl<|V (aD (hg.1.mono (Le.trans hK cP.kw)).sl O pN O)<|V (dF O O)<|mB rfl<|aa<|aG O (fun yI=> ?_) (fun yI=> ?_)
   .refine a8 (id:=3) O ?_
    refine⟨(qY wM a,Li),?_,my.u4.u4.u4.u4.u4.u4.u4.u4.u4.u4.u4.u1,(Hp.conv cP aM),?_⟩
    ·(show(gr.getD (a:Int).toNat de).l.length-qY wM a a<(gr.getD (a:Int).toNat de).l.length-wM a;unfold qY;rw[aY O];omega)
    exact hS.skip fun⟨j,h1,h2⟩=>by rw[FQ]at h2;rw[gz]at h1;have e:((gr.getD (a:Int).toNat de).l.getD (wM a:Int).toNat 0)=j:=h2;omega
   refine an<|ai<|SR<| ?_
   obtain⟨j,hj⟩:∃j:Nat,((gr.getD (a:Int).toNat de).l.getD (wM a:Int).toNat 0)=(j:Int):=⟨_,(gm J).symm⟩
   have hjn:((qu gr).getD a []).getD (wM a) 0=(j:Int):=by rw[FQ];exact hj
   have hjr:j<(qu gr).length:=by rw[gz];omega
   have hlt:wM a<((qu gr).getD a []).length:=by rw[FQ];show wM a<(gr.getD (a:Int).toNat de).l.length;omega
   refine aF lR<|V (af O)<|V (fA fU 1 O dJ O)<|lV bD cP 0 O O rfl<|mI rfl<|V (ah (cP.sl (i:=1) O) bD aP O (aK I hj) J)<|V (aE bx O O ((cP.sl (i:=1) O).cell _ _ (eU J)))<|V (bW O O)<|aa<|aG O (fun WJ=> ?_) (fun WJ=> ?_)
   .refine SR<|have h0j:oW B7 j=0:=‹B7.getD (j:Int).toNat 0=0›;aF lR<|mI rfl<|cG O (xM _ _ _ _ _ _ _ _ _ _ _ _ _ _ _ _ _ _ _ J J J J J (by simp only[NI,gA,List.length_reverse];omega) Ib _ aaQ cP) (aL call187 O (aK I hj))<| ?_
    rintro _ w29 ⟨rfl,v31,v32,iU⟩
    have hS1:=hS.enter (a:=j) hlt hjn J h0j
    rw[aiN,aiO (Td hS j h0j)]at iU
    simp only[eC]at iU
    refine aa<|a8 (id:=1) rfl<| ?_
    refine⟨(((j,[])::(a,sg)::F0),qY wM a,v31,v32,none,B7.set j (Lh+1),Li.set j (Lh+1),J3.set j true,Lh+1,J4),?_,(((Ep.u4.u4.u4.u4.u4.u1.u1.u1).t my O)).u4.u4.u4.u4.u4.u4.u4.u4.u4.u4.u4.u4.u4.u4,(Hp.conv iU aM),?_,?_,?_⟩
    ·(have c1:=hS.cnt;have c2:=hS1.cnt;simp only[eG];omega)
    .exact hS1
    .exact trivial
    (refine⟨?_,fun k hk=> ?_⟩<;>(rw[AE J];unfold oJ;split<;>first|omega|exact hdn.2 k hk))
   refine an<|SR<|aF lR<|V (af O)<|V (fA fU 3 O HY O)<|lV ry cP 0 O O rfl<|mI rfl<|V (ah (cP.sl (i:=3) O) ry oy O (aK I hj) J)<|V (aE xY O O ((cP.sl (i:=3) O).cell _ _ (lT (dv:=false) J)))<|aa<|bX O (fun h34=> ?_) (fun h34=> ?_)
   .refine fZ (z:=⟨none,_,_,_,_,none⟩) aQ O aQ cP sR<|fun w35 j8=>have s8:=j8;AQ 0 O s8 (run_move lR)<|AQ 1 O s8 (af O)<|AQ 2 O s8 (fA fU 2 O dJ O)<|tV 3 O s8 bD 0 O O rfl<|AQ 4 O s8 (run_move mL)<|AQ 5 O s8 (run_move lR)<|AQ 6 O s8 (af O)<|AQ 7 O s8 (fA fU 2 O dJ O)<|tV 8 O s8 bD 0 O O rfl<|AQ 9 O s8 (run_move mL)<|AT 10 O s8 (fun w hS=>ah (hS.sl (i:=2) O) bD aP O O J)<|AT 11 O s8 (fun w hS=>aE bx O O ((hS.sl (i:=2) O).cell _ _ (eU J)))<|AQ 12 O s8 (run_move lR)<|AQ 13 O s8 (af O)<|AQ 14 O s8 (fA fU 1 O dJ O)<|tV 15 O s8 bD 0 O O rfl<|AQ 16 O s8 (mV (I _) O)<|AT 17 O s8 (fun w hS=>ah (hS.sl (i:=1) O) bD aP O (aK I hj) J)<|AT 18 O s8 (fun w hS=>aE bx O O ((hS.sl (i:=1) O).cell _ _ (eU J)))<|AQ 19 O s8 (vI O O)<|AT 20 O s8 (fun w hS=>ah (hS.sl (i:=2) O) bD aP O O J)<|AD<|rN j8 (i:=2) O J O O O O rfl<|fun w37 uG=>aa<| ?_
    refine⟨(qY wM a,Li.set a (min (oW Li a) (oW B7 j))),?_,my.u4.u4.u4.u4.u4.u4.u4.u4.u4.u4.u4.u4.u4.u4.u4.u4.u4.u4.u4.u4.u1,(Hp.conv uG aM),?_⟩
    ·(show(gr.getD (a:Int).toNat de).l.length-qY wM a a<(gr.getD (a:Int).toNat de).l.length-wM a;unfold qY;rw[aY O];omega)
    exact hS.arc hlt hjr hjn ‹_=true›
   refine an ?_
   refine⟨(qY wM a,Li),?_,my.u4.u4.u4.u4.u4.u4.u4.u4.u4.u4.u4.u4.u4.u4.u4,(Hp.conv cP aM),?_⟩
   ·(show(gr.getD (a:Int).toNat de).l.length-qY wM a a<(gr.getD (a:Int).toNat de).l.length-wM a;unfold qY;rw[aY O];omega)
   exact hS.shut hlt hjr hjn ‹¬B7.getD (j:Int).toNat 0=0› kD
  refine a8 (id:=2) rfl<|ai<|ai<|have hnd:¬wM a<((qu gr).getD a []).length:=(by rw[FQ];show¬wM a<(gr.getD (a:Int).toNat de).l.length;omega);ew aQ cD<|fun w39 lO=>have wK:=lO;AQ 0 O wK (run_move lR)<|AQ 1 O wK (af O)<|AQ 2 O wK (fA fU 2 O dJ O)<|tV 3 O wK bD 0 O O rfl<|AQ 4 O wK (run_move mL)<|AT 5 O wK (fun w hS=>ah (hS.sl (i:=2) O) bD aP O O J)<|AT 6 O wK (fun w hS=>aE bx O O ((hS.sl (i:=2) O).cell _ _ (eU J)))<|AQ 7 O wK (run_move lR)<|AQ 8 O wK (af O)<|AQ 9 O wK (fA fU 1 O dJ O)<|tV 10 O wK bD 0 O O rfl<|AQ 11 O wK (run_move mL)<|AT 12 O wK (fun w hS=>ah (hS.sl (i:=1) O) bD aP O O J)<|AT 13 O wK (fun w hS=>aE bx O O ((hS.sl (i:=1) O).cell _ _ (eU J)))<|AQ 14 O wK (bW O O)<|AD<|aG O (fun h42=> ?_) (fun h42=> ?_)
  .refine au<|aF lR<|aF mL<|have oF:oW Li a=oW B7 a:=‹Li.getD (a:Int).toNat 0=B7.getD (a:Int).toNat 0›;have az5:=aaQ;have mz:=lO;?_
   rw[abY]at az5 mz
   refine cG O (HD _ _ _ _ _ _ _ _ _ _ _ _ _ _ _ _ _ _ _ _ J J J (by have:=abZ hS;have e:=aK List.length (gT (a:=a) (sg:=sg) (F:=F0));simp only[ed,eG]at e;simp only[NI,gA,List.length_reverse];omega) hS.asy (fun x hx=>by obtain⟨k,hk,rfl⟩:=abX (l:=a::sg.reverse) hx;have:=(hS.lt k (by rw[gT];simp at hk⊢;exact hk.elim (fun q=> .inr (.inl q)) .inl)).1;rw[gz]at this;omega) _ az5 mz) (aL call188 O O) ?_
   rintro _ w46 ⟨rfl,c48,az6,o4⟩
   have hS2:=hS.axL (ks:=(a:Int)::NI sg.reverse) hnd oF O
   refine aa<|ai<|fZ (z:=⟨none,_,_,_,_,none⟩) aQ O aQ o4 sR<|fun w50 qy=>have um:=qy;AQ 0 O um (run_move lR)<|AQ 1 O um (run_move lR)<|AQ 2 O um (af O)<|AQ 3 O um (fA fU 5 O qm O)<|tV 4 O um m7 0 O O rfl<|AQ 5 O um (run_move lR)<|AQ 6 O um (af O)<|AQ 7 O um (fA fU 5 O qm O)<|tV 8 O um m7 0 O O rfl<|AT 9 O um (fun w hS=>aD (hS.sl (i:=5) O) O m7 O)<|AQ 10 O um (eS O O J)<|A1 11<|cf O aC O qy sR (rD (qy.sl (i:=5) O) m7 LP O (aK I hlen) (by(simp only[oT,eG];omega)))<|AQ 12 O um (af O)<|AQ 13 O um (fA fU 5 O qm O)<|AD<|have nu:=Hp.axC nn qy (i:=5) O (m:=F0.length) (by(simp only[oT,eG];omega));bg nu (i:=0) O (bK O O (v:=(wR PF (F0.length))) O (aZ (nu.get (i:=5) O)).1 (aZ (nu.get (i:=5) O)).2 (nu.blk (i:=0) O) aJ)<|fun w54 jz=> ?_
   simp only[jd,lf,n5,gQ,Nat.reduceAdd]at jz
   rw[V3]at jz
   refine aa<|SR<|aF lR<|V (af O)<|V (fA fU 5 O qm O)<|lV m7 jz 0 O O rfl<|V (aD (jz.sl (i:=5) O) O m7 O)<|V (run_assign (aK I (show((pX F0 wM).length:Int)=F0.length from by rw[oT])))<|aa<|SR<|mI rfl<|V (dP O O)<|aa<|aG O (fun h58=> ?_) (fun h58=> ?_)
   .refine SR ?_
    obtain⟨p,sp,F1,rfl⟩:=axM (F:=F0) J
    have hpn:=(hS.lt p (jv (x:=(p,sp)) aJ)).1
    rw[gz]at hpn
    refine aF lR<|V (af O)<|V (fA fU 5 O qm O)<|lV m7 jz 0 O O rfl<|mI rfl<|V (eS O O J)<|V (ah (jz.sl (i:=5) O) m7 LP O (aK I (show(((p,sp)::F1).length:Int)-1=F1.length from by simp)) Ib)<|V (fA Fk 0 O aP O)<|V (gC (dv:=Kk) (off:=0) nn (jz.sl (i:=5) O) bx O O Ib O)<|V (run_assign (show _=I (p:Int)from aK (fun x:Ei=>I x.node) (show(pX ((p,sp)::F1) wM).getD (F1.length:Int).toNat Kk=⟨p,wM p⟩from Te)))<|aa<|fZ (z:=⟨none,_,_,_,_,none⟩) aQ O aQ jz sR<|fun w59 wH=>have yD:=wH;AQ 0 O yD (run_move lR)<|AQ 1 O yD (af O)<|AQ 2 O yD (fA fU 2 O dJ O)<|tV 3 O yD bD 0 O O rfl<|AQ 4 O yD (mV (I _) O)<|AQ 5 O yD (run_move lR)<|AQ 6 O yD (af O)<|AQ 7 O yD (fA fU 2 O dJ O)<|tV 8 O yD bD 0 O O rfl<|AQ 9 O yD (mV (I _) O)<|AT 10 O yD (fun w hS=>ah (hS.sl (i:=2) O) bD aP O O J)<|AT 11 O yD (fun w hS=>aE bx O O ((hS.sl (i:=2) O).cell _ _ (eU J)))<|AQ 12 O yD (run_move lR)<|AQ 13 O yD (af O)<|AQ 14 O yD (fA fU 2 O dJ O)<|tV 15 O yD bD 0 O O rfl<|AQ 16 O yD (run_move mL)<|AT 17 O yD (fun w hS=>ah (hS.sl (i:=2) O) bD aP O O J)<|AT 18 O yD (fun w hS=>aE bx O O ((hS.sl (i:=2) O).cell _ _ (eU J)))<|AQ 19 O yD (vI O O)<|AT 20 O yD (fun w hS=>ah (hS.sl (i:=2) O) bD aP O O J)<|AD<|rN wH (i:=2) O J O O O O rfl<|fun w61 sj=>aa<| ?_
    refine⟨(((p,sp)::F1),wM,(tO F3 (NI (fJ ((p,sp)::F1)).reverse).length),(wR PF (((p,sp)::F1).length)),c48,B7,Li.set p (min (oW Li p) (oW Li a)),gF J3 ((a:Int)::NI sg.reverse) false,Lh,gF J4 ((a:Int)::NI sg.reverse) (CV a ((a:Int)::NI sg.reverse))),?_,(((Ep.u4.u4.u4.u4.u4.u1.u1.u1).t my O)).u4.u4.u4.u4.u4.u4.u4.u4.u4.u4.u4.u4.u4.u4.u4.u4.u4.u4.u4.u4.u4,(Hp.conv sj aM),?_,?_,?_⟩
    ·(simp only[eG,xU];omega)
    ·(rw[hS.keep oF];exact hS2)
    .exact az6
    exact hdn
   refine an<|have e0:F0=[]:=zK J;?_
   subst e0
   refine⟨([],wM,(tO F3 (NI (fJ ([]:Uk)).reverse).length),(wR PF (([]:Uk).length)),c48,B7,Li,gF J3 ((a:Int)::NI sg.reverse) false,Lh,gF J4 ((a:Int)::NI sg.reverse) (CV a ((a:Int)::NI sg.reverse))),?_,(((Ep.u4.u4.u4.u4.u4.u1.u1.u1).t my O)).u4.u4.u4.u4.u4.u4.u4.u4.u4.u4.u4.u4.u4.u1,(Hp.conv jz aM),?_,?_,?_⟩
   ·(simp only[eG,xU];omega)
   .exact hS2
   .exact az6
   exact hdn
  refine an<|ai<|have oF:oW Li a≠oW B7 a:=‹¬Li.getD (a:Int).toNat 0=B7.getD (a:Int).toNat 0›;fZ (z:=⟨none,_,_,_,_,none⟩) aQ O aQ lO sR<|fun w63 xa=>have Js:=xa;AQ 0 O Js (run_move lR)<|AQ 1 O Js (run_move lR)<|AQ 2 O Js (af O)<|AQ 3 O Js (fA fU 5 O qm O)<|tV 4 O Js m7 0 O O rfl<|AQ 5 O Js (run_move lR)<|AQ 6 O Js (af O)<|AQ 7 O Js (fA fU 5 O qm O)<|tV 8 O Js m7 0 O O rfl<|AT 9 O Js (fun w hS=>aD (hS.sl (i:=5) O) O m7 O)<|AQ 10 O Js (eS O O J)<|A1 11<|cf O aC O xa sR (rD (xa.sl (i:=5) O) m7 LP O (aK I hlen) (by(simp only[oT,eG];omega)))<|AQ 12 O Js (af O)<|AQ 13 O Js (fA fU 5 O qm O)<|AD<|have KA:=Hp.axC nn xa (i:=5) O (m:=F0.length) (by(simp only[oT,eG];omega));bg KA (i:=0) O (bK O O (v:=(wR PF (F0.length))) O (aZ (KA.get (i:=5) O)).1 (aZ (KA.get (i:=5) O)).2 (KA.blk (i:=0) O) aJ)<|fun w67 kJ=> ?_
  simp only[jd,lf,n5,gQ,Nat.reduceAdd]at kJ
  rw[V3]at kJ
  refine aa<|SR<|aF lR<|V (af O)<|V (fA fU 5 O qm O)<|lV m7 kJ 0 O O rfl<|V (aD (kJ.sl (i:=5) O) O m7 O)<|V (run_assign (aK I (show((pX F0 wM).length:Int)=F0.length from by rw[oT])))<|aa<|SR<|mI rfl<|V (dP O O)<|aa<|aG O (fun h71=> ?_) (fun h71=> ?_)
  .refine SR ?_
   obtain⟨p,sp,F1,rfl⟩:=axM (F:=F0) J
   have hpn:=(hS.lt p (jv (x:=(p,sp)) aJ)).1
   rw[gz]at hpn
   refine aF lR<|V (af O)<|V (fA fU 5 O qm O)<|lV m7 kJ 0 O O rfl<|mI rfl<|V (eS O O J)<|V (ah (kJ.sl (i:=5) O) m7 LP O (aK I (show(((p,sp)::F1).length:Int)-1=F1.length from by simp)) Ib)<|V (fA Fk 0 O aP O)<|V (gC (dv:=Kk) (off:=0) nn (kJ.sl (i:=5) O) bx O O Ib O)<|V (run_assign (show _=I (p:Int)from aK (fun x:Ei=>I x.node) (show(pX ((p,sp)::F1) wM).getD (F1.length:Int).toNat Kk=⟨p,wM p⟩from Te)))<|aa<|fZ (z:=⟨none,_,_,_,_,none⟩) aQ O aQ kJ sR<|fun w72 vc=>have yE:=vc;AQ 0 O yE (run_move lR)<|AQ 1 O yE (af O)<|AQ 2 O yE (fA fU 2 O dJ O)<|tV 3 O yE bD 0 O O rfl<|AQ 4 O yE (mV (I _) O)<|AQ 5 O yE (run_move lR)<|AQ 6 O yE (af O)<|AQ 7 O yE (fA fU 2 O dJ O)<|tV 8 O yE bD 0 O O rfl<|AQ 9 O yE (mV (I _) O)<|AT 10 O yE (fun w hS=>ah (hS.sl (i:=2) O) bD aP O O J)<|AT 11 O yE (fun w hS=>aE bx O O ((hS.sl (i:=2) O).cell _ _ (eU J)))<|AQ 12 O yE (run_move lR)<|AQ 13 O yE (af O)<|AQ 14 O yE (fA fU 2 O dJ O)<|tV 15 O yE bD 0 O O rfl<|AQ 16 O yE (run_move mL)<|AT 17 O yE (fun w hS=>ah (hS.sl (i:=2) O) bD aP O O J)<|AT 18 O yE (fun w hS=>aE bx O O ((hS.sl (i:=2) O).cell _ _ (eU J)))<|AQ 19 O yE (vI O O)<|AT 20 O yE (fun w hS=>ah (hS.sl (i:=2) O) bD aP O O J)<|AD<|rN vc (i:=2) O J O O O O rfl<|fun w74 ve=>aa<|have oQ:=ve;have az7:=aaQ;?_
   rw[aiP]at oQ az7
   rw[aiQ (sg:=sg) (a:=a)]at oQ
   refine⟨(((p,sg++a::sp)::F1),wM,F3,(wR PF (((p,sp)::F1).length)),FP,B7,Li.set p (min (oW Li p) (oW Li a)),J3,Lh,J4),?_,(((Ep.u4.u4.u4.u4.u4.u1.u1.u1).t my O)).u4.u4.u4.u4.u4.u4.u4.u4.u4.u4.u4.u4.u4.u4.u4.u4.u4.u4.u4.u4.u1,(Hp.conv oQ aM),?_,?_,?_⟩
   ·(simp only[eG,xU];omega)
   .exact hS.V2 hnd oF
   .exact az7
   exact hdn
  refine an<|have e0:F0=[]:=zK J;?_
  subst e0
  refine⟨([],wM,F3,(wR PF (([]:Uk).length)),FP,B7,Li,J3,Lh,J4),?_,(((Ep.u4.u4.u4.u4.u4.u1.u1.u1).t my O)).u4.u4.u4.u4.u4.u4.u4.u4.u4.u4.u4.u4.u1.u1,(Hp.conv kJ (by exact absurd hS.root oF)),?_,?_,?_⟩
  ·(simp only[eG,xU];omega)
  .exact absurd hS.root oF
  .exact absurd hS.root oF
  exact hdn
 refine a8 (id:=0) rfl<|have e0:F=[]:=(by cases F with|nil=>rfl|cons x F0=>(exfalso;simp only[oT,eG]at*;omega));?_
 subst e0
 exact rC O ⟨rfl,F3,PF,FP,Xm,B7,lo1,J3,Lh,J4,hS,aaQ,hdn,eE⟩
theorem afb(v:Value)(gr:List j5)(hgn:gr.length<=100000)(w:World)(hg0:GrV (Kw w) v gr):Calls Tryz.prog 124 #[v] w (tg 3 1 gr.length ((pF (qu gr)).map I) w):=by
 have hg:=hg0.1
 have hgl:=gz (g:=gr)
 refine eH func124 rfl rfl fun hH=>SR<|va (v:= .slice none 0 0) rfl<|aa<|SR<| ?_
 refine V (run_move bz) ?_
 refine V (aD (hg.mono hH.kw).sl O pN O)<|aI rfl<|aa<|ai<|ew aQ hH<|fun w1 bq=>have k7:=bq;?_
 refine AQ 0 O k7 (run_move bz) ?_
 refine AQ 1 O k7 (mV (I _) O)<|AQ 3 O k7 (mV (I _) O)<|AQ 5 O k7 (mV (I _) O)<|AQ 7 O k7 (mV (I _) O)<|axG [10,12,14,16] [2,4,6,8] [⟨2,10,_,_,_,_,fun b=> .slice (some ⟨b,0,none⟩) (gr.length) (gr.length),.cells ((List.replicate (gr.length) ((0:Int))).map I).toArray 3 (0,0)⟩,⟨4,12,_,_,_,_,fun b=> .slice (some ⟨b,0,none⟩) (gr.length) (gr.length),.cells ((List.replicate (gr.length) ((0:Int))).map I).toArray 3 (0,0)⟩,⟨6,14,_,_,_,_,fun b=> .slice (some ⟨b,0,none⟩) (gr.length) (gr.length),.cells ((List.replicate (gr.length) (false)).map B).toArray 4 (0,0)⟩,⟨8,16,_,_,_,_,fun b=> .slice (some ⟨b,0,none⟩) (gr.length) (gr.length),.cells ((List.replicate (gr.length) ((0:Int))).map I).toArray 3 (0,0)⟩] O O ⟨⟨rfl,rfl⟩,⟨rfl,rfl⟩,⟨rfl,rfl⟩,⟨rfl,rfl⟩,trivial⟩ ⟨fun σ' w h=>AB bD O O O O ((h 9 O).trans (show _=Value.int .i64 ((gr.length:Nat):Int)from O)) ((h 9 O).trans (show _=Value.int .i64 ((gr.length:Nat):Int)from O)) az J,fun σ' w h=>AB bD O O O O ((h 11 O).trans (show _=Value.int .i64 ((gr.length:Nat):Int)from O)) ((h 11 O).trans (show _=Value.int .i64 ((gr.length:Nat):Int)from O)) az J,fun σ' w h=>AB ry O O O O ((h 13 O).trans (show _=Value.int .i64 ((gr.length:Nat):Int)from O)) ((h 13 O).trans (show _=Value.int .i64 ((gr.length:Nat):Int)from O)) az J,fun σ' w h=>AB bD O O O O ((h 15 O).trans (show _=Value.int .i64 ((gr.length:Nat):Int)from O)) ((h 15 O).trans (show _=Value.int .i64 ((gr.length:Nat):Int)from O)) az J,trivial⟩ az az aQ bq sR<|fun Ri w4 bY=> ?_
 simp only[lZ,Ci,gB,eR,VZ]at bY
 have jQ:=bY.Kg (i:=0) (n:=gr.length) (l:=List.replicate (gr.length) ((0:Int))) (f:=I) O aJ J
 have eE:=jQ.Kg (i:=1) (n:=gr.length) (l:=List.replicate (gr.length) ((0:Int))) (f:=I) O aJ J
 have eX:=eE.Kg (i:=2) (n:=gr.length) (l:=List.replicate (gr.length) (false)) (f:=B) O aJ J
 have iD:=eX.Kg (i:=3) (n:=gr.length) (l:=List.replicate (gr.length) ((0:Int))) (f:=I) O aJ J
 refine A1 9<|cf O aC O iD (sQ (sQ (sQ (sQ sR)))) (dL (vs:=[(0,v),(1,(.slice (some ⟨Ri 10,0,none⟩) (gr.length) (gr.length))),(2,(.slice (some ⟨Ri 12,0,none⟩) (gr.length) (gr.length))),(3,(.slice (some ⟨Ri 14,0,none⟩) (gr.length) (gr.length))),(7,(.slice (some ⟨Ri 16,0,none⟩) (gr.length) (gr.length)))]) O (ae9 (SP hg).2 (aZ (iD.get (i:=0) O)).1 (aZ (iD.get (i:=1) O)).1 (aZ (iD.get (i:=2) O)).1 (aZ (iD.get (i:=3) O)).1))<|A1 10<|cB O aC O iD (sQ (sQ (sQ (sQ sR)))) (f:=fun b=> .pointer (some ⟨b,0,none⟩)) (KI (v:= .agg _) O)<|fun b14 zl bV=>AQ 11 O (bV.sub (sQ (sQ (sQ (sQ (sQ sR)))))) (aV (Pn _ _) O)<|have gW:=bV.eI 3 1;have cH:=gW.eI 233 2;have er:Hp w zl (.blk b14 (.cells #[v,(.slice (some ⟨Ri 10,0,none⟩) (gr.length) (gr.length)),(.slice (some ⟨Ri 12,0,none⟩) (gr.length) (gr.length)),(.slice (some ⟨Ri 14,0,none⟩) (gr.length) (gr.length)),(.slice none 0 0),(.slice none 0 0),I (0),(.slice (some ⟨Ri 16,0,none⟩) (gr.length) (gr.length))] 222 (0,0))::jY I (.slice (some ⟨Ri 10,0,none⟩) (gr.length) (gr.length)) 3 (List.replicate gr.length (0:Int))::jY I (.slice (some ⟨Ri 12,0,none⟩) (gr.length) (gr.length)) 3 (List.replicate gr.length (0:Int))::jY B (.slice (some ⟨Ri 14,0,none⟩) (gr.length) (gr.length)) 4 (List.replicate gr.length false)::cE none (.slice none 0 0) 3 ((([]:List Int)).map I)::wu G3 2 (.slice none 0 0) 233 (([]:List Ei))::jY I (.slice (some ⟨Ri 16,0,none⟩) (gr.length) (gr.length)) 3 (List.replicate gr.length (0:Int))::[]):=cH.pj [2,2,2,2,1];AD<|ai<|SR<|mI rfl<|aF (v:=I 0) rfl<|aa<|aA<|bt (G:=Int×(Nat->Nat)×Value×Value×(Option (Nat×Array Value))×(List Int)×(List Int)×(List Bool)×Int×(List Int)) (fun⟨k,Xm,F3,PF,FP,B7,lo1,J3,Lh,J4⟩ s' w'=>(Fr (5::(rg 20 15 [])) _ s')/\(Hp w w' (.blk b14 (.cells #[v,(.slice (some ⟨Ri 10,0,none⟩) (gr.length) (gr.length)),(.slice (some ⟨Ri 12,0,none⟩) (gr.length) (gr.length)),(.slice (some ⟨Ri 14,0,none⟩) (gr.length) (gr.length)),F3,PF,I (Lh),(.slice (some ⟨Ri 16,0,none⟩) (gr.length) (gr.length))] 222 (0,0))::jY I (.slice (some ⟨Ri 10,0,none⟩) (gr.length) (gr.length)) 3 (B7)::jY I (.slice (some ⟨Ri 12,0,none⟩) (gr.length) (gr.length)) 3 (lo1)::jY B (.slice (some ⟨Ri 14,0,none⟩) (gr.length) (gr.length)) 4 (J3)::cE FP F3 3 ((([]:List Int)).map I)::wu G3 2 PF 233 (([]:List Ei))::jY I (.slice (some ⟨Ri 16,0,none⟩) (gr.length) (gr.length)) 3 (J4)::_))/\(s' 20=I k)/\(0<=k)/\(k<=gr.length)/\(rZ (qu gr) B7 lo1 J3 Lh J4 [] Xm)/\(cO FP F3 (([]:List Int).map I))/\(∀q:Nat,q<k.toNat->oW B7 q≠0)) (fun⟨k,Xm,F3,PF,FP,B7,lo1,J3,Lh,J4⟩=>(gr.length-k).toNat) ((0,fun _=>0,.slice none 0 0,.slice none 0 0,none,List.replicate gr.length 0,List.replicate gr.length 0,List.replicate gr.length false,0,List.replicate gr.length 0)) ⟨Fr.refl _ _,er,rfl,J,J,rZ.start hgl,trivial,fun q hq=>absurd hq J⟩<| ?_
 rintro⟨k,Xm,F3,PF,FP,B7,lo1,J3,Lh,J4⟩ aop Lf ⟨r8,dQ,TY,k0,k1,hS,aaQ,hdn⟩
 obtain⟨wB,auL⟩:=r8.w2 4 19
 have q0:=hS.Ul
 rw[gz]at q0
 refine SR<|V (aN TY auL)<|aa<|ai<|aG O (fun O7=> ?_) (fun O7=> ?_)
 .refine an<|ai<|aA<|SR<|aF TY<|aI rfl<|aa<|SR<|aF wB<|V (af O)<|V (fA fU 1 O dJ O)<|lV bD dQ 0 O O rfl<|mI rfl<|V (ah (dQ.sl (i:=1) O) bD aP O O J)<|V (aE bx O O ((dQ.sl (i:=1) O).cell _ _ (eU J)))<|V (bW O O)<|aa<|aG O (fun h22=> ?_) (fun h22=> ?_)
  .refine au<|aF wB<|mI rfl<|have h0k:oW B7 k.toNat=0:=‹B7.getD k.toNat 0=0›;cG O (Jr _ _ _ _ _ _ _ _ _ _ _ _ _ _ _ _ _ _ _ _ hgn hS J h0k _ (Le.refl _) hg0 aaQ dQ) (aL call155 O O)<| ?_
   rintro _ w25 ⟨rfl,vs2,vf2,cs2,wM,od2,Li,on2,tm2,of2,hS2,CP,hd2,jy⟩
   refine aa<|au<|V (ax TY O J)<|mI rfl<|aa<| ?_
   refine⟨(k+1,wM,vs2,vf2,cs2,od2,Li,on2,tm2,of2),aX,r8.u4.u4.u4.u4,(Hp.conv jy aM),(aK I aM),J,J,?_,?_,?_⟩
   .exact hS2
   .exact CP
   exact as0 k0 (fun q hq=>hd2.2 q (hdn q hq)) hd2.1
  refine an<|au<|V (ax TY O J)<|mI rfl<|aa<| ?_
  refine⟨(k+1,Xm,F3,PF,FP,B7,lo1,J3,Lh,J4),aX,r8.u4.u4.u4.u1,(Hp.conv dQ aM),(aK I aM),J,J,?_,?_,?_⟩
  .exact hS
  .exact aaQ
  exact as0 k0 hdn ‹¬B7.getD k.toNat 0=0›
 refine a8 (id:=0) rfl<|SR<|aF wB<|V (af O)<|V (fA fU 7 O dJ O)<|lV bD dQ 0 O O rfl<| ?_
 refine V (run_assign bz) ?_
 refine aa<|aj<|Pa O O dQ (i:=6) O ((by have:=hS.lof;rw[gz]at this;exact this)) ((by rw[hS.done fun q hq=>hdn q (by rw[gz]at hq;omega)]))
theorem iL(fd:FuncId)(fc:Array Value)(c:mE)(hlg:lg.length<=600000000000)(w:World)(hH:Hp W0 w (nE n wr vL vt vv vy vu vq sn vW vU vT cn sk wy vd vm cW cU W ul ts aq bf ak bp us qs lg tm L)):Calls Tryz.prog 44 #[pt n,jO fd fc] w (j3 fun u w'=>u= .tuple #[]/\∃vd':Value,Hp W0 w' (nE n wr vL vt vv vy vu vq sn vW vU vT cn sk wy (vd') vm cW cU W ul ts aq bf ak bp us qs (lg++[(jO fd fc,c)]) tm L)):=by
 simp only[nE]at hH
 refine en func44 rfl rfl<|au<|aF (v:=Pn _ _) rfl<|aF (v:=Pn _ _) rfl<|V (af O)<|V (fA ct 14 O kB O)<|lV ia hH 0 O O rfl<|aF (v:= .func _ _ _) rfl<|ud 1 1 hH (cA ia rfl rfl (sz:=1) (vs:=[.func _ _ _]) rfl rfl az az rfl rfl)<|fun b3 w1 bq=> ?_
 (try simp only[lC]at bq)
 refine asW (a:=(jO fd fc,c)) O bq (i:=11) O (bq.dU (i:=0) (n:=1) (sz:=1) O O az) O O ia O O (bytes:=8) O O O O J az<|fun v4 w5 jQ=>V (af O)<|V (fA ct 14 O kB O)<|bg jQ (i:=1) O (bK O O (v:=v4) O (aZ (jQ.get (i:=11) O)).1 (aZ (jQ.get (i:=11) O)).2 (jQ.blk (i:=1) O) aJ)<|fun w7 eX=> ?_
 simp only[jd,lf,n5,gQ,Nat.reduceAdd]at eX
 refine aa<|rC O ⟨rfl,v4,(eX.sub (sQ sR))⟩
theorem qg(htm:tm.length<=100000000)(w:World)(hH:Hp W0 w (nE n wr vL vt vv vy vu vq sn vW vU vT cn sk wy vd vm cW cU W ul ts aq bf ak bp us qs lg tm L)):Calls Tryz.prog 41 #[pt n] w (j3 fun u w'=>u= .tuple #[]/\∃vm':Value,Hp W0 w' (nE n wr vL vt vv vy vu vq sn vW vU vT cn sk wy vd (vm') cW cU W ul ts aq bf ak bp us qs lg (tm++[(lg.length:Int)]) L)):=by
 simp only[nE]at hH
 refine en func41 rfl rfl<|fZ (z:=⟨none,_,_,_,_,none⟩) aQ O aQ hH (sP (sP (sP (sP (sP (sP (sP (sP (sP (sP (sP (sQ sR))))))))))))<|fun w1 bq=>have k7:=bq.sub (sP (sP (sP (sP (sP (sP (sP (sP (sP (sP (sP (sQ sR))))))))))));AQ 0 O k7 (mV (Pn _ _) O)<|AQ 1 O k7 (mV (Pn _ _) O)<|AQ 2 O k7 (af O)<|AQ 3 O k7 (fA ct 15 O dJ O)<|tV 4 O k7 bD 0 O O rfl<|AQ 5 O k7 (mV (Pn _ _) O)<|AQ 6 O k7 (af O)<|AQ 7 O k7 (fA ct 14 O kB O)<|tV 8 O k7 ia 0 O O rfl<|AT 9 O k7 (fun w hS=>aD (hS.sl (i:=10) O) O ia O)<|A1 10<|cB O aC O bq (sP (sP (sP (sP (sP (sP (sP (sP (sP (sP (sP (sQ sR)))))))))))) (f:=fun b=> .slice (some ⟨b,0,none⟩) 1 1) (cA bD O O (sz:=1) (vs:=[I _]) O O az az O O)<|fun b5 w3 ix=> ?_
 (try simp only[lC]at ix)
 refine A1 11<|Ta O aC O ix (i:=12) O (fun _=>(sQ (sP (sP (sP (sP (sP (sP (sP (sP (sP (sP (sP (sQ sR)))))))))))))) (ix.dU (i:=0) (n:=1) (sz:=1) O O az) O O bD O O (bytes:=8) O O O O J az<|fun v8 w9 cg=>AQ 12 O (cg.sub (sQ (sP (sP (sP (sP (sP (sP (sP (sP (sP (sP (sP (sQ sR)))))))))))))) (af O)<|AQ 13 O (cg.sub (sQ (sP (sP (sP (sP (sP (sP (sP (sP (sP (sP (sP (sQ sR)))))))))))))) (fA ct 15 O dJ O)<|AD<|bg cg (i:=1) O (bK O O (v:=v8) O (aZ (cg.get (i:=12) O)).1 (aZ (cg.get (i:=12) O)).2 (cg.blk (i:=1) O) aJ)<|fun Je cM=> ?_
 simp only[jd,lf,n5,gQ,Nat.reduceAdd]at cM
 refine aa<|rC O ⟨rfl,v8,(cM.sub (sQ sR))⟩
theorem o7(w:World)(hb:w.heap[n]?=some (.cells #[wr,vL,vt,vv,vy,vu,vq,I sn,vW,vU,vT,I cn,B sk,U wy,vd,vm] 111 (0,0))):Calls Tryz.prog 40 #[pt n] w (Pure (B (!sk)) w):=by
 refine eH func40 rfl rfl fun hH=>SR<|va (v:=B false) rfl<|aa<|SR<|aF (v:=Pn _ _) rfl<|V (aeo dh O O)<|mB rfl<|cF O rfl<|aF (v:=Pn _ _) rfl<|V (af O)<|V (fA ct 12 O oy O)<|V (aE xY O O (hH.eT hb (v:=B _) O))<|V (bJ O)<|mB rfl<|aB rfl<|aa<|aj<|oB O ?_ hH
 rfl
theorem E5(v x:Int)(w:World)(hb:w.heap[n]?=some (.cells #[wr,vL,vt,vv,vy,vu,vq,I sn,vW,vU,vT,I cn,B sk,U wy,vd,vm] 111 (0,0)))(ht:Sl w vt 1 bf.length (bf.map I)):Calls Tryz.prog 104 #[pt n,I v,I x] w (Pure (B (decide (0<=v/\v<bf.length/\bf.getD v.toNat 0=x))) w):=by
 refine eH func104 rfl rfl fun hH=>SR<|va (v:=B false) rfl<|aa<|SR<|mI rfl<|V (dF O O)<|mB rfl<|bM 9 O (fun h2=> ?_) (fun h2=> ?_)
 .refine mI rfl<|aF (v:=Pn _ _) rfl<|V (af O)<|V (fA ct 2 O dJ O)<|V (aE bD O O (hH.eT hb O))<|V (aD (ht.hp hH) O bD O)<|V (aN O O)<|mB rfl<|mB rfl<|bM 18 O (fun h4=> ?_) (fun h4=> ?_)
  .refine aF (v:=Pn _ _) rfl<|V (af O)<|V (fA ct 2 O dJ O)<|V (aE bD O O (hH.eT hb O))<|mI rfl<|V (ah (ht.hp hH) bD aP O O J)<|V (aE bx O O ((ht.hp hH).cell _ _ (eU J)))<|mI rfl<|V (bW O O)<|mB rfl<|aB rfl<|aa<|aj<|oB O ?_ hH
   exact RH.2 ⟨fun h=>⟨J,J,h⟩,fun h=>h.2.2⟩
  refine aF (v:=B false) rfl<|aB rfl<|aa<|aj<|oB O ?_ hH
  (rw[hG J];done)
 refine aF (v:=B false) rfl<|mB rfl<|cF O rfl<|aF (v:=B false) rfl<|aB rfl<|aa<|aj<|oB O ?_ hH
 (rw[hG J];done)
theorem oh(q:dD)(w:World)(hq:Ej (Kw w) q):Calls Tryz.prog 131 #[.agg (qw q).toArray] w (Pure (B (Ft q)) w):=by
 refine eH func131 rfl rfl fun hH=>SR<|gO hH (v:= .agg _) rfl<|fun b3 w1 bq=>va (v:=B false) rfl<|aa<|SR<|V (fA jh 1 O x9 O)<|V (bZ (hq.code.sl.hp bq) ic O O (bq.cell (i:=0) O O))<|V (aD (hq.code.sl.hp bq) O ic O)<|V (bW O O)<|mB rfl<|bM 7 O (fun h5=> ?_) (fun h5=> ?_)
 .refine V (fA jh 1 O x9 O)<|V (bZ (hq.code.sl.hp bq) ic O O (bq.cell (i:=0) O O))<|V (ah (hq.code.sl.hp bq) ic px O O J)<|V (fA ec 0 O aP O)<|V (gC (dv:=bG) (off:=0) gS (hq.code.sl.hp bq) bx O O J O)<|V (bW O O)<|mB rfl<|mB rfl<|bM 15 O (fun h7=> ?_) (fun h7=> ?_)
  .refine V (fA jh 2 O kV O)<|V (fA kQ 0 O aP O)<|lI bx bq 0 O O rfl<|V (dF O O)<|mB rfl<|aB rfl<|aa<|aj<|oB O ?_ bq
   (unfold Ft;((rw[gY (show q.code.length=1 by omega),gY (show(q.code.getD 0 bG).op=1 from aR)];rfl)))
  refine aF (v:=B false) rfl<|aB rfl<|aa<|aj<|oB O ?_ bq
  (unfold Ft;((rw[gY (show q.code.length=1 by omega),hG (show¬(q.code.getD 0 bG).op=1 from aR)];rfl)))
 refine aF (v:=B false) rfl<|mB rfl<|cF O rfl<|aF (v:=B false) rfl<|aB rfl<|aa<|aj<|oB O ?_ bq
 (unfold Ft;((rw[hG (show¬q.code.length=1 by omega)];rfl)))
theorem xN(q:dD)(hv:∀v∈q.vars,0<=v/\v<bp.length)(w:World)(hb:w.heap[n]?=some (.cells #[wr,vL,vt,vv,vy,vu,vq,I sn,vW,vU,vT,I cn,B sk,U wy,vd,vm] 111 (0,0)))(hy:Sl w vy 1 bp.length (bp.map U))(zJ:Ej (Kw w) q):Calls Tryz.prog 132 #[pt n,.agg (qw q).toArray] w (Pure (U (orW q.why bp q.vars)) w):=by
 have hvs:=zJ.vars.small
 unfold maxLen at hvs
 refine eH func132 rfl rfl fun hH=>SR<|gO hH (v:= .agg _) rfl<|fun b3 w1 bq=>va (v:=U 0#64) rfl<|aa<|SR<|V (fA jh 11 O cQ O)<|V (aE dO O O (bq.cell (i:=0) O (v:=U _) O))<|aU rfl<|aa<|ai<|SR<|V (fA jh 12 O dJ O)<|V (bZ (zJ.vars.sl.hp bq) bD O O (bq.cell (i:=0) O O))<|V (aD (zJ.vars.sl.hp bq) O bD O)<|aF (v:=I 0) rfl<|aa<|aA<|bt (G:=Int) (fun k s' w'=>(Fr (5::(7::(rg 13 14 []))) _ s')/\(Hp w w' _)/\(s' 5=U (orW q.why bp (q.vars.take k.toNat)))/\(s' 13=I k)/\(0<=k)/\(k<=q.vars.length)) (fun k=>(q.vars.length-k).toNat) (0) ⟨Fr.refl _ _,bq,rfl,rfl,J,J⟩<| ?_
 rintro k sg4 w4 ⟨C8,ix,Hl,akV,h0,hk⟩
 obtain⟨aeS,az8,az9⟩:=C8.w3 0 11 12
 refine SR<|V (aN akV az9)<|aa<|ai<|aG O (fun h6=> ?_) (fun h6=> ?_)
 .refine an<|ai<|aA<|SR<|have hvk:=hv _ (dy (d:=0) h0 ‹k<_›);V (ah (zJ.vars.sl.hp ix) bD aP az8 akV J)<|V (aE bx O O ((zJ.vars.sl.hp ix).cell _ _ (eU J)))<|aI rfl<|aa<|au<|aF Hl<|aF aeS<|V (af O)<|V (fA ct 4 O jB O)<|V (aE dg O O (ix.eT hb O))<|mI rfl<|V (ah (hy.hp ix) dg cQ O O J)<|V (aE dO O O ((hy.hp ix).cell _ _ (lT (dv:=0#64) J)))<|V (iG O O)<|aU rfl<|aa<|au<|V (ax akV O J)<|mI rfl<|aa<| ?_
  refine⟨k+1,aX,C8.u4.u4.u4.u4,ix,(aK U (aiY h0 ‹k<_›).symm),(aK I aM),J,J⟩
 refine a8 (id:=0) rfl<|SR<|aF Hl<|aU rfl<|aa<|aj<|oU O ?_ ix
 rw[jg J]
theorem Jt(XB:0<=sn/\sn<=qs.length)(w:World)(hb:w.heap[n]?=some (.cells #[wr,vL,vt,vv,vy,vu,vq,I sn,vW,vU,vT,I cn,B sk,U wy,vd,vm] 111 (0,0)))(hq:Sl w vq 13 qs.length (qs.flatMap qw))(Ju:ZN (Kw w) qs):Calls Tryz.prog 122 #[pt n] w (Pure (B ((qs.drop sn.toNat).any Ft)) w):=by
 have hqD:ZN (Kw w) (qs.drop sn.toNat):=fun q hq=>Ju q (sF hq)
 have hml:=hq.small
 unfold maxLen at hml
 have hdl:(qs.drop sn.toNat).length<=qs.length:=aJ
 refine eH func122 rfl rfl fun hH=>SR<|va (v:=B false) rfl<|aa<|ai<|ai<|ew aQ hH<|fun w1 bq=>have k7:=bq;AQ 0 O k7 (mV (Pn _ _) O)<|AQ 1 O k7 (af O)<|AQ 2 O k7 (fA ct 6 O xZ O)<|AT 3 O k7 (fun w hS=>aE ov O O (hS.eT hb O))<|AQ 4 O k7 (mV (Pn _ _) O)<|AQ 5 O k7 (af O)<|AQ 6 O k7 (fA ct 7 O aP O)<|AT 7 O k7 (fun w hS=>aE bx O O (hS.eT hb (v:=I _) O))<|AQ 10 O k7 (mV (I 0) O)<|A1 8<|cf O aC O bq sR (gD (hq.hp bq) ov LQ O O J)<|AT 9 O k7 (fun w hS=>aD ((Sl.frE pZ hq sn.toNat J).hp hS) O ov O)<|AD<|aA<|bt (G:=Int) (fun k s' w'=>(Fr (2::(4::(rg 15 7 []))) _ s')/\(Hp w w' _)/\(s' 15=I k)/\(0<=k)/\(k<=(qs.drop sn.toNat).length)/\(∀j:Nat,j<k.toNat->Ft ((qs.drop sn.toNat).getD j cX)=false)) (fun k=>((qs.drop sn.toNat).length-k).toNat) (0) ⟨Fr.refl _ _,bq,rfl,J,J,fun j h=>absurd h J⟩<| ?_
 rintro k sg5 w5 ⟨Up,bY,akW,h0,hk,hno⟩
 obtain⟨aAa,aAb⟩:=Up.w2 13 14
 refine SR<|V (aN akW aAb)<|aa<|ai<|aG O (fun h7=> ?_) (fun h7=> ?_)
 .refine an<|ai<|aA<|SR<|V (ah ((Sl.frE pZ hq sn.toNat J).hp bY) ov LQ aAa akW J)<|V (dY (dv:=cX) pZ ((Sl.frE pZ hq sn.toNat J).hp bY) jh O O O J)<|lN bY (aT Tryz.zeroValue128)<|fun b10 w8 iD=>bg iD (i:=0) O (dK (c':=(qw _).toArray) O O O (tY (hqD.at J J)) (iD.blk (i:=0) O) O)<|fun BR cD=>aa<|SR<|V (cC (cs:=qw _) jh O O O (bj (cD.blk (i:=0) O)))<|aH O cD (oh _ _ ((hqD.at J J).mono cD.kw)) (ay call131 O)<|fun Tz cH=>aa<|bX O (fun p9=> ?_) (fun p9=> ?_)
  .refine SR<|va (v:=B true) rfl<|aa<|aj<|oB O ?_ cH
   exact(aiW (d:=cX) h0 ‹k<_› ‹_=true›).symm
  refine an<|au<|V (ax akW O J)<|mI rfl<|aa<| ?_
  refine⟨k+1,aX,Up.u4.u4,(cH.sub (sQ sR)),(aK I aM),J,J,?_⟩
  exact as0 h0 hno kD
 refine a8 (id:=0) rfl<|SR<|va (v:=B false) rfl<|aa<|aj<|oB O ?_ bY
 exact(anG (d:=cX) fun j hj=>hno j J).symm
theorem Jv(K:Vu)(QM:ak.length<=1000)(hqn:qs.length<=1000)(hpl:V7 ak.length qs)(w:World)(hb:w.heap[n]?=some (.cells #[wr,vL,vt,vv,vy,vu,vq,I sn,vW,vU,vT,I cn,B sk,U wy,vd,vm] 111 (0,0)))(hv:Sl w vv 8 ak.length (ak.flatMap pM))(hq:Sl w vq 13 qs.length (qs.flatMap qw))(Ju:ZN (Kw w) qs):Calls Tryz.prog 125 #[pt n] w (EI K (fun K' u=>∃gr,qu gr=cw ak.length qs/\GrV K' u gr) w):=by
 refine eH func125 rfl rfl fun hH=>SR<|va (v:= .slice none 0 0) rfl<|aa<|SR<|aF (v:=Pn _ _) rfl<|V (af O)<|V (fA ct 3 O ji O)<|V (aE bU O O (hH.eT hb O))<|V (aD (hv.hp hH) O bU O)<|ud ak.length ak.length hH (AB (f:=j5.v) (z0:=de) pN O O O O (show _=Value.int .i64 ((ak.length:Nat):Int)from O) (show _=Value.int .i64 ((ak.length:Nat):Int)from O) az J)<|fun b3 w1 bq=>have ix:=bq.Kg (i:=0) (n:=ak.length) (l:=List.replicate ak.length de) (f:=j5.v) O aJ J;?_
 simp only[jd]at ix
 obtain⟨Rz,hRz⟩:∃R:List bu,R=[]:=⟨_,rfl⟩
 have bY:Hp _ _ (_::((List.replicate ak.length de).map (dS 3)++Rz)):=Hp.pn (A:=[_]) (R:=Rz) (by rw[hRz];simpa using ix.amV 3 ak.length)
 refine V (run_assign bz) ?_
 refine aa<|ai<|SR<|aF (v:=Pn _ _) rfl<|V (af O)<|V (fA ct 6 O xZ O)<|V (aE ov O O (bY.eT hb O))<|V (aD (hq.hp bY) O ov O)<|aF (v:=I 0) rfl<|aa<|aA<|bt (G:=Int×(List j5)×(List bu)) (fun⟨k,gs,Z1⟩ s' w'=>(Fr (5::(rg 17 25 [])) _ s')/\(Hp w w' (jY j5.v (.slice (some ⟨b3,0,none⟩) ak.length ak.length) 99 gs::Z1))/\(s' 17=I k)/\(0<=k)/\(k<=qs.length)/\(Z1=gs.map (dS 3)++Rz)/\(qu gs=cw ak.length (qs.take k.toNat))/\(∀x∈gs,x.l.length<=k.toNat)) (fun⟨k,gs,Z1⟩=>(qs.length-k).toNat) ((0,List.replicate ak.length de,(((List.replicate ak.length de).map (dS 3))++Rz))) ⟨Fr.refl _ _,bY,rfl,J,J,rfl,(by simp[qu,cw,de]),(fun x hx=>by rw[(List.mem_replicate.1 hx).2];simp[de])⟩<| ?_
 rintro⟨k,gs,Z1⟩ sg6 w6 ⟨QZ,jQ,acQ,h0,hk,hz,hgs,hgb⟩
 obtain⟨aaA,aAc,aAd⟩:=QZ.w3 3 15 16
 subst hz
 have hgn:gs.length=ak.length:=by have:=aK List.length hgs;rwa[gz,FU]at this
 refine SR<|V (aN acQ aAd)<|aa<|ai<|aG O (fun h8=> ?_) (fun h8=> ?_)
 .refine an<|ai<|aA<|SR<|V (ah (hq.hp jQ) ov LQ aAc acQ J)<|V (dY (dv:=cX) pZ (hq.hp jQ) jh O O O J)<|lN jQ (aT Tryz.zeroValue128)<|fun b11 w9 cg=>bg cg (i:=0) O (dK (c':=(qw _).toArray) O O O (tY (Ju.at J J)) (cg.blk (i:=0) O) O)<|fun Q1 gW=>aa<|SR<|V (cC (cs:=qw _) jh O O O (bj (gW.blk (i:=0) O)))<|aH O gW (oh _ _ ((Ju.at J J).mono gW.kw)) (ay call131 O)<|fun Jg er=>aa<|bX O (fun Ob=> ?_) (fun Ob=> ?_)
  .have XF:=hpl.at h0 ‹k<_› ‹Ft _=true›
   have aPY:=hgb _ (dy (d:=de) (l:=gs) (k:=(yH (qs.getD k.toNat cX))) J J)
   refine fZ (z:=⟨none,_,_,_,_,none⟩) aQ O aQ er (sP (sP (sA sR)))<|fun w20 fK=>have oO:=fK.sub (sP (sP (sA sR)));AQ 0 O oO (run_move aaA)<|AQ 1 O oO (fA jh 12 O dJ O)<|AT 2 O oO (fun w hS=>bZ ((Ju.at J J).vars.sl.hp hS) bD O O (hS.cell (i:=0) O O))<|AT 3 O oO (fun w hS=>ah ((Ju.at J J).vars.sl.hp hS) bD aP O O J)<|AT 4 O oO (fun w hS=>aE bx O O (((Ju.at J J).vars.sl.hp hS).cell _ _ (eU J)))<|AQ 5 O oO (run_move aaA)<|AQ 6 O oO (fA jh 12 O dJ O)<|AT 7 O oO (fun w hS=>bZ ((Ju.at J J).vars.sl.hp hS) bD O O (hS.cell (i:=0) O O))<|AT 8 O oO (fun w hS=>ah ((Ju.at J J).vars.sl.hp hS) bD aP O O J)<|AT 9 O oO (fun w hS=>aE bx O O (((Ju.at J J).vars.sl.hp hS).cell _ _ (eU J)))<|AT 10 O oO (fun w hS=>ah (hS.sl (i:=1) O) pN dJ O (show _=I (yH (qs.getD k.toNat cX))from O) J)<|AT 11 O oO (fun w hS=>aE bD O O ((hS.sl (i:=1) O).cell _ _ (lT (dv:=de) J)))<|AQ 12 O oO (fA jh 2 O kV O)<|AQ 13 O oO (fA kQ 0 O aP O)<|tI 14 O oO bx 0 O O rfl<|A1 15<|cB O aC O fK (sP (sP (sA sR))) (f:=fun b=> .slice (some ⟨b,0,none⟩) 1 1) (cA bD O O (sz:=1) (vs:=[I _]) O O az az O O)<|fun b24 TD eP=> ?_
   (try simp only[lC]at eP)
   refine A1 16<|aiF (A:=[_,_,_]) (gs:=gs) (q:=(yH (qs.getD k.toNat cX))) (a:=(qs.getD k.toNat cX).to.var) (R:=Rz) O aC O eP (fun _=>(sQ (sP (sP (sA (sA sR)))))) J (eP.dU (i:=0) (n:=1) (sz:=1) O O az) O O bD O O (bytes:=8) O O O J az<|fun v27 w28 gE=> ?_
   simp only[gB,eR]at gE
   refine AT 17 O (gE.sub (sQ (sP (sP (sA sR))))) (fun w hS=>ah (hS.sl (i:=1) O) pN dJ O (show _=I (yH (qs.getD k.toNat cX))from O) J)<|AD<|have auM:=Hp.axE (A:=[_,_,_]) (gs:=gs) (q:=(yH (qs.getD k.toNat cX))) (R:=Rz) gE J;rN (f:=j5.v) (a:=⟨v27,(gs.getD ((yH (qs.getD k.toNat cX))).toNat de).l++[(qs.getD k.toNat cX).to.var]⟩) gE (i:=2) O J O O auM.1 auM.2 rfl<|fun w30 kZ=>aa<|au<|V (ax acQ O J)<|mI rfl<|aa<| ?_
   refine⟨(k+1,(gs.set ((yH (qs.getD k.toNat cX))).toNat ⟨v27,(gs.getD ((yH (qs.getD k.toNat cX))).toNat de).l++[(qs.getD k.toNat cX).to.var]⟩),(((gs.set ((yH (qs.getD k.toNat cX))).toNat ⟨v27,(gs.getD ((yH (qs.getD k.toNat cX))).toNat de).l++[(qs.getD k.toNat cX).to.var]⟩).map (dS 3))++Rz)),aX,QZ.u4.u4.u4.u4.u4.u4.u1.u1,(Hp.conv (kZ.sub (sQ (sQ sR))) aM),(aK I aM),J,J,aM,?_,?_⟩
   ·(rw[Nz h0 ‹k<_›,grQ,aY ‹Ft _=true›,<-hgs,ab4,FQ])
   (rw[show(k+1).toNat=k.toNat+1 by omega];exact aiZ hgb (by simp only[ed,ey];have:=hgb _ (dy (d:=de) (l:=gs) (k:=(yH (qs.getD k.toNat cX))) J J);omega))
  refine an<|au<|V (ax acQ O J)<|mI rfl<|aa<| ?_
  refine⟨(k+1,gs,((gs.map (dS 3))++Rz)),aX,QZ.u4.u4,(Hp.conv (er.sub (sQ sR)) aM),(aK I aM),J,J,aM,?_,?_⟩
  ·(rw[Nz h0 ‹k<_›,grQ,aW kD,<-hgs])
  exact fun x hx=>by have:=hgb x hx;omega
 refine a8 (id:=0) rfl<|SR<|aF aaA<| ?_
 refine V (run_assign bz) ?_
 refine aa<|aj<| ?_
 obtain⟨Z33,akX,aGX⟩:=Hp.aEN (R:=Rz) K jQ
 exact jx O O ⟨Z33,akX.sub (afN _ _),gs,(by rw[hgs,jg J]),aGX⟩
theorem Gd(hm:m<=100000)(QM:ak.length<=1000)(hqn:qs.length<=1000)(QL:bp.length=ak.length)(oF:(bB cs).length=ak.length)(hpl:V7 ak.length qs)(w:World)(hb:w.heap[n]?=some (.cells #[wr,vL,vt,vv,vy,vu,vq,I sn,vW,vU,vT,I cn,B sk,U wy,vd,vm] 111 (0,0)))(hv:Sl w vv 8 ak.length (ak.flatMap pM))(hy:Sl w vy 1 bp.length (bp.map U))(hq:Sl w vq 13 qs.length (qs.flatMap qw))(hW:Sl w vW 1 W.length (W.map U))(Ju:ZN (Kw w) qs)(h:xA FX n m cs vW vU cW cU W ul ts cn L):Calls Tryz.prog 127 #[pt n] w (tg 35 1 ak.length ((CZ (bB cs) bp ak.length qs).map U) w):=by
 have hfr:=h.find oF
 refine eH func127 rfl rfl fun hH=>SR<|va (v:= .slice none 0 0) rfl<|aa<|SR<|aF (v:=Pn _ _) rfl<|V (af O)<|V (fA ct 3 O ji O)<|V (aE bU O O (hH.eT hb O))<|V (aD (hv.hp hH) O bU O)<|ud (ak.length) (ak.length) hH (AB (f:=U) (z0:=0#64) dg O O O O (show _=Value.int .i64 ((ak.length:Nat):Int)from O) (show _=Value.int .i64 ((ak.length:Nat):Int)from O) az J)<|fun b3 w1 bq=>have ix:=bq.Kg (i:=0) (n:=ak.length) (l:=List.replicate (ak.length) 0#64) (f:=U) O aJ J;?_
 simp only[jd]at ix
 refine V (run_assign bz) ?_
 refine aa<|ai<|SR<|aF (v:=Pn _ _) rfl<|V (af O)<|V (fA ct 3 O ji O)<|V (aE bU O O (ix.eT hb O))<|V (aD (hv.hp ix) O bU O)<|aF (v:=I 0) rfl<|aa<|aA<|bt (G:=Int×(List (BitVec 64))) (fun⟨k,o⟩ s' w'=>(Fr (4::(rg 18 21 [])) _ s')/\(Hp w w' (jY U (.slice (some ⟨b3,0,none⟩) (ak.length) (ak.length)) 35 o::_))/\(s' 18=I k)/\(0<=k)/\(k<=ak.length)/\(o=((List.range k.toNat).foldl (NA (bB cs) bp) (List.replicate ak.length 0)))/\(o.length=ak.length)) (fun⟨k,o⟩=>(ak.length-k).toNat) ((0,List.replicate ak.length 0)) ⟨Fr.refl _ _,ix,rfl,J,J,aM,aJ⟩<| ?_
 rintro⟨k,o⟩ sg5 w5 ⟨Up,bY,akY,h0,hk,ho,hol⟩
 obtain⟨aae,aau,ae1,aAe⟩:=Up.w4 0 2 3 17
 have hf1:=hfr k
 refine SR<|V (aN akY aAe)<|aa<|ai<|aG O (fun h7=> ?_) (fun h7=> ?_)
 .refine an<|ai<|aA<|SR<|aF akY<|aI rfl<|aa<|fZ (z:=⟨none,_,_,_,_,none⟩) aQ O aQ bY sR<|fun w8 iD=>have OM:=iD;AQ 0 O OM (run_move ae1)<|AQ 1 O OM (run_move aae)<|AQ 2 O OM (af O)<|AQ 3 O OM (fA ct 8 O pu O)<|AQ 4 O OM (mV (I _) O)<|AQ 8 O OM (run_move aae)<|AQ 9 O OM (af O)<|AQ 10 O OM (fA ct 4 O jB O)<|AT 11 O OM (fun w hS=>aE dg O O (hS.eT hb O))<|AQ 12 O OM (mV (I _) O)<|AT 13 O OM (fun w hS=>ah (hy.hp hS) dg cQ O O J)<|AT 14 O OM (fun w hS=>aE dO O O ((hy.hp hS).cell _ _ (lT (dv:=0#64) J)))<|A1 5<|cm O aC O iD sR (Ga _ h J (iD.ext hb) (hW.hp iD)) (aL Fq O O)<|fun Eo dr=>have iP:=dr;AT 6 O iP (fun w hS=>ah (hS.sl (i:=0) O) dg cQ O O J)<|AT 7 O iP (fun w hS=>aE dO O O ((hS.sl (i:=0) O).cell _ _ (lT (dv:=0#64) J)))<|AQ 15 O iP (iG O O)<|AT 16 O iP (fun w hS=>ah (hS.sl (i:=0) O) dg cQ O O J)<|AD<|rN dr (i:=0) O J O O O O rfl<|fun zl bV=>aa<|au<|V (ax akY O J)<|mI rfl<|aa<| ?_
  refine⟨(k+1,_),aX,Up.u4.u4.u4.u4.u4.u1.u1,(Hp.conv bV aM),(aK I aM),J,J,?_,?_⟩
  ·(rw[aex h0,<-ho];unfold NA;rw[gm h0];rfl)
  (rw[n8];exact hol)
 refine a8 (id:=0) rfl<|ai<|SR<|aF aae<|V (af O)<|V (fA ct 6 O xZ O)<|V (aE ov O O (bY.eT hb O))<|V (aD (hq.hp bY) O ov O)<|aF (v:=I 0) rfl<|aa<|aA<|have hoA:o=V8 (bB cs) bp ak.length:=(by rw[ho,show k.toNat=ak.length by omega];rfl);bt (G:=Int×(List (BitVec 64))) (fun⟨k,o⟩ s' w'=>(Fr (6::(rg 44 49 [])) _ s')/\(Hp w w' (jY U (.slice (some ⟨b3,0,none⟩) (ak.length) (ak.length)) 35 o::_))/\(s' 44=I k)/\(0<=k)/\(k<=qs.length)/\(o=((qs.take k.toNat).foldl (Kl (bB cs)) (V8 (bB cs) bp ak.length)))/\(o.length=ak.length)) (fun⟨k,o⟩=>(qs.length-k).toNat) ((0,o)) ⟨Fr.refl _ _,bY,rfl,J,J,(by rw[hoA];rfl),hol⟩<| ?_
 rintro⟨k,o⟩ aaf Q1 ⟨mW,cD,Jw,h0,hk,ho,hol⟩
 obtain⟨auN,auO⟩:=mW.w2 42 43
 obtain⟨akZ,kI⟩:=mW.t2 0 aae 3 ae1
 refine SR<|V (aN Jw auO)<|aa<|ai<|aG O (fun yt=> ?_) (fun yt=> ?_)
 .refine an<|ai<|aA<|SR<|V (ah (hq.hp cD) ov LQ auN Jw J)<|V (dY (dv:=cX) pZ (hq.hp cD) jh O O O J)<|lN cD (aT Tryz.zeroValue128)<|fun b19 TC dQ=>bg dQ (i:=0) O (dK (c':=(qw _).toArray) O O O (tY (Ju.at J J)) (dQ.blk (i:=0) O) O)<|fun TD eP=>aa<|ai<|ew aQ eP<|fun w24 om=>AT 0 O om (fun w hS=>cC (cs:=qw _) jh O O O (bj (hS.blk (i:=0) O)))<|A1 1<|cm O aC O om sR (oh _ _ ((Ju.at J J).mono om.kw)) (ay call131 O)<|fun Uq dG=>have TO:=dG;AQ 2 O TO (mV (B _) O)<|Ma (dj:=50) O (fun rU=> ?_) (fun rU=> ?_)
  .refine BQ 3 O O (bR (c:=true) rU) dG (run_move akZ)<|BQ 4 O O (bR (c:=true) rU) dG (af O)<|BQ 5 O O (bR (c:=true) rU) dG (fA ct 8 O pu O)<|BQ 6 O O (bR (c:=true) rU) dG (fA jh 12 O dJ O)<|AG 7 O O (bR (c:=true) rU) dG (fun w hS=>bZ ((Ju.at J J).vars.sl.hp hS) bD O O (hS.cell (i:=0) O O))<|AG 8 O O (bR (c:=true) rU) dG (fun w hS=>ah ((Ju.at J J).vars.sl.hp hS) bD aP O O R4)<|AG 9 O O (bR (c:=true) rU) dG (fun w hS=>aE bx O O (((Ju.at J J).vars.sl.hp hS).cell _ _ (eU R4)))<|BQ 11 O O (bR (c:=true) rU) dG (run_move akZ)<|BQ 12 O O (bR (c:=true) rU) dG (af O)<|BQ 13 O O (bR (c:=true) rU) dG (fA ct 8 O pu O)<|BQ 14 O O (bR (c:=true) rU) dG (fA jh 2 O kV O)<|BQ 15 O O (bR (c:=true) rU) dG (fA kQ 0 O aP O)<|AG 16 O O (bR (c:=true) rU) dG (fun w hS=>aE bx O O (hS.cell (i:=0) O (v:=I _) O))<|A1 10<|cm O (yM O (bR (c:=true) rU)) O dG sR (Ga _ h J (dG.ext hb) (hW.hp dG)) (aL Fq O (show _=I (yH (qs.getD k.toNat cX))from O))<|fun w30 kZ=>A1 17<|cm O (yM O (bR (c:=true) rU)) O kZ sR (Ga _ h J (kZ.ext hb) (hW.hp kZ)) (aL Fq O O)<|fun w32 ku=>BQ 18 O O (bR (c:=true) rU) ku (bW O O)<|have OQ:=ku;AQ 19 O OQ (gN (bR (c:=true) rU) (v:=B _) O)<|AQ 20 O OQ (mV (B _) O)<|CC (dj:=68) O (fun BT=> ?_) (fun BT=> ?_)
   .refine BQ 21 O O (bT BT) ku (fA jh 12 O dJ O)<|AG 22 O O (bT BT) ku (fun w hS=>bZ ((Ju.at J J).vars.sl.hp hS) bD O O (hS.cell (i:=0) O O))<|AG 23 O O (bT BT) ku (fun w hS=>ah ((Ju.at J J).vars.sl.hp hS) bD aP O O R4)<|AG 24 O O (bT BT) ku (fun w hS=>aE bx O O (((Ju.at J J).vars.sl.hp hS).cell _ _ (eU R4)))<|BQ 25 O O (bT BT) ku (fA jh 2 O kV O)<|BQ 26 O O (bT BT) ku (fA kQ 0 O aP O)<|AG 27 O O (bT BT) ku (fun w hS=>aE bx O O (hS.cell (i:=0) O (v:=I _) O))<|BQ 28 O O (bT BT) ku (kL (show _=I (yH (qs.getD k.toNat cX))from O) O)<|AQ 29 O OQ (gN (bT BT) (v:=B _) O)<|AD<|aG O (fun h37=> ?_) (fun h37=> ?_)
    .have hin:J9 (bB cs) (qs.getD k.toNat cX)=true:=by unfold J9;simp_all
     have XF:=hpl.at h0 ‹k<_› ‹Ft _=true›
     have hf1:=hfr _ ⟨XF.2.1.1,XF.2.1.2⟩
     have hf2:=hfr (qs.getD k.toNat cX).to.var ⟨by have:=‹fP (bB cs) _=fP (bB cs) _›;by_cases c:0<=(qs.getD k.toNat cX).to.var;exact c;exfalso;rw[I0 (i:=(qs.getD k.toNat cX).to.var) (fun q=>c q.1)]at this;omega,XF.2.2⟩
     refine fZ (z:=⟨none,_,_,_,_,none⟩) aQ O aQ ku sR<|fun w38 jS=>have Dh:=jS;AQ 0 O Dh (run_move kI)<|AQ 1 O Dh (run_move akZ)<|AQ 2 O Dh (af O)<|AQ 3 O Dh (fA ct 8 O pu O)<|AQ 4 O Dh (fA jh 2 O kV O)<|AQ 5 O Dh (fA kQ 0 O aP O)<|tI 6 O Dh bx 0 O O rfl<|AQ 10 O Dh (fA jh 11 O cQ O)<|AT 11 O Dh (fun w hS=>aE dO O O (hS.cell (i:=0) O (v:=U _) O))<|A1 7<|cm O aC O jS sR (Ga _ h J (jS.ext hb) (hW.hp jS)) (aL Fq O O)<|fun w40 jW=>have aoJ:=jW;AT 8 O aoJ (fun w hS=>ah (hS.sl (i:=1) O) dg cQ O O J)<|AT 9 O aoJ (fun w hS=>aE dO O O ((hS.sl (i:=1) O).cell _ _ (lT (dv:=0#64) J)))<|AQ 12 O aoJ (iG O O)<|AT 13 O aoJ (fun w hS=>ah (hS.sl (i:=1) O) dg cQ O O J)<|AD<|rN jW (i:=1) O J O O O O rfl<|fun w42 mz=>aa<|au<|V (ax Jw O J)<|mI rfl<|aa<| ?_
     refine⟨(k+1,_),aX,mW.u4.u4.u4.u4.u4.u4.u4.u4.u4.u4.u4.u4.u1.u1,(Hp.conv (mz.sub (sQ sR)) aM),(aK I aM),J,J,?_,?_⟩
     ·(rw[oX (d:=cX) h0 ‹k<_›,<-ho];unfold Kl;rw[aY hin];rfl)
     (rw[n8];exact hol)
    refine an<|au<|V (ax Jw O J)<|mI rfl<|aa<|have hno:¬J9 (bB cs) (qs.getD k.toNat cX)=true:=YD;?_
    refine⟨(k+1,o),aX,mW.u4.u4.u4.u4.u4.u4.u4.u4.u4,(Hp.conv (ku.sub (sQ sR)) aM),(aK I aM),J,J,?_,?_⟩
    ·(rw[oX (d:=cX) h0 ‹k<_›,<-ho];unfold Kl;rw[aW hno])
    exact hol
   refine AK 21 O O (bF BT) ku<|AK 22 O O (bF BT) ku<|AK 23 O O (bF BT) ku<|AK 24 O O (bF BT) ku<|AK 25 O O (bF BT) ku<|AK 26 O O (bF BT) ku<|AK 27 O O (bF BT) ku<|AK 28 O O (bF BT) ku<|AQ 29 O OQ (dR (bF BT) (v:=B false) O)<|AD<|cT rfl<|an<|au<|V (ax Jw O J)<|mI rfl<|aa<|have hno:¬J9 (bB cs) (qs.getD k.toNat cX)=true:=YD;?_
   refine⟨(k+1,o),aX,mW.u4.u4.u4.u4.u4.u4.u4.u4.u4,(Hp.conv (ku.sub (sQ sR)) aM),(aK I aM),J,J,?_,?_⟩
   ·(rw[oX (d:=cX) h0 ‹k<_›,<-ho];unfold Kl;rw[aW hno])
   exact hol
  refine AK 3 O O (bR (c:=false) rU) dG<|AK 4 O O (bR (c:=false) rU) dG<|AK 5 O O (bR (c:=false) rU) dG<|AK 6 O O (bR (c:=false) rU) dG<|AK 7 O O (bR (c:=false) rU) dG<|AK 8 O O (bR (c:=false) rU) dG<|AK 9 O O (bR (c:=false) rU) dG<|AK 10 O O (bR (c:=false) rU) dG<|AK 11 O O (bR (c:=false) rU) dG<|AK 12 O O (bR (c:=false) rU) dG<|AK 13 O O (bR (c:=false) rU) dG<|AK 14 O O (bR (c:=false) rU) dG<|AK 15 O O (bR (c:=false) rU) dG<|AK 16 O O (bR (c:=false) rU) dG<|AK 17 O O (bR (c:=false) rU) dG<|AK 18 O O (bR (c:=false) rU) dG<|AQ 19 O TO (dR (bR (c:=false) rU) (v:=B false) O)<|AQ 20 O TO (mV (B _) O)<|AK 21 O O O dG<|AK 22 O O O dG<|AK 23 O O O dG<|AK 24 O O O dG<|AK 25 O O O dG<|AK 26 O O O dG<|AK 27 O O O dG<|AK 28 O O O dG<|AQ 29 O TO (dR O (v:=B false) O)<|AD<|cT rfl<|an<|au<|V (ax Jw O J)<|mI rfl<|aa<|have hno:¬J9 (bB cs) (qs.getD k.toNat cX)=true:=YD;?_
  refine⟨(k+1,o),aX,mW.u4.u4.u4.u4.u4.u4.u4.u4.u4,(Hp.conv (dG.sub (sQ sR)) aM),(aK I aM),J,J,?_,?_⟩
  ·(rw[oX (d:=cX) h0 ‹k<_›,<-ho];unfold Kl;rw[aW hno])
  exact hol
 refine a8 (id:=2) rfl<|SR<|aF kI<| ?_
 refine V (run_assign bz) ?_
 refine aa<|aj<|have eB:((qs.take k.toNat).foldl (Kl (bB cs)) (V8 (bB cs) bp ak.length))=CZ (bB cs) bp ak.length qs:=(by rw[jg J];rfl);Pa O O cD (i:=0) O hol (by rw[ho,eB])
theorem qA{W0:World}{b:Nat}{ql qi:Value}{cq:Option (Nat×Array Value)}{wl:List Int}{wi:List Bool}{L:List bu}(i:Int)(hi:0<=i/\i<wi.length)(Ur:wl.length<=100000000)(w:World)(hq:qO cq ql (wl.map I))(hH:Hp W0 w (wE b ql qi cq wl wi L)):Calls Tryz.prog 85 #[pt b,I i] w (j3 fun u w'=>u= .tuple #[]/\∃(Us:Value) (Ut:Option (Nat×Array Value)),qO Ut Us (((pH (wl,wi) i).1).map I)/\Hp W0 w' (wE b (Us) qi (Ut) ((pH (wl,wi) i).1) ((pH (wl,wi) i).2) L)):=by
 simp only[wE]at hH
 refine en func85 rfl rfl<|SR<|aF (v:=Pn _ _) rfl<|V (af O)<|V (fA zQ 1 O HY O)<|lV ry hH 0 O O rfl<|mI rfl<|V (ah (hH.sl (i:=2) O) ry oy O O J)<|V (aE xY O O ((hH.sl (i:=2) O).cell _ _ (lT (dv:=false) J)))<|V (bJ O)<|aa<|bX O (fun h3=> ?_) (fun h3=> ?_)
 .refine SR<|aF (v:=Pn _ _) rfl<|V (af O)<|V (fA zQ 1 O HY O)<|lV ry hH 0 O O rfl<|mI rfl<|V (ah (hH.sl (i:=2) O) ry oy O O J)<|rN (a:=true) hH (i:=2) O J O O O O rfl<|fun w4 bY=>aa<|au<|aF (v:=Pn _ _) rfl<|aF (v:=Pn _ _) rfl<|V (af O)<|V (fA zQ 0 O dJ O)<|lV bD bY 0 O O rfl<|mI rfl<|ud 1 1 bY (cA bD O O (sz:=1) (vs:=[I _]) O O az az O O)<|fun b8 w6 eE=> ?_
  (try simp only[lC]at eE)
  refine as6 O eE (i:=2) O hq (eE.dU (i:=0) (n:=1) (sz:=1) O O az) O O bD O O (bytes:=8) O O O O J az<|fun v9 c12 Eo ae7 dr=>V (af O)<|V (fA zQ 0 O dJ O)<|bg dr (i:=1) O (bK O O (v:=v9) O (iu (dr.slQ (i:=2) O ae7)).2 (iu (dr.slQ (i:=2) O ae7)).1 (dr.blk (i:=1) O) aJ)<|fun Q1 gW=> ?_
  simp only[jd,lf,n5,gQ,Nat.reduceAdd]at gW
  refine aa<|rC O ⟨rfl,v9,c12,?_,?_⟩
  .rw[ab5 aR];exact ae7
  rw[ab5 aR];exact(gW.sub (sQ sR))
 refine an<|rC O ⟨rfl,ql,cq,?_,?_⟩
 .rw[Wa aR];exact hq
 rw[Wa aR];exact(hH)
theorem Ey{W0:World}{b:Nat}{ql qi:Value}{cq:Option (Nat×Array Value)}{wl:List Int}{wi:List Bool}{L:List bu}(x:Int)(hx:0<=x/\x<wi.length)(w:World)(hq:qO cq ql ((x::wl).map I))(hH:Hp W0 w (wE b ql qi cq (x::wl) wi L)):Calls Tryz.prog 87 #[pt b] w (j3 fun u w'=>u=I x/\∃(Us:Value) (Ut:Option (Nat×Array Value)),qO Ut Us (wl.map I)/\Hp W0 w' (wE b (Us) qi (Ut) wl (wi.set x.toNat false) L)):=by
 simp only[wE]at hH
 refine en func87 rfl rfl<|SR<|va (v:=I 0) rfl<|aa<|SR<|aF (v:=Pn _ _) rfl<|V (af O)<|V (fA zQ 0 O dJ O)<|lV bD hH 0 O O rfl<|V (ah (hH.slQ (i:=1) O hq) bD aP O O Ik)<|V (aE bx O O ((hH.slQ (i:=1) O hq).cell _ _ (eU Ik)))<|V (run_assign (show _=I x from O))<|aa<|SR<|aF (v:=Pn _ _) rfl<|aF (v:=Pn _ _) rfl<|V (af O)<|V (fA zQ 0 O dJ O)<|lV bD hH 0 O O rfl<|V (gD (hH.slQ (i:=1) O hq) bD aP O (q:=1) O iW)<|V (af O)<|V (fA zQ 0 O dJ O)<| ?_
 obtain⟨c1,CP,uo⟩:=hH.axN (i:=1) (x0:=I x) (xs:=wl.map I) O hq
 have hs6:=uo.slQ (i:=1) O CP
 refine bg uo (i:=0) O (bK O O (v:=pg ql 1 1) O (iu hs6).2 (iu hs6).1 (uo.blk (i:=0) O) aJ)<|fun w4 bY=> ?_
 simp only[jd,lf,n5,gQ,Nat.reduceAdd]at bY
 refine aa<|SR<|aF (v:=Pn _ _) rfl<|V (af O)<|V (fA zQ 1 O HY O)<|lV ry bY 0 O O rfl<|mI rfl<|V (ah (bY.sl (i:=2) O) ry oy O O J)<|rN (a:=false) bY (i:=2) O J O O O O rfl<|fun w7 eX=>aa<|SR<|mI rfl<|aI rfl<|aa<|aj<|jx O (v:=I x) O ⟨rfl,(pg ql 1 1),c1,CP,(eX)⟩
theorem Ge{bw bh bn bv:Nat}{was:El}{had:BitVec 64}{v:Int}(hv:0<=v/\v<ak.length/\v<bp.length)(w:World)(hbw:bu.blk bw (.cells (iM was) 37 (0,0))∈L)(hbh:bu.blk bh (.cells #[U had] 35 (0,0))∈L)(hbn:bu.blk bn (.cells #[pt n] 31 (0,0))∈L)(hbv:bu.blk bv (.cells #[I v] 3 (0,0))∈L)(hH:Hp W0 w (nE n wr vL vt vv vy vu vq sn vW vU vT cn sk wy vd vm cW cU W ul ts aq bf ak bp us qs lg tm L)):Calls Tryz.prog 193 #[.pointer (some ⟨bw,0,none⟩),.pointer (some ⟨bh,0,none⟩),.pointer (some ⟨bn,0,none⟩),.pointer (some ⟨bv,0,none⟩)] w (j3 fun u w'=>u= .tuple #[]/\Hp W0 w' (nE n wr vL vt vv vy vu vq sn vW vU vT cn sk wy vd vm cW cU W ul ts aq bf (ak.set v.toNat was) (bp.set v.toNat had) us qs lg tm L)):=by
 simp only[nE]at hH
 refine en func193 rfl rfl<|fZ (z:=⟨none,_,_,_,_,none⟩) aQ O aQ hH (sP (sP (sP (sP (sP (sP (sQ sR)))))))<|fun w1 bq=>have k7:=bq.sub (sP (sP (sP (sP (sP (sP (sQ sR)))))));AT 0 O k7 (fun w hS=>aE dh O O (hS.pD (mT (mT (mT (mT (mT (mT (mT (mT (mT (mT (mT hbn))))))))))) (v:=Pn _ _) O))<|AQ 1 O k7 (af O)<|AQ 2 O k7 (fA ct 3 O ji O)<|tV 3 O k7 bU 0 O O rfl<|AT 4 O k7 (fun w hS=>aE bx O O (hS.pD (mT (mT (mT (mT (mT (mT (mT (mT (mT (mT (mT hbv))))))))))) (v:=I _) O))<|AT 5 O k7 (fun w hS=>aE dh O O (hS.pD (mT (mT (mT (mT (mT (mT (mT (mT (mT (mT (mT hbn))))))))))) (v:=Pn _ _) O))<|AQ 6 O k7 (af O)<|AQ 7 O k7 (fA ct 4 O jB O)<|tV 8 O k7 dg 0 O O rfl<|AT 9 O k7 (fun w hS=>aE bx O O (hS.pD (mT (mT (mT (mT (mT (mT (mT (mT (mT (mT (mT hbv))))))))))) (v:=I _) O))<|AT 10 O k7 (fun w hS=>cN bI O O O (hS.aik (mT (mT (mT (mT (mT (mT (mT (mT (mT (mT (mT hbw)))))))))))))<|AT 11 O k7 (fun w hS=>aE dO O O (hS.pD (mT (mT (mT (mT (mT (mT (mT (mT (mT (mT (mT hbh))))))))))) (v:=U _) O))<|A1 12<|cf O aC O bq (sP (sP (sP (sP (sP (sP (sQ sR))))))) (ah (bq.sl (i:=6) O) bU fl O O J)<|A1 13<|ZJ O aC cY az bq (i:=6) O (fun _=>(sP (sP (sP (sP (sP (sP (sQ sR)))))))) J O ((rfl:_=Value.agg (iM _)).trans (by rw[iq])) (fun u hu=>uZ _ u pz) rfl<|fun w7 eX=>AT 14 O (eX.sub (sP (sP (sP (sP (sP (sP (sQ sR)))))))) (fun w hS=>ah (hS.sl (i:=6) O) dg cQ O O J)<|AD<|rN eX (i:=7) O J O O O O rfl<|fun w9 cg=>aa<|rC O ⟨rfl,(cg)⟩
theorem Jx{b:Nat}{ql qi:Value}{cq:Option (Nat×Array Value)}{wl:List Int}{wi:List Bool}(v:Int)(e:El)(y:BitVec 64)(hv:0<=v/\v<ak.length)(QL:bp.length=ak.length)(O4:us.length=ak.length)(hlg:lg.length<=600000000000)(Ur:wl.length<=10000000)(hun:(us.getD v.toNat de).l.length<=1000)(hui:∀i∈(us.getD v.toNat de).l,0<=i/\i<wi.length)(hum:dS 3 (us.getD v.toNat de)∈L)(w:World)(hq:qO cq ql (wl.map I))(hH:Hp W0 w (nE n wr vL vt vv vy vu vq sn vW vU vT cn sk wy vd vm cW cU W ul ts aq bf ak bp us qs lg tm ((wE b ql qi cq wl wi L)))):Calls Tryz.prog 162 #[pt n,pt b,I v,.agg (iM e),U y] w (j3 fun u w'=>u= .tuple #[]/\∃(f vd':Value) (Us:Value) (Ut:Option (Nat×Array Value)) (Lb:List bu),nr NX n Lb (f,.raise v (ak.getD v.toNat df) (bp.getD v.toNat 0))/\qO Ut Us ((mw ak us (wl,wi) v e).1.map I)/\Hp W0 w' (nE n wr vL vt vv vy vu vq sn vW vU vT cn sk wy (vd') vm cW cU W ul ts aq bf (ak.set v.toNat e) (bp.set v.toNat y) us qs (lg++[(f,.raise v (ak.getD v.toNat df) (bp.getD v.toNat 0))]) tm ((wE b (Us) qi (Ut) ((mw ak us (wl,wi) v e).1) ((mw ak us (wl,wi) v e).2) ((Lb++L)))))):=by
 simp only[wE]at hH
 simp only[nE]at hH
 refine en func162 rfl rfl<|SR<|gO hH (v:=Pn _ _) rfl<|fun b3 w1 bq=>gO bq (v:=I _) rfl<|fun b6 w4 bY=>gO bY (v:= .agg _) rfl<|fun b9 w7 eX=>aa<|ai<|fZ (z:=⟨none,_,_,_,_,none⟩) aQ O aQ eX sR<|fun Eo dr=>have iP:=dr;tP 0 O iP dh 2 O O rfl<|AQ 1 O iP (af O)<|AQ 2 O iP (fA ct 3 O ji O)<|tV 3 O iP bU 3 O O rfl<|tI 4 O iP bx 1 O O rfl<|AT 5 O iP (fun w hS=>ah (hS.sl (i:=9) O) bU fl O O J)<|AT 6 O iP (fun w hS=>gy (hS.sl (i:=9) O) bI O O O J)<|tP 7 O iP dh 2 O O rfl<|AQ 8 O iP (af O)<|AQ 9 O iP (fA ct 4 O jB O)<|tV 10 O iP dg 3 O O rfl<|tI 11 O iP bx 1 O O rfl<|AT 12 O iP (fun w hS=>ah (hS.sl (i:=10) O) dg cQ O O J)<|AT 13 O iP (fun w hS=>aE dO O O ((hS.sl (i:=10) O).cell _ _ (lT (dv:=0#64) J)))<|gj 14 15 aQ ?_ ?_
 .refine cB O aC O dr sR (f:=fun b=> .pointer (some ⟨b,0,none⟩)) (aT fg)<|fun b14 zl bV=>A1 15<|cB O aC O bV (sQ sR) (f:=fun b=> .pointer (some ⟨b,0,none⟩)) (aT Tryz.zeroValue35)<|fun b17 Tz cH=>A1 16<|dW O aC cH (j:=1) O (sQ (sQ sR)) (cR O O O (cH.blk (i:=1) O))<|fun TD eP=>AD<|bg eP (i:=0) O (bK O O (v:=U _) O O O (eP.blk (i:=0) O) az)<|fun Uq dG=>aa<|ai<|fZ (z:=⟨none,_,_,_,_,none⟩) aQ O aQ dG (sP (sP (sP (sP (sP (sP (sP (sP (sP (sP (sP (sQ sR))))))))))))<|fun w28 gE=>have Er:=gE.sub (sP (sP (sP (sP (sP (sP (sP (sP (sP (sP (sP (sQ sR))))))))))));tP 0 O Er dh 4 O O rfl<|AQ 1 O Er (af O)<|AQ 2 O Er (fA ct 3 O ji O)<|tV 3 O Er bU 5 O O rfl<|tI 4 O Er bx 3 O O rfl<|tP 5 O Er dh 4 O O rfl<|AQ 6 O Er (af O)<|AQ 7 O Er (fA ct 4 O jB O)<|tV 8 O Er dg 5 O O rfl<|tI 9 O Er bx 3 O O rfl<|AT 10 O Er (fun w hS=>cN bI O O O (hS.blk (i:=2) O))<|AQ 11 O Er (mV (U _) O)<|A1 12<|cf O aC O gE (sP (sP (sP (sP (sP (sP (sP (sP (sP (sP (sP (sQ sR)))))))))))) (ah (gE.sl (i:=11) O) bU fl O O J)<|A1 13<|ZJ O aC cY az gE (i:=11) O (fun _=>(sP (sP (sP (sP (sP (sP (sP (sP (sP (sP (sP (sQ sR))))))))))))) J O ((rfl:_=Value.agg (iM _)).trans (by rw[iq])) (fun u hu=>uZ _ u pz) rfl<|fun w34 zo=>AT 14 O (zo.sub (sP (sP (sP (sP (sP (sP (sP (sP (sP (sP (sP (sQ sR))))))))))))) (fun w hS=>ah (hS.sl (i:=11) O) dg cQ O O J)<|AD<|rN zo (i:=12) O J O O O O rfl<|fun w36 uF=>aa<|SR<|lP dh uF 4 O O rfl<| ?_
  refine V (VY bz bz bz bz) ?_
  refine cG O (iL _ _ (.raise v (ak.getD v.toNat df) (bp.getD v.toNat 0)) J _ (uF.pj [5,5,5,5,5,5,5,5,5,5,5,5])) (aL zY O O) ?_
  rintro _ w40 ⟨rfl,v42,jW⟩
  simp only[nE]at jW
  have mz:=jW.pk [12,12,12,12,12]
  refine aa<|ai<|SR<|V (cN bI O O O (mz.blk (i:=1) O))<|V (cN bI O O O (mz.blk (i:=2) O))<|V (IP Hi O O)<|aa<|aG O (fun h45=> ?_) (fun h45=> ?_)
  .refine aj<|rC O ⟨rfl,(jO 193 #[pt b14,pt b17,pt b3,pt b6]),v42,ql,cq,[bu.blk b14 (.cells (iM (ak.getD v.toNat df)) 37 (0,0)),bu.blk b17 (.cells #[U (bp.getD v.toNat 0)] 35 (0,0)),bu.blk b3 (.cells #[pt n] 31 (0,0)),bu.blk b6 (.cells #[I v] 3 (0,0))],⟨b14,b17,b3,b6,rfl,aJ,aJ,aJ,aJ⟩,?_,?_⟩
   .rw[mw,aY ‹sx _ e›];exact hq
   rw[mw,aY ‹sx _ e›];exact((mz.sub (sP (sP (sQ sR)))).pj [4,4,4,4,4,4,4,4,4,4,4,4,4,4,4,1,0,1])
  refine an<|ai<|ew aQ mz<|fun w46 o4=>have TZ:=o4;tP 0 O TZ dh 4 O O rfl<|AQ 1 O TZ (af O)<|AQ 2 O TZ (fA ct 5 O zV O)<|tV 3 O TZ pN 5 O O rfl<|tI 4 O TZ bx 3 O O rfl<|AT 5 O TZ (fun w hS=>ah (hS.sl (i:=13) O) pN dJ O O J)<|AT 6 O TZ (fun w hS=>aE bD O O ((hS.sl (i:=13) O).cell _ _ (lT (dv:=de) J)))<|AT 7 O TZ (fun w hS=>aD (hS.QC (mT (mT (mT (mT (mT (mT (mT (mT (mT (mT (mT (mT (mT (mT (mT (mT (mT (mT (mT (mT hum))))))))))))))))))))) O bD O)<|AQ 8 O TZ (mV (I 0) O)<|AD<|aA<|bt (G:=Int×Value×(Option (Nat×Array Value))×(List Int)×(List Bool)) (fun⟨k,yJ,B9,qz,m6⟩ s' w'=>(Fr (13::(rg 56 8 [])) _ s')/\(Hp W0 w' (_::_::_::_::_::_::_::_::_::_::_::_::_::_::_::_::_:: .blk b (.cells #[yJ,qi] 156 (0,0))::qE B9 yJ 3 (qz.map I)::jY B qi 4 m6::_))/\(s' 56=I k)/\(0<=k)/\(k<=(us.getD v.toNat de).l.length)/\(qO B9 yJ (qz.map I))/\((qz,m6)=r7 (wl,wi) ((us.getD v.toNat de).l.take k.toNat))) (fun⟨k,yJ,B9,qz,m6⟩=>((us.getD v.toNat de).l.length-k).toNat) ((0,ql,cq,wl,wi)) ⟨Fr.refl _ _,o4,rfl,J,J,hq,rfl⟩<| ?_
  rintro⟨k,yJ,B9,qz,m6⟩ aP4 w48 ⟨aAf,jR,aaR,h0,hk,O6,hp⟩
  obtain⟨aAg,auP,auQ⟩:=aAf.w3 1 54 55
  have aGY:qz.length<=wl.length+1000:=by have:=aK (fun p=>p.1.length) hp;have h2:=G6 (l:=(us.getD v.toNat de).l.take k.toNat) (p:=(wl,wi));simp only at this;rw[ef]at h2;simp only at h2;omega
  have aGZ:m6.length=wi.length:=by have:=aK (fun p=>p.2.length) hp;have h2:=yZ (l:=(us.getD v.toNat de).l.take k.toNat) (p:=(wl,wi));simp only at this h2;omega
  refine SR<|V (aN aaR auQ)<|aa<|ai<|aG O (fun h50=> ?_) (fun h50=> ?_)
  .refine an<|ai<|aA<|SR<|V (ah (jR.QC (mT (mT (mT (mT (mT (mT (mT (mT (mT (mT (mT (mT (mT (mT (mT (mT (mT (mT (mT (mT hum))))))))))))))))))))) bD aP auP aaR J)<|V (aE bx O O ((jR.QC (mT (mT (mT (mT (mT (mT (mT (mT (mT (mT (mT (mT (mT (mT (mT (mT (mT (mT (mT (mT hum))))))))))))))))))))).cell _ _ (eU J)))<|aI rfl<|aa<|au<|aF aAg<|mI rfl<|cG O (qA _ af1 J _ O6 (jR.pj [17,17,17])) (aL call85 O O)<| ?_
   rintro _ w53 ⟨rfl,v55,c56,aG0,gU⟩
   simp only[wE]at gU
   have oP:=gU.pk [3,3,3,3,3,3,3,3,3,3,3,3,3,3,3,3,3]
   refine aa<|au<|V (ax aaR O J)<|mI rfl<|aa<| ?_
   refine⟨(k+1,v55,c56,(pH (qz,m6) ((us.getD v.toNat de).l.getD k.toNat 0)).1,(pH (qz,m6) ((us.getD v.toNat de).l.getD k.toNat 0)).2),aX,aAf.u4.u4.u1,(Hp.conv oP aM),(aK I aM),J,J,?_,?_⟩
   .exact aG0
   (rw[QI h0 ‹k<_›,<-hp])
  refine a8 (id:=0) rfl<|rC O ⟨rfl,(jO 193 #[pt b14,pt b17,pt b3,pt b6]),v42,yJ,B9,[bu.blk b14 (.cells (iM (ak.getD v.toNat df)) 37 (0,0)),bu.blk b17 (.cells #[U (bp.getD v.toNat 0)] 35 (0,0)),bu.blk b3 (.cells #[pt n] 31 (0,0)),bu.blk b6 (.cells #[I v] 3 (0,0))],⟨b14,b17,b3,b6,rfl,aJ,aJ,aJ,aJ⟩,?_,?_⟩
  .rw[mw,aW ‹¬sx _ e›];rw[jg J]at hp;rw[<-hp];exact O6
  rw[mw,aW ‹¬sx _ e›];rw[jg J]at hp;rw[<-hp];exact((jR.sub (sP (sP (sQ sR)))).pj [4,4,4,4,4,4,4,4,4,4,4,4,4,4,4,1,0,1])
 refine cB O aC O dr sR (f:=fun b=> .pointer (some ⟨b,0,none⟩)) (aT Tryz.zeroValue35)<|fun b61 w59 wH=>A1 14<|cB O aC O wH (sQ sR) (f:=fun b=> .pointer (some ⟨b,0,none⟩)) (aT fg)<|fun b64 w62 o6=>A1 16<|dW O aC o6 (j:=0) O (sQ (sQ sR)) (cR O O O (o6.blk (i:=0) O))<|fun w69 wI=>AD<|bg wI (i:=1) O (bK O O (v:=U _) O O O (wI.blk (i:=1) O) az)<|fun w73 xb=>aa<|ai<|fZ (z:=⟨none,_,_,_,_,none⟩) aQ O aQ xb (sP (sP (sP (sP (sP (sP (sP (sP (sP (sP (sP (sQ sR))))))))))))<|fun w75 oQ=>have q9:=oQ.sub (sP (sP (sP (sP (sP (sP (sP (sP (sP (sP (sP (sQ sR))))))))))));tP 0 O q9 dh 4 O O rfl<|AQ 1 O q9 (af O)<|AQ 2 O q9 (fA ct 3 O ji O)<|tV 3 O q9 bU 5 O O rfl<|tI 4 O q9 bx 3 O O rfl<|tP 5 O q9 dh 4 O O rfl<|AQ 6 O q9 (af O)<|AQ 7 O q9 (fA ct 4 O jB O)<|tV 8 O q9 dg 5 O O rfl<|tI 9 O q9 bx 3 O O rfl<|AT 10 O q9 (fun w hS=>cN bI O O O (hS.blk (i:=2) O))<|AQ 11 O q9 (mV (U _) O)<|A1 12<|cf O aC O oQ (sP (sP (sP (sP (sP (sP (sP (sP (sP (sP (sP (sQ sR)))))))))))) (ah (oQ.sl (i:=11) O) bU fl O O J)<|A1 13<|ZJ O aC cY az oQ (i:=11) O (fun _=>(sP (sP (sP (sP (sP (sP (sP (sP (sP (sP (sP (sQ sR))))))))))))) J O ((rfl:_=Value.agg (iM _)).trans (by rw[iq])) (fun u hu=>uZ _ u pz) rfl<|fun w81 o5=>AT 14 O (o5.sub (sP (sP (sP (sP (sP (sP (sP (sP (sP (sP (sP (sQ sR))))))))))))) (fun w hS=>ah (hS.sl (i:=11) O) dg cQ O O J)<|AD<|rN o5 (i:=12) O J O O O O rfl<|fun w83 kx=>aa<|SR<|lP dh kx 4 O O rfl<| ?_
 refine V (VY bz bz bz bz) ?_
 refine cG O (iL _ _ (.raise v (ak.getD v.toNat df) (bp.getD v.toNat 0)) J _ (kx.pj [5,5,5,5,5,5,5,5,5,5,5,5])) (aL zY O O) ?_
 rintro _ w87 ⟨rfl,v89,zu⟩
 simp only[nE]at zu
 have nZ:=zu.pk [12,12,12,12,12]
 refine aa<|ai<|SR<|V (cN bI O O O (nZ.blk (i:=0) O))<|V (cN bI O O O (nZ.blk (i:=2) O))<|V (IP Hi O O)<|aa<|aG O (fun h92=> ?_) (fun h92=> ?_)
 .refine aj<|rC O ⟨rfl,(jO 193 #[pt b64,pt b61,pt b3,pt b6]),v89,ql,cq,[bu.blk b64 (.cells (iM (ak.getD v.toNat df)) 37 (0,0)),bu.blk b61 (.cells #[U (bp.getD v.toNat 0)] 35 (0,0)),bu.blk b3 (.cells #[pt n] 31 (0,0)),bu.blk b6 (.cells #[I v] 3 (0,0))],⟨b64,b61,b3,b6,rfl,aJ,aJ,aJ,aJ⟩,?_,?_⟩
  .rw[mw,aY ‹sx _ e›];exact hq
  rw[mw,aY ‹sx _ e›];exact((nZ.sub (sP (sP (sQ sR)))).pj [4,4,4,4,4,4,4,4,4,4,4,4,4,4,4,0,0,1])
 refine an<|ai<|ew aQ nZ<|fun w93 uI=>have T0:=uI;tP 0 O T0 dh 4 O O rfl<|AQ 1 O T0 (af O)<|AQ 2 O T0 (fA ct 5 O zV O)<|tV 3 O T0 pN 5 O O rfl<|tI 4 O T0 bx 3 O O rfl<|AT 5 O T0 (fun w hS=>ah (hS.sl (i:=13) O) pN dJ O O J)<|AT 6 O T0 (fun w hS=>aE bD O O ((hS.sl (i:=13) O).cell _ _ (lT (dv:=de) J)))<|AT 7 O T0 (fun w hS=>aD (hS.QC (mT (mT (mT (mT (mT (mT (mT (mT (mT (mT (mT (mT (mT (mT (mT (mT (mT (mT (mT (mT hum))))))))))))))))))))) O bD O)<|AQ 8 O T0 (mV (I 0) O)<|AD<|aA<|bt (G:=Int×Value×(Option (Nat×Array Value))×(List Int)×(List Bool)) (fun⟨k,yJ,B9,qz,m6⟩ s' w'=>(Fr (13::(rg 56 8 [])) _ s')/\(Hp W0 w' (_::_::_::_::_::_::_::_::_::_::_::_::_::_::_::_::_:: .blk b (.cells #[yJ,qi] 156 (0,0))::qE B9 yJ 3 (qz.map I)::jY B qi 4 m6::_))/\(s' 56=I k)/\(0<=k)/\(k<=(us.getD v.toNat de).l.length)/\(qO B9 yJ (qz.map I))/\((qz,m6)=r7 (wl,wi) ((us.getD v.toNat de).l.take k.toNat))) (fun⟨k,yJ,B9,qz,m6⟩=>((us.getD v.toNat de).l.length-k).toNat) ((0,ql,cq,wl,wi)) ⟨Fr.refl _ _,uI,rfl,J,J,hq,rfl⟩<| ?_
 rintro⟨k,yJ,B9,qz,m6⟩ aP7 w95 ⟨aAh,Gf,aaS,h0,hk,O6,hp⟩
 obtain⟨aAi,auR,auS⟩:=aAh.w3 1 54 55
 have aGY:qz.length<=wl.length+1000:=by have:=aK (fun p=>p.1.length) hp;have h2:=G6 (l:=(us.getD v.toNat de).l.take k.toNat) (p:=(wl,wi));simp only at this;rw[ef]at h2;simp only at h2;omega
 have aGZ:m6.length=wi.length:=by have:=aK (fun p=>p.2.length) hp;have h2:=yZ (l:=(us.getD v.toNat de).l.take k.toNat) (p:=(wl,wi));simp only at this h2;omega
 refine SR<|V (aN aaS auS)<|aa<|ai<|aG O (fun h97=> ?_) (fun h97=> ?_)
 .refine an<|ai<|aA<|SR<|V (ah (Gf.QC (mT (mT (mT (mT (mT (mT (mT (mT (mT (mT (mT (mT (mT (mT (mT (mT (mT (mT (mT (mT hum))))))))))))))))))))) bD aP auR aaS J)<|V (aE bx O O ((Gf.QC (mT (mT (mT (mT (mT (mT (mT (mT (mT (mT (mT (mT (mT (mT (mT (mT (mT (mT (mT (mT hum))))))))))))))))))))).cell _ _ (eU J)))<|aI rfl<|aa<|au<|aF aAi<|mI rfl<|cG O (qA _ af1 J _ O6 (Gf.pj [17,17,17])) (aL call85 O O)<| ?_
  rintro _ auD ⟨rfl,aG1,aG2,aAj,E6⟩
  simp only[wE]at E6
  have J5:=E6.pk [3,3,3,3,3,3,3,3,3,3,3,3,3,3,3,3,3]
  refine aa<|au<|V (ax aaS O J)<|mI rfl<|aa<| ?_
  refine⟨(k+1,aG1,aG2,(pH (qz,m6) ((us.getD v.toNat de).l.getD k.toNat 0)).1,(pH (qz,m6) ((us.getD v.toNat de).l.getD k.toNat 0)).2),aX,aAh.u4.u4.u1,(Hp.conv J5 aM),(aK I aM),J,J,?_,?_⟩
  .exact aAj
  (rw[QI h0 ‹k<_›,<-hp])
 refine a8 (id:=0) rfl<|rC O ⟨rfl,(jO 193 #[pt b64,pt b61,pt b3,pt b6]),v89,yJ,B9,[bu.blk b64 (.cells (iM (ak.getD v.toNat df)) 37 (0,0)),bu.blk b61 (.cells #[U (bp.getD v.toNat 0)] 35 (0,0)),bu.blk b3 (.cells #[pt n] 31 (0,0)),bu.blk b6 (.cells #[I v] 3 (0,0))],⟨b64,b61,b3,b6,rfl,aJ,aJ,aJ,aJ⟩,?_,?_⟩
 .rw[mw,aW ‹¬sx _ e›];rw[jg J]at hp;rw[<-hp];exact O6
 rw[mw,aW ‹¬sx _ e›];rw[jg J]at hp;rw[<-hp];exact((Gf.sub (sP (sP (sQ sR)))).pj [4,4,4,4,4,4,4,4,4,4,4,4,4,4,4,0,0,1])
theorem BE{b:Nat}{ql qi:Value}{cq:Option (Nat×Array Value)}{wl:List Int}{wi:List Bool}(v:Int)(e:El)(y:BitVec 64)(hm:m<=100000)(QL:bp.length=ak.length)(O4:us.length=ak.length)(oF:(bB cs).length=ak.length)(QM:ak.length<=1000)(hlg:lg.length<=550000000000)(Ur:wl.length<=1000000)(yp:∀k:Nat,k<us.length->dS 3 (us.getD k de)∈L/\(us.getD k de).l.length<=1000/\∀i∈(us.getD k de).l,0<=i/\i<wi.length)(w:World)(h:xA FX n m cs vW vU cW cU W ul ts cn L)(hq:qO cq ql (wl.map I))(hH:Hp W0 w (nE n wr vL vt vv vy vu vq sn vW vU vT cn sk wy vd vm cW cU W ul ts aq bf ak bp us qs lg tm ((wE b ql qi cq wl wi L)))):Calls Tryz.prog 130 #[pt n,pt b,I v,.agg (iM e),U y] w (j3 fun u w'=>u= .tuple #[]/\∃(vd':Value) (Us:Value) (Ut:Option (Nat×Array Value)) (new:List (Value×mE)) (Lb:List bu),(∀x∈new,nr NX n Lb x/\I8 x.2)/\new.length<=(bP (bB cs) v).length/\iO new (NP.mk aq bf ak bp ((qu us)) qs sn cs sk wy wr) (NP.mk aq bf ((yo ak us (wl,wi) (bP (bB cs) v) e).1) (gF bp (bP (bB cs) v) y) ((qu us)) qs sn cs sk wy wr)/\qO Ut Us ((yo ak us (wl,wi) (bP (bB cs) v) e).2.1.map I)/\Hp W0 w' (nE n wr vL vt vv vy vu vq sn vW vU vT cn sk wy (vd') vm cW cU W ul ts aq bf ((yo ak us (wl,wi) (bP (bB cs) v) e).1) (gF bp (bP (bB cs) v) y) us qs (lg++new) tm ((wE b (Us) qi (Ut) ((yo ak us (wl,wi) (bP (bB cs) v) e).2.1) ((yo ak us (wl,wi) (bP (bB cs) v) e).2.2) ((Lb++L)))))):=by
 simp only[wE]at hH
 simp only[nE]at hH
 refine en func130 rfl rfl<|SR<|gO hH (v:= .agg _) rfl<|fun b3 w1 bq=>aa<|SR<|aF (v:=Pn _ _) rfl<|V (af O)<|V (fA ct 8 O pu O)<|mI rfl<|CA O bq (acP _ h J (bq.blk (i:=1) O) (bq.yY (i:=2) O h.hW)) (aL call129 O O)<|fun v6 w4 bY=>V (aD (bY.sl (i:=0) O) O bD O)<|aF (v:=I 0) rfl<|aa<|aA<|have aP9:=wz (cl:=bB cs) (i:=v);bt (G:=Int×Value×Value×(Option (Nat×Array Value))×(List El)×(List (BitVec 64))×(List Int)×(List Bool)×(List (Value×mE))×(List bu)×(List bu)) (fun⟨k,Xn,yJ,B9,dc,eN,qz,m6,new,Lb,Z1⟩ s' w'=>(Fr (11::(rg 18 11 [])) _ s')/\(Hp W0 w' (.row v6 3 1 (bP (bB cs) v).length ((bP (bB cs) v).map I):: .blk b3 (.cells (Value.agg (iM e)).cells 37 (0,0)):: .blk n (.cells #[wr,vL,vt,vv,vy,vu,vq,I sn,vW,vU,vT,I cn,B sk,U wy,Xn,vm] 111 (0,0))::cE cW vW 35 (W.map U)::cE cU vU 1 (ul.map Prod.fst)::jY I vT 3 ts::wu XC 13 vL 119 aq::jY I vt 3 bf::wu pM 8 vv 37 dc::jY U vy 35 eN::jY j5.v vu 99 us::wu qw 13 vq 128 qs::jY Prod.fst Xn 1 (lg++new)::jY I vm 3 tm:: .blk b (.cells #[yJ,qi] 156 (0,0))::qE B9 yJ 3 (qz.map I)::jY B qi 4 m6::Z1))/\(s' 18=I k)/\(0<=k)/\(k<=(bP (bB cs) v).length)/\(qO B9 yJ (qz.map I))/\((dc,(qz,m6))=(yo ak us (wl,wi) ((bP (bB cs) v).take k.toNat) e))/\(eN=gF bp ((bP (bB cs) v).take k.toNat) y)/\(Z1=Lb++L)/\(∀x∈new,nr NX n Lb x/\I8 x.2)/\(new.length<=k.toNat)/\(iO new (NP.mk aq bf ak bp ((qu us)) qs sn cs sk wy wr) (NP.mk aq bf dc eN ((qu us)) qs sn cs sk wy wr))) (fun⟨k,Xn,yJ,B9,dc,eN,qz,m6,new,Lb,Z1⟩=>((bP (bB cs) v).length-k).toNat) ((0,vd,ql,cq,ak,bp,wl,wi,[],[],L)) ⟨Fr.refl _ _,(by rw[mG];exact bY),rfl,J,J,hq,rfl,rfl,rfl,(fun x hx=>by cases hx),nQ _,iO.nil _⟩<| ?_
 rintro⟨k,Xn,yJ,B9,dc,eN,qz,m6,new,Lb,Z1⟩ sg7 w7 ⟨Ep,eE,ak0,h0,hk,O6,hp,hy2,hz,XH,hnl,hbk⟩
 obtain⟨Gc,ae0,Jk,aur,aAk,aAl⟩:=Ep.w6 0 1 4 8 16 17
 subst hz
 have e1:dc=gF ak ((bP (bB cs) v).take k.toNat) e:=by have:=aK Prod.fst hp;rw[y8]at this;exact this
 have lv1:dc.length=ak.length:=by rw[e1,jb]
 have lw1:eN.length=ak.length:=by rw[hy2,jb];exact QL
 have li1:m6.length=wi.length:=by have:=aK (fun p=>p.2.2.length) hp;rw[Lc]at this;exact this
 have ll1:qz.length<=wl.length+1000*k.toNat:=by have:=aK (fun p=>p.2.1.length) hp;have h2:=ai2 (e:=e) (p:=(wl,wi)) (ak:=ak) (fun k hk=>(yp k hk).2.1) (ks:=(bP (bB cs) v).take k.toNat) (fun q hq=>by have:=mR (uK hq);omega);rw[ef]at h2;simp only at this h2;omega
 refine SR<|V (aN ak0 aAl)<|aa<|ai<|aG O (fun h9=> ?_) (fun h9=> ?_)
 .refine an<|ai<|aA<|SR<|have hkm:=mR (dy (d:=0) h0 ‹k<_›);V (ah (eE.sl (i:=0) O) bD aP aAk ak0 J)<|V (aE bx O O ((eE.sl (i:=0) O).cell _ _ (eU J)))<|aI rfl<|aa<|au<|aF Gc<|aF ae0<|mI rfl<|V (cN bI O O aur (eE.blk (i:=1) O))<|aF Jk<|cG O (Jx _ _ _ J J J Fu J (yp _ J).2.1 (fun i hi=>by have:=(yp _ J).2.2 i hi;omega) (by(repeat apply gd);exact bH _ (yp _ J).1) _ O6 (eE.pj [2,2,2,2,2,2,2,2,2,2,2,2,2,2,2])) (sL call162 O O O O O)<| ?_
  rintro _ Q2 ⟨rfl,f12,aG3,q14,c15,aAm,aG4,aG5,O7⟩
  simp only[nE,wE]at O7
  have fK:=Hp.mQ (A:=[_,_,_,_,_,_,_,_,_,_,_,_,_,_,_]) (R:=[_,_]) O7
  simp only[gB,eR]at fK
  have cK:=fK.pk [15,15]
  refine aa<|au<|V (ax ak0 O J)<|mI rfl<|aa<| ?_
  refine⟨(k+1,aG3,q14,c15,dc.set ((bP (bB cs) v).getD k.toNat 0).toNat e,eN.set ((bP (bB cs) v).getD k.toNat 0).toNat y,(mw dc us (qz,m6) ((bP (bB cs) v).getD k.toNat 0) e).1,(mw dc us (qz,m6) ((bP (bB cs) v).getD k.toNat 0) e).2,new++[(f12,.raise ((bP (bB cs) v).getD k.toNat 0) (dc.getD ((bP (bB cs) v).getD k.toNat 0).toNat df) (eN.getD ((bP (bB cs) v).getD k.toNat 0).toNat 0))],aAm++Lb,(aAm++(Lb++L))),aX,Ep.u4.u4.u4,(Hp.conv cK (by simp only[dH];rfl)),(aK I aM),J,J,?_,?_,?_,?_,?_,?_,?_⟩
  .exact aG5
  ·(rw[ai1 h0 ‹k<_›,<-hp];rfl)
  ·(rw[CU h0 ‹k<_›,<-hy2])
  ·(rw[dH])
  ·(intro x hx;rcases fh.1 hx with q|q;exact⟨(XH x q).1.mono (fun e he=>bH _ he),(XH x q).2⟩;rw[gG.1 q];exact⟨aG4.mono fun e he=>dI _ he,trivial⟩)
  ·(rw[ed,ey];omega)
  exact hbk.trans (ZO (s:=(NP.mk aq bf dc eN ((qu us)) qs sn cs sk wy wr)) (by show _/\_<(dc.length:Int);omega) (by show _<(eN.length:Int);omega))
 refine a8 (id:=0) O ?_
 rw[jg J]at hp hy2
 have e2:=aK Prod.fst hp
 have e3:=aK Prod.snd hp
 have e4:=aK Prod.fst e3
 have e5:=aK Prod.snd e3
 simp only at e2 e4 e5
 have eP:=(eE.sub (sQ (sQ sR)))
 rw[e2,hy2,e4,e5]at eP
 rw[e4]at O6
 rw[e2,hy2]at hbk
 exact rC O ⟨rfl,Xn,yJ,B9,new,Lb,XH,J,hbk,O6,eP⟩
theorem Gg{bn bm:Nat}{i:Int}{R:List bu}(hm:m<=100000)(w:World)(hbn:bu.blk bn (.cells #[pt n] 31 (0,0))∈(R++L))(hbm:bu.blk bm (.cells #[I i] 3 (0,0))∈(R++L))(h:xA FX n m cs vW vU cW cU W ul ts cn L)(hH:Hp W0 w (nE n wr vL vt vv vy vu vq sn vW vU vT cn sk wy vd vm cW cU W ul ts aq bf ak bp us qs lg tm ((R++L)))):Calls Tryz.prog 157 #[.pointer (some ⟨bn,0,none⟩),.pointer (some ⟨bm,0,none⟩)] w (j3 fun u w'=>u= .tuple #[]/\∃(ON OO XG:Value) (Re Rf:Option (Nat×Array Value)) (W':List (BitVec 64)) (zB:List (Value×jU)) (ts':List Int) (Rg:Int) (Lb:List bu),xA FX n (m) ((CS cs i).1) ON OO Re Rf W' zB ts' Rg (Lb++L)/\Hp W0 w' (nE n wr vL vt vv vy vu vq sn (ON) (OO) (XG) (Rg) sk wy vd vm (Re) (Rf) (W') (zB) (ts') aq bf ak bp us qs lg tm ((R++(Lb++L))))):=by
 simp only[nE]at hH
 refine en func157 rfl rfl<|fZ (z:=⟨some _,_,_,_,_,none⟩) aQ O aQ hH sR<|fun w1 bq=>have k7:=bq;AT 0 O k7 (fun w hS=>aE dh O O (hS.pD (mT (mT (mT (mT (mT (mT (mT (mT (mT (mT (mT (mT hbn)))))))))))) (v:=Pn _ _) O))<|AQ 1 O k7 (af O)<|AQ 2 O k7 (fA ct 8 O pu O)<|AT 3 O k7 (fun w hS=>aE bx O O (hS.pD (mT (mT (mT (mT (mT (mT (mT (mT (mT (mT (mT (mT hbm)))))))))))) (v:=I _) O))<|AD<|cG O (auI _ h J (R:=([_,_,_,_,_,_,_,_]++R)) bq) (aL call49 O O)<| ?_
 rintro _ Jg ⟨rfl,vW5,vU6,vT7,cW8,cU9,W10,aG6,aG7,aG8,aG9,aAn,er⟩
 have iC:=Hp.mQ (A:=[_,_,_,_]) (R:=([_,_,_,_,_,_,_,_]++R)) er
 simp only[gB,eR]at iC
 refine aa<|rC O ⟨rfl,vW5,vU6,vT7,cW8,cU9,W10,aG6,aG7,aG8,aG9,aAn,(iC)⟩
theorem Jy{R:List bu}(v k:Int)(hm:m<=100000)(hlg:lg.length<=550000000000)(w:World)(h:xA FX n m cs vW vU cW cU W ul ts cn L)(hH:Hp W0 w (nE n wr vL vt vv vy vu vq sn vW vU vT cn sk wy vd vm cW cU W ul ts aq bf ak bp us qs lg tm ((R++L)))):Calls Tryz.prog 126 #[pt n,I v,I k] w (j3 fun u w'=>u= .tuple #[]/\∃(ON OO XG:Value) (Re Rf:Option (Nat×Array Value)) (W':List (BitVec 64)) (zB:List (Value×jU)) (ts':List Int) (Rg:Int) (vd':Value) (new:List (Value×mE)) (Lb:List bu),xA FX n (m+(if(ju cs v k).2 then 1 else 0)) ((ju cs v k).1) ON OO Re Rf W' zB ts' Rg (Lb++L)/\(∀x∈new,nr NX n Lb x/\I8 x.2)/\new.length<=1/\iO new (NP.mk aq bf ak bp ((qu us)) qs sn cs sk wy wr) (NP.mk aq bf ak bp ((qu us)) qs sn ((ju cs v k).1) sk wy wr)/\Hp W0 w' (nE n wr vL vt vv vy vu vq sn (ON) (OO) (XG) (Rg) sk wy (vd') vm (Re) (Rf) (W') (zB) (ts') aq bf ak bp us qs (lg++new) tm ((R++(Lb++L))))):=by
 simp only[nE]at hH
 refine en func126 rfl rfl<|SR<|gO hH (v:=Pn _ _) rfl<|fun b3 w1 bq=>aa<|SR<|lP dh bq 0 O O rfl<|V (af O)<|V (fA ct 8 O pu O)<|aH O bq (akQ h J (bq.blk (i:=1) O) (bq.yY (i:=2) O h.hW) (bq.sl (i:=4) O)) (ay call46 O)<|fun w4 bY=>lN bY (aT Tryz.zeroValue3)<|fun b8 w6 eE=>bg eE (i:=0) O (bK O O (v:=I _) O O O (eE.blk (i:=0) O) az)<|fun Je cM=>aa<|SR<|lP dh cM 1 O O rfl<|V (af O)<|V (fA ct 8 O pu O)<|mI rfl<|mI rfl<|cG O (aoH _ _ h J (R:=([_,_,_,_,_,_,_,_,_,_]++R)) (cM.pj [2,2,2,2])) (bA call156 O O O)<| ?_
 rintro _ Uq ⟨rfl,aAo,aAp,aAq,aAr,aAs,W20,aAt,aAu,aAv,aAw,acR,dG⟩
 have gE:=Hp.mQ (A:=[_,_,_,_]) (R:=([_,_,_,_,_,_,_,_,_,_]++R)) dG
 simp only[gB,eR]at gE
 have iU:=gE.pk [4,4]
 refine aa<|bX O (fun BZ=> ?_) (fun BZ=> ?_)
 .refine au<|lP dh iU 1 O O rfl<| ?_
  refine V (tA bz bz) ?_
  refine cG O (iL _ _ (.merge ((cs.length:Int)-1)) J _ (iU.pj [2,2,2,2,2,2,2,2,2,2,2,2])) (aL zY O O) ?_
  rintro _ w35 ⟨rfl,v37,j8⟩
  simp only[nE]at j8
  have uG:=j8.pk [12,12]
  refine aa<|rC O ⟨rfl,aAo,aAp,aAq,aAr,aAs,W20,aAt,aAu,aAv,v37,[((jO 157 #[pt b3,pt b8]),.merge ((cs.length:Int)-1))],[bu.blk b3 (.cells #[pt n] 31 (0,0)),bu.blk b8 (.cells #[I ((cs.length:Int)-1)] 3 (0,0))]++aAw,acR.mono (fun e he=>by rw[dH];exact bH _ he),(fun x hx=>by rw[gG.1 hx];exact⟨⟨_,_,rfl,aJ,aJ⟩,trivial⟩),eu _,ZP (s:=(NP.mk aq bf ak bp ((qu us)) qs sn cs sk wy wr)) h.ne ‹_=true›,(Hp.mQ (A:=[_,_,_,_,_,_,_,_,_,_,_,_]) (B:=[_,_]) (R:=R) ((uG).pj [2,2,2,2,2,2,2,2,2,2,2,2,1]))⟩
 refine an<|rC O ⟨rfl,aAo,aAp,aAq,aAr,aAs,W20,aAt,aAu,aAv,vd,[],aAw,acR,(fun x hx=>by cases hx),nQ _,(by rw[aey aR];exact iO.nil _),by rw[mG];exact(iU.sub (sQ (sQ sR)))⟩
theorem KC{b:Nat}{ql qi:Value}{cq:Option (Nat×Array Value)}{wl:List Int}{wi:List Bool}{ids:List Nat}{tl:List (Nat×Rl)}{f:Ct}{nk:Nat}{Zf R:List bu}(q:dD)(hm:m<=100000)(QL:bp.length=ak.length)(O4:us.length=ak.length)(oF:(bB cs).length=ak.length)(QM:ak.length<=1000)(hlg:lg.length<=500000000000)(Ur:wl.length<=1000000)(yp:∀k:Nat,k<us.length->dS 3 (us.getD k de)∈R/\(us.getD k de).l.length<=1000/\∀i∈(us.getD k de).l,0<=i/\i<wi.length)(hf:FO nk f)(hnk:nk<=100000000000)(hql:0<=q.bf/\q.bf<aq.length)(aoK:q.code.length<=1000)(hqt:q.to.var<ak.length)(hqp:Ft q=true->0<q.vars.length/\0<=yH q/\yH q<ak.length)(hvs:∀v∈q.vars,0<=v/\v<ak.length)(w:World)(hT:pc W0)(hlv:Wf TX (Kz (Kw W0) R) ids tl aq)(hZ:kY (BN fr) ids f tl Zf)(zJ:Ej (Kz (Kw W0) R) q)(h:xA FX n m cs vW vU cW cU W ul ts cn R)(hq:qO cq ql (wl.map I))(hH:Hp W0 w (nE n wr vL vt vv vy vu vq sn vW vU vT cn sk wy vd vm cW cU W ul ts aq bf ak bp us qs lg tm ((wE b ql qi cq wl wi ((Zf++R)))))):Calls Tryz.prog 86 #[pt n,pt b,.agg (qw q).toArray] w (j3 fun u w'=>∃(r:LkO) (vd':Value) (Us:Value) (Ut:Option (Nat×Array Value)) (new:List (Value×mE)) (Lb Z':List bu),oc (bB cs) us (aq.getD q.bf.toNat p5).p.sh q ak bp wl wi wy=r/\u=B r.ok/\(∀x∈new,nr NX n Lb x/\I8 x.2)/\new.length<=(bP (bB cs) q.to.var).length/\iO new (NP.mk aq bf ak bp ((qu us)) qs sn cs sk (r.wy) wr) (NP.mk aq bf (r.ak) (r.bp) ((qu us)) qs sn cs sk (r.wy) wr)/\kY (BN fr) ids (Wg (aq.getD q.bf.toNat p5).d r.ks f) tl Z'/\qO Ut Us (r.wl.map I)/\Hp W0 w' (nE n wr vL vt vv vy vu vq sn vW vU vT cn sk (r.wy) (vd') vm cW cU W ul ts aq bf (r.ak) (r.bp) us qs (lg++new) tm ((wE b (Us) qi (Ut) (r.wl) (r.wi) ((Z'++(Lb++R))))))):=by
 have hlc:=hlv.at hql.1 hql.2
 obtain⟨f1,f2,f3,a1,a2,a3,i1,i2,i3⟩:=hlc.ops.one
 have hone:∀u∈[(aq.getD q.bf.toNat p5).e,(aq.getD q.bf.toNat p5).l,(aq.getD q.bf.toNat p5).j].toArray,u.oneCell'=true:=by rw[i1,i2,i3];intro u hu;simp only[LF,c8,HU,Ck]at hu;rcases hu with rfl|rfl|rfl<;>rfl
 have hvw:∀v∈q.vars,0<=v/\v<bp.length:=fun v hv=>by have:=hvs v hv;omega
 simp only[wE]at hH
 simp only[nE]at hH
 refine en func86 rfl rfl<|SR<|gO hH (v:= .agg _) rfl<|fun b3 w1 bq=>va (v:=B false) rfl<|aa<|FH (G:=Unit) bq (6::(rg 11 20 [])) (fun(L:List bu) (_u:Unit)=>L) (fun(_u:Unit) s'=>(skQ (bB cs) q=false)) ?_ ?_
 .refine ai<|ew aQ bq<|fun w4 bY=>AT 0 O bY (fun w hS=>cC (cs:=qw _) jh O O O (bj (hS.blk (i:=0) O)))<|A1 1<|cm O aC O bY sR (oh _ _ (zJ.mono (bY.kz (Le.refl _) (fun x hx=>(mT (mT (mT (mT (mT (mT (mT (mT (mT (mT (mT (mT (mT (mT (mT (mT (bH _ hx))))))))))))))))))))) (ay call131 O)<|fun w6 eE=>have zh7:=eE;AQ 2 O zh7 (mV (B _) O)<|Ma (dj:=13) O (fun h9=> ?_) (fun h9=> ?_)
  .refine BQ 3 O O (bR (c:=true) h9) eE (mV (Pn _ _) O)<|BQ 4 O O (bR (c:=true) h9) eE (af O)<|BQ 5 O O (bR (c:=true) h9) eE (fA ct 8 O pu O)<|BQ 6 O O (bR (c:=true) h9) eE (fA jh 12 O dJ O)<|AG 7 O O (bR (c:=true) h9) eE (fun w hS=>bZ (zJ.vars.mono (hS.kz (Le.refl _) (fun x hx=>(mT (mT (mT (mT (mT (mT (mT (mT (mT (mT (mT (mT (mT (mT (mT (mT (bH _ hx)))))))))))))))))))).sl bD O O (hS.cell (i:=0) O O))<|AG 8 O O (bR (c:=true) h9) eE (fun w hS=>ah (zJ.vars.mono (hS.kz (Le.refl _) (fun x hx=>(mT (mT (mT (mT (mT (mT (mT (mT (mT (mT (mT (mT (mT (mT (mT (mT (bH _ hx)))))))))))))))))))).sl bD aP O O (by have:=hqp ‹Ft _=true›;omega))<|AG 9 O O (bR (c:=true) h9) eE (fun w hS=>aE bx O O ((zJ.vars.mono (hS.kz (Le.refl _) (fun x hx=>(mT (mT (mT (mT (mT (mT (mT (mT (mT (mT (mT (mT (mT (mT (mT (mT (bH _ hx)))))))))))))))))))).sl.cell _ _ (eU (by have:=hqp ‹Ft _=true›;omega))))<|BQ 11 O O (bR (c:=true) h9) eE (mV (Pn _ _) O)<|BQ 12 O O (bR (c:=true) h9) eE (af O)<|BQ 13 O O (bR (c:=true) h9) eE (fA ct 8 O pu O)<|BQ 14 O O (bR (c:=true) h9) eE (fA jh 2 O kV O)<|BQ 15 O O (bR (c:=true) h9) eE (fA kQ 0 O aP O)<|AG 16 O O (bR (c:=true) h9) eE (fun w hS=>aE bx O O (hS.cell (i:=0) O (v:=I _) O))<|A1 10<|cm O (yM O (bR (c:=true) h9)) O eE sR (Ga _ h J (eE.blk (i:=1) O) (eE.yY (i:=2) O h.hW)) (aL Fq O (show _=I (yH q)from O))<|fun Eo dr=>A1 17<|cm O (yM O (bR (c:=true) h9)) O dr sR (Ga _ h J (dr.blk (i:=1) O) (dr.yY (i:=2) O h.hW)) (aL Fq O O)<|fun zl bV=>BQ 18 O O (bR (c:=true) h9) bV (bW O O)<|AQ 19 O bV (gN (bR (c:=true) h9) (v:=B _) O)<|AD<|aG O (fun Db=> ?_) (fun Db=> ?_)
   .refine SR<|va (v:=B true) rfl<|aa<|aj<|jx (v:=B true) O O ⟨⟨true,ak,bp,wl,wi,wy,[]⟩,vd,ql,cq,[],[],Zf,?_,rfl,?_,?_,?_,hZ,?_,(by rw[mG];exact(bV.sub (sQ sR)))⟩
    .exact aY (by simp[skQ, *])
    .exact fun x hx=>by cases hx
    .exact nQ _
    .exact iO.nil _
    exact hq
   refine an ?_
   refine⟨((Fr.refl _ _)).u4.u4.u4.u4.u4,(),bV,?_⟩
   (simp[skQ, *];done)
  refine AK 3 O O (bR (c:=false) h9) eE<|AK 4 O O (bR (c:=false) h9) eE<|AK 5 O O (bR (c:=false) h9) eE<|AK 6 O O (bR (c:=false) h9) eE<|AK 7 O O (bR (c:=false) h9) eE<|AK 8 O O (bR (c:=false) h9) eE<|AK 9 O O (bR (c:=false) h9) eE<|AK 10 O O (bR (c:=false) h9) eE<|AK 11 O O (bR (c:=false) h9) eE<|AK 12 O O (bR (c:=false) h9) eE<|AK 13 O O (bR (c:=false) h9) eE<|AK 14 O O (bR (c:=false) h9) eE<|AK 15 O O (bR (c:=false) h9) eE<|AK 16 O O (bR (c:=false) h9) eE<|AK 17 O O (bR (c:=false) h9) eE<|AK 18 O O (bR (c:=false) h9) eE<|AQ 19 O zh7 (dR (bR (c:=false) h9) (v:=B false) O)<|AD<|cT rfl<|an<| ?_
  refine⟨((Fr.refl _ _)).u4.u4.u4.u4.u4,(),eE,?_⟩
  (simp[skQ, *];done)
 rintro _u aar Jg nV cH EC
 obtain⟨ak1,xF,zn⟩:=nV.w3 0 1 5
 refine ai<|fZ (z:=⟨none,_,_,_,_,none⟩) aQ O aQ cH sR<|fun TC dQ=>have q7:=dQ;AQ 0 O q7 (run_move ak1)<|AQ 1 O q7 (af O)<|AQ 2 O q7 (fA ct 1 O uA O)<|tV 3 O q7 o9 1 O O rfl<|AQ 4 O q7 (fA jh 0 O aP zn)<|tI 5 O q7 bx 0 O O rfl<|AT 6 O q7 (fun w hS=>ah (hS.sl (i:=5) O) o9 sizeOf119 O O J)<|AQ 7 O q7 (fA Ch 2 O sizeOf117 O)<|AT 8 O q7 (fun w hS=>mj (dv:=p5) (off:=2) (cs:=[_,_,_]) rP (hS.sl (i:=5) O) ru O O O J (ahw O))<|A1 9<|cB O aC O dQ sR (f:=fun b=> .pointer (some ⟨b,0,none⟩)) (aT WC)<|fun b21 Q2 cP=>AD<|bg cP (i:=0) O (dK O O O hone (cP.blk (i:=0) O) O)<|fun TD eP=>aa<|FH (G:=(Nat)×(List bu)) eP (8::9::(rg 40 12 [])) (fun(L:List bu) (⟨q8,Z1⟩:(Nat)×(List bu))=> .blk q8 (.cells (Value.agg (iM (lkE (aq.getD q.bf.toNat p5).p.sh q ak))).cells 37 (0,0))::(L.take 17++(Z1++R))) (fun(⟨q8,Z1⟩:(Nat)×(List bu)) s'=>(s' 8= .pointer (some ⟨q8,0,none⟩))/\(kY (BN fr) ids (Wr.tick .e (aq.getD q.bf.toNat p5).d f) tl Z1)) ?_ ?_
 .refine fX aQ eP (sP (sP (sP (sP (sP (sP (sP (sP (sP (sP (sP (sP (sP (sP (sP (sP (sP (sA sR))))))))))))))))))<|fun w24 om=>have Xo:=om.sub (sP (sP (sP (sP (sP (sP (sP (sP (sP (sP (sP (sP (sP (sP (sP (sP (sP (sA sR))))))))))))))))));AQ 0 O Xo (fA ru 0 O sizeOf114 O)<|tV 1 O Xo RP 0 O O rfl<|AQ 2 O Xo (fA jh 1 O x9 zn)<|AT 3 O Xo (fun w hS=>bZ (zJ.code.mono (hS.kz (Le.refl _) (fun x hx=>(mT (mT (mT (mT (mT (mT (mT (mT (mT (mT (mT (mT (mT (mT (mT (mT (mT hx)))))))))))))))))))).sl ic O O (hS.cell (i:=1) O O))<|AQ 4 O Xo (run_move ak1)<|AQ 5 O Xo (af O)<|AQ 6 O Xo (fA ct 3 O ji O)<|tV 7 O Xo bU 2 O O rfl<|gj 8 12 aQ ?_ ?_
  .obtain⟨aQj,aHb,auT,aAx,aAy⟩:=akC W0 ids tl hT _ _ _ _ aoK _ _ f Zf ([_,_,_,_,_,_,_,_,_,_,_,_,_,_,_,_,_]++R) _ _ _ _ (hlc.ops.mono (Le.zz (fun x hx=>bH _ hx))) hlc.Fz hZ hf Ii (fun Z' w' h0=>by have h':Hp W0 w' (_::_::_::_::_::_::_::_::_::_::_::_::_::_::_::_::_::(Z'++R)):=Hp.pn (A:=[_,_,_,_,_,_,_,_,_,_,_,_,_,_,_,_,_]) h0;exact(zJ.code.mono (h'.kz (Le.refl _) (fun x hx=>(mT (mT (mT (mT (mT (mT (mT (mT (mT (mT (mT (mT (mT (mT (mT (mT (mT (bH _ hx))))))))))))))))))))).sl) (fun Z' w' h0=>by have h':Hp W0 w' (_::_::_::_::_::_::_::_::_::_::_::_::_::_::_::_::_::(Z'++R)):=Hp.pn (A:=[_,_,_,_,_,_,_,_,_,_,_,_,_,_,_,_,_]) h0;exact(h'.sl (i:=8) O)) (Hp.sZ (A:=[_,_,_,_,_,_,_,_,_,_,_,_,_,_,_,_,_]) (Zf:=Zf) (R:=R) om)
   refine yl O aC O aAy (iY aAx (cs:=aHb) auT O O) (fun u w' ⟨_,Z',_,h⟩=>Hp.sub (L:=_::_::_::_::_::_::_::_::_::_::_::_::_::_::_::_::_::(Z'++R)) (Hp.pn (A:=[_,_,_,_,_,_,_,_,_,_,_,_,_,_,_,_,_]) h) (sP (sP (sP (sP (sP (sP (sP (sP (sP (sP (sP (sP (sP (sP (sP (sP (sP (sA sR))))))))))))))))))) ?_
   rintro x38 w33 ⟨aAz,Z36,aHc,h34⟩
   have zo:Hp _ w33 (_::_::_::_::_::_::_::_::_::_::_::_::_::_::_::_::_::(Z36++R)):=Hp.pn (A:=[_,_,_,_,_,_,_,_,_,_,_,_,_,_,_,_,_]) h34
   rw[hlc.sh]at aAz
   subst aAz
   have auU:=zo.sub (sP (sP (sP (sP (sP (sP (sP (sP (sP (sP (sP (sP (sP (sP (sP (sP (sP (sA sR))))))))))))))))))
   refine AQ 9 O auU (run_move bz) ?_
   refine AQ 10 O auU (bk O (v:= .agg _) O)<|AQ 11 O auU (bk O (v:=B _) O)<|A1 12<|cB O aC O zo (sP (sP (sP (sP (sP (sP (sP (sP (sP (sP (sP (sP (sP (sP (sP (sP (sP (sA sR)))))))))))))))))) (f:=fun b=> .pointer (some ⟨b,0,none⟩)) (aT fg)<|fun b44 w42 mz=>A1 13<|dW O aC mz (j:=0) O (sQ (sP (sP (sP (sP (sP (sP (sP (sP (sP (sP (sP (sP (sP (sP (sP (sP (sP (sA sR))))))))))))))))))) (cR O O O (mz.blk (i:=0) O))<|fun w49 eO=>AQ 14 O (eO.sub (sQ (sP (sP (sP (sP (sP (sP (sP (sP (sP (sP (sP (sP (sP (sP (sP (sP (sP (sA sR)))))))))))))))))))) (aV (B _) O)<|AD<| ?_
   refine⟨((Fr.refl _ _)).u4.u4.u4.u1.u1,(b44,Z36),(Hp.conv eO aM),rfl,?_⟩
   exact aHc
  refine cB O aC O om (sP (sP (sP (sP (sP (sP (sP (sP (sP (sP (sP (sP (sP (sP (sP (sP (sP (sA sR)))))))))))))))))) (f:=fun b=> .pointer (some ⟨b,0,none⟩)) (aT fg)<|fun b53 w51 B0=>A1 8<| ?_
  obtain⟨aQk,aHd,aHe,aAA,aAB⟩:=akC W0 ids tl hT _ _ _ _ aoK _ _ f Zf ([_,_,_,_,_,_,_,_,_,_,_,_,_,_,_,_,_,_]++R) _ _ _ _ (hlc.ops.mono (Le.zz (fun x hx=>bH _ hx))) hlc.Fz hZ hf Ii (fun Z' w' h0=>by have h':Hp W0 w' (_::_::_::_::_::_::_::_::_::_::_::_::_::_::_::_::_::_::(Z'++R)):=Hp.pn (A:=[_,_,_,_,_,_,_,_,_,_,_,_,_,_,_,_,_,_]) h0;exact(zJ.code.mono (h'.kz (Le.refl _) (fun x hx=>(mT (mT (mT (mT (mT (mT (mT (mT (mT (mT (mT (mT (mT (mT (mT (mT (mT (mT (bH _ hx)))))))))))))))))))))).sl) (fun Z' w' h0=>by have h':Hp W0 w' (_::_::_::_::_::_::_::_::_::_::_::_::_::_::_::_::_::_::(Z'++R)):=Hp.pn (A:=[_,_,_,_,_,_,_,_,_,_,_,_,_,_,_,_,_,_]) h0;exact(h'.sl (i:=9) O)) (Hp.sZ (A:=[_,_,_,_,_,_,_,_,_,_,_,_,_,_,_,_,_,_]) (Zf:=Zf) (R:=R) B0)
  refine yl O aC O aAB (iY aAA (cs:=aHd) aHe O O) (fun u w' ⟨_,Z',_,h⟩=>Hp.sub (L:=_::_::_::_::_::_::_::_::_::_::_::_::_::_::_::_::_::_::(Z'++R)) (Hp.pn (A:=[_,_,_,_,_,_,_,_,_,_,_,_,_,_,_,_,_,_]) h) (sQ (sP (sP (sP (sP (sP (sP (sP (sP (sP (sP (sP (sP (sP (sP (sP (sP (sP (sA sR)))))))))))))))))))) ?_
  rintro x66 w61 ⟨aAC,Z64,aHf,h62⟩
  have o6:Hp _ w61 (_::_::_::_::_::_::_::_::_::_::_::_::_::_::_::_::_::_::(Z64++R)):=Hp.pn (A:=[_,_,_,_,_,_,_,_,_,_,_,_,_,_,_,_,_,_]) h62
  rw[hlc.sh]at aAC
  subst aAC
  have auV:=o6.sub (sQ (sP (sP (sP (sP (sP (sP (sP (sP (sP (sP (sP (sP (sP (sP (sP (sP (sP (sA sR)))))))))))))))))))
  refine AQ 9 O auV (run_move bz) ?_
  refine AQ 10 O auV (bk O (v:= .agg _) O)<|AQ 11 O auV (bk O (v:=B _) O)<|A1 13<|dW O aC o6 (j:=0) O (sQ (sP (sP (sP (sP (sP (sP (sP (sP (sP (sP (sP (sP (sP (sP (sP (sP (sP (sA sR))))))))))))))))))) (cR O O O (o6.blk (i:=0) O))<|fun w74 ve=>AQ 14 O (ve.sub (sQ (sP (sP (sP (sP (sP (sP (sP (sP (sP (sP (sP (sP (sP (sP (sP (sP (sP (sA sR)))))))))))))))))))) (aV (B _) O)<|AD<| ?_
  refine⟨((Fr.refl _ _)).u4.u4.u4.u1.u1,(b53,Z64),(Hp.conv ve aM),rfl,?_⟩
  exact aHf
 rintro⟨q8,Z1⟩ aQl w76 aAD oQ ⟨ak2,Lj⟩
 simp only[HM,xQ,gB,eR]at oQ
 have ak3:=aAD.w1 7
 obtain⟨Rj,aAE,OR⟩:=aAD.t3 0 ak1 1 xF 5 zn
 refine ai<|SR<|V (fA jh 2 O kV OR)<|V (fA kQ 0 O aP O)<|lI bx oQ 2 O O rfl<|V (aN O O)<|aa<|aG O (fun h78=> ?_) (fun h78=> ?_)
 .refine ai<|SR<|V (fA ru 1 O sizeOf65 ak3)<|lV LN oQ 1 O O rfl<|V (cN bI O O ak2 (oQ.blk (i:=0) O))<|V (fA jh 2 O kV OR)<|V (fA kQ 1 O fl O)<|V (iN (sub:=pM _) bI O O O (oQ.blk (i:=2) O) O)<| ?_
  obtain⟨aQn,aHg,aHh,aAF,aAG⟩:=akD W0 ids tl hT _ _ _ _ (Wr.tick .e (aq.getD q.bf.toNat p5).d f) Z1 ([_,_,_,_,_,_,_,_,_,_,_,_,_,_,_,_,_,_]++R) _ _ _ _ (hlc.ops.mono (Le.zz (fun x hx=>bH _ hx))) hlc.Fz Lj (hf.abO _) Ii (Hp.sZ (A:=[_,_,_,_,_,_,_,_,_,_,_,_,_,_,_,_,_,_]) (Zf:=Z1) (R:=R) oQ)
  refine cG O aAG (iY aAF (cs:=aHg) aHh O (jZ (b:=Value.agg (pM q.to.c).toArray) O (aK Value.agg (iq q.to.c).symm))) ?_
  rintro x89 w84 ⟨aHi,Z87,aAH,h85⟩
  have uH:Hp _ w84 (_::_::_::_::_::_::_::_::_::_::_::_::_::_::_::_::_::_::(Z87++R)):=Hp.pn (A:=[_,_,_,_,_,_,_,_,_,_,_,_,_,_,_,_,_,_]) h85
  subst aHi
  refine V (bJ O)<|aa<|bX O (fun h93=> ?_) (fun h93=> ?_)
  .refine SR<|aF Rj<|aF Rj<|V (cC (cs:=qw _) jh O O OR (bj (uH.blk (i:=2) O)))<|aH O uH (xN _ (hvw) _ (uH.blk (i:=3) O) (uH.sl (i:=10) O) (zJ.mono (uH.kz (Le.refl _) (fun x hx=>(mT (mT (mT (mT (mT (mT (mT (mT (mT (mT (mT (mT (mT (mT (mT (mT (mT (mT (bH _ hx))))))))))))))))))))))) (aL call132 O O)<|fun w94 Gf=>V (af O)<|V (fA ct 13 O cQ O)<|bg Gf (i:=3) O (bK O O (v:=U _) O O O (Gf.blk (i:=3) O) aJ)<|fun w96 T1=> ?_
   simp only[jd,lf,n5,gQ,Nat.reduceAdd]at T1
   refine aa<|SR<|va (v:=B false) rfl<|aa<|aj<|jx (v:=B false) O O ⟨⟨false,ak,bp,wl,wi,orW q.why bp q.vars,[.e,.l]⟩,vd,ql,cq,[],[],Z87,?_,rfl,?_,?_,?_,aAH,?_,(by rw[mG];exact(T1.sub (sQ (sQ (sQ sR)))))⟩
   .exact(aW Si).trans ((aY aR).trans (aW LS))
   .exact fun x hx=>by cases hx
   .exact nQ _
   .exact iO.nil _
   exact hq
  refine an<|SR<|va (v:=B true) rfl<|aa<|aj<|jx (v:=B true) O O ⟨⟨true,ak,bp,wl,wi,wy,[.e,.l]⟩,vd,ql,cq,[],[],Z87,?_,rfl,?_,?_,?_,aAH,?_,(by rw[mG];exact(uH.sub (sQ (sQ (sQ sR)))))⟩
  .exact(aW Si).trans ((aY aR).trans (aY (by simpa using‹(!cS _ _)=false›)))
  .exact fun x hx=>by cases hx
  .exact nQ _
  .exact iO.nil _
  exact hq
 refine an<|ai<|fZ (z:=⟨none,_,_,_,_,none⟩) aQ O aQ oQ sR<|fun w98 PD=>have T2:=PD;AQ 0 O T2 (run_move Rj)<|AQ 1 O T2 (af O)<|AQ 2 O T2 (fA ct 3 O ji O)<|tV 3 O T2 bU 3 O O rfl<|AQ 4 O T2 (fA jh 2 O kV OR)<|AQ 5 O T2 (fA kQ 0 O aP O)<|tI 6 O T2 bx 2 O O rfl<|AT 7 O T2 (fun w hS=>ah (hS.sl (i:=9) O) bU fl O O J)<|AT 8 O T2 (fun w hS=>gy (hS.sl (i:=9) O) bI O O O J)<|A1 9<|cB O aC O PD sR (f:=fun b=> .pointer (some ⟨b,0,none⟩)) (aT fg)<|fun aQq auD E6=>AD<|bg E6 (i:=0) O (cR O O O (E6.blk (i:=0) O))<|fun aow ny=>aa<|ai<|SR<|V (fA ru 1 O sizeOf65 ak3)<|lV LN ny 2 O O rfl<|V (cN bI O O ak2 (ny.blk (i:=1) O))<|V (cN bI O O O (ny.blk (i:=0) O))<| ?_
 obtain⟨aLU,aAI,aAJ,auW,auX⟩:=akD W0 ids tl hT _ _ _ _ (Wr.tick .e (aq.getD q.bf.toNat p5).d f) Z1 ([_,_,_,_,_,_,_,_,_,_,_,_,_,_,_,_,_,_,_]++R) _ _ _ _ (hlc.ops.mono (Le.zz (fun x hx=>bH _ hx))) hlc.Fz Lj (hf.abO _) Ii (Hp.sZ (A:=[_,_,_,_,_,_,_,_,_,_,_,_,_,_,_,_,_,_,_]) (Zf:=Z1) (R:=R) ny)
 refine cG O auX (iY auW (cs:=aAI) aAJ O O) ?_
 rintro aQr aAK ⟨aAL,aoL,arb,auY⟩
 have xJ:Hp _ aAK (_::_::_::_::_::_::_::_::_::_::_::_::_::_::_::_::_::_::_::(aoL++R)):=Hp.pn (A:=[_,_,_,_,_,_,_,_,_,_,_,_,_,_,_,_,_,_,_]) auY
 subst aAL
 refine V (bJ O)<|aa<|bX O (fun auZ=> ?_) (fun auZ=> ?_)
 .refine fZ (z:=⟨some _,_,_,_,_,none⟩) aQ O aQ xJ (sP (sP (sP (sP (sP (sP (sP (sP (sP (sP (sP (sP (sP (sP (sP (sP (sP (sP (sP (sA sR))))))))))))))))))))<|fun aQs J6=>have qV:=J6.sub (sP (sP (sP (sP (sP (sP (sP (sP (sP (sP (sP (sP (sP (sP (sP (sP (sP (sP (sP (sA sR))))))))))))))))))));AQ 0 O qV (run_move Rj)<|AQ 1 O qV (run_move aAE)<|AQ 2 O qV (fA jh 2 O kV OR)<|AQ 3 O qV (fA kQ 0 O aP O)<|tI 4 O qV bx 3 O O rfl<|AQ 5 O qV (fA ru 2 O sizeOf115 ak3)<|tV 6 O qV LJ 2 O O rfl<|AT 7 O qV (fun w hS=>cN bI O O O (hS.blk (i:=0) O))<|AT 8 O qV (fun w hS=>cN bI O O ak2 (hS.blk (i:=1) O))<|AQ 10 O qV (run_move Rj)<|AQ 11 O qV (af O)<|AQ 12 O qV (fA ct 4 O jB O)<|tV 13 O qV dg 4 O O rfl<|AQ 14 O qV (fA jh 2 O kV OR)<|AQ 15 O qV (fA kQ 0 O aP O)<|tI 16 O qV bx 3 O O rfl<|AT 17 O qV (fun w hS=>ah (hS.sl (i:=11) O) dg cQ O O J)<|AT 18 O qV (fun w hS=>aE dO O O ((hS.sl (i:=11) O).cell _ _ (lT (dv:=0#64) J)))<|AQ 19 O qV (run_move Rj)<|AT 20 O qV (fun w hS=>cC (cs:=qw _) jh O O OR (bj (hS.blk (i:=3) O)))<|A1 9<| ?_
  obtain⟨aLV,aAM,aAN,au0,au1⟩:=akE W0 ids tl hT _ _ _ _ (Wr.tick .l (aq.getD q.bf.toNat p5).d (Wr.tick .e (aq.getD q.bf.toNat p5).d f)) aoL ([_,_,_,_,_,_,_,_,_,_,_,_,_,_,_,_,_,_,_]++R) _ _ _ _ (hlc.ops.mono (Le.zz (fun x hx=>bH _ hx))) hlc.Fz arb ((hf.abO _).abO _) Ii (Hp.sZ (A:=[_,_,_,_,_,_,_,_,_,_,_,_,_,_,_,_,_,_,_]) (Zf:=aoL) (R:=R) J6)
  refine yl O aC O au1 (iY au0 (cs:=aAM) aAN O O) (fun u w' ⟨_,Z',_,h⟩=>Hp.sub (L:=_::_::_::_::_::_::_::_::_::_::_::_::_::_::_::_::_::_::_::(Z'++R)) (Hp.pn (A:=[_,_,_,_,_,_,_,_,_,_,_,_,_,_,_,_,_,_,_]) h) (sP (sP (sP (sP (sP (sP (sP (sP (sP (sP (sP (sP (sP (sP (sP (sP (sP (sP (sP (sA sR))))))))))))))))))))) ?_
  rintro aQt au2 ⟨ard,au3,aAO,aHk⟩
  have acS:Hp _ au2 (_::_::_::_::_::_::_::_::_::_::_::_::_::_::_::_::_::_::_::(au3++R)):=Hp.pn (A:=[_,_,_,_,_,_,_,_,_,_,_,_,_,_,_,_,_,_,_]) aHk
  rw[ap6 hlc.Fz hlc.sh]at ard
  subst ard
  refine A1 21<|cm O aC O acS (sP (sP (sP (sP (sP (sP (sP (sP (sP (sP (sP (sP (sP (sP (sP (sP (sP (sP (sP (sA sR)))))))))))))))))))) (xN _ (hvw) _ (acS.blk (i:=4) O) (acS.sl (i:=11) O) (zJ.mono (acS.kz (Le.refl _) (fun x hx=>(mT (mT (mT (mT (mT (mT (mT (mT (mT (mT (mT (mT (mT (mT (mT (mT (mT (mT (mT (bH _ hx)))))))))))))))))))))))) (aL call132 O O)<|fun aFP Q9=>AQ 22 O (Q9.sub (sP (sP (sP (sP (sP (sP (sP (sP (sP (sP (sP (sP (sP (sP (sP (sP (sP (sP (sP (sA sR))))))))))))))))))))) (iG O O)<|AD<|cG O (BE _ _ _ J J J J J J J (fun k hk=>⟨by(repeat apply gd);exact bH _ (yp k hk).1,(yp k hk).2⟩) _ (h.mono fun e he=>by(repeat apply gd);exact bH _ he) hq (Q9.pj [4,4,4,4,4,4,4,4,4,4,4,4,4,4,4])) (sL call130 O O O O O)<| ?_
  rintro _ aHl ⟨rfl,aAP,aHm,aHn,aAQ,are,aAR,aAS,aAT,aAU,aAV⟩
  simp only[nE,wE]at aAV
  have Ra:=Hp.mQ (A:=[_,_,_,_,_,_,_,_,_,_,_,_,_,_,_]) (R:=[_,_,_,_]) aAV
  simp only[gB,eR]at Ra
  have aAW:=Ra.pk [15,15,15,15]
  refine aa<|SR<|va (v:=B true) rfl<|aa<|aj<|jx (v:=B true) O O ⟨lkR (bB cs) us (aq.getD q.bf.toNat p5).p.sh q ak bp wl wi wy,aAP,aHm,aHn,aAQ,are,au3,?_,rfl,?_,?_,?_,aAO,?_,(Hp.mQ (A:=[_,_,_,_,_,_,_,_,_,_,_,_,_,_,_]) (B:=are) (R:=au3) (aAW.sub (sQ (sQ (sQ (sQ sR))))))⟩
  .exact(aW Si).trans ((aW aR).trans (aW LS))
  .exact aAR
  .exact aAS
  .exact aAT
  exact aAU
 refine an<|SR<|va (v:=B true) rfl<|aa<|aj<|jx (v:=B true) O O ⟨⟨true,ak,bp,wl,wi,wy,[.e,.l]⟩,vd,ql,cq,[],[],aoL,?_,rfl,?_,?_,?_,arb,?_,(by rw[mG];exact(xJ.sub (sQ (sQ (sQ (sQ sR))))))⟩
 .exact(aW Si).trans ((aW aR).trans (aY (by simpa using‹(!cS _ _)=false›)))
 .exact fun x hx=>by cases hx
 .exact nQ _
 .exact iO.nil _
 exact hq
end
end Go.Proofs.YtlhjdflgjbkpmaaGreatDoor.W

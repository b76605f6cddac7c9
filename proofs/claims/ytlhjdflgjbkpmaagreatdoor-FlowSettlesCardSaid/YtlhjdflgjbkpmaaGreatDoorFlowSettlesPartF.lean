/- Part 6 of the proof of FlowSettles: its plain laws and the walks of its functions. -/
import Derived.Test.YtlhjdflgjbkpmaaGreatDoorFlowSettlesPartE
set_option linter.all false
namespace Go.Proofs.YtlhjdflgjbkpmaaGreatDoor.W
section
open Go Go.RowKit Go.Proofs.YtlhjdflgjbkpmaaGreatDoor.E Go.Proofs.YtlhjdflgjbkpmaaGreatDoor.M
set_option maxRecDepth 100000
open Go.Proofs.Tryz
theorem TC(a:Int):Tryz.prog.built 233 [(0,I a)]=some (GK ⟨a,0⟩).toArray:=rfl
theorem aeS{a b c d e:Value}(h1:a.cells=#[a])(h2:b.cells=#[b])(h3:c.cells=#[c])(h4:d.cells=#[d])(h5:e.cells=#[e]):Tryz.prog.built 222 [(0,a),(1,b),(2,c),(3,d),(7,e)]=some #[a,b,c,d,.slice none 0 0,.slice none 0 0,I 0,e]:=
 (show Tryz.prog.built 222 [(0,a),(1,b),(2,c),(3,d),(7,e)]=Instr.fill (#[(0,1),(1,1),(2,1),(3,1),(4,1),(5,1),(6,1),(7,1)][·]?) #[.slice none 0 0,.slice none 0 0,.slice none 0 0,.slice none 0 0,.slice none 0 0,.slice none 0 0,I 0,.slice none 0 0] [(0,a),(1,b),(2,c),(3,d),(7,e)]from O).trans (by simp only[Instr.fill,h1,h2,h3,h4,h5];rfl)
abbrev nE(n:Nat)(wr:Value)(vL:Value)(vt:Value)(vv:Value)(vy:Value)(vu:Value)(vq:Value)(sn:Int)(vW:Value)(vU:Value)(vT:Value)(cn:Int)(sk:Bool)(wy:BitVec 64)(vd:Value)(vm:Value)(cW:Option (Nat×Array Value))(cU:Option (Nat×Array Value))(W:List (BitVec 64))(ul:List (Value×jQ))(ts:List Int)(aq:List pO)(a8:List Int)(ak:List El)(bq:List (BitVec 64))(us:List jY)(qs:List dD)(lg:List (Value×my))(tm:List Int)(L:List bu):List bu:= .blk n (.cells #[wr,vL,vt,vv,vy,vu,vq,I sn,vW,vU,vT,I cn,B sk,U wy,vd,vm] 111 (0,0))::cE cW vW 35 (W.map U)::cE cU vU 1 (ul.map Prod.fst)::jU I vT 3 ts::we Xk 13 vL 119 aq::jU I vt 3 a8::we pH 8 vv 37 ak::jU U vy 35 bq::jU jY.v vu 99 us::we qh 13 vq 128 qs::jU Prod.fst vd 1 lg::jU I vm 3 tm::L
abbrev wE(b:Nat)(ql qi:Value)(cq:Option (Nat×Array Value))(wl:List Int)(wi:List Bool)(L:List bu):List bu:= .blk b (.cells #[ql,qi] 156 (0,0))::qE cq ql 3 (wl.map I)::jU B qi 4 wi::L
abbrev NX:NTy:=⟨54,48,58,193,157,88,45,31,3,37,35,128⟩
theorem Pp(b k c:Nat):Tryz.prog.built 156 [(1,.slice (some ⟨b,0,none⟩) k c)]=some #[.slice none 0 0,.slice (some ⟨b,0,none⟩) k c]:=rfl
abbrev NZ(n:Nat)(F:NF)(s:NP)(lg:List (Value×my))(tm:List Int)(L:List bu):List bu:=(nE n (s.wr) (F.vL) (F.vt) (F.vv) (F.vy) (F.vu) (F.vq) (s.sn) (F.vW) (F.vU) (F.vT) (F.cn) (s.sk) (s.wy) (F.vd) (F.vm) (F.cW) (F.cU) (F.W) (F.ul) (F.ts) (s.aq) (s.a8) (s.ak) (s.bq) (F.us) (s.qs) lg tm L)
structure azo(n m:Nat)(F:NF)(s:NP)(L:List bu):Prop where
 fo:xn FX n m s.cs F.vW F.vU F.cW F.cU F.W F.ul F.ts F.cn L
 us:qf F.us=s.us
def wC(n m:Nat)(s:NP)(lg:List (Value×my))(tm:List Int)(R L0 Z:List bu):Prop:=∃F L,azo n m F s L/\(∀b o,bu.blk b o∈L0->bu.blk b o∈L)/\Z=NZ n F s lg tm (F.us.map (dQ 3)++(R++L))
def aoo(W0:World)(n m:Nat)(R L0:List bu)(x:Value×my)(s:NP):Prop:=∀lg tm Z w,wC n m s lg tm R L0 Z->Hp W0 w Z->Ai Tryz.prog x.1 [] w (jW fun u w'=>u= .tuple #[]/\∃Z',wC n m (wj x.2 s) lg tm R L0 Z'/\Hp W0 w' Z')
theorem aeT{x:Value}(h:x.cells=#[x]):Tryz.prog.built 111 [(0,x)]=some #[x,.slice none 0 0,.slice none 0 0,.slice none 0 0,.slice none 0 0,.slice none 0 0,.slice none 0 0,I 0,.slice none 0 0,.slice none 0 0,.slice none 0 0,I 0,B false,U 0,.slice none 0 0,.slice none 0 0]:=
 (show Tryz.prog.built 111 [(0,x)]=Instr.fill (#[(0,1),(1,1),(2,1),(3,1),(4,1),(5,1),(6,1),(7,1),(8,4),(12,1),(13,1),(14,1),(15,1)][·]?) #[.nilFunc,.slice none 0 0,.slice none 0 0,.slice none 0 0,.slice none 0 0,.slice none 0 0,.slice none 0 0,I 0,.slice none 0 0,.slice none 0 0,.slice none 0 0,I 0,B false,U 0,.slice none 0 0,.slice none 0 0] [(0,x)]from O).trans (by simp only[Instr.fill,h];rfl)
theorem yw(p:kP)(e l j:Value)(d:Wr)(low:El):Tryz.prog.built 119 [(0,.agg (qJ p)),(1,.agg #[e,l,j]),(2,.agg (iM low))]=some (Xk ⟨p,e,l,j,d,low⟩).toArray:=by
 rw[ig];kernel_rfl
def WrF(x:Value)(ids:List Nat):Prop:=x= .nilFunc\/∃(m:Nat) (f:FuncId) (cs:List Value),x=jL f cs.toArray/\m∈ids/\(∀args w,(callFunc f args).run Tryz.prog w= .ok (.enter f args) w)/\∀(K:Vu) (d:Wr) (e l j:Value) (w:World),Le K (Kw w)->BA TX K d e l j->Calls Tryz.prog f ([Value.agg #[e,l,j]]++cs).toArray w (Gp K (fun K' u=>∃f1 f2 f3 a1 a2 a3,u= .agg #[jL f1 a1,jL f2 a2,jL f3 a3]/\BA TX K' (.wrap m d) (jL f1 a1) (jL f2 a2) (jL f3 a3)) w)
theorem WrF.fn{x:Value}{ids:List Nat}(h:WrF x ids):x= .nilFunc\/∃f c,x=jL f c:=by
 rcases h with h|⟨m,f,cs,h,_⟩
 .exact .inl h
 exact .inr ⟨_,_,h⟩
theorem WrF.yes{x:Value}{ids:List Nat}(h:WrF x ids)(hx:aiT x=true):∃(m:Nat) (f:FuncId) (cs:List Value),x=jL f cs.toArray/\m∈ids/\(∀args w,(callFunc f args).run Tryz.prog w= .ok (.enter f args) w)/\∀(K:Vu) (d:Wr) (e l j:Value) (w:World),Le K (Kw w)->BA TX K d e l j->Calls Tryz.prog f ([Value.agg #[e,l,j]]++cs).toArray w (Gp K (fun K' u=>∃f1 f2 f3 a1 a2 a3,u= .agg #[jL f1 a1,jL f2 a2,jL f3 a3]/\BA TX K' (.wrap m d) (jL f1 a1) (jL f2 a2) (jL f3 a3)) w):=by
 rcases h with rfl|h
 .cases hx
 exact h
def WrD(x:Value)(d:Wr):Prop:=(aiT x=false->d.dep=0)/\d.dep<=1
theorem AY{v u:Value}(k:Int)(l:List dU)(t:iR)(y:BitVec 64)(m:List Int)(h:v.cells=#[v])(h2:u.cells=#[u]):Tryz.prog.built 128 [(0,I k),(1,v),(2,.agg (jG t).toArray),(3,U y),(4,u)]=some (qh ⟨k,v,l,t,y,u,m⟩).toArray:=
 (show Tryz.prog.built 128 [(0,I k),(1,v),(2,.agg (jG t).toArray),(3,U y),(4,u)]=Instr.fill (#[(0,1),(1,1),(2,9),(11,1),(12,1)][·]?) #[I 0,.slice none 0 0,I 0,U 0,U 0,U 0,U 0,U 0,U 0,U 0,U 0,U 0,.slice none 0 0] [(0,I k),(1,v),(2,.agg (jG t).toArray),(3,U y),(4,u)]from O).trans (by simp only[Instr.fill,h,h2];kernel_rfl)
def j6(fr:List bu)(W0:World)(n:Nat)(s:NP)(lg:List (Value×my))(tm:List Int)(ids:List Nat)(f:Ct)(tl:List (Nat×Rl))(b c:Nat)(Z:List bu):Prop:=∃m L0 Zf,(m<=c+200*b/\lg.length<=c+4300000000*b/\tm.length<=c+b/\Fy (20000000*b) f)/\kR (BE fr) ids f tl Zf/\VV TX (Kz (Kw W0) L0) ids tl s.aq/\ZA (Kz (Kw W0) L0) s.qs/\(∀x∈lg,nh NX n L0 x)/\wC n m s lg tm Zf L0 Z
theorem K1{α:Type}{l m:List α}(h:∀f:List α->Nat,(∀a b,f (a++b)=f a+f b)->f l=f m):l.Perm m:=by
 haveI:DecidableEq α:=fun a b=>Classical.propDecidable (a=b)
 rw[List.perm_iff_count]
 exact fun a=>h (List.count a) fun x y=>XW
theorem FP{n:Nat}{F:NF}{s:NP}{lg:List (Value×my)}{tm:List Int}(X:List bu):NZ n F s lg tm X=NZ n F s lg tm []++X:=rfl
theorem j6.aui{fr A R Z:List bu}{W0 w:World}{n:Nat}{s:NP}{lg:List (Value×my)}{tm:List Int}{ids:List Nat}{f:Ct}{tl:List (Nat×Rl)}{b c:Nat}(h:j6 fr W0 n s lg tm ids f tl b c Z)(hH:Hp W0 w (A++(Z++R))):∃Z2,j6 (A++(R++fr)) W0 n s lg tm ids f tl b c Z2/\Hp W0 w Z2:=by
 obtain⟨m,L0,Zf,hb,⟨Zt,ht,rfl⟩,h1,h2,h3,F,L,hI,hL,rfl⟩:=h
 refine⟨_,⟨m,L0,_,hb,⟨Zt,ht,rfl⟩,h1,h2,h3,F,L,hI,hL,rfl⟩,hH.perm (K1 fun g hg=> ?_)⟩
 rw[FP,FP (X:=F.us.map (dQ 3)++((_++(A++(R++fr))++Zt)++L)),show ids.map (fun m=>sN (BE (A++(R++fr))) m (f m))=ids.map fun m=>sN (BE fr) m (f m)from O]
 simp only[hg]
 omega
theorem j6.out{fr A R Z:List bu}{W0 w:World}{n:Nat}{s:NP}{lg:List (Value×my)}{tm:List Int}{ids:List Nat}{f:Ct}{tl:List (Nat×Rl)}{b c:Nat}(h:j6 (A++(R++fr)) W0 n s lg tm ids f tl b c Z)(hH:Hp W0 w Z):∃Z2,j6 fr W0 n s lg tm ids f tl b c Z2/\Hp W0 w (A++(Z2++R)):=by
 obtain⟨m,L0,Zf,hb,⟨Zt,ht,rfl⟩,h1,h2,h3,F,L,hI,hL,rfl⟩:=h
 refine⟨_,⟨m,L0,_,hb,⟨Zt,ht,rfl⟩,h1,h2,h3,F,L,hI,hL,rfl⟩,hH.perm (K1 fun g hg=> ?_)⟩
 rw[FP,FP (X:=F.us.map (dQ 3)++((_++fr++Zt)++L)),show ids.map (fun m=>sN (BE (A++(R++fr))) m (f m))=ids.map fun m=>sN (BE fr) m (f m)from O]
 simp only[hg]
 omega
theorem j6.azq{fr A X Z:List bu}{W0 w:World}{n:Nat}{s:NP}{lg:List (Value×my)}{tm:List Int}{ids:List Nat}{f:Ct}{tl:List (Nat×Rl)}{b c:Nat}(h:j6 fr W0 n s lg tm ids f tl b c Z)(hH:Hp W0 w (A++(Z++X))):∃m L0 Zf Z2,(m<=c+200*b/\lg.length<=c+4300000000*b/\tm.length<=c+b/\Fy (20000000*b) f)/\kR (BE (A++([]++fr))) ids f tl Zf/\VV TX (Kz (Kw W0) L0) ids tl s.aq/\ZA (Kz (Kw W0) L0) s.qs/\(∀x∈lg,nh NX n L0 x)/\wC n m s lg tm Zf L0 Z2/\Hp W0 w Z2/\∀b o,bu.blk b o∈X->bu.blk b o∈L0:=by
 obtain⟨m,L0,Zf,hb,⟨Zt,ht,rfl⟩,h1,h2,h3,F,L,hI,hL,rfl⟩:=h
 have hm:∀b o,bu.blk b o∈L0->bu.blk b o∈X++L0:=fun b o hb=>bH _ hb
 refine⟨m,X++L0,_,_,hb,⟨Zt,ht,rfl⟩,h1.mono (Le.zb hm),h2.mono (Le.zb hm),fun x hx=>(h3 x hx).Ev hm,⟨F,X++L,⟨hI.fo.mono fun e he=>bH _ he,hI.us⟩,fun b o hb=> ?_,rfl⟩,hH.perm (K1 fun g hg=> ?_),fun b o hb=>dL _ hb⟩
 .rcases fg.1 hb with q|q
  .exact dL _ q
  exact bH _ (hL b o q)
 rw[FP,FP (X:=F.us.map (dQ 3)++((_++(A++([]++fr))++Zt)++(X++L))),show ids.map (fun m=>sN (BE (A++([]++fr))) m (f m))=ids.map fun m=>sN (BE fr) m (f m)from O]
 simp only[hg,eN]
 omega
theorem WrF.cells{x:Value}{ids:List Nat}(h:WrF x ids):x.cells=#[x]:=by
 rcases h with rfl|⟨m,f,cs,rfl,_⟩<;>rfl
theorem WrF.one{x:Value}{ids:List Nat}(h:WrF x ids):x.oneCell'=true:=by
 rcases h with rfl|⟨m,f,cs,rfl,_⟩<;>rfl
theorem j6.new{fr A Zn Zf:List bu}{W0 w:World}{n:Nat}{x:Value}{ids:List Nat}{f:Ct}(hn:wC n 0 (NP.mk [] [] [] [] [] [] 0 [[]] false 0 x) [] [] [] [] Zn)(hz:kR (BE fr) ids f [] Zf)(hf:Fy 0 f)(hH:Hp W0 w (Zn++(A++Zf))):∃Z,j6 fr W0 n (npL [] x) [] [] ids f [] 0 0 Z/\Hp W0 w (A++(Z++[])):=by
 obtain⟨F,L,hI,hL,rfl⟩:=hn
 refine⟨_,⟨0,[],Zf,⟨J,aJ,aJ,hf⟩,hz,(fun x hx=>by cases hx),(fun x hx=>by cases hx),(fun x hx=>by cases hx),F,L,hI,(fun b o h=>mJ),rfl⟩,hH.perm (K1 fun g hg=> ?_)⟩
 have e:∀X,NZ n F (npL [] x) [] [] X=NZ n F (NP.mk [] [] [] [] [] [] 0 [[]] false 0 x) [] [] []++X:=fun X=>rfl
 rw[FP,e]
 simp only[hg]
 omega
theorem j6.more{fr Z:List bu}{W0:World}{n:Nat}{s:NP}{lg:List (Value×my)}{tm:List Int}{ids:List Nat}{f:Ct}{tl:List (Nat×Rl)}{b c b' c':Nat}(h:j6 fr W0 n s lg tm ids f tl b c Z)(hb:b<=b')(hc:c<=c'):j6 fr W0 n s lg tm ids f tl b' c' Z:=by
 obtain⟨m,L0,Zf,⟨h1,h2,h3,h4⟩,h5⟩:=h
 exact⟨m,L0,Zf,⟨J,J,J,h4.mono J⟩,h5⟩
theorem aaD(k:Int)(e:El):Tryz.prog.built 90 [(0,I k),(2,.agg (iM e))]=some (j9 ⟨k,0,e⟩).toArray:=by
 rw[ig];kernel_rfl
theorem Oz(k v:Int):Tryz.prog.built 90 [(0,I k),(1,I v)]=some (j9 ⟨k,v,dg⟩).toArray:=aP
theorem Dp(v:Int):Tryz.prog.built 39 [(0,I v)]=some (jG ⟨v,dg⟩).toArray:=aP
variable{fr:List bu}
variable{W0 w:World}{n m:Nat}{cs:List (List Nat)}{wr:Value}{vL:Value}{vt:Value}{vv:Value}{vy:Value}{vu:Value}{vq:Value}{sn:Int}{vW:Value}{vU:Value}{vT:Value}{cn:Int}{sk:Bool}{wy:BitVec 64}{vd:Value}{vm:Value}{cW:Option (Nat×Array Value)}{cU:Option (Nat×Array Value)}{W:List (BitVec 64)}{ul:List (Value×jQ)}{ts:List Int}{aq:List pO}{a8:List Int}{ak:List El}{bq:List (BitVec 64)}{us:List jY}{qs:List dD}{lg:List (Value×my)}{tm:List Int}{L:List bu}
theorem xG(W0:World)(b:Nat)(vg vo vl vn vs vf vq:Value)(cs:Option (Nat×Array Value))(od lo:List Int)(on:List Bool)(sk:List Int)(fr:List D1)(tm:Int)(kT:List Int)(L:List bu)(i:Int)(hl1:lo.length=od.length)(hl2:on.length=od.length)(hl3:kT.length=od.length)(hi:0<=i/\i<od.length)(ht:0<=tm/\tm<=1000000)(hsl:sk.length<=1000000)(hfl:fr.length<=1000000)(w:World)(hks:cO cs vs (sk.map I))(hH:Hp W0 w (.blk b (.cells #[vg,vo,vl,vn,vs,vf,I (tm),vq] 222 (0,0))::jU I vo 3 (od)::jU I vl 3 (lo)::jU B vn 4 (on)::cE cs vs 3 ((sk).map I)::we GK 2 vf 233 (fr)::jU I vq 3 (kT)::L)):Calls Tryz.prog 187 #[.pointer (some ⟨b,0,none⟩),I i] w (jW fun u w'=>u= .tuple #[]/\∃vs' vf':Value,Hp W0 w' (.blk b (.cells #[vg,vo,vl,vn,vs',vf',I (tm+1),vq] 222 (0,0))::jU I vo 3 (od.set i.toNat (tm+1))::jU I vl 3 (lo.set i.toNat (tm+1))::jU B vn 4 (on.set i.toNat true)::cE none vs' 3 ((sk++[i]).map I)::we GK 2 vf' 233 (fr++[⟨i,0⟩])::jU I vq 3 (kT)::L)):=by
 refine en func187 rfl rfl<|SR<|aE (v:=Pn _ _) rfl<|V (af O)<|V (fA fP 6 O aO O)<|lI bx hH 0 O O rfl<|V (ax O O J)<|V (af O)<|V (fA fP 6 O aO O)<|bg hH (i:=0) O (bL O O (v:=I _) O O O (hH.blk (i:=0) O) aJ)<|fun w1 bp=> ?_
 simp only[jg,kW,nW,gN,Nat.reduceAdd]at bp
 refine aa<|ai<|fW (z:=⟨none,_,_,_,_,none⟩) aP O aP bp (sP (sQ (sQ sR)))<|fun w3 iw=>have EM:=iw.sub (sP (sQ (sQ sR)));AQ 0 O EM (mV (Pn _ _) O)<|AQ 1 O EM (af O)<|AQ 2 O EM (fA fP 1 O dH O)<|tV 3 O EM bD 0 O O rfl<|AQ 4 O EM (mV (I _) O)<|AQ 5 O EM (mV (Pn _ _) O)<|AQ 6 O EM (af O)<|AQ 7 O EM (fA fP 2 O dH O)<|tV 8 O EM bD 0 O O rfl<|AQ 9 O EM (mV (I _) O)<|AQ 10 O EM (mV (Pn _ _) O)<|AQ 11 O EM (af O)<|AQ 12 O EM (fA fP 3 O HL O)<|tV 13 O EM qX 0 O O rfl<|AQ 14 O EM (mV (I _) O)<|AQ 15 O EM (mV (Pn _ _) O)<|AQ 16 O EM (af O)<|AQ 17 O EM (fA fP 6 O aO O)<|tI 18 O EM bx 0 O O rfl<|AQ 19 O EM (mV (Pn _ _) O)<|AQ 20 O EM (af O)<|AQ 21 O EM (fA fP 6 O aO O)<|tI 22 O EM bx 0 O O rfl<|A1 23<|cf O aD O iw (sP (sQ (sQ sR))) (ah (iw.sl (i:=1) O) bD aO O O J)<|A1 24<|Zv O aD iw (i:=1) O (fun _=>(sP (sQ (sQ sR)))) J O O O O rfl<|fun w9 cg=>A1 25<|cf O aD O cg (sP (sQ (sQ sR))) (ah (cg.sl (i:=2) O) bD aO O O J)<|A1 26<|Zv O aD cg (i:=2) O (fun _=>(sP (sQ (sQ sR)))) J O O O O rfl<|fun Tf cI=>AT 27 O (cI.sub (sP (sQ (sQ sR)))) (fun w hS=>ah (hS.sl (i:=1) O) qX oh O O J)<|AD<|rD (a:=true) cI (i:=3) O J O O O O rfl<|fun Ti dP=>aa<|SR<|aE (v:=Pn _ _) rfl<|aE (v:=Pn _ _) rfl<|V (af O)<|V (fA fP 4 O dH O)<|lV bD dP 0 O O rfl<|mI rfl<|tQ 1 1 dP (cB bD O O (sz:=1) (vs:=[I _]) O O az az O O)<|fun b21 Tj cT=> ?_
 (try simp only[lf]at cT)
 refine asr O cT (i:=5) O hks (cT.dR (i:=0) (n:=1) (sz:=1) O O az) O O bD O O (bytes:=8) O O O O J az<|fun v22 w23 gY=>V (af O)<|V (fA fP 4 O dH O)<|bg gY (i:=1) O (bL O O (v:=v22) O (iq (gY.Bz (i:=5) O trivial)).2 (iq (gY.Bz (i:=5) O trivial)).1 (gY.blk (i:=1) O) aJ)<|fun w25 jf=> ?_
 simp only[jg,kW,nW,gN,Nat.reduceAdd]at jf
 refine aa<|au<|aE (v:=Pn _ _) rfl<|aE (v:=Pn _ _) rfl<|V (af O)<|V (fA fP 5 O qa O)<|lV mZ jf 1 O O rfl<|mI rfl<|V (dJ (vs:=[(0,I _)]) O (TC _))<|tQ 1 1 jf (ou ng mZ O O O (l:=[_]) O az az O)<|fun b29 w27 iJ=>asq ng az O iJ (i:=7) O (Hp.iu ng iJ (i:=0) (l:=[_]) O gd) O O mZ O O (bytes:=16) O O O aiv J az<|fun v30 w31 iC=>V (af O)<|V (fA fP 5 O qa O)<|bg iC (i:=2) O (bL O O (v:=v30) O (aZ (iC.get (i:=7) O)).1 (aZ (iC.get (i:=7) O)).2 (iC.blk (i:=2) O) aJ)<|fun w33 lD=> ?_
 simp only[jg,kW,nW,gN,Nat.reduceAdd]at lD
 refine aa<|rf O ⟨rfl,v22,v30,(lD.sub (sQ (sQ sR)))⟩
theorem Hl(W0:World)(b:Nat)(vg vo vl vn vs vf vq:Value)(cs:Option (Nat×Array Value))(od lo:List Int)(on:List Bool)(s1 s2:List Int)(a:Int)(fr:List D1)(tm:Int)(kT:List Int)(L:List bu)(hl1:lo.length=od.length)(hl2:on.length=od.length)(hl3:kT.length=od.length)(hsl:s1.length+s2.length<=1000000)(hna:a∉s2)(hin:∀x∈((a:Int)::s2),0<=x/\x<od.length)(w:World)(hks:cO cs vs ((s1++((a:Int)::s2)).map I))(hH:Hp W0 w (.blk b (.cells #[vg,vo,vl,vn,vs,vf,I (tm),vq] 222 (0,0))::jU I vo 3 (od)::jU I vl 3 (lo)::jU B vn 4 (on)::cE cs vs 3 (((s1++((a:Int)::s2))).map I)::we GK 2 vf 233 (fr)::jU I vq 3 (kT)::L)):Calls Tryz.prog 188 #[.pointer (some ⟨b,0,none⟩),I a] w (jW fun u w'=>u= .tuple #[]/\∃cs':Option (Nat×Array Value),cO cs' (tF vs s1.length) (s1.map I)/\Hp W0 w' (.blk b (.cells #[vg,vo,vl,vn,(tF vs s1.length),vf,I (tm),vq] 222 (0,0))::jU I vo 3 (od)::jU I vl 3 (lo)::jU B vn 4 (gE on ((a:Int)::s2) false)::cE cs' (tF vs s1.length) 3 ((s1).map I)::we GK 2 vf 233 (fr)::jU I vq 3 (gE kT ((a:Int)::s2) (CL a ((a:Int)::s2)))::L)):=by
 have aO3:((a:Int)::s2).length=s2.length+1:=rfl
 refine en func188 rfl rfl<|SR<|aE (v:=Pn _ _) rfl<|V (af O)<|V (fA fP 4 O dH O)<|lV bD hH 0 O O rfl<|V (aC (hH.Bz (i:=4) O hks) O bD O)<|V (eO O O iX)<|aI rfl<|aa<|ai<|aA<|bt (G:=Int) (fun k s' w'=>(Fr (4::(rg 17 11 [])) _ s')/\(Hp W0 w' _)/\(s' 4=I k)/\((s1.length:Int)<=k)/\(k<=s1.length+s2.length)) (fun k=>(k-s1.length).toNat) (((s1++((a:Int)::s2)).length:Int)-1) ⟨Fr.refl _ _,hH,(aK I aJ),iX,iX⟩<| ?_
 rintro k sg1 w1 ⟨uM,je,Ar,k0,k1⟩
 obtain⟨mz,Av⟩:=uM.w2 0 1
 refine ai<|SR<|aE mz<|V (af O)<|V (fA fP 4 O dH O)<|lV bD je 0 O O rfl<|aE Ar<|V (ah (je.Bz (i:=4) O hks) bD aO O O iX)<|V (aG bx O O ((je.Bz (i:=4) O hks).cell _ _ (eS iX)))<|aE Av<|V (kG O O)<|aa<|aF O (fun h3=> ?_) (fun h3=> ?_)
 .refine an<|aA<|au<|aE Ar<|V (eO O O J)<|aI rfl<|aa<| ?_
  refine⟨k-1,?_,uM.u4.u4.u4,je,(aK I aM),?_,J⟩
  ·(have:=aim ‹_≠a› k0;omega)
  (have:=aim ‹_≠a› k0;omega)
 refine a7 (id:=0) rfl<|SR<|aE mz<|V (af O)<|V (fA fP 4 O dH O)<|lV bD je 0 O O rfl<|aE Ar<|have ek:=ass hna (Rc.1 ‹¬_≠a›) k0 k1;V (gC (je.Bz (i:=4) O hks) bD aO O O iX)<| ?_
 refine V (run_assign bA) ?_
 refine aa<|SR<|aE Av<|aI rfl<|aa<|ai<|SR<| ?_
 refine V (run_move bA) ?_
 refine V (aC (DR (s1:=s1) (a:=a) (s2:=s2) J (je.Bz (i:=4) O hks)) O bD O)<|aE (v:=I 0) rfl<|aa<|aA<|bt (G:=Int) (fun q s' w'=>(Fr (6::(8::(rg 37 8 []))) _ s')/\(Hp W0 w' _)/\(s' 6=I (CL a (((a:Int)::s2).take q.toNat)))/\(s' 37=I q)/\(0<=q)/\(q<=((a:Int)::s2).length)) (fun q=>(((a:Int)::s2).length-q).toNat) (0) ⟨Fr.refl _ _,je,rfl,rfl,J,J⟩<| ?_
 rintro q sg4 w4 ⟨CZ,iw,FJ,akA,q0,q1⟩
 obtain⟨GZ,azs,azt⟩:=CZ.w3 5 35 36
 obtain⟨aey,Wl⟩:=CZ.t2 0 mz 4 Ar
 refine SR<|V (aN akA azt)<|aa<|ai<|aF O (fun h6=> ?_) (fun h6=> ?_)
 .refine an<|ai<|aA<|SR<|V (ah (DR (s1:=s1) (a:=a) (s2:=s2) J (iw.Bz (i:=4) O hks)) bD aO azs akA J)<|V (aG bx O O ((DR (s1:=s1) (a:=a) (s2:=s2) J (iw.Bz (i:=4) O hks)).cell _ _ (eS J)))<|aI rfl<|aa<|au<|aE FJ<|mI rfl<|V (vz O O)<|aI rfl<|aa<|au<|V (ax akA O J)<|mI rfl<|aa<| ?_
  refine⟨q+1,aW,CZ.u4.u4.u1.u1,iw,(aK I (aeb q0 J).symm),(aK I aM),J,J⟩
 refine a7 (id:=2) rfl<|ai<|SR<|aE GZ<|V (aC (DR (s1:=s1) (a:=a) (s2:=s2) J (iw.Bz (i:=4) O hks)) O bD O)<|aE (v:=I 0) rfl<|aa<|aA<|have hq:((a:Int)::s2).take q.toNat=((a:Int)::s2):=ji J;bt (G:=Int×(List Bool)×(List Int)) (fun⟨q2,JQ,JR⟩ s' w'=>(Fr (10::(rg 47 18 [])) _ s')/\(Hp W0 w' (_::_::_::jU B vn 4 JQ::_::_::jU I vq 3 JR::_))/\(s' 47=I q2)/\(0<=q2)/\(q2<=((a:Int)::s2).length)/\(JQ=gE on (((a:Int)::s2).take q2.toNat) false)/\(JR=gE kT (((a:Int)::s2).take q2.toNat) (CL a ((a:Int)::s2)))) (fun⟨q2,JQ,JR⟩=>(((a:Int)::s2).length-q2).toNat) ((0,on,kT)) ⟨Fr.refl _ _,iw,rfl,J,J,rfl,rfl⟩<| ?_
 rintro⟨q2,JQ,JR⟩ sg7 w7 ⟨D7,eC,akB,r0,r1,hon,hof⟩
 obtain⟨azu,azv⟩:=D7.w2 45 46
 obtain⟨FQ,I8,ajU⟩:=D7.t3 0 aey 4 Wl 6 FJ
 have l3:JQ.length=od.length:=by rw[hon,jd];exact hl2
 have l4:JR.length=od.length:=by rw[hof,jd];exact hl3
 refine SR<|V (aN akB azv)<|aa<|ai<|aF O (fun h9=> ?_) (fun h9=> ?_)
 .refine an<|ai<|aA<|SR<|V (ah (DR (s1:=s1) (a:=a) (s2:=s2) J (eC.Bz (i:=4) O hks)) bD aO azu akB J)<|V (aG bx O O ((DR (s1:=s1) (a:=a) (s2:=s2) J (eC.Bz (i:=4) O hks)).cell _ _ (eS J)))<|aI rfl<|aa<|have hix:=hin _ (dw (d:=0) r0 ‹q2<_›);fW (z:=⟨none,_,_,_,_,none⟩) aP O aP eC (sP (sP (sP (sP (sP (sP (sQ sR)))))))<|fun EB df=>have iO:=df.sub (sP (sP (sP (sP (sP (sP (sQ sR)))))));AQ 0 O iO (run_move FQ)<|AQ 1 O iO (af O)<|AQ 2 O iO (fA fP 7 O dH O)<|tV 3 O iO bD 0 O O rfl<|AQ 4 O iO (mV (I _) O)<|AQ 5 O iO (run_move FQ)<|AQ 6 O iO (af O)<|AQ 7 O iO (fA fP 3 O HL O)<|tV 8 O iO qX 0 O O rfl<|AQ 9 O iO (mV (I _) O)<|AQ 10 O iO (run_move ajU)<|A1 11<|cf O aD O df (sP (sP (sP (sP (sP (sP (sQ sR))))))) (ah (df.sl (i:=6) O) bD aO O O J)<|A1 12<|Zv O aD df (i:=6) O (fun _=>(sP (sP (sP (sP (sP (sP (sQ sR)))))))) J O O O O rfl<|fun I4 ep=>AT 13 O (ep.sub (sP (sP (sP (sP (sP (sP (sQ sR)))))))) (fun w hS=>ah (hS.sl (i:=3) O) qX oh O O J)<|AD<|rD (a:=false) ep (i:=3) O J O O O O rfl<|fun K0 iD=>aa<|au<|V (ax akB O J)<|mI rfl<|aa<| ?_
  refine⟨(q2+1,_,_),aW,D7.u4.u4.u4.u4.u1.u1.u1,(Hp.conv iD aM),(aK I aM),J,J,?_,?_⟩
  .rw[CK r0 J,<-hon]
  rw[CK r0 J,<-hof,hq]
 refine a7 (id:=4) rfl<|au<|aE FQ<|aE FQ<|V (af O)<|V (fA fP 4 O dH O)<|lV bD eC 0 O O rfl<|aE I8<|aE I8<|V (vX (eC.Bz (i:=4) O hks) bD aO O O O iX)<|V (af O)<|V (fA fP 4 O dH O)<|have hs1:=((eC.Bz (i:=4) O hks)).tF (n:=k.toNat) iX;?_
 obtain⟨c20,auj,cD⟩:=eC.ar4 (i:=4) O hks (m:=k.toNat) iX
 simp only[jg,kW,<-B8]at cD auj
 refine bg cD (i:=0) O (bL O O (v:=tF vs k.toNat) O (iq hs1).2 (iq hs1).1 (cD.blk (i:=0) O) aJ)<|fun w23 gY=> ?_
 simp only[jg,kW,nW,gN,Nat.reduceAdd]at gY
 refine aa<|have ek:k.toNat=s1.length:=J;?_
 rw[ek,ve]at gY auj
 have eq2:((a:Int)::s2).take q2.toNat=((a:Int)::s2):=ji J
 rw[eq2]at hon hof
 rw[hon,hof]at gY
 exact rf O ⟨rfl,c20,auj,gY⟩
set_option maxHeartbeats 2000000 in
theorem Je(W0:World)(b:Nat)(vg vo vl vn vs vf vq:Value)(cs:Option (Nat×Array Value))(gr:List jY)(od lo:List Int)(on:List Bool)(tm:Int)(kT:List Int)(nx:Nat->Nat)(K:Vu)(L:List bu)(i:Int)(hgn:gr.length<=100000)(hS:rR (qf gr) od lo on tm kT [] nx)(hi:0<=i/\i<od.length)(h0:oN od i.toNat=0)(w:World)(hK:Le K (Kw W0))(hg:GrV K vg gr)(hks:cO cs vs (([]:List Int).map I))(hH:Hp W0 w (.blk b (.cells #[vg,vo,vl,vn,vs,vf,I (tm),vq] 222 (0,0))::jU I vo 3 (od)::jU I vl 3 (lo)::jU B vn 4 (on)::cE cs vs 3 ([].map I)::we GK 2 vf 233 []::jU I vq 3 (kT)::L)):Calls Tryz.prog 155 #[.pointer (some ⟨b,0,none⟩),I i] w (jW fun u w'=>u= .tuple #[]/\∃(FH Pq:Value) (Fz:Option (Nat×Array Value)) (W4:Nat->Nat) (BV lo1:List Int) (JQ:List Bool) (K2:Int) (JR:List Int),rR (qf gr) BV lo1 JQ K2 JR [] W4/\cO Fz FH (([]:List Int).map I)/\(oN BV i.toNat≠0/\∀k,oN od k≠0->oN BV k≠0)/\Hp W0 w' (.blk b (.cells #[vg,vo,vl,vn,FH,Pq,I (K2),vq] 222 (0,0))::jU I vo 3 (BV)::jU I vl 3 (lo1)::jU B vn 4 (JQ)::cE Fz FH 3 (([]).map I)::we GK 2 Pq 233 ([])::jU I vq 3 (JR)::L)):=by
 have hr0:=hS.room
 rw[gz]at hr0
 refine en func155 rfl rfl<|Zg<|SR<|aE (v:=Pn _ _) rfl<|mI rfl<|cw O (xG _ _ _ _ _ _ _ _ _ _ _ _ _ _ _ _ _ _ _ (by have:=hS.llo;have:=hS.T1;omega) (by have:=hS.lon;have:=hS.T1;omega) (by have:=hS.lof;have:=hS.T1;omega) hi J (by simp[fH,NI]) (by simp[pN]) _ hks hH) (aL call187 O O)<| ?_
 rintro _ w3 ⟨rfl,v5,v6,iw⟩
 have hS1:=hS.first (a:=i.toNat) (by rw[<-hS.T1];omega) h0
 rw[show i=((i.toNat:Nat):Int)by omega,show([]:List Int)++[((i.toNat:Nat):Int)]=NI (fH [(i.toNat,[])]).reverse from aiw (F:=[]),show([]:List D1)++[⟨((i.toNat:Nat):Int),0⟩]=pN [(i.toNat,[])] nx from aix (F:=[]) (hS.nx0 _ h0)]at iw
 simp only[eA]at iw
 refine aa<|ai<|Zh<|aA<| ?_
 refine bt (G:=T0×(Nat->Nat)×Value×Value×(Option (Nat×Array Value))×(List Int)×(List Int)×(List Bool)×Int×(List Int)) (fun⟨F,W4,FH,Pq,Fz,BV,lo1,JQ,K2,JR⟩ s' w'=>(Fr (rg 4 5 (rg 12 173 [])) _ s')/\(Hp W0 w' (.blk b (.cells #[vg,vo,vl,vn,FH,Pq,I (K2),vq] 222 (0,0))::jU I vo 3 (BV)::jU I vl 3 (lo1)::jU B vn 4 (JQ)::cE Fz FH 3 ((NI (fH F).reverse).map I)::we GK 2 Pq 233 (pN F W4)::jU I vq 3 (JR)::_))/\(rR (qf gr) BV lo1 JQ K2 JR F W4)/\(cO Fz FH ((NI (fH F).reverse).map I))/\(oN BV i.toNat≠0/\∀k,oN od k≠0->oN BV k≠0)) (fun⟨F,W4,FH,Pq,Fz,BV,lo1,JQ,K2,JR⟩=>2*BV.count 0+F.length) (([(i.toNat,[])],nx,v5,v6,none,od.set i.toNat (tm+1),lo.set i.toNat (tm+1),on.set i.toNat true,tm+1,kT)) ⟨Fr.refl _ _,iw,hS1,trivial,⟨by rw[Al J];unfold ox;rw[aX O];omega,fun k hk=>by rw[Al J];unfold ox;split<;>omega⟩⟩ ?_
 rintro⟨F,W4,FH,Pq,Fz,BV,lo1,JQ,K2,JR⟩ sg7 w7 ⟨D7,eC,hS,aaF,hdn⟩
 have FQ:=D7.w1 0
 refine ai<|SR<|aE FQ<|V (af O)<|V (fA fP 5 O qa O)<|lV mZ eC 0 O O rfl<|V (aC (eC.sl (i:=5) O) O mZ O)<|V (dN O O)<|aa<|aF O (fun h9=> ?_) (fun h9=> ?_)
 .refine an<|aA<|ai<| ?_
  obtain⟨a,sg,F0,rfl⟩:=asy (F:=F) (nx:=W4) J
  have han:=hS.Fg
  rw[gz]at han
  have q0:=hS.T1;rw[gz]at q0
  have q1:=hS.llo;rw[gz]at q1
  have q2:=hS.lon;rw[gz]at q2
  have q3:=hS.lof;rw[gz]at q3
  have hrm:=hS.room
  rw[gz]at hrm
  have hst:=abL hS
  rw[gz]at hst
  have hfs:=anh hS
  simp only[fq]at hfs
  have hlen:((pN ((a,sg)::F0) W4).length:Int)-1=F0.length:=by rw[oL];simp
  have hfa:(pN ((a,sg)::F0) W4).getD (F0.length:Int).toNat J5=⟨a,W4 a⟩:=SW
  refine ec aP eC<|fun EB df=>have iO:=df;AQ 0 O iO (run_move FQ)<|AQ 1 O iO (af O)<|AQ 2 O iO (fA fP 5 O qa O)<|tV 3 O iO mZ 0 O O rfl<|AQ 4 O iO (run_move FQ)<|AQ 5 O iO (af O)<|AQ 6 O iO (fA fP 5 O qa O)<|tV 7 O iO mZ 0 O O rfl<|AT 8 O iO (fun w hS=>aC (hS.sl (i:=5) O) O mZ O)<|AQ 9 O iO (eO O O J)<|AT 10 O iO (fun w hS=>ah (hS.sl (i:=5) O) mZ Lv O (aK I hlen) J)<|AQ 11 O iO (aV (Pn _ _) O)<|AD<|SR<|aE (v:=Pn _ _) rfl<|V (af O)<|V (fA E2 0 O aO O)<|V (gB (dv:=J5) (off:=0) ng (df.sl (i:=5) O) bx O O J O)<|V (run_assign (show _=I (a:Int)from aK (fun x:D1=>I x.node) hfa))<|aa<|ai<|aA<|bt (G:=(Nat->Nat)×(List Int)) (fun⟨wD,K3⟩ s' w'=>(Fr (6::(rg 33 83 [])) _ s')/\(Hp W0 w' (_::_::jU I vl 3 K3::_::_::we GK 2 Pq 233 (pN ((a,sg)::F0) wD)::_))/\(rR (qf gr) BV K3 JQ K2 JR ((a,sg)::F0) wD)) (fun⟨wD,K3⟩=>(gr.getD (a:Int).toNat de).l.length-wD a) ((W4,lo1)) ⟨Fr.refl _ _,df,hS⟩<| ?_
  rintro⟨wD,K3⟩ Z4 y8 ⟨mi,cN,hS⟩
  obtain⟨tU,mE⟩:=mi.w2 4 5
  have lF:=mi.t1 0 FQ
  have hlen:((pN ((a,sg)::F0) wD).length:Int)-1=F0.length:=by rw[oL];simp
  have hfa:(pN ((a,sg)::F0) wD).getD (F0.length:Int).toNat J5=⟨a,wD a⟩:=SW
  have q1:=hS.llo;rw[gz]at q1
  have hml:=(hg.row (k:=(a:Int)) J J).small
  unfold maxLen at hml
  refine ai<|ai<|ec aP cN<|fun C0 cG=>have yu:=cG;AQ 0 O yu (run_move tU)<|AQ 1 O yu (af O)<|AQ 2 O yu (fA E2 1 O aO O)<|AT 3 O yu (fun w hS=>gB (dv:=J5) (off:=1) ng (hS.sl (i:=5) O) bx O O J O)<|AQ 4 O yu (run_move lF)<|AQ 5 O yu (af O)<|AQ 6 O yu (fA fP 0 O zG O)<|tV 7 O yu pD 0 O O rfl<|AQ 8 O yu (run_move mE)<|AT 9 O yu (fun w hS=>ah (hg.1.mono (Le.trans hK hS.kw)).sl pD dH O O J)<|AT 10 O yu (fun w hS=>aG bD O O ((hg.1.mono (Le.trans hK hS.kw)).sl.cell _ _ (hg.at J)))<|AT 11 O yu (fun w hS=>aC ((hg.row (k:=(a:Int)) J J).mono (Le.trans hK hS.kw)).sl O bD O)<|AQ 12 O yu (aN (show _=I (wD a:Int)from aK (fun x:D1=>I x.next) hfa) O)<|AD<|aF O (fun yj=> ?_) (fun yj=> ?_)
  .refine an<|aA<|ai<|ec aP cG<|fun Ti dP=>have qP:=dP;AQ 0 O qP (run_move lF)<|AQ 1 O qP (af O)<|AQ 2 O qP (fA fP 0 O zG O)<|tV 3 O qP pD 0 O O rfl<|AQ 4 O qP (run_move mE)<|AT 5 O qP (fun w hS=>ah (hg.1.mono (Le.trans hK hS.kw)).sl pD dH O O J)<|AT 6 O qP (fun w hS=>aG bD O O ((hg.1.mono (Le.trans hK hS.kw)).sl.cell _ _ (hg.at J)))<|AQ 7 O qP (run_move tU)<|AQ 8 O qP (af O)<|AQ 9 O qP (fA E2 1 O aO O)<|AT 10 O qP (fun w hS=>gB (dv:=J5) (off:=1) ng (hS.sl (i:=5) O) bx O O J O)<|AT 11 O qP (fun w hS=>ah ((hg.row (k:=(a:Int)) J J).mono (Le.trans hK hS.kw)).sl bD aO O (show _=I (wD a:Int)from aK (fun x:D1=>I x.next) hfa) J)<|AT 12 O qP (fun w hS=>aG bx O O (((hg.row (k:=(a:Int)) J J).mono (Le.trans hK hS.kw)).sl.cell _ _ (eS J)))<|AQ 13 O qP (aV (I _) O)<|AD<|SR<|aE tU<|V (af O)<|V (fA E2 1 O aO O)<|V (gB (dv:=J5) (off:=1) ng (dP.sl (i:=5) O) bx O O J O)<|V (ax (show _=I (wD a:Int)from aK (fun x:D1=>I x.next) hfa) O J)<|V (af O)<|V (fA E2 1 O aO O)<|aso (a:=J5) (u:=I ((wD a:Int)+1)) (b:=⟨((pN ((a,sg)::F0) wD).getD (F0.length:Int).toNat J5).node,(wD a:Int)+1⟩) ng dP (i:=5) O HS O O O O O az rfl<|fun Tj cT=> ?_
   rw[hfa,eA,aiu hS]at cT
   refine aa<|ai<|SR<|mI rfl<|V (aN O O)<|mB rfl<|bM 68 O (fun h22=> ?_) (fun h22=> ?_)
   .refine aE (v:=B true) rfl<|aa<|cA rfl<|a7 (id:=3) rfl<| ?_
    refine⟨(qL wD a,K3),?_,mi.u4.u4.u4.u4.u4.u4.u4.u4.u4.u4.u4.u1,(Hp.conv cT aM),?_⟩
    ·(show(gr.getD (a:Int).toNat de).l.length-qL wD a a<(gr.getD (a:Int).toNat de).l.length-wD a;unfold qL;rw[aX O];omega)
    exact hS.skip fun⟨j,h1,h2⟩=>by rw[FA]at h2;rw[gz]at h1;have e:((gr.getD (a:Int).toNat de).l.getD (wD a:Int).toNat 0)=j:=h2;omega
   refine mI rfl<|aE lF<|V (af O)<|V (fA fP 0 O zG O)<|lV pD cT 0 O O rfl<|V (aC (hg.1.mono (Le.trans hK cT.kw)).sl O pD O)<|V (dF O O)<|mB rfl<|aa<|aF O (fun xu=> ?_) (fun xu=> ?_)
   .refine a7 (id:=3) O ?_
    refine⟨(qL wD a,K3),?_,mi.u4.u4.u4.u4.u4.u4.u4.u4.u4.u4.u4.u1,(Hp.conv cT aM),?_⟩
    ·(show(gr.getD (a:Int).toNat de).l.length-qL wD a a<(gr.getD (a:Int).toNat de).l.length-wD a;unfold qL;rw[aX O];omega)
    exact hS.skip fun⟨j,h1,h2⟩=>by rw[FA]at h2;rw[gz]at h1;have e:((gr.getD (a:Int).toNat de).l.getD (wD a:Int).toNat 0)=j:=h2;omega
   refine an<|ai<|SR<| ?_
   obtain⟨j,hj⟩:∃j:Nat,((gr.getD (a:Int).toNat de).l.getD (wD a:Int).toNat 0)=(j:Int):=⟨_,(gk J).symm⟩
   have hjn:((qf gr).getD a []).getD (wD a) 0=(j:Int):=by rw[FA];exact hj
   have hjr:j<(qf gr).length:=by rw[gz];omega
   have hlt:wD a<((qf gr).getD a []).length:=by rw[FA];show wD a<(gr.getD (a:Int).toNat de).l.length;omega
   refine aE lF<|V (af O)<|V (fA fP 1 O dH O)<|lV bD cT 0 O O rfl<|mI rfl<|V (ah (cT.sl (i:=1) O) bD aO O (aK I hj) J)<|V (aG bx O O ((cT.sl (i:=1) O).cell _ _ (eS J)))<|V (bU O O)<|aa<|aF O (fun Wp=> ?_) (fun Wp=> ?_)
   .refine SR<|have h0j:oN BV j=0:=‹BV.getD (j:Int).toNat 0=0›;aE lF<|mI rfl<|cw O (xG _ _ _ _ _ _ _ _ _ _ _ _ _ _ _ _ _ _ _ J J J J J (by simp only[NI,gF,List.length_reverse];omega) HS _ aaF cT) (aL call187 O (aK I hj))<| ?_
    rintro _ w29 ⟨rfl,v31,v32,iV⟩
    have hS1:=hS.enter (a:=j) hlt hjn J h0j
    rw[aiw,aix (SV hS j h0j)]at iV
    simp only[eA]at iV
    refine aa<|a7 (id:=1) rfl<| ?_
    refine⟨(((j,[])::(a,sg)::F0),qL wD a,v31,v32,none,BV.set j (K2+1),K3.set j (K2+1),JQ.set j true,K2+1,JR),?_,(((D7.u4.u4.u4.u4.u4.u1.u1.u1).t mi O)).u4.u4.u4.u4.u4.u4.u4.u4.u4.u4.u4.u4.u4.u4,(Hp.conv iV aM),?_,?_,?_⟩
    ·(have c1:=hS.cnt;have c2:=hS1.cnt;simp only[fq];omega)
    .exact hS1
    .exact trivial
    (refine⟨?_,fun k hk=> ?_⟩<;>(rw[Al J];unfold ox;split<;>first|omega|exact hdn.2 k hk))
   refine an<|SR<|aE lF<|V (af O)<|V (fA fP 3 O HL O)<|lV qX cT 0 O O rfl<|mI rfl<|V (ah (cT.sl (i:=3) O) qX oh O (aK I hj) J)<|V (aG uk O O ((cT.sl (i:=3) O).cell _ _ (lK (dv:=false) J)))<|aa<|bW O (fun h34=> ?_) (fun h34=> ?_)
   .refine fW (z:=⟨none,_,_,_,_,none⟩) aP O aP cT sR<|fun w35 j4=>have sX:=j4;AQ 0 O sX (run_move lF)<|AQ 1 O sX (af O)<|AQ 2 O sX (fA fP 2 O dH O)<|tV 3 O sX bD 0 O O rfl<|AQ 4 O sX (run_move mE)<|AQ 5 O sX (run_move lF)<|AQ 6 O sX (af O)<|AQ 7 O sX (fA fP 2 O dH O)<|tV 8 O sX bD 0 O O rfl<|AQ 9 O sX (run_move mE)<|AT 10 O sX (fun w hS=>ah (hS.sl (i:=2) O) bD aO O O J)<|AT 11 O sX (fun w hS=>aG bx O O ((hS.sl (i:=2) O).cell _ _ (eS J)))<|AQ 12 O sX (run_move lF)<|AQ 13 O sX (af O)<|AQ 14 O sX (fA fP 1 O dH O)<|tV 15 O sX bD 0 O O rfl<|AQ 16 O sX (mV (I _) O)<|AT 17 O sX (fun w hS=>ah (hS.sl (i:=1) O) bD aO O (aK I hj) J)<|AT 18 O sX (fun w hS=>aG bx O O ((hS.sl (i:=1) O).cell _ _ (eS J)))<|AQ 19 O sX (vz O O)<|AT 20 O sX (fun w hS=>ah (hS.sl (i:=2) O) bD aO O O J)<|AD<|rD j4 (i:=2) O J O O O O rfl<|fun w37 uz=>aa<| ?_
    refine⟨(qL wD a,K3.set a (min (oN K3 a) (oN BV j))),?_,mi.u4.u4.u4.u4.u4.u4.u4.u4.u4.u4.u4.u4.u4.u4.u4.u4.u4.u4.u4.u4.u1,(Hp.conv uz aM),?_⟩
    ·(show(gr.getD (a:Int).toNat de).l.length-qL wD a a<(gr.getD (a:Int).toNat de).l.length-wD a;unfold qL;rw[aX O];omega)
    exact hS.arc hlt hjr hjn ‹_=true›
   refine an ?_
   refine⟨(qL wD a,K3),?_,mi.u4.u4.u4.u4.u4.u4.u4.u4.u4.u4.u4.u4.u4.u4.u4,(Hp.conv cT aM),?_⟩
   ·(show(gr.getD (a:Int).toNat de).l.length-qL wD a a<(gr.getD (a:Int).toNat de).l.length-wD a;unfold qL;rw[aX O];omega)
   exact hS.shut hlt hjr hjn ‹¬BV.getD (j:Int).toNat 0=0› kp
  refine a7 (id:=2) rfl<|ai<|ai<|have hnd:¬wD a<((qf gr).getD a []).length:=(by rw[FA];show¬wD a<(gr.getD (a:Int).toNat de).l.length;omega);ec aP cG<|fun w39 lE=>have wB:=lE;AQ 0 O wB (run_move lF)<|AQ 1 O wB (af O)<|AQ 2 O wB (fA fP 2 O dH O)<|tV 3 O wB bD 0 O O rfl<|AQ 4 O wB (run_move mE)<|AT 5 O wB (fun w hS=>ah (hS.sl (i:=2) O) bD aO O O J)<|AT 6 O wB (fun w hS=>aG bx O O ((hS.sl (i:=2) O).cell _ _ (eS J)))<|AQ 7 O wB (run_move lF)<|AQ 8 O wB (af O)<|AQ 9 O wB (fA fP 1 O dH O)<|tV 10 O wB bD 0 O O rfl<|AQ 11 O wB (run_move mE)<|AT 12 O wB (fun w hS=>ah (hS.sl (i:=1) O) bD aO O O J)<|AT 13 O wB (fun w hS=>aG bx O O ((hS.sl (i:=1) O).cell _ _ (eS J)))<|AQ 14 O wB (bU O O)<|AD<|aF O (fun h42=> ?_) (fun h42=> ?_)
  .refine au<|aE lF<|aE mE<|have ov:oN K3 a=oN BV a:=‹K3.getD (a:Int).toNat 0=BV.getD (a:Int).toNat 0›;have azy:=aaF;have mj:=lE;?_
   rw[abK]at azy mj
   refine cw O (Hl _ _ _ _ _ _ _ _ _ _ _ _ _ _ _ _ _ _ _ _ J J J (by have:=abL hS;have e:=aK List.length (gP (a:=a) (sg:=sg) (F:=F0));simp only[dZ,fq]at e;simp only[NI,gF,List.length_reverse];omega) hS.ar0 (fun x hx=>by obtain⟨k,hk,rfl⟩:=abJ (l:=a::sg.reverse) hx;have:=(hS.lt k (by rw[gP];simp at hk⊢;exact hk.elim (fun q=> .inr (.inl q)) .inl)).1;rw[gz]at this;omega) _ azy mj) (aL call188 O O) ?_
   rintro _ w46 ⟨rfl,c48,azz,oS⟩
   have hS2:=hS.axl (ks:=(a:Int)::NI sg.reverse) hnd ov O
   refine aa<|ai<|fW (z:=⟨none,_,_,_,_,none⟩) aP O aP oS sR<|fun w50 rY=>have tX:=rY;AQ 0 O tX (run_move lF)<|AQ 1 O tX (run_move lF)<|AQ 2 O tX (af O)<|AQ 3 O tX (fA fP 5 O qa O)<|tV 4 O tX mZ 0 O O rfl<|AQ 5 O tX (run_move lF)<|AQ 6 O tX (af O)<|AQ 7 O tX (fA fP 5 O qa O)<|tV 8 O tX mZ 0 O O rfl<|AT 9 O tX (fun w hS=>aC (hS.sl (i:=5) O) O mZ O)<|AQ 10 O tX (eO O O J)<|A1 11<|cf O aD O rY sR (rh (rY.sl (i:=5) O) mZ Lv O (aK I hlen) (by(simp only[oL,fq];omega)))<|AQ 12 O tX (af O)<|AQ 13 O tX (fA fP 5 O qa O)<|AD<|have ni:=Hp.axc ng rY (i:=5) O (m:=F0.length) (by(simp only[oL,fq];omega));bg ni (i:=0) O (bL O O (v:=(zT Pq (F0.length))) O (aZ (ni.get (i:=5) O)).1 (aZ (ni.get (i:=5) O)).2 (ni.blk (i:=0) O) aJ)<|fun w54 jz=> ?_
   simp only[jg,kW,nW,gN,Nat.reduceAdd]at jz
   rw[VJ]at jz
   refine aa<|SR<|aE lF<|V (af O)<|V (fA fP 5 O qa O)<|lV mZ jz 0 O O rfl<|V (aC (jz.sl (i:=5) O) O mZ O)<|V (run_assign (aK I (show((pN F0 wD).length:Int)=F0.length from by rw[oL])))<|aa<|SR<|mI rfl<|V (dN O O)<|aa<|aF O (fun h58=> ?_) (fun h58=> ?_)
   .refine SR ?_
    obtain⟨p,sp,F1,rfl⟩:=axm (F:=F0) J
    have hpn:=(hS.lt p (jx (x:=(p,sp)) aJ)).1
    rw[gz]at hpn
    refine aE lF<|V (af O)<|V (fA fP 5 O qa O)<|lV mZ jz 0 O O rfl<|mI rfl<|V (eO O O J)<|V (ah (jz.sl (i:=5) O) mZ Lv O (aK I (show(((p,sp)::F1).length:Int)-1=F1.length from by simp)) HS)<|V (fA E2 0 O aO O)<|V (gB (dv:=J5) (off:=0) ng (jz.sl (i:=5) O) bx O O HS O)<|V (run_assign (show _=I (p:Int)from aK (fun x:D1=>I x.node) (show(pN ((p,sp)::F1) wD).getD (F1.length:Int).toNat J5=⟨p,wD p⟩from SW)))<|aa<|fW (z:=⟨none,_,_,_,_,none⟩) aP O aP jz sR<|fun w59 wz=>have yx:=wz;AQ 0 O yx (run_move lF)<|AQ 1 O yx (af O)<|AQ 2 O yx (fA fP 2 O dH O)<|tV 3 O yx bD 0 O O rfl<|AQ 4 O yx (mV (I _) O)<|AQ 5 O yx (run_move lF)<|AQ 6 O yx (af O)<|AQ 7 O yx (fA fP 2 O dH O)<|tV 8 O yx bD 0 O O rfl<|AQ 9 O yx (mV (I _) O)<|AT 10 O yx (fun w hS=>ah (hS.sl (i:=2) O) bD aO O O J)<|AT 11 O yx (fun w hS=>aG bx O O ((hS.sl (i:=2) O).cell _ _ (eS J)))<|AQ 12 O yx (run_move lF)<|AQ 13 O yx (af O)<|AQ 14 O yx (fA fP 2 O dH O)<|tV 15 O yx bD 0 O O rfl<|AQ 16 O yx (run_move mE)<|AT 17 O yx (fun w hS=>ah (hS.sl (i:=2) O) bD aO O O J)<|AT 18 O yx (fun w hS=>aG bx O O ((hS.sl (i:=2) O).cell _ _ (eS J)))<|AQ 19 O yx (vz O O)<|AT 20 O yx (fun w hS=>ah (hS.sl (i:=2) O) bD aO O O J)<|AD<|rD wz (i:=2) O J O O O O rfl<|fun w61 r5=>aa<| ?_
    refine⟨(((p,sp)::F1),wD,(tF FH (NI (fH ((p,sp)::F1)).reverse).length),(zT Pq (((p,sp)::F1).length)),c48,BV,K3.set p (min (oN K3 p) (oN K3 a)),gE JQ ((a:Int)::NI sg.reverse) false,K2,gE JR ((a:Int)::NI sg.reverse) (CL a ((a:Int)::NI sg.reverse))),?_,(((D7.u4.u4.u4.u4.u4.u1.u1.u1).t mi O)).u4.u4.u4.u4.u4.u4.u4.u4.u4.u4.u4.u4.u4.u4.u4.u4.u4.u4.u4.u4.u4,(Hp.conv r5 aM),?_,?_,?_⟩
    ·(simp only[fq,HH];omega)
    ·(rw[hS.keep ov];exact hS2)
    .exact azz
    exact hdn
   refine an<|have e0:F0=[]:=F6 J;?_
   subst e0
   refine⟨([],wD,(tF FH (NI (fH ([]:T0)).reverse).length),(zT Pq (([]:T0).length)),c48,BV,K3,gE JQ ((a:Int)::NI sg.reverse) false,K2,gE JR ((a:Int)::NI sg.reverse) (CL a ((a:Int)::NI sg.reverse))),?_,(((D7.u4.u4.u4.u4.u4.u1.u1.u1).t mi O)).u4.u4.u4.u4.u4.u4.u4.u4.u4.u4.u4.u4.u4.u1,(Hp.conv jz aM),?_,?_,?_⟩
   ·(simp only[fq,HH];omega)
   .exact hS2
   .exact azz
   exact hdn
  refine an<|ai<|have ov:oN K3 a≠oN BV a:=‹¬K3.getD (a:Int).toNat 0=BV.getD (a:Int).toNat 0›;fW (z:=⟨none,_,_,_,_,none⟩) aP O aP lE sR<|fun w63 wR=>have Jf:=wR;AQ 0 O Jf (run_move lF)<|AQ 1 O Jf (run_move lF)<|AQ 2 O Jf (af O)<|AQ 3 O Jf (fA fP 5 O qa O)<|tV 4 O Jf mZ 0 O O rfl<|AQ 5 O Jf (run_move lF)<|AQ 6 O Jf (af O)<|AQ 7 O Jf (fA fP 5 O qa O)<|tV 8 O Jf mZ 0 O O rfl<|AT 9 O Jf (fun w hS=>aC (hS.sl (i:=5) O) O mZ O)<|AQ 10 O Jf (eO O O J)<|A1 11<|cf O aD O wR sR (rh (wR.sl (i:=5) O) mZ Lv O (aK I hlen) (by(simp only[oL,fq];omega)))<|AQ 12 O Jf (af O)<|AQ 13 O Jf (fA fP 5 O qa O)<|AD<|have Hi:=Hp.axc ng wR (i:=5) O (m:=F0.length) (by(simp only[oL,fq];omega));bg Hi (i:=0) O (bL O O (v:=(zT Pq (F0.length))) O (aZ (Hi.get (i:=5) O)).1 (aZ (Hi.get (i:=5) O)).2 (Hi.blk (i:=0) O) aJ)<|fun w67 kE=> ?_
  simp only[jg,kW,nW,gN,Nat.reduceAdd]at kE
  rw[VJ]at kE
  refine aa<|SR<|aE lF<|V (af O)<|V (fA fP 5 O qa O)<|lV mZ kE 0 O O rfl<|V (aC (kE.sl (i:=5) O) O mZ O)<|V (run_assign (aK I (show((pN F0 wD).length:Int)=F0.length from by rw[oL])))<|aa<|SR<|mI rfl<|V (dN O O)<|aa<|aF O (fun h71=> ?_) (fun h71=> ?_)
  .refine SR ?_
   obtain⟨p,sp,F1,rfl⟩:=axm (F:=F0) J
   have hpn:=(hS.lt p (jx (x:=(p,sp)) aJ)).1
   rw[gz]at hpn
   refine aE lF<|V (af O)<|V (fA fP 5 O qa O)<|lV mZ kE 0 O O rfl<|mI rfl<|V (eO O O J)<|V (ah (kE.sl (i:=5) O) mZ Lv O (aK I (show(((p,sp)::F1).length:Int)-1=F1.length from by simp)) HS)<|V (fA E2 0 O aO O)<|V (gB (dv:=J5) (off:=0) ng (kE.sl (i:=5) O) bx O O HS O)<|V (run_assign (show _=I (p:Int)from aK (fun x:D1=>I x.node) (show(pN ((p,sp)::F1) wD).getD (F1.length:Int).toNat J5=⟨p,wD p⟩from SW)))<|aa<|fW (z:=⟨none,_,_,_,_,none⟩) aP O aP kE sR<|fun w72 uY=>have yy:=uY;AQ 0 O yy (run_move lF)<|AQ 1 O yy (af O)<|AQ 2 O yy (fA fP 2 O dH O)<|tV 3 O yy bD 0 O O rfl<|AQ 4 O yy (mV (I _) O)<|AQ 5 O yy (run_move lF)<|AQ 6 O yy (af O)<|AQ 7 O yy (fA fP 2 O dH O)<|tV 8 O yy bD 0 O O rfl<|AQ 9 O yy (mV (I _) O)<|AT 10 O yy (fun w hS=>ah (hS.sl (i:=2) O) bD aO O O J)<|AT 11 O yy (fun w hS=>aG bx O O ((hS.sl (i:=2) O).cell _ _ (eS J)))<|AQ 12 O yy (run_move lF)<|AQ 13 O yy (af O)<|AQ 14 O yy (fA fP 2 O dH O)<|tV 15 O yy bD 0 O O rfl<|AQ 16 O yy (run_move mE)<|AT 17 O yy (fun w hS=>ah (hS.sl (i:=2) O) bD aO O O J)<|AT 18 O yy (fun w hS=>aG bx O O ((hS.sl (i:=2) O).cell _ _ (eS J)))<|AQ 19 O yy (vz O O)<|AT 20 O yy (fun w hS=>ah (hS.sl (i:=2) O) bD aO O O J)<|AD<|rD uY (i:=2) O J O O O O rfl<|fun w74 uZ=>aa<|have oG:=uZ;have azA:=aaF;?_
   rw[aiy]at oG azA
   rw[aiz (sg:=sg) (a:=a)]at oG
   refine⟨(((p,sg++a::sp)::F1),wD,FH,(zT Pq (((p,sp)::F1).length)),Fz,BV,K3.set p (min (oN K3 p) (oN K3 a)),JQ,K2,JR),?_,(((D7.u4.u4.u4.u4.u4.u1.u1.u1).t mi O)).u4.u4.u4.u4.u4.u4.u4.u4.u4.u4.u4.u4.u4.u4.u4.u4.u4.u4.u4.u4.u1,(Hp.conv oG aM),?_,?_,?_⟩
   ·(simp only[fq,HH];omega)
   .exact hS.VI hnd ov
   .exact azA
   exact hdn
  refine an<|have e0:F0=[]:=F6 J;?_
  subst e0
  refine⟨([],wD,FH,(zT Pq (([]:T0).length)),Fz,BV,K3,JQ,K2,JR),?_,(((D7.u4.u4.u4.u4.u4.u1.u1.u1).t mi O)).u4.u4.u4.u4.u4.u4.u4.u4.u4.u4.u4.u4.u1.u1,(Hp.conv kE (by exact absurd hS.root ov)),?_,?_,?_⟩
  ·(simp only[fq,HH];omega)
  .exact absurd hS.root ov
  .exact absurd hS.root ov
  exact hdn
 refine a7 (id:=0) rfl<|have e0:F=[]:=(by cases F with|nil=>rfl|cons x F0=>(exfalso;simp only[oL,fq]at*;omega));?_
 subst e0
 exact rf O ⟨rfl,FH,Pq,Fz,W4,BV,lo1,JQ,K2,JR,hS,aaF,hdn,eC⟩
theorem aeV(v:Value)(gr:List jY)(hgn:gr.length<=100000)(w:World)(hg0:GrV (Kw w) v gr):Calls Tryz.prog 124 #[v] w (sY 3 1 gr.length ((pw (qf gr)).map I) w):=by
 have hg:=hg0.1
 have hgl:=gz (g:=gr)
 refine eH func124 rfl rfl fun hH=>SR<|va (v:= .slice none 0 0) rfl<|aa<|SR<| ?_
 refine V (run_move bA) ?_
 refine V (aC (hg.mono hH.kw).sl O pD O)<|aI rfl<|aa<|ai<|ec aP hH<|fun w1 bp=>have kS:=bp;?_
 refine AQ 0 O kS (run_move bA) ?_
 refine AQ 1 O kS (mV (I _) O)<|AQ 3 O kS (mV (I _) O)<|AQ 5 O kS (mV (I _) O)<|AQ 7 O kS (mV (I _) O)<|axg [10,12,14,16] [2,4,6,8] [⟨2,10,_,_,_,_,fun b=> .slice (some ⟨b,0,none⟩) (gr.length) (gr.length),.cells ((List.replicate (gr.length) ((0:Int))).map I).toArray 3 (0,0)⟩,⟨4,12,_,_,_,_,fun b=> .slice (some ⟨b,0,none⟩) (gr.length) (gr.length),.cells ((List.replicate (gr.length) ((0:Int))).map I).toArray 3 (0,0)⟩,⟨6,14,_,_,_,_,fun b=> .slice (some ⟨b,0,none⟩) (gr.length) (gr.length),.cells ((List.replicate (gr.length) (false)).map B).toArray 4 (0,0)⟩,⟨8,16,_,_,_,_,fun b=> .slice (some ⟨b,0,none⟩) (gr.length) (gr.length),.cells ((List.replicate (gr.length) ((0:Int))).map I).toArray 3 (0,0)⟩] O O ⟨⟨rfl,rfl⟩,⟨rfl,rfl⟩,⟨rfl,rfl⟩,⟨rfl,rfl⟩,trivial⟩ ⟨fun σ' w h=>Ak bD O O O O ((h 9 O).trans (show _=Value.int .i64 ((gr.length:Nat):Int)from O)) ((h 9 O).trans (show _=Value.int .i64 ((gr.length:Nat):Int)from O)) az J,fun σ' w h=>Ak bD O O O O ((h 11 O).trans (show _=Value.int .i64 ((gr.length:Nat):Int)from O)) ((h 11 O).trans (show _=Value.int .i64 ((gr.length:Nat):Int)from O)) az J,fun σ' w h=>Ak qX O O O O ((h 13 O).trans (show _=Value.int .i64 ((gr.length:Nat):Int)from O)) ((h 13 O).trans (show _=Value.int .i64 ((gr.length:Nat):Int)from O)) az J,fun σ' w h=>Ak bD O O O O ((h 15 O).trans (show _=Value.int .i64 ((gr.length:Nat):Int)from O)) ((h 15 O).trans (show _=Value.int .i64 ((gr.length:Nat):Int)from O)) az J,trivial⟩ az az aP bp sR<|fun Q1 w4 bY=> ?_
 simp only[lR,Ca,gA,eN,VF]at bY
 have jN:=bY.J1 (i:=0) (n:=gr.length) (l:=List.replicate (gr.length) ((0:Int))) (f:=I) O aJ J
 have eC:=jN.J1 (i:=1) (n:=gr.length) (l:=List.replicate (gr.length) ((0:Int))) (f:=I) O aJ J
 have eX:=eC.J1 (i:=2) (n:=gr.length) (l:=List.replicate (gr.length) (false)) (f:=B) O aJ J
 have iE:=eX.J1 (i:=3) (n:=gr.length) (l:=List.replicate (gr.length) ((0:Int))) (f:=I) O aJ J
 refine A1 9<|cf O aD O iE (sQ (sQ (sQ (sQ sR)))) (dJ (vs:=[(0,v),(1,(.slice (some ⟨Q1 10,0,none⟩) (gr.length) (gr.length))),(2,(.slice (some ⟨Q1 12,0,none⟩) (gr.length) (gr.length))),(3,(.slice (some ⟨Q1 14,0,none⟩) (gr.length) (gr.length))),(7,(.slice (some ⟨Q1 16,0,none⟩) (gr.length) (gr.length)))]) O (aeS (Su hg).2 (aZ (iE.get (i:=0) O)).1 (aZ (iE.get (i:=1) O)).1 (aZ (iE.get (i:=2) O)).1 (aZ (iE.get (i:=3) O)).1))<|A1 10<|cH O aD O iE (sQ (sQ (sQ (sQ sR)))) (f:=fun b=> .pointer (some ⟨b,0,none⟩)) (Ks (v:= .agg _) O)<|fun b14 y8 bX=>AQ 11 O (bX.sub (sQ (sQ (sQ (sQ (sQ sR)))))) (aV (Pn _ _) O)<|have gS:=bX.eR 3 1;have cI:=gS.eR 233 2;have ep:Hp w y8 (.blk b14 (.cells #[v,(.slice (some ⟨Q1 10,0,none⟩) (gr.length) (gr.length)),(.slice (some ⟨Q1 12,0,none⟩) (gr.length) (gr.length)),(.slice (some ⟨Q1 14,0,none⟩) (gr.length) (gr.length)),(.slice none 0 0),(.slice none 0 0),I (0),(.slice (some ⟨Q1 16,0,none⟩) (gr.length) (gr.length))] 222 (0,0))::jU I (.slice (some ⟨Q1 10,0,none⟩) (gr.length) (gr.length)) 3 (List.replicate gr.length (0:Int))::jU I (.slice (some ⟨Q1 12,0,none⟩) (gr.length) (gr.length)) 3 (List.replicate gr.length (0:Int))::jU B (.slice (some ⟨Q1 14,0,none⟩) (gr.length) (gr.length)) 4 (List.replicate gr.length false)::cE none (.slice none 0 0) 3 ((([]:List Int)).map I)::we GK 2 (.slice none 0 0) 233 (([]:List D1))::jU I (.slice (some ⟨Q1 16,0,none⟩) (gr.length) (gr.length)) 3 (List.replicate gr.length (0:Int))::[]):=cI.pj [2,2,2,2,1];AD<|ai<|SR<|mI rfl<|aE (v:=I 0) rfl<|aa<|aA<|bt (G:=Int×(Nat->Nat)×Value×Value×(Option (Nat×Array Value))×(List Int)×(List Int)×(List Bool)×Int×(List Int)) (fun⟨k,W4,FH,Pq,Fz,BV,lo1,JQ,K2,JR⟩ s' w'=>(Fr (5::(rg 20 15 [])) _ s')/\(Hp w w' (.blk b14 (.cells #[v,(.slice (some ⟨Q1 10,0,none⟩) (gr.length) (gr.length)),(.slice (some ⟨Q1 12,0,none⟩) (gr.length) (gr.length)),(.slice (some ⟨Q1 14,0,none⟩) (gr.length) (gr.length)),FH,Pq,I (K2),(.slice (some ⟨Q1 16,0,none⟩) (gr.length) (gr.length))] 222 (0,0))::jU I (.slice (some ⟨Q1 10,0,none⟩) (gr.length) (gr.length)) 3 (BV)::jU I (.slice (some ⟨Q1 12,0,none⟩) (gr.length) (gr.length)) 3 (lo1)::jU B (.slice (some ⟨Q1 14,0,none⟩) (gr.length) (gr.length)) 4 (JQ)::cE Fz FH 3 ((([]:List Int)).map I)::we GK 2 Pq 233 (([]:List D1))::jU I (.slice (some ⟨Q1 16,0,none⟩) (gr.length) (gr.length)) 3 (JR)::_))/\(s' 20=I k)/\(0<=k)/\(k<=gr.length)/\(rR (qf gr) BV lo1 JQ K2 JR [] W4)/\(cO Fz FH (([]:List Int).map I))/\(∀q:Nat,q<k.toNat->oN BV q≠0)) (fun⟨k,W4,FH,Pq,Fz,BV,lo1,JQ,K2,JR⟩=>(gr.length-k).toNat) ((0,fun _=>0,.slice none 0 0,.slice none 0 0,none,List.replicate gr.length 0,List.replicate gr.length 0,List.replicate gr.length false,0,List.replicate gr.length 0)) ⟨Fr.refl _ _,ep,rfl,J,J,rR.start hgl,trivial,fun q hq=>absurd hq J⟩<| ?_
 rintro⟨k,W4,FH,Pq,Fz,BV,lo1,JQ,K2,JR⟩ an5 K0 ⟨rW,dP,TD,k0,k1,hS,aaF,hdn⟩
 obtain⟨wv,auk⟩:=rW.w2 4 19
 have q0:=hS.T1
 rw[gz]at q0
 refine SR<|V (aN TD auk)<|aa<|ai<|aF O (fun OT=> ?_) (fun OT=> ?_)
 .refine an<|ai<|aA<|SR<|aE TD<|aI rfl<|aa<|SR<|aE wv<|V (af O)<|V (fA fP 1 O dH O)<|lV bD dP 0 O O rfl<|mI rfl<|V (ah (dP.sl (i:=1) O) bD aO O O J)<|V (aG bx O O ((dP.sl (i:=1) O).cell _ _ (eS J)))<|V (bU O O)<|aa<|aF O (fun h22=> ?_) (fun h22=> ?_)
  .refine au<|aE wv<|mI rfl<|have h0k:oN BV k.toNat=0:=‹BV.getD k.toNat 0=0›;cw O (Je _ _ _ _ _ _ _ _ _ _ _ _ _ _ _ _ _ _ _ _ hgn hS J h0k _ (Le.refl _) hg0 aaF dP) (aL call155 O O)<| ?_
   rintro _ w25 ⟨rfl,vs2,vf2,cs2,wD,od2,K3,on2,tm2,of2,hS2,CF,hd2,jf⟩
   refine aa<|au<|V (ax TD O J)<|mI rfl<|aa<| ?_
   refine⟨(k+1,wD,vs2,vf2,cs2,od2,K3,on2,tm2,of2),aW,rW.u4.u4.u4.u4,(Hp.conv jf aM),(aK I aM),J,J,?_,?_,?_⟩
   .exact hS2
   .exact CF
   exact ast k0 (fun q hq=>hd2.2 q (hdn q hq)) hd2.1
  refine an<|au<|V (ax TD O J)<|mI rfl<|aa<| ?_
  refine⟨(k+1,W4,FH,Pq,Fz,BV,lo1,JQ,K2,JR),aW,rW.u4.u4.u4.u1,(Hp.conv dP aM),(aK I aM),J,J,?_,?_,?_⟩
  .exact hS
  .exact aaF
  exact ast k0 hdn ‹¬BV.getD k.toNat 0=0›
 refine a7 (id:=0) rfl<|SR<|aE wv<|V (af O)<|V (fA fP 7 O dH O)<|lV bD dP 0 O O rfl<| ?_
 refine V (run_assign bA) ?_
 refine aa<|aj<|OX O O dP (i:=6) O ((by have:=hS.lof;rw[gz]at this;exact this)) ((by rw[hS.done fun q hq=>hdn q (by rw[gz]at hq;omega)]))
theorem iL(fd:FuncId)(fc:Array Value)(c:my)(hlg:lg.length<=600000000000)(w:World)(hH:Hp W0 w (nE n wr vL vt vv vy vu vq sn vW vU vT cn sk wy vd vm cW cU W ul ts aq a8 ak bq us qs lg tm L)):Calls Tryz.prog 44 #[pt n,jL fd fc] w (jW fun u w'=>u= .tuple #[]/\∃vd':Value,Hp W0 w' (nE n wr vL vt vv vy vu vq sn vW vU vT cn sk wy (vd') vm cW cU W ul ts aq a8 ak bq us qs (lg++[(jL fd fc,c)]) tm L)):=by
 simp only[nE]at hH
 refine en func44 rfl rfl<|au<|aE (v:=Pn _ _) rfl<|aE (v:=Pn _ _) rfl<|V (af O)<|V (fA cr 14 O kg O)<|lV hG hH 0 O O rfl<|aE (v:= .func _ _ _) rfl<|tQ 1 1 hH (cB hG rfl rfl (sz:=1) (vs:=[.func _ _ _]) rfl rfl az az rfl rfl)<|fun b3 w1 bp=> ?_
 (try simp only[lf]at bp)
 refine asp (a:=(jL fd fc,c)) O bp (i:=11) O (bp.dR (i:=0) (n:=1) (sz:=1) O O az) O O hG O O (bytes:=8) O O O O J az<|fun v4 w5 jN=>V (af O)<|V (fA cr 14 O kg O)<|bg jN (i:=1) O (bL O O (v:=v4) O (aZ (jN.get (i:=11) O)).1 (aZ (jN.get (i:=11) O)).2 (jN.blk (i:=1) O) aJ)<|fun w7 eX=> ?_
 simp only[jg,kW,nW,gN,Nat.reduceAdd]at eX
 refine aa<|rf O ⟨rfl,v4,(eX.sub (sQ sR))⟩
theorem p6(htm:tm.length<=100000000)(w:World)(hH:Hp W0 w (nE n wr vL vt vv vy vu vq sn vW vU vT cn sk wy vd vm cW cU W ul ts aq a8 ak bq us qs lg tm L)):Calls Tryz.prog 41 #[pt n] w (jW fun u w'=>u= .tuple #[]/\∃vm':Value,Hp W0 w' (nE n wr vL vt vv vy vu vq sn vW vU vT cn sk wy vd (vm') cW cU W ul ts aq a8 ak bq us qs lg (tm++[(lg.length:Int)]) L)):=by
 simp only[nE]at hH
 refine en func41 rfl rfl<|fW (z:=⟨none,_,_,_,_,none⟩) aP O aP hH (sP (sP (sP (sP (sP (sP (sP (sP (sP (sP (sP (sQ sR))))))))))))<|fun w1 bp=>have kS:=bp.sub (sP (sP (sP (sP (sP (sP (sP (sP (sP (sP (sP (sQ sR))))))))))));AQ 0 O kS (mV (Pn _ _) O)<|AQ 1 O kS (mV (Pn _ _) O)<|AQ 2 O kS (af O)<|AQ 3 O kS (fA cr 15 O dH O)<|tV 4 O kS bD 0 O O rfl<|AQ 5 O kS (mV (Pn _ _) O)<|AQ 6 O kS (af O)<|AQ 7 O kS (fA cr 14 O kg O)<|tV 8 O kS hG 0 O O rfl<|AT 9 O kS (fun w hS=>aC (hS.sl (i:=10) O) O hG O)<|A1 10<|cH O aD O bp (sP (sP (sP (sP (sP (sP (sP (sP (sP (sP (sP (sQ sR)))))))))))) (f:=fun b=> .slice (some ⟨b,0,none⟩) 1 1) (cB bD O O (sz:=1) (vs:=[I _]) O O az az O O)<|fun b5 w3 iw=> ?_
 (try simp only[lf]at iw)
 refine A1 11<|SQ O aD O iw (i:=12) O (fun _=>(sQ (sP (sP (sP (sP (sP (sP (sP (sP (sP (sP (sP (sQ sR)))))))))))))) (iw.dR (i:=0) (n:=1) (sz:=1) O O az) O O bD O O (bytes:=8) O O O O J az<|fun v8 w9 cg=>AQ 12 O (cg.sub (sQ (sP (sP (sP (sP (sP (sP (sP (sP (sP (sP (sP (sQ sR)))))))))))))) (af O)<|AQ 13 O (cg.sub (sQ (sP (sP (sP (sP (sP (sP (sP (sP (sP (sP (sP (sQ sR)))))))))))))) (fA cr 15 O dH O)<|AD<|bg cg (i:=1) O (bL O O (v:=v8) O (aZ (cg.get (i:=12) O)).1 (aZ (cg.get (i:=12) O)).2 (cg.blk (i:=1) O) aJ)<|fun I2 cN=> ?_
 simp only[jg,kW,nW,gN,Nat.reduceAdd]at cN
 refine aa<|rf O ⟨rfl,v8,(cN.sub (sQ sR))⟩
theorem oW(w:World)(hb:w.heap[n]?=some (.cells #[wr,vL,vt,vv,vy,vu,vq,I sn,vW,vU,vT,I cn,B sk,U wy,vd,vm] 111 (0,0))):Calls Tryz.prog 40 #[pt n] w (Pure (B (!sk)) w):=by
 refine eH func40 rfl rfl fun hH=>SR<|va (v:=B false) rfl<|aa<|SR<|aE (v:=Pn _ _) rfl<|V (ad5 di O O)<|mB rfl<|cC O rfl<|aE (v:=Pn _ _) rfl<|V (af O)<|V (fA cr 12 O oh O)<|V (aG uk O O (hH.eP hb (v:=B _) O))<|V (bJ O)<|mB rfl<|aB rfl<|aa<|aj<|oB O ?_ hH
 rfl
theorem EN(v x:Int)(w:World)(hb:w.heap[n]?=some (.cells #[wr,vL,vt,vv,vy,vu,vq,I sn,vW,vU,vT,I cn,B sk,U wy,vd,vm] 111 (0,0)))(ht:Sl w vt 1 a8.length (a8.map I)):Calls Tryz.prog 104 #[pt n,I v,I x] w (Pure (B (decide (0<=v/\v<a8.length/\a8.getD v.toNat 0=x))) w):=by
 refine eH func104 rfl rfl fun hH=>SR<|va (v:=B false) rfl<|aa<|SR<|mI rfl<|V (dF O O)<|mB rfl<|bM 9 O (fun h2=> ?_) (fun h2=> ?_)
 .refine mI rfl<|aE (v:=Pn _ _) rfl<|V (af O)<|V (fA cr 2 O dH O)<|V (aG bD O O (hH.eP hb O))<|V (aC (ht.hp hH) O bD O)<|V (aN O O)<|mB rfl<|mB rfl<|bM 18 O (fun h4=> ?_) (fun h4=> ?_)
  .refine aE (v:=Pn _ _) rfl<|V (af O)<|V (fA cr 2 O dH O)<|V (aG bD O O (hH.eP hb O))<|mI rfl<|V (ah (ht.hp hH) bD aO O O J)<|V (aG bx O O ((ht.hp hH).cell _ _ (eS J)))<|mI rfl<|V (bU O O)<|mB rfl<|aB rfl<|aa<|aj<|oB O ?_ hH
   exact Rp.2 ⟨fun h=>⟨J,J,h⟩,fun h=>h.2.2⟩
  refine aE (v:=B false) rfl<|aB rfl<|aa<|aj<|oB O ?_ hH
  (rw[gZ J];done)
 refine aE (v:=B false) rfl<|mB rfl<|cC O rfl<|aE (v:=B false) rfl<|aB rfl<|aa<|aj<|oB O ?_ hH
 (rw[gZ J];done)
theorem n8(q:dD)(w:World)(hq:D2 (Kw w) q):Calls Tryz.prog 131 #[.agg (qh q).toArray] w (Pure (B (E8 q)) w):=by
 refine eH func131 rfl rfl fun hH=>SR<|gM hH (v:= .agg _) rfl<|fun b3 w1 bp=>va (v:=B false) rfl<|aa<|SR<|V (fA jj 1 O xV O)<|V (bZ (hq.code.sl.hp bp) ia O O (bp.cell (i:=0) O O))<|V (aC (hq.code.sl.hp bp) O ia O)<|V (bU O O)<|mB rfl<|bM 7 O (fun h5=> ?_) (fun h5=> ?_)
 .refine V (fA jj 1 O xV O)<|V (bZ (hq.code.sl.hp bp) ia O O (bp.cell (i:=0) O O))<|V (ah (hq.code.sl.hp bp) ia pg O O J)<|V (fA dX 0 O aO O)<|V (gB (dv:=bG) (off:=0) gO (hq.code.sl.hp bp) bx O O J O)<|V (bU O O)<|mB rfl<|mB rfl<|bM 15 O (fun h7=> ?_) (fun h7=> ?_)
  .refine V (fA jj 2 O kO O)<|V (fA kK 0 O aO O)<|lI bx bp 0 O O rfl<|V (dF O O)<|mB rfl<|aB rfl<|aa<|aj<|oB O ?_ bp
   (unfold E8;((rw[gW (show q.code.length=1 by omega),gW (show(q.code.getD 0 bG).op=1 from aQ)];rfl)))
  refine aE (v:=B false) rfl<|aB rfl<|aa<|aj<|oB O ?_ bp
  (unfold E8;((rw[gW (show q.code.length=1 by omega),gZ (show¬(q.code.getD 0 bG).op=1 from aQ)];rfl)))
 refine aE (v:=B false) rfl<|mB rfl<|cC O rfl<|aE (v:=B false) rfl<|aB rfl<|aa<|aj<|oB O ?_ bp
 (unfold E8;((rw[gZ (show¬q.code.length=1 by omega)];rfl)))
theorem xH(q:dD)(hv:∀v∈q.vars,0<=v/\v<bq.length)(w:World)(hb:w.heap[n]?=some (.cells #[wr,vL,vt,vv,vy,vu,vq,I sn,vW,vU,vT,I cn,B sk,U wy,vd,vm] 111 (0,0)))(hy:Sl w vy 1 bq.length (bq.map U))(zv:D2 (Kw w) q):Calls Tryz.prog 132 #[pt n,.agg (qh q).toArray] w (Pure (U (orW q.why bq q.vars)) w):=by
 have hvs:=zv.vars.small
 unfold maxLen at hvs
 refine eH func132 rfl rfl fun hH=>SR<|gM hH (v:= .agg _) rfl<|fun b3 w1 bp=>va (v:=U 0#64) rfl<|aa<|SR<|V (fA jj 11 O cP O)<|V (aG dM O O (bp.cell (i:=0) O (v:=U _) O))<|aU rfl<|aa<|ai<|SR<|V (fA jj 12 O dH O)<|V (bZ (zv.vars.sl.hp bp) bD O O (bp.cell (i:=0) O O))<|V (aC (zv.vars.sl.hp bp) O bD O)<|aE (v:=I 0) rfl<|aa<|aA<|bt (G:=Int) (fun k s' w'=>(Fr (5::(7::(rg 13 14 []))) _ s')/\(Hp w w' _)/\(s' 5=U (orW q.why bq (q.vars.take k.toNat)))/\(s' 13=I k)/\(0<=k)/\(k<=q.vars.length)) (fun k=>(q.vars.length-k).toNat) (0) ⟨Fr.refl _ _,bp,rfl,rfl,J,J⟩<| ?_
 rintro k sg4 w4 ⟨CZ,iw,GZ,akE,h0,hk⟩
 obtain⟨aey,azB,azC⟩:=CZ.w3 0 11 12
 refine SR<|V (aN akE azC)<|aa<|ai<|aF O (fun h6=> ?_) (fun h6=> ?_)
 .refine an<|ai<|aA<|SR<|have hvk:=hv _ (dw (d:=0) h0 ‹k<_›);V (ah (zv.vars.sl.hp iw) bD aO azB akE J)<|V (aG bx O O ((zv.vars.sl.hp iw).cell _ _ (eS J)))<|aI rfl<|aa<|au<|aE GZ<|aE aey<|V (af O)<|V (fA cr 4 O jB O)<|V (aG dh O O (iw.eP hb O))<|mI rfl<|V (ah (hy.hp iw) dh cP O O J)<|V (aG dM O O ((hy.hp iw).cell _ _ (lK (dv:=0#64) J)))<|V (iH O O)<|aU rfl<|aa<|au<|V (ax akE O J)<|mI rfl<|aa<| ?_
  refine⟨k+1,aW,CZ.u4.u4.u4.u4,iw,(aK U (aiH h0 ‹k<_›).symm),(aK I aM),J,J⟩
 refine a7 (id:=0) rfl<|SR<|aE GZ<|aU rfl<|aa<|aj<|oU O ?_ iw
 rw[ji J]
theorem Jg(Xj:0<=sn/\sn<=qs.length)(w:World)(hb:w.heap[n]?=some (.cells #[wr,vL,vt,vv,vy,vu,vq,I sn,vW,vU,vT,I cn,B sk,U wy,vd,vm] 111 (0,0)))(hq:Sl w vq 13 qs.length (qs.flatMap qh))(Jh:ZA (Kw w) qs):Calls Tryz.prog 122 #[pt n] w (Pure (B ((qs.drop sn.toNat).any E8)) w):=by
 have hqD:ZA (Kw w) (qs.drop sn.toNat):=fun q hq=>Jh q (sw hq)
 have hml:=hq.small
 unfold maxLen at hml
 have hdl:(qs.drop sn.toNat).length<=qs.length:=aJ
 refine eH func122 rfl rfl fun hH=>SR<|va (v:=B false) rfl<|aa<|ai<|ai<|ec aP hH<|fun w1 bp=>have kS:=bp;AQ 0 O kS (mV (Pn _ _) O)<|AQ 1 O kS (af O)<|AQ 2 O kS (fA cr 6 O xT O)<|AT 3 O kS (fun w hS=>aG oe O O (hS.eP hb O))<|AQ 4 O kS (mV (Pn _ _) O)<|AQ 5 O kS (af O)<|AQ 6 O kS (fA cr 7 O aO O)<|AT 7 O kS (fun w hS=>aG bx O O (hS.eP hb (v:=I _) O))<|AQ 10 O kS (mV (I 0) O)<|A1 8<|cf O aD O bp sR (gC (hq.hp bp) oe Lw O O J)<|AT 9 O kS (fun w hS=>aC ((Sl.frE pP hq sn.toNat J).hp hS) O oe O)<|AD<|aA<|bt (G:=Int) (fun k s' w'=>(Fr (2::(4::(rg 15 7 []))) _ s')/\(Hp w w' _)/\(s' 15=I k)/\(0<=k)/\(k<=(qs.drop sn.toNat).length)/\(∀j:Nat,j<k.toNat->E8 ((qs.drop sn.toNat).getD j cX)=false)) (fun k=>((qs.drop sn.toNat).length-k).toNat) (0) ⟨Fr.refl _ _,bp,rfl,J,J,fun j h=>absurd h J⟩<| ?_
 rintro k sg5 w5 ⟨T6,bY,akF,h0,hk,hno⟩
 obtain⟨azD,azE⟩:=T6.w2 13 14
 refine SR<|V (aN akF azE)<|aa<|ai<|aF O (fun h7=> ?_) (fun h7=> ?_)
 .refine an<|ai<|aA<|SR<|V (ah ((Sl.frE pP hq sn.toNat J).hp bY) oe Lw azD akF J)<|V (dY (dv:=cX) pP ((Sl.frE pP hq sn.toNat J).hp bY) jj O O O J)<|lJ bY (aS Tryz.zeroValue128)<|fun b10 w8 iE=>bg iE (i:=0) O (dO (c':=(qh _).toArray) O O O (tO (hqD.at J J)) (iE.blk (i:=0) O) O)<|fun C0 cG=>aa<|SR<|V (cF (cs:=qh _) jj O O O (bj (cG.blk (i:=0) O)))<|aH O cG (n8 _ _ ((hqD.at J J).mono cG.kw)) (ay call131 O)<|fun Tf cI=>aa<|bW O (fun qk=> ?_) (fun qk=> ?_)
  .refine SR<|va (v:=B true) rfl<|aa<|aj<|oB O ?_ cI
   exact(aiF (d:=cX) h0 ‹k<_› ‹_=true›).symm
  refine an<|au<|V (ax akF O J)<|mI rfl<|aa<| ?_
  refine⟨k+1,aW,T6.u4.u4,(cI.sub (sQ sR)),(aK I aM),J,J,?_⟩
  exact ast h0 hno kp
 refine a7 (id:=0) rfl<|SR<|va (v:=B false) rfl<|aa<|aj<|oB O ?_ bY
 exact(anl (d:=cX) fun j hj=>hno j J).symm
theorem Ji(K:Vu)(Qw:ak.length<=1000)(hqn:qs.length<=1000)(hpl:VN ak.length qs)(w:World)(hb:w.heap[n]?=some (.cells #[wr,vL,vt,vv,vy,vu,vq,I sn,vW,vU,vT,I cn,B sk,U wy,vd,vm] 111 (0,0)))(hv:Sl w vv 8 ak.length (ak.flatMap pH))(hq:Sl w vq 13 qs.length (qs.flatMap qh))(Jh:ZA (Kw w) qs):Calls Tryz.prog 125 #[pt n] w (Gp K (fun K' u=>∃gr,qf gr=cz ak.length qs/\GrV K' u gr) w):=by
 refine eH func125 rfl rfl fun hH=>SR<|va (v:= .slice none 0 0) rfl<|aa<|SR<|aE (v:=Pn _ _) rfl<|V (af O)<|V (fA cr 3 O jm O)<|V (aG bV O O (hH.eP hb O))<|V (aC (hv.hp hH) O bV O)<|tQ ak.length ak.length hH (Ak (f:=jY.v) (z0:=de) pD O O O O (show _=Value.int .i64 ((ak.length:Nat):Int)from O) (show _=Value.int .i64 ((ak.length:Nat):Int)from O) az J)<|fun b3 w1 bp=>have iw:=bp.J1 (i:=0) (n:=ak.length) (l:=List.replicate ak.length de) (f:=jY.v) O aJ J;?_
 simp only[jg]at iw
 obtain⟨Rz,hRz⟩:∃R:List bu,R=[]:=⟨_,rfl⟩
 have bY:Hp _ _ (_::((List.replicate ak.length de).map (dQ 3)++Rz)):=Hp.o7 (A:=[_]) (R:=Rz) (by rw[hRz];simpa using iw.amB 3 ak.length)
 refine V (run_assign bA) ?_
 refine aa<|ai<|SR<|aE (v:=Pn _ _) rfl<|V (af O)<|V (fA cr 6 O xT O)<|V (aG oe O O (bY.eP hb O))<|V (aC (hq.hp bY) O oe O)<|aE (v:=I 0) rfl<|aa<|aA<|bt (G:=Int×(List jY)×(List bu)) (fun⟨k,gs,Z1⟩ s' w'=>(Fr (5::(rg 17 25 [])) _ s')/\(Hp w w' (jU jY.v (.slice (some ⟨b3,0,none⟩) ak.length ak.length) 99 gs::Z1))/\(s' 17=I k)/\(0<=k)/\(k<=qs.length)/\(Z1=gs.map (dQ 3)++Rz)/\(qf gs=cz ak.length (qs.take k.toNat))/\(∀x∈gs,x.l.length<=k.toNat)) (fun⟨k,gs,Z1⟩=>(qs.length-k).toNat) ((0,List.replicate ak.length de,(((List.replicate ak.length de).map (dQ 3))++Rz))) ⟨Fr.refl _ _,bY,rfl,J,J,rfl,(by simp[qf,cz,de]),(fun x hx=>by rw[(List.mem_replicate.1 hx).2];simp[de])⟩<| ?_
 rintro⟨k,gs,Z1⟩ sg6 w6 ⟨QF,jN,acD,h0,hk,hz,hgs,hgb⟩
 obtain⟨aan,azF,azG⟩:=QF.w3 3 15 16
 subst hz
 have hgn:gs.length=ak.length:=by have:=aK List.length hgs;rwa[gz,FD]at this
 refine SR<|V (aN acD azG)<|aa<|ai<|aF O (fun h8=> ?_) (fun h8=> ?_)
 .refine an<|ai<|aA<|SR<|V (ah (hq.hp jN) oe Lw azF acD J)<|V (dY (dv:=cX) pP (hq.hp jN) jj O O O J)<|lJ jN (aS Tryz.zeroValue128)<|fun b11 w9 cg=>bg cg (i:=0) O (dO (c':=(qh _).toArray) O O O (tO (Jh.at J J)) (cg.blk (i:=0) O) O)<|fun QH gS=>aa<|SR<|V (cF (cs:=qh _) jj O O O (bj (gS.blk (i:=0) O)))<|aH O gS (n8 _ _ ((Jh.at J J).mono gS.kw)) (ay call131 O)<|fun I4 ep=>aa<|bW O (fun NT=> ?_) (fun NT=> ?_)
  .have Xn:=hpl.at h0 ‹k<_› ‹E8 _=true›
   have aPj:=hgb _ (dw (d:=de) (l:=gs) (k:=(yz (qs.getD k.toNat cX))) J J)
   refine fW (z:=⟨none,_,_,_,_,none⟩) aP O aP ep (sP (sP (sA sR)))<|fun ZZ fI=>have oD:=fI.sub (sP (sP (sA sR)));AQ 0 O oD (run_move aan)<|AQ 1 O oD (fA jj 12 O dH O)<|AT 2 O oD (fun w hS=>bZ ((Jh.at J J).vars.sl.hp hS) bD O O (hS.cell (i:=0) O O))<|AT 3 O oD (fun w hS=>ah ((Jh.at J J).vars.sl.hp hS) bD aO O O J)<|AT 4 O oD (fun w hS=>aG bx O O (((Jh.at J J).vars.sl.hp hS).cell _ _ (eS J)))<|AQ 5 O oD (run_move aan)<|AQ 6 O oD (fA jj 12 O dH O)<|AT 7 O oD (fun w hS=>bZ ((Jh.at J J).vars.sl.hp hS) bD O O (hS.cell (i:=0) O O))<|AT 8 O oD (fun w hS=>ah ((Jh.at J J).vars.sl.hp hS) bD aO O O J)<|AT 9 O oD (fun w hS=>aG bx O O (((Jh.at J J).vars.sl.hp hS).cell _ _ (eS J)))<|AT 10 O oD (fun w hS=>ah (hS.sl (i:=1) O) pD dH O (show _=I (yz (qs.getD k.toNat cX))from O) J)<|AT 11 O oD (fun w hS=>aG bD O O ((hS.sl (i:=1) O).cell _ _ (lK (dv:=de) J)))<|AQ 12 O oD (fA jj 2 O kO O)<|AQ 13 O oD (fA kK 0 O aO O)<|tI 14 O oD bx 0 O O rfl<|A1 15<|cH O aD O fI (sP (sP (sA sR))) (f:=fun b=> .slice (some ⟨b,0,none⟩) 1 1) (cB bD O O (sz:=1) (vs:=[I _]) O O az az O O)<|fun b24 QJ eM=> ?_
   (try simp only[lf]at eM)
   refine A1 16<|aio (A:=[_,_,_]) (gs:=gs) (q:=(yz (qs.getD k.toNat cX))) (a:=(qs.getD k.toNat cX).to.var) (R:=Rz) O aD O eM (fun _=>(sQ (sP (sP (sA (sA sR)))))) J (eM.dR (i:=0) (n:=1) (sz:=1) O O az) O O bD O O (bytes:=8) O O O J az<|fun v27 w28 gj=> ?_
   simp only[gA,eN]at gj
   refine AT 17 O (gj.sub (sQ (sP (sP (sA sR))))) (fun w hS=>ah (hS.sl (i:=1) O) pD dH O (show _=I (yz (qs.getD k.toNat cX))from O) J)<|AD<|have aul:=Hp.axe (A:=[_,_,_]) (gs:=gs) (q:=(yz (qs.getD k.toNat cX))) (R:=Rz) gj J;rD (f:=jY.v) (a:=⟨v27,(gs.getD ((yz (qs.getD k.toNat cX))).toNat de).l++[(qs.getD k.toNat cX).to.var]⟩) gj (i:=2) O J O O aul.1 aul.2 rfl<|fun w30 gT=>aa<|au<|V (ax acD O J)<|mI rfl<|aa<| ?_
   refine⟨(k+1,(gs.set ((yz (qs.getD k.toNat cX))).toNat ⟨v27,(gs.getD ((yz (qs.getD k.toNat cX))).toNat de).l++[(qs.getD k.toNat cX).to.var]⟩),(((gs.set ((yz (qs.getD k.toNat cX))).toNat ⟨v27,(gs.getD ((yz (qs.getD k.toNat cX))).toNat de).l++[(qs.getD k.toNat cX).to.var]⟩).map (dQ 3))++Rz)),aW,QF.u4.u4.u4.u4.u4.u4.u1.u1,(Hp.conv (gT.sub (sQ (sQ sR))) aM),(aK I aM),J,J,aM,?_,?_⟩
   ·(rw[Ni h0 ‹k<_›,grQ,aX ‹E8 _=true›,<-hgs,abQ,FA])
   (rw[show(k+1).toNat=k.toNat+1 by omega];exact aiI hgb (by simp only[dZ,ez];have:=hgb _ (dw (d:=de) (l:=gs) (k:=(yz (qs.getD k.toNat cX))) J J);omega))
  refine an<|au<|V (ax acD O J)<|mI rfl<|aa<| ?_
  refine⟨(k+1,gs,((gs.map (dQ 3))++Rz)),aW,QF.u4.u4,(Hp.conv (ep.sub (sQ sR)) aM),(aK I aM),J,J,aM,?_,?_⟩
  ·(rw[Ni h0 ‹k<_›,grQ,aT kp,<-hgs])
  exact fun x hx=>by have:=hgb x hx;omega
 refine a7 (id:=0) rfl<|SR<|aE aan<| ?_
 refine V (run_assign bA) ?_
 refine aa<|aj<| ?_
 obtain⟨Z33,akG,aGg⟩:=Hp.aD7 (R:=Rz) K jN
 exact jy O O ⟨Z33,akG.sub (afr _ _),gs,(by rw[hgs,ji J]),aGg⟩
theorem FR(hm:m<=100000)(Qw:ak.length<=1000)(hqn:qs.length<=1000)(T3:bq.length=ak.length)(ov:(bB cs).length=ak.length)(hpl:VN ak.length qs)(w:World)(hb:w.heap[n]?=some (.cells #[wr,vL,vt,vv,vy,vu,vq,I sn,vW,vU,vT,I cn,B sk,U wy,vd,vm] 111 (0,0)))(hv:Sl w vv 8 ak.length (ak.flatMap pH))(hy:Sl w vy 1 bq.length (bq.map U))(hq:Sl w vq 13 qs.length (qs.flatMap qh))(hW:Sl w vW 1 W.length (W.map U))(Jh:ZA (Kw w) qs)(h:xn FX n m cs vW vU cW cU W ul ts cn L):Calls Tryz.prog 127 #[pt n] w (sY 35 1 ak.length ((CN (bB cs) bq ak.length qs).map U) w):=by
 have hfr:=h.find ov
 refine eH func127 rfl rfl fun hH=>SR<|va (v:= .slice none 0 0) rfl<|aa<|SR<|aE (v:=Pn _ _) rfl<|V (af O)<|V (fA cr 3 O jm O)<|V (aG bV O O (hH.eP hb O))<|V (aC (hv.hp hH) O bV O)<|tQ (ak.length) (ak.length) hH (Ak (f:=U) (z0:=0#64) dh O O O O (show _=Value.int .i64 ((ak.length:Nat):Int)from O) (show _=Value.int .i64 ((ak.length:Nat):Int)from O) az J)<|fun b3 w1 bp=>have iw:=bp.J1 (i:=0) (n:=ak.length) (l:=List.replicate (ak.length) 0#64) (f:=U) O aJ J;?_
 simp only[jg]at iw
 refine V (run_assign bA) ?_
 refine aa<|ai<|SR<|aE (v:=Pn _ _) rfl<|V (af O)<|V (fA cr 3 O jm O)<|V (aG bV O O (iw.eP hb O))<|V (aC (hv.hp iw) O bV O)<|aE (v:=I 0) rfl<|aa<|aA<|bt (G:=Int×(List (BitVec 64))) (fun⟨k,o⟩ s' w'=>(Fr (4::(rg 18 21 [])) _ s')/\(Hp w w' (jU U (.slice (some ⟨b3,0,none⟩) (ak.length) (ak.length)) 35 o::_))/\(s' 18=I k)/\(0<=k)/\(k<=ak.length)/\(o=((List.range k.toNat).foldl (Nj (bB cs) bq) (List.replicate ak.length 0)))/\(o.length=ak.length)) (fun⟨k,o⟩=>(ak.length-k).toNat) ((0,List.replicate ak.length 0)) ⟨Fr.refl _ _,iw,rfl,J,J,aM,aJ⟩<| ?_
 rintro⟨k,o⟩ sg5 w5 ⟨T6,bY,akH,h0,hk,ho,hol⟩
 obtain⟨ZV,aah,aeI,azH⟩:=T6.w4 0 2 3 17
 have hf1:=hfr k
 refine SR<|V (aN akH azH)<|aa<|ai<|aF O (fun h7=> ?_) (fun h7=> ?_)
 .refine an<|ai<|aA<|SR<|aE akH<|aI rfl<|aa<|fW (z:=⟨none,_,_,_,_,none⟩) aP O aP bY sR<|fun w8 iE=>have Ow:=iE;AQ 0 O Ow (run_move aeI)<|AQ 1 O Ow (run_move ZV)<|AQ 2 O Ow (af O)<|AQ 3 O Ow (fA cr 8 O pc O)<|AQ 4 O Ow (mV (I _) O)<|AQ 8 O Ow (run_move ZV)<|AQ 9 O Ow (af O)<|AQ 10 O Ow (fA cr 4 O jB O)<|AT 11 O Ow (fun w hS=>aG dh O O (hS.eP hb O))<|AQ 12 O Ow (mV (I _) O)<|AT 13 O Ow (fun w hS=>ah (hy.hp hS) dh cP O O J)<|AT 14 O Ow (fun w hS=>aG dM O O ((hy.hp hS).cell _ _ (lK (dv:=0#64) J)))<|A1 5<|ct O aD O iE sR (FO _ h J (iE.ext hb) (hW.hp iE)) (aL E6 O O)<|fun EB df=>have iO:=df;AT 6 O iO (fun w hS=>ah (hS.sl (i:=0) O) dh cP O O J)<|AT 7 O iO (fun w hS=>aG dM O O ((hS.sl (i:=0) O).cell _ _ (lK (dv:=0#64) J)))<|AQ 15 O iO (iH O O)<|AT 16 O iO (fun w hS=>ah (hS.sl (i:=0) O) dh cP O O J)<|AD<|rD df (i:=0) O J O O O O rfl<|fun y8 bX=>aa<|au<|V (ax akH O J)<|mI rfl<|aa<| ?_
  refine⟨(k+1,_),aW,T6.u4.u4.u4.u4.u4.u1.u1,(Hp.conv bX aM),(aK I aM),J,J,?_,?_⟩
  ·(rw[aee h0,<-ho];unfold Nj;rw[gk h0];rfl)
  (rw[nY];exact hol)
 refine a7 (id:=0) rfl<|ai<|SR<|aE ZV<|V (af O)<|V (fA cr 6 O xT O)<|V (aG oe O O (bY.eP hb O))<|V (aC (hq.hp bY) O oe O)<|aE (v:=I 0) rfl<|aa<|aA<|have hoA:o=VO (bB cs) bq ak.length:=(by rw[ho,show k.toNat=ak.length by omega];rfl);bt (G:=Int×(List (BitVec 64))) (fun⟨k,o⟩ s' w'=>(Fr (6::(rg 44 49 [])) _ s')/\(Hp w w' (jU U (.slice (some ⟨b3,0,none⟩) (ak.length) (ak.length)) 35 o::_))/\(s' 44=I k)/\(0<=k)/\(k<=qs.length)/\(o=((qs.take k.toNat).foldl (J6 (bB cs)) (VO (bB cs) bq ak.length)))/\(o.length=ak.length)) (fun⟨k,o⟩=>(qs.length-k).toNat) ((0,o)) ⟨Fr.refl _ _,bY,rfl,J,J,(by rw[hoA];rfl),hol⟩<| ?_
 rintro⟨k,o⟩ ZW QH ⟨mO,cG,Jj,h0,hk,ho,hol⟩
 obtain⟨aum,aun⟩:=mO.w2 42 43
 obtain⟨akI,kB⟩:=mO.t2 0 ZV 3 aeI
 refine SR<|V (aN Jj aun)<|aa<|ai<|aF O (fun yj=> ?_) (fun yj=> ?_)
 .refine an<|ai<|aA<|SR<|V (ah (hq.hp cG) oe Lw aum Jj J)<|V (dY (dv:=cX) pP (hq.hp cG) jj O O O J)<|lJ cG (aS Tryz.zeroValue128)<|fun Z6 Ti dP=>bg dP (i:=0) O (dO (c':=(qh _).toArray) O O O (tO (Jh.at J J)) (dP.blk (i:=0) O) O)<|fun QJ eM=>aa<|ai<|ec aP eM<|fun w24 n9=>AT 0 O n9 (fun w hS=>cF (cs:=qh _) jj O O O (bj (hS.blk (i:=0) O)))<|A1 1<|ct O aD O n9 sR (n8 _ _ ((Jh.at J J).mono n9.kw)) (ay call131 O)<|fun Wv dK=>have Tv:=dK;AQ 2 O Tv (mV (B _) O)<|LR (dj:=50) O (fun rK=> ?_) (fun rK=> ?_)
  .refine BQ 3 O O (bR (c:=true) rK) dK (run_move akI)<|BQ 4 O O (bR (c:=true) rK) dK (af O)<|BQ 5 O O (bR (c:=true) rK) dK (fA cr 8 O pc O)<|BQ 6 O O (bR (c:=true) rK) dK (fA jj 12 O dH O)<|AG 7 O O (bR (c:=true) rK) dK (fun w hS=>bZ ((Jh.at J J).vars.sl.hp hS) bD O O (hS.cell (i:=0) O O))<|AG 8 O O (bR (c:=true) rK) dK (fun w hS=>ah ((Jh.at J J).vars.sl.hp hS) bD aO O O RJ)<|AG 9 O O (bR (c:=true) rK) dK (fun w hS=>aG bx O O (((Jh.at J J).vars.sl.hp hS).cell _ _ (eS RJ)))<|BQ 11 O O (bR (c:=true) rK) dK (run_move akI)<|BQ 12 O O (bR (c:=true) rK) dK (af O)<|BQ 13 O O (bR (c:=true) rK) dK (fA cr 8 O pc O)<|BQ 14 O O (bR (c:=true) rK) dK (fA jj 2 O kO O)<|BQ 15 O O (bR (c:=true) rK) dK (fA kK 0 O aO O)<|AG 16 O O (bR (c:=true) rK) dK (fun w hS=>aG bx O O (hS.cell (i:=0) O (v:=I _) O))<|A1 10<|ct O (A3 O (bR (c:=true) rK)) O dK sR (FO _ h J (dK.ext hb) (hW.hp dK)) (aL E6 O (show _=I (yz (qs.getD k.toNat cX))from O))<|fun w30 gT=>A1 17<|ct O (A3 O (bR (c:=true) rK)) O gT sR (FO _ h J (gT.ext hb) (hW.hp gT)) (aL E6 O O)<|fun w32 ke=>BQ 18 O O (bR (c:=true) rK) ke (bU O O)<|have OA:=ke;AQ 19 O OA (gL (bR (c:=true) rK) (v:=B _) O)<|AQ 20 O OA (mV (B _) O)<|Cs (dj:=68) O (fun BI=> ?_) (fun BI=> ?_)
   .refine BQ 21 O O (bT BI) ke (fA jj 12 O dH O)<|AG 22 O O (bT BI) ke (fun w hS=>bZ ((Jh.at J J).vars.sl.hp hS) bD O O (hS.cell (i:=0) O O))<|AG 23 O O (bT BI) ke (fun w hS=>ah ((Jh.at J J).vars.sl.hp hS) bD aO O O RJ)<|AG 24 O O (bT BI) ke (fun w hS=>aG bx O O (((Jh.at J J).vars.sl.hp hS).cell _ _ (eS RJ)))<|BQ 25 O O (bT BI) ke (fA jj 2 O kO O)<|BQ 26 O O (bT BI) ke (fA kK 0 O aO O)<|AG 27 O O (bT BI) ke (fun w hS=>aG bx O O (hS.cell (i:=0) O (v:=I _) O))<|BQ 28 O O (bT BI) ke (kG (show _=I (yz (qs.getD k.toNat cX))from O) O)<|AQ 29 O OA (gL (bT BI) (v:=B _) O)<|AD<|aF O (fun h37=> ?_) (fun h37=> ?_)
    .have hin:JU (bB cs) (qs.getD k.toNat cX)=true:=by unfold JU;simp_all
     have Xn:=hpl.at h0 ‹k<_› ‹E8 _=true›
     have hf1:=hfr _ ⟨Xn.2.1.1,Xn.2.1.2⟩
     have hf2:=hfr (qs.getD k.toNat cX).to.var ⟨by have:=‹fN (bB cs) _=fN (bB cs) _›;by_cases c:0<=(qs.getD k.toNat cX).to.var;exact c;exfalso;rw[IM (i:=(qs.getD k.toNat cX).to.var) (fun q=>c q.1)]at this;omega,Xn.2.2⟩
     refine fW (z:=⟨none,_,_,_,_,none⟩) aP O aP ke sR<|fun w38 kD=>have C7:=kD;AQ 0 O C7 (run_move kB)<|AQ 1 O C7 (run_move akI)<|AQ 2 O C7 (af O)<|AQ 3 O C7 (fA cr 8 O pc O)<|AQ 4 O C7 (fA jj 2 O kO O)<|AQ 5 O C7 (fA kK 0 O aO O)<|tI 6 O C7 bx 0 O O rfl<|AQ 10 O C7 (fA jj 11 O cP O)<|AT 11 O C7 (fun w hS=>aG dM O O (hS.cell (i:=0) O (v:=U _) O))<|A1 7<|ct O aD O kD sR (FO _ h J (kD.ext hb) (hW.hp kD)) (aL E6 O O)<|fun w40 jS=>have aop:=jS;AT 8 O aop (fun w hS=>ah (hS.sl (i:=1) O) dh cP O O J)<|AT 9 O aop (fun w hS=>aG dM O O ((hS.sl (i:=1) O).cell _ _ (lK (dv:=0#64) J)))<|AQ 12 O aop (iH O O)<|AT 13 O aop (fun w hS=>ah (hS.sl (i:=1) O) dh cP O O J)<|AD<|rD jS (i:=1) O J O O O O rfl<|fun w42 mj=>aa<|au<|V (ax Jj O J)<|mI rfl<|aa<| ?_
     refine⟨(k+1,_),aW,mO.u4.u4.u4.u4.u4.u4.u4.u4.u4.u4.u4.u4.u1.u1,(Hp.conv (mj.sub (sQ sR)) aM),(aK I aM),J,J,?_,?_⟩
     ·(rw[oO (d:=cX) h0 ‹k<_›,<-ho];unfold J6;rw[aX hin];rfl)
     (rw[nY];exact hol)
    refine an<|au<|V (ax Jj O J)<|mI rfl<|aa<|have hno:¬JU (bB cs) (qs.getD k.toNat cX)=true:=Yp;?_
    refine⟨(k+1,o),aW,mO.u4.u4.u4.u4.u4.u4.u4.u4.u4,(Hp.conv (ke.sub (sQ sR)) aM),(aK I aM),J,J,?_,?_⟩
    ·(rw[oO (d:=cX) h0 ‹k<_›,<-ho];unfold J6;rw[aT hno])
    exact hol
   refine AK 21 O O (bF BI) ke<|AK 22 O O (bF BI) ke<|AK 23 O O (bF BI) ke<|AK 24 O O (bF BI) ke<|AK 25 O O (bF BI) ke<|AK 26 O O (bF BI) ke<|AK 27 O O (bF BI) ke<|AK 28 O O (bF BI) ke<|AQ 29 O OA (eo (bF BI) (v:=B false) O)<|AD<|cQ rfl<|an<|au<|V (ax Jj O J)<|mI rfl<|aa<|have hno:¬JU (bB cs) (qs.getD k.toNat cX)=true:=Yp;?_
   refine⟨(k+1,o),aW,mO.u4.u4.u4.u4.u4.u4.u4.u4.u4,(Hp.conv (ke.sub (sQ sR)) aM),(aK I aM),J,J,?_,?_⟩
   ·(rw[oO (d:=cX) h0 ‹k<_›,<-ho];unfold J6;rw[aT hno])
   exact hol
  refine AK 3 O O (bR (c:=false) rK) dK<|AK 4 O O (bR (c:=false) rK) dK<|AK 5 O O (bR (c:=false) rK) dK<|AK 6 O O (bR (c:=false) rK) dK<|AK 7 O O (bR (c:=false) rK) dK<|AK 8 O O (bR (c:=false) rK) dK<|AK 9 O O (bR (c:=false) rK) dK<|AK 10 O O (bR (c:=false) rK) dK<|AK 11 O O (bR (c:=false) rK) dK<|AK 12 O O (bR (c:=false) rK) dK<|AK 13 O O (bR (c:=false) rK) dK<|AK 14 O O (bR (c:=false) rK) dK<|AK 15 O O (bR (c:=false) rK) dK<|AK 16 O O (bR (c:=false) rK) dK<|AK 17 O O (bR (c:=false) rK) dK<|AK 18 O O (bR (c:=false) rK) dK<|AQ 19 O Tv (eo (bR (c:=false) rK) (v:=B false) O)<|AQ 20 O Tv (mV (B _) O)<|AK 21 O O O dK<|AK 22 O O O dK<|AK 23 O O O dK<|AK 24 O O O dK<|AK 25 O O O dK<|AK 26 O O O dK<|AK 27 O O O dK<|AK 28 O O O dK<|AQ 29 O Tv (eo O (v:=B false) O)<|AD<|cQ rfl<|an<|au<|V (ax Jj O J)<|mI rfl<|aa<|have hno:¬JU (bB cs) (qs.getD k.toNat cX)=true:=Yp;?_
  refine⟨(k+1,o),aW,mO.u4.u4.u4.u4.u4.u4.u4.u4.u4,(Hp.conv (dK.sub (sQ sR)) aM),(aK I aM),J,J,?_,?_⟩
  ·(rw[oO (d:=cX) h0 ‹k<_›,<-ho];unfold J6;rw[aT hno])
  exact hol
 refine a7 (id:=2) rfl<|SR<|aE kB<| ?_
 refine V (run_assign bA) ?_
 refine aa<|aj<|have eB:((qs.take k.toNat).foldl (J6 (bB cs)) (VO (bB cs) bq ak.length))=CN (bB cs) bq ak.length qs:=(by rw[ji J];rfl);OX O O cG (i:=0) O hol (by rw[ho,eB])
theorem qo{W0:World}{b:Nat}{ql qi:Value}{cq:Option (Nat×Array Value)}{wl:List Int}{wi:List Bool}{L:List bu}(i:Int)(hi:0<=i/\i<wi.length)(hwl:wl.length<=100000000)(w:World)(hq:qO cq ql (wl.map I))(hH:Hp W0 w (wE b ql qi cq wl wi L)):Calls Tryz.prog 85 #[pt b,I i] w (jW fun u w'=>u= .tuple #[]/\∃(T8:Value) (T9:Option (Nat×Array Value)),qO T9 T8 (((py (wl,wi) i).1).map I)/\Hp W0 w' (wE b (T8) qi (T9) ((py (wl,wi) i).1) ((py (wl,wi) i).2) L)):=by
 simp only[wE]at hH
 refine en func85 rfl rfl<|SR<|aE (v:=Pn _ _) rfl<|V (af O)<|V (fA zC 1 O HL O)<|lV qX hH 0 O O rfl<|mI rfl<|V (ah (hH.sl (i:=2) O) qX oh O O J)<|V (aG uk O O ((hH.sl (i:=2) O).cell _ _ (lK (dv:=false) J)))<|V (bJ O)<|aa<|bW O (fun h3=> ?_) (fun h3=> ?_)
 .refine SR<|aE (v:=Pn _ _) rfl<|V (af O)<|V (fA zC 1 O HL O)<|lV qX hH 0 O O rfl<|mI rfl<|V (ah (hH.sl (i:=2) O) qX oh O O J)<|rD (a:=true) hH (i:=2) O J O O O O rfl<|fun w4 bY=>aa<|au<|aE (v:=Pn _ _) rfl<|aE (v:=Pn _ _) rfl<|V (af O)<|V (fA zC 0 O dH O)<|lV bD bY 0 O O rfl<|mI rfl<|tQ 1 1 bY (cB bD O O (sz:=1) (vs:=[I _]) O O az az O O)<|fun b8 w6 eC=> ?_
  (try simp only[lf]at eC)
  refine asA O eC (i:=2) O hq (eC.dR (i:=0) (n:=1) (sz:=1) O O az) O O bD O O (bytes:=8) O O O O J az<|fun v9 c12 EB aeQ df=>V (af O)<|V (fA zC 0 O dH O)<|bg df (i:=1) O (bL O O (v:=v9) O (iq (df.slQ (i:=2) O aeQ)).2 (iq (df.slQ (i:=2) O aeQ)).1 (df.blk (i:=1) O) aJ)<|fun QH gS=> ?_
  simp only[jg,kW,nW,gN,Nat.reduceAdd]at gS
  refine aa<|rf O ⟨rfl,v9,c12,?_,?_⟩
  .rw[abR aQ];exact aeQ
  rw[abR aQ];exact(gS.sub (sQ sR))
 refine an<|rf O ⟨rfl,ql,cq,?_,?_⟩
 .rw[VQ aQ];exact hq
 rw[VQ aQ];exact(hH)
theorem Ee{W0:World}{b:Nat}{ql qi:Value}{cq:Option (Nat×Array Value)}{wl:List Int}{wi:List Bool}{L:List bu}(x:Int)(hx:0<=x/\x<wi.length)(w:World)(hq:qO cq ql ((x::wl).map I))(hH:Hp W0 w (wE b ql qi cq (x::wl) wi L)):Calls Tryz.prog 87 #[pt b] w (jW fun u w'=>u=I x/\∃(T8:Value) (T9:Option (Nat×Array Value)),qO T9 T8 (wl.map I)/\Hp W0 w' (wE b (T8) qi (T9) wl (wi.set x.toNat false) L)):=by
 simp only[wE]at hH
 refine en func87 rfl rfl<|SR<|va (v:=I 0) rfl<|aa<|SR<|aE (v:=Pn _ _) rfl<|V (af O)<|V (fA zC 0 O dH O)<|lV bD hH 0 O O rfl<|V (ah (hH.slQ (i:=1) O hq) bD aO O O H6)<|V (aG bx O O ((hH.slQ (i:=1) O hq).cell _ _ (eS H6)))<|V (run_assign (show _=I x from O))<|aa<|SR<|aE (v:=Pn _ _) rfl<|aE (v:=Pn _ _) rfl<|V (af O)<|V (fA zC 0 O dH O)<|lV bD hH 0 O O rfl<|V (gC (hH.slQ (i:=1) O hq) bD aO O (q:=1) O iX)<|V (af O)<|V (fA zC 0 O dH O)<| ?_
 obtain⟨c1,CF,tY⟩:=hH.axn (i:=1) (x0:=I x) (xs:=wl.map I) O hq
 have hs6:=tY.slQ (i:=1) O CF
 refine bg tY (i:=0) O (bL O O (v:=o5 ql 1 1) O (iq hs6).2 (iq hs6).1 (tY.blk (i:=0) O) aJ)<|fun w4 bY=> ?_
 simp only[jg,kW,nW,gN,Nat.reduceAdd]at bY
 refine aa<|SR<|aE (v:=Pn _ _) rfl<|V (af O)<|V (fA zC 1 O HL O)<|lV qX bY 0 O O rfl<|mI rfl<|V (ah (bY.sl (i:=2) O) qX oh O O J)<|rD (a:=false) bY (i:=2) O J O O O O rfl<|fun w7 eX=>aa<|SR<|mI rfl<|aI rfl<|aa<|aj<|jy O (v:=I x) O ⟨rfl,(o5 ql 1 1),c1,CF,(eX)⟩
theorem FT{bw bh bn bv:Nat}{was:El}{had:BitVec 64}{v:Int}(hv:0<=v/\v<ak.length/\v<bq.length)(w:World)(hbw:bu.blk bw (.cells (iM was) 37 (0,0))∈L)(hbh:bu.blk bh (.cells #[U had] 35 (0,0))∈L)(hbn:bu.blk bn (.cells #[pt n] 31 (0,0))∈L)(hbv:bu.blk bv (.cells #[I v] 3 (0,0))∈L)(hH:Hp W0 w (nE n wr vL vt vv vy vu vq sn vW vU vT cn sk wy vd vm cW cU W ul ts aq a8 ak bq us qs lg tm L)):Calls Tryz.prog 193 #[.pointer (some ⟨bw,0,none⟩),.pointer (some ⟨bh,0,none⟩),.pointer (some ⟨bn,0,none⟩),.pointer (some ⟨bv,0,none⟩)] w (jW fun u w'=>u= .tuple #[]/\Hp W0 w' (nE n wr vL vt vv vy vu vq sn vW vU vT cn sk wy vd vm cW cU W ul ts aq a8 (ak.set v.toNat was) (bq.set v.toNat had) us qs lg tm L)):=by
 simp only[nE]at hH
 refine en func193 rfl rfl<|fW (z:=⟨none,_,_,_,_,none⟩) aP O aP hH (sP (sP (sP (sP (sP (sP (sQ sR)))))))<|fun w1 bp=>have kS:=bp.sub (sP (sP (sP (sP (sP (sP (sQ sR)))))));AT 0 O kS (fun w hS=>aG di O O (hS.pq (mT (mT (mT (mT (mT (mT (mT (mT (mT (mT (mT hbn))))))))))) (v:=Pn _ _) O))<|AQ 1 O kS (af O)<|AQ 2 O kS (fA cr 3 O jm O)<|tV 3 O kS bV 0 O O rfl<|AT 4 O kS (fun w hS=>aG bx O O (hS.pq (mT (mT (mT (mT (mT (mT (mT (mT (mT (mT (mT hbv))))))))))) (v:=I _) O))<|AT 5 O kS (fun w hS=>aG di O O (hS.pq (mT (mT (mT (mT (mT (mT (mT (mT (mT (mT (mT hbn))))))))))) (v:=Pn _ _) O))<|AQ 6 O kS (af O)<|AQ 7 O kS (fA cr 4 O jB O)<|tV 8 O kS dh 0 O O rfl<|AT 9 O kS (fun w hS=>aG bx O O (hS.pq (mT (mT (mT (mT (mT (mT (mT (mT (mT (mT (mT hbv))))))))))) (v:=I _) O))<|AT 10 O kS (fun w hS=>cM bI O O O (hS.ah2 (mT (mT (mT (mT (mT (mT (mT (mT (mT (mT (mT hbw)))))))))))))<|AT 11 O kS (fun w hS=>aG dM O O (hS.pq (mT (mT (mT (mT (mT (mT (mT (mT (mT (mT (mT hbh))))))))))) (v:=U _) O))<|A1 12<|cf O aD O bp (sP (sP (sP (sP (sP (sP (sQ sR))))))) (ah (bp.sl (i:=6) O) bV fh O O J)<|A1 13<|Zw O aD cY az bp (i:=6) O (fun _=>(sP (sP (sP (sP (sP (sP (sQ sR)))))))) J O ((rfl:_=Value.agg (iM _)).trans (by rw[ig])) (fun u hu=>uS _ u qZ) rfl<|fun w7 eX=>AT 14 O (eX.sub (sP (sP (sP (sP (sP (sP (sQ sR)))))))) (fun w hS=>ah (hS.sl (i:=6) O) dh cP O O J)<|AD<|rD eX (i:=7) O J O O O O rfl<|fun w9 cg=>aa<|rf O ⟨rfl,(cg)⟩
theorem Jk{b:Nat}{ql qi:Value}{cq:Option (Nat×Array Value)}{wl:List Int}{wi:List Bool}(v:Int)(e:El)(y:BitVec 64)(hv:0<=v/\v<ak.length)(T3:bq.length=ak.length)(OQ:us.length=ak.length)(hlg:lg.length<=600000000000)(hwl:wl.length<=10000000)(hun:(us.getD v.toNat de).l.length<=1000)(hui:∀i∈(us.getD v.toNat de).l,0<=i/\i<wi.length)(hum:dQ 3 (us.getD v.toNat de)∈L)(w:World)(hq:qO cq ql (wl.map I))(hH:Hp W0 w (nE n wr vL vt vv vy vu vq sn vW vU vT cn sk wy vd vm cW cU W ul ts aq a8 ak bq us qs lg tm ((wE b ql qi cq wl wi L)))):Calls Tryz.prog 162 #[pt n,pt b,I v,.agg (iM e),U y] w (jW fun u w'=>u= .tuple #[]/\∃(f vd':Value) (T8:Value) (T9:Option (Nat×Array Value)) (Lb:List bu),nh NX n Lb (f,.raise v (ak.getD v.toNat dg) (bq.getD v.toNat 0))/\qO T9 T8 ((mh ak us (wl,wi) v e).1.map I)/\Hp W0 w' (nE n wr vL vt vv vy vu vq sn vW vU vT cn sk wy (vd') vm cW cU W ul ts aq a8 (ak.set v.toNat e) (bq.set v.toNat y) us qs (lg++[(f,.raise v (ak.getD v.toNat dg) (bq.getD v.toNat 0))]) tm ((wE b (T8) qi (T9) ((mh ak us (wl,wi) v e).1) ((mh ak us (wl,wi) v e).2) ((Lb++L)))))):=by
 simp only[wE]at hH
 simp only[nE]at hH
 refine en func162 rfl rfl<|SR<|gM hH (v:=Pn _ _) rfl<|fun b3 w1 bp=>gM bp (v:=I _) rfl<|fun b6 w4 bY=>gM bY (v:= .agg _) rfl<|fun b9 w7 eX=>aa<|ai<|fW (z:=⟨none,_,_,_,_,none⟩) aP O aP eX sR<|fun EB df=>have iO:=df;tP 0 O iO di 2 O O rfl<|AQ 1 O iO (af O)<|AQ 2 O iO (fA cr 3 O jm O)<|tV 3 O iO bV 3 O O rfl<|tI 4 O iO bx 1 O O rfl<|AT 5 O iO (fun w hS=>ah (hS.sl (i:=9) O) bV fh O O J)<|AT 6 O iO (fun w hS=>gy (hS.sl (i:=9) O) bI O O O J)<|tP 7 O iO di 2 O O rfl<|AQ 8 O iO (af O)<|AQ 9 O iO (fA cr 4 O jB O)<|tV 10 O iO dh 3 O O rfl<|tI 11 O iO bx 1 O O rfl<|AT 12 O iO (fun w hS=>ah (hS.sl (i:=10) O) dh cP O O J)<|AT 13 O iO (fun w hS=>aG dM O O ((hS.sl (i:=10) O).cell _ _ (lK (dv:=0#64) J)))<|gp 14 15 aP ?_ ?_
 .refine cH O aD O df sR (f:=fun b=> .pointer (some ⟨b,0,none⟩)) (aS e8)<|fun b14 y8 bX=>A1 15<|cH O aD O bX (sQ sR) (f:=fun b=> .pointer (some ⟨b,0,none⟩)) (aS Tryz.zeroValue35)<|fun b17 Tf cI=>A1 16<|ed O aD cI (j:=1) O (sQ (sQ sR)) (cR O O O (cI.blk (i:=1) O))<|fun QJ eM=>AD<|bg eM (i:=0) O (bL O O (v:=U _) O O O (eM.blk (i:=0) O) az)<|fun Wv dK=>aa<|ai<|fW (z:=⟨none,_,_,_,_,none⟩) aP O aP dK (sP (sP (sP (sP (sP (sP (sP (sP (sP (sP (sP (sQ sR))))))))))))<|fun w28 gj=>have D8:=gj.sub (sP (sP (sP (sP (sP (sP (sP (sP (sP (sP (sP (sQ sR))))))))))));tP 0 O D8 di 4 O O rfl<|AQ 1 O D8 (af O)<|AQ 2 O D8 (fA cr 3 O jm O)<|tV 3 O D8 bV 5 O O rfl<|tI 4 O D8 bx 3 O O rfl<|tP 5 O D8 di 4 O O rfl<|AQ 6 O D8 (af O)<|AQ 7 O D8 (fA cr 4 O jB O)<|tV 8 O D8 dh 5 O O rfl<|tI 9 O D8 bx 3 O O rfl<|AT 10 O D8 (fun w hS=>cM bI O O O (hS.blk (i:=2) O))<|AQ 11 O D8 (mV (U _) O)<|A1 12<|cf O aD O gj (sP (sP (sP (sP (sP (sP (sP (sP (sP (sP (sP (sQ sR)))))))))))) (ah (gj.sl (i:=11) O) bV fh O O J)<|A1 13<|Zw O aD cY az gj (i:=11) O (fun _=>(sP (sP (sP (sP (sP (sP (sP (sP (sP (sP (sP (sQ sR))))))))))))) J O ((rfl:_=Value.agg (iM _)).trans (by rw[ig])) (fun u hu=>uS _ u qZ) rfl<|fun w34 uX=>AT 14 O (uX.sub (sP (sP (sP (sP (sP (sP (sP (sP (sP (sP (sP (sQ sR))))))))))))) (fun w hS=>ah (hS.sl (i:=11) O) dh cP O O J)<|AD<|rD uX (i:=12) O J O O O O rfl<|fun w36 uy=>aa<|SR<|lP di uy 4 O O rfl<| ?_
  refine V (VE bA bA bA bA) ?_
  refine cw O (iL _ _ (.raise v (ak.getD v.toNat dg) (bq.getD v.toNat 0)) J _ (uy.pj [5,5,5,5,5,5,5,5,5,5,5,5])) (aL zI O O) ?_
  rintro _ w40 ⟨rfl,v42,jS⟩
  simp only[nE]at jS
  have mj:=jS.pk [12,12,12,12,12]
  refine aa<|ai<|SR<|V (cM bI O O O (mj.blk (i:=1) O))<|V (cM bI O O O (mj.blk (i:=2) O))<|V (IB CX O O)<|aa<|aF O (fun h45=> ?_) (fun h45=> ?_)
  .refine aj<|rf O ⟨rfl,(jL 193 #[pt b14,pt b17,pt b3,pt b6]),v42,ql,cq,[bu.blk b14 (.cells (iM (ak.getD v.toNat dg)) 37 (0,0)),bu.blk b17 (.cells #[U (bq.getD v.toNat 0)] 35 (0,0)),bu.blk b3 (.cells #[pt n] 31 (0,0)),bu.blk b6 (.cells #[I v] 3 (0,0))],⟨b14,b17,b3,b6,rfl,aJ,aJ,aJ,aJ⟩,?_,?_⟩
   .rw[mh,aX ‹rS _ e›];exact hq
   rw[mh,aX ‹rS _ e›];exact((mj.sub (sP (sP (sQ sR)))).pj [4,4,4,4,4,4,4,4,4,4,4,4,4,4,4,1,0,1])
  refine an<|ai<|ec aP mj<|fun w46 oS=>have TE:=oS;tP 0 O TE di 4 O O rfl<|AQ 1 O TE (af O)<|AQ 2 O TE (fA cr 5 O zG O)<|tV 3 O TE pD 5 O O rfl<|tI 4 O TE bx 3 O O rfl<|AT 5 O TE (fun w hS=>ah (hS.sl (i:=13) O) pD dH O O J)<|AT 6 O TE (fun w hS=>aG bD O O ((hS.sl (i:=13) O).cell _ _ (lK (dv:=de) J)))<|AT 7 O TE (fun w hS=>aC (hS.Qn (mT (mT (mT (mT (mT (mT (mT (mT (mT (mT (mT (mT (mT (mT (mT (mT (mT (mT (mT (mT hum))))))))))))))))))))) O bD O)<|AQ 8 O TE (mV (I 0) O)<|AD<|aA<|bt (G:=Int×Value×(Option (Nat×Array Value))×(List Int)×(List Bool)) (fun⟨k,yA,BZ,qn,mX⟩ s' w'=>(Fr (13::(rg 56 8 [])) _ s')/\(Hp W0 w' (_::_::_::_::_::_::_::_::_::_::_::_::_::_::_::_::_:: .blk b (.cells #[yA,qi] 156 (0,0))::qE BZ yA 3 (qn.map I)::jU B qi 4 mX::_))/\(s' 56=I k)/\(0<=k)/\(k<=(us.getD v.toNat de).l.length)/\(qO BZ yA (qn.map I))/\((qn,mX)=rV (wl,wi) ((us.getD v.toNat de).l.take k.toNat))) (fun⟨k,yA,BZ,qn,mX⟩=>((us.getD v.toNat de).l.length-k).toNat) ((0,ql,cq,wl,wi)) ⟨Fr.refl _ _,oS,rfl,J,J,hq,rfl⟩<| ?_
  rintro⟨k,yA,BZ,qn,mX⟩ aPp w48 ⟨azI,kC,aaG,h0,hk,OS,hp⟩
  obtain⟨azJ,auo,aup⟩:=azI.w3 1 54 55
  have aGh:qn.length<=wl.length+1000:=by have:=aK (fun p=>p.1.length) hp;have h2:=GN (l:=(us.getD v.toNat de).l.take k.toNat) (p:=(wl,wi));simp only at this;rw[er]at h2;simp only at h2;omega
  have aGi:mX.length=wi.length:=by have:=aK (fun p=>p.2.length) hp;have h2:=yR (l:=(us.getD v.toNat de).l.take k.toNat) (p:=(wl,wi));simp only at this h2;omega
  refine SR<|V (aN aaG aup)<|aa<|ai<|aF O (fun h50=> ?_) (fun h50=> ?_)
  .refine an<|ai<|aA<|SR<|V (ah (kC.Qn (mT (mT (mT (mT (mT (mT (mT (mT (mT (mT (mT (mT (mT (mT (mT (mT (mT (mT (mT (mT hum))))))))))))))))))))) bD aO auo aaG J)<|V (aG bx O O ((kC.Qn (mT (mT (mT (mT (mT (mT (mT (mT (mT (mT (mT (mT (mT (mT (mT (mT (mT (mT (mT (mT hum))))))))))))))))))))).cell _ _ (eS J)))<|aI rfl<|aa<|au<|aE azJ<|mI rfl<|cw O (qo _ afG J _ OS (kC.pj [17,17,17])) (aL call85 O O)<| ?_
   rintro _ w53 ⟨rfl,v55,c56,aGj,gQ⟩
   simp only[wE]at gQ
   have oF:=gQ.pk [3,3,3,3,3,3,3,3,3,3,3,3,3,3,3,3,3]
   refine aa<|au<|V (ax aaG O J)<|mI rfl<|aa<| ?_
   refine⟨(k+1,v55,c56,(py (qn,mX) ((us.getD v.toNat de).l.getD k.toNat 0)).1,(py (qn,mX) ((us.getD v.toNat de).l.getD k.toNat 0)).2),aW,azI.u4.u4.u1,(Hp.conv oF aM),(aK I aM),J,J,?_,?_⟩
   .exact aGj
   (rw[Qt h0 ‹k<_›,<-hp])
  refine a7 (id:=0) rfl<|rf O ⟨rfl,(jL 193 #[pt b14,pt b17,pt b3,pt b6]),v42,yA,BZ,[bu.blk b14 (.cells (iM (ak.getD v.toNat dg)) 37 (0,0)),bu.blk b17 (.cells #[U (bq.getD v.toNat 0)] 35 (0,0)),bu.blk b3 (.cells #[pt n] 31 (0,0)),bu.blk b6 (.cells #[I v] 3 (0,0))],⟨b14,b17,b3,b6,rfl,aJ,aJ,aJ,aJ⟩,?_,?_⟩
  .rw[mh,aT ‹¬rS _ e›];rw[ji J]at hp;rw[<-hp];exact OS
  rw[mh,aT ‹¬rS _ e›];rw[ji J]at hp;rw[<-hp];exact((kC.sub (sP (sP (sQ sR)))).pj [4,4,4,4,4,4,4,4,4,4,4,4,4,4,4,1,0,1])
 refine cH O aD O df sR (f:=fun b=> .pointer (some ⟨b,0,none⟩)) (aS Tryz.zeroValue35)<|fun b61 w59 wz=>A1 14<|cH O aD O wz (sQ sR) (f:=fun b=> .pointer (some ⟨b,0,none⟩)) (aS e8)<|fun b64 w62 oV=>A1 16<|ed O aD oV (j:=0) O (sQ (sQ sR)) (cR O O O (oV.blk (i:=0) O))<|fun w69 wA=>AD<|bg wA (i:=1) O (bL O O (v:=U _) O O O (wA.blk (i:=1) O) az)<|fun w73 wS=>aa<|ai<|fW (z:=⟨none,_,_,_,_,none⟩) aP O aP wS (sP (sP (sP (sP (sP (sP (sP (sP (sP (sP (sP (sQ sR))))))))))))<|fun w75 oG=>have qQ:=oG.sub (sP (sP (sP (sP (sP (sP (sP (sP (sP (sP (sP (sQ sR))))))))))));tP 0 O qQ di 4 O O rfl<|AQ 1 O qQ (af O)<|AQ 2 O qQ (fA cr 3 O jm O)<|tV 3 O qQ bV 5 O O rfl<|tI 4 O qQ bx 3 O O rfl<|tP 5 O qQ di 4 O O rfl<|AQ 6 O qQ (af O)<|AQ 7 O qQ (fA cr 4 O jB O)<|tV 8 O qQ dh 5 O O rfl<|tI 9 O qQ bx 3 O O rfl<|AT 10 O qQ (fun w hS=>cM bI O O O (hS.blk (i:=2) O))<|AQ 11 O qQ (mV (U _) O)<|A1 12<|cf O aD O oG (sP (sP (sP (sP (sP (sP (sP (sP (sP (sP (sP (sQ sR)))))))))))) (ah (oG.sl (i:=11) O) bV fh O O J)<|A1 13<|Zw O aD cY az oG (i:=11) O (fun _=>(sP (sP (sP (sP (sP (sP (sP (sP (sP (sP (sP (sQ sR))))))))))))) J O ((rfl:_=Value.agg (iM _)).trans (by rw[ig])) (fun u hu=>uS _ u qZ) rfl<|fun w81 oT=>AT 14 O (oT.sub (sP (sP (sP (sP (sP (sP (sP (sP (sP (sP (sP (sQ sR))))))))))))) (fun w hS=>ah (hS.sl (i:=11) O) dh cP O O J)<|AD<|rD oT (i:=12) O J O O O O rfl<|fun w83 lj=>aa<|SR<|lP di lj 4 O O rfl<| ?_
 refine V (VE bA bA bA bA) ?_
 refine cw O (iL _ _ (.raise v (ak.getD v.toNat dg) (bq.getD v.toNat 0)) J _ (lj.pj [5,5,5,5,5,5,5,5,5,5,5,5])) (aL zI O O) ?_
 rintro _ w87 ⟨rfl,v89,ze⟩
 simp only[nE]at ze
 have oH:=ze.pk [12,12,12,12,12]
 refine aa<|ai<|SR<|V (cM bI O O O (oH.blk (i:=0) O))<|V (cM bI O O O (oH.blk (i:=2) O))<|V (IB CX O O)<|aa<|aF O (fun h92=> ?_) (fun h92=> ?_)
 .refine aj<|rf O ⟨rfl,(jL 193 #[pt b64,pt b61,pt b3,pt b6]),v89,ql,cq,[bu.blk b64 (.cells (iM (ak.getD v.toNat dg)) 37 (0,0)),bu.blk b61 (.cells #[U (bq.getD v.toNat 0)] 35 (0,0)),bu.blk b3 (.cells #[pt n] 31 (0,0)),bu.blk b6 (.cells #[I v] 3 (0,0))],⟨b64,b61,b3,b6,rfl,aJ,aJ,aJ,aJ⟩,?_,?_⟩
  .rw[mh,aX ‹rS _ e›];exact hq
  rw[mh,aX ‹rS _ e›];exact((oH.sub (sP (sP (sQ sR)))).pj [4,4,4,4,4,4,4,4,4,4,4,4,4,4,4,0,0,1])
 refine an<|ai<|ec aP oH<|fun w93 uB=>have TF:=uB;tP 0 O TF di 4 O O rfl<|AQ 1 O TF (af O)<|AQ 2 O TF (fA cr 5 O zG O)<|tV 3 O TF pD 5 O O rfl<|tI 4 O TF bx 3 O O rfl<|AT 5 O TF (fun w hS=>ah (hS.sl (i:=13) O) pD dH O O J)<|AT 6 O TF (fun w hS=>aG bD O O ((hS.sl (i:=13) O).cell _ _ (lK (dv:=de) J)))<|AT 7 O TF (fun w hS=>aC (hS.Qn (mT (mT (mT (mT (mT (mT (mT (mT (mT (mT (mT (mT (mT (mT (mT (mT (mT (mT (mT (mT hum))))))))))))))))))))) O bD O)<|AQ 8 O TF (mV (I 0) O)<|AD<|aA<|bt (G:=Int×Value×(Option (Nat×Array Value))×(List Int)×(List Bool)) (fun⟨k,yA,BZ,qn,mX⟩ s' w'=>(Fr (13::(rg 56 8 [])) _ s')/\(Hp W0 w' (_::_::_::_::_::_::_::_::_::_::_::_::_::_::_::_::_:: .blk b (.cells #[yA,qi] 156 (0,0))::qE BZ yA 3 (qn.map I)::jU B qi 4 mX::_))/\(s' 56=I k)/\(0<=k)/\(k<=(us.getD v.toNat de).l.length)/\(qO BZ yA (qn.map I))/\((qn,mX)=rV (wl,wi) ((us.getD v.toNat de).l.take k.toNat))) (fun⟨k,yA,BZ,qn,mX⟩=>((us.getD v.toNat de).l.length-k).toNat) ((0,ql,cq,wl,wi)) ⟨Fr.refl _ _,uB,rfl,J,J,hq,rfl⟩<| ?_
 rintro⟨k,yA,BZ,qn,mX⟩ aPs w95 ⟨azK,Kk,aaH,h0,hk,OS,hp⟩
 obtain⟨azL,auq,aur⟩:=azK.w3 1 54 55
 have aGh:qn.length<=wl.length+1000:=by have:=aK (fun p=>p.1.length) hp;have h2:=GN (l:=(us.getD v.toNat de).l.take k.toNat) (p:=(wl,wi));simp only at this;rw[er]at h2;simp only at h2;omega
 have aGi:mX.length=wi.length:=by have:=aK (fun p=>p.2.length) hp;have h2:=yR (l:=(us.getD v.toNat de).l.take k.toNat) (p:=(wl,wi));simp only at this h2;omega
 refine SR<|V (aN aaH aur)<|aa<|ai<|aF O (fun h97=> ?_) (fun h97=> ?_)
 .refine an<|ai<|aA<|SR<|V (ah (Kk.Qn (mT (mT (mT (mT (mT (mT (mT (mT (mT (mT (mT (mT (mT (mT (mT (mT (mT (mT (mT (mT hum))))))))))))))))))))) bD aO auq aaH J)<|V (aG bx O O ((Kk.Qn (mT (mT (mT (mT (mT (mT (mT (mT (mT (mT (mT (mT (mT (mT (mT (mT (mT (mT (mT (mT hum))))))))))))))))))))).cell _ _ (eS J)))<|aI rfl<|aa<|au<|aE azL<|mI rfl<|cw O (qo _ afG J _ OS (Kk.pj [17,17,17])) (aL call85 O O)<| ?_
  rintro _ auc ⟨rfl,aGk,aGl,azM,EO⟩
  simp only[wE]at EO
  have EP:=EO.pk [3,3,3,3,3,3,3,3,3,3,3,3,3,3,3,3,3]
  refine aa<|au<|V (ax aaH O J)<|mI rfl<|aa<| ?_
  refine⟨(k+1,aGk,aGl,(py (qn,mX) ((us.getD v.toNat de).l.getD k.toNat 0)).1,(py (qn,mX) ((us.getD v.toNat de).l.getD k.toNat 0)).2),aW,azK.u4.u4.u1,(Hp.conv EP aM),(aK I aM),J,J,?_,?_⟩
  .exact azM
  (rw[Qt h0 ‹k<_›,<-hp])
 refine a7 (id:=0) rfl<|rf O ⟨rfl,(jL 193 #[pt b64,pt b61,pt b3,pt b6]),v89,yA,BZ,[bu.blk b64 (.cells (iM (ak.getD v.toNat dg)) 37 (0,0)),bu.blk b61 (.cells #[U (bq.getD v.toNat 0)] 35 (0,0)),bu.blk b3 (.cells #[pt n] 31 (0,0)),bu.blk b6 (.cells #[I v] 3 (0,0))],⟨b64,b61,b3,b6,rfl,aJ,aJ,aJ,aJ⟩,?_,?_⟩
 .rw[mh,aT ‹¬rS _ e›];rw[ji J]at hp;rw[<-hp];exact OS
 rw[mh,aT ‹¬rS _ e›];rw[ji J]at hp;rw[<-hp];exact((Kk.sub (sP (sP (sQ sR)))).pj [4,4,4,4,4,4,4,4,4,4,4,4,4,4,4,0,0,1])
theorem Bt{b:Nat}{ql qi:Value}{cq:Option (Nat×Array Value)}{wl:List Int}{wi:List Bool}(v:Int)(e:El)(y:BitVec 64)(hm:m<=100000)(T3:bq.length=ak.length)(OQ:us.length=ak.length)(ov:(bB cs).length=ak.length)(Qw:ak.length<=1000)(hlg:lg.length<=550000000000)(hwl:wl.length<=1000000)(yf:∀k:Nat,k<us.length->dQ 3 (us.getD k de)∈L/\(us.getD k de).l.length<=1000/\∀i∈(us.getD k de).l,0<=i/\i<wi.length)(w:World)(h:xn FX n m cs vW vU cW cU W ul ts cn L)(hq:qO cq ql (wl.map I))(hH:Hp W0 w (nE n wr vL vt vv vy vu vq sn vW vU vT cn sk wy vd vm cW cU W ul ts aq a8 ak bq us qs lg tm ((wE b ql qi cq wl wi L)))):Calls Tryz.prog 130 #[pt n,pt b,I v,.agg (iM e),U y] w (jW fun u w'=>u= .tuple #[]/\∃(vd':Value) (T8:Value) (T9:Option (Nat×Array Value)) (new:List (Value×my)) (Lb:List bu),(∀x∈new,nh NX n Lb x/\IW x.2)/\new.length<=(bP (bB cs) v).length/\iN new (NP.mk aq a8 ak bq ((qf us)) qs sn cs sk wy wr) (NP.mk aq a8 ((ye ak us (wl,wi) (bP (bB cs) v) e).1) (gE bq (bP (bB cs) v) y) ((qf us)) qs sn cs sk wy wr)/\qO T9 T8 ((ye ak us (wl,wi) (bP (bB cs) v) e).2.1.map I)/\Hp W0 w' (nE n wr vL vt vv vy vu vq sn vW vU vT cn sk wy (vd') vm cW cU W ul ts aq a8 ((ye ak us (wl,wi) (bP (bB cs) v) e).1) (gE bq (bP (bB cs) v) y) us qs (lg++new) tm ((wE b (T8) qi (T9) ((ye ak us (wl,wi) (bP (bB cs) v) e).2.1) ((ye ak us (wl,wi) (bP (bB cs) v) e).2.2) ((Lb++L)))))):=by
 simp only[wE]at hH
 simp only[nE]at hH
 refine en func130 rfl rfl<|SR<|gM hH (v:= .agg _) rfl<|fun b3 w1 bp=>aa<|SR<|aE (v:=Pn _ _) rfl<|V (af O)<|V (fA cr 8 O pc O)<|mI rfl<|Cq O bp (acC _ h J (bp.blk (i:=1) O) (bp.yQ (i:=2) O h.hW)) (aL call129 O O)<|fun v6 w4 bY=>V (aC (bY.sl (i:=0) O) O bD O)<|aE (v:=I 0) rfl<|aa<|aA<|have aPu:=wk (cl:=bB cs) (i:=v);bt (G:=Int×Value×Value×(Option (Nat×Array Value))×(List El)×(List (BitVec 64))×(List Int)×(List Bool)×(List (Value×my))×(List bu)×(List bu)) (fun⟨k,W5,yA,BZ,dc,eK,qn,mX,new,Lb,Z1⟩ s' w'=>(Fr (11::(rg 18 11 [])) _ s')/\(Hp W0 w' (.row v6 3 1 (bP (bB cs) v).length ((bP (bB cs) v).map I):: .blk b3 (.cells (Value.agg (iM e)).cells 37 (0,0)):: .blk n (.cells #[wr,vL,vt,vv,vy,vu,vq,I sn,vW,vU,vT,I cn,B sk,U wy,W5,vm] 111 (0,0))::cE cW vW 35 (W.map U)::cE cU vU 1 (ul.map Prod.fst)::jU I vT 3 ts::we Xk 13 vL 119 aq::jU I vt 3 a8::we pH 8 vv 37 dc::jU U vy 35 eK::jU jY.v vu 99 us::we qh 13 vq 128 qs::jU Prod.fst W5 1 (lg++new)::jU I vm 3 tm:: .blk b (.cells #[yA,qi] 156 (0,0))::qE BZ yA 3 (qn.map I)::jU B qi 4 mX::Z1))/\(s' 18=I k)/\(0<=k)/\(k<=(bP (bB cs) v).length)/\(qO BZ yA (qn.map I))/\((dc,(qn,mX))=(ye ak us (wl,wi) ((bP (bB cs) v).take k.toNat) e))/\(eK=gE bq ((bP (bB cs) v).take k.toNat) y)/\(Z1=Lb++L)/\(∀x∈new,nh NX n Lb x/\IW x.2)/\(new.length<=k.toNat)/\(iN new (NP.mk aq a8 ak bq ((qf us)) qs sn cs sk wy wr) (NP.mk aq a8 dc eK ((qf us)) qs sn cs sk wy wr))) (fun⟨k,W5,yA,BZ,dc,eK,qn,mX,new,Lb,Z1⟩=>((bP (bB cs) v).length-k).toNat) ((0,vd,ql,cq,ak,bq,wl,wi,[],[],L)) ⟨Fr.refl _ _,(by rw[mY];exact bY),rfl,J,J,hq,rfl,rfl,rfl,(fun x hx=>by cases hx),nM _,iN.nil _⟩<| ?_
 rintro⟨k,W5,yA,BZ,dc,eK,qn,mX,new,Lb,Z1⟩ sg7 w7 ⟨D7,eC,akJ,h0,hk,OS,hp,hy2,hz,Xp,hnl,hbk⟩
 obtain⟨FQ,aeH,I8,atY,azN,azO⟩:=D7.w6 0 1 4 8 16 17
 subst hz
 have e1:dc=gE ak ((bP (bB cs) v).take k.toNat) e:=by have:=aK Prod.fst hp;rw[yS]at this;exact this
 have lv1:dc.length=ak.length:=by rw[e1,jd]
 have lw1:eK.length=ak.length:=by rw[hy2,jd];exact T3
 have li1:mX.length=wi.length:=by have:=aK (fun p=>p.2.2.length) hp;rw[KY]at this;exact this
 have ll1:qn.length<=wl.length+1000*k.toNat:=by have:=aK (fun p=>p.2.1.length) hp;have h2:=aiL (e:=e) (p:=(wl,wi)) (ak:=ak) (fun k hk=>(yf k hk).2.1) (ks:=(bP (bB cs) v).take k.toNat) (fun q hq=>by have:=mM (u9 hq);omega);rw[er]at h2;simp only at this h2;omega
 refine SR<|V (aN akJ azO)<|aa<|ai<|aF O (fun h9=> ?_) (fun h9=> ?_)
 .refine an<|ai<|aA<|SR<|have hkm:=mM (dw (d:=0) h0 ‹k<_›);V (ah (eC.sl (i:=0) O) bD aO azN akJ J)<|V (aG bx O O ((eC.sl (i:=0) O).cell _ _ (eS J)))<|aI rfl<|aa<|au<|aE FQ<|aE aeH<|mI rfl<|V (cM bI O O atY (eC.blk (i:=1) O))<|aE I8<|cw O (Jk _ _ _ J J J E9 J (yf _ J).2.1 (fun i hi=>by have:=(yf _ J).2.2 i hi;omega) (by(repeat apply fX);exact bH _ (yf _ J).1) _ OS (eC.pj [2,2,2,2,2,2,2,2,2,2,2,2,2,2,2])) (sD call162 O O O O O)<| ?_
  rintro _ Tj ⟨rfl,f12,aGm,q14,c15,azP,aGn,aGo,OT⟩
  simp only[nE,wE]at OT
  have fI:=Hp.mL (A:=[_,_,_,_,_,_,_,_,_,_,_,_,_,_,_]) (R:=[_,_]) OT
  simp only[gA,eN]at fI
  have cD:=fI.pk [15,15]
  refine aa<|au<|V (ax akJ O J)<|mI rfl<|aa<| ?_
  refine⟨(k+1,aGm,q14,c15,dc.set ((bP (bB cs) v).getD k.toNat 0).toNat e,eK.set ((bP (bB cs) v).getD k.toNat 0).toNat y,(mh dc us (qn,mX) ((bP (bB cs) v).getD k.toNat 0) e).1,(mh dc us (qn,mX) ((bP (bB cs) v).getD k.toNat 0) e).2,new++[(f12,.raise ((bP (bB cs) v).getD k.toNat 0) (dc.getD ((bP (bB cs) v).getD k.toNat 0).toNat dg) (eK.getD ((bP (bB cs) v).getD k.toNat 0).toNat 0))],azP++Lb,(azP++(Lb++L))),aW,D7.u4.u4.u4,(Hp.conv cD (by simp only[dG];rfl)),(aK I aM),J,J,?_,?_,?_,?_,?_,?_,?_⟩
  .exact aGo
  ·(rw[aiK h0 ‹k<_›,<-hp];rfl)
  ·(rw[CK h0 ‹k<_›,<-hy2])
  ·(rw[dG])
  ·(intro x hx;rcases fg.1 hx with q|q;exact⟨(Xp x q).1.mono (fun e he=>bH _ he),(Xp x q).2⟩;rw[gG.1 q];exact⟨aGn.mono fun e he=>dL _ he,trivial⟩)
  ·(rw[dZ,ez];omega)
  exact hbk.trans (ZB (s:=(NP.mk aq a8 dc eK ((qf us)) qs sn cs sk wy wr)) (by show _/\_<(dc.length:Int);omega) (by show _<(eK.length:Int);omega))
 refine a7 (id:=0) O ?_
 rw[ji J]at hp hy2
 have e2:=aK Prod.fst hp
 have e3:=aK Prod.snd hp
 have e4:=aK Prod.fst e3
 have e5:=aK Prod.snd e3
 simp only at e2 e4 e5
 have eM:=(eC.sub (sQ (sQ sR)))
 rw[e2,hy2,e4,e5]at eM
 rw[e4]at OS
 rw[e2,hy2]at hbk
 exact rf O ⟨rfl,W5,yA,BZ,new,Lb,Xp,J,hbk,OS,eM⟩
theorem FU{bn bm:Nat}{i:Int}{R:List bu}(hm:m<=100000)(w:World)(hbn:bu.blk bn (.cells #[pt n] 31 (0,0))∈(R++L))(hbm:bu.blk bm (.cells #[I i] 3 (0,0))∈(R++L))(h:xn FX n m cs vW vU cW cU W ul ts cn L)(hH:Hp W0 w (nE n wr vL vt vv vy vu vq sn vW vU vT cn sk wy vd vm cW cU W ul ts aq a8 ak bq us qs lg tm ((R++L)))):Calls Tryz.prog 157 #[.pointer (some ⟨bn,0,none⟩),.pointer (some ⟨bm,0,none⟩)] w (jW fun u w'=>u= .tuple #[]/\∃(Ox Oy Xo:Value) (QY QZ:Option (Nat×Array Value)) (W':List (BitVec 64)) (zk:List (Value×jQ)) (ts':List Int) (Q0:Int) (Lb:List bu),xn FX n (m) ((CI cs i).1) Ox Oy QY QZ W' zk ts' Q0 (Lb++L)/\Hp W0 w' (nE n wr vL vt vv vy vu vq sn (Ox) (Oy) (Xo) (Q0) sk wy vd vm (QY) (QZ) (W') (zk) (ts') aq a8 ak bq us qs lg tm ((R++(Lb++L))))):=by
 simp only[nE]at hH
 refine en func157 rfl rfl<|fW (z:=⟨some _,_,_,_,_,none⟩) aP O aP hH sR<|fun w1 bp=>have kS:=bp;AT 0 O kS (fun w hS=>aG di O O (hS.pq (mT (mT (mT (mT (mT (mT (mT (mT (mT (mT (mT (mT hbn)))))))))))) (v:=Pn _ _) O))<|AQ 1 O kS (af O)<|AQ 2 O kS (fA cr 8 O pc O)<|AT 3 O kS (fun w hS=>aG bx O O (hS.pq (mT (mT (mT (mT (mT (mT (mT (mT (mT (mT (mT (mT hbm)))))))))))) (v:=I _) O))<|AD<|cw O (auh _ h J (R:=([_,_,_,_,_,_,_,_]++R)) bp) (aL call49 O O)<| ?_
 rintro _ I4 ⟨rfl,vW5,vU6,vT7,cW8,cU9,W10,aGp,aGq,aGr,aGs,azQ,ep⟩
 have iD:=Hp.mL (A:=[_,_,_,_]) (R:=([_,_,_,_,_,_,_,_]++R)) ep
 simp only[gA,eN]at iD
 refine aa<|rf O ⟨rfl,vW5,vU6,vT7,cW8,cU9,W10,aGp,aGq,aGr,aGs,azQ,(iD)⟩
theorem Jl{R:List bu}(v k:Int)(hm:m<=100000)(hlg:lg.length<=550000000000)(w:World)(h:xn FX n m cs vW vU cW cU W ul ts cn L)(hH:Hp W0 w (nE n wr vL vt vv vy vu vq sn vW vU vT cn sk wy vd vm cW cU W ul ts aq a8 ak bq us qs lg tm ((R++L)))):Calls Tryz.prog 126 #[pt n,I v,I k] w (jW fun u w'=>u= .tuple #[]/\∃(Ox Oy Xo:Value) (QY QZ:Option (Nat×Array Value)) (W':List (BitVec 64)) (zk:List (Value×jQ)) (ts':List Int) (Q0:Int) (vd':Value) (new:List (Value×my)) (Lb:List bu),xn FX n (m+(if(jv cs v k).2 then 1 else 0)) ((jv cs v k).1) Ox Oy QY QZ W' zk ts' Q0 (Lb++L)/\(∀x∈new,nh NX n Lb x/\IW x.2)/\new.length<=1/\iN new (NP.mk aq a8 ak bq ((qf us)) qs sn cs sk wy wr) (NP.mk aq a8 ak bq ((qf us)) qs sn ((jv cs v k).1) sk wy wr)/\Hp W0 w' (nE n wr vL vt vv vy vu vq sn (Ox) (Oy) (Xo) (Q0) sk wy (vd') vm (QY) (QZ) (W') (zk) (ts') aq a8 ak bq us qs (lg++new) tm ((R++(Lb++L))))):=by
 simp only[nE]at hH
 refine en func126 rfl rfl<|SR<|gM hH (v:=Pn _ _) rfl<|fun b3 w1 bp=>aa<|SR<|lP di bp 0 O O rfl<|V (af O)<|V (fA cr 8 O pc O)<|aH O bp (akz h J (bp.blk (i:=1) O) (bp.yQ (i:=2) O h.hW) (bp.sl (i:=4) O)) (ay call46 O)<|fun w4 bY=>lJ bY (aS Tryz.zeroValue3)<|fun b8 w6 eC=>bg eC (i:=0) O (bL O O (v:=I _) O O O (eC.blk (i:=0) O) az)<|fun I2 cN=>aa<|SR<|lP di cN 1 O O rfl<|V (af O)<|V (fA cr 8 O pc O)<|mI rfl<|mI rfl<|cw O (aon _ _ h J (R:=([_,_,_,_,_,_,_,_,_,_]++R)) (cN.pj [2,2,2,2])) (bz call156 O O O)<| ?_
 rintro _ Wv ⟨rfl,azR,azS,azT,azU,azV,W20,azW,azX,azY,azZ,acE,dK⟩
 have gj:=Hp.mL (A:=[_,_,_,_]) (R:=([_,_,_,_,_,_,_,_,_,_]++R)) dK
 simp only[gA,eN]at gj
 have iV:=gj.pk [4,4]
 refine aa<|bW O (fun BO=> ?_) (fun BO=> ?_)
 .refine au<|lP di iV 1 O O rfl<| ?_
  refine V (s5 bA bA) ?_
  refine cw O (iL _ _ (.merge ((cs.length:Int)-1)) J _ (iV.pj [2,2,2,2,2,2,2,2,2,2,2,2])) (aL zI O O) ?_
  rintro _ w35 ⟨rfl,v37,j4⟩
  simp only[nE]at j4
  have uz:=j4.pk [12,12]
  refine aa<|rf O ⟨rfl,azR,azS,azT,azU,azV,W20,azW,azX,azY,v37,[((jL 157 #[pt b3,pt b8]),.merge ((cs.length:Int)-1))],[bu.blk b3 (.cells #[pt n] 31 (0,0)),bu.blk b8 (.cells #[I ((cs.length:Int)-1)] 3 (0,0))]++azZ,acE.mono (fun e he=>by rw[dG];exact bH _ he),(fun x hx=>by rw[gG.1 hx];exact⟨⟨_,_,rfl,aJ,aJ⟩,trivial⟩),eU _,ZC (s:=(NP.mk aq a8 ak bq ((qf us)) qs sn cs sk wy wr)) h.ne ‹_=true›,(Hp.mL (A:=[_,_,_,_,_,_,_,_,_,_,_,_]) (B:=[_,_]) (R:=R) ((uz).pj [2,2,2,2,2,2,2,2,2,2,2,2,1]))⟩
 refine an<|rf O ⟨rfl,azR,azS,azT,azU,azV,W20,azW,azX,azY,vd,[],azZ,acE,(fun x hx=>by cases hx),nM _,(by rw[aef aQ];exact iN.nil _),by rw[mY];exact(iV.sub (sQ (sQ sR)))⟩
theorem Kl{b:Nat}{ql qi:Value}{cq:Option (Nat×Array Value)}{wl:List Int}{wi:List Bool}{ids:List Nat}{tl:List (Nat×Rl)}{f:Ct}{nk:Nat}{Zf R:List bu}(q:dD)(hm:m<=100000)(T3:bq.length=ak.length)(OQ:us.length=ak.length)(ov:(bB cs).length=ak.length)(Qw:ak.length<=1000)(hlg:lg.length<=500000000000)(hwl:wl.length<=1000000)(yf:∀k:Nat,k<us.length->dQ 3 (us.getD k de)∈R/\(us.getD k de).l.length<=1000/\∀i∈(us.getD k de).l,0<=i/\i<wi.length)(hf:Fy nk f)(hnk:nk<=100000000000)(hql:0<=q.a8/\q.a8<aq.length)(aoq:q.code.length<=1000)(hqt:q.to.var<ak.length)(hqp:E8 q=true->0<q.vars.length/\0<=yz q/\yz q<ak.length)(hvs:∀v∈q.vars,0<=v/\v<ak.length)(w:World)(hT:o3 W0)(hlv:VV TX (Kz (Kw W0) R) ids tl aq)(hZ:kR (BE fr) ids f tl Zf)(zv:D2 (Kz (Kw W0) R) q)(h:xn FX n m cs vW vU cW cU W ul ts cn R)(hq:qO cq ql (wl.map I))(hH:Hp W0 w (nE n wr vL vt vv vy vu vq sn vW vU vT cn sk wy vd vm cW cU W ul ts aq a8 ak bq us qs lg tm ((wE b ql qi cq wl wi ((Zf++R)))))):Calls Tryz.prog 86 #[pt n,pt b,.agg (qh q).toArray] w (jW fun u w'=>∃(r:LkO) (vd':Value) (T8:Value) (T9:Option (Nat×Array Value)) (new:List (Value×my)) (Lb Z':List bu),n7 (bB cs) us (aq.getD q.a8.toNat pQ).p.sh q ak bq wl wi wy=r/\u=B r.ok/\(∀x∈new,nh NX n Lb x/\IW x.2)/\new.length<=(bP (bB cs) q.to.var).length/\iN new (NP.mk aq a8 ak bq ((qf us)) qs sn cs sk (r.wy) wr) (NP.mk aq a8 (r.ak) (r.bq) ((qf us)) qs sn cs sk (r.wy) wr)/\kR (BE fr) ids (VW (aq.getD q.a8.toNat pQ).d r.ks f) tl Z'/\qO T9 T8 (r.wl.map I)/\Hp W0 w' (nE n wr vL vt vv vy vu vq sn vW vU vT cn sk (r.wy) (vd') vm cW cU W ul ts aq a8 (r.ak) (r.bq) us qs (lg++new) tm ((wE b (T8) qi (T9) (r.wl) (r.wi) ((Z'++(Lb++R))))))):=by
 have hlc:=hlv.at hql.1 hql.2
 obtain⟨f1,f2,f3,a1,a2,a3,i1,i2,i3⟩:=hlc.ops.one
 have hone:∀u∈[(aq.getD q.a8.toNat pQ).e,(aq.getD q.a8.toNat pQ).l,(aq.getD q.a8.toNat pQ).j].toArray,u.oneCell'=true:=by rw[i1,i2,i3];intro u hu;simp only[Ll,c8,HG,Cd]at hu;rcases hu with rfl|rfl|rfl<;>rfl
 have hvw:∀v∈q.vars,0<=v/\v<bq.length:=fun v hv=>by have:=hvs v hv;omega
 simp only[wE]at hH
 simp only[nE]at hH
 refine en func86 rfl rfl<|SR<|gM hH (v:= .agg _) rfl<|fun b3 w1 bp=>va (v:=B false) rfl<|aa<|Fq (G:=Unit) bp (6::(rg 11 20 [])) (fun(L:List bu) (_u:Unit)=>L) (fun(_u:Unit) s'=>(skQ (bB cs) q=false)) ?_ ?_
 .refine ai<|ec aP bp<|fun w4 bY=>AT 0 O bY (fun w hS=>cF (cs:=qh _) jj O O O (bj (hS.blk (i:=0) O)))<|A1 1<|ct O aD O bY sR (n8 _ _ (zv.mono (bY.kz (Le.refl _) (fun x hx=>(mT (mT (mT (mT (mT (mT (mT (mT (mT (mT (mT (mT (mT (mT (mT (mT (bH _ hx))))))))))))))))))))) (ay call131 O)<|fun w6 eC=>have zh7:=eC;AQ 2 O zh7 (mV (B _) O)<|LR (dj:=13) O (fun h9=> ?_) (fun h9=> ?_)
  .refine BQ 3 O O (bR (c:=true) h9) eC (mV (Pn _ _) O)<|BQ 4 O O (bR (c:=true) h9) eC (af O)<|BQ 5 O O (bR (c:=true) h9) eC (fA cr 8 O pc O)<|BQ 6 O O (bR (c:=true) h9) eC (fA jj 12 O dH O)<|AG 7 O O (bR (c:=true) h9) eC (fun w hS=>bZ (zv.vars.mono (hS.kz (Le.refl _) (fun x hx=>(mT (mT (mT (mT (mT (mT (mT (mT (mT (mT (mT (mT (mT (mT (mT (mT (bH _ hx)))))))))))))))))))).sl bD O O (hS.cell (i:=0) O O))<|AG 8 O O (bR (c:=true) h9) eC (fun w hS=>ah (zv.vars.mono (hS.kz (Le.refl _) (fun x hx=>(mT (mT (mT (mT (mT (mT (mT (mT (mT (mT (mT (mT (mT (mT (mT (mT (bH _ hx)))))))))))))))))))).sl bD aO O O (by have:=hqp ‹E8 _=true›;omega))<|AG 9 O O (bR (c:=true) h9) eC (fun w hS=>aG bx O O ((zv.vars.mono (hS.kz (Le.refl _) (fun x hx=>(mT (mT (mT (mT (mT (mT (mT (mT (mT (mT (mT (mT (mT (mT (mT (mT (bH _ hx)))))))))))))))))))).sl.cell _ _ (eS (by have:=hqp ‹E8 _=true›;omega))))<|BQ 11 O O (bR (c:=true) h9) eC (mV (Pn _ _) O)<|BQ 12 O O (bR (c:=true) h9) eC (af O)<|BQ 13 O O (bR (c:=true) h9) eC (fA cr 8 O pc O)<|BQ 14 O O (bR (c:=true) h9) eC (fA jj 2 O kO O)<|BQ 15 O O (bR (c:=true) h9) eC (fA kK 0 O aO O)<|AG 16 O O (bR (c:=true) h9) eC (fun w hS=>aG bx O O (hS.cell (i:=0) O (v:=I _) O))<|A1 10<|ct O (A3 O (bR (c:=true) h9)) O eC sR (FO _ h J (eC.blk (i:=1) O) (eC.yQ (i:=2) O h.hW)) (aL E6 O (show _=I (yz q)from O))<|fun EB df=>A1 17<|ct O (A3 O (bR (c:=true) h9)) O df sR (FO _ h J (df.blk (i:=1) O) (df.yQ (i:=2) O h.hW)) (aL E6 O O)<|fun y8 bX=>BQ 18 O O (bR (c:=true) h9) bX (bU O O)<|AQ 19 O bX (gL (bR (c:=true) h9) (v:=B _) O)<|AD<|aF O (fun D6=> ?_) (fun D6=> ?_)
   .refine SR<|va (v:=B true) rfl<|aa<|aj<|jy (v:=B true) O O ⟨⟨true,ak,bq,wl,wi,wy,[]⟩,vd,ql,cq,[],[],Zf,?_,rfl,?_,?_,?_,hZ,?_,(by rw[mY];exact(bX.sub (sQ sR)))⟩
    .exact aX (by simp[skQ, *])
    .exact fun x hx=>by cases hx
    .exact nM _
    .exact iN.nil _
    exact hq
   refine an ?_
   refine⟨((Fr.refl _ _)).u4.u4.u4.u4.u4,(),bX,?_⟩
   (simp[skQ, *];done)
  refine AK 3 O O (bR (c:=false) h9) eC<|AK 4 O O (bR (c:=false) h9) eC<|AK 5 O O (bR (c:=false) h9) eC<|AK 6 O O (bR (c:=false) h9) eC<|AK 7 O O (bR (c:=false) h9) eC<|AK 8 O O (bR (c:=false) h9) eC<|AK 9 O O (bR (c:=false) h9) eC<|AK 10 O O (bR (c:=false) h9) eC<|AK 11 O O (bR (c:=false) h9) eC<|AK 12 O O (bR (c:=false) h9) eC<|AK 13 O O (bR (c:=false) h9) eC<|AK 14 O O (bR (c:=false) h9) eC<|AK 15 O O (bR (c:=false) h9) eC<|AK 16 O O (bR (c:=false) h9) eC<|AK 17 O O (bR (c:=false) h9) eC<|AK 18 O O (bR (c:=false) h9) eC<|AQ 19 O zh7 (eo (bR (c:=false) h9) (v:=B false) O)<|AD<|cQ rfl<|an<| ?_
  refine⟨((Fr.refl _ _)).u4.u4.u4.u4.u4,(),eC,?_⟩
  (simp[skQ, *];done)
 rintro _u aae I4 nR cI OV
 obtain⟨akK,xx,za⟩:=nR.w3 0 1 5
 refine ai<|fW (z:=⟨none,_,_,_,_,none⟩) aP O aP cI sR<|fun Ti dP=>have qP:=dP;AQ 0 O qP (run_move akK)<|AQ 1 O qP (af O)<|AQ 2 O qP (fA cr 1 O ur O)<|tV 3 O qP oY 1 O O rfl<|AQ 4 O qP (fA jj 0 O aO za)<|tI 5 O qP bx 0 O O rfl<|AT 6 O qP (fun w hS=>ah (hS.sl (i:=5) O) oY sizeOf119 O O J)<|AQ 7 O qP (fA B9 2 O sizeOf117 O)<|AT 8 O qP (fun w hS=>kZ (dv:=pQ) (off:=2) (cs:=[_,_,_]) rF (hS.sl (i:=5) O) qW O O O J (ahf O))<|A1 9<|cH O aD O dP sR (f:=fun b=> .pointer (some ⟨b,0,none⟩)) (aS Wi)<|fun b21 Tj cT=>AD<|bg cT (i:=0) O (dO O O O hone (cT.blk (i:=0) O) O)<|fun QJ eM=>aa<|Fq (G:=(Nat)×(List bu)) eM (8::9::(rg 40 12 [])) (fun(L:List bu) (⟨q8,Z1⟩:(Nat)×(List bu))=> .blk q8 (.cells (Value.agg (iM (lkE (aq.getD q.a8.toNat pQ).p.sh q ak))).cells 37 (0,0))::(L.take 17++(Z1++R))) (fun(⟨q8,Z1⟩:(Nat)×(List bu)) s'=>(s' 8= .pointer (some ⟨q8,0,none⟩))/\(kR (BE fr) ids (Wr.tick .e (aq.getD q.a8.toNat pQ).d f) tl Z1)) ?_ ?_
 .refine gD aP eM (sP (sP (sP (sP (sP (sP (sP (sP (sP (sP (sP (sP (sP (sP (sP (sP (sP (sA sR))))))))))))))))))<|fun w24 n9=>have W6:=n9.sub (sP (sP (sP (sP (sP (sP (sP (sP (sP (sP (sP (sP (sP (sP (sP (sP (sP (sA sR))))))))))))))))));AQ 0 O W6 (fA qW 0 O sizeOf114 O)<|tV 1 O W6 Rw 0 O O rfl<|AQ 2 O W6 (fA jj 1 O xV za)<|AT 3 O W6 (fun w hS=>bZ (zv.code.mono (hS.kz (Le.refl _) (fun x hx=>(mT (mT (mT (mT (mT (mT (mT (mT (mT (mT (mT (mT (mT (mT (mT (mT (mT hx)))))))))))))))))))).sl ia O O (hS.cell (i:=1) O O))<|AQ 4 O W6 (run_move akK)<|AQ 5 O W6 (af O)<|AQ 6 O W6 (fA cr 3 O jm O)<|tV 7 O W6 bV 2 O O rfl<|gp 8 12 aP ?_ ?_
  .obtain⟨aPE,aGu,aus,az0,az1⟩:=akl W0 ids tl hT _ _ _ _ aoq _ _ f Zf ([_,_,_,_,_,_,_,_,_,_,_,_,_,_,_,_,_]++R) _ _ _ _ (hlc.ops.mono (Le.zz (fun x hx=>bH _ hx))) hlc.Fg hZ hf HX (fun Z' w' h0=>by have h':Hp W0 w' (_::_::_::_::_::_::_::_::_::_::_::_::_::_::_::_::_::(Z'++R)):=Hp.o7 (A:=[_,_,_,_,_,_,_,_,_,_,_,_,_,_,_,_,_]) h0;exact(zv.code.mono (h'.kz (Le.refl _) (fun x hx=>(mT (mT (mT (mT (mT (mT (mT (mT (mT (mT (mT (mT (mT (mT (mT (mT (mT (bH _ hx))))))))))))))))))))).sl) (fun Z' w' h0=>by have h':Hp W0 w' (_::_::_::_::_::_::_::_::_::_::_::_::_::_::_::_::_::(Z'++R)):=Hp.o7 (A:=[_,_,_,_,_,_,_,_,_,_,_,_,_,_,_,_,_]) h0;exact(h'.sl (i:=8) O)) (Hp.sM (A:=[_,_,_,_,_,_,_,_,_,_,_,_,_,_,_,_,_]) (Zf:=Zf) (R:=R) n9)
   refine yc O aD O az1 (iZ az0 (cs:=aGu) aus O O) (fun u w' ⟨_,Z',_,h⟩=>Hp.sub (L:=_::_::_::_::_::_::_::_::_::_::_::_::_::_::_::_::_::(Z'++R)) (Hp.o7 (A:=[_,_,_,_,_,_,_,_,_,_,_,_,_,_,_,_,_]) h) (sP (sP (sP (sP (sP (sP (sP (sP (sP (sP (sP (sP (sP (sP (sP (sP (sP (sA sR))))))))))))))))))) ?_
   rintro x38 w33 ⟨az2,Z36,aGv,h34⟩
   have uX:Hp _ w33 (_::_::_::_::_::_::_::_::_::_::_::_::_::_::_::_::_::(Z36++R)):=Hp.o7 (A:=[_,_,_,_,_,_,_,_,_,_,_,_,_,_,_,_,_]) h34
   rw[hlc.sh]at az2
   subst az2
   have aut:=uX.sub (sP (sP (sP (sP (sP (sP (sP (sP (sP (sP (sP (sP (sP (sP (sP (sP (sP (sA sR))))))))))))))))))
   refine AQ 9 O aut (run_move bA) ?_
   refine AQ 10 O aut (bk O (v:= .agg _) O)<|AQ 11 O aut (bk O (v:=B _) O)<|A1 12<|cH O aD O uX (sP (sP (sP (sP (sP (sP (sP (sP (sP (sP (sP (sP (sP (sP (sP (sP (sP (sA sR)))))))))))))))))) (f:=fun b=> .pointer (some ⟨b,0,none⟩)) (aS e8)<|fun b44 w42 mj=>A1 13<|ed O aD mj (j:=0) O (sQ (sP (sP (sP (sP (sP (sP (sP (sP (sP (sP (sP (sP (sP (sP (sP (sP (sP (sA sR))))))))))))))))))) (cR O O O (mj.blk (i:=0) O))<|fun w49 eL=>AQ 14 O (eL.sub (sQ (sP (sP (sP (sP (sP (sP (sP (sP (sP (sP (sP (sP (sP (sP (sP (sP (sP (sA sR)))))))))))))))))))) (aV (B _) O)<|AD<| ?_
   refine⟨((Fr.refl _ _)).u4.u4.u4.u1.u1,(b44,Z36),(Hp.conv eL aM),rfl,?_⟩
   exact aGv
  refine cH O aD O n9 (sP (sP (sP (sP (sP (sP (sP (sP (sP (sP (sP (sP (sP (sP (sP (sP (sP (sA sR)))))))))))))))))) (f:=fun b=> .pointer (some ⟨b,0,none⟩)) (aS e8)<|fun b53 w51 BP=>A1 8<| ?_
  obtain⟨aPF,aGw,aGx,az3,az4⟩:=akl W0 ids tl hT _ _ _ _ aoq _ _ f Zf ([_,_,_,_,_,_,_,_,_,_,_,_,_,_,_,_,_,_]++R) _ _ _ _ (hlc.ops.mono (Le.zz (fun x hx=>bH _ hx))) hlc.Fg hZ hf HX (fun Z' w' h0=>by have h':Hp W0 w' (_::_::_::_::_::_::_::_::_::_::_::_::_::_::_::_::_::_::(Z'++R)):=Hp.o7 (A:=[_,_,_,_,_,_,_,_,_,_,_,_,_,_,_,_,_,_]) h0;exact(zv.code.mono (h'.kz (Le.refl _) (fun x hx=>(mT (mT (mT (mT (mT (mT (mT (mT (mT (mT (mT (mT (mT (mT (mT (mT (mT (mT (bH _ hx)))))))))))))))))))))).sl) (fun Z' w' h0=>by have h':Hp W0 w' (_::_::_::_::_::_::_::_::_::_::_::_::_::_::_::_::_::_::(Z'++R)):=Hp.o7 (A:=[_,_,_,_,_,_,_,_,_,_,_,_,_,_,_,_,_,_]) h0;exact(h'.sl (i:=9) O)) (Hp.sM (A:=[_,_,_,_,_,_,_,_,_,_,_,_,_,_,_,_,_,_]) (Zf:=Zf) (R:=R) BP)
  refine yc O aD O az4 (iZ az3 (cs:=aGw) aGx O O) (fun u w' ⟨_,Z',_,h⟩=>Hp.sub (L:=_::_::_::_::_::_::_::_::_::_::_::_::_::_::_::_::_::_::(Z'++R)) (Hp.o7 (A:=[_,_,_,_,_,_,_,_,_,_,_,_,_,_,_,_,_,_]) h) (sQ (sP (sP (sP (sP (sP (sP (sP (sP (sP (sP (sP (sP (sP (sP (sP (sP (sP (sA sR)))))))))))))))))))) ?_
  rintro x66 w61 ⟨az5,Z64,aGy,h62⟩
  have oV:Hp _ w61 (_::_::_::_::_::_::_::_::_::_::_::_::_::_::_::_::_::_::(Z64++R)):=Hp.o7 (A:=[_,_,_,_,_,_,_,_,_,_,_,_,_,_,_,_,_,_]) h62
  rw[hlc.sh]at az5
  subst az5
  have auu:=oV.sub (sQ (sP (sP (sP (sP (sP (sP (sP (sP (sP (sP (sP (sP (sP (sP (sP (sP (sP (sA sR)))))))))))))))))))
  refine AQ 9 O auu (run_move bA) ?_
  refine AQ 10 O auu (bk O (v:= .agg _) O)<|AQ 11 O auu (bk O (v:=B _) O)<|A1 13<|ed O aD oV (j:=0) O (sQ (sP (sP (sP (sP (sP (sP (sP (sP (sP (sP (sP (sP (sP (sP (sP (sP (sP (sA sR))))))))))))))))))) (cR O O O (oV.blk (i:=0) O))<|fun w74 uZ=>AQ 14 O (uZ.sub (sQ (sP (sP (sP (sP (sP (sP (sP (sP (sP (sP (sP (sP (sP (sP (sP (sP (sP (sA sR)))))))))))))))))))) (aV (B _) O)<|AD<| ?_
  refine⟨((Fr.refl _ _)).u4.u4.u4.u1.u1,(b53,Z64),(Hp.conv uZ aM),rfl,?_⟩
  exact aGy
 rintro⟨q8,Z1⟩ aPG w76 az6 oG ⟨akL,K4⟩
 simp only[Hy,xK,gA,eN]at oG
 have akM:=az6.w1 7
 obtain⟨Q2,az7,OB⟩:=az6.t3 0 akK 1 xx 5 za
 refine ai<|SR<|V (fA jj 2 O kO OB)<|V (fA kK 0 O aO O)<|lI bx oG 2 O O rfl<|V (aN O O)<|aa<|aF O (fun h78=> ?_) (fun h78=> ?_)
 .refine ai<|SR<|V (fA qW 1 O sizeOf65 akM)<|lV Lt oG 1 O O rfl<|V (cM bI O O akL (oG.blk (i:=0) O))<|V (fA jj 2 O kO OB)<|V (fA kK 1 O fh O)<|V (ja (sub:=pH _) bI O O O (oG.blk (i:=2) O) O)<| ?_
  obtain⟨aPI,aGz,aGA,az8,az9⟩:=akm W0 ids tl hT _ _ _ _ (Wr.tick .e (aq.getD q.a8.toNat pQ).d f) Z1 ([_,_,_,_,_,_,_,_,_,_,_,_,_,_,_,_,_,_]++R) _ _ _ _ (hlc.ops.mono (Le.zz (fun x hx=>bH _ hx))) hlc.Fg K4 (hf.abA _) HX (Hp.sM (A:=[_,_,_,_,_,_,_,_,_,_,_,_,_,_,_,_,_,_]) (Zf:=Z1) (R:=R) oG)
  refine cw O az9 (iZ az8 (cs:=aGz) aGA O (jV (b:=Value.agg (pH q.to.c).toArray) O (aK Value.agg (ig q.to.c).symm))) ?_
  rintro x89 w84 ⟨aGB,Z87,aAa,h85⟩
  have uA:Hp _ w84 (_::_::_::_::_::_::_::_::_::_::_::_::_::_::_::_::_::_::(Z87++R)):=Hp.o7 (A:=[_,_,_,_,_,_,_,_,_,_,_,_,_,_,_,_,_,_]) h85
  subst aGB
  refine V (bJ O)<|aa<|bW O (fun h93=> ?_) (fun h93=> ?_)
  .refine SR<|aE Q2<|aE Q2<|V (cF (cs:=qh _) jj O O OB (bj (uA.blk (i:=2) O)))<|aH O uA (xH _ (hvw) _ (uA.blk (i:=3) O) (uA.sl (i:=10) O) (zv.mono (uA.kz (Le.refl _) (fun x hx=>(mT (mT (mT (mT (mT (mT (mT (mT (mT (mT (mT (mT (mT (mT (mT (mT (mT (mT (bH _ hx))))))))))))))))))))))) (aL call132 O O)<|fun w94 Kk=>V (af O)<|V (fA cr 13 O cP O)<|bg Kk (i:=3) O (bL O O (v:=U _) O O O (Kk.blk (i:=3) O) aJ)<|fun w96 Km=> ?_
   simp only[jg,kW,nW,gN,Nat.reduceAdd]at Km
   refine aa<|SR<|va (v:=B false) rfl<|aa<|aj<|jy (v:=B false) O O ⟨⟨false,ak,bq,wl,wi,orW q.why bq q.vars,[.e,.l]⟩,vd,ql,cq,[],[],Z87,?_,rfl,?_,?_,?_,aAa,?_,(by rw[mY];exact(Km.sub (sQ (sQ (sQ sR)))))⟩
   .exact(aT RX).trans ((aX aQ).trans (aT LA))
   .exact fun x hx=>by cases hx
   .exact nM _
   .exact iN.nil _
   exact hq
  refine an<|SR<|va (v:=B true) rfl<|aa<|aj<|jy (v:=B true) O O ⟨⟨true,ak,bq,wl,wi,wy,[.e,.l]⟩,vd,ql,cq,[],[],Z87,?_,rfl,?_,?_,?_,aAa,?_,(by rw[mY];exact(uA.sub (sQ (sQ (sQ sR)))))⟩
  .exact(aT RX).trans ((aX aQ).trans (aX (by simpa using‹(!cS _ _)=false›)))
  .exact fun x hx=>by cases hx
  .exact nM _
  .exact iN.nil _
  exact hq
 refine an<|ai<|fW (z:=⟨none,_,_,_,_,none⟩) aP O aP oG sR<|fun w98 Po=>have TG:=Po;AQ 0 O TG (run_move Q2)<|AQ 1 O TG (af O)<|AQ 2 O TG (fA cr 3 O jm O)<|tV 3 O TG bV 3 O O rfl<|AQ 4 O TG (fA jj 2 O kO OB)<|AQ 5 O TG (fA kK 0 O aO O)<|tI 6 O TG bx 2 O O rfl<|AT 7 O TG (fun w hS=>ah (hS.sl (i:=9) O) bV fh O O J)<|AT 8 O TG (fun w hS=>gy (hS.sl (i:=9) O) bI O O O J)<|A1 9<|cH O aD O Po sR (f:=fun b=> .pointer (some ⟨b,0,none⟩)) (aS e8)<|fun aPK auc EO=>AD<|bg EO (i:=0) O (cR O O O (EO.blk (i:=0) O))<|fun aoc nj=>aa<|ai<|SR<|V (fA qW 1 O sizeOf65 akM)<|lV Lt nj 2 O O rfl<|V (cM bI O O akL (nj.blk (i:=1) O))<|V (cM bI O O O (nj.blk (i:=0) O))<| ?_
 obtain⟨aK6,aAb,aAc,auv,auw⟩:=akm W0 ids tl hT _ _ _ _ (Wr.tick .e (aq.getD q.a8.toNat pQ).d f) Z1 ([_,_,_,_,_,_,_,_,_,_,_,_,_,_,_,_,_,_,_]++R) _ _ _ _ (hlc.ops.mono (Le.zz (fun x hx=>bH _ hx))) hlc.Fg K4 (hf.abA _) HX (Hp.sM (A:=[_,_,_,_,_,_,_,_,_,_,_,_,_,_,_,_,_,_,_]) (Zf:=Z1) (R:=R) nj)
 refine cw O auw (iZ auv (cs:=aAb) aAc O O) ?_
 rintro aPL aAd ⟨aAe,aor,aqG,akN⟩
 have xC:Hp _ aAd (_::_::_::_::_::_::_::_::_::_::_::_::_::_::_::_::_::_::_::(aor++R)):=Hp.o7 (A:=[_,_,_,_,_,_,_,_,_,_,_,_,_,_,_,_,_,_,_]) akN
 subst aAe
 refine V (bJ O)<|aa<|bW O (fun akO=> ?_) (fun akO=> ?_)
 .refine fW (z:=⟨some _,_,_,_,_,none⟩) aP O aP xC (sP (sP (sP (sP (sP (sP (sP (sP (sP (sP (sP (sP (sP (sP (sP (sP (sP (sP (sP (sA sR))))))))))))))))))))<|fun aAf EQ=>have qI:=EQ.sub (sP (sP (sP (sP (sP (sP (sP (sP (sP (sP (sP (sP (sP (sP (sP (sP (sP (sP (sP (sA sR))))))))))))))))))));AQ 0 O qI (run_move Q2)<|AQ 1 O qI (run_move az7)<|AQ 2 O qI (fA jj 2 O kO OB)<|AQ 3 O qI (fA kK 0 O aO O)<|tI 4 O qI bx 3 O O rfl<|AQ 5 O qI (fA qW 2 O sizeOf115 akM)<|tV 6 O qI Lp 2 O O rfl<|AT 7 O qI (fun w hS=>cM bI O O O (hS.blk (i:=0) O))<|AT 8 O qI (fun w hS=>cM bI O O akL (hS.blk (i:=1) O))<|AQ 10 O qI (run_move Q2)<|AQ 11 O qI (af O)<|AQ 12 O qI (fA cr 4 O jB O)<|tV 13 O qI dh 4 O O rfl<|AQ 14 O qI (fA jj 2 O kO OB)<|AQ 15 O qI (fA kK 0 O aO O)<|tI 16 O qI bx 3 O O rfl<|AT 17 O qI (fun w hS=>ah (hS.sl (i:=11) O) dh cP O O J)<|AT 18 O qI (fun w hS=>aG dM O O ((hS.sl (i:=11) O).cell _ _ (lK (dv:=0#64) J)))<|AQ 19 O qI (run_move Q2)<|AT 20 O qI (fun w hS=>cF (cs:=qh _) jj O O OB (bj (hS.blk (i:=3) O)))<|A1 9<| ?_
  obtain⟨aK7,aAg,aAh,auy,auz⟩:=akn W0 ids tl hT _ _ _ _ (Wr.tick .l (aq.getD q.a8.toNat pQ).d (Wr.tick .e (aq.getD q.a8.toNat pQ).d f)) aor ([_,_,_,_,_,_,_,_,_,_,_,_,_,_,_,_,_,_,_]++R) _ _ _ _ (hlc.ops.mono (Le.zz (fun x hx=>bH _ hx))) hlc.Fg aqG ((hf.abA _).abA _) HX (Hp.sM (A:=[_,_,_,_,_,_,_,_,_,_,_,_,_,_,_,_,_,_,_]) (Zf:=aor) (R:=R) EQ)
  refine yc O aD O auz (iZ auy (cs:=aAg) aAh O O) (fun u w' ⟨_,Z',_,h⟩=>Hp.sub (L:=_::_::_::_::_::_::_::_::_::_::_::_::_::_::_::_::_::_::_::(Z'++R)) (Hp.o7 (A:=[_,_,_,_,_,_,_,_,_,_,_,_,_,_,_,_,_,_,_]) h) (sP (sP (sP (sP (sP (sP (sP (sP (sP (sP (sP (sP (sP (sP (sP (sP (sP (sP (sP (sA sR))))))))))))))))))))) ?_
  rintro aPM auA ⟨aqH,auB,aAi,aGE⟩
  have acF:Hp _ auA (_::_::_::_::_::_::_::_::_::_::_::_::_::_::_::_::_::_::_::(auB++R)):=Hp.o7 (A:=[_,_,_,_,_,_,_,_,_,_,_,_,_,_,_,_,_,_,_]) aGE
  rw[apI hlc.Fg hlc.sh]at aqH
  subst aqH
  refine A1 21<|ct O aD O acF (sP (sP (sP (sP (sP (sP (sP (sP (sP (sP (sP (sP (sP (sP (sP (sP (sP (sP (sP (sA sR)))))))))))))))))))) (xH _ (hvw) _ (acF.blk (i:=4) O) (acF.sl (i:=11) O) (zv.mono (acF.kz (Le.refl _) (fun x hx=>(mT (mT (mT (mT (mT (mT (mT (mT (mT (mT (mT (mT (mT (mT (mT (mT (mT (mT (mT (bH _ hx)))))))))))))))))))))))) (aL call132 O O)<|fun aE9 QT=>AQ 22 O (QT.sub (sP (sP (sP (sP (sP (sP (sP (sP (sP (sP (sP (sP (sP (sP (sP (sP (sP (sP (sP (sA sR))))))))))))))))))))) (iH O O)<|AD<|cw O (Bt _ _ _ J J J J J J J (fun k hk=>⟨by(repeat apply fX);exact bH _ (yf k hk).1,(yf k hk).2⟩) _ (h.mono fun e he=>by(repeat apply fX);exact bH _ he) hq (QT.pj [4,4,4,4,4,4,4,4,4,4,4,4,4,4,4])) (sD call130 O O O O O)<| ?_
  rintro _ aGF ⟨rfl,aAj,aGG,aGH,aAk,aqI,aAl,aAm,aAn,aAo,aAp⟩
  simp only[nE,wE]at aAp
  have QU:=Hp.mL (A:=[_,_,_,_,_,_,_,_,_,_,_,_,_,_,_]) (R:=[_,_,_,_]) aAp
  simp only[gA,eN]at QU
  have aAq:=QU.pk [15,15,15,15]
  refine aa<|SR<|va (v:=B true) rfl<|aa<|aj<|jy (v:=B true) O O ⟨lkR (bB cs) us (aq.getD q.a8.toNat pQ).p.sh q ak bq wl wi wy,aAj,aGG,aGH,aAk,aqI,auB,?_,rfl,?_,?_,?_,aAi,?_,(Hp.mL (A:=[_,_,_,_,_,_,_,_,_,_,_,_,_,_,_]) (B:=aqI) (R:=auB) (aAq.sub (sQ (sQ (sQ (sQ sR))))))⟩
  .exact(aT RX).trans ((aT aQ).trans (aT LA))
  .exact aAl
  .exact aAm
  .exact aAn
  exact aAo
 refine an<|SR<|va (v:=B true) rfl<|aa<|aj<|jy (v:=B true) O O ⟨⟨true,ak,bq,wl,wi,wy,[.e,.l]⟩,vd,ql,cq,[],[],aor,?_,rfl,?_,?_,?_,aqG,?_,(by rw[mY];exact(xC.sub (sQ (sQ (sQ (sQ sR))))))⟩
 .exact(aT RX).trans ((aT aQ).trans (aX (by simpa using‹(!cS _ _)=false›)))
 .exact fun x hx=>by cases hx
 .exact nM _
 .exact iN.nil _
 exact hq
end
end Go.Proofs.YtlhjdflgjbkpmaaGreatDoor.W

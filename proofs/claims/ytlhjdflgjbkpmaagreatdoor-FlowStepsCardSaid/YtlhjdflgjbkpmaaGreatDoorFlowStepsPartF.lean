/- Part 6 of the proof of FlowSteps: its plain laws and the walks of its functions. -/
import Derived.Test.YtlhjdflgjbkpmaaGreatDoorFlowStepsPartE
set_option linter.all false
namespace Go.Proofs.YtlhjdflgjbkpmaaGreatDoor.W
section
open Go Go.RowKit Go.Proofs.YtlhjdflgjbkpmaaGreatDoor.E Go.Proofs.YtlhjdflgjbkpmaaGreatDoor.M
set_option maxRecDepth 100000
open Go.Proofs.Tryz
theorem TJ(a:Int):Tryz.prog.built 233 [(0,I a)]=some (GO ⟨a,0⟩).toArray:=rfl
theorem aeZ{a b c d e:Value}(h1:a.cells=#[a])(h2:b.cells=#[b])(h3:c.cells=#[c])(h4:d.cells=#[d])(h5:e.cells=#[e]):Tryz.prog.built 222 [(0,a),(1,b),(2,c),(3,d),(7,e)]=some #[a,b,c,d,.slice none 0 0,.slice none 0 0,I 0,e]:=
 (show Tryz.prog.built 222 [(0,a),(1,b),(2,c),(3,d),(7,e)]=Instr.fill (#[(0,1),(1,1),(2,1),(3,1),(4,1),(5,1),(6,1),(7,1)][·]?) #[.slice none 0 0,.slice none 0 0,.slice none 0 0,.slice none 0 0,.slice none 0 0,.slice none 0 0,I 0,.slice none 0 0] [(0,a),(1,b),(2,c),(3,d),(7,e)]from O).trans (by simp only[Instr.fill,h1,h2,h3,h4,h5];rfl)
abbrev nE(n:Nat)(wr:Value)(vL:Value)(vt:Value)(vv:Value)(vy:Value)(vu:Value)(vq:Value)(sn:Int)(vW:Value)(vU:Value)(vT:Value)(cn:Int)(sk:Bool)(wy:BitVec 64)(vd:Value)(vm:Value)(cW:Option (Nat×Array Value))(cU:Option (Nat×Array Value))(W:List (BitVec 64))(ul:List (Value×jS))(ts:List Int)(aq:List pP)(bf:List Int)(ak:List El)(bq:List (BitVec 64))(us:List j4)(qs:List dD)(lg:List (Value×mw))(tm:List Int)(L:List bu):List bu:= .blk n (.cells #[wr,vL,vt,vv,vy,vu,vq,I sn,vW,vU,vT,I cn,B sk,U wy,vd,vm] 111 (0,0))::cE cW vW 35 (W.map U)::cE cU vU 1 (ul.map Prod.fst)::jW I vT 3 ts::wh Xn 13 vL 119 aq::jW I vt 3 bf::wh pJ 8 vv 37 ak::jW U vy 35 bq::jW j4.v vu 99 us::wh qk 13 vq 128 qs::jW Prod.fst vd 1 lg::jW I vm 3 tm::L
abbrev wE(b:Nat)(ql qi:Value)(cq:Option (Nat×Array Value))(wl:List Int)(wi:List Bool)(L:List bu):List bu:= .blk b (.cells #[ql,qi] 156 (0,0))::qE cq ql 3 (wl.map I)::jW B qi 4 wi::L
abbrev NX:NTy:=⟨54,48,58,193,157,88,45,31,3,37,35,128⟩
theorem Px(b k c:Nat):Tryz.prog.built 156 [(1,.slice (some ⟨b,0,none⟩) k c)]=some #[.slice none 0 0,.slice (some ⟨b,0,none⟩) k c]:=rfl
abbrev NZ(n:Nat)(F:NF)(s:NP)(lg:List (Value×mw))(tm:List Int)(L:List bu):List bu:=(nE n (s.wr) (F.vL) (F.vt) (F.vv) (F.vy) (F.vu) (F.vq) (s.sn) (F.vW) (F.vU) (F.vT) (F.cn) (s.sk) (s.wy) (F.vd) (F.vm) (F.cW) (F.cU) (F.W) (F.ul) (F.ts) (s.aq) (s.bf) (s.ak) (s.bq) (F.us) (s.qs) lg tm L)
structure azD(n m:Nat)(F:NF)(s:NP)(L:List bu):Prop where
 fo:xn FX n m s.cs F.vW F.vU F.cW F.cU F.W F.ul F.ts F.cn L
 us:qh F.us=s.us
def wD(n m:Nat)(s:NP)(lg:List (Value×mw))(tm:List Int)(R L0 Z:List bu):Prop:=∃F L,azD n m F s L/\(∀b o,bu.blk b o∈L0->bu.blk b o∈L)/\Z=NZ n F s lg tm (F.us.map (dR 3)++(R++L))
def aow(W0:World)(n m:Nat)(R L0:List bu)(x:Value×mw)(s:NP):Prop:=∀lg tm Z w,wD n m s lg tm R L0 Z->Hp W0 w Z->Ap Tryz.prog x.1 [] w (jY fun u w'=>u= .tuple #[]/\∃Z',wD n m (wm x.2 s) lg tm R L0 Z'/\Hp W0 w' Z')
theorem ae0{x:Value}(h:x.cells=#[x]):Tryz.prog.built 111 [(0,x)]=some #[x,.slice none 0 0,.slice none 0 0,.slice none 0 0,.slice none 0 0,.slice none 0 0,.slice none 0 0,I 0,.slice none 0 0,.slice none 0 0,.slice none 0 0,I 0,B false,U 0,.slice none 0 0,.slice none 0 0]:=
 (show Tryz.prog.built 111 [(0,x)]=Instr.fill (#[(0,1),(1,1),(2,1),(3,1),(4,1),(5,1),(6,1),(7,1),(8,4),(12,1),(13,1),(14,1),(15,1)][·]?) #[.nilFunc,.slice none 0 0,.slice none 0 0,.slice none 0 0,.slice none 0 0,.slice none 0 0,.slice none 0 0,I 0,.slice none 0 0,.slice none 0 0,.slice none 0 0,I 0,B false,U 0,.slice none 0 0,.slice none 0 0] [(0,x)]from O).trans Yu
theorem yz(p:kR)(e l j:Value)(d:Wr)(low:El):Tryz.prog.built 119 [(0,.agg (qL p)),(1,.agg #[e,l,j]),(2,.agg (iM low))]=some (Xn ⟨p,e,l,j,d,low⟩).toArray:=by
 rw[ig];kernel_rfl
def WrF(x:Value)(ids:List Nat):Prop:=x= .nilFunc\/∃(m:Nat) (f:FuncId) (cs:List Value),x=jO f cs.toArray/\m∈ids/\(∀args w,(callFunc f args).run Tryz.prog w= .ok (.enter f args) w)/\∀(K:Vu) (d:Wr) (e l j:Value) (w:World),Le K (Kw w)->BC TX K d e l j->Calls Tryz.prog f ([Value.agg #[e,l,j]]++cs).toArray w (Gt K (fun K' u=>∃f1 f2 f3 a1 a2 a3,u= .agg #[jO f1 a1,jO f2 a2,jO f3 a3]/\BC TX K' (.wrap m d) (jO f1 a1) (jO f2 a2) (jO f3 a3)) w)
theorem WrF.fn{x:Value}{ids:List Nat}(h:WrF x ids):x= .nilFunc\/∃f c,x=jO f c:=by
 rcases h with h|⟨m,f,cs,h,_⟩
 .exact .inl h
 exact .inr ⟨_,_,h⟩
theorem WrF.yes{x:Value}{ids:List Nat}(h:WrF x ids)(hx:ai0 x=true):∃(m:Nat) (f:FuncId) (cs:List Value),x=jO f cs.toArray/\m∈ids/\(∀args w,(callFunc f args).run Tryz.prog w= .ok (.enter f args) w)/\∀(K:Vu) (d:Wr) (e l j:Value) (w:World),Le K (Kw w)->BC TX K d e l j->Calls Tryz.prog f ([Value.agg #[e,l,j]]++cs).toArray w (Gt K (fun K' u=>∃f1 f2 f3 a1 a2 a3,u= .agg #[jO f1 a1,jO f2 a2,jO f3 a3]/\BC TX K' (.wrap m d) (jO f1 a1) (jO f2 a2) (jO f3 a3)) w):=by
 rcases h with rfl|h
 .cases hx
 exact h
def WrD(x:Value)(d:Wr):Prop:=(ai0 x=false->d.dep=0)/\d.dep<=1
theorem A4{v u:Value}(k:Int)(l:List dV)(t:iT)(y:BitVec 64)(m:List Int)(h:v.cells=#[v])(h2:u.cells=#[u]):Tryz.prog.built 128 [(0,I k),(1,v),(2,.agg (jJ t).toArray),(3,U y),(4,u)]=some (qk ⟨k,v,l,t,y,u,m⟩).toArray:=
 (show Tryz.prog.built 128 [(0,I k),(1,v),(2,.agg (jJ t).toArray),(3,U y),(4,u)]=Instr.fill (#[(0,1),(1,1),(2,9),(11,1),(12,1)][·]?) #[I 0,.slice none 0 0,I 0,U 0,U 0,U 0,U 0,U 0,U 0,U 0,U 0,U 0,.slice none 0 0] [(0,I k),(1,v),(2,.agg (jJ t).toArray),(3,U y),(4,u)]from O).trans (by simp only[Instr.fill,h,h2];kernel_rfl)
def j9(fr:List bu)(W0:World)(n:Nat)(s:NP)(lg:List (Value×mw))(tm:List Int)(ids:List Nat)(f:Ct)(tl:List (Nat×Rl))(b c:Nat)(Z:List bu):Prop:=∃m L0 Zf,(m<=c+200*b/\lg.length<=c+4300000000*b/\tm.length<=c+b/\FF (20000000*b) f)/\kU (BG fr) ids f tl Zf/\VZ TX (Kz (Kw W0) L0) ids tl s.aq/\ZE (Kz (Kw W0) L0) s.qs/\(∀x∈lg,nh NX n L0 x)/\wD n m s lg tm Zf L0 Z
theorem La{α:Type}{l m:List α}(h:∀f:List α->Nat,(∀a b,f (a++b)=f a+f b)->f l=f m):l.Perm m:=by
 haveI:DecidableEq α:=fun a b=>Classical.propDecidable (a=b)
 rw[List.perm_iff_count]
 exact fun a=>h (List.count a) fun x y=>XY
theorem FW{n:Nat}{F:NF}{s:NP}{lg:List (Value×mw)}{tm:List Int}(X:List bu):NZ n F s lg tm X=NZ n F s lg tm []++X:=rfl
theorem j9.aur{fr A R Z:List bu}{W0 w:World}{n:Nat}{s:NP}{lg:List (Value×mw)}{tm:List Int}{ids:List Nat}{f:Ct}{tl:List (Nat×Rl)}{b c:Nat}(h:j9 fr W0 n s lg tm ids f tl b c Z)(hH:Hp W0 w (A++(Z++R))):∃Z2,j9 (A++(R++fr)) W0 n s lg tm ids f tl b c Z2/\Hp W0 w Z2:=by
 obtain⟨m,L0,Zf,hb,⟨Zt,ht,rfl⟩,h1,h2,h3,F,L,hI,hL,rfl⟩:=h
 refine⟨_,⟨m,L0,_,hb,⟨Zt,ht,rfl⟩,h1,h2,h3,F,L,hI,hL,rfl⟩,hH.perm (La fun g hg=> ?_)⟩
 rw[FW,FW (X:=F.us.map (dR 3)++((_++(A++(R++fr))++Zt)++L)),show ids.map (fun m=>sO (BG (A++(R++fr))) m (f m))=ids.map fun m=>sO (BG fr) m (f m)from O]
 simp only[hg]
 omega
theorem j9.out{fr A R Z:List bu}{W0 w:World}{n:Nat}{s:NP}{lg:List (Value×mw)}{tm:List Int}{ids:List Nat}{f:Ct}{tl:List (Nat×Rl)}{b c:Nat}(h:j9 (A++(R++fr)) W0 n s lg tm ids f tl b c Z)(hH:Hp W0 w Z):∃Z2,j9 fr W0 n s lg tm ids f tl b c Z2/\Hp W0 w (A++(Z2++R)):=by
 obtain⟨m,L0,Zf,hb,⟨Zt,ht,rfl⟩,h1,h2,h3,F,L,hI,hL,rfl⟩:=h
 refine⟨_,⟨m,L0,_,hb,⟨Zt,ht,rfl⟩,h1,h2,h3,F,L,hI,hL,rfl⟩,hH.perm (La fun g hg=> ?_)⟩
 rw[FW,FW (X:=F.us.map (dR 3)++((_++fr++Zt)++L)),show ids.map (fun m=>sO (BG (A++(R++fr))) m (f m))=ids.map fun m=>sO (BG fr) m (f m)from O]
 simp only[hg]
 omega
theorem j9.azF{fr A X Z:List bu}{W0 w:World}{n:Nat}{s:NP}{lg:List (Value×mw)}{tm:List Int}{ids:List Nat}{f:Ct}{tl:List (Nat×Rl)}{b c:Nat}(h:j9 fr W0 n s lg tm ids f tl b c Z)(hH:Hp W0 w (A++(Z++X))):∃m L0 Zf Z2,(m<=c+200*b/\lg.length<=c+4300000000*b/\tm.length<=c+b/\FF (20000000*b) f)/\kU (BG (A++([]++fr))) ids f tl Zf/\VZ TX (Kz (Kw W0) L0) ids tl s.aq/\ZE (Kz (Kw W0) L0) s.qs/\(∀x∈lg,nh NX n L0 x)/\wD n m s lg tm Zf L0 Z2/\Hp W0 w Z2/\∀b o,bu.blk b o∈X->bu.blk b o∈L0:=by
 obtain⟨m,L0,Zf,hb,⟨Zt,ht,rfl⟩,h1,h2,h3,F,L,hI,hL,rfl⟩:=h
 have hm:∀b o,bu.blk b o∈L0->bu.blk b o∈X++L0:=fun b o hb=>bH _ hb
 refine⟨m,X++L0,_,_,hb,⟨Zt,ht,rfl⟩,h1.mono (Le.zb hm),h2.mono (Le.zb hm),fun x hx=>(h3 x hx).EF hm,⟨F,X++L,⟨hI.fo.mono fun e he=>bH _ he,hI.us⟩,fun b o hb=> ?_,rfl⟩,hH.perm (La fun g hg=> ?_),fun b o hb=>dL _ hb⟩
 .rcases e8.1 hb with q|q
  .exact dL _ q
  exact bH _ (hL b o q)
 rw[FW,FW (X:=F.us.map (dR 3)++((_++(A++([]++fr))++Zt)++(X++L))),show ids.map (fun m=>sO (BG (A++([]++fr))) m (f m))=ids.map fun m=>sO (BG fr) m (f m)from O]
 simp only[hg,eN]
 omega
theorem WrF.cells{x:Value}{ids:List Nat}(h:WrF x ids):x.cells=#[x]:=by
 rcases h with rfl|⟨m,f,cs,rfl,_⟩<;>rfl
theorem WrF.one{x:Value}{ids:List Nat}(h:WrF x ids):x.oneCell'=true:=by
 rcases h with rfl|⟨m,f,cs,rfl,_⟩<;>rfl
theorem j9.new{fr A Zn Zf:List bu}{W0 w:World}{n:Nat}{x:Value}{ids:List Nat}{f:Ct}(hn:wD n 0 (NP.mk [] [] [] [] [] [] 0 [[]] false 0 x) [] [] [] [] Zn)(hz:kU (BG fr) ids f [] Zf)(hf:FF 0 f)(hH:Hp W0 w (Zn++(A++Zf))):∃Z,j9 fr W0 n (npL [] x) [] [] ids f [] 0 0 Z/\Hp W0 w (A++(Z++[])):=by
 obtain⟨F,L,hI,hL,rfl⟩:=hn
 refine⟨_,⟨0,[],Zf,⟨J,aJ,aJ,hf⟩,hz,(fun x hx=>by cases hx),(fun x hx=>by cases hx),(fun x hx=>by cases hx),F,L,hI,(fun b o h=>mH),rfl⟩,hH.perm (La fun g hg=> ?_)⟩
 have e:∀X,NZ n F (npL [] x) [] [] X=NZ n F (NP.mk [] [] [] [] [] [] 0 [[]] false 0 x) [] [] []++X:=fun X=>rfl
 rw[FW,e]
 simp only[hg]
 omega
theorem j9.more{fr Z:List bu}{W0:World}{n:Nat}{s:NP}{lg:List (Value×mw)}{tm:List Int}{ids:List Nat}{f:Ct}{tl:List (Nat×Rl)}{b c b' c':Nat}(h:j9 fr W0 n s lg tm ids f tl b c Z)(hb:b<=b')(hc:c<=c'):j9 fr W0 n s lg tm ids f tl b' c' Z:=by
 obtain⟨m,L0,Zf,⟨h1,h2,h3,h4⟩,h5⟩:=h
 exact⟨m,L0,Zf,⟨J,J,J,h4.mono J⟩,h5⟩
theorem aaH(k:Int)(e:El):Tryz.prog.built 90 [(0,I k),(2,.agg (iM e))]=some (kg ⟨k,0,e⟩).toArray:=by
 rw[ig];kernel_rfl
theorem OH(k v:Int):Tryz.prog.built 90 [(0,I k),(1,I v)]=some (kg ⟨k,v,dg⟩).toArray:=aP
theorem Du(v:Int):Tryz.prog.built 39 [(0,I v)]=some (jJ ⟨v,dg⟩).toArray:=aP
theorem aaI(s:lM){v:Value}(l:List iO)(h:v.cells=#[v]):Tryz.prog.built 28 [(0,.agg (IM s)),(1,v)]=some (xh ⟨s,v,l⟩).toArray:=
 (show Tryz.prog.built 28 [(0,.agg (IM s)),(1,v)]=Instr.fill (#[(0,2),(2,1)][·]?) #[.slice none 0 0,.slice none 0 0,.slice none 0 0] [(0,.agg (IM s)),(1,v)]from O).trans Yu
variable{fr:List bu}
variable{W0 w:World}{n m:Nat}{cs:List (List Nat)}{wr:Value}{vL:Value}{vt:Value}{vv:Value}{vy:Value}{vu:Value}{vq:Value}{sn:Int}{vW:Value}{vU:Value}{vT:Value}{cn:Int}{sk:Bool}{wy:BitVec 64}{vd:Value}{vm:Value}{cW:Option (Nat×Array Value)}{cU:Option (Nat×Array Value)}{W:List (BitVec 64)}{ul:List (Value×jS)}{ts:List Int}{aq:List pP}{bf:List Int}{ak:List El}{bq:List (BitVec 64)}{us:List j4}{qs:List dD}{lg:List (Value×mw)}{tm:List Int}{L:List bu}
theorem xG(W0:World)(b:Nat)(vg vo vl vn vs vf vq:Value)(cs:Option (Nat×Array Value))(od lo:List Int)(on:List Bool)(sk:List Int)(fr:List D7)(tm:Int)(kW:List Int)(L:List bu)(i:Int)(hl1:lo.length=od.length)(hl2:on.length=od.length)(hl3:kW.length=od.length)(hi:0<=i/\i<od.length)(ht:0<=tm/\tm<=1000000)(hsl:sk.length<=1000000)(hfl:fr.length<=1000000)(w:World)(hks:cO cs vs (sk.map I))(hH:Hp W0 w (.blk b (.cells #[vg,vo,vl,vn,vs,vf,I (tm),vq] 222 (0,0))::jW I vo 3 (od)::jW I vl 3 (lo)::jW B vn 4 (on)::cE cs vs 3 ((sk).map I)::wh GO 2 vf 233 (fr)::jW I vq 3 (kW)::L)):Calls Tryz.prog 187 #[.pointer (some ⟨b,0,none⟩),I i] w (jY fun u w'=>u= .tuple #[]/\∃vs' vf':Value,Hp W0 w' (.blk b (.cells #[vg,vo,vl,vn,vs',vf',I (tm+1),vq] 222 (0,0))::jW I vo 3 (od.set i.toNat (tm+1))::jW I vl 3 (lo.set i.toNat (tm+1))::jW B vn 4 (on.set i.toNat true)::cE none vs' 3 ((sk++[i]).map I)::wh GO 2 vf' 233 (fr++[⟨i,0⟩])::jW I vq 3 (kW)::L)):=by
 refine en func187 rfl rfl<|SR<|aE (v:=Pn _ _) rfl<|V (af O)<|V (fA fP 6 O aO O)<|lI bx hH 0 O O rfl<|V (ax O O J)<|V (af O)<|V (fA fP 6 O aO O)<|bk hH (i:=0) O (bM O O (v:=I _) O O O (hH.blk (i:=0) O) aJ)<|fun w1 bp=> ?_
 simp only[jh,kZ,nW,gO,Nat.reduceAdd]at bp
 refine aa<|ai<|fW (z:=⟨none,_,_,_,_,none⟩) aP O aP bp (sP (sQ (sQ sR)))<|fun w3 iw=>have EW:=iw.sub (sP (sQ (sQ sR)));AQ 0 O EW (mV (Pn _ _) O)<|AQ 1 O EW (af O)<|AQ 2 O EW (fA fP 1 O dH O)<|tV 3 O EW bD 0 O O rfl<|AQ 4 O EW (mV (I _) O)<|AQ 5 O EW (mV (Pn _ _) O)<|AQ 6 O EW (af O)<|AQ 7 O EW (fA fP 2 O dH O)<|tV 8 O EW bD 0 O O rfl<|AQ 9 O EW (mV (I _) O)<|AQ 10 O EW (mV (Pn _ _) O)<|AQ 11 O EW (af O)<|AQ 12 O EW (fA fP 3 O HS O)<|tV 13 O EW qY 0 O O rfl<|AQ 14 O EW (mV (I _) O)<|AQ 15 O EW (mV (Pn _ _) O)<|AQ 16 O EW (af O)<|AQ 17 O EW (fA fP 6 O aO O)<|tI 18 O EW bx 0 O O rfl<|AQ 19 O EW (mV (Pn _ _) O)<|AQ 20 O EW (af O)<|AQ 21 O EW (fA fP 6 O aO O)<|tI 22 O EW bx 0 O O rfl<|A1 23<|cf O aD O iw (sP (sQ (sQ sR))) (ah (iw.sl (i:=1) O) bD aO O O J)<|A1 24<|Zz O aD iw (i:=1) O (fun _=>(sP (sQ (sQ sR)))) J O O O O rfl<|fun w9 cg=>A1 25<|cf O aD O cg (sP (sQ (sQ sR))) (ah (cg.sl (i:=2) O) bD aO O O J)<|A1 26<|Zz O aD cg (i:=2) O (fun _=>(sP (sQ (sQ sR)))) J O O O O rfl<|fun Tm cI=>AT 27 O (cI.sub (sP (sQ (sQ sR)))) (fun w hS=>ah (hS.sl (i:=1) O) qY oq O O J)<|AD<|rD (a:=true) cI (i:=3) O J O O O O rfl<|fun Tp dP=>aa<|SR<|aE (v:=Pn _ _) rfl<|aE (v:=Pn _ _) rfl<|V (af O)<|V (fA fP 4 O dH O)<|lV bD dP 0 O O rfl<|mI rfl<|tR 1 1 dP (cB bD O O (sz:=1) (vs:=[I _]) O O az az O O)<|fun b21 Tq cT=> ?_
 (try simp only[lj]at cT)
 refine asD O cT (i:=5) O hks (cT.dS (i:=0) (n:=1) (sz:=1) O O az) O O bD O O (bytes:=8) O O O O J az<|fun v22 w23 gY=>V (af O)<|V (fA fP 4 O dH O)<|bk gY (i:=1) O (bM O O (v:=v22) O (iq (gY.BB (i:=5) O trivial)).2 (iq (gY.BB (i:=5) O trivial)).1 (gY.blk (i:=1) O) aJ)<|fun w25 jg=> ?_
 simp only[jh,kZ,nW,gO,Nat.reduceAdd]at jg
 refine aa<|au<|aE (v:=Pn _ _) rfl<|aE (v:=Pn _ _) rfl<|V (af O)<|V (fA fP 5 O qc O)<|lV mZ jg 1 O O rfl<|mI rfl<|V (dI (vs:=[(0,I _)]) O (TJ _))<|tR 1 1 jg (ox ng mZ O O O (l:=[_]) O az az O)<|fun b29 w27 iJ=>asC ng az O iJ (i:=7) O (Hp.iu ng iJ (i:=0) (l:=[_]) O gd) O O mZ O O (bytes:=16) O O O aiC J az<|fun v30 w31 iC=>V (af O)<|V (fA fP 5 O qc O)<|bk iC (i:=2) O (bM O O (v:=v30) O (a6 (iC.get (i:=7) O)).1 (a6 (iC.get (i:=7) O)).2 (iC.blk (i:=2) O) aJ)<|fun w33 lF=> ?_
 simp only[jh,kZ,nW,gO,Nat.reduceAdd]at lF
 refine aa<|rh O ⟨rfl,v22,v30,(lF.sub (sQ (sQ sR)))⟩
theorem Hr(W0:World)(b:Nat)(vg vo vl vn vs vf vq:Value)(cs:Option (Nat×Array Value))(od lo:List Int)(on:List Bool)(s1 s2:List Int)(a:Int)(fr:List D7)(tm:Int)(kW:List Int)(L:List bu)(hl1:lo.length=od.length)(hl2:on.length=od.length)(hl3:kW.length=od.length)(hsl:s1.length+s2.length<=1000000)(hna:a∉s2)(hin:∀x∈((a:Int)::s2),0<=x/\x<od.length)(w:World)(hks:cO cs vs ((s1++((a:Int)::s2)).map I))(hH:Hp W0 w (.blk b (.cells #[vg,vo,vl,vn,vs,vf,I (tm),vq] 222 (0,0))::jW I vo 3 (od)::jW I vl 3 (lo)::jW B vn 4 (on)::cE cs vs 3 (((s1++((a:Int)::s2))).map I)::wh GO 2 vf 233 (fr)::jW I vq 3 (kW)::L)):Calls Tryz.prog 188 #[.pointer (some ⟨b,0,none⟩),I a] w (jY fun u w'=>u= .tuple #[]/\∃cs':Option (Nat×Array Value),cO cs' (tG vs s1.length) (s1.map I)/\Hp W0 w' (.blk b (.cells #[vg,vo,vl,vn,(tG vs s1.length),vf,I (tm),vq] 222 (0,0))::jW I vo 3 (od)::jW I vl 3 (lo)::jW B vn 4 (gE on ((a:Int)::s2) false)::cE cs' (tG vs s1.length) 3 ((s1).map I)::wh GO 2 vf 233 (fr)::jW I vq 3 (gE kW ((a:Int)::s2) (CN a ((a:Int)::s2)))::L)):=by
 have aPw:((a:Int)::s2).length=s2.length+1:=rfl
 refine en func188 rfl rfl<|SR<|aE (v:=Pn _ _) rfl<|V (af O)<|V (fA fP 4 O dH O)<|lV bD hH 0 O O rfl<|V (aC (hH.BB (i:=4) O hks) O bD O)<|V (eO O O iY)<|aI rfl<|aa<|ai<|aA<|bt (G:=Int) (fun k s' w'=>(Fr (4::(rg 17 11 [])) _ s')/\(Hp W0 w' _)/\(s' 4=I k)/\((s1.length:Int)<=k)/\(k<=s1.length+s2.length)) (fun k=>(k-s1.length).toNat) (((s1++((a:Int)::s2)).length:Int)-1) ⟨Fr.refl _ _,hH,(aK I aJ),iY,iY⟩<| ?_
 rintro k sg1 w1 ⟨uJ,jf,Ay,k0,k1⟩
 obtain⟨my,AA⟩:=uJ.w2 0 1
 refine ai<|SR<|aE my<|V (af O)<|V (fA fP 4 O dH O)<|lV bD jf 0 O O rfl<|aE Ay<|V (ah (jf.BB (i:=4) O hks) bD aO O O iY)<|V (aG bx O O ((jf.BB (i:=4) O hks).cell _ _ (eS iY)))<|aE AA<|V (jZ O O)<|aa<|aF O (fun h3=> ?_) (fun h3=> ?_)
 .refine an<|aA<|au<|aE Ay<|V (eO O O J)<|aI rfl<|aa<| ?_
  refine⟨k-1,?_,uJ.u4.u4.u4,jf,(aK I aL),?_,J⟩
  ·(have:=ait ‹_≠a› k0;omega)
  (have:=ait ‹_≠a› k0;omega)
 refine a8 (id:=0) rfl<|SR<|aE my<|V (af O)<|V (fA fP 4 O dH O)<|lV bD jf 0 O O rfl<|aE Ay<|have ek:=asE hna (Rm.1 ‹¬_≠a›) k0 k1;V (gD (jf.BB (i:=4) O hks) bD aO O O iY)<| ?_
 refine V (run_assign bA) ?_
 refine aa<|SR<|aE AA<|aI rfl<|aa<|ai<|SR<| ?_
 refine V (run_move bA) ?_
 refine V (aC (DX (s1:=s1) (a:=a) (s2:=s2) J (jf.BB (i:=4) O hks)) O bD O)<|aE (v:=I 0) rfl<|aa<|aA<|bt (G:=Int) (fun q s' w'=>(Fr (6::(8::(rg 37 8 []))) _ s')/\(Hp W0 w' _)/\(s' 6=I (CN a (((a:Int)::s2).take q.toNat)))/\(s' 37=I q)/\(0<=q)/\(q<=((a:Int)::s2).length)) (fun q=>(((a:Int)::s2).length-q).toNat) (0) ⟨Fr.refl _ _,jf,rfl,rfl,J,J⟩<| ?_
 rintro q sg4 w4 ⟨C1,iw,FP,akH,q0,q1⟩
 obtain⟨G3,azH,azI⟩:=C1.w3 5 35 36
 obtain⟨aeH,Wo⟩:=C1.t2 0 my 4 Ay
 refine SR<|V (aN akH azI)<|aa<|ai<|aF O (fun h6=> ?_) (fun h6=> ?_)
 .refine an<|ai<|aA<|SR<|V (ah (DX (s1:=s1) (a:=a) (s2:=s2) J (iw.BB (i:=4) O hks)) bD aO azH akH J)<|V (aG bx O O ((DX (s1:=s1) (a:=a) (s2:=s2) J (iw.BB (i:=4) O hks)).cell _ _ (eS J)))<|aI rfl<|aa<|au<|aE FP<|mI rfl<|V (vA O O)<|aI rfl<|aa<|au<|V (ax akH O J)<|mI rfl<|aa<| ?_
  refine⟨q+1,aW,C1.u4.u4.u1.u1,iw,(aK I (aek q0 J).symm),(aK I aL),J,J⟩
 refine a8 (id:=2) rfl<|ai<|SR<|aE G3<|V (aC (DX (s1:=s1) (a:=a) (s2:=s2) J (iw.BB (i:=4) O hks)) O bD O)<|aE (v:=I 0) rfl<|aa<|aA<|have hq:((a:Int)::s2).take q.toNat=((a:Int)::s2):=jm J;bt (G:=Int×(List Bool)×(List Int)) (fun⟨q2,JW,JX⟩ s' w'=>(Fr (10::(rg 47 18 [])) _ s')/\(Hp W0 w' (_::_::_::jW B vn 4 JW::_::_::jW I vq 3 JX::_))/\(s' 47=I q2)/\(0<=q2)/\(q2<=((a:Int)::s2).length)/\(JW=gE on (((a:Int)::s2).take q2.toNat) false)/\(JX=gE kW (((a:Int)::s2).take q2.toNat) (CN a ((a:Int)::s2)))) (fun⟨q2,JW,JX⟩=>(((a:Int)::s2).length-q2).toNat) ((0,on,kW)) ⟨Fr.refl _ _,iw,rfl,J,J,rfl,rfl⟩<| ?_
 rintro⟨q2,JW,JX⟩ sg7 w7 ⟨Ed,eE,akI,r0,r1,hon,hof⟩
 obtain⟨azJ,azK⟩:=Ed.w2 45 46
 obtain⟨FY,Je,aj1⟩:=Ed.t3 0 aeH 4 Wo 6 FP
 have l3:JW.length=od.length:=by rw[hon,je];exact hl2
 have l4:JX.length=od.length:=by rw[hof,je];exact hl3
 refine SR<|V (aN akI azK)<|aa<|ai<|aF O (fun h9=> ?_) (fun h9=> ?_)
 .refine an<|ai<|aA<|SR<|V (ah (DX (s1:=s1) (a:=a) (s2:=s2) J (eE.BB (i:=4) O hks)) bD aO azJ akI J)<|V (aG bx O O ((DX (s1:=s1) (a:=a) (s2:=s2) J (eE.BB (i:=4) O hks)).cell _ _ (eS J)))<|aI rfl<|aa<|have hix:=hin _ (dy (d:=0) r0 ‹q2<_›);fW (z:=⟨none,_,_,_,_,none⟩) aP O aP eE (sP (sP (sP (sP (sP (sP (sQ sR)))))))<|fun EL df=>have iQ:=df.sub (sP (sP (sP (sP (sP (sP (sQ sR)))))));AQ 0 O iQ (run_move FY)<|AQ 1 O iQ (af O)<|AQ 2 O iQ (fA fP 7 O dH O)<|tV 3 O iQ bD 0 O O rfl<|AQ 4 O iQ (mV (I _) O)<|AQ 5 O iQ (run_move FY)<|AQ 6 O iQ (af O)<|AQ 7 O iQ (fA fP 3 O HS O)<|tV 8 O iQ qY 0 O O rfl<|AQ 9 O iQ (mV (I _) O)<|AQ 10 O iQ (run_move aj1)<|A1 11<|cf O aD O df (sP (sP (sP (sP (sP (sP (sQ sR))))))) (ah (df.sl (i:=6) O) bD aO O O J)<|A1 12<|Zz O aD df (i:=6) O (fun _=>(sP (sP (sP (sP (sP (sP (sQ sR)))))))) J O O O O rfl<|fun Ja er=>AT 13 O (er.sub (sP (sP (sP (sP (sP (sP (sQ sR)))))))) (fun w hS=>ah (hS.sl (i:=3) O) qY oq O O J)<|AD<|rD (a:=false) er (i:=3) O J O O O O rfl<|fun K9 iD=>aa<|au<|V (ax akI O J)<|mI rfl<|aa<| ?_
  refine⟨(q2+1,_,_),aW,Ed.u4.u4.u4.u4.u1.u1.u1,(Hp.conv iD aL),(aK I aL),J,J,?_,?_⟩
  .rw[CM r0 J,<-hon]
  rw[CM r0 J,<-hof,hq]
 refine a8 (id:=4) rfl<|au<|aE FY<|aE FY<|V (af O)<|V (fA fP 4 O dH O)<|lV bD eE 0 O O rfl<|aE Je<|aE Je<|V (vZ (eE.BB (i:=4) O hks) bD aO O O O iY)<|V (af O)<|V (fA fP 4 O dH O)<|have hs1:=((eE.BB (i:=4) O hks)).tG (n:=k.toNat) iY;?_
 obtain⟨c20,aus,cF⟩:=eE.ase (i:=4) O hks (m:=k.toNat) iY
 simp only[jh,kZ,<-Ca]at cF aus
 refine bk cF (i:=0) O (bM O O (v:=tG vs k.toNat) O (iq hs1).2 (iq hs1).1 (cF.blk (i:=0) O) aJ)<|fun w23 gY=> ?_
 simp only[jh,kZ,nW,gO,Nat.reduceAdd]at gY
 refine aa<|have ek:k.toNat=s1.length:=J;?_
 rw[ek,ve]at gY aus
 have eq2:((a:Int)::s2).take q2.toNat=((a:Int)::s2):=jm J
 rw[eq2]at hon hof
 rw[hon,hof]at gY
 exact rh O ⟨rfl,c20,aus,gY⟩
set_option maxHeartbeats 2000000 in
theorem Jk(W0:World)(b:Nat)(vg vo vl vn vs vf vq:Value)(cs:Option (Nat×Array Value))(gr:List j4)(od lo:List Int)(on:List Bool)(tm:Int)(kW:List Int)(nx:Nat->Nat)(K:Vu)(L:List bu)(i:Int)(hgn:gr.length<=100000)(hS:rQ (qh gr) od lo on tm kW [] nx)(hi:0<=i/\i<od.length)(h0:oS od i.toNat=0)(w:World)(hK:Le K (Kw W0))(hg:GrV K vg gr)(hks:cO cs vs (([]:List Int).map I))(hH:Hp W0 w (.blk b (.cells #[vg,vo,vl,vn,vs,vf,I (tm),vq] 222 (0,0))::jW I vo 3 (od)::jW I vl 3 (lo)::jW B vn 4 (on)::cE cs vs 3 ([].map I)::wh GO 2 vf 233 []::jW I vq 3 (kW)::L)):Calls Tryz.prog 155 #[.pointer (some ⟨b,0,none⟩),I i] w (jY fun u w'=>u= .tuple #[]/\∃(EI Py:Value) (FG:Option (Nat×Array Value)) (W8:Nat->Nat) (BX lo1:List Int) (JW:List Bool) (Lc:Int) (JX:List Int),rQ (qh gr) BX lo1 JW Lc JX [] W8/\cO FG EI (([]:List Int).map I)/\(oS BX i.toNat≠0/\∀k,oS od k≠0->oS BX k≠0)/\Hp W0 w' (.blk b (.cells #[vg,vo,vl,vn,EI,Py,I (Lc),vq] 222 (0,0))::jW I vo 3 (BX)::jW I vl 3 (lo1)::jW B vn 4 (JW)::cE FG EI 3 (([]).map I)::wh GO 2 Py 233 ([])::jW I vq 3 (JX)::L)):=by
 have hr0:=hS.room
 rw[gA]at hr0
 refine en func155 rfl rfl<|Zk<|SR<|aE (v:=Pn _ _) rfl<|mI rfl<|cD O (xG _ _ _ _ _ _ _ _ _ _ _ _ _ _ _ _ _ _ _ (by have:=hS.llo;have:=hS.T7;omega) (by have:=hS.lon;have:=hS.T7;omega) (by have:=hS.lof;have:=hS.T7;omega) hi J (by simp[fI,NI]) (by simp[pO]) _ hks hH) (aM call187 O O)<| ?_
 rintro _ w3 ⟨rfl,v5,v6,iw⟩
 have hS1:=hS.first (a:=i.toNat) (by rw[<-hS.T7];omega) h0
 rw[show i=((i.toNat:Nat):Int)by omega,show([]:List Int)++[((i.toNat:Nat):Int)]=NI (fI [(i.toNat,[])]).reverse from aiD (F:=[]),show([]:List D7)++[⟨((i.toNat:Nat):Int),0⟩]=pO [(i.toNat,[])] nx from aiE (F:=[]) (hS.nx0 _ h0)]at iw
 simp only[eC]at iw
 refine aa<|ai<|Zl<|aA<| ?_
 refine bt (G:=T6×(Nat->Nat)×Value×Value×(Option (Nat×Array Value))×(List Int)×(List Int)×(List Bool)×Int×(List Int)) (fun⟨F,W8,EI,Py,FG,BX,lo1,JW,Lc,JX⟩ s' w'=>(Fr (rg 4 5 (rg 12 173 [])) _ s')/\(Hp W0 w' (.blk b (.cells #[vg,vo,vl,vn,EI,Py,I (Lc),vq] 222 (0,0))::jW I vo 3 (BX)::jW I vl 3 (lo1)::jW B vn 4 (JW)::cE FG EI 3 ((NI (fI F).reverse).map I)::wh GO 2 Py 233 (pO F W8)::jW I vq 3 (JX)::_))/\(rQ (qh gr) BX lo1 JW Lc JX F W8)/\(cO FG EI ((NI (fI F).reverse).map I))/\(oS BX i.toNat≠0/\∀k,oS od k≠0->oS BX k≠0)) (fun⟨F,W8,EI,Py,FG,BX,lo1,JW,Lc,JX⟩=>2*BX.count 0+F.length) (([(i.toNat,[])],nx,v5,v6,none,od.set i.toNat (tm+1),lo.set i.toNat (tm+1),on.set i.toNat true,tm+1,kW)) ⟨Fr.refl _ _,iw,hS1,trivial,⟨by rw[Au J];unfold oC;rw[aX O];omega,fun k hk=>by rw[Au J];unfold oC;split<;>omega⟩⟩ ?_
 rintro⟨F,W8,EI,Py,FG,BX,lo1,JW,Lc,JX⟩ sg7 w7 ⟨Ed,eE,hS,aaK,hdn⟩
 have FY:=Ed.w1 0
 refine ai<|SR<|aE FY<|V (af O)<|V (fA fP 5 O qc O)<|lV mZ eE 0 O O rfl<|V (aC (eE.sl (i:=5) O) O mZ O)<|V (dN O O)<|aa<|aF O (fun h9=> ?_) (fun h9=> ?_)
 .refine an<|aA<|ai<| ?_
  obtain⟨a,sg,F0,rfl⟩:=asK (F:=F) (nx:=W8) J
  have han:=hS.Fp
  rw[gA]at han
  have q0:=hS.T7;rw[gA]at q0
  have q1:=hS.llo;rw[gA]at q1
  have q2:=hS.lon;rw[gA]at q2
  have q3:=hS.lof;rw[gA]at q3
  have hrm:=hS.room
  rw[gA]at hrm
  have hst:=abR hS
  rw[gA]at hst
  have hfs:=anl hS
  simp only[fw]at hfs
  have hlen:((pO ((a,sg)::F0) W8).length:Int)-1=F0.length:=by rw[oP];simp
  have hfa:(pO ((a,sg)::F0) W8).getD (F0.length:Int).toNat Kf=⟨a,W8 a⟩:=S2
  refine ed aP eE<|fun EL df=>have iQ:=df;AQ 0 O iQ (run_move FY)<|AQ 1 O iQ (af O)<|AQ 2 O iQ (fA fP 5 O qc O)<|tV 3 O iQ mZ 0 O O rfl<|AQ 4 O iQ (run_move FY)<|AQ 5 O iQ (af O)<|AQ 6 O iQ (fA fP 5 O qc O)<|tV 7 O iQ mZ 0 O O rfl<|AT 8 O iQ (fun w hS=>aC (hS.sl (i:=5) O) O mZ O)<|AQ 9 O iQ (eO O O J)<|AT 10 O iQ (fun w hS=>ah (hS.sl (i:=5) O) mZ LG O (aK I hlen) J)<|AQ 11 O iQ (aV (Pn _ _) O)<|AD<|SR<|aE (v:=Pn _ _) rfl<|V (af O)<|V (fA E9 0 O aO O)<|V (gC (dv:=Kf) (off:=0) ng (df.sl (i:=5) O) bx O O J O)<|V (run_assign (show _=I (a:Int)from aK (fun x:D7=>I x.node) hfa))<|aa<|ai<|aA<|bt (G:=(Nat->Nat)×(List Int)) (fun⟨wF,Ld⟩ s' w'=>(Fr (6::(rg 33 83 [])) _ s')/\(Hp W0 w' (_::_::jW I vl 3 Ld::_::_::wh GO 2 Py 233 (pO ((a,sg)::F0) wF)::_))/\(rQ (qh gr) BX Ld JW Lc JX ((a,sg)::F0) wF)) (fun⟨wF,Ld⟩=>(gr.getD (a:Int).toNat de).l.length-wF a) ((W8,lo1)) ⟨Fr.refl _ _,df,hS⟩<| ?_
  rintro⟨wF,Ld⟩ aab zc ⟨mj,cP,hS⟩
  obtain⟨tW,mD⟩:=mj.w2 4 5
  have lH:=mj.t1 0 FY
  have hlen:((pO ((a,sg)::F0) wF).length:Int)-1=F0.length:=by rw[oP];simp
  have hfa:(pO ((a,sg)::F0) wF).getD (F0.length:Int).toNat Kf=⟨a,wF a⟩:=S2
  have q1:=hS.llo;rw[gA]at q1
  have hml:=(hg.row (k:=(a:Int)) J J).small
  unfold maxLen at hml
  refine ai<|ai<|ed aP cP<|fun C2 cG=>have yx:=cG;AQ 0 O yx (run_move tW)<|AQ 1 O yx (af O)<|AQ 2 O yx (fA E9 1 O aO O)<|AT 3 O yx (fun w hS=>gC (dv:=Kf) (off:=1) ng (hS.sl (i:=5) O) bx O O J O)<|AQ 4 O yx (run_move lH)<|AQ 5 O yx (af O)<|AQ 6 O yx (fA fP 0 O zN O)<|tV 7 O yx pF 0 O O rfl<|AQ 8 O yx (run_move mD)<|AT 9 O yx (fun w hS=>ah (hg.1.mono (Le.trans hK hS.kw)).sl pF dH O O J)<|AT 10 O yx (fun w hS=>aG bD O O ((hg.1.mono (Le.trans hK hS.kw)).sl.cell _ _ (hg.at J)))<|AT 11 O yx (fun w hS=>aC ((hg.row (k:=(a:Int)) J J).mono (Le.trans hK hS.kw)).sl O bD O)<|AQ 12 O yx (aN (show _=I (wF a:Int)from aK (fun x:D7=>I x.next) hfa) O)<|AD<|aF O (fun ym=> ?_) (fun ym=> ?_)
  .refine an<|aA<|ai<|ed aP cG<|fun Tp dP=>have qR:=dP;AQ 0 O qR (run_move lH)<|AQ 1 O qR (af O)<|AQ 2 O qR (fA fP 0 O zN O)<|tV 3 O qR pF 0 O O rfl<|AQ 4 O qR (run_move mD)<|AT 5 O qR (fun w hS=>ah (hg.1.mono (Le.trans hK hS.kw)).sl pF dH O O J)<|AT 6 O qR (fun w hS=>aG bD O O ((hg.1.mono (Le.trans hK hS.kw)).sl.cell _ _ (hg.at J)))<|AQ 7 O qR (run_move tW)<|AQ 8 O qR (af O)<|AQ 9 O qR (fA E9 1 O aO O)<|AT 10 O qR (fun w hS=>gC (dv:=Kf) (off:=1) ng (hS.sl (i:=5) O) bx O O J O)<|AT 11 O qR (fun w hS=>ah ((hg.row (k:=(a:Int)) J J).mono (Le.trans hK hS.kw)).sl bD aO O (show _=I (wF a:Int)from aK (fun x:D7=>I x.next) hfa) J)<|AT 12 O qR (fun w hS=>aG bx O O (((hg.row (k:=(a:Int)) J J).mono (Le.trans hK hS.kw)).sl.cell _ _ (eS J)))<|AQ 13 O qR (aV (I _) O)<|AD<|SR<|aE tW<|V (af O)<|V (fA E9 1 O aO O)<|V (gC (dv:=Kf) (off:=1) ng (dP.sl (i:=5) O) bx O O J O)<|V (ax (show _=I (wF a:Int)from aK (fun x:D7=>I x.next) hfa) O J)<|V (af O)<|V (fA E9 1 O aO O)<|asA (a:=Kf) (u:=I ((wF a:Int)+1)) (b:=⟨((pO ((a,sg)::F0) wF).getD (F0.length:Int).toNat Kf).node,(wF a:Int)+1⟩) ng dP (i:=5) O HZ O O O O O az rfl<|fun Tq cT=> ?_
   rw[hfa,eC,aiB hS]at cT
   refine aa<|ai<|SR<|mI rfl<|V (aN O O)<|mB rfl<|bK 68 O (fun h22=> ?_) (fun h22=> ?_)
   .refine aE (v:=B true) rfl<|aa<|ct rfl<|a8 (id:=3) rfl<| ?_
    refine⟨(qN wF a,Ld),?_,mj.u4.u4.u4.u4.u4.u4.u4.u4.u4.u4.u4.u1,(Hp.conv cT aL),?_⟩
    ·(show(gr.getD (a:Int).toNat de).l.length-qN wF a a<(gr.getD (a:Int).toNat de).l.length-wF a;unfold qN;rw[aX O];omega)
    exact hS.skip fun⟨j,h1,h2⟩=>by rw[FH]at h2;rw[gA]at h1;have e:((gr.getD (a:Int).toNat de).l.getD (wF a:Int).toNat 0)=j:=h2;omega
   refine mI rfl<|aE lH<|V (af O)<|V (fA fP 0 O zN O)<|lV pF cT 0 O O rfl<|V (aC (hg.1.mono (Le.trans hK cT.kw)).sl O pF O)<|V (dF O O)<|mB rfl<|aa<|aF O (fun xu=> ?_) (fun xu=> ?_)
   .refine a8 (id:=3) O ?_
    refine⟨(qN wF a,Ld),?_,mj.u4.u4.u4.u4.u4.u4.u4.u4.u4.u4.u4.u1,(Hp.conv cT aL),?_⟩
    ·(show(gr.getD (a:Int).toNat de).l.length-qN wF a a<(gr.getD (a:Int).toNat de).l.length-wF a;unfold qN;rw[aX O];omega)
    exact hS.skip fun⟨j,h1,h2⟩=>by rw[FH]at h2;rw[gA]at h1;have e:((gr.getD (a:Int).toNat de).l.getD (wF a:Int).toNat 0)=j:=h2;omega
   refine an<|ai<|SR<| ?_
   obtain⟨j,hj⟩:∃j:Nat,((gr.getD (a:Int).toNat de).l.getD (wF a:Int).toNat 0)=(j:Int):=⟨_,(gk J).symm⟩
   have hjn:((qh gr).getD a []).getD (wF a) 0=(j:Int):=by rw[FH];exact hj
   have hjr:j<(qh gr).length:=by rw[gA];omega
   have hlt:wF a<((qh gr).getD a []).length:=by rw[FH];show wF a<(gr.getD (a:Int).toNat de).l.length;omega
   refine aE lH<|V (af O)<|V (fA fP 1 O dH O)<|lV bD cT 0 O O rfl<|mI rfl<|V (ah (cT.sl (i:=1) O) bD aO O (aK I hj) J)<|V (aG bx O O ((cT.sl (i:=1) O).cell _ _ (eS J)))<|V (bV O O)<|aa<|aF O (fun Wt=> ?_) (fun Wt=> ?_)
   .refine SR<|have h0j:oS BX j=0:=‹BX.getD (j:Int).toNat 0=0›;aE lH<|mI rfl<|cD O (xG _ _ _ _ _ _ _ _ _ _ _ _ _ _ _ _ _ _ _ J J J J J (by simp only[NI,gF,List.length_reverse];omega) HZ _ aaK cT) (aM call187 O (aK I hj))<| ?_
    rintro _ w29 ⟨rfl,v31,v32,iW⟩
    have hS1:=hS.enter (a:=j) hlt hjn J h0j
    rw[aiD,aiE (S1 hS j h0j)]at iW
    simp only[eC]at iW
    refine aa<|a8 (id:=1) rfl<| ?_
    refine⟨(((j,[])::(a,sg)::F0),qN wF a,v31,v32,none,BX.set j (Lc+1),Ld.set j (Lc+1),JW.set j true,Lc+1,JX),?_,(((Ed.u4.u4.u4.u4.u4.u1.u1.u1).t mj O)).u4.u4.u4.u4.u4.u4.u4.u4.u4.u4.u4.u4.u4.u4,(Hp.conv iW aL),?_,?_,?_⟩
    ·(have c1:=hS.cnt;have c2:=hS1.cnt;simp only[fw];omega)
    .exact hS1
    .exact trivial
    (refine⟨?_,fun k hk=> ?_⟩<;>(rw[Au J];unfold oC;split<;>first|omega|exact hdn.2 k hk))
   refine an<|SR<|aE lH<|V (af O)<|V (fA fP 3 O HS O)<|lV qY cT 0 O O rfl<|mI rfl<|V (ah (cT.sl (i:=3) O) qY oq O (aK I hj) J)<|V (aG qZ O O ((cT.sl (i:=3) O).cell _ _ (lN (dv:=false) J)))<|aa<|bW O (fun h34=> ?_) (fun h34=> ?_)
   .refine fW (z:=⟨none,_,_,_,_,none⟩) aP O aP cT sR<|fun w35 j7=>have sY:=j7;AQ 0 O sY (run_move lH)<|AQ 1 O sY (af O)<|AQ 2 O sY (fA fP 2 O dH O)<|tV 3 O sY bD 0 O O rfl<|AQ 4 O sY (run_move mD)<|AQ 5 O sY (run_move lH)<|AQ 6 O sY (af O)<|AQ 7 O sY (fA fP 2 O dH O)<|tV 8 O sY bD 0 O O rfl<|AQ 9 O sY (run_move mD)<|AT 10 O sY (fun w hS=>ah (hS.sl (i:=2) O) bD aO O O J)<|AT 11 O sY (fun w hS=>aG bx O O ((hS.sl (i:=2) O).cell _ _ (eS J)))<|AQ 12 O sY (run_move lH)<|AQ 13 O sY (af O)<|AQ 14 O sY (fA fP 1 O dH O)<|tV 15 O sY bD 0 O O rfl<|AQ 16 O sY (mV (I _) O)<|AT 17 O sY (fun w hS=>ah (hS.sl (i:=1) O) bD aO O (aK I hj) J)<|AT 18 O sY (fun w hS=>aG bx O O ((hS.sl (i:=1) O).cell _ _ (eS J)))<|AQ 19 O sY (vA O O)<|AT 20 O sY (fun w hS=>ah (hS.sl (i:=2) O) bD aO O O J)<|AD<|rD j7 (i:=2) O J O O O O rfl<|fun w37 ux=>aa<| ?_
    refine⟨(qN wF a,Ld.set a (min (oS Ld a) (oS BX j))),?_,mj.u4.u4.u4.u4.u4.u4.u4.u4.u4.u4.u4.u4.u4.u4.u4.u4.u4.u4.u4.u4.u1,(Hp.conv ux aL),?_⟩
    ·(show(gr.getD (a:Int).toNat de).l.length-qN wF a a<(gr.getD (a:Int).toNat de).l.length-wF a;unfold qN;rw[aX O];omega)
    exact hS.arc hlt hjr hjn ‹_=true›
   refine an ?_
   refine⟨(qN wF a,Ld),?_,mj.u4.u4.u4.u4.u4.u4.u4.u4.u4.u4.u4.u4.u4.u4.u4,(Hp.conv cT aL),?_⟩
   ·(show(gr.getD (a:Int).toNat de).l.length-qN wF a a<(gr.getD (a:Int).toNat de).l.length-wF a;unfold qN;rw[aX O];omega)
   exact hS.shut hlt hjr hjn ‹¬BX.getD (j:Int).toNat 0=0› ku
  refine a8 (id:=2) rfl<|ai<|ai<|have hnd:¬wF a<((qh gr).getD a []).length:=(by rw[FH];show¬wF a<(gr.getD (a:Int).toNat de).l.length;omega);ed aP cG<|fun w39 lG=>have wC:=lG;AQ 0 O wC (run_move lH)<|AQ 1 O wC (af O)<|AQ 2 O wC (fA fP 2 O dH O)<|tV 3 O wC bD 0 O O rfl<|AQ 4 O wC (run_move mD)<|AT 5 O wC (fun w hS=>ah (hS.sl (i:=2) O) bD aO O O J)<|AT 6 O wC (fun w hS=>aG bx O O ((hS.sl (i:=2) O).cell _ _ (eS J)))<|AQ 7 O wC (run_move lH)<|AQ 8 O wC (af O)<|AQ 9 O wC (fA fP 1 O dH O)<|tV 10 O wC bD 0 O O rfl<|AQ 11 O wC (run_move mD)<|AT 12 O wC (fun w hS=>ah (hS.sl (i:=1) O) bD aO O O J)<|AT 13 O wC (fun w hS=>aG bx O O ((hS.sl (i:=1) O).cell _ _ (eS J)))<|AQ 14 O wC (bV O O)<|AD<|aF O (fun h42=> ?_) (fun h42=> ?_)
  .refine au<|aE lH<|aE mD<|have oy:oS Ld a=oS BX a:=‹Ld.getD (a:Int).toNat 0=BX.getD (a:Int).toNat 0›;have azN:=aaK;have mo:=lG;?_
   rw[abQ]at azN mo
   refine cD O (Hr _ _ _ _ _ _ _ _ _ _ _ _ _ _ _ _ _ _ _ _ J J J (by have:=abR hS;have e:=aK List.length (gQ (a:=a) (sg:=sg) (F:=F0));simp only[ec,fw]at e;simp only[NI,gF,List.length_reverse];omega) hS.asa (fun x hx=>by obtain⟨k,hk,rfl⟩:=abP (l:=a::sg.reverse) hx;have:=(hS.lt k (by rw[gQ];simp at hk⊢;exact hk.elim (fun q=> .inr (.inl q)) .inl)).1;rw[gA]at this;omega) _ azN mo) (aM call188 O O) ?_
   rintro _ w46 ⟨rfl,c48,azO,oY⟩
   have hS2:=hS.axu (ks:=(a:Int)::NI sg.reverse) hnd oy O
   refine aa<|ai<|fW (z:=⟨none,_,_,_,_,none⟩) aP O aP oY sR<|fun w50 rX=>have tY:=rX;AQ 0 O tY (run_move lH)<|AQ 1 O tY (run_move lH)<|AQ 2 O tY (af O)<|AQ 3 O tY (fA fP 5 O qc O)<|tV 4 O tY mZ 0 O O rfl<|AQ 5 O tY (run_move lH)<|AQ 6 O tY (af O)<|AQ 7 O tY (fA fP 5 O qc O)<|tV 8 O tY mZ 0 O O rfl<|AT 9 O tY (fun w hS=>aC (hS.sl (i:=5) O) O mZ O)<|AQ 10 O tY (eO O O J)<|A1 11<|cf O aD O rX sR (p5 (rX.sl (i:=5) O) mZ LG O (aK I hlen) (by(simp only[oP,fw];omega)))<|AQ 12 O tY (af O)<|AQ 13 O tY (fA fP 5 O qc O)<|AD<|have ni:=Hp.axl ng rX (i:=5) O (m:=F0.length) (by(simp only[oP,fw];omega));bk ni (i:=0) O (bM O O (v:=(uL Py (F0.length))) O (a6 (ni.get (i:=5) O)).1 (a6 (ni.get (i:=5) O)).2 (ni.blk (i:=0) O) aJ)<|fun w54 jC=> ?_
   simp only[jh,kZ,nW,gO,Nat.reduceAdd]at jC
   rw[VN]at jC
   refine aa<|SR<|aE lH<|V (af O)<|V (fA fP 5 O qc O)<|lV mZ jC 0 O O rfl<|V (aC (jC.sl (i:=5) O) O mZ O)<|V (run_assign (aK I (show((pO F0 wF).length:Int)=F0.length from by rw[oP])))<|aa<|SR<|mI rfl<|V (dN O O)<|aa<|aF O (fun h58=> ?_) (fun h58=> ?_)
   .refine SR ?_
    obtain⟨p,sp,F1,rfl⟩:=axv (F:=F0) J
    have hpn:=(hS.lt p (jz (x:=(p,sp)) aJ)).1
    rw[gA]at hpn
    refine aE lH<|V (af O)<|V (fA fP 5 O qc O)<|lV mZ jC 0 O O rfl<|mI rfl<|V (eO O O J)<|V (ah (jC.sl (i:=5) O) mZ LG O (aK I (show(((p,sp)::F1).length:Int)-1=F1.length from by simp)) HZ)<|V (fA E9 0 O aO O)<|V (gC (dv:=Kf) (off:=0) ng (jC.sl (i:=5) O) bx O O HZ O)<|V (run_assign (show _=I (p:Int)from aK (fun x:D7=>I x.node) (show(pO ((p,sp)::F1) wF).getD (F1.length:Int).toNat Kf=⟨p,wF p⟩from S2)))<|aa<|fW (z:=⟨none,_,_,_,_,none⟩) aP O aP jC sR<|fun w59 yy=>have yA:=yy;AQ 0 O yA (run_move lH)<|AQ 1 O yA (af O)<|AQ 2 O yA (fA fP 2 O dH O)<|tV 3 O yA bD 0 O O rfl<|AQ 4 O yA (mV (I _) O)<|AQ 5 O yA (run_move lH)<|AQ 6 O yA (af O)<|AQ 7 O yA (fA fP 2 O dH O)<|tV 8 O yA bD 0 O O rfl<|AQ 9 O yA (mV (I _) O)<|AT 10 O yA (fun w hS=>ah (hS.sl (i:=2) O) bD aO O O J)<|AT 11 O yA (fun w hS=>aG bx O O ((hS.sl (i:=2) O).cell _ _ (eS J)))<|AQ 12 O yA (run_move lH)<|AQ 13 O yA (af O)<|AQ 14 O yA (fA fP 2 O dH O)<|tV 15 O yA bD 0 O O rfl<|AQ 16 O yA (run_move mD)<|AT 17 O yA (fun w hS=>ah (hS.sl (i:=2) O) bD aO O O J)<|AT 18 O yA (fun w hS=>aG bx O O ((hS.sl (i:=2) O).cell _ _ (eS J)))<|AQ 19 O yA (vA O O)<|AT 20 O yA (fun w hS=>ah (hS.sl (i:=2) O) bD aO O O J)<|AD<|rD yy (i:=2) O J O O O O rfl<|fun w61 rZ=>aa<| ?_
    refine⟨(((p,sp)::F1),wF,(tG EI (NI (fI ((p,sp)::F1)).reverse).length),(uL Py (((p,sp)::F1).length)),c48,BX,Ld.set p (min (oS Ld p) (oS Ld a)),gE JW ((a:Int)::NI sg.reverse) false,Lc,gE JX ((a:Int)::NI sg.reverse) (CN a ((a:Int)::NI sg.reverse))),?_,(((Ed.u4.u4.u4.u4.u4.u1.u1.u1).t mj O)).u4.u4.u4.u4.u4.u4.u4.u4.u4.u4.u4.u4.u4.u4.u4.u4.u4.u4.u4.u4.u4,(Hp.conv rZ aL),?_,?_,?_⟩
    ·(simp only[fw,HO];omega)
    ·(rw[hS.keep oy];exact hS2)
    .exact azO
    exact hdn
   refine an<|have e0:F0=[]:=zC J;?_
   subst e0
   refine⟨([],wF,(tG EI (NI (fI ([]:T6)).reverse).length),(uL Py (([]:T6).length)),c48,BX,Ld,gE JW ((a:Int)::NI sg.reverse) false,Lc,gE JX ((a:Int)::NI sg.reverse) (CN a ((a:Int)::NI sg.reverse))),?_,(((Ed.u4.u4.u4.u4.u4.u1.u1.u1).t mj O)).u4.u4.u4.u4.u4.u4.u4.u4.u4.u4.u4.u4.u4.u1,(Hp.conv jC aL),?_,?_,?_⟩
   ·(simp only[fw,HO];omega)
   .exact hS2
   .exact azO
   exact hdn
  refine an<|ai<|have oy:oS Ld a≠oS BX a:=‹¬Ld.getD (a:Int).toNat 0=BX.getD (a:Int).toNat 0›;fW (z:=⟨none,_,_,_,_,none⟩) aP O aP lG sR<|fun w63 wS=>have Jl:=wS;AQ 0 O Jl (run_move lH)<|AQ 1 O Jl (run_move lH)<|AQ 2 O Jl (af O)<|AQ 3 O Jl (fA fP 5 O qc O)<|tV 4 O Jl mZ 0 O O rfl<|AQ 5 O Jl (run_move lH)<|AQ 6 O Jl (af O)<|AQ 7 O Jl (fA fP 5 O qc O)<|tV 8 O Jl mZ 0 O O rfl<|AT 9 O Jl (fun w hS=>aC (hS.sl (i:=5) O) O mZ O)<|AQ 10 O Jl (eO O O J)<|A1 11<|cf O aD O wS sR (p5 (wS.sl (i:=5) O) mZ LG O (aK I hlen) (by(simp only[oP,fw];omega)))<|AQ 12 O Jl (af O)<|AQ 13 O Jl (fA fP 5 O qc O)<|AD<|have Ek:=Hp.axl ng wS (i:=5) O (m:=F0.length) (by(simp only[oP,fw];omega));bk Ek (i:=0) O (bM O O (v:=(uL Py (F0.length))) O (a6 (Ek.get (i:=5) O)).1 (a6 (Ek.get (i:=5) O)).2 (Ek.blk (i:=0) O) aJ)<|fun w67 kG=> ?_
  simp only[jh,kZ,nW,gO,Nat.reduceAdd]at kG
  rw[VN]at kG
  refine aa<|SR<|aE lH<|V (af O)<|V (fA fP 5 O qc O)<|lV mZ kG 0 O O rfl<|V (aC (kG.sl (i:=5) O) O mZ O)<|V (run_assign (aK I (show((pO F0 wF).length:Int)=F0.length from by rw[oP])))<|aa<|SR<|mI rfl<|V (dN O O)<|aa<|aF O (fun h71=> ?_) (fun h71=> ?_)
  .refine SR ?_
   obtain⟨p,sp,F1,rfl⟩:=axv (F:=F0) J
   have hpn:=(hS.lt p (jz (x:=(p,sp)) aJ)).1
   rw[gA]at hpn
   refine aE lH<|V (af O)<|V (fA fP 5 O qc O)<|lV mZ kG 0 O O rfl<|mI rfl<|V (eO O O J)<|V (ah (kG.sl (i:=5) O) mZ LG O (aK I (show(((p,sp)::F1).length:Int)-1=F1.length from by simp)) HZ)<|V (fA E9 0 O aO O)<|V (gC (dv:=Kf) (off:=0) ng (kG.sl (i:=5) O) bx O O HZ O)<|V (run_assign (show _=I (p:Int)from aK (fun x:D7=>I x.node) (show(pO ((p,sp)::F1) wF).getD (F1.length:Int).toNat Kf=⟨p,wF p⟩from S2)))<|aa<|fW (z:=⟨none,_,_,_,_,none⟩) aP O aP kG sR<|fun w72 uX=>have yB:=uX;AQ 0 O yB (run_move lH)<|AQ 1 O yB (af O)<|AQ 2 O yB (fA fP 2 O dH O)<|tV 3 O yB bD 0 O O rfl<|AQ 4 O yB (mV (I _) O)<|AQ 5 O yB (run_move lH)<|AQ 6 O yB (af O)<|AQ 7 O yB (fA fP 2 O dH O)<|tV 8 O yB bD 0 O O rfl<|AQ 9 O yB (mV (I _) O)<|AT 10 O yB (fun w hS=>ah (hS.sl (i:=2) O) bD aO O O J)<|AT 11 O yB (fun w hS=>aG bx O O ((hS.sl (i:=2) O).cell _ _ (eS J)))<|AQ 12 O yB (run_move lH)<|AQ 13 O yB (af O)<|AQ 14 O yB (fA fP 2 O dH O)<|tV 15 O yB bD 0 O O rfl<|AQ 16 O yB (run_move mD)<|AT 17 O yB (fun w hS=>ah (hS.sl (i:=2) O) bD aO O O J)<|AT 18 O yB (fun w hS=>aG bx O O ((hS.sl (i:=2) O).cell _ _ (eS J)))<|AQ 19 O yB (vA O O)<|AT 20 O yB (fun w hS=>ah (hS.sl (i:=2) O) bD aO O O J)<|AD<|rD uX (i:=2) O J O O O O rfl<|fun w74 uY=>aa<|have oL:=uY;have azP:=aaK;?_
   rw[aiF]at oL azP
   rw[aiG (sg:=sg) (a:=a)]at oL
   refine⟨(((p,sg++a::sp)::F1),wF,EI,(uL Py (((p,sp)::F1).length)),FG,BX,Ld.set p (min (oS Ld p) (oS Ld a)),JW,Lc,JX),?_,(((Ed.u4.u4.u4.u4.u4.u1.u1.u1).t mj O)).u4.u4.u4.u4.u4.u4.u4.u4.u4.u4.u4.u4.u4.u4.u4.u4.u4.u4.u4.u4.u1,(Hp.conv oL aL),?_,?_,?_⟩
   ·(simp only[fw,HO];omega)
   .exact hS.VM hnd oy
   .exact azP
   exact hdn
  refine an<|have e0:F0=[]:=zC J;?_
  subst e0
  refine⟨([],wF,EI,(uL Py (([]:T6).length)),FG,BX,Ld,JW,Lc,JX),?_,(((Ed.u4.u4.u4.u4.u4.u1.u1.u1).t mj O)).u4.u4.u4.u4.u4.u4.u4.u4.u4.u4.u4.u4.u1.u1,(Hp.conv kG (by exact absurd hS.root oy)),?_,?_,?_⟩
  ·(simp only[fw,HO];omega)
  .exact absurd hS.root oy
  .exact absurd hS.root oy
  exact hdn
 refine a8 (id:=0) rfl<|have e0:F=[]:=(by cases F with|nil=>rfl|cons x F0=>(exfalso;simp only[oP,fw]at*;omega));?_
 subst e0
 exact rh O ⟨rfl,EI,Py,FG,W8,BX,lo1,JW,Lc,JX,hS,aaK,hdn,eE⟩
theorem ae1(v:Value)(gr:List j4)(hgn:gr.length<=100000)(w:World)(hg0:GrV (Kw w) v gr):Calls Tryz.prog 124 #[v] w (sZ 3 1 gr.length ((pz (qh gr)).map I) w):=by
 have hg:=hg0.1
 have hgl:=gA (g:=gr)
 refine eH func124 rfl rfl fun hH=>SR<|va (v:= .slice none 0 0) rfl<|aa<|SR<| ?_
 refine V (run_move bA) ?_
 refine V (aC (hg.mono hH.kw).sl O pF O)<|aI rfl<|aa<|ai<|ed aP hH<|fun w1 bp=>have kV:=bp;?_
 refine AQ 0 O kV (run_move bA) ?_
 refine AQ 1 O kV (mV (I _) O)<|AQ 3 O kV (mV (I _) O)<|AQ 5 O kV (mV (I _) O)<|AQ 7 O kV (mV (I _) O)<|axp [10,12,14,16] [2,4,6,8] [⟨2,10,_,_,_,_,fun b=> .slice (some ⟨b,0,none⟩) (gr.length) (gr.length),.cells ((List.replicate (gr.length) ((0:Int))).map I).toArray 3 (0,0)⟩,⟨4,12,_,_,_,_,fun b=> .slice (some ⟨b,0,none⟩) (gr.length) (gr.length),.cells ((List.replicate (gr.length) ((0:Int))).map I).toArray 3 (0,0)⟩,⟨6,14,_,_,_,_,fun b=> .slice (some ⟨b,0,none⟩) (gr.length) (gr.length),.cells ((List.replicate (gr.length) (false)).map B).toArray 4 (0,0)⟩,⟨8,16,_,_,_,_,fun b=> .slice (some ⟨b,0,none⟩) (gr.length) (gr.length),.cells ((List.replicate (gr.length) ((0:Int))).map I).toArray 3 (0,0)⟩] O O ⟨⟨rfl,rfl⟩,⟨rfl,rfl⟩,⟨rfl,rfl⟩,⟨rfl,rfl⟩,trivial⟩ ⟨fun σ' w h=>Ar bD O O O O ((h 9 O).trans (show _=Value.int .i64 ((gr.length:Nat):Int)from O)) ((h 9 O).trans (show _=Value.int .i64 ((gr.length:Nat):Int)from O)) az J,fun σ' w h=>Ar bD O O O O ((h 11 O).trans (show _=Value.int .i64 ((gr.length:Nat):Int)from O)) ((h 11 O).trans (show _=Value.int .i64 ((gr.length:Nat):Int)from O)) az J,fun σ' w h=>Ar qY O O O O ((h 13 O).trans (show _=Value.int .i64 ((gr.length:Nat):Int)from O)) ((h 13 O).trans (show _=Value.int .i64 ((gr.length:Nat):Int)from O)) az J,fun σ' w h=>Ar bD O O O O ((h 15 O).trans (show _=Value.int .i64 ((gr.length:Nat):Int)from O)) ((h 15 O).trans (show _=Value.int .i64 ((gr.length:Nat):Int)from O)) az J,trivial⟩ az az aP bp sR<|fun Q9 w4 bY=> ?_
 simp only[lT,Cc,gB,eN,VJ]at bY
 have jQ:=bY.Ka (i:=0) (n:=gr.length) (l:=List.replicate (gr.length) ((0:Int))) (f:=I) O aJ J
 have eE:=jQ.Ka (i:=1) (n:=gr.length) (l:=List.replicate (gr.length) ((0:Int))) (f:=I) O aJ J
 have eW:=eE.Ka (i:=2) (n:=gr.length) (l:=List.replicate (gr.length) (false)) (f:=B) O aJ J
 have iE:=eW.Ka (i:=3) (n:=gr.length) (l:=List.replicate (gr.length) ((0:Int))) (f:=I) O aJ J
 refine A1 9<|cf O aD O iE (sQ (sQ (sQ (sQ sR)))) (dI (vs:=[(0,v),(1,(.slice (some ⟨Q9 10,0,none⟩) (gr.length) (gr.length))),(2,(.slice (some ⟨Q9 12,0,none⟩) (gr.length) (gr.length))),(3,(.slice (some ⟨Q9 14,0,none⟩) (gr.length) (gr.length))),(7,(.slice (some ⟨Q9 16,0,none⟩) (gr.length) (gr.length)))]) O (aeZ (KW hg).2 (a6 (iE.get (i:=0) O)).1 (a6 (iE.get (i:=1) O)).1 (a6 (iE.get (i:=2) O)).1 (a6 (iE.get (i:=3) O)).1))<|A1 10<|cH O aD O iE (sQ (sQ (sQ (sQ sR)))) (f:=fun b=> .pointer (some ⟨b,0,none⟩)) (KD (v:= .agg _) O)<|fun b14 zc bX=>AQ 11 O (bX.sub (sQ (sQ (sQ (sQ (sQ sR)))))) (aV (Pn _ _) O)<|have gT:=bX.eR 3 1;have cI:=gT.eR 233 2;have er:Hp w zc (.blk b14 (.cells #[v,(.slice (some ⟨Q9 10,0,none⟩) (gr.length) (gr.length)),(.slice (some ⟨Q9 12,0,none⟩) (gr.length) (gr.length)),(.slice (some ⟨Q9 14,0,none⟩) (gr.length) (gr.length)),(.slice none 0 0),(.slice none 0 0),I (0),(.slice (some ⟨Q9 16,0,none⟩) (gr.length) (gr.length))] 222 (0,0))::jW I (.slice (some ⟨Q9 10,0,none⟩) (gr.length) (gr.length)) 3 (List.replicate gr.length (0:Int))::jW I (.slice (some ⟨Q9 12,0,none⟩) (gr.length) (gr.length)) 3 (List.replicate gr.length (0:Int))::jW B (.slice (some ⟨Q9 14,0,none⟩) (gr.length) (gr.length)) 4 (List.replicate gr.length false)::cE none (.slice none 0 0) 3 ((([]:List Int)).map I)::wh GO 2 (.slice none 0 0) 233 (([]:List D7))::jW I (.slice (some ⟨Q9 16,0,none⟩) (gr.length) (gr.length)) 3 (List.replicate gr.length (0:Int))::[]):=cI.pj [2,2,2,2,1];AD<|ai<|SR<|mI rfl<|aE (v:=I 0) rfl<|aa<|aA<|bt (G:=Int×(Nat->Nat)×Value×Value×(Option (Nat×Array Value))×(List Int)×(List Int)×(List Bool)×Int×(List Int)) (fun⟨k,W8,EI,Py,FG,BX,lo1,JW,Lc,JX⟩ s' w'=>(Fr (5::(rg 20 15 [])) _ s')/\(Hp w w' (.blk b14 (.cells #[v,(.slice (some ⟨Q9 10,0,none⟩) (gr.length) (gr.length)),(.slice (some ⟨Q9 12,0,none⟩) (gr.length) (gr.length)),(.slice (some ⟨Q9 14,0,none⟩) (gr.length) (gr.length)),EI,Py,I (Lc),(.slice (some ⟨Q9 16,0,none⟩) (gr.length) (gr.length))] 222 (0,0))::jW I (.slice (some ⟨Q9 10,0,none⟩) (gr.length) (gr.length)) 3 (BX)::jW I (.slice (some ⟨Q9 12,0,none⟩) (gr.length) (gr.length)) 3 (lo1)::jW B (.slice (some ⟨Q9 14,0,none⟩) (gr.length) (gr.length)) 4 (JW)::cE FG EI 3 ((([]:List Int)).map I)::wh GO 2 Py 233 (([]:List D7))::jW I (.slice (some ⟨Q9 16,0,none⟩) (gr.length) (gr.length)) 3 (JX)::_))/\(s' 20=I k)/\(0<=k)/\(k<=gr.length)/\(rQ (qh gr) BX lo1 JW Lc JX [] W8)/\(cO FG EI (([]:List Int).map I))/\(∀q:Nat,q<k.toNat->oS BX q≠0)) (fun⟨k,W8,EI,Py,FG,BX,lo1,JW,Lc,JX⟩=>(gr.length-k).toNat) ((0,fun _=>0,.slice none 0 0,.slice none 0 0,none,List.replicate gr.length 0,List.replicate gr.length 0,List.replicate gr.length false,0,List.replicate gr.length 0)) ⟨Fr.refl _ _,er,rfl,J,J,rQ.start hgl,trivial,fun q hq=>absurd hq J⟩<| ?_
 rintro⟨k,W8,EI,Py,FG,BX,lo1,JW,Lc,JX⟩ aoc K9 ⟨rV,dP,TK,k0,k1,hS,aaK,hdn⟩
 obtain⟨ww,aut⟩:=rV.w2 4 19
 have q0:=hS.T7
 rw[gA]at q0
 refine SR<|V (aN TK aut)<|aa<|ai<|aF O (fun O0=> ?_) (fun O0=> ?_)
 .refine an<|ai<|aA<|SR<|aE TK<|aI rfl<|aa<|SR<|aE ww<|V (af O)<|V (fA fP 1 O dH O)<|lV bD dP 0 O O rfl<|mI rfl<|V (ah (dP.sl (i:=1) O) bD aO O O J)<|V (aG bx O O ((dP.sl (i:=1) O).cell _ _ (eS J)))<|V (bV O O)<|aa<|aF O (fun h22=> ?_) (fun h22=> ?_)
  .refine au<|aE ww<|mI rfl<|have h0k:oS BX k.toNat=0:=‹BX.getD k.toNat 0=0›;cD O (Jk _ _ _ _ _ _ _ _ _ _ _ _ _ _ _ _ _ _ _ _ hgn hS J h0k _ (Le.refl _) hg0 aaK dP) (aM call155 O O)<| ?_
   rintro _ w25 ⟨rfl,vs2,vf2,cs2,wF,od2,Ld,on2,tm2,of2,hS2,CH,hd2,jg⟩
   refine aa<|au<|V (ax TK O J)<|mI rfl<|aa<| ?_
   refine⟨(k+1,wF,vs2,vf2,cs2,od2,Ld,on2,tm2,of2),aW,rV.u4.u4.u4.u4,(Hp.conv jg aL),(aK I aL),J,J,?_,?_,?_⟩
   .exact hS2
   .exact CH
   exact asF k0 (fun q hq=>hd2.2 q (hdn q hq)) hd2.1
  refine an<|au<|V (ax TK O J)<|mI rfl<|aa<| ?_
  refine⟨(k+1,W8,EI,Py,FG,BX,lo1,JW,Lc,JX),aW,rV.u4.u4.u4.u1,(Hp.conv dP aL),(aK I aL),J,J,?_,?_,?_⟩
  .exact hS
  .exact aaK
  exact asF k0 hdn ‹¬BX.getD k.toNat 0=0›
 refine a8 (id:=0) rfl<|SR<|aE ww<|V (af O)<|V (fA fP 7 O dH O)<|lV bD dP 0 O O rfl<| ?_
 refine V (run_assign bA) ?_
 refine aa<|aj<|O3 O O dP (i:=6) O ((by have:=hS.lof;rw[gA]at this;exact this)) ((by rw[hS.done fun q hq=>hdn q (by rw[gA]at hq;omega)]))
theorem iL(fd:FuncId)(fc:Array Value)(c:mw)(hlg:lg.length<=600000000000)(w:World)(hH:Hp W0 w (nE n wr vL vt vv vy vu vq sn vW vU vT cn sk wy vd vm cW cU W ul ts aq bf ak bq us qs lg tm L)):Calls Tryz.prog 44 #[pt n,jO fd fc] w (jY fun u w'=>u= .tuple #[]/\∃vd':Value,Hp W0 w' (nE n wr vL vt vv vy vu vq sn vW vU vT cn sk wy (vd') vm cW cU W ul ts aq bf ak bq us qs (lg++[(jO fd fc,c)]) tm L)):=by
 simp only[nE]at hH
 refine en func44 rfl rfl<|au<|aE (v:=Pn _ _) rfl<|aE (v:=Pn _ _) rfl<|V (af O)<|V (fA cr 14 O kq O)<|lV hG hH 0 O O rfl<|aE (v:= .func _ _ _) rfl<|tR 1 1 hH (cB hG rfl rfl (sz:=1) (vs:=[.func _ _ _]) rfl rfl az az rfl rfl)<|fun b3 w1 bp=> ?_
 (try simp only[lj]at bp)
 refine asB (a:=(jO fd fc,c)) O bp (i:=11) O (bp.dS (i:=0) (n:=1) (sz:=1) O O az) O O hG O O (bytes:=8) O O O O J az<|fun v4 w5 jQ=>V (af O)<|V (fA cr 14 O kq O)<|bk jQ (i:=1) O (bM O O (v:=v4) O (a6 (jQ.get (i:=11) O)).1 (a6 (jQ.get (i:=11) O)).2 (jQ.blk (i:=1) O) aJ)<|fun w7 eW=> ?_
 simp only[jh,kZ,nW,gO,Nat.reduceAdd]at eW
 refine aa<|rh O ⟨rfl,v4,(eW.sub (sQ sR))⟩
theorem p8(htm:tm.length<=100000000)(w:World)(hH:Hp W0 w (nE n wr vL vt vv vy vu vq sn vW vU vT cn sk wy vd vm cW cU W ul ts aq bf ak bq us qs lg tm L)):Calls Tryz.prog 41 #[pt n] w (jY fun u w'=>u= .tuple #[]/\∃vm':Value,Hp W0 w' (nE n wr vL vt vv vy vu vq sn vW vU vT cn sk wy vd (vm') cW cU W ul ts aq bf ak bq us qs lg (tm++[(lg.length:Int)]) L)):=by
 simp only[nE]at hH
 refine en func41 rfl rfl<|fW (z:=⟨none,_,_,_,_,none⟩) aP O aP hH (sP (sP (sP (sP (sP (sP (sP (sP (sP (sP (sP (sQ sR))))))))))))<|fun w1 bp=>have kV:=bp.sub (sP (sP (sP (sP (sP (sP (sP (sP (sP (sP (sP (sQ sR))))))))))));AQ 0 O kV (mV (Pn _ _) O)<|AQ 1 O kV (mV (Pn _ _) O)<|AQ 2 O kV (af O)<|AQ 3 O kV (fA cr 15 O dH O)<|tV 4 O kV bD 0 O O rfl<|AQ 5 O kV (mV (Pn _ _) O)<|AQ 6 O kV (af O)<|AQ 7 O kV (fA cr 14 O kq O)<|tV 8 O kV hG 0 O O rfl<|AT 9 O kV (fun w hS=>aC (hS.sl (i:=10) O) O hG O)<|A1 10<|cH O aD O bp (sP (sP (sP (sP (sP (sP (sP (sP (sP (sP (sP (sQ sR)))))))))))) (f:=fun b=> .slice (some ⟨b,0,none⟩) 1 1) (cB bD O O (sz:=1) (vs:=[I _]) O O az az O O)<|fun b5 w3 iw=> ?_
 (try simp only[lj]at iw)
 refine A1 11<|SY O aD O iw (i:=12) O (fun _=>(sQ (sP (sP (sP (sP (sP (sP (sP (sP (sP (sP (sP (sQ sR)))))))))))))) (iw.dS (i:=0) (n:=1) (sz:=1) O O az) O O bD O O (bytes:=8) O O O O J az<|fun v8 w9 cg=>AQ 12 O (cg.sub (sQ (sP (sP (sP (sP (sP (sP (sP (sP (sP (sP (sP (sQ sR)))))))))))))) (af O)<|AQ 13 O (cg.sub (sQ (sP (sP (sP (sP (sP (sP (sP (sP (sP (sP (sP (sQ sR)))))))))))))) (fA cr 15 O dH O)<|AD<|bk cg (i:=1) O (bM O O (v:=v8) O (a6 (cg.get (i:=12) O)).1 (a6 (cg.get (i:=12) O)).2 (cg.blk (i:=1) O) aJ)<|fun I8 cP=> ?_
 simp only[jh,kZ,nW,gO,Nat.reduceAdd]at cP
 refine aa<|rh O ⟨rfl,v8,(cP.sub (sQ sR))⟩
theorem o3(w:World)(hb:w.heap[n]?=some (.cells #[wr,vL,vt,vv,vy,vu,vq,I sn,vW,vU,vT,I cn,B sk,U wy,vd,vm] 111 (0,0))):Calls Tryz.prog 40 #[pt n] w (Pure (B (!sk)) w):=by
 refine eH func40 rfl rfl fun hH=>SR<|va (v:=B false) rfl<|aa<|SR<|aE (v:=Pn _ _) rfl<|V (aee di O O)<|mB rfl<|cC O rfl<|aE (v:=Pn _ _) rfl<|V (af O)<|V (fA cr 12 O oq O)<|V (aG qZ O O (hH.eP hb (v:=B _) O))<|V (bJ O)<|mB rfl<|aB rfl<|aa<|aj<|oB O ?_ hH
 rfl
theorem EX(v x:Int)(w:World)(hb:w.heap[n]?=some (.cells #[wr,vL,vt,vv,vy,vu,vq,I sn,vW,vU,vT,I cn,B sk,U wy,vd,vm] 111 (0,0)))(ht:Sl w vt 1 bf.length (bf.map I)):Calls Tryz.prog 104 #[pt n,I v,I x] w (Pure (B (decide (0<=v/\v<bf.length/\bf.getD v.toNat 0=x))) w):=by
 refine eH func104 rfl rfl fun hH=>SR<|va (v:=B false) rfl<|aa<|SR<|mI rfl<|V (dF O O)<|mB rfl<|bK 9 O (fun h2=> ?_) (fun h2=> ?_)
 .refine mI rfl<|aE (v:=Pn _ _) rfl<|V (af O)<|V (fA cr 2 O dH O)<|V (aG bD O O (hH.eP hb O))<|V (aC (ht.hp hH) O bD O)<|V (aN O O)<|mB rfl<|mB rfl<|bK 18 O (fun h4=> ?_) (fun h4=> ?_)
  .refine aE (v:=Pn _ _) rfl<|V (af O)<|V (fA cr 2 O dH O)<|V (aG bD O O (hH.eP hb O))<|mI rfl<|V (ah (ht.hp hH) bD aO O O J)<|V (aG bx O O ((ht.hp hH).cell _ _ (eS J)))<|mI rfl<|V (bV O O)<|mB rfl<|aB rfl<|aa<|aj<|oB O ?_ hH
   exact Rx.2 ⟨fun h=>⟨J,J,h⟩,fun h=>h.2.2⟩
  refine aE (v:=B false) rfl<|aB rfl<|aa<|aj<|oB O ?_ hH
  (rw[gZ J];done)
 refine aE (v:=B false) rfl<|mB rfl<|cC O rfl<|aE (v:=B false) rfl<|aB rfl<|aa<|aj<|oB O ?_ hH
 (rw[gZ J];done)
theorem oa(q:dD)(w:World)(hq:D8 (Kw w) q):Calls Tryz.prog 131 #[.agg (qk q).toArray] w (Pure (B (Fh q)) w):=by
 refine eH func131 rfl rfl fun hH=>SR<|gN hH (v:= .agg _) rfl<|fun b3 w1 bp=>va (v:=B false) rfl<|aa<|SR<|V (fA jo 1 O xW O)<|V (bZ (hq.code.sl.hp bp) ia O O (bp.cell (i:=0) O O))<|V (aC (hq.code.sl.hp bp) O ia O)<|V (bV O O)<|mB rfl<|bK 7 O (fun h5=> ?_) (fun h5=> ?_)
 .refine V (fA jo 1 O xW O)<|V (bZ (hq.code.sl.hp bp) ia O O (bp.cell (i:=0) O O))<|V (ah (hq.code.sl.hp bp) ia po O O J)<|V (fA dY 0 O aO O)<|V (gC (dv:=bG) (off:=0) gP (hq.code.sl.hp bp) bx O O J O)<|V (bV O O)<|mB rfl<|mB rfl<|bK 15 O (fun h7=> ?_) (fun h7=> ?_)
  .refine V (fA jo 2 O kQ O)<|V (fA kM 0 O aO O)<|lI bx bp 0 O O rfl<|V (dF O O)<|mB rfl<|aB rfl<|aa<|aj<|oB O ?_ bp
   (unfold Fh;((rw[gW (show q.code.length=1 by omega),gW (show(q.code.getD 0 bG).op=1 from aQ)];rfl)))
  refine aE (v:=B false) rfl<|aB rfl<|aa<|aj<|oB O ?_ bp
  (unfold Fh;((rw[gW (show q.code.length=1 by omega),gZ (show¬(q.code.getD 0 bG).op=1 from aQ)];rfl)))
 refine aE (v:=B false) rfl<|mB rfl<|cC O rfl<|aE (v:=B false) rfl<|aB rfl<|aa<|aj<|oB O ?_ bp
 (unfold Fh;((rw[gZ (show¬q.code.length=1 by omega)];rfl)))
theorem xH(q:dD)(hv:∀v∈q.vars,0<=v/\v<bq.length)(w:World)(hb:w.heap[n]?=some (.cells #[wr,vL,vt,vv,vy,vu,vq,I sn,vW,vU,vT,I cn,B sk,U wy,vd,vm] 111 (0,0)))(hy:Sl w vy 1 bq.length (bq.map U))(zA:D8 (Kw w) q):Calls Tryz.prog 132 #[pt n,.agg (qk q).toArray] w (Pure (U (orW q.why bq q.vars)) w):=by
 have hvs:=zA.vars.small
 unfold maxLen at hvs
 refine eH func132 rfl rfl fun hH=>SR<|gN hH (v:= .agg _) rfl<|fun b3 w1 bp=>va (v:=U 0#64) rfl<|aa<|SR<|V (fA jo 11 O cQ O)<|V (aG dM O O (bp.cell (i:=0) O (v:=U _) O))<|aU rfl<|aa<|ai<|SR<|V (fA jo 12 O dH O)<|V (bZ (zA.vars.sl.hp bp) bD O O (bp.cell (i:=0) O O))<|V (aC (zA.vars.sl.hp bp) O bD O)<|aE (v:=I 0) rfl<|aa<|aA<|bt (G:=Int) (fun k s' w'=>(Fr (5::(7::(rg 13 14 []))) _ s')/\(Hp w w' _)/\(s' 5=U (orW q.why bq (q.vars.take k.toNat)))/\(s' 13=I k)/\(0<=k)/\(k<=q.vars.length)) (fun k=>(q.vars.length-k).toNat) (0) ⟨Fr.refl _ _,bp,rfl,rfl,J,J⟩<| ?_
 rintro k sg4 w4 ⟨C1,iw,G3,akK,h0,hk⟩
 obtain⟨aeH,azQ,azR⟩:=C1.w3 0 11 12
 refine SR<|V (aN akK azR)<|aa<|ai<|aF O (fun h6=> ?_) (fun h6=> ?_)
 .refine an<|ai<|aA<|SR<|have hvk:=hv _ (dy (d:=0) h0 ‹k<_›);V (ah (zA.vars.sl.hp iw) bD aO azQ akK J)<|V (aG bx O O ((zA.vars.sl.hp iw).cell _ _ (eS J)))<|aI rfl<|aa<|au<|aE G3<|aE aeH<|V (af O)<|V (fA cr 4 O jE O)<|V (aG dh O O (iw.eP hb O))<|mI rfl<|V (ah (hy.hp iw) dh cQ O O J)<|V (aG dM O O ((hy.hp iw).cell _ _ (lN (dv:=0#64) J)))<|V (iH O O)<|aU rfl<|aa<|au<|V (ax akK O J)<|mI rfl<|aa<| ?_
  refine⟨k+1,aW,C1.u4.u4.u4.u4,iw,(aK U (aiO h0 ‹k<_›).symm),(aK I aL),J,J⟩
 refine a8 (id:=0) rfl<|SR<|aE G3<|aU rfl<|aa<|aj<|oU O ?_ iw
 rw[jm J]
theorem Jm(Xm:0<=sn/\sn<=qs.length)(w:World)(hb:w.heap[n]?=some (.cells #[wr,vL,vt,vv,vy,vu,vq,I sn,vW,vU,vT,I cn,B sk,U wy,vd,vm] 111 (0,0)))(hq:Sl w vq 13 qs.length (qs.flatMap qk))(Jn:ZE (Kw w) qs):Calls Tryz.prog 122 #[pt n] w (Pure (B ((qs.drop sn.toNat).any Fh)) w):=by
 have hqD:ZE (Kw w) (qs.drop sn.toNat):=fun q hq=>Jn q (sw hq)
 have hml:=hq.small
 unfold maxLen at hml
 have hdl:(qs.drop sn.toNat).length<=qs.length:=aJ
 refine eH func122 rfl rfl fun hH=>SR<|va (v:=B false) rfl<|aa<|ai<|ai<|ed aP hH<|fun w1 bp=>have kV:=bp;AQ 0 O kV (mV (Pn _ _) O)<|AQ 1 O kV (af O)<|AQ 2 O kV (fA cr 6 O xT O)<|AT 3 O kV (fun w hS=>aG oh O O (hS.eP hb O))<|AQ 4 O kV (mV (Pn _ _) O)<|AQ 5 O kV (af O)<|AQ 6 O kV (fA cr 7 O aO O)<|AT 7 O kV (fun w hS=>aG bx O O (hS.eP hb (v:=I _) O))<|AQ 10 O kV (mV (I 0) O)<|A1 8<|cf O aD O bp sR (gD (hq.hp bp) oh LH O O J)<|AT 9 O kV (fun w hS=>aC ((Sl.frE pQ hq sn.toNat J).hp hS) O oh O)<|AD<|aA<|bt (G:=Int) (fun k s' w'=>(Fr (2::(4::(rg 15 7 []))) _ s')/\(Hp w w' _)/\(s' 15=I k)/\(0<=k)/\(k<=(qs.drop sn.toNat).length)/\(∀j:Nat,j<k.toNat->Fh ((qs.drop sn.toNat).getD j cX)=false)) (fun k=>((qs.drop sn.toNat).length-k).toNat) (0) ⟨Fr.refl _ _,bp,rfl,J,J,fun j h=>absurd h J⟩<| ?_
 rintro k sg5 w5 ⟨Uc,bY,akL,h0,hk,hno⟩
 obtain⟨azS,azT⟩:=Uc.w2 13 14
 refine SR<|V (aN akL azT)<|aa<|ai<|aF O (fun h7=> ?_) (fun h7=> ?_)
 .refine an<|ai<|aA<|SR<|V (ah ((Sl.frE pQ hq sn.toNat J).hp bY) oh LH azS akL J)<|V (dZ (dv:=cX) pQ ((Sl.frE pQ hq sn.toNat J).hp bY) jo O O O J)<|lK bY (aS Tryz.zeroValue128)<|fun b10 w8 iE=>bk iE (i:=0) O (dO (c':=(qk _).toArray) O O O (tO (hqD.at J J)) (iE.blk (i:=0) O) O)<|fun C2 cG=>aa<|SR<|V (cA (cs:=qk _) jo O O O (bj (cG.blk (i:=0) O)))<|aH O cG (oa _ _ ((hqD.at J J).mono cG.kw)) (ay call131 O)<|fun Tm cI=>aa<|bW O (fun qn=> ?_) (fun qn=> ?_)
  .refine SR<|va (v:=B true) rfl<|aa<|aj<|oB O ?_ cI
   exact(aiM (d:=cX) h0 ‹k<_› ‹_=true›).symm
  refine an<|au<|V (ax akL O J)<|mI rfl<|aa<| ?_
  refine⟨k+1,aW,Uc.u4.u4,(cI.sub (sQ sR)),(aK I aL),J,J,?_⟩
  exact asF h0 hno ku
 refine a8 (id:=0) rfl<|SR<|va (v:=B false) rfl<|aa<|aj<|oB O ?_ bY
 exact(anp (d:=cX) fun j hj=>hno j J).symm
theorem Jo(K:Vu)(QF:ak.length<=1000)(hqn:qs.length<=1000)(hpl:VR ak.length qs)(w:World)(hb:w.heap[n]?=some (.cells #[wr,vL,vt,vv,vy,vu,vq,I sn,vW,vU,vT,I cn,B sk,U wy,vd,vm] 111 (0,0)))(hv:Sl w vv 8 ak.length (ak.flatMap pJ))(hq:Sl w vq 13 qs.length (qs.flatMap qk))(Jn:ZE (Kw w) qs):Calls Tryz.prog 125 #[pt n] w (Gt K (fun K' u=>∃gr,qh gr=cz ak.length qs/\GrV K' u gr) w):=by
 refine eH func125 rfl rfl fun hH=>SR<|va (v:= .slice none 0 0) rfl<|aa<|SR<|aE (v:=Pn _ _) rfl<|V (af O)<|V (fA cr 3 O jq O)<|V (aG bU O O (hH.eP hb O))<|V (aC (hv.hp hH) O bU O)<|tR ak.length ak.length hH (Ar (f:=j4.v) (z0:=de) pF O O O O (show _=Value.int .i64 ((ak.length:Nat):Int)from O) (show _=Value.int .i64 ((ak.length:Nat):Int)from O) az J)<|fun b3 w1 bp=>have iw:=bp.Ka (i:=0) (n:=ak.length) (l:=List.replicate ak.length de) (f:=j4.v) O aJ J;?_
 simp only[jh]at iw
 obtain⟨Rz,hRz⟩:∃R:List bu,R=[]:=⟨_,rfl⟩
 have bY:Hp _ _ (_::((List.replicate ak.length de).map (dR 3)++Rz)):=Hp.pc (A:=[_]) (R:=Rz) (by rw[hRz];simpa using iw.amF 3 ak.length)
 refine V (run_assign bA) ?_
 refine aa<|ai<|SR<|aE (v:=Pn _ _) rfl<|V (af O)<|V (fA cr 6 O xT O)<|V (aG oh O O (bY.eP hb O))<|V (aC (hq.hp bY) O oh O)<|aE (v:=I 0) rfl<|aa<|aA<|bt (G:=Int×(List j4)×(List bu)) (fun⟨k,gs,Z1⟩ s' w'=>(Fr (5::(rg 17 25 [])) _ s')/\(Hp w w' (jW j4.v (.slice (some ⟨b3,0,none⟩) ak.length ak.length) 99 gs::Z1))/\(s' 17=I k)/\(0<=k)/\(k<=qs.length)/\(Z1=gs.map (dR 3)++Rz)/\(qh gs=cz ak.length (qs.take k.toNat))/\(∀x∈gs,x.l.length<=k.toNat)) (fun⟨k,gs,Z1⟩=>(qs.length-k).toNat) ((0,List.replicate ak.length de,(((List.replicate ak.length de).map (dR 3))++Rz))) ⟨Fr.refl _ _,bY,rfl,J,J,rfl,(by simp[qh,cz,de]),(fun x hx=>by rw[(List.mem_replicate.1 hx).2];simp[de])⟩<| ?_
 rintro⟨k,gs,Z1⟩ sg6 w6 ⟨QR,jQ,acK,h0,hk,hz,hgs,hgb⟩
 obtain⟨aar,azU,azV⟩:=QR.w3 3 15 16
 subst hz
 have hgn:gs.length=ak.length:=by have:=aK List.length hgs;rwa[gA,FK]at this
 refine SR<|V (aN acK azV)<|aa<|ai<|aF O (fun h8=> ?_) (fun h8=> ?_)
 .refine an<|ai<|aA<|SR<|V (ah (hq.hp jQ) oh LH azU acK J)<|V (dZ (dv:=cX) pQ (hq.hp jQ) jo O O O J)<|lK jQ (aS Tryz.zeroValue128)<|fun b11 w9 cg=>bk cg (i:=0) O (dO (c':=(qk _).toArray) O O O (tO (Jn.at J J)) (cg.blk (i:=0) O) O)<|fun QT gT=>aa<|SR<|V (cA (cs:=qk _) jo O O O (bj (gT.blk (i:=0) O)))<|aH O gT (oa _ _ ((Jn.at J J).mono gT.kw)) (ay call131 O)<|fun Ja er=>aa<|bW O (fun N3=> ?_) (fun N3=> ?_)
  .have Xq:=hpl.at h0 ‹k<_› ‹Fh _=true›
   have aPN:=hgb _ (dy (d:=de) (l:=gs) (k:=(yC (qs.getD k.toNat cX))) J J)
   refine fW (z:=⟨none,_,_,_,_,none⟩) aP O aP er (sP (sP (sA sR)))<|fun Z7 fJ=>have oH:=fJ.sub (sP (sP (sA sR)));AQ 0 O oH (run_move aar)<|AQ 1 O oH (fA jo 12 O dH O)<|AT 2 O oH (fun w hS=>bZ ((Jn.at J J).vars.sl.hp hS) bD O O (hS.cell (i:=0) O O))<|AT 3 O oH (fun w hS=>ah ((Jn.at J J).vars.sl.hp hS) bD aO O O J)<|AT 4 O oH (fun w hS=>aG bx O O (((Jn.at J J).vars.sl.hp hS).cell _ _ (eS J)))<|AQ 5 O oH (run_move aar)<|AQ 6 O oH (fA jo 12 O dH O)<|AT 7 O oH (fun w hS=>bZ ((Jn.at J J).vars.sl.hp hS) bD O O (hS.cell (i:=0) O O))<|AT 8 O oH (fun w hS=>ah ((Jn.at J J).vars.sl.hp hS) bD aO O O J)<|AT 9 O oH (fun w hS=>aG bx O O (((Jn.at J J).vars.sl.hp hS).cell _ _ (eS J)))<|AT 10 O oH (fun w hS=>ah (hS.sl (i:=1) O) pF dH O (show _=I (yC (qs.getD k.toNat cX))from O) J)<|AT 11 O oH (fun w hS=>aG bD O O ((hS.sl (i:=1) O).cell _ _ (lN (dv:=de) J)))<|AQ 12 O oH (fA jo 2 O kQ O)<|AQ 13 O oH (fA kM 0 O aO O)<|tI 14 O oH bx 0 O O rfl<|A1 15<|cH O aD O fJ (sP (sP (sA sR))) (f:=fun b=> .slice (some ⟨b,0,none⟩) 1 1) (cB bD O O (sz:=1) (vs:=[I _]) O O az az O O)<|fun b24 QV eM=> ?_
   (try simp only[lj]at eM)
   refine A1 16<|aiv (A:=[_,_,_]) (gs:=gs) (q:=(yC (qs.getD k.toNat cX))) (a:=(qs.getD k.toNat cX).to.var) (R:=Rz) O aD O eM (fun _=>(sQ (sP (sP (sA (sA sR)))))) J (eM.dS (i:=0) (n:=1) (sz:=1) O O az) O O bD O O (bytes:=8) O O O J az<|fun v27 w28 gj=> ?_
   simp only[gB,eN]at gj
   refine AT 17 O (gj.sub (sQ (sP (sP (sA sR))))) (fun w hS=>ah (hS.sl (i:=1) O) pF dH O (show _=I (yC (qs.getD k.toNat cX))from O) J)<|AD<|have auu:=Hp.axn (A:=[_,_,_]) (gs:=gs) (q:=(yC (qs.getD k.toNat cX))) (R:=Rz) gj J;rD (f:=j4.v) (a:=⟨v27,(gs.getD ((yC (qs.getD k.toNat cX))).toNat de).l++[(qs.getD k.toNat cX).to.var]⟩) gj (i:=2) O J O O auu.1 auu.2 rfl<|fun w30 gU=>aa<|au<|V (ax acK O J)<|mI rfl<|aa<| ?_
   refine⟨(k+1,(gs.set ((yC (qs.getD k.toNat cX))).toNat ⟨v27,(gs.getD ((yC (qs.getD k.toNat cX))).toNat de).l++[(qs.getD k.toNat cX).to.var]⟩),(((gs.set ((yC (qs.getD k.toNat cX))).toNat ⟨v27,(gs.getD ((yC (qs.getD k.toNat cX))).toNat de).l++[(qs.getD k.toNat cX).to.var]⟩).map (dR 3))++Rz)),aW,QR.u4.u4.u4.u4.u4.u4.u1.u1,(Hp.conv (gU.sub (sQ (sQ sR))) aL),(aK I aL),J,J,aL,?_,?_⟩
   ·(rw[Ns h0 ‹k<_›,grQ,aX ‹Fh _=true›,<-hgs,abW,FH])
   (rw[show(k+1).toNat=k.toNat+1 by omega];exact aiP hgb (by simp only[ec,eA];have:=hgb _ (dy (d:=de) (l:=gs) (k:=(yC (qs.getD k.toNat cX))) J J);omega))
  refine an<|au<|V (ax acK O J)<|mI rfl<|aa<| ?_
  refine⟨(k+1,gs,((gs.map (dR 3))++Rz)),aW,QR.u4.u4,(Hp.conv (er.sub (sQ sR)) aL),(aK I aL),J,J,aL,?_,?_⟩
  ·(rw[Ns h0 ‹k<_›,grQ,aT ku,<-hgs])
  exact fun x hx=>by have:=hgb x hx;omega
 refine a8 (id:=0) rfl<|SR<|aE aar<| ?_
 refine V (run_assign bA) ?_
 refine aa<|aj<| ?_
 obtain⟨Z33,akM,aGs⟩:=Hp.aEr (R:=Rz) K jQ
 exact jA O O ⟨Z33,akM.sub (afB _ _),gs,(by rw[hgs,jm J]),aGs⟩
theorem FZ(hm:m<=100000)(QF:ak.length<=1000)(hqn:qs.length<=1000)(T9:bq.length=ak.length)(oy:(bB cs).length=ak.length)(hpl:VR ak.length qs)(w:World)(hb:w.heap[n]?=some (.cells #[wr,vL,vt,vv,vy,vu,vq,I sn,vW,vU,vT,I cn,B sk,U wy,vd,vm] 111 (0,0)))(hv:Sl w vv 8 ak.length (ak.flatMap pJ))(hy:Sl w vy 1 bq.length (bq.map U))(hq:Sl w vq 13 qs.length (qs.flatMap qk))(hW:Sl w vW 1 W.length (W.map U))(Jn:ZE (Kw w) qs)(h:xn FX n m cs vW vU cW cU W ul ts cn L):Calls Tryz.prog 127 #[pt n] w (sZ 35 1 ak.length ((CQ (bB cs) bq ak.length qs).map U) w):=by
 have hfr:=h.find oy
 refine eH func127 rfl rfl fun hH=>SR<|va (v:= .slice none 0 0) rfl<|aa<|SR<|aE (v:=Pn _ _) rfl<|V (af O)<|V (fA cr 3 O jq O)<|V (aG bU O O (hH.eP hb O))<|V (aC (hv.hp hH) O bU O)<|tR (ak.length) (ak.length) hH (Ar (f:=U) (z0:=0#64) dh O O O O (show _=Value.int .i64 ((ak.length:Nat):Int)from O) (show _=Value.int .i64 ((ak.length:Nat):Int)from O) az J)<|fun b3 w1 bp=>have iw:=bp.Ka (i:=0) (n:=ak.length) (l:=List.replicate (ak.length) 0#64) (f:=U) O aJ J;?_
 simp only[jh]at iw
 refine V (run_assign bA) ?_
 refine aa<|ai<|SR<|aE (v:=Pn _ _) rfl<|V (af O)<|V (fA cr 3 O jq O)<|V (aG bU O O (iw.eP hb O))<|V (aC (hv.hp iw) O bU O)<|aE (v:=I 0) rfl<|aa<|aA<|bt (G:=Int×(List (BitVec 64))) (fun⟨k,o⟩ s' w'=>(Fr (4::(rg 18 21 [])) _ s')/\(Hp w w' (jW U (.slice (some ⟨b3,0,none⟩) (ak.length) (ak.length)) 35 o::_))/\(s' 18=I k)/\(0<=k)/\(k<=ak.length)/\(o=((List.range k.toNat).foldl (Nt (bB cs) bq) (List.replicate ak.length 0)))/\(o.length=ak.length)) (fun⟨k,o⟩=>(ak.length-k).toNat) ((0,List.replicate ak.length 0)) ⟨Fr.refl _ _,iw,rfl,J,J,aL,aJ⟩<| ?_
 rintro⟨k,o⟩ sg5 w5 ⟨Uc,bY,akN,h0,hk,ho,hol⟩
 obtain⟨ZZ,aal,aeR,azW⟩:=Uc.w4 0 2 3 17
 have hf1:=hfr k
 refine SR<|V (aN akN azW)<|aa<|ai<|aF O (fun h7=> ?_) (fun h7=> ?_)
 .refine an<|ai<|aA<|SR<|aE akN<|aI rfl<|aa<|fW (z:=⟨none,_,_,_,_,none⟩) aP O aP bY sR<|fun w8 iE=>have OE:=iE;AQ 0 O OE (run_move aeR)<|AQ 1 O OE (run_move ZZ)<|AQ 2 O OE (af O)<|AQ 3 O OE (fA cr 8 O ph O)<|AQ 4 O OE (mV (I _) O)<|AQ 8 O OE (run_move ZZ)<|AQ 9 O OE (af O)<|AQ 10 O OE (fA cr 4 O jE O)<|AT 11 O OE (fun w hS=>aG dh O O (hS.eP hb O))<|AQ 12 O OE (mV (I _) O)<|AT 13 O OE (fun w hS=>ah (hy.hp hS) dh cQ O O J)<|AT 14 O OE (fun w hS=>aG dM O O ((hy.hp hS).cell _ _ (lN (dv:=0#64) J)))<|A1 5<|cw O aD O iE sR (FV _ h J (iE.ext hb) (hW.hp iE)) (aM Ff O O)<|fun EL df=>have iQ:=df;AT 6 O iQ (fun w hS=>ah (hS.sl (i:=0) O) dh cQ O O J)<|AT 7 O iQ (fun w hS=>aG dM O O ((hS.sl (i:=0) O).cell _ _ (lN (dv:=0#64) J)))<|AQ 15 O iQ (iH O O)<|AT 16 O iQ (fun w hS=>ah (hS.sl (i:=0) O) dh cQ O O J)<|AD<|rD df (i:=0) O J O O O O rfl<|fun zc bX=>aa<|au<|V (ax akN O J)<|mI rfl<|aa<| ?_
  refine⟨(k+1,_),aW,Uc.u4.u4.u4.u4.u4.u1.u1,(Hp.conv bX aL),(aK I aL),J,J,?_,?_⟩
  ·(rw[aen h0,<-ho];unfold Nt;rw[gk h0];rfl)
  (rw[nY];exact hol)
 refine a8 (id:=0) rfl<|ai<|SR<|aE ZZ<|V (af O)<|V (fA cr 6 O xT O)<|V (aG oh O O (bY.eP hb O))<|V (aC (hq.hp bY) O oh O)<|aE (v:=I 0) rfl<|aa<|aA<|have hoA:o=VT (bB cs) bq ak.length:=(by rw[ho,show k.toNat=ak.length by omega];rfl);bt (G:=Int×(List (BitVec 64))) (fun⟨k,o⟩ s' w'=>(Fr (6::(rg 44 49 [])) _ s')/\(Hp w w' (jW U (.slice (some ⟨b3,0,none⟩) (ak.length) (ak.length)) 35 o::_))/\(s' 44=I k)/\(0<=k)/\(k<=qs.length)/\(o=((qs.take k.toNat).foldl (Kg (bB cs)) (VT (bB cs) bq ak.length)))/\(o.length=ak.length)) (fun⟨k,o⟩=>(qs.length-k).toNat) ((0,o)) ⟨Fr.refl _ _,bY,rfl,J,J,(by rw[hoA];rfl),hol⟩<| ?_
 rintro⟨k,o⟩ Z0 QT ⟨mN,cG,Jp,h0,hk,ho,hol⟩
 obtain⟨auv,auw⟩:=mN.w2 42 43
 obtain⟨akO,kE⟩:=mN.t2 0 ZZ 3 aeR
 refine SR<|V (aN Jp auw)<|aa<|ai<|aF O (fun ym=> ?_) (fun ym=> ?_)
 .refine an<|ai<|aA<|SR<|V (ah (hq.hp cG) oh LH auv Jp J)<|V (dZ (dv:=cX) pQ (hq.hp cG) jo O O O J)<|lK cG (aS Tryz.zeroValue128)<|fun b19 Tp dP=>bk dP (i:=0) O (dO (c':=(qk _).toArray) O O O (tO (Jn.at J J)) (dP.blk (i:=0) O) O)<|fun QV eM=>aa<|ai<|ed aP eM<|fun w24 oc=>AT 0 O oc (fun w hS=>cA (cs:=qk _) jo O O O (bj (hS.blk (i:=0) O)))<|A1 1<|cw O aD O oc sR (oa _ _ ((Jn.at J J).mono oc.kw)) (ay call131 O)<|fun Wx dK=>have TD:=dK;AQ 2 O TD (mV (B _) O)<|L4 (dj:=50) O (fun rK=> ?_) (fun rK=> ?_)
  .refine BQ 3 O O (bR (c:=true) rK) dK (run_move akO)<|BQ 4 O O (bR (c:=true) rK) dK (af O)<|BQ 5 O O (bR (c:=true) rK) dK (fA cr 8 O ph O)<|BQ 6 O O (bR (c:=true) rK) dK (fA jo 12 O dH O)<|AG 7 O O (bR (c:=true) rK) dK (fun w hS=>bZ ((Jn.at J J).vars.sl.hp hS) bD O O (hS.cell (i:=0) O O))<|AG 8 O O (bR (c:=true) rK) dK (fun w hS=>ah ((Jn.at J J).vars.sl.hp hS) bD aO O O RT)<|AG 9 O O (bR (c:=true) rK) dK (fun w hS=>aG bx O O (((Jn.at J J).vars.sl.hp hS).cell _ _ (eS RT)))<|BQ 11 O O (bR (c:=true) rK) dK (run_move akO)<|BQ 12 O O (bR (c:=true) rK) dK (af O)<|BQ 13 O O (bR (c:=true) rK) dK (fA cr 8 O ph O)<|BQ 14 O O (bR (c:=true) rK) dK (fA jo 2 O kQ O)<|BQ 15 O O (bR (c:=true) rK) dK (fA kM 0 O aO O)<|AG 16 O O (bR (c:=true) rK) dK (fun w hS=>aG bx O O (hS.cell (i:=0) O (v:=I _) O))<|A1 10<|cw O (A8 O (bR (c:=true) rK)) O dK sR (FV _ h J (dK.ext hb) (hW.hp dK)) (aM Ff O (show _=I (yC (qs.getD k.toNat cX))from O))<|fun w30 gU=>A1 17<|cw O (A8 O (bR (c:=true) rK)) O gU sR (FV _ h J (gU.ext hb) (hW.hp gU)) (aM Ff O O)<|fun w32 ko=>BQ 18 O O (bR (c:=true) rK) ko (bV O O)<|have OI:=ko;AQ 19 O OI (gM (bR (c:=true) rK) (v:=B _) O)<|AQ 20 O OI (mV (B _) O)<|Cu (dj:=68) O (fun BK=> ?_) (fun BK=> ?_)
   .refine BQ 21 O O (bT BK) ko (fA jo 12 O dH O)<|AG 22 O O (bT BK) ko (fun w hS=>bZ ((Jn.at J J).vars.sl.hp hS) bD O O (hS.cell (i:=0) O O))<|AG 23 O O (bT BK) ko (fun w hS=>ah ((Jn.at J J).vars.sl.hp hS) bD aO O O RT)<|AG 24 O O (bT BK) ko (fun w hS=>aG bx O O (((Jn.at J J).vars.sl.hp hS).cell _ _ (eS RT)))<|BQ 25 O O (bT BK) ko (fA jo 2 O kQ O)<|BQ 26 O O (bT BK) ko (fA kM 0 O aO O)<|AG 27 O O (bT BK) ko (fun w hS=>aG bx O O (hS.cell (i:=0) O (v:=I _) O))<|BQ 28 O O (bT BK) ko (jZ (show _=I (yC (qs.getD k.toNat cX))from O) O)<|AQ 29 O OI (gM (bT BK) (v:=B _) O)<|AD<|aF O (fun h37=> ?_) (fun h37=> ?_)
    .have hin:J3 (bB cs) (qs.getD k.toNat cX)=true:=by unfold J3;simp_all
     have Xq:=hpl.at h0 ‹k<_› ‹Fh _=true›
     have hf1:=hfr _ ⟨Xq.2.1.1,Xq.2.1.2⟩
     have hf2:=hfr (qs.getD k.toNat cX).to.var ⟨by have:=‹fN (bB cs) _=fN (bB cs) _›;by_cases c:0<=(qs.getD k.toNat cX).to.var;exact c;exfalso;rw[IU (i:=(qs.getD k.toNat cX).to.var) (fun q=>c q.1)]at this;omega,Xq.2.2⟩
     refine fW (z:=⟨none,_,_,_,_,none⟩) aP O aP ko sR<|fun w38 kF=>have C9:=kF;AQ 0 O C9 (run_move kE)<|AQ 1 O C9 (run_move akO)<|AQ 2 O C9 (af O)<|AQ 3 O C9 (fA cr 8 O ph O)<|AQ 4 O C9 (fA jo 2 O kQ O)<|AQ 5 O C9 (fA kM 0 O aO O)<|tI 6 O C9 bx 0 O O rfl<|AQ 10 O C9 (fA jo 11 O cQ O)<|AT 11 O C9 (fun w hS=>aG dM O O (hS.cell (i:=0) O (v:=U _) O))<|A1 7<|cw O aD O kF sR (FV _ h J (kF.ext hb) (hW.hp kF)) (aM Ff O O)<|fun w40 jU=>have aox:=jU;AT 8 O aox (fun w hS=>ah (hS.sl (i:=1) O) dh cQ O O J)<|AT 9 O aox (fun w hS=>aG dM O O ((hS.sl (i:=1) O).cell _ _ (lN (dv:=0#64) J)))<|AQ 12 O aox (iH O O)<|AT 13 O aox (fun w hS=>ah (hS.sl (i:=1) O) dh cQ O O J)<|AD<|rD jU (i:=1) O J O O O O rfl<|fun w42 mo=>aa<|au<|V (ax Jp O J)<|mI rfl<|aa<| ?_
     refine⟨(k+1,_),aW,mN.u4.u4.u4.u4.u4.u4.u4.u4.u4.u4.u4.u4.u1.u1,(Hp.conv (mo.sub (sQ sR)) aL),(aK I aL),J,J,?_,?_⟩
     ·(rw[oT (d:=cX) h0 ‹k<_›,<-ho];unfold Kg;rw[aX hin];rfl)
     (rw[nY];exact hol)
    refine an<|au<|V (ax Jp O J)<|mI rfl<|aa<|have hno:¬J3 (bB cs) (qs.getD k.toNat cX)=true:=Ys;?_
    refine⟨(k+1,o),aW,mN.u4.u4.u4.u4.u4.u4.u4.u4.u4,(Hp.conv (ko.sub (sQ sR)) aL),(aK I aL),J,J,?_,?_⟩
    ·(rw[oT (d:=cX) h0 ‹k<_›,<-ho];unfold Kg;rw[aT hno])
    exact hol
   refine AK 21 O O (bF BK) ko<|AK 22 O O (bF BK) ko<|AK 23 O O (bF BK) ko<|AK 24 O O (bF BK) ko<|AK 25 O O (bF BK) ko<|AK 26 O O (bF BK) ko<|AK 27 O O (bF BK) ko<|AK 28 O O (bF BK) ko<|AQ 29 O OI (ep (bF BK) (v:=B false) O)<|AD<|cL rfl<|an<|au<|V (ax Jp O J)<|mI rfl<|aa<|have hno:¬J3 (bB cs) (qs.getD k.toNat cX)=true:=Ys;?_
   refine⟨(k+1,o),aW,mN.u4.u4.u4.u4.u4.u4.u4.u4.u4,(Hp.conv (ko.sub (sQ sR)) aL),(aK I aL),J,J,?_,?_⟩
   ·(rw[oT (d:=cX) h0 ‹k<_›,<-ho];unfold Kg;rw[aT hno])
   exact hol
  refine AK 3 O O (bR (c:=false) rK) dK<|AK 4 O O (bR (c:=false) rK) dK<|AK 5 O O (bR (c:=false) rK) dK<|AK 6 O O (bR (c:=false) rK) dK<|AK 7 O O (bR (c:=false) rK) dK<|AK 8 O O (bR (c:=false) rK) dK<|AK 9 O O (bR (c:=false) rK) dK<|AK 10 O O (bR (c:=false) rK) dK<|AK 11 O O (bR (c:=false) rK) dK<|AK 12 O O (bR (c:=false) rK) dK<|AK 13 O O (bR (c:=false) rK) dK<|AK 14 O O (bR (c:=false) rK) dK<|AK 15 O O (bR (c:=false) rK) dK<|AK 16 O O (bR (c:=false) rK) dK<|AK 17 O O (bR (c:=false) rK) dK<|AK 18 O O (bR (c:=false) rK) dK<|AQ 19 O TD (ep (bR (c:=false) rK) (v:=B false) O)<|AQ 20 O TD (mV (B _) O)<|AK 21 O O O dK<|AK 22 O O O dK<|AK 23 O O O dK<|AK 24 O O O dK<|AK 25 O O O dK<|AK 26 O O O dK<|AK 27 O O O dK<|AK 28 O O O dK<|AQ 29 O TD (ep O (v:=B false) O)<|AD<|cL rfl<|an<|au<|V (ax Jp O J)<|mI rfl<|aa<|have hno:¬J3 (bB cs) (qs.getD k.toNat cX)=true:=Ys;?_
  refine⟨(k+1,o),aW,mN.u4.u4.u4.u4.u4.u4.u4.u4.u4,(Hp.conv (dK.sub (sQ sR)) aL),(aK I aL),J,J,?_,?_⟩
  ·(rw[oT (d:=cX) h0 ‹k<_›,<-ho];unfold Kg;rw[aT hno])
  exact hol
 refine a8 (id:=2) rfl<|SR<|aE kE<| ?_
 refine V (run_assign bA) ?_
 refine aa<|aj<|have eB:((qs.take k.toNat).foldl (Kg (bB cs)) (VT (bB cs) bq ak.length))=CQ (bB cs) bq ak.length qs:=(by rw[jm J];rfl);O3 O O cG (i:=0) O hol (by rw[ho,eB])
theorem qq{W0:World}{b:Nat}{ql qi:Value}{cq:Option (Nat×Array Value)}{wl:List Int}{wi:List Bool}{L:List bu}(i:Int)(hi:0<=i/\i<wi.length)(hwl:wl.length<=100000000)(w:World)(hq:qO cq ql (wl.map I))(hH:Hp W0 w (wE b ql qi cq wl wi L)):Calls Tryz.prog 85 #[pt b,I i] w (jY fun u w'=>u= .tuple #[]/\∃(Ud:Value) (Ue:Option (Nat×Array Value)),qO Ue Ud (((pB (wl,wi) i).1).map I)/\Hp W0 w' (wE b (Ud) qi (Ue) ((pB (wl,wi) i).1) ((pB (wl,wi) i).2) L)):=by
 simp only[wE]at hH
 refine en func85 rfl rfl<|SR<|aE (v:=Pn _ _) rfl<|V (af O)<|V (fA zJ 1 O HS O)<|lV qY hH 0 O O rfl<|mI rfl<|V (ah (hH.sl (i:=2) O) qY oq O O J)<|V (aG qZ O O ((hH.sl (i:=2) O).cell _ _ (lN (dv:=false) J)))<|V (bJ O)<|aa<|bW O (fun h3=> ?_) (fun h3=> ?_)
 .refine SR<|aE (v:=Pn _ _) rfl<|V (af O)<|V (fA zJ 1 O HS O)<|lV qY hH 0 O O rfl<|mI rfl<|V (ah (hH.sl (i:=2) O) qY oq O O J)<|rD (a:=true) hH (i:=2) O J O O O O rfl<|fun w4 bY=>aa<|au<|aE (v:=Pn _ _) rfl<|aE (v:=Pn _ _) rfl<|V (af O)<|V (fA zJ 0 O dH O)<|lV bD bY 0 O O rfl<|mI rfl<|tR 1 1 bY (cB bD O O (sz:=1) (vs:=[I _]) O O az az O O)<|fun b8 w6 eE=> ?_
  (try simp only[lj]at eE)
  refine asL O eE (i:=2) O hq (eE.dS (i:=0) (n:=1) (sz:=1) O O az) O O bD O O (bytes:=8) O O O O J az<|fun v9 c12 EL aeX df=>V (af O)<|V (fA zJ 0 O dH O)<|bk df (i:=1) O (bM O O (v:=v9) O (iq (df.slQ (i:=2) O aeX)).2 (iq (df.slQ (i:=2) O aeX)).1 (df.blk (i:=1) O) aJ)<|fun QT gT=> ?_
  simp only[jh,kZ,nW,gO,Nat.reduceAdd]at gT
  refine aa<|rh O ⟨rfl,v9,c12,?_,?_⟩
  .rw[abX aQ];exact aeX
  rw[abX aQ];exact(gT.sub (sQ sR))
 refine an<|rh O ⟨rfl,ql,cq,?_,?_⟩
 .rw[VV aQ];exact hq
 rw[VV aQ];exact(hH)
theorem Em{W0:World}{b:Nat}{ql qi:Value}{cq:Option (Nat×Array Value)}{wl:List Int}{wi:List Bool}{L:List bu}(x:Int)(hx:0<=x/\x<wi.length)(w:World)(hq:qO cq ql ((x::wl).map I))(hH:Hp W0 w (wE b ql qi cq (x::wl) wi L)):Calls Tryz.prog 87 #[pt b] w (jY fun u w'=>u=I x/\∃(Ud:Value) (Ue:Option (Nat×Array Value)),qO Ue Ud (wl.map I)/\Hp W0 w' (wE b (Ud) qi (Ue) wl (wi.set x.toNat false) L)):=by
 simp only[wE]at hH
 refine en func87 rfl rfl<|SR<|va (v:=I 0) rfl<|aa<|SR<|aE (v:=Pn _ _) rfl<|V (af O)<|V (fA zJ 0 O dH O)<|lV bD hH 0 O O rfl<|V (ah (hH.slQ (i:=1) O hq) bD aO O O Ic)<|V (aG bx O O ((hH.slQ (i:=1) O hq).cell _ _ (eS Ic)))<|V (run_assign (show _=I x from O))<|aa<|SR<|aE (v:=Pn _ _) rfl<|aE (v:=Pn _ _) rfl<|V (af O)<|V (fA zJ 0 O dH O)<|lV bD hH 0 O O rfl<|V (gD (hH.slQ (i:=1) O hq) bD aO O (q:=1) O iY)<|V (af O)<|V (fA zJ 0 O dH O)<| ?_
 obtain⟨c1,CH,tZ⟩:=hH.axw (i:=1) (x0:=I x) (xs:=wl.map I) O hq
 have hs6:=tZ.slQ (i:=1) O CH
 refine bk tZ (i:=0) O (bM O O (v:=o8 ql 1 1) O (iq hs6).2 (iq hs6).1 (tZ.blk (i:=0) O) aJ)<|fun w4 bY=> ?_
 simp only[jh,kZ,nW,gO,Nat.reduceAdd]at bY
 refine aa<|SR<|aE (v:=Pn _ _) rfl<|V (af O)<|V (fA zJ 1 O HS O)<|lV qY bY 0 O O rfl<|mI rfl<|V (ah (bY.sl (i:=2) O) qY oq O O J)<|rD (a:=false) bY (i:=2) O J O O O O rfl<|fun w7 eW=>aa<|SR<|mI rfl<|aI rfl<|aa<|aj<|jA O (v:=I x) O ⟨rfl,(o8 ql 1 1),c1,CH,(eW)⟩
theorem F3{bw bh bn bv:Nat}{was:El}{had:BitVec 64}{v:Int}(hv:0<=v/\v<ak.length/\v<bq.length)(w:World)(hbw:bu.blk bw (.cells (iM was) 37 (0,0))∈L)(hbh:bu.blk bh (.cells #[U had] 35 (0,0))∈L)(hbn:bu.blk bn (.cells #[pt n] 31 (0,0))∈L)(hbv:bu.blk bv (.cells #[I v] 3 (0,0))∈L)(hH:Hp W0 w (nE n wr vL vt vv vy vu vq sn vW vU vT cn sk wy vd vm cW cU W ul ts aq bf ak bq us qs lg tm L)):Calls Tryz.prog 193 #[.pointer (some ⟨bw,0,none⟩),.pointer (some ⟨bh,0,none⟩),.pointer (some ⟨bn,0,none⟩),.pointer (some ⟨bv,0,none⟩)] w (jY fun u w'=>u= .tuple #[]/\Hp W0 w' (nE n wr vL vt vv vy vu vq sn vW vU vT cn sk wy vd vm cW cU W ul ts aq bf (ak.set v.toNat was) (bq.set v.toNat had) us qs lg tm L)):=by
 simp only[nE]at hH
 refine en func193 rfl rfl<|fW (z:=⟨none,_,_,_,_,none⟩) aP O aP hH (sP (sP (sP (sP (sP (sP (sQ sR)))))))<|fun w1 bp=>have kV:=bp.sub (sP (sP (sP (sP (sP (sP (sQ sR)))))));AT 0 O kV (fun w hS=>aG di O O (hS.px (mT (mT (mT (mT (mT (mT (mT (mT (mT (mT (mT hbn))))))))))) (v:=Pn _ _) O))<|AQ 1 O kV (af O)<|AQ 2 O kV (fA cr 3 O jq O)<|tV 3 O kV bU 0 O O rfl<|AT 4 O kV (fun w hS=>aG bx O O (hS.px (mT (mT (mT (mT (mT (mT (mT (mT (mT (mT (mT hbv))))))))))) (v:=I _) O))<|AT 5 O kV (fun w hS=>aG di O O (hS.px (mT (mT (mT (mT (mT (mT (mT (mT (mT (mT (mT hbn))))))))))) (v:=Pn _ _) O))<|AQ 6 O kV (af O)<|AQ 7 O kV (fA cr 4 O jE O)<|tV 8 O kV dh 0 O O rfl<|AT 9 O kV (fun w hS=>aG bx O O (hS.px (mT (mT (mT (mT (mT (mT (mT (mT (mT (mT (mT hbv))))))))))) (v:=I _) O))<|AT 10 O kV (fun w hS=>cN bI O O O (hS.ah9 (mT (mT (mT (mT (mT (mT (mT (mT (mT (mT (mT hbw)))))))))))))<|AT 11 O kV (fun w hS=>aG dM O O (hS.px (mT (mT (mT (mT (mT (mT (mT (mT (mT (mT (mT hbh))))))))))) (v:=U _) O))<|A1 12<|cf O aD O bp (sP (sP (sP (sP (sP (sP (sQ sR))))))) (ah (bp.sl (i:=6) O) bU fl O O J)<|A1 13<|ZA O aD cY az bp (i:=6) O (fun _=>(sP (sP (sP (sP (sP (sP (sQ sR)))))))) J O ((rfl:_=Value.agg (iM _)).trans (by rw[ig])) (fun u hu=>uQ _ u q5) rfl<|fun w7 eW=>AT 14 O (eW.sub (sP (sP (sP (sP (sP (sP (sQ sR)))))))) (fun w hS=>ah (hS.sl (i:=6) O) dh cQ O O J)<|AD<|rD eW (i:=7) O J O O O O rfl<|fun w9 cg=>aa<|rh O ⟨rfl,(cg)⟩
theorem Jq{b:Nat}{ql qi:Value}{cq:Option (Nat×Array Value)}{wl:List Int}{wi:List Bool}(v:Int)(e:El)(y:BitVec 64)(hv:0<=v/\v<ak.length)(T9:bq.length=ak.length)(OX:us.length=ak.length)(hlg:lg.length<=600000000000)(hwl:wl.length<=10000000)(hun:(us.getD v.toNat de).l.length<=1000)(hui:∀i∈(us.getD v.toNat de).l,0<=i/\i<wi.length)(hum:dR 3 (us.getD v.toNat de)∈L)(w:World)(hq:qO cq ql (wl.map I))(hH:Hp W0 w (nE n wr vL vt vv vy vu vq sn vW vU vT cn sk wy vd vm cW cU W ul ts aq bf ak bq us qs lg tm ((wE b ql qi cq wl wi L)))):Calls Tryz.prog 162 #[pt n,pt b,I v,.agg (iM e),U y] w (jY fun u w'=>u= .tuple #[]/\∃(f vd':Value) (Ud:Value) (Ue:Option (Nat×Array Value)) (Lb:List bu),nh NX n Lb (f,.raise v (ak.getD v.toNat dg) (bq.getD v.toNat 0))/\qO Ue Ud ((mi ak us (wl,wi) v e).1.map I)/\Hp W0 w' (nE n wr vL vt vv vy vu vq sn vW vU vT cn sk wy (vd') vm cW cU W ul ts aq bf (ak.set v.toNat e) (bq.set v.toNat y) us qs (lg++[(f,.raise v (ak.getD v.toNat dg) (bq.getD v.toNat 0))]) tm ((wE b (Ud) qi (Ue) ((mi ak us (wl,wi) v e).1) ((mi ak us (wl,wi) v e).2) ((Lb++L)))))):=by
 simp only[wE]at hH
 simp only[nE]at hH
 refine en func162 rfl rfl<|SR<|gN hH (v:=Pn _ _) rfl<|fun b3 w1 bp=>gN bp (v:=I _) rfl<|fun b6 w4 bY=>gN bY (v:= .agg _) rfl<|fun b9 w7 eW=>aa<|ai<|fW (z:=⟨none,_,_,_,_,none⟩) aP O aP eW sR<|fun EL df=>have iQ:=df;tP 0 O iQ di 2 O O rfl<|AQ 1 O iQ (af O)<|AQ 2 O iQ (fA cr 3 O jq O)<|tV 3 O iQ bU 3 O O rfl<|tI 4 O iQ bx 1 O O rfl<|AT 5 O iQ (fun w hS=>ah (hS.sl (i:=9) O) bU fl O O J)<|AT 6 O iQ (fun w hS=>gz (hS.sl (i:=9) O) bI O O O J)<|tP 7 O iQ di 2 O O rfl<|AQ 8 O iQ (af O)<|AQ 9 O iQ (fA cr 4 O jE O)<|tV 10 O iQ dh 3 O O rfl<|tI 11 O iQ bx 1 O O rfl<|AT 12 O iQ (fun w hS=>ah (hS.sl (i:=10) O) dh cQ O O J)<|AT 13 O iQ (fun w hS=>aG dM O O ((hS.sl (i:=10) O).cell _ _ (lN (dv:=0#64) J)))<|gq 14 15 aP ?_ ?_
 .refine cH O aD O df sR (f:=fun b=> .pointer (some ⟨b,0,none⟩)) (aS eZ)<|fun b14 zc bX=>A1 15<|cH O aD O bX (sQ sR) (f:=fun b=> .pointer (some ⟨b,0,none⟩)) (aS Tryz.zeroValue35)<|fun b17 Tm cI=>A1 16<|ef O aD cI (j:=1) O (sQ (sQ sR)) (cR O O O (cI.blk (i:=1) O))<|fun QV eM=>AD<|bk eM (i:=0) O (bM O O (v:=U _) O O O (eM.blk (i:=0) O) az)<|fun Wx dK=>aa<|ai<|fW (z:=⟨none,_,_,_,_,none⟩) aP O aP dK (sP (sP (sP (sP (sP (sP (sP (sP (sP (sP (sP (sQ sR))))))))))))<|fun w28 gj=>have Ee:=gj.sub (sP (sP (sP (sP (sP (sP (sP (sP (sP (sP (sP (sQ sR))))))))))));tP 0 O Ee di 4 O O rfl<|AQ 1 O Ee (af O)<|AQ 2 O Ee (fA cr 3 O jq O)<|tV 3 O Ee bU 5 O O rfl<|tI 4 O Ee bx 3 O O rfl<|tP 5 O Ee di 4 O O rfl<|AQ 6 O Ee (af O)<|AQ 7 O Ee (fA cr 4 O jE O)<|tV 8 O Ee dh 5 O O rfl<|tI 9 O Ee bx 3 O O rfl<|AT 10 O Ee (fun w hS=>cN bI O O O (hS.blk (i:=2) O))<|AQ 11 O Ee (mV (U _) O)<|A1 12<|cf O aD O gj (sP (sP (sP (sP (sP (sP (sP (sP (sP (sP (sP (sQ sR)))))))))))) (ah (gj.sl (i:=11) O) bU fl O O J)<|A1 13<|ZA O aD cY az gj (i:=11) O (fun _=>(sP (sP (sP (sP (sP (sP (sP (sP (sP (sP (sP (sQ sR))))))))))))) J O ((rfl:_=Value.agg (iM _)).trans (by rw[ig])) (fun u hu=>uQ _ u q5) rfl<|fun w34 uW=>AT 14 O (uW.sub (sP (sP (sP (sP (sP (sP (sP (sP (sP (sP (sP (sQ sR))))))))))))) (fun w hS=>ah (hS.sl (i:=11) O) dh cQ O O J)<|AD<|rD uW (i:=12) O J O O O O rfl<|fun w36 uw=>aa<|SR<|lP di uw 4 O O rfl<| ?_
  refine V (VI bA bA bA bA) ?_
  refine cD O (iL _ _ (.raise v (ak.getD v.toNat dg) (bq.getD v.toNat 0)) J _ (uw.pj [5,5,5,5,5,5,5,5,5,5,5,5])) (aM zP O O) ?_
  rintro _ w40 ⟨rfl,v42,jU⟩
  simp only[nE]at jU
  have mo:=jU.pk [12,12,12,12,12]
  refine aa<|ai<|SR<|V (cN bI O O O (mo.blk (i:=1) O))<|V (cN bI O O O (mo.blk (i:=2) O))<|V (IG CZ O O)<|aa<|aF O (fun h45=> ?_) (fun h45=> ?_)
  .refine aj<|rh O ⟨rfl,(jO 193 #[pt b14,pt b17,pt b3,pt b6]),v42,ql,cq,[bu.blk b14 (.cells (iM (ak.getD v.toNat dg)) 37 (0,0)),bu.blk b17 (.cells #[U (bq.getD v.toNat 0)] 35 (0,0)),bu.blk b3 (.cells #[pt n] 31 (0,0)),bu.blk b6 (.cells #[I v] 3 (0,0))],⟨b14,b17,b3,b6,rfl,aJ,aJ,aJ,aJ⟩,?_,?_⟩
   .rw[mi,aX ‹rR _ e›];exact hq
   rw[mi,aX ‹rR _ e›];exact((mo.sub (sP (sP (sQ sR)))).pj [4,4,4,4,4,4,4,4,4,4,4,4,4,4,4,1,0,1])
  refine an<|ai<|ed aP mo<|fun w46 oY=>have TL:=oY;tP 0 O TL di 4 O O rfl<|AQ 1 O TL (af O)<|AQ 2 O TL (fA cr 5 O zN O)<|tV 3 O TL pF 5 O O rfl<|tI 4 O TL bx 3 O O rfl<|AT 5 O TL (fun w hS=>ah (hS.sl (i:=13) O) pF dH O O J)<|AT 6 O TL (fun w hS=>aG bD O O ((hS.sl (i:=13) O).cell _ _ (lN (dv:=de) J)))<|AT 7 O TL (fun w hS=>aC (hS.Qw (mT (mT (mT (mT (mT (mT (mT (mT (mT (mT (mT (mT (mT (mT (mT (mT (mT (mT (mT (mT hum))))))))))))))))))))) O bD O)<|AQ 8 O TL (mV (I 0) O)<|AD<|aA<|bt (G:=Int×Value×(Option (Nat×Array Value))×(List Int)×(List Bool)) (fun⟨k,yD,B3,qp,mX⟩ s' w'=>(Fr (13::(rg 56 8 [])) _ s')/\(Hp W0 w' (_::_::_::_::_::_::_::_::_::_::_::_::_::_::_::_::_:: .blk b (.cells #[yD,qi] 156 (0,0))::qE B3 yD 3 (qp.map I)::jW B qi 4 mX::_))/\(s' 56=I k)/\(0<=k)/\(k<=(us.getD v.toNat de).l.length)/\(qO B3 yD (qp.map I))/\((qp,mX)=rU (wl,wi) ((us.getD v.toNat de).l.take k.toNat))) (fun⟨k,yD,B3,qp,mX⟩=>((us.getD v.toNat de).l.length-k).toNat) ((0,ql,cq,wl,wi)) ⟨Fr.refl _ _,oY,rfl,J,J,hq,rfl⟩<| ?_
  rintro⟨k,yD,B3,qp,mX⟩ aPT w48 ⟨azX,jB,aaL,h0,hk,OZ,hp⟩
  obtain⟨azY,auy,auz⟩:=azX.w3 1 54 55
  have aGt:qp.length<=wl.length+1000:=by have:=aK (fun p=>p.1.length) hp;have h2:=GU (l:=(us.getD v.toNat de).l.take k.toNat) (p:=(wl,wi));simp only at this;rw[dW]at h2;simp only at h2;omega
  have aGu:mX.length=wi.length:=by have:=aK (fun p=>p.2.length) hp;have h2:=yS (l:=(us.getD v.toNat de).l.take k.toNat) (p:=(wl,wi));simp only at this h2;omega
  refine SR<|V (aN aaL auz)<|aa<|ai<|aF O (fun h50=> ?_) (fun h50=> ?_)
  .refine an<|ai<|aA<|SR<|V (ah (jB.Qw (mT (mT (mT (mT (mT (mT (mT (mT (mT (mT (mT (mT (mT (mT (mT (mT (mT (mT (mT (mT hum))))))))))))))))))))) bD aO auy aaL J)<|V (aG bx O O ((jB.Qw (mT (mT (mT (mT (mT (mT (mT (mT (mT (mT (mT (mT (mT (mT (mT (mT (mT (mT (mT (mT hum))))))))))))))))))))).cell _ _ (eS J)))<|aI rfl<|aa<|au<|aE azY<|mI rfl<|cD O (qq _ afP J _ OZ (jB.pj [17,17,17])) (aM call85 O O)<| ?_
   rintro _ w53 ⟨rfl,v55,c56,aGv,gR⟩
   simp only[wE]at gR
   have oK:=gR.pk [3,3,3,3,3,3,3,3,3,3,3,3,3,3,3,3,3]
   refine aa<|au<|V (ax aaL O J)<|mI rfl<|aa<| ?_
   refine⟨(k+1,v55,c56,(pB (qp,mX) ((us.getD v.toNat de).l.getD k.toNat 0)).1,(pB (qp,mX) ((us.getD v.toNat de).l.getD k.toNat 0)).2),aW,azX.u4.u4.u1,(Hp.conv oK aL),(aK I aL),J,J,?_,?_⟩
   .exact aGv
   (rw[QC h0 ‹k<_›,<-hp])
  refine a8 (id:=0) rfl<|rh O ⟨rfl,(jO 193 #[pt b14,pt b17,pt b3,pt b6]),v42,yD,B3,[bu.blk b14 (.cells (iM (ak.getD v.toNat dg)) 37 (0,0)),bu.blk b17 (.cells #[U (bq.getD v.toNat 0)] 35 (0,0)),bu.blk b3 (.cells #[pt n] 31 (0,0)),bu.blk b6 (.cells #[I v] 3 (0,0))],⟨b14,b17,b3,b6,rfl,aJ,aJ,aJ,aJ⟩,?_,?_⟩
  .rw[mi,aT ‹¬rR _ e›];rw[jm J]at hp;rw[<-hp];exact OZ
  rw[mi,aT ‹¬rR _ e›];rw[jm J]at hp;rw[<-hp];exact((jB.sub (sP (sP (sQ sR)))).pj [4,4,4,4,4,4,4,4,4,4,4,4,4,4,4,1,0,1])
 refine cH O aD O df sR (f:=fun b=> .pointer (some ⟨b,0,none⟩)) (aS Tryz.zeroValue35)<|fun b61 w59 yy=>A1 14<|cH O aD O yy (sQ sR) (f:=fun b=> .pointer (some ⟨b,0,none⟩)) (aS eZ)<|fun b64 w62 nU=>A1 16<|ef O aD nU (j:=0) O (sQ (sQ sR)) (cR O O O (nU.blk (i:=0) O))<|fun w69 wA=>AD<|bk wA (i:=1) O (bM O O (v:=U _) O O O (wA.blk (i:=1) O) az)<|fun w73 uZ=>aa<|ai<|fW (z:=⟨none,_,_,_,_,none⟩) aP O aP uZ (sP (sP (sP (sP (sP (sP (sP (sP (sP (sP (sP (sQ sR))))))))))))<|fun w75 oL=>have qS:=oL.sub (sP (sP (sP (sP (sP (sP (sP (sP (sP (sP (sP (sQ sR))))))))))));tP 0 O qS di 4 O O rfl<|AQ 1 O qS (af O)<|AQ 2 O qS (fA cr 3 O jq O)<|tV 3 O qS bU 5 O O rfl<|tI 4 O qS bx 3 O O rfl<|tP 5 O qS di 4 O O rfl<|AQ 6 O qS (af O)<|AQ 7 O qS (fA cr 4 O jE O)<|tV 8 O qS dh 5 O O rfl<|tI 9 O qS bx 3 O O rfl<|AT 10 O qS (fun w hS=>cN bI O O O (hS.blk (i:=2) O))<|AQ 11 O qS (mV (U _) O)<|A1 12<|cf O aD O oL (sP (sP (sP (sP (sP (sP (sP (sP (sP (sP (sP (sQ sR)))))))))))) (ah (oL.sl (i:=11) O) bU fl O O J)<|A1 13<|ZA O aD cY az oL (i:=11) O (fun _=>(sP (sP (sP (sP (sP (sP (sP (sP (sP (sP (sP (sQ sR))))))))))))) J O ((rfl:_=Value.agg (iM _)).trans (by rw[ig])) (fun u hu=>uQ _ u q5) rfl<|fun w81 oZ=>AT 14 O (oZ.sub (sP (sP (sP (sP (sP (sP (sP (sP (sP (sP (sP (sQ sR))))))))))))) (fun w hS=>ah (hS.sl (i:=11) O) dh cQ O O J)<|AD<|rD oZ (i:=12) O J O O O O rfl<|fun w83 lm=>aa<|SR<|lP di lm 4 O O rfl<| ?_
 refine V (VI bA bA bA bA) ?_
 refine cD O (iL _ _ (.raise v (ak.getD v.toNat dg) (bq.getD v.toNat 0)) J _ (lm.pj [5,5,5,5,5,5,5,5,5,5,5,5])) (aM zP O O) ?_
 rintro _ w87 ⟨rfl,v89,zh⟩
 simp only[nE]at zh
 have oM:=zh.pk [12,12,12,12,12]
 refine aa<|ai<|SR<|V (cN bI O O O (oM.blk (i:=0) O))<|V (cN bI O O O (oM.blk (i:=2) O))<|V (IG CZ O O)<|aa<|aF O (fun h92=> ?_) (fun h92=> ?_)
 .refine aj<|rh O ⟨rfl,(jO 193 #[pt b64,pt b61,pt b3,pt b6]),v89,ql,cq,[bu.blk b64 (.cells (iM (ak.getD v.toNat dg)) 37 (0,0)),bu.blk b61 (.cells #[U (bq.getD v.toNat 0)] 35 (0,0)),bu.blk b3 (.cells #[pt n] 31 (0,0)),bu.blk b6 (.cells #[I v] 3 (0,0))],⟨b64,b61,b3,b6,rfl,aJ,aJ,aJ,aJ⟩,?_,?_⟩
  .rw[mi,aX ‹rR _ e›];exact hq
  rw[mi,aX ‹rR _ e›];exact((oM.sub (sP (sP (sQ sR)))).pj [4,4,4,4,4,4,4,4,4,4,4,4,4,4,4,0,0,1])
 refine an<|ai<|ed aP oM<|fun w93 uz=>have TM:=uz;tP 0 O TM di 4 O O rfl<|AQ 1 O TM (af O)<|AQ 2 O TM (fA cr 5 O zN O)<|tV 3 O TM pF 5 O O rfl<|tI 4 O TM bx 3 O O rfl<|AT 5 O TM (fun w hS=>ah (hS.sl (i:=13) O) pF dH O O J)<|AT 6 O TM (fun w hS=>aG bD O O ((hS.sl (i:=13) O).cell _ _ (lN (dv:=de) J)))<|AT 7 O TM (fun w hS=>aC (hS.Qw (mT (mT (mT (mT (mT (mT (mT (mT (mT (mT (mT (mT (mT (mT (mT (mT (mT (mT (mT (mT hum))))))))))))))))))))) O bD O)<|AQ 8 O TM (mV (I 0) O)<|AD<|aA<|bt (G:=Int×Value×(Option (Nat×Array Value))×(List Int)×(List Bool)) (fun⟨k,yD,B3,qp,mX⟩ s' w'=>(Fr (13::(rg 56 8 [])) _ s')/\(Hp W0 w' (_::_::_::_::_::_::_::_::_::_::_::_::_::_::_::_::_:: .blk b (.cells #[yD,qi] 156 (0,0))::qE B3 yD 3 (qp.map I)::jW B qi 4 mX::_))/\(s' 56=I k)/\(0<=k)/\(k<=(us.getD v.toNat de).l.length)/\(qO B3 yD (qp.map I))/\((qp,mX)=rU (wl,wi) ((us.getD v.toNat de).l.take k.toNat))) (fun⟨k,yD,B3,qp,mX⟩=>((us.getD v.toNat de).l.length-k).toNat) ((0,ql,cq,wl,wi)) ⟨Fr.refl _ _,uz,rfl,J,J,hq,rfl⟩<| ?_
 rintro⟨k,yD,B3,qp,mX⟩ aPW w95 ⟨azZ,Kt,aaM,h0,hk,OZ,hp⟩
 obtain⟨az0,auA,auB⟩:=azZ.w3 1 54 55
 have aGt:qp.length<=wl.length+1000:=by have:=aK (fun p=>p.1.length) hp;have h2:=GU (l:=(us.getD v.toNat de).l.take k.toNat) (p:=(wl,wi));simp only at this;rw[dW]at h2;simp only at h2;omega
 have aGu:mX.length=wi.length:=by have:=aK (fun p=>p.2.length) hp;have h2:=yS (l:=(us.getD v.toNat de).l.take k.toNat) (p:=(wl,wi));simp only at this h2;omega
 refine SR<|V (aN aaM auB)<|aa<|ai<|aF O (fun h97=> ?_) (fun h97=> ?_)
 .refine an<|ai<|aA<|SR<|V (ah (Kt.Qw (mT (mT (mT (mT (mT (mT (mT (mT (mT (mT (mT (mT (mT (mT (mT (mT (mT (mT (mT (mT hum))))))))))))))))))))) bD aO auA aaM J)<|V (aG bx O O ((Kt.Qw (mT (mT (mT (mT (mT (mT (mT (mT (mT (mT (mT (mT (mT (mT (mT (mT (mT (mT (mT (mT hum))))))))))))))))))))).cell _ _ (eS J)))<|aI rfl<|aa<|au<|aE az0<|mI rfl<|cD O (qq _ afP J _ OZ (Kt.pj [17,17,17])) (aM call85 O O)<| ?_
  rintro _ auk ⟨rfl,aGw,aGx,az1,EY⟩
  simp only[wE]at EY
  have JY:=EY.pk [3,3,3,3,3,3,3,3,3,3,3,3,3,3,3,3,3]
  refine aa<|au<|V (ax aaM O J)<|mI rfl<|aa<| ?_
  refine⟨(k+1,aGw,aGx,(pB (qp,mX) ((us.getD v.toNat de).l.getD k.toNat 0)).1,(pB (qp,mX) ((us.getD v.toNat de).l.getD k.toNat 0)).2),aW,azZ.u4.u4.u1,(Hp.conv JY aL),(aK I aL),J,J,?_,?_⟩
  .exact az1
  (rw[QC h0 ‹k<_›,<-hp])
 refine a8 (id:=0) rfl<|rh O ⟨rfl,(jO 193 #[pt b64,pt b61,pt b3,pt b6]),v89,yD,B3,[bu.blk b64 (.cells (iM (ak.getD v.toNat dg)) 37 (0,0)),bu.blk b61 (.cells #[U (bq.getD v.toNat 0)] 35 (0,0)),bu.blk b3 (.cells #[pt n] 31 (0,0)),bu.blk b6 (.cells #[I v] 3 (0,0))],⟨b64,b61,b3,b6,rfl,aJ,aJ,aJ,aJ⟩,?_,?_⟩
 .rw[mi,aT ‹¬rR _ e›];rw[jm J]at hp;rw[<-hp];exact OZ
 rw[mi,aT ‹¬rR _ e›];rw[jm J]at hp;rw[<-hp];exact((Kt.sub (sP (sP (sQ sR)))).pj [4,4,4,4,4,4,4,4,4,4,4,4,4,4,4,0,0,1])
theorem Bw{b:Nat}{ql qi:Value}{cq:Option (Nat×Array Value)}{wl:List Int}{wi:List Bool}(v:Int)(e:El)(y:BitVec 64)(hm:m<=100000)(T9:bq.length=ak.length)(OX:us.length=ak.length)(oy:(bB cs).length=ak.length)(QF:ak.length<=1000)(hlg:lg.length<=550000000000)(hwl:wl.length<=1000000)(yh:∀k:Nat,k<us.length->dR 3 (us.getD k de)∈L/\(us.getD k de).l.length<=1000/\∀i∈(us.getD k de).l,0<=i/\i<wi.length)(w:World)(h:xn FX n m cs vW vU cW cU W ul ts cn L)(hq:qO cq ql (wl.map I))(hH:Hp W0 w (nE n wr vL vt vv vy vu vq sn vW vU vT cn sk wy vd vm cW cU W ul ts aq bf ak bq us qs lg tm ((wE b ql qi cq wl wi L)))):Calls Tryz.prog 130 #[pt n,pt b,I v,.agg (iM e),U y] w (jY fun u w'=>u= .tuple #[]/\∃(vd':Value) (Ud:Value) (Ue:Option (Nat×Array Value)) (new:List (Value×mw)) (Lb:List bu),(∀x∈new,nh NX n Lb x/\I2 x.2)/\new.length<=(bP (bB cs) v).length/\iP new (NP.mk aq bf ak bq ((qh us)) qs sn cs sk wy wr) (NP.mk aq bf ((yg ak us (wl,wi) (bP (bB cs) v) e).1) (gE bq (bP (bB cs) v) y) ((qh us)) qs sn cs sk wy wr)/\qO Ue Ud ((yg ak us (wl,wi) (bP (bB cs) v) e).2.1.map I)/\Hp W0 w' (nE n wr vL vt vv vy vu vq sn vW vU vT cn sk wy (vd') vm cW cU W ul ts aq bf ((yg ak us (wl,wi) (bP (bB cs) v) e).1) (gE bq (bP (bB cs) v) y) us qs (lg++new) tm ((wE b (Ud) qi (Ue) ((yg ak us (wl,wi) (bP (bB cs) v) e).2.1) ((yg ak us (wl,wi) (bP (bB cs) v) e).2.2) ((Lb++L)))))):=by
 simp only[wE]at hH
 simp only[nE]at hH
 refine en func130 rfl rfl<|SR<|gN hH (v:= .agg _) rfl<|fun b3 w1 bp=>aa<|SR<|aE (v:=Pn _ _) rfl<|V (af O)<|V (fA cr 8 O ph O)<|mI rfl<|Cr O bp (acJ _ h J (bp.blk (i:=1) O) (bp.yR (i:=2) O h.hW)) (aM call129 O O)<|fun v6 w4 bY=>V (aC (bY.sl (i:=0) O) O bD O)<|aE (v:=I 0) rfl<|aa<|aA<|have aPY:=wo (cl:=bB cs) (i:=v);bt (G:=Int×Value×Value×(Option (Nat×Array Value))×(List El)×(List (BitVec 64))×(List Int)×(List Bool)×(List (Value×mw))×(List bu)×(List bu)) (fun⟨k,W9,yD,B3,dc,eK,qp,mX,new,Lb,Z1⟩ s' w'=>(Fr (11::(rg 18 11 [])) _ s')/\(Hp W0 w' (.row v6 3 1 (bP (bB cs) v).length ((bP (bB cs) v).map I):: .blk b3 (.cells (Value.agg (iM e)).cells 37 (0,0)):: .blk n (.cells #[wr,vL,vt,vv,vy,vu,vq,I sn,vW,vU,vT,I cn,B sk,U wy,W9,vm] 111 (0,0))::cE cW vW 35 (W.map U)::cE cU vU 1 (ul.map Prod.fst)::jW I vT 3 ts::wh Xn 13 vL 119 aq::jW I vt 3 bf::wh pJ 8 vv 37 dc::jW U vy 35 eK::jW j4.v vu 99 us::wh qk 13 vq 128 qs::jW Prod.fst W9 1 (lg++new)::jW I vm 3 tm:: .blk b (.cells #[yD,qi] 156 (0,0))::qE B3 yD 3 (qp.map I)::jW B qi 4 mX::Z1))/\(s' 18=I k)/\(0<=k)/\(k<=(bP (bB cs) v).length)/\(qO B3 yD (qp.map I))/\((dc,(qp,mX))=(yg ak us (wl,wi) ((bP (bB cs) v).take k.toNat) e))/\(eK=gE bq ((bP (bB cs) v).take k.toNat) y)/\(Z1=Lb++L)/\(∀x∈new,nh NX n Lb x/\I2 x.2)/\(new.length<=k.toNat)/\(iP new (NP.mk aq bf ak bq ((qh us)) qs sn cs sk wy wr) (NP.mk aq bf dc eK ((qh us)) qs sn cs sk wy wr))) (fun⟨k,W9,yD,B3,dc,eK,qp,mX,new,Lb,Z1⟩=>((bP (bB cs) v).length-k).toNat) ((0,vd,ql,cq,ak,bq,wl,wi,[],[],L)) ⟨Fr.refl _ _,(by rw[mY];exact bY),rfl,J,J,hq,rfl,rfl,rfl,(fun x hx=>by cases hx),nM _,iP.nil _⟩<| ?_
 rintro⟨k,W9,yD,B3,dc,eK,qp,mX,new,Lb,Z1⟩ sg7 w7 ⟨Ed,eE,akP,h0,hk,OZ,hp,hy2,hz,Xs,hnl,hbk⟩
 obtain⟨FY,aeQ,Je,at8,az2,az3⟩:=Ed.w6 0 1 4 8 16 17
 subst hz
 have e1:dc=gE ak ((bP (bB cs) v).take k.toNat) e:=by have:=aK Prod.fst hp;rw[yT]at this;exact this
 have lv1:dc.length=ak.length:=by rw[e1,je]
 have lw1:eK.length=ak.length:=by rw[hy2,je];exact T9
 have li1:mX.length=wi.length:=by have:=aK (fun p=>p.2.2.length) hp;rw[K7]at this;exact this
 have ll1:qp.length<=wl.length+1000*k.toNat:=by have:=aK (fun p=>p.2.1.length) hp;have h2:=aiS (e:=e) (p:=(wl,wi)) (ak:=ak) (fun k hk=>(yh k hk).2.1) (ks:=(bP (bB cs) v).take k.toNat) (fun q hq=>by have:=mL (r7 hq);omega);rw[dW]at h2;simp only at this h2;omega
 refine SR<|V (aN akP az3)<|aa<|ai<|aF O (fun h9=> ?_) (fun h9=> ?_)
 .refine an<|ai<|aA<|SR<|have hkm:=mL (dy (d:=0) h0 ‹k<_›);V (ah (eE.sl (i:=0) O) bD aO az2 akP J)<|V (aG bx O O ((eE.sl (i:=0) O).cell _ _ (eS J)))<|aI rfl<|aa<|au<|aE FY<|aE aeQ<|mI rfl<|V (cN bI O O at8 (eE.blk (i:=1) O))<|aE Je<|cD O (Jq _ _ _ J J J Fi J (yh _ J).2.1 (fun i hi=>by have:=(yh _ J).2.2 i hi;omega) (by(repeat apply fX);exact bH _ (yh _ J).1) _ OZ (eE.pj [2,2,2,2,2,2,2,2,2,2,2,2,2,2,2])) (sE call162 O O O O O)<| ?_
  rintro _ Tq ⟨rfl,f12,aGy,q14,c15,az4,aGz,aGA,O0⟩
  simp only[nE,wE]at O0
  have fJ:=Hp.mK (A:=[_,_,_,_,_,_,_,_,_,_,_,_,_,_,_]) (R:=[_,_]) O0
  simp only[gB,eN]at fJ
  have cF:=fJ.pk [15,15]
  refine aa<|au<|V (ax akP O J)<|mI rfl<|aa<| ?_
  refine⟨(k+1,aGy,q14,c15,dc.set ((bP (bB cs) v).getD k.toNat 0).toNat e,eK.set ((bP (bB cs) v).getD k.toNat 0).toNat y,(mi dc us (qp,mX) ((bP (bB cs) v).getD k.toNat 0) e).1,(mi dc us (qp,mX) ((bP (bB cs) v).getD k.toNat 0) e).2,new++[(f12,.raise ((bP (bB cs) v).getD k.toNat 0) (dc.getD ((bP (bB cs) v).getD k.toNat 0).toNat dg) (eK.getD ((bP (bB cs) v).getD k.toNat 0).toNat 0))],az4++Lb,(az4++(Lb++L))),aW,Ed.u4.u4.u4,(Hp.conv cF (by simp only[dG];rfl)),(aK I aL),J,J,?_,?_,?_,?_,?_,?_,?_⟩
  .exact aGA
  ·(rw[aiR h0 ‹k<_›,<-hp];rfl)
  ·(rw[CM h0 ‹k<_›,<-hy2])
  ·(rw[dG])
  ·(intro x hx;rcases e8.1 hx with q|q;exact⟨(Xs x q).1.mono (fun e he=>bH _ he),(Xs x q).2⟩;rw[gG.1 q];exact⟨aGz.mono fun e he=>dL _ he,trivial⟩)
  ·(rw[ec,eA];omega)
  exact hbk.trans (ZF (s:=(NP.mk aq bf dc eK ((qh us)) qs sn cs sk wy wr)) (by show _/\_<(dc.length:Int);omega) (by show _<(eK.length:Int);omega))
 refine a8 (id:=0) O ?_
 rw[jm J]at hp hy2
 have e2:=aK Prod.fst hp
 have e3:=aK Prod.snd hp
 have e4:=aK Prod.fst e3
 have e5:=aK Prod.snd e3
 simp only at e2 e4 e5
 have eM:=(eE.sub (sQ (sQ sR)))
 rw[e2,hy2,e4,e5]at eM
 rw[e4]at OZ
 rw[e2,hy2]at hbk
 exact rh O ⟨rfl,W9,yD,B3,new,Lb,Xs,J,hbk,OZ,eM⟩
theorem F4{bn bm:Nat}{i:Int}{R:List bu}(hm:m<=100000)(w:World)(hbn:bu.blk bn (.cells #[pt n] 31 (0,0))∈(R++L))(hbm:bu.blk bm (.cells #[I i] 3 (0,0))∈(R++L))(h:xn FX n m cs vW vU cW cU W ul ts cn L)(hH:Hp W0 w (nE n wr vL vt vv vy vu vq sn vW vU vT cn sk wy vd vm cW cU W ul ts aq bf ak bq us qs lg tm ((R++L)))):Calls Tryz.prog 157 #[.pointer (some ⟨bn,0,none⟩),.pointer (some ⟨bm,0,none⟩)] w (jY fun u w'=>u= .tuple #[]/\∃(OF OG Xr:Value) (Q6 Q7:Option (Nat×Array Value)) (W':List (BitVec 64)) (zn:List (Value×jS)) (ts':List Int) (Q8:Int) (Lb:List bu),xn FX n (m) ((CK cs i).1) OF OG Q6 Q7 W' zn ts' Q8 (Lb++L)/\Hp W0 w' (nE n wr vL vt vv vy vu vq sn (OF) (OG) (Xr) (Q8) sk wy vd vm (Q6) (Q7) (W') (zn) (ts') aq bf ak bq us qs lg tm ((R++(Lb++L))))):=by
 simp only[nE]at hH
 refine en func157 rfl rfl<|fW (z:=⟨some _,_,_,_,_,none⟩) aP O aP hH sR<|fun w1 bp=>have kV:=bp;AT 0 O kV (fun w hS=>aG di O O (hS.px (mT (mT (mT (mT (mT (mT (mT (mT (mT (mT (mT (mT hbn)))))))))))) (v:=Pn _ _) O))<|AQ 1 O kV (af O)<|AQ 2 O kV (fA cr 8 O ph O)<|AT 3 O kV (fun w hS=>aG bx O O (hS.px (mT (mT (mT (mT (mT (mT (mT (mT (mT (mT (mT (mT hbm)))))))))))) (v:=I _) O))<|AD<|cD O (auq _ h J (R:=([_,_,_,_,_,_,_,_]++R)) bp) (aM call49 O O)<| ?_
 rintro _ Ja ⟨rfl,vW5,vU6,vT7,cW8,cU9,W10,aGB,aGC,aGD,aGE,az5,er⟩
 have iD:=Hp.mK (A:=[_,_,_,_]) (R:=([_,_,_,_,_,_,_,_]++R)) er
 simp only[gB,eN]at iD
 refine aa<|rh O ⟨rfl,vW5,vU6,vT7,cW8,cU9,W10,aGB,aGC,aGD,aGE,az5,(iD)⟩
theorem Jr{R:List bu}(v k:Int)(hm:m<=100000)(hlg:lg.length<=550000000000)(w:World)(h:xn FX n m cs vW vU cW cU W ul ts cn L)(hH:Hp W0 w (nE n wr vL vt vv vy vu vq sn vW vU vT cn sk wy vd vm cW cU W ul ts aq bf ak bq us qs lg tm ((R++L)))):Calls Tryz.prog 126 #[pt n,I v,I k] w (jY fun u w'=>u= .tuple #[]/\∃(OF OG Xr:Value) (Q6 Q7:Option (Nat×Array Value)) (W':List (BitVec 64)) (zn:List (Value×jS)) (ts':List Int) (Q8:Int) (vd':Value) (new:List (Value×mw)) (Lb:List bu),xn FX n (m+(if(jy cs v k).2 then 1 else 0)) ((jy cs v k).1) OF OG Q6 Q7 W' zn ts' Q8 (Lb++L)/\(∀x∈new,nh NX n Lb x/\I2 x.2)/\new.length<=1/\iP new (NP.mk aq bf ak bq ((qh us)) qs sn cs sk wy wr) (NP.mk aq bf ak bq ((qh us)) qs sn ((jy cs v k).1) sk wy wr)/\Hp W0 w' (nE n wr vL vt vv vy vu vq sn (OF) (OG) (Xr) (Q8) sk wy (vd') vm (Q6) (Q7) (W') (zn) (ts') aq bf ak bq us qs (lg++new) tm ((R++(Lb++L))))):=by
 simp only[nE]at hH
 refine en func126 rfl rfl<|SR<|gN hH (v:=Pn _ _) rfl<|fun b3 w1 bp=>aa<|SR<|lP di bp 0 O O rfl<|V (af O)<|V (fA cr 8 O ph O)<|aH O bp (akG h J (bp.blk (i:=1) O) (bp.yR (i:=2) O h.hW) (bp.sl (i:=4) O)) (ay call46 O)<|fun w4 bY=>lK bY (aS Tryz.zeroValue3)<|fun b8 w6 eE=>bk eE (i:=0) O (bM O O (v:=I _) O O O (eE.blk (i:=0) O) az)<|fun I8 cP=>aa<|SR<|lP di cP 1 O O rfl<|V (af O)<|V (fA cr 8 O ph O)<|mI rfl<|mI rfl<|cD O (aov _ _ h J (R:=([_,_,_,_,_,_,_,_,_,_]++R)) (cP.pj [2,2,2,2])) (bz call156 O O O)<| ?_
 rintro _ Wx ⟨rfl,az6,az7,az8,az9,aAa,W20,aAb,aAc,aAd,aAe,acL,dK⟩
 have gj:=Hp.mK (A:=[_,_,_,_]) (R:=([_,_,_,_,_,_,_,_,_,_]++R)) dK
 simp only[gB,eN]at gj
 have iW:=gj.pk [4,4]
 refine aa<|bW O (fun BR=> ?_) (fun BR=> ?_)
 .refine au<|lP di iW 1 O O rfl<| ?_
  refine V (s6 bA bA) ?_
  refine cD O (iL _ _ (.merge ((cs.length:Int)-1)) J _ (iW.pj [2,2,2,2,2,2,2,2,2,2,2,2])) (aM zP O O) ?_
  rintro _ w35 ⟨rfl,v37,j7⟩
  simp only[nE]at j7
  have ux:=j7.pk [12,12]
  refine aa<|rh O ⟨rfl,az6,az7,az8,az9,aAa,W20,aAb,aAc,aAd,v37,[((jO 157 #[pt b3,pt b8]),.merge ((cs.length:Int)-1))],[bu.blk b3 (.cells #[pt n] 31 (0,0)),bu.blk b8 (.cells #[I ((cs.length:Int)-1)] 3 (0,0))]++aAe,acL.mono (fun e he=>by rw[dG];exact bH _ he),(fun x hx=>by rw[gG.1 hx];exact⟨⟨_,_,rfl,aJ,aJ⟩,trivial⟩),fh _,ZG (s:=(NP.mk aq bf ak bq ((qh us)) qs sn cs sk wy wr)) h.ne ‹_=true›,(Hp.mK (A:=[_,_,_,_,_,_,_,_,_,_,_,_]) (B:=[_,_]) (R:=R) ((ux).pj [2,2,2,2,2,2,2,2,2,2,2,2,1]))⟩
 refine an<|rh O ⟨rfl,az6,az7,az8,az9,aAa,W20,aAb,aAc,aAd,vd,[],aAe,acL,(fun x hx=>by cases hx),nM _,(by rw[aeo aQ];exact iP.nil _),by rw[mY];exact(iW.sub (sQ (sQ sR)))⟩
theorem Ku{b:Nat}{ql qi:Value}{cq:Option (Nat×Array Value)}{wl:List Int}{wi:List Bool}{ids:List Nat}{tl:List (Nat×Rl)}{f:Ct}{nk:Nat}{Zf R:List bu}(q:dD)(hm:m<=100000)(T9:bq.length=ak.length)(OX:us.length=ak.length)(oy:(bB cs).length=ak.length)(QF:ak.length<=1000)(hlg:lg.length<=500000000000)(hwl:wl.length<=1000000)(yh:∀k:Nat,k<us.length->dR 3 (us.getD k de)∈R/\(us.getD k de).l.length<=1000/\∀i∈(us.getD k de).l,0<=i/\i<wi.length)(hf:FF nk f)(hnk:nk<=100000000000)(hql:0<=q.bf/\q.bf<aq.length)(aoy:q.code.length<=1000)(hqt:q.to.var<ak.length)(hqp:Fh q=true->0<q.vars.length/\0<=yC q/\yC q<ak.length)(hvs:∀v∈q.vars,0<=v/\v<ak.length)(w:World)(hT:o6 W0)(hlv:VZ TX (Kz (Kw W0) R) ids tl aq)(hZ:kU (BG fr) ids f tl Zf)(zA:D8 (Kz (Kw W0) R) q)(h:xn FX n m cs vW vU cW cU W ul ts cn R)(hq:qO cq ql (wl.map I))(hH:Hp W0 w (nE n wr vL vt vv vy vu vq sn vW vU vT cn sk wy vd vm cW cU W ul ts aq bf ak bq us qs lg tm ((wE b ql qi cq wl wi ((Zf++R)))))):Calls Tryz.prog 86 #[pt n,pt b,.agg (qk q).toArray] w (jY fun u w'=>∃(r:LkO) (vd':Value) (Ud:Value) (Ue:Option (Nat×Array Value)) (new:List (Value×mw)) (Lb Z':List bu),n8 (bB cs) us (aq.getD q.bf.toNat pT).p.sh q ak bq wl wi wy=r/\u=B r.ok/\(∀x∈new,nh NX n Lb x/\I2 x.2)/\new.length<=(bP (bB cs) q.to.var).length/\iP new (NP.mk aq bf ak bq ((qh us)) qs sn cs sk (r.wy) wr) (NP.mk aq bf (r.ak) (r.bq) ((qh us)) qs sn cs sk (r.wy) wr)/\kU (BG fr) ids (V0 (aq.getD q.bf.toNat pT).d r.ks f) tl Z'/\qO Ue Ud (r.wl.map I)/\Hp W0 w' (nE n wr vL vt vv vy vu vq sn vW vU vT cn sk (r.wy) (vd') vm cW cU W ul ts aq bf (r.ak) (r.bq) us qs (lg++new) tm ((wE b (Ud) qi (Ue) (r.wl) (r.wi) ((Z'++(Lb++R))))))):=by
 have hlc:=hlv.at hql.1 hql.2
 obtain⟨f1,f2,f3,a1,a2,a3,i1,i2,i3⟩:=hlc.ops.one
 have hone:∀u∈[(aq.getD q.bf.toNat pT).e,(aq.getD q.bf.toNat pT).l,(aq.getD q.bf.toNat pT).j].toArray,u.oneCell'=true:=by rw[i1,i2,i3];intro u hu;simp only[Lu,c8,HN,Ce]at hu;rcases hu with rfl|rfl|rfl<;>rfl
 have hvw:∀v∈q.vars,0<=v/\v<bq.length:=fun v hv=>by have:=hvs v hv;omega
 simp only[wE]at hH
 simp only[nE]at hH
 refine en func86 rfl rfl<|SR<|gN hH (v:= .agg _) rfl<|fun b3 w1 bp=>va (v:=B false) rfl<|aa<|Fy (G:=Unit) bp (6::(rg 11 20 [])) (fun(L:List bu) (_u:Unit)=>L) (fun(_u:Unit) s'=>(skQ (bB cs) q=false)) ?_ ?_
 .refine ai<|ed aP bp<|fun w4 bY=>AT 0 O bY (fun w hS=>cA (cs:=qk _) jo O O O (bj (hS.blk (i:=0) O)))<|A1 1<|cw O aD O bY sR (oa _ _ (zA.mono (bY.kz (Le.refl _) (fun x hx=>(mT (mT (mT (mT (mT (mT (mT (mT (mT (mT (mT (mT (mT (mT (mT (mT (bH _ hx))))))))))))))))))))) (ay call131 O)<|fun w6 eE=>have zh7:=eE;AQ 2 O zh7 (mV (B _) O)<|L4 (dj:=13) O (fun h9=> ?_) (fun h9=> ?_)
  .refine BQ 3 O O (bR (c:=true) h9) eE (mV (Pn _ _) O)<|BQ 4 O O (bR (c:=true) h9) eE (af O)<|BQ 5 O O (bR (c:=true) h9) eE (fA cr 8 O ph O)<|BQ 6 O O (bR (c:=true) h9) eE (fA jo 12 O dH O)<|AG 7 O O (bR (c:=true) h9) eE (fun w hS=>bZ (zA.vars.mono (hS.kz (Le.refl _) (fun x hx=>(mT (mT (mT (mT (mT (mT (mT (mT (mT (mT (mT (mT (mT (mT (mT (mT (bH _ hx)))))))))))))))))))).sl bD O O (hS.cell (i:=0) O O))<|AG 8 O O (bR (c:=true) h9) eE (fun w hS=>ah (zA.vars.mono (hS.kz (Le.refl _) (fun x hx=>(mT (mT (mT (mT (mT (mT (mT (mT (mT (mT (mT (mT (mT (mT (mT (mT (bH _ hx)))))))))))))))))))).sl bD aO O O (by have:=hqp ‹Fh _=true›;omega))<|AG 9 O O (bR (c:=true) h9) eE (fun w hS=>aG bx O O ((zA.vars.mono (hS.kz (Le.refl _) (fun x hx=>(mT (mT (mT (mT (mT (mT (mT (mT (mT (mT (mT (mT (mT (mT (mT (mT (bH _ hx)))))))))))))))))))).sl.cell _ _ (eS (by have:=hqp ‹Fh _=true›;omega))))<|BQ 11 O O (bR (c:=true) h9) eE (mV (Pn _ _) O)<|BQ 12 O O (bR (c:=true) h9) eE (af O)<|BQ 13 O O (bR (c:=true) h9) eE (fA cr 8 O ph O)<|BQ 14 O O (bR (c:=true) h9) eE (fA jo 2 O kQ O)<|BQ 15 O O (bR (c:=true) h9) eE (fA kM 0 O aO O)<|AG 16 O O (bR (c:=true) h9) eE (fun w hS=>aG bx O O (hS.cell (i:=0) O (v:=I _) O))<|A1 10<|cw O (A8 O (bR (c:=true) h9)) O eE sR (FV _ h J (eE.blk (i:=1) O) (eE.yR (i:=2) O h.hW)) (aM Ff O (show _=I (yC q)from O))<|fun EL df=>A1 17<|cw O (A8 O (bR (c:=true) h9)) O df sR (FV _ h J (df.blk (i:=1) O) (df.yR (i:=2) O h.hW)) (aM Ff O O)<|fun zc bX=>BQ 18 O O (bR (c:=true) h9) bX (bV O O)<|AQ 19 O bX (gM (bR (c:=true) h9) (v:=B _) O)<|AD<|aF O (fun Ec=> ?_) (fun Ec=> ?_)
   .refine SR<|va (v:=B true) rfl<|aa<|aj<|jA (v:=B true) O O ⟨⟨true,ak,bq,wl,wi,wy,[]⟩,vd,ql,cq,[],[],Zf,?_,rfl,?_,?_,?_,hZ,?_,(by rw[mY];exact(bX.sub (sQ sR)))⟩
    .exact aX (by simp[skQ, *])
    .exact fun x hx=>by cases hx
    .exact nM _
    .exact iP.nil _
    exact hq
   refine an ?_
   refine⟨((Fr.refl _ _)).u4.u4.u4.u4.u4,(),bX,?_⟩
   (simp[skQ, *];done)
  refine AK 3 O O (bR (c:=false) h9) eE<|AK 4 O O (bR (c:=false) h9) eE<|AK 5 O O (bR (c:=false) h9) eE<|AK 6 O O (bR (c:=false) h9) eE<|AK 7 O O (bR (c:=false) h9) eE<|AK 8 O O (bR (c:=false) h9) eE<|AK 9 O O (bR (c:=false) h9) eE<|AK 10 O O (bR (c:=false) h9) eE<|AK 11 O O (bR (c:=false) h9) eE<|AK 12 O O (bR (c:=false) h9) eE<|AK 13 O O (bR (c:=false) h9) eE<|AK 14 O O (bR (c:=false) h9) eE<|AK 15 O O (bR (c:=false) h9) eE<|AK 16 O O (bR (c:=false) h9) eE<|AK 17 O O (bR (c:=false) h9) eE<|AK 18 O O (bR (c:=false) h9) eE<|AQ 19 O zh7 (ep (bR (c:=false) h9) (v:=B false) O)<|AD<|cL rfl<|an<| ?_
  refine⟨((Fr.refl _ _)).u4.u4.u4.u4.u4,(),eE,?_⟩
  (simp[skQ, *];done)
 rintro _u aai Ja nQ cI Es
 obtain⟨akQ,xx,zf⟩:=nQ.w3 0 1 5
 refine ai<|fW (z:=⟨none,_,_,_,_,none⟩) aP O aP cI sR<|fun Tp dP=>have qR:=dP;AQ 0 O qR (run_move akQ)<|AQ 1 O qR (af O)<|AQ 2 O qR (fA cr 1 O uq O)<|tV 3 O qR o5 1 O O rfl<|AQ 4 O qR (fA jo 0 O aO zf)<|tI 5 O qR bx 0 O O rfl<|AT 6 O qR (fun w hS=>ah (hS.sl (i:=5) O) o5 sizeOf119 O O J)<|AQ 7 O qR (fA Cb 2 O sizeOf117 O)<|AT 8 O qR (fun w hS=>l7 (dv:=pT) (off:=2) (cs:=[_,_,_]) rF (hS.sl (i:=5) O) qX O O O J (ahm O))<|A1 9<|cH O aD O dP sR (f:=fun b=> .pointer (some ⟨b,0,none⟩)) (aS Wm)<|fun b21 Tq cT=>AD<|bk cT (i:=0) O (dO O O O hone (cT.blk (i:=0) O) O)<|fun QV eM=>aa<|Fy (G:=(Nat)×(List bu)) eM (8::9::(rg 40 12 [])) (fun(L:List bu) (⟨q8,Z1⟩:(Nat)×(List bu))=> .blk q8 (.cells (Value.agg (iM (lkE (aq.getD q.bf.toNat pT).p.sh q ak))).cells 37 (0,0))::(L.take 17++(Z1++R))) (fun(⟨q8,Z1⟩:(Nat)×(List bu)) s'=>(s' 8= .pointer (some ⟨q8,0,none⟩))/\(kU (BG fr) ids (Wr.tick .e (aq.getD q.bf.toNat pT).d f) tl Z1)) ?_ ?_
 .refine gp aP eM (sP (sP (sP (sP (sP (sP (sP (sP (sP (sP (sP (sP (sP (sP (sP (sP (sP (sA sR))))))))))))))))))<|fun w24 oc=>have Xa:=oc.sub (sP (sP (sP (sP (sP (sP (sP (sP (sP (sP (sP (sP (sP (sP (sP (sP (sP (sA sR))))))))))))))))));AQ 0 O Xa (fA qX 0 O sizeOf114 O)<|tV 1 O Xa RF 0 O O rfl<|AQ 2 O Xa (fA jo 1 O xW zf)<|AT 3 O Xa (fun w hS=>bZ (zA.code.mono (hS.kz (Le.refl _) (fun x hx=>(mT (mT (mT (mT (mT (mT (mT (mT (mT (mT (mT (mT (mT (mT (mT (mT (mT hx)))))))))))))))))))).sl ia O O (hS.cell (i:=1) O O))<|AQ 4 O Xa (run_move akQ)<|AQ 5 O Xa (af O)<|AQ 6 O Xa (fA cr 3 O jq O)<|tV 7 O Xa bU 2 O O rfl<|gq 8 12 aP ?_ ?_
  .obtain⟨aP8,aGG,auC,aAf,aAg⟩:=aks W0 ids tl hT _ _ _ _ aoy _ _ f Zf ([_,_,_,_,_,_,_,_,_,_,_,_,_,_,_,_,_]++R) _ _ _ _ (hlc.ops.mono (Le.zz (fun x hx=>bH _ hx))) hlc.Fp hZ hf Ia (fun Z' w' h0=>by have h':Hp W0 w' (_::_::_::_::_::_::_::_::_::_::_::_::_::_::_::_::_::(Z'++R)):=Hp.pc (A:=[_,_,_,_,_,_,_,_,_,_,_,_,_,_,_,_,_]) h0;exact(zA.code.mono (h'.kz (Le.refl _) (fun x hx=>(mT (mT (mT (mT (mT (mT (mT (mT (mT (mT (mT (mT (mT (mT (mT (mT (mT (bH _ hx))))))))))))))))))))).sl) (fun Z' w' h0=>by have h':Hp W0 w' (_::_::_::_::_::_::_::_::_::_::_::_::_::_::_::_::_::(Z'++R)):=Hp.pc (A:=[_,_,_,_,_,_,_,_,_,_,_,_,_,_,_,_,_]) h0;exact(h'.sl (i:=8) O)) (Hp.sN (A:=[_,_,_,_,_,_,_,_,_,_,_,_,_,_,_,_,_]) (Zf:=Zf) (R:=R) oc)
   refine ye O aD O aAg (jb aAf (cs:=aGG) auC O O) (fun u w' ⟨_,Z',_,h⟩=>Hp.sub (L:=_::_::_::_::_::_::_::_::_::_::_::_::_::_::_::_::_::(Z'++R)) (Hp.pc (A:=[_,_,_,_,_,_,_,_,_,_,_,_,_,_,_,_,_]) h) (sP (sP (sP (sP (sP (sP (sP (sP (sP (sP (sP (sP (sP (sP (sP (sP (sP (sA sR))))))))))))))))))) ?_
   rintro x38 w33 ⟨aAh,Z36,aGH,h34⟩
   have uW:Hp _ w33 (_::_::_::_::_::_::_::_::_::_::_::_::_::_::_::_::_::(Z36++R)):=Hp.pc (A:=[_,_,_,_,_,_,_,_,_,_,_,_,_,_,_,_,_]) h34
   rw[hlc.sh]at aAh
   subst aAh
   have auD:=uW.sub (sP (sP (sP (sP (sP (sP (sP (sP (sP (sP (sP (sP (sP (sP (sP (sP (sP (sA sR))))))))))))))))))
   refine AQ 9 O auD (run_move bA) ?_
   refine AQ 10 O auD (bg O (v:= .agg _) O)<|AQ 11 O auD (bg O (v:=B _) O)<|A1 12<|cH O aD O uW (sP (sP (sP (sP (sP (sP (sP (sP (sP (sP (sP (sP (sP (sP (sP (sP (sP (sA sR)))))))))))))))))) (f:=fun b=> .pointer (some ⟨b,0,none⟩)) (aS eZ)<|fun b44 w42 mo=>A1 13<|ef O aD mo (j:=0) O (sQ (sP (sP (sP (sP (sP (sP (sP (sP (sP (sP (sP (sP (sP (sP (sP (sP (sP (sA sR))))))))))))))))))) (cR O O O (mo.blk (i:=0) O))<|fun w49 eL=>AQ 14 O (eL.sub (sQ (sP (sP (sP (sP (sP (sP (sP (sP (sP (sP (sP (sP (sP (sP (sP (sP (sP (sA sR)))))))))))))))))))) (aV (B _) O)<|AD<| ?_
   refine⟨((Fr.refl _ _)).u4.u4.u4.u1.u1,(b44,Z36),(Hp.conv eL aL),rfl,?_⟩
   exact aGH
  refine cH O aD O oc (sP (sP (sP (sP (sP (sP (sP (sP (sP (sP (sP (sP (sP (sP (sP (sP (sP (sA sR)))))))))))))))))) (f:=fun b=> .pointer (some ⟨b,0,none⟩)) (aS eZ)<|fun b53 w51 BS=>A1 8<| ?_
  obtain⟨aP9,aGI,aGJ,aAi,aAj⟩:=aks W0 ids tl hT _ _ _ _ aoy _ _ f Zf ([_,_,_,_,_,_,_,_,_,_,_,_,_,_,_,_,_,_]++R) _ _ _ _ (hlc.ops.mono (Le.zz (fun x hx=>bH _ hx))) hlc.Fp hZ hf Ia (fun Z' w' h0=>by have h':Hp W0 w' (_::_::_::_::_::_::_::_::_::_::_::_::_::_::_::_::_::_::(Z'++R)):=Hp.pc (A:=[_,_,_,_,_,_,_,_,_,_,_,_,_,_,_,_,_,_]) h0;exact(zA.code.mono (h'.kz (Le.refl _) (fun x hx=>(mT (mT (mT (mT (mT (mT (mT (mT (mT (mT (mT (mT (mT (mT (mT (mT (mT (mT (bH _ hx)))))))))))))))))))))).sl) (fun Z' w' h0=>by have h':Hp W0 w' (_::_::_::_::_::_::_::_::_::_::_::_::_::_::_::_::_::_::(Z'++R)):=Hp.pc (A:=[_,_,_,_,_,_,_,_,_,_,_,_,_,_,_,_,_,_]) h0;exact(h'.sl (i:=9) O)) (Hp.sN (A:=[_,_,_,_,_,_,_,_,_,_,_,_,_,_,_,_,_,_]) (Zf:=Zf) (R:=R) BS)
  refine ye O aD O aAj (jb aAi (cs:=aGI) aGJ O O) (fun u w' ⟨_,Z',_,h⟩=>Hp.sub (L:=_::_::_::_::_::_::_::_::_::_::_::_::_::_::_::_::_::_::(Z'++R)) (Hp.pc (A:=[_,_,_,_,_,_,_,_,_,_,_,_,_,_,_,_,_,_]) h) (sQ (sP (sP (sP (sP (sP (sP (sP (sP (sP (sP (sP (sP (sP (sP (sP (sP (sP (sA sR)))))))))))))))))))) ?_
  rintro x66 w61 ⟨aAk,Z64,aGK,h62⟩
  have nU:Hp _ w61 (_::_::_::_::_::_::_::_::_::_::_::_::_::_::_::_::_::_::(Z64++R)):=Hp.pc (A:=[_,_,_,_,_,_,_,_,_,_,_,_,_,_,_,_,_,_]) h62
  rw[hlc.sh]at aAk
  subst aAk
  have auE:=nU.sub (sQ (sP (sP (sP (sP (sP (sP (sP (sP (sP (sP (sP (sP (sP (sP (sP (sP (sP (sA sR)))))))))))))))))))
  refine AQ 9 O auE (run_move bA) ?_
  refine AQ 10 O auE (bg O (v:= .agg _) O)<|AQ 11 O auE (bg O (v:=B _) O)<|A1 13<|ef O aD nU (j:=0) O (sQ (sP (sP (sP (sP (sP (sP (sP (sP (sP (sP (sP (sP (sP (sP (sP (sP (sP (sA sR))))))))))))))))))) (cR O O O (nU.blk (i:=0) O))<|fun w74 uY=>AQ 14 O (uY.sub (sQ (sP (sP (sP (sP (sP (sP (sP (sP (sP (sP (sP (sP (sP (sP (sP (sP (sP (sA sR)))))))))))))))))))) (aV (B _) O)<|AD<| ?_
  refine⟨((Fr.refl _ _)).u4.u4.u4.u1.u1,(b53,Z64),(Hp.conv uY aL),rfl,?_⟩
  exact aGK
 rintro⟨q8,Z1⟩ aQa w76 aAl oL ⟨akR,JZ⟩
 simp only[HE,xK,gB,eN]at oL
 have akS:=aAl.w1 7
 obtain⟨Ra,aAm,OJ⟩:=aAl.t3 0 akQ 1 xx 5 zf
 refine ai<|SR<|V (fA jo 2 O kQ OJ)<|V (fA kM 0 O aO O)<|lI bx oL 2 O O rfl<|V (aN O O)<|aa<|aF O (fun h78=> ?_) (fun h78=> ?_)
 .refine ai<|SR<|V (fA qX 1 O sizeOf65 akS)<|lV LD oL 1 O O rfl<|V (cN bI O O akR (oL.blk (i:=0) O))<|V (fA jo 2 O kQ OJ)<|V (fA kM 1 O fl O)<|V (iN (sub:=pJ _) bI O O O (oL.blk (i:=2) O) O)<| ?_
  obtain⟨aQc,aGL,aGM,aAn,aAo⟩:=akt W0 ids tl hT _ _ _ _ (Wr.tick .e (aq.getD q.bf.toNat pT).d f) Z1 ([_,_,_,_,_,_,_,_,_,_,_,_,_,_,_,_,_,_]++R) _ _ _ _ (hlc.ops.mono (Le.zz (fun x hx=>bH _ hx))) hlc.Fp JZ (hf.abG _) Ia (Hp.sN (A:=[_,_,_,_,_,_,_,_,_,_,_,_,_,_,_,_,_,_]) (Zf:=Z1) (R:=R) oL)
  refine cD O aAo (jb aAn (cs:=aGL) aGM O (jX (b:=Value.agg (pJ q.to.c).toArray) O (aK Value.agg (ig q.to.c).symm))) ?_
  rintro x89 w84 ⟨aGN,Z87,aAp,h85⟩
  have uy:Hp _ w84 (_::_::_::_::_::_::_::_::_::_::_::_::_::_::_::_::_::_::(Z87++R)):=Hp.pc (A:=[_,_,_,_,_,_,_,_,_,_,_,_,_,_,_,_,_,_]) h85
  subst aGN
  refine V (bJ O)<|aa<|bW O (fun h93=> ?_) (fun h93=> ?_)
  .refine SR<|aE Ra<|aE Ra<|V (cA (cs:=qk _) jo O O OJ (bj (uy.blk (i:=2) O)))<|aH O uy (xH _ (hvw) _ (uy.blk (i:=3) O) (uy.sl (i:=10) O) (zA.mono (uy.kz (Le.refl _) (fun x hx=>(mT (mT (mT (mT (mT (mT (mT (mT (mT (mT (mT (mT (mT (mT (mT (mT (mT (mT (bH _ hx))))))))))))))))))))))) (aM call132 O O)<|fun w94 Kt=>V (af O)<|V (fA cr 13 O cQ O)<|bk Kt (i:=3) O (bM O O (v:=U _) O O O (Kt.blk (i:=3) O) aJ)<|fun w96 TN=> ?_
   simp only[jh,kZ,nW,gO,Nat.reduceAdd]at TN
   refine aa<|SR<|va (v:=B false) rfl<|aa<|aj<|jA (v:=B false) O O ⟨⟨false,ak,bq,wl,wi,orW q.why bq q.vars,[.e,.l]⟩,vd,ql,cq,[],[],Z87,?_,rfl,?_,?_,?_,aAp,?_,(by rw[mY];exact(TN.sub (sQ (sQ (sQ sR)))))⟩
   .exact(aT R7).trans ((aX aQ).trans (aT LJ))
   .exact fun x hx=>by cases hx
   .exact nM _
   .exact iP.nil _
   exact hq
  refine an<|SR<|va (v:=B true) rfl<|aa<|aj<|jA (v:=B true) O O ⟨⟨true,ak,bq,wl,wi,wy,[.e,.l]⟩,vd,ql,cq,[],[],Z87,?_,rfl,?_,?_,?_,aAp,?_,(by rw[mY];exact(uy.sub (sQ (sQ (sQ sR)))))⟩
  .exact(aT R7).trans ((aX aQ).trans (aX (by simpa using‹(!cS _ _)=false›)))
  .exact fun x hx=>by cases hx
  .exact nM _
  .exact iP.nil _
  exact hq
 refine an<|ai<|fW (z:=⟨none,_,_,_,_,none⟩) aP O aP oL sR<|fun w98 Pv=>have TO:=Pv;AQ 0 O TO (run_move Ra)<|AQ 1 O TO (af O)<|AQ 2 O TO (fA cr 3 O jq O)<|tV 3 O TO bU 3 O O rfl<|AQ 4 O TO (fA jo 2 O kQ OJ)<|AQ 5 O TO (fA kM 0 O aO O)<|tI 6 O TO bx 2 O O rfl<|AT 7 O TO (fun w hS=>ah (hS.sl (i:=9) O) bU fl O O J)<|AT 8 O TO (fun w hS=>gz (hS.sl (i:=9) O) bI O O O J)<|A1 9<|cH O aD O Pv sR (f:=fun b=> .pointer (some ⟨b,0,none⟩)) (aS eZ)<|fun aQf auk EY=>AD<|bk EY (i:=0) O (cR O O O (EY.blk (i:=0) O))<|fun aol nj=>aa<|ai<|SR<|V (fA qX 1 O sizeOf65 akS)<|lV LD nj 2 O O rfl<|V (cN bI O O akR (nj.blk (i:=1) O))<|V (cN bI O O O (nj.blk (i:=0) O))<| ?_
 obtain⟨aLr,aAq,aAr,auF,auG⟩:=akt W0 ids tl hT _ _ _ _ (Wr.tick .e (aq.getD q.bf.toNat pT).d f) Z1 ([_,_,_,_,_,_,_,_,_,_,_,_,_,_,_,_,_,_,_]++R) _ _ _ _ (hlc.ops.mono (Le.zz (fun x hx=>bH _ hx))) hlc.Fp JZ (hf.abG _) Ia (Hp.sN (A:=[_,_,_,_,_,_,_,_,_,_,_,_,_,_,_,_,_,_,_]) (Zf:=Z1) (R:=R) nj)
 refine cD O auG (jb auF (cs:=aAq) aAr O O) ?_
 rintro aQg aAs ⟨aAt,Xb,aqO,auH⟩
 have xC:Hp _ aAs (_::_::_::_::_::_::_::_::_::_::_::_::_::_::_::_::_::_::_::(Xb++R)):=Hp.pc (A:=[_,_,_,_,_,_,_,_,_,_,_,_,_,_,_,_,_,_,_]) auH
 subst aAt
 refine V (bJ O)<|aa<|bW O (fun auI=> ?_) (fun auI=> ?_)
 .refine fW (z:=⟨some _,_,_,_,_,none⟩) aP O aP xC (sP (sP (sP (sP (sP (sP (sP (sP (sP (sP (sP (sP (sP (sP (sP (sP (sP (sP (sP (sA sR))))))))))))))))))))<|fun aQh J0=>have qK:=J0.sub (sP (sP (sP (sP (sP (sP (sP (sP (sP (sP (sP (sP (sP (sP (sP (sP (sP (sP (sP (sA sR))))))))))))))))))));AQ 0 O qK (run_move Ra)<|AQ 1 O qK (run_move aAm)<|AQ 2 O qK (fA jo 2 O kQ OJ)<|AQ 3 O qK (fA kM 0 O aO O)<|tI 4 O qK bx 3 O O rfl<|AQ 5 O qK (fA qX 2 O sizeOf115 akS)<|tV 6 O qK Lz 2 O O rfl<|AT 7 O qK (fun w hS=>cN bI O O O (hS.blk (i:=0) O))<|AT 8 O qK (fun w hS=>cN bI O O akR (hS.blk (i:=1) O))<|AQ 10 O qK (run_move Ra)<|AQ 11 O qK (af O)<|AQ 12 O qK (fA cr 4 O jE O)<|tV 13 O qK dh 4 O O rfl<|AQ 14 O qK (fA jo 2 O kQ OJ)<|AQ 15 O qK (fA kM 0 O aO O)<|tI 16 O qK bx 3 O O rfl<|AT 17 O qK (fun w hS=>ah (hS.sl (i:=11) O) dh cQ O O J)<|AT 18 O qK (fun w hS=>aG dM O O ((hS.sl (i:=11) O).cell _ _ (lN (dv:=0#64) J)))<|AQ 19 O qK (run_move Ra)<|AT 20 O qK (fun w hS=>cA (cs:=qk _) jo O O OJ (bj (hS.blk (i:=3) O)))<|A1 9<| ?_
  obtain⟨aLs,aAu,aAv,auJ,auK⟩:=aku W0 ids tl hT _ _ _ _ (Wr.tick .l (aq.getD q.bf.toNat pT).d (Wr.tick .e (aq.getD q.bf.toNat pT).d f)) Xb ([_,_,_,_,_,_,_,_,_,_,_,_,_,_,_,_,_,_,_]++R) _ _ _ _ (hlc.ops.mono (Le.zz (fun x hx=>bH _ hx))) hlc.Fp aqO ((hf.abG _).abG _) Ia (Hp.sN (A:=[_,_,_,_,_,_,_,_,_,_,_,_,_,_,_,_,_,_,_]) (Zf:=Xb) (R:=R) J0)
  refine ye O aD O auK (jb auJ (cs:=aAu) aAv O O) (fun u w' ⟨_,Z',_,h⟩=>Hp.sub (L:=_::_::_::_::_::_::_::_::_::_::_::_::_::_::_::_::_::_::_::(Z'++R)) (Hp.pc (A:=[_,_,_,_,_,_,_,_,_,_,_,_,_,_,_,_,_,_,_]) h) (sP (sP (sP (sP (sP (sP (sP (sP (sP (sP (sP (sP (sP (sP (sP (sP (sP (sP (sP (sA sR))))))))))))))))))))) ?_
  rintro aQi ae3 ⟨aqP,auL,aAw,aGP⟩
  have acM:Hp _ ae3 (_::_::_::_::_::_::_::_::_::_::_::_::_::_::_::_::_::_::_::(auL++R)):=Hp.pc (A:=[_,_,_,_,_,_,_,_,_,_,_,_,_,_,_,_,_,_,_]) aGP
  rw[apR hlc.Fp hlc.sh]at aqP
  subst aqP
  refine A1 21<|cw O aD O acM (sP (sP (sP (sP (sP (sP (sP (sP (sP (sP (sP (sP (sP (sP (sP (sP (sP (sP (sP (sA sR)))))))))))))))))))) (xH _ (hvw) _ (acM.blk (i:=4) O) (acM.sl (i:=11) O) (zA.mono (acM.kz (Le.refl _) (fun x hx=>(mT (mT (mT (mT (mT (mT (mT (mT (mT (mT (mT (mT (mT (mT (mT (mT (mT (mT (mT (bH _ hx)))))))))))))))))))))))) (aM call132 O O)<|fun aFo Q2=>AQ 22 O (Q2.sub (sP (sP (sP (sP (sP (sP (sP (sP (sP (sP (sP (sP (sP (sP (sP (sP (sP (sP (sP (sA sR))))))))))))))))))))) (iH O O)<|AD<|cD O (Bw _ _ _ J J J J J J J (fun k hk=>⟨by(repeat apply fX);exact bH _ (yh k hk).1,(yh k hk).2⟩) _ (h.mono fun e he=>by(repeat apply fX);exact bH _ he) hq (Q2.pj [4,4,4,4,4,4,4,4,4,4,4,4,4,4,4])) (sE call130 O O O O O)<| ?_
  rintro _ aGQ ⟨rfl,aAx,aGR,aGS,aAy,aqQ,aAz,aAA,aAB,aAC,aAD⟩
  simp only[nE,wE]at aAD
  have Q3:=Hp.mK (A:=[_,_,_,_,_,_,_,_,_,_,_,_,_,_,_]) (R:=[_,_,_,_]) aAD
  simp only[gB,eN]at Q3
  have aAE:=Q3.pk [15,15,15,15]
  refine aa<|SR<|va (v:=B true) rfl<|aa<|aj<|jA (v:=B true) O O ⟨lkR (bB cs) us (aq.getD q.bf.toNat pT).p.sh q ak bq wl wi wy,aAx,aGR,aGS,aAy,aqQ,auL,?_,rfl,?_,?_,?_,aAw,?_,(Hp.mK (A:=[_,_,_,_,_,_,_,_,_,_,_,_,_,_,_]) (B:=aqQ) (R:=auL) (aAE.sub (sQ (sQ (sQ (sQ sR))))))⟩
  .exact(aT R7).trans ((aT aQ).trans (aT LJ))
  .exact aAz
  .exact aAA
  .exact aAB
  exact aAC
 refine an<|SR<|va (v:=B true) rfl<|aa<|aj<|jA (v:=B true) O O ⟨⟨true,ak,bq,wl,wi,wy,[.e,.l]⟩,vd,ql,cq,[],[],Xb,?_,rfl,?_,?_,?_,aqO,?_,(by rw[mY];exact(xC.sub (sQ (sQ (sQ (sQ sR))))))⟩
 .exact(aT R7).trans ((aT aQ).trans (aX (by simpa using‹(!cS _ _)=false›)))
 .exact fun x hx=>by cases hx
 .exact nM _
 .exact iP.nil _
 exact hq
end
end Go.Proofs.YtlhjdflgjbkpmaaGreatDoor.W

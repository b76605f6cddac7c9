/- Part 3 of the proof of FlowSettles: its plain laws and the walks of its functions. -/
import Derived.Test.YtlhjdflgjbkpmaaGreatDoorFlowSettlesPartB
set_option linter.all false
namespace Go.Proofs.YtlhjdflgjbkpmaaGreatDoor.E
section
open Go Go.RowKit Go.Proofs.YtlhjdflgjbkpmaaGreatDoor.M
structure NF where
 vL:Value
 vt:Value
 vv:Value
 vy:Value
 vu:Value
 vq:Value
 vW:Value
 vU:Value
 vT:Value
 cn:Int
 vd:Value
 vm:Value
 cW:Option (Nat×Array Value)
 cU:Option (Nat×Array Value)
 W:List (BitVec 64)
 ul:List (Value×jQ)
 ts:List Int
 us:List jY
def ZG:Value×my:=(.tuple #[],.stuck)
def CP(lg:List (Value×my))(k:Nat):List my:=((lg.drop k).map Prod.snd).reverse
theorem Qv{lg:List (Value×my)}{k:Nat}(h:k<lg.length):CP lg k=CP lg (k+1)++[(lg.getD k ZG).2]:=by grind[CP,List.drop_eq_getElem_cons,List.reverse_cons,getD_eq]
theorem aiR{lg:List (Value×my)}{k:Nat}(h:lg.length<=k):CP lg k=[]:=by simp_all[CP]
theorem V0{lg new:List (Value×my)}:CP (lg++new) lg.length=(new.map Prod.snd).reverse:=by grind[CP]
theorem aej{lg:List (Value×my)}{s:NP}{k:Nat}(h:k<lg.length):D3 (CP lg k) s=wj (lg.getD k ZG).2 (D3 (CP lg (k+1)) s):=by
 rw[Qv h,VR];rfl
theorem ans{lg:List (Value×my)}{s:NP}{o k:Nat}(ho:o<=k)(hk:k<lg.length)(h:okB (CP lg o) s):okN (lg.getD k ZG).2 (D3 (CP lg (k+1)) s):=by
 have e:CP lg o=CP lg k++(((lg.drop o).take (k-o)).map Prod.snd).reverse:=by
  unfold CP
  rw[<-List.reverse_append,<-gU]
  congr 2
  rw[show lg.drop k=(lg.drop o).drop (k-o)by rw[Rs,show o+(k-o)=k by omega],HC]
 rw[e,S0,Qv hk,S0]at h
 exact h.1.2.1
theorem Le.zb{K:Vu}{Z Z':List bu}(h:∀b o,bu.blk b o∈Z->bu.blk b o∈Z'):Le (Kz K Z) (Kz K Z'):=fun b o hb=>hb.imp id (h b o)
structure D4(s:NP):Prop where
 T3:s.bq.length=s.ak.length
 OQ:s.us.length=s.ak.length
 ov:(bB s.cs).length=s.ak.length
 Qw:s.ak.length<=1000
 Xj:0<=s.sn/\s.sn<=s.qs.length
 hqn:s.qs.length<=1000
 hqo:ZF s.aq.length s.ak.length s.qs
 hlt:s.a8.length=s.ak.length
 hlr:∀k:Nat,k<s.a8.length->0<=s.a8.getD k 0/\s.a8.getD k 0<s.aq.length
 yf:∀k:Nat,k<s.us.length->(s.us.getD k []).length<=1000/\∀i∈s.us.getD k [],0<=i/\i<(s.qs.length:Int)
theorem Hp.ZH{w0 w:World}{A Zf Lb E U L:List bu}(h:Hp w0 w (A++(Zf++(Lb++(E++(U++L)))))):Hp w0 w (A++(U++(Zf++(Lb++(E++L))))):=by
 refine h.perm (u7 A ?_)
 rw[show Zf++(Lb++(E++(U++L)))=((Zf++(Lb++E))++U)++L by simp only[dG],show U++(Zf++(Lb++(E++L)))=(U++(Zf++(Lb++E)))++L by simp only[dG]]
 exact List.Perm.append_right L tZ
theorem CQ{us:List jY}{k:Nat}:(qf us).getD k []=(us.getD k de).l:=by grind[jY,qf,de]
theorem V1{s:NP}(h:D4 s){us:List jY}(hu:qf us=s.us){t:TypeId}{L:List bu}:∀k:Nat,k<us.length->dQ t (us.getD k de)∈us.map (dQ t)++L/\(us.getD k de).l.length<=1000/\∀i∈(us.getD k de).l,0<=i/\i<(s.qs.length:Int):=fun k hk=>by
 have e:=CQ (us:=us) (k:=k)
 rw[hu]at e
 have:=h.yf k (by rw[<-hu,gz];exact hk)
 rw[e]at this
 refine⟨dL _ (fZ.2 ⟨us.getD k de,?_,rfl⟩),this⟩
 rw[getD_eq hk]
 exact r8 hk
theorem abV{lg new:List (Value×my)}{k:Int}(h1:(lg.length:Int)<=k)(h2:k<(lg++new).length):(lg++new).getD k.toNat ZG∈new:=by grind
theorem V2{t:TypeId}{gs:List jY}{A E B:List bu}{b:Nat}{o:Obj}(h:bu.blk b o∈A++(E++(gs.map (dQ t)++B))):bu.blk b o∈A++(E++B):=by grind[S2]
theorem ZI{f:Value}{s:NP}{y:BitVec 64}(h1:s.sk=false)(h2:s.wy=0):iN [(f,.stuck)] s {s with sk:=true,wy:=y}:=by
 refine iN.one ?_ trivial
 obtain⟨a,b,c,d,e,f,g,h,i,j,k⟩:=s
 simp only at h1 h2
 subst h1;subst h2;rfl
def aiT:Value->Bool
 | .nilFunc=>false
 |_=>true
section
variable{P:Program}{σ:Env}{w w':World}{dst:Option Tmp}{t ty u:TypeId}{pos:String}{bO:Array Edge}{g:Option (Nat×Bool)}{x y:Operand}{v:Value}
theorem aek(d:Nat){ps rs:Array TypeId}{vr:Bool}(ht:P.underlying t=some (.func ps rs vr)):(Op.equalIn (d+1) t .nilFunc .nilFunc).run P w= .ok true w:=by
 simp[Op.equalIn,kf ht]
theorem ael{ps rs:Array TypeId}{vr:Bool}(hv:v= .nilFunc\/∃f c,v=jL f c)(ht:P.underlying t=some (.func ps rs vr))(hx:ev σ x=v)(hy:ev σ y= .nilFunc):
  (execOp (ev σ) ⟨dst,.binOp .neq t x y u,ty,pos,bO,g⟩).run P w= .ok (.value (.bool (aiT v))) w:=by
 rcases hv with rfl|⟨f,c,rfl⟩
 .have h:(binOp .neq t .nilFunc .nilFunc).run P w= .ok (.bool false) w:=by
   simp only[binOp];simp[Op.equal,Op.maxDepth,aek 9999 ht]
  have he:(eqGuard .neq t x y .nilFunc .nilFunc)=pure ():=rfl
  simp only[execOp,hx,hy,he];simp[h,aiT]
 exact VA ht hx hy
end
theorem GR{T:OP}{K:Vu}{ids:List Nat}{tl:List (Nat×Rl)}{x:pO}(h:Xl T K ids tl x):∀u∈(Xk x).toArray,u.oneCell'=true:=by
 intro u hu
 obtain⟨f,g,k,a,b,c,e1,e2,e3⟩:=h.ops.one
 simp only[Xk,wK,Ll,c8,fg,HG,Cd]at hu
 rcases hu with(rfl|rfl)|(rfl|rfl|rfl)|hu
 .rfl
 .exact(l7 h.yK.aY).1
 .rw[e1];rfl
 .rw[e2];rfl
 .rw[e3];rfl
 exact uS x.low u qZ
theorem Qx{P p:kP}(h:P.sh=⟨true,A8 [p]⟩):P.aY.map qw.fc=p.aY.map qw.fc:=by
 have hq:=aK Sh.aY h
 simp only[A8,uF,List.flatMap_nil,mY]at hq
 exact hq
theorem ant{P p:kP}(h:P.sh=⟨true,A8 [p]⟩)(h1:p.aY.length<=1000)(h2:∀f∈p.aY,f.names.length<=1000):P.aY.length<=1000/\∀f∈P.aY,f.names.length<=1000:=by
 have hq:=Qx h
 refine⟨?_,fun f hf=> ?_⟩
 .have:=aK List.length hq;rw[gF,gF]at this;omega
 have hm:f.fc∈p.aY.map qw.fc:=hq▸fZ.2 ⟨f,hf,rfl⟩
 obtain⟨f2,h3,e⟩:=fZ.1 hm
 have:=h2 f2 h3
 have e2:f2.names=f.names:=aK Fc.names e
 rwa[e2]at this
theorem V3{f:Value}{s:NP}{x:pO}:iN [(f,.a8 s.aq.length)] s {s with aq:=s.aq++[x]}:=
 iN.one (by simp only[wj];rw[ve]) (by show s.aq.length<=(s.aq++[x]).length;simp)
theorem Hp.us2{w0 w:World}{A Z B C U L:List bu}(h:Hp w0 w (A++(Z++(B++(C++(U++L)))))):Hp w0 w (A++(U++(Z++(B++(C++L))))):=h.perm (u7 A (by
 rw[show Z++(B++(C++(U++L)))=(Z++(B++C))++(U++L)by simp only[dG],show U++(Z++(B++(C++L)))=U++((Z++(B++C))++L)by simp only[dG]]
 exact wV _ _ _))
theorem Hp.us3{w0 w:World}{A Z B C D U L:List bu}(h:Hp w0 w (A++(Z++(B++(C++(D++(U++L))))))):Hp w0 w (A++(U++(Z++(B++(C++(D++L)))))):=h.perm (u7 A (by
 rw[show Z++(B++(C++(D++(U++L))))=(Z++(B++(C++D)))++(U++L)by simp only[dG],show U++(Z++(B++(C++(D++L))))=U++((Z++(B++(C++D)))++L)by simp only[dG]]
 exact wV _ _ _))
theorem Hp.us4{w0 w:World}{A Z B C D E U L:List bu}(h:Hp w0 w (A++(Z++(B++(C++(D++(E++(U++L)))))))):Hp w0 w (A++(U++(Z++(B++(C++(D++(E++L))))))):=h.perm (u7 A (by
 rw[show Z++(B++(C++(D++(E++(U++L)))))=(Z++(B++(C++(D++E))))++(U++L)by simp only[dG],show U++(Z++(B++(C++(D++(E++L)))))=U++((Z++(B++(C++(D++E))))++L)by simp only[dG]]
 exact wV _ _ _))
theorem VV.snoc{T:OP}{K:Vu}{ids:List Nat}{tl:List (Nat×Rl)}{l:List pO}{x:pO}(h:VV T K ids tl l)(hx:Xl T K ids tl x):VV T K ids tl (l++[x]):=fun y hy=>by
 rcases fg.1 hy with q|q
 .exact h y q
 rw[gG.1 q];exact hx
theorem aiU{K:Vu}{p:kP}(h:k7 K p):∀u∈(wK p).toArray,u.oneCell'=true:=by
 intro u hu
 simp only[wK,Ll,c8,HG,Cd]at hu
 rcases hu with rfl|rfl
 .rfl
 exact(l7 h.aY).1
theorem asJ(x:pO):((Xk x).drop 5).take 8=pH x.low:=by
 show(pH x.low).take 8=_
 exact ji (by rw[cY];exact eU _)
def shL(aq:List pO)(k:Int):Sh:=(aq.getD k.toNat pQ).p.sh
def ofB(a8:List Int)(v x:Int):Bool:=decide (0<=v/\v<a8.length/\a8.getD v.toNat 0=x)
def FE(aq:List pO)(a8:List Int)(k:Int)(x:dU):Bool:=(!decide (x.op=1)||ofB a8 x.n k)&&(!decide (x.op=2)||cJ (shL aq k) x.c)
def No(aq:List pO)(a8:List Int)(k:Int)(t:iR):Bool:=if t.var<0 then cJ (shL aq k) t.c else ofB a8 t.var k
def wO(aq:List pO)(a8:List Int)(k:Int)(l:List dU)(t:iR):Bool:=decide (0<=k/\k<aq.length)&&fU l&&(l.all (FE aq a8 k)&&No aq a8 k t)
section
variable{aq:List pO}{a8:List Int}{k q:Int}{l:List dU}{t:iR}{x:dU}
theorem Np(h:¬(0<=k/\k<aq.length)):wO aq a8 k l t=false:=by grind[wO]
theorem aiV(h:fU l=false):wO aq a8 k l t=false:=by grind[wO]
theorem V4(h0:0<=q)(h1:q<l.length)(h:FE aq a8 k (l.getD q.toNat bG)=false):wO aq a8 k l t=false:=by grind[FE,dw,wO]
theorem Nq(h1:0<=k/\k<aq.length)(h2:fU l=true)(h3:¬q<l.length)(hg:∀j:Int,0<=j->j<q->FE aq a8 k (l.getD j.toNat bG)=true):wO aq a8 k l t=No aq a8 k t:=by grind[FE,List.all_eq_true,List.mem_iff_getElem,Int.toNat_natCast,getD_eq,wO]
theorem aiW(h:x.op=1)(h2:¬(0<=x.n/\x.n<a8.length/\a8.getD x.n.toNat 0=k)):FE aq a8 k x=false:=by grind[FE,ofB]
theorem aiX(h:x.op=2)(h2:cJ (shL aq k) x.c=false):FE aq a8 k x=false:=by grind[FE]
theorem CR(h1:¬x.op=1\/(0<=x.n/\x.n<a8.length/\a8.getD x.n.toNat 0=k))(h2:¬x.op=2\/cJ (shL aq k) x.c=true):FE aq a8 k x=true:=by grind[ofB,cJ,shL,FE]
theorem anu(h:t.var<0):No aq a8 k t=cJ (shL aq k) t.c:=aX h
theorem anv(h:¬t.var<0):No aq a8 k t=decide (0<=t.var/\t.var<a8.length/\a8.getD t.var.toNat 0=k):=aT h
end
theorem Nr{α:Type}{l:List α}{a d:α}{i:Nat}:(l++[a]).getD i d=if i<l.length then l.getD i d else if i=l.length then a else d:=by grind
theorem oy{α:Type}{l:List α}{a d:α}{i:Nat}(h:i<l.length):(l++[a]).getD i d=l.getD i d:=by grind
theorem sV{α:Type}{l:List α}{a d:α}{i:Nat}(h:i=l.length):(l++[a]).getD i d=a:=by grind
def qM(s:NP)(l:Int)(e:El):NP:={s with a8:=s.a8++[l],ak:=s.ak++[e],bq:=s.bq++[0],us:=s.us++[[]],cs:=SP s.cs}
def FF(i:Int)(u:List (List Int))(v:Int):List (List Int):=u.set v.toNat (u.getD v.toNat []++[i])
theorem pU{i:Int}:∀{l:List Int} {u:List (List Int)},(l.foldl (FF i) u).length=u.length
 |[],u=>rfl
 |v::l,u=>by rw[o9,pU];simp[FF]
theorem CS{i:Int}:∀{l:List Int} {u:List (List Int)} {k:Nat},l.Nodup->(∀v∈l,0<=v/\v<u.length)->(l.foldl (FF i) u).getD k []=u.getD k []++if(k:Int)∈l then[i]else[]
 |[],u,k,_,_=>by simp
 |v::l,u,k,hn,hl=>by
  obtain⟨n1,n2⟩:=og.1 hn
  have h0:=hl v aJ
  rw[o9,CS n2 fun x hx=>by have:=hl x (fX _ hx);simp only[FF,nY];exact this]
  unfold FF
  rw[eT,p7]
  by_cases c:v.toNat=k
  .have e:(k:Int)=v:=J
   rw[aX c,aX J,e,aT n1,aX aJ,mY,c];rfl
  have e:¬(k:Int)=v:=J
  rw[aT c,<-eT]
  congr 1
  simp only[c8,e,false_or]
def BC(s:NP)(q:dD):NP:={s with qs:=s.qs++[q],us:=q.vars.foldl (FF s.qs.length) s.us}
theorem aiY{cs:List (List Nat)}(h:0<cs.length):(CI (SP cs) ((cs.length:Int)-1)).1=cs:=by
 unfold CI SP
 rw[aT xX,show((bB cs++[(bB cs).length])::cs).length-1-(max 0 ((cs.length:Int)-1)).toNat=1 by simp only[fq];omega]
 rfl
theorem aiZ{f:Value}{s:NP}{l:Int}{e:El}(h1:s.a8.length=s.ak.length)(h2:s.bq.length=s.ak.length)(h3:s.us.length=s.ak.length)(h4:0<s.cs.length):iN [(f,.var s.ak.length ((s.cs.length:Int)-1))] s (qM s l e):=by
 refine iN.one ?_ ⟨by simp[qM];omega,by simp[qM],by simp[qM];omega,by simp[qM];omega⟩
 simp only[wj,qM]
 rw[aiY h4,ve,show(s.a8++[l]).take s.ak.length=s.a8 by rw[<-h1,ve],show(s.bq++[(0:BitVec 64)]).take s.ak.length=s.bq by rw[<-h2,ve],show(s.us++[([]:List Int)]).take s.ak.length=s.us by rw[<-h3,ve]]
theorem Hp.aEb{w0 w:World}{A B U R L:List bu}{x:bu}(h:Hp w0 w (x::(A++(B++((U++R)++L))))):Hp w0 w (A++((U++[x])++(R++(B++L)))):=by
 refine h.perm ((EY (l₁:=A)).symm.trans (u7 A ?_))
 have h1:(B++((U++R)++L)).Perm (U++(R++(B++L))):=by
  rw[<-dG U R]
  exact wV _ _ _
 refine(h1.cons x).trans ?_
 rw[dG]
 exact EY.symm
theorem ai0{us:List jY}{u:List (List Int)}(h:qf us=u):qf (us++[de])=u++[[]]:=by grind[qf,de]
theorem Ns(l:List dU):∀u∈l.flatMap j9,u.oneCell'=true:=by grind[vR]
theorem aem{aq:List pO}{a8:List Int}{k:Int}{l:List dU}{t:iR}(h:wO aq a8 k l t=true):∀v∈dB l,0<=v/\v<a8.length:=by grind[sS,wO,FE,ofB]
theorem V5(l:List dU):(dB l).Nodup:=(Nh l).imp fun h=>by omega
theorem IZ:∀{l:List Int} {u:List (List Int)},(l.foldl GO u).length=u.length
 |[],u=>rfl
 |v::l,u=>by rw[o9,IZ];simp[GO]
theorem Qy:∀{l:List Int} {u:List (List Int)} {k:Nat},l.Nodup->(∀v∈l,0<=v/\v<u.length)->(l.foldl GO u).getD k []=if(k:Int)∈l then(u.getD k []).dropLast else u.getD k []
 |[],u,k,_,_=>by simp
 |v::l,u,k,hn,hl=>by
  obtain⟨n1,n2⟩:=og.1 hn
  have h0:=hl v aJ
  rw[o9,Qy n2 fun x hx=>by have:=hl x (fX _ hx);simp only[GO,nY];exact this]
  have e0:(GO u v).getD k []=if v.toNat=k then(u.getD k []).dropLast else u.getD k []:=by
   unfold GO
   rw[eT,p7]
   by_cases c:v.toNat=k
   .rw[aX c,aX J,aX c,c];rfl
   rw[aT c,aT c,<-eT]
  rw[e0]
  by_cases c:v.toNat=k
  .have e:(k:Int)=v:=J
   rw[aX c,e,aT n1,aX aJ]
  have e:¬(k:Int)=v:=J
  rw[aT c]
  simp only[c8,e,false_or]
theorem ai1{i:Int}{l:List Int}{u:List (List Int)}(hn:l.Nodup)(hl:∀v∈l,0<=v/\v<u.length):l.foldl GO (l.foldl (FF i) u)=u:=by
 apply uf
 intro k
 by_cases c:k<u.length
 .have h1:=Qy (k:=k) (u:=l.foldl (FF i) u) hn fun v hv=>by rw[pU];exact hl v hv
  rw[CS hn hl]at h1
  have lk:k<(l.foldl GO (l.foldl (FF i) u)).length:=by rw[IZ,pU];exact c
  rw[getD_eq lk,getD_eq c]at h1
  rw[eD lk,eD c,h1]
  by_cases q:(k:Int)∈l
  .rw[aX q,aX q,List.dropLast_concat]
  rw[aT q,aT q,mY]
 rw[oc (by rw[IZ,pU];omega),oc J]
theorem ai2{f:Value}{s:NP}{q:dD}(hn:q.vars.Nodup)(hl:∀v∈q.vars,0<=v/\v<s.us.length):iN [(f,.add s.qs.length q)] s (BC s q):=by
 refine iN.one ?_ ⟨by simp[BC],hn,fun v hv=> ?_⟩
 .simp only[wj,BC]
  rw[ve,ai1 hn hl]
 have h0:=hl v hv
 refine⟨h0.1,by simp only[BC];rw[pU];exact h0.2,?_⟩
 simp only[BC]
 rw[CS hn hl,aX (by rw[gk h0.1];exact hv)]
 simp
theorem anw{i:Int}{l:List Int}{u:List (List Int)}{k b:Nat}(hn:l.Nodup)(hl:∀v∈l,0<=v/\v<u.length)(h:(u.getD k []).length<=b):((l.foldl (FF i) u).getD k []).length<=b+1:=by grind[CS]
theorem Hp.aEc{w0 w:World}{A B U Q R L:List bu}(h:Hp w0 w (A++(B++(U++(Q++(R++L)))))):Hp w0 w (A++(U++(R++(B++(Q++L))))):=by
 refine h.perm (u7 A ?_)
 refine(wV B U _).trans (u7 U ?_)
 rw[<-dG,<-dG B Q L]
 exact wV _ _ _
structure mN(S:Sys)(Q:Nat->tK)(y:Nat->BitVec 64)(N:Nat)(M:Qm)(v:Va)(ws:Nat->BitVec 64)(rep:Nat->Nat)(P:Nat->Prop):Prop where
 ok:∀i,i<N->tL S (Q i)/\M (y i) (Q i)
 all:∀a q,M a q->∃i,i<N/\q=Q i
 mok:aec M
 low:BB S (fun q=>∃i,i<N/\q=Q i) v
 why:FB S M v ws
 ring:∀i k,i<S.n->k<S.n->rep i=rep k->S.sh i=S.sh k/\rS (v i) (v k)/\ws i=ws k/\qB S (M (ws i)) fun j=>j<S.n/\rep j=rep i
 hold:∀i,i<N->¬P i->fl (Q i) v
section
variable{S:Sys}{Q:Nat->tK}{y:Nat->BitVec 64}{N:Nat}{M:Qm}{v:Va}{ws:Nat->BitVec 64}{rep:Nat->Nat}{P P':Nat->Prop}{i k:Nat}{W:BitVec 64}
theorem qB.more{Q Q':tK->Prop}{C:Nat->Prop}(h:qB S Q C)(hq:∀q,Q q->Q' q):qB S Q' C:=fun u hu=>h u (hu.less hq)
theorem mN.ai3(h:mN S Q y N M v ws rep P)(hp:∀i,i<N->P i->P' i):mN S Q y N M v ws rep P':=⟨h.ok,h.all,h.mok,h.low,h.why,h.ring,fun i hi hn=>h.hold i hi fun q=>hn (hp i hi q)⟩
theorem mN.look(h:mN S Q y N M v ws rep P)(hh:fl (Q i) v):mN S Q y N M v ws rep fun j=>P j/\j≠i:=⟨h.ok,h.all,h.mok,h.low,h.why,h.ring,fun j hj hn=>by
 by_cases e:j=i
 .subst e;exact hh
 exact h.hold j hj fun q=>hn ⟨q,e⟩⟩
theorem mN.raise(h:mN S Q y N M v ws rep P)(hi:i<N)(hk:(Q i).to=some k)(hW1:eu (ws k) W=true)(hW2:eu (O3 (y i) ws (Q i).vars) W=true)
  (hP:∀j,j<N->j≠i->P j->P' j) (hU:∀j,j<N->∀x,x∈(Q j).vars->rep x=rep k->¬rS (v x) (ef (Q i).sh (v k) ((Q i).ev v))->P' j):
  mN S Q y N M (rE v (fun j=>j<S.n/\rep j=rep k) (ef (Q i).sh (v k) ((Q i).ev v))) (FC ws (fun j=>j<S.n/\rep j=rep k) W) rep P':=by
 obtain⟨ho,hy⟩:=h.ok i hi
 obtain⟨k1,k2⟩:=ho.to k hk
 have hmem:(fun q=>∃i,i<N/\q=Q i) (Q i):=⟨i,hi,rfl⟩
 have hr:=h.ring k k k1 k1 O
 have hl:=h.low.lub hmem ho hk
 have hRQ:qB S (fun q=>∃i,i<N/\q=Q i) fun j=>j<S.n/\rep j=rep k:=hr.2.2.2.more fun q hq=>h.all _ q hq
 have hsh:∀j,(j<S.n/\rep j=rep k)->S.sh j=S.sh k:=fun j hj=>(h.ring j k hj.1 k1 hj.2).1
 have ad8:=h.low.ring hRQ (fun j hj=>hj.1) (k:=k) ⟨k1,rfl⟩ hsh hl.1 hl.2
 have asL:=h.why.raise h.mok h.low.fit ho hk hy hr.2.2.2 ⟨k1,rfl⟩ hW1 hW2
 have hup:∀j,j<S.n->cS (v j) (rE v (fun j=>j<S.n/\rep j=rep k) (ef (Q i).sh (v k) ((Q i).ev v)) j)=true:=fun j hj=>by
  unfold rE
  by_cases c:j<S.n/\rep j=rep k
  .rw[aX c]
   have e:=(h.ring j k hj k1 c.2).2.1
   have fk:=h.low.fit k k1
   rw[k2]at fk
   exact fF (ld e) (YQ fk (ho.fit v h.low.fit)).1
  rw[aT c];exact j8 _
 refine⟨h.ok,h.all,h.mok,ad8,asL,fun a b ha hb hab=> ?_,fun j hj hn=> ?_⟩
 .have hra:=h.ring a b ha hb hab
  unfold rE FC
  by_cases c:a<S.n/\rep a=rep k
  .have c2:b<S.n/\rep b=rep k:=⟨hb,hab▸c.2⟩
   rw[aX c,aX c2,aX c,aX c2]
   refine⟨hra.1,fun _ _=>rfl,rfl,?_⟩
   have e:(fun j=>j<S.n/\rep j=rep a)=fun j=>j<S.n/\rep j=rep k:=by rw[c.2]
   rw[e]
   exact hr.2.2.2.more fun q hq=>h.mok _ _ _ hW1 hq
  have c2:¬(b<S.n/\rep b=rep k):=fun q=>c ⟨ha,hab.trans q.2⟩
  rw[aT c,aT c2,aT c,aT c2]
  exact hra
 have oj:=(h.ok j hj).1
 have hs:∀x,x∈(Q j).vars->cS (rE v (fun j=>j<S.n/\rep j=rep k) (ef (Q i).sh (v k) ((Q i).ev v)) x) (v x)=true:=fun x hx=>by
  unfold rE
  by_cases c:x<S.n/\rep x=rep k
  .rw[aX c]
   by_cases e:rS (v x) (ef (Q i).sh (v k) ((Q i).ev v))
   .exact ld fun q hq=>(e q hq).symm
   exact absurd (hU j hj x hx c.2 e) hn
  rw[aT c];exact j8 _
 have hev:cS ((Q j).ev (rE v (fun j=>j<S.n/\rep j=rep k) (ef (Q i).sh (v k) ((Q i).ev v)))) ((Q j).ev v)=true:=oj.Qp _ _ ad8.fit h.low.fit hs
 by_cases e:j=i
 .subst e
  unfold fl tK.rhs
  rw[hk]
  have ek:rE v (fun j=>j<S.n/\rep j=rep k) (ef (Q j).sh (v k) ((Q j).ev v)) k=ef (Q j).sh (v k) ((Q j).ev v):=aX ⟨k1,rfl⟩
  show cS _ (rE v _ _ k)=true
  rw[ek]
  have fk:=h.low.fit k k1
  rw[k2]at fk
  exact fF hev (YQ fk (ho.fit v h.low.fit)).2
 have hold:=h.hold j hj fun q=>hn (hP j hj e q)
 unfold fl tK.rhs at hold⊢
 cases ht:(Q j).to with
 |none=>rw[ht]at hold;exact fF hev hold
 |some x=>
  rw[ht]at hold
  exact fF hev (fF hold (hup x (oj.to x ht).1))
theorem mN.merge{C:Nat->Prop}[DecidablePred C]{e:El}{V6:Nat->Nat}(h:mN S Q y N M v ws rep P)(hC:∀j,C j->j<S.n/\eu (ws j) W=true)(hsh:∀a b,C a->C b->S.sh a=S.sh b)(hr:qB S (M W) C)(hk:C k)(he:cJ (S.sh k) e=true)
  (hlo:∀u,uV S (M W) u->cS e (u k)=true) (hup:∀j,C j->cS (v j) e=true) (h2:∀a b,a<S.n->b<S.n->V6 a=V6 b->C a/\C b\/¬C a/\¬C b/\rep a=rep b)
  (hP:∀j,j<N->P j->P' j) (hU:∀j,j<N->∀x,x∈(Q j).vars->C x->¬rS (v x) e->P' j):mN S Q y N M (rE v C e) (FC ws C W) V6 P':=by
 have ad8:=h.low.ring (hr.more fun q hq=>h.all _ q hq) (fun j hj=>(hC j hj).1) hk (fun j hj=>hsh j k hj hk) he fun u hu=>hlo u (hu.less fun q hq=>h.all _ q hq)
 have asL:FB S M (rE v C e) (FC ws C W):=h.why.ring h.mok hr hC fun u hu i hi=>fF (hlo u hu) (ld (hr u hu k i hk hi))
 have hle:∀j,cS (v j) (rE v C e j)=true:=fun j=>by
  unfold rE
  by_cases c:C j
  .rw[aX c];exact hup j c
  rw[aT c];exact j8 _
 refine⟨h.ok,h.all,h.mok,ad8,asL,fun a b ha hb hab=> ?_,fun j hj hn=> ?_⟩
 .unfold rE FC
  rcases h2 a b ha hb hab with⟨c1,c2⟩|⟨c1,c2,c3⟩
  .rw[aX c1,aX c2,aX c1,aX c2]
   refine⟨hsh a b c1 c2,fun _ _=>rfl,rfl,fun u hu i j hi hj=> ?_⟩
   have ci:C i:=(h2 i a hi.1 ha hi.2).elim (fun q=>q.1) fun q=>absurd c1 q.2.1
   have cj:C j:=(h2 j a hj.1 ha hj.2).elim (fun q=>q.1) fun q=>absurd c1 q.2.1
   exact hr u hu i j ci cj
  rw[aT c1,aT c2,aT c1,aT c2]
  obtain⟨r1,r2,r3,r4⟩:=h.ring a b ha hb c3
  refine⟨r1,r2,r3,fun u hu i j hi hj=> ?_⟩
  have ci:rep i=rep a:=(h2 i a hi.1 ha hi.2).elim (fun q=>absurd q.2 c1) fun q=>q.2.2
  have cj:rep j=rep a:=(h2 j a hj.1 ha hj.2).elim (fun q=>absurd q.2 c1) fun q=>q.2.2
  exact r4 u hu i j ⟨hi.1,ci⟩ ⟨hj.1,cj⟩
 have oj:=(h.ok j hj).1
 have hs:∀x,x∈(Q j).vars->cS (rE v C e x) (v x)=true:=fun x hx=>by
  unfold rE
  by_cases c:C x
  .rw[aX c]
   by_cases q:rS (v x) e
   .exact ld fun i hi=>(q i hi).symm
   exact absurd (hU j hj x hx c q) hn
  rw[aT c];exact j8 _
 have hev:=oj.Qp _ _ ad8.fit h.low.fit hs
 have hold:=h.hold j hj fun q=>hn (hP j hj q)
 unfold fl tK.rhs at hold⊢
 cases ht:(Q j).to with
 |none=>rw[ht]at hold;exact fF hev hold
 |some x=>rw[ht]at hold;exact fF hev (fF hold (hle x))
theorem mN.more(h:mN S Q y N M v ws rep P){M':Qm}(ho:tL S (Q N))(hy:M' (y N) (Q N))(hM:aec M')(h1:∀a q,M a q->M' a q)(h2:∀a q,M' a q->∃i,i<N+1/\q=Q i)(hs:FB S M v ws)(hN:P' N)(hp:∀i,i<N->P i->P' i):mN S Q y (N+1) M' v ws rep P':=by
 refine⟨fun i hi=> ?_,h2,hM,h.low.more fun q ⟨i,hi,e⟩=>⟨i,J,e⟩,fun k hk u hu=>hs k hk u (hu.less fun q hq=>h1 _ q hq),fun i k hi hk e=> ?_,fun i hi hn=> ?_⟩
 .by_cases e:i=N
  .subst e;exact⟨ho,hy⟩
  exact⟨(h.ok i J).1,h1 _ _ (h.ok i J).2⟩
 .obtain⟨a,b,c,d⟩:=h.ring i k hi hk e
  exact⟨a,b,c,d.more fun q hq=>h1 _ q hq⟩
 by_cases e:i=N
 .subst e;exact absurd hN hn
 exact h.hold i J fun q=>hn (hp i J q)
theorem mN.start(hM:∀a q,¬M a q)(hs:∀i,i<S.n->mC (S.sh i)=true)(hv:∀i,i<S.n->v i=gI (S.sh i) ew):mN S Q y 0 M v ws id P:=
 ⟨fun i hi=>J,fun a q h=>absurd h (hM a q),fun a b q _ h=>absurd h (hM a q),abO hs hv,fun k hk u hu=>by rw[hv k hk];exact(PR (hs k hk)).2 _ (hu.fit k hk),
  fun i k hi hk e=>by have:i=k:=e;subst this;exact⟨rfl,fun _ _=>rfl,rfl,fun u hu a b ha hb=>by have e1:a=i:=ha.2;have e2:b=i:=hb.2;rw[e1,e2];exact fun _ _=>rfl⟩,fun i hi=>J⟩
theorem mN.done(h:mN S Q y N M v ws rep fun _=>False):me S (fun q=>∃i,i<N/\q=Q i) v/\∀i,i<N->fl (Q i) v:=
 ⟨⟨h.low,fun q ⟨i,hi,e⟩ _=>e▸h.hold i hi id⟩,fun i hi=>h.hold i hi id⟩
theorem mN.stuck(h:mN S Q y N M v ws rep P)(hi:i<N)(hk:(Q i).to=none)(hf:¬fl (Q i) v):(∀u,uV S (fun q=>∃i,i<N/\q=Q i) u->¬fl (Q i) u)/\∀u,uV S (M (O3 (y i) ws (Q i).vars)) u->¬fl (Q i) u:=
 ⟨h.low.apG (h.ok i hi).1 hk hf,h.why.stuck h.mok h.low.fit (h.ok i hi).1 hk hf⟩
end
theorem anx{E:Nat->Nat->Prop}{u:Va}{a b:Nat}(hE:∀x y,E x y->cS (u x) (u y)=true)(h:jZ E a b):cS (u a) (u b)=true:=by
 induction h with
 |refl=>exact j8 _
 |step _ e ih=>exact fF ih (hE _ _ e)
section
variable{S:Sys}{Q:tK->Prop}
structure FG(S:Sys)(q:tK)(x y:Nat):Prop where
 to:q.to=some y
 ev:∀u,qg S u->rS (q.ev u) (u x)
theorem ai4{C:Nat->Prop}(h:∀i k,C i->C k->jZ (fun a b=>(∃q,Q q/\FG S q a b)\/∃D,D a/\D b/\qB S Q D) i k):qB S Q C:=qB.of fun u hu i k hi hk=>anx (fun x y e=>by
 rcases e with⟨q,hq,hp⟩|⟨D,hx,hy,hD⟩
 .have h1:=hu.hold q hq (by rw[hp.to];simp)
  unfold fl tK.rhs at h1
  rw[hp.to]at h1
  exact fF (ld fun i hi=>(hp.ev u hu.fit i hi).symm) h1
 exact ld (hD u hu x y hx hy)) (h i k hi hk)
theorem ZJ{q:tK}{x y:Nat}{v:Va}(hp:FG S q x y)(hv:qg S v)(he:rS (v x) (v y)):fl q v:=by
 unfold fl tK.rhs
 rw[hp.to]
 exact fF (ld (hp.ev v hv)) (ld he)
theorem Nt{sh:Sh}{n:Nat}{x:dU}{to:iR}(h1:x.op=1)(h0:0<=x.n/\x.n<n)(h2:0<=to.var):FG S (CM n sh [x] to) x.n.toNat to.var.toNat:=by
 refine⟨by unfold CM;simp;omega,fun u hu=> ?_⟩
 have hr:fU [x]=true:=by
  unfold fU ju
  simp[xj,h1]
 have hs:ij sh ((List.range n).map u) [x] (([x]:List dU).length:Nat)=some ([]++[((List.range n).map u).getD x.n.toNat dg]):=
  ahy (s:=sh) (v:=(List.range n).map u) (l:=[x]) (st:=[]) (k:=0) J aJ O h1 ⟨h0.1,by simpa using h0.2⟩
 show rS (ey sh [x] ((List.range n).map u)).1 (u x.n.toNat)
 rw[MU hr (k:=(([x]:List dU).length:Nat)) J J hs]
 simp only[eN,List.getD_cons_zero]
 rw[qC J]
 exact fun _ _=>rfl
end
def kA(aq:List pO)(a8:List Int)(n:Nat):Sys:=⟨n,fun i=>(aq.getD (a8.getD i 0).toNat pQ).p.sh⟩
def zu(aq:List pO)(q:dD):Sh:=(aq.getD q.a8.toNat pQ).p.sh
def uL(aq:List pO)(n:Nat)(q:dD):tK:=CM n (zu aq q) q.code q.to
def vQ(ak:List El):Va:=fun i=>ak.getD i dg
def wQ(ws:List (BitVec 64)):Nat->BitVec 64:=fun i=>ws.getD i 0
def OR(aq:List pO)(n:Nat)(qs:List dD):Qm:=fun a q=>∃i,i<qs.length/\q=uL aq n (qs.getD i cX)/\eu (qs.getD i cX).why a=true
def V7(aq:List pO)(a8:List Int)(n:Nat)(qs:List dD):Prop:=∀q∈qs,Zz (kA aq a8 n) (zu aq q) q.code q.to/\q.vars=dB q.code
def yg(qs:List dD)(k:Nat):List Int:=((List.range qs.length).filter fun i=>decide ((k:Int)∈(qs.getD i cX).vars)).map fun i:Nat=>(i:Int)
abbrev S3(aq:List pO)(n:Nat)(qs:List dD):Nat->Nat:=VL (qs.map (uL aq n))
def muN(aq:List pO)(a8:List Int)(n:Nat)(qs:List dD)(c:yU):Nat:=c.wl.length+(px (kA aq a8 n) (S3 aq n qs) (vQ c.ak) n).toNat
section
variable{S:Sys}{v:Va}{e:El}{C D:Nat->Prop}
theorem Nu[DecidablePred C][DecidablePred D](h:∀i,C i↔D i):rE v C e=rE v D e:=by grind[rE]
theorem Nv{ws:Nat->BitVec 64}{W:BitVec 64}[DecidablePred C][DecidablePred D](h:∀i,C i↔D i):FC ws C W=FC ws D W:=by grind[FC]
theorem asM{ak:List El}{k:Nat}(h:k<ak.length):vQ (ak.set k e)=GL (vQ ak) k e:=by grind[vQ,GL]
theorem ai5{ak:List El}{ks:List Int}(h:∀k∈ks,0<=k/\k<ak.length):vQ (gE ak ks e)=rE (vQ ak) (fun i=>(i:Int)∈ks) e:=by
 funext i;show(gE ak ks e).getD i dg=if(i:Int)∈ks then e else ak.getD i dg
 by_cases c:i<ak.length
 .exact sO c fun k hk=>(h k hk).1
 rw[eT,oc (by rw[jd];omega),aT fun q=>by have:=h _ q;omega,eT,oc J]
theorem ai6{ws:List (BitVec 64)}{W:BitVec 64}{ks:List Int}(h:∀k∈ks,0<=k/\k<ws.length):wQ (gE ws ks W)=FC (wQ ws) (fun i=>(i:Int)∈ks) W:=by grind[wQ,gE,FC,sO,jd]
theorem ai7{ak:List El}{n:Nat}(h:ak.length=n):(List.range n).map (vQ ak)=ak:=by
 apply uf
 intro i
 rw[qp]
 by_cases c:i<n
 .rw[zy c,qU,eD J]
  unfold vQ;rw[getD_eq J]
 rw[oc LH,oc J];rfl
theorem ai8{p:List Int×List Bool}{i j:Int}(h:j∈p.1):j∈(py p i).1:=by grind[py]
theorem GU:∀{l:List Int} {p:List Int×List Bool} {j:Int},j∈p.1->j∈(rV p l).1
 |[],p,j,h=>h
 |i::l,p,j,h=>GU (l:=l) (p:=py p i) (ai8 h)
theorem S4:∀{l:List Int} {wl:List Int} {wi:List Bool} {j:Int},uW wl wi->(∀i∈l,0<=i/\i<wi.length)->j∈l->j∈(rV (wl,wi) l).1
 |i::l,wl,wi,j,h,hl,hj=>by
  show j∈(rV (py (wl,wi) i) l).1
  by_cases e:j=i
  .subst e
   refine GU ?_
   unfold py
   by_cases c:wi.getD j.toNat false=true
   .rw[aX c];exact(h.mem j).2 ⟨hl j aJ,c⟩
   rw[aT c];simp
  exact S4 (wl:=(py (wl,wi) i).1) (wi:=(py (wl,wi) i).2) (h.put (hl i aJ)) (fun k hk=>by rw[Nl];exact hl k (fX _ hk)) ((c8.1 hj).resolve_left e)
theorem ai9{ak:List El}{us:List jY}{p:List Int×List Bool}{k j:Int}(h:j∈p.1):j∈(mh ak us p k e).1:=by grind[mh,GU]
theorem KZ{us:List jY}:∀{ks:List Int} {ak:List El} {p:List Int×List Bool} {j:Int},j∈p.1->j∈(ye ak us p ks e).2.1
 |[],ak,p,j,h=>h
 |k::ks,ak,p,j,h=>KZ (ks:=ks) (ak:=ak.set k.toNat e) (p:=mh ak us p k e) (ai9 h)
theorem ZK{us:List jY}{b:Nat}(hu:∀k:Nat,k<us.length->∀i∈(us.getD k de).l,0<=i/\i<(b:Int)){k:Nat}{j:Int}(hj:j∈(us.getD k de).l):∀{ks:List Int} {ak:List El} {wl:List Int} {wi:List Bool},uW wl wi->wi.length=b->(∀k∈ks,0<=k/\k<us.length)->ak.length=us.length->(k:Int)∈ks->¬rS (ak.getD k dg) e->j∈(ye ak us (wl,wi) ks e).2.1
 |a::ks,ak,wl,wi,h,hb,hk,hv,hm,hne=>by
  have ha:=hk a aJ
  show j∈(ye (ak.set a.toNat e) us (mh ak us (wl,wi) a e) ks e).2.1
  by_cases q:(k:Int)=a
  .refine KZ ?_
   unfold mh
   rw[<-q,eA,aT hne]
   exact S4 h (fun i hi=>by have:=hu k J i hi;omega) hj
  have h1:uW (mh ak us (wl,wi) a e).1 (mh ak us (wl,wi) a e).2:=by
   unfold mh;split
   .exact h
   exact h.rV fun i hi=>by have:=hu a.toNat J i hi;omega
  refine ZK hu hj (ks:=ks) (ak:=ak.set a.toNat e) (wl:=(mh ak us (wl,wi) a e).1) (wi:=(mh ak us (wl,wi) a e).2) h1 (Nn.trans hb) (fun x hx=>hk x (fX _ hx)) (by simpa using hv) ((c8.1 hm).resolve_left q) ?_
  rw[eT,p7,aT J,<-eT];exact hne
theorem aja{us:List jY}{U:Nat->Nat}(hU:∀k,k<S.n->(us.getD k de).l.length<=U k):∀{ks:List Int} {ak:List El} {p:List Int×List Bool},ak.length=S.n->qg S (vQ ak)->
  (∀k∈ks,(0<=k/\k<S.n)/\cJ (S.sh k.toNat) e=true/\cS (ak.getD k.toNat dg) e=true)->((ye ak us p ks e).2.1.length:Int)+px S U (vQ (ye ak us p ks e).1) S.n<=p.1.length+px S U (vQ ak) S.n
 |[],ak,p,_,_,_=>lW _
 |k::ks,ak,p,hl,hv,hk=>by
  obtain⟨k1,k2,k3⟩:=hk k aJ
  have es:=asM (e:=e) (ak:=ak) (k:=k.toNat) J
  have fv:qg S (vQ (ak.set k.toNat e)):=by
   rw[es];intro i hi;unfold GL
   by_cases c:i=k.toNat
   .rw[aX c,c];exact k2
   rw[aT c];exact hv i hi
  have ih:=aja hU (ks:=ks) (ak:=ak.set k.toNat e) (p:=mh ak us p k e) (by simpa using hl) fv fun x hx=>by
   obtain⟨a,b,c⟩:=hk x (fX _ hx)
   refine⟨a,b,?_⟩
   rw[eT,p7]
   by_cases q:k.toNat=x.toNat
   .rw[aX q,aX J];exact j8 _
   rw[aT q,<-eT];exact c
  show((ye (ak.set k.toNat e) us (mh ak us p k e) ks e).2.1.length:Int)+px S U (vQ (ye (ak.set k.toNat e) us (mh ak us p k e) ks e).1) S.n<=_
  refine Ls ih ?_
  rw[es]
  unfold mh
  have hkn:k.toNat<S.n:=J
  by_cases c:rS (ak.getD k.toNat dg) e
  .rw[aX c,SX,aX hkn]
   have h8:(S.sh k.toNat).aY.length<=8:=by
    have:mC (S.sh k.toNat)=true:=by
     have:=k2;unfold cJ at this;simp only[cL]at this;exact this.1
    exact(n4 this).1.2
   have:m8 (S.sh k.toNat) (vQ ak k.toNat)=m8 (S.sh k.toNat) e:=UZ h8 c
   rw[this];omega
  rw[aT c]
  have h1:=Qq (U:=U) hv hkn k2 (show cS (vQ ak k.toNat) e=true from k3) (fun q=>c (ahL q))
  have h2:=GN (l:=(us.getD k.toNat de).l) (p:=p)
  have h3:=hU k.toNat hkn
  omega
end
theorem S5(ws:List (BitVec 64)):∀(l:List Int) (y:BitVec 64),orW y ws l=O3 y (wQ ws) (l.map Int.toNat)
 |[],y=>rfl
 |a::l,y=>S5 ws l (y|||ws.getD a.toNat 0)
structure O4(us:List jY)(qs:List dD)(n:Nat):Prop where
 len:us.length=n
 is:∀k,k<n->(us.getD k de).l=yg qs k
theorem CT{qs:List dD}{k:Nat}{i:Int}:i∈yg qs k↔(0<=i/\i<qs.length)/\(k:Int)∈(qs.getD i.toNat cX).vars:=by grind[yg]
theorem ajb{k:Nat}:∀{l:List Nat},k∈l->1<=SZ k l
 |a::l,h=>by
  unfold SZ
  rcases c8.1 h with e|h
  .rw[aX e];omega
  have:=ajb h;omega
theorem ajc{aq:List pO}{n:Nat}{qs:List dD}(hv:∀q∈qs,q.vars=dB q.code)(k:Nat):(yg qs k).length<=S3 aq n qs k:=by
 have key:∀(qs:List dD),(∀q∈qs,q.vars=dB q.code)->(qs.filter fun q=>decide ((k:Int)∈q.vars)).length<=S3 aq n qs k:=by
  intro qs
  induction qs with
  |nil=>intro _;exact eU _
  |cons q qs ih=>
   intro h
   have h1:=ih fun p hp=>h p (fX _ hp)
   show _<=SZ k (uL aq n q).vars+S3 aq n qs k
   rw[B5]
   split
   .rename_i c
    have:k∈(uL aq n q).vars:=by
     refine fZ.2 ⟨(k:Int),?_,eA k⟩
     have:=h q aJ
     rw[<-this];simpa using c
    have:=ajb this
    rw[fq];omega
   omega
 have e:(yg qs k).length=(qs.filter fun q=>decide ((k:Int)∈q.vars)).length:=by
  unfold yg
  rw[gF]
  have aEd:∀(l:List Nat) (m:List dD),l.map (fun i=>qs.getD i cX)=m->(l.filter fun i=>decide ((k:Int)∈(qs.getD i cX).vars)).length=(m.filter fun q=>decide ((k:Int)∈q.vars)).length:=fun l m h=>by
   subst h
   rw[List.filter_map,gF];rfl
  refine aEd _ _ ?_
  apply uf
  intro i
  rw[qp]
  by_cases c:i<qs.length
  .rw[zy c,qU,getD_eq c,eD c]
  rw[oc LH,oc J];rfl
 rw[e];exact key qs hv
def BD(cl:List Nat):Prop:=∀i,i<cl.length->cm cl i<=i/\cm cl (cm cl i)=cm cl i
structure ZL(aq:List pO)(a8:List Int)(qs:List dD)(rep:Nat->Nat)(n:Nat)(X:Nat->Prop)(c:yU):Prop where
 ck:Qu qs.length n n c
 si:mN (kA aq a8 n) (fun i=>uL aq n (qs.getD i cX)) (fun i=>(qs.getD i cX).why) qs.length (OR aq n qs) (vQ c.ak) (wQ c.bq) rep fun i=>(i:Int)∈c.wl\/X i
section
variable{us:List jY}{aq:List pO}{a8:List Int}{qs:List dD}{cl:List Nat}{n:Nat}{ak:List El}{bq:List (BitVec 64)}{wl:List Int}{wi:List Bool}{x:Int}{wy:BitVec 64}{q:dD}{rep:Nat->Nat}{X:Nat->Prop}{c:yU}
theorem O4.hu(h:O4 us qs n):∀k:Nat,k<us.length->∀i∈(us.getD k de).l,0<=i/\i<(qs.length:Int):=by grind[O4,de,CT]
theorem apK(hl:ak.length=n):(uL aq n q).ev (vQ ak)=lkE (zu aq q) q ak:=by
 show(ey _ _ ((List.range n).map (vQ ak))).1=_
 rw[ai7 hl];rfl
theorem asN:(uL aq n q).rhs (vQ ak)=if q.to.var<0 then q.to.c else ak.getD q.to.var.toNat dg:=by grind[tK.rhs,uL,CM,vQ]
theorem apL:(uL aq n q).to=if q.to.var<0 then none else some q.to.var.toNat:=rfl
theorem S6(hl:ak.length=n):fl (uL aq n q) (vQ ak)↔cS (lkE (zu aq q) q ak) (if q.to.var<0 then q.to.c else ak.getD q.to.var.toNat dg)=true:=by
 unfold fl;rw[apK hl,asN]
theorem GV(hp:E8 q=true):∃y,q.code=[y]/\y.op=1/\0<=q.to.var:=by
 simp only[E8,cL,eE]at hp
 obtain⟨⟨h1,h2⟩,h3⟩:=hp
 match hc:q.code,h1 with
 |[y],_=>rw[hc]at h2;exact⟨y,rfl,h2,h3⟩
theorem Et(hf:Zz (kA aq a8 n) (zu aq q) q.code q.to)(hv:q.vars=dB q.code)(hp:E8 q=true):(0<=yz q/\yz q<n)/\(0<=q.to.var/\q.to.var<n)/\FG (kA aq a8 n) (uL aq n q) (yz q).toNat q.to.var.toNat/\(kA aq a8 n).sh (yz q).toNat=(kA aq a8 n).sh q.to.var.toNat:=by
 obtain⟨y,hy,ho,h0⟩:=GV hp
 have h1:=hf.var y (by rw[hy];simp) ho
 have h2:=hf.to1 h0
 have hn:(kA aq a8 n).n=n:=rfl
 have e:yz q=y.n:=by unfold yz;rw[hv,hy];unfold dB;simp[ho,h1.1,tM]
 rw[e]
 refine⟨⟨h1.1,J⟩,⟨h0,J⟩,?_,by rw[h1.2.2,h2.2]⟩
 unfold uL
 rw[hy]
 exact Nt ho ⟨h1.1,J⟩ h0
theorem GX(hv:q.vars=dB q.code):(uL aq n q).vars=q.vars.map Int.toNat:=by rw[hv];rfl
theorem ZL.look(hq:V7 aq a8 n qs)(hu:O4 us qs n)(ov:cl.length=n)(h:ZL aq a8 qs (cm cl) n (fun _=>False) ⟨ak,bq,x::wl,wi⟩){r:LkO}(hr:n7 cl us (zu aq (qs.getD x.toNat cX)) (qs.getD x.toNat cX) ak bq wl (wi.set x.toNat false) wy=r)(hok:r.ok=true):
  ZL aq a8 qs (cm cl) n (fun _=>False) ⟨r.ak,r.bq,r.wl,r.wi⟩/\muN aq a8 n qs ⟨r.ak,r.bq,r.wl,r.wi⟩<muN aq a8 n qs ⟨ak,bq,x::wl,wi⟩:=by
 have hn:(kA aq a8 n).n=n:=rfl
 obtain⟨hx,ck⟩:=h.ck.take
 have ckr:=aiQ (cl:=cl) (us:=us) (sh:=zu aq (qs.getD x.toNat cX)) (q:=qs.getD x.toNat cX) (wy:=wy) hu.hu (by rw[ov,hu.len]) ck
 rw[hr]at ckr
 have UW:x.toNat<qs.length:=J
 have hm:=dw (d:=cX) hx.1 hx.2
 obtain⟨hf,hvs⟩:=hq _ hm
 generalize hqq:qs.getD x.toNat cX=q at*
 have lv:ak.length=n:=h.ck.lv
 have ly:bq.length=n:=h.ck.ly
 have nd:=og.1 h.ck.wq.nd
 have hsi:=h.si
 simp only at hsi
 have yes:fl (uL aq n q) (vQ ak)->mN (kA aq a8 n) (fun i=>uL aq n (qs.getD i cX)) (fun i=>(qs.getD i cX).why) qs.length (OR aq n qs) (vQ ak) (wQ bq) (cm cl) (fun i=>(i:Int)∈wl\/False)/\muN aq a8 n qs ⟨ak,bq,wl,wi.set x.toNat false⟩<muN aq a8 n qs ⟨ak,bq,x::wl,wi⟩:=fun hh=>by
  have h1:=hsi.look (i:=x.toNat) (by show fl (uL aq n (qs.getD x.toNat cX)) _;rw[hqq];exact hh)
  refine⟨h1.ai3 fun i hi ⟨hp,hne⟩=> ?_,?_⟩
  .rcases hp with hp|hp
   .rcases c8.1 hp with e|e
    .exact absurd J hne
    exact .inl e
   exact hp.elim
  unfold muN;simp only[fq];omega
 unfold n7 at hr
 by_cases c1:skQ cl q=true
 .rw[aX c1]at hr;subst hr
  simp only[skQ,cL,eE]at c1
  obtain⟨p1,p2,p3,p4⟩:=Et hf hvs c1.1
  have e:=c1.2
  rw[nc J,nc J]at e
  have:=(hsi.ring _ _ J J (Int.ofNat.inj e)).2.1
  have:=yes (ZJ p3 hsi.low.fit this)
  exact⟨⟨ckr,this.1⟩,this.2⟩
 rw[aT c1]at hr
 by_cases c2:q.to.var<0
 .rw[aX c2]at hr
  by_cases c3:cS (lkE (zu aq q) q ak) q.to.c=true
  .rw[aX c3]at hr;subst hr
   have:=yes ((S6 lv).2 (by rw[aX c2];exact c3))
   exact⟨⟨ckr,this.1⟩,this.2⟩
  rw[aT c3]at hr;subst hr;cases hok
 rw[aT c2]at hr
 by_cases c3:cS (lkE (zu aq q) q ak) (ak.getD q.to.var.toNat dg)=true
 .rw[aX c3]at hr;subst hr
  have:=yes ((S6 lv).2 (by rw[aT c2];exact c3))
  exact⟨⟨ckr,this.1⟩,this.2⟩
 rw[aT c3]at hr;subst hr
 have hto:=hf.to1 J
 have hk:(uL aq n q).to=some q.to.var.toNat:=by rw[apL,aT c2]
 have kn:q.to.var.toNat<n:=J
 have hks:∀k∈bP cl q.to.var,0<=k/\k<(n:Int):=fun k hk=>by have:=mM hk;omega
 have hCi:∀i:Nat,(i:Int)∈bP cl q.to.var↔i<n/\cm cl i=cm cl q.to.var.toNat:=fun i=>by
  rw[IX,eA]
  exact⟨fun⟨a,b,c,d⟩=>⟨J,d⟩,fun⟨a,b⟩=>⟨J,J,J,b⟩⟩
 have eJ:ef (uL aq n q).sh (vQ ak q.to.var.toNat) ((uL aq n q).ev (vQ ak))=lkJ (zu aq q) q ak:=by rw[apK lv];rfl
 have hq2:uL aq n (qs.getD x.toNat cX)=uL aq n q:=by rw[hqq]
 have h1:=hsi.raise (i:=x.toNat) (k:=q.to.var.toNat) (W:=bq.getD q.to.var.toNat 0|||orW q.why bq q.vars) (P':=fun i=>(i:Int)∈(ye ak us (wl,wi.set x.toNat false) (bP cl q.to.var) (lkJ (zu aq q) q ak)).2.1\/False) UW (by show(uL aq n (qs.getD x.toNat cX)).to=_;rw[hqq];exact hk) (Ig _ _)
  (by show eu (O3 (qs.getD x.toNat cX).why (wQ bq) (uL aq n (qs.getD x.toNat cX)).vars) _=true;rw[hqq,GX hvs,<-S5];exact Gq _ _)
  (fun j hj hne hp=>by
   rcases hp with hp|hp
   .rcases c8.1 hp with e|e
    .exact absurd J hne
    exact .inl (KZ e)
   exact hp.elim)
  (fun j hj y hy hr hne=>by
   simp only[hqq]at hy hne
   rw[eJ]at hne
   have hjm:=hq _ (dw (d:=cX) (l:=qs) (k:=(j:Int)) J J)
   rw[eA]at hjm
   rw[GX hjm.2]at hy
   obtain⟨z,hz,rfl⟩:=fZ.1 hy
   have hz0:0<=z/\z<n:=by
    have:=hz
    rw[hjm.2]at this
    obtain⟨a,ha,ho,h0,rfl⟩:=sS.1 this
    have:=hjm.1.var a ha ho
    omega
   refine .inl (ZK hu.hu (k:=z.toNat) (j:=(j:Int)) ?_ ck.wq ck.li (fun k hk=>by have:=hks k hk;have:=hu.len;omega) (by rw[hu.len];exact lv) ?_ hne)
   .rw[hu.is _ J]
    refine CT.2 ⟨J,?_⟩
    rw[eA,gk hz0.1];exact hz
   exact(hCi _).2 ⟨J,hr⟩)
 simp only[hqq]at h1
 rw[eJ]at h1
 have e1:vQ (lkR cl us (zu aq q) q ak bq wl (wi.set x.toNat false) wy).ak=rE (vQ ak) (fun i=>i<n/\cm cl i=cm cl q.to.var.toNat) (lkJ (zu aq q) q ak):=by
  unfold lkR;simp only[yS]
  rw[ai5 (by rw[lv];exact hks)]
  exact Nu hCi
 have e2:wQ (lkR cl us (zu aq q) q ak bq wl (wi.set x.toNat false) wy).bq=FC (wQ bq) (fun i=>i<n/\cm cl i=cm cl q.to.var.toNat) (bq.getD q.to.var.toNat 0|||orW q.why bq q.vars):=by
  unfold lkR;simp only
  rw[ai6 (by rw[ly];exact hks)]
  exact Nv hCi
 refine⟨⟨ckr,?_⟩,?_⟩
 .simp only;rw[e1,e2];exact h1
 have fv:=hsi.low.fit
 have io:=(hsi.ok x.toNat UW).1
 simp only[hqq]at io
 have fk:cJ (zu aq q) (vQ ak q.to.var.toNat)=true:=by rw[<-hto.2];exact fv _ J
 have fj:cJ (zu aq q) (lkJ (zu aq q) q ak)=true:=by rw[<-eJ];exact ID fk (io.fit _ fv)
 have up:cS (vQ ak q.to.var.toNat) (lkJ (zu aq q) q ak)=true:=by rw[<-eJ];exact(YQ fk (io.fit _ fv)).1
 have h2:=aja (S:=kA aq a8 n) (us:=us) (U:=S3 aq n qs) (e:=lkJ (zu aq q) q ak) (ks:=bP cl q.to.var) (ak:=ak) (p:=(wl,wi.set x.toNat false)) (fun k hk=>by rw[hu.is k hk];exact ajc (fun q hq'=>(hq q hq').2) k) lv fv fun k hk=>by
  have hc:=mM hk
  have V8:=hsi.ring k.toNat q.to.var.toNat J J hc.2.2.2
  refine⟨by have:=hks k hk;omega,by rw[V8.1,hto.2];exact fj,fF (ld V8.2.1) up⟩
 have h3:=KX (U:=S3 aq n qs) fv n (eU _)
 have h4:0<=px (kA aq a8 n) (S3 aq n qs) (rE (vQ ak) (fun i=>i<n/\cm cl i=cm cl q.to.var.toNat) (lkJ (zu aq q) q ak)) n:=KX (U:=S3 aq n qs) h1.low.fit n (eU _)
 rw[<-e1]at h4
 rw[hn]at h2
 unfold muN
 simp only[fq]
 have e3:(lkR cl us (zu aq q) q ak bq wl (wi.set x.toNat false) wy).ak=(ye ak us (wl,wi.set x.toNat false) (bP cl q.to.var) (lkJ (zu aq q) q ak)).1:=rfl
 have e4:(lkR cl us (zu aq q) q ak bq wl (wi.set x.toNat false) wy).wl=(ye ak us (wl,wi.set x.toNat false) (bP cl q.to.var) (lkJ (zu aq q) q ak)).2.1:=rfl
 rw[e3]at h4⊢
 rw[e4]
 simp only at h2
 omega
end
section
variable{cl:List Nat}{x y a b:Nat}
theorem anz:IJ x y a=IJ x y b↔a=b\/((a=x\/a=y)/\(b=x\/b=y)):=by grind[IJ,x7]
theorem BD.join(h:BD cl)(ha:a<cl.length)(hb:b<cl.length):BD (iI cl (cm cl a) (cm cl b)):=by grind[BD,iI,cm,IU,IJ,Ab,kQ,x7,k9]
theorem aen{cs:List (List Nat)}{i j:Int}(hi:0<=i/\i<(bB cs).length)(hj:0<=j/\j<(bB cs).length)(ha:a<(bB cs).length)(hb:b<(bB cs).length):
 cm (bB (jv cs i j).1) a=cm (bB (jv cs i j).1) b↔cm (bB cs) a=cm (bB cs) b\/((cm (bB cs) a=cm (bB cs) i.toNat\/cm (bB cs) a=cm (bB cs) j.toNat)/\(cm (bB cs) b=cm (bB cs) i.toNat\/cm (bB cs) b=cm (bB cs) j.toNat)):=by grind[IT,bB,IV,cm,iI,Ab,anz,M9]
theorem aje{cs:List (List Nat)}{i j:Int}(hi:0<=i/\i<(bB cs).length)(hj:0<=j/\j<(bB cs).length)(h:BD (bB cs)):BD (bB (jv cs i j).1):=by
 by_cases q:IT (bB cs).length (bB cs) i j
 .rw[IV q];exact h.join J J
 rw[M9 q];exact h
def Ew(cl:List Nat)(ks:List Int)(n k a b:Nat):Prop:=a<n/\b<n/\(cm cl a=cm cl b\/(a<k/\(b:Int)=ks.getD a 0)\/(b<k/\(a:Int)=ks.getD b 0))
structure MgK(cl jT:List Nat)(ks:List Int)(n k:Nat):Prop where
 ok:BD jT
 more:∀a b,a<n->b<n->cm cl a=cm cl b->cm jT a=cm jT b
 air:∀v,v<k->cm jT v=cm jT (ks.getD v 0).toNat
 way:∀a b,a<n->b<n->cm jT a=cm jT b->jZ (Ew cl ks n k) a b
theorem ajf{cs:List (List Nat)}{ks:List Int}{n:Nat}(h:BD (bB cs))(hl:(bB cs).length=n)(hk:∀v,v<n->0<=ks.getD v 0/\ks.getD v 0<n):∀k,k<=n->MgK (bB cs) (bB (s3 cs ks k)) ks n k
 |0,_=>⟨h,fun a b _ _ q=>q,fun v hv=>J,fun a b ha hb q=> .one ⟨ha,hb,.inl q⟩⟩
 |k+1,hn=>by
  have ih:=ajf h hl hk k J
  have e:=GQ (cs:=cs) (ks:=ks) (k:=(k:Int)) J
  rw[show((k:Int)+1).toNat=k+1 by omega,show((k:Int)).toNat=k by omega]at e
  have l2:(bB (s3 cs ks k)).length=n:=by rw[xo];exact hl
  have hkk:=hk k J
  have iff:=fun a b (ha:a<n) (hb:b<n)=>aen (cs:=s3 cs ks k) (i:=(k:Int)) (j:=ks.getD k 0) (a:=a) (b:=b) J J J J
  rw[eA]at iff
  rw[e]
  have st:∀a b,jZ (Ew (bB cs) ks n k) a b->jZ (Ew (bB cs) ks n (k+1)) a b:=fun a b w=>w.mono fun x y ⟨h1,h2,h3⟩=>⟨h1,h2,by
   rcases h3 with q|q|q
   .exact .inl q
   .exact .inr (.inl ⟨J,q.2⟩)
   exact .inr (.inr ⟨J,q.2⟩)⟩
  refine⟨aje J J ih.ok,fun a b ha hb q=>(iff a b ha hb).2 (.inl (ih.more a b ha hb q)),fun v hv=> ?_,fun a b ha hb q=> ?_⟩
  .by_cases c:v=k
   .subst c;exact(iff v _ J J).2 (.inr ⟨.inl O,.inr O⟩)
   have:=hk v J
   exact(iff v _ J J).2 (.inl (ih.air v J))
  have jk:jZ (Ew (bB cs) ks n (k+1)) k (ks.getD k 0).toNat:= .one ⟨J,J,.inr (.inl ⟨J,J⟩)⟩
  have kj:jZ (Ew (bB cs) ks n (k+1)) (ks.getD k 0).toNat k:= .one ⟨J,J,.inr (.inr ⟨J,J⟩)⟩
  have kn:k<n:=J
  have jn:(ks.getD k 0).toNat<n:=J
  rcases(iff a b ha hb).1 q with q|⟨q,r⟩
  .exact st _ _ (ih.way a b ha hb q)
  have w1:jZ (Ew (bB cs) ks n (k+1)) a k:=by
   rcases q with q|q
   .exact st _ _ (ih.way a k ha kn q)
   exact(st _ _ (ih.way a _ ha jn q)).trans kj
  have w2:jZ (Ew (bB cs) ks n (k+1)) k b:=by
   rcases r with q|q
   .exact st _ _ (ih.way k b kn hb q.symm)
   exact jk.trans (st _ _ (ih.way _ b jn hb q.symm))
  exact w1.trans w2
theorem xp{α:Type}{p q:α->Bool}:∀{l:List α},(∀x∈l,p x=true->q x=true)->(l.filter p).length<=(l.filter q).length/\((l.filter p).length=(l.filter q).length->∀x∈l,q x=true->p x=true)
 |[],_=>⟨eU _,fun _ x hx=>by cases hx⟩
 |a::l,h=>by
  obtain⟨h1,h2⟩:=xp (l:=l) (p:=p) (q:=q) fun x hx=>h x (fX _ hx)
  rw[B5,B5]
  by_cases c:p a=true
  .rw[aX c,aX (h a aJ c)]
   simp only[fq]
   refine⟨J,fun e x hx hq=> ?_⟩
   rcases c8.1 hx with r|r
   .rw[r];exact c
   exact h2 J x r hq
  rw[aT c]
  by_cases d:q a=true
  .rw[aX d];simp only[fq]
   exact⟨J,fun e=>J⟩
  rw[aT d]
  refine⟨h1,fun e x hx hq=> ?_⟩
  rcases c8.1 hx with r|r
  .rw[r]at hq;exact absurd hq d
  exact h2 e x r hq
theorem ZM{cl jT:List Nat}(h:BD cl)(h':BD jT)(hl:jT.length=cl.length)(hm:∀a b,a<cl.length->b<cl.length->cm cl a=cm cl b->cm jT a=cm jT b)(he:leads jT=leads cl):∀a,a<cl.length->cm jT a=cm cl a:=fun a ha=>by
 unfold leads at he
 rw[hl]at he
 have h1:=xp (l:=List.range cl.length) (p:=fun i=>cm jT i==i) (q:=fun i=>cm cl i==i) fun x hx hp=>by
  rw[Cc]at hp⊢
  have hx:=qq.1 hx
  have c1:=h x hx
  have c2:=hm x (cm cl x) hx J c1.2.symm
  have c3:=h' (cm cl x) J
  omega
 have ha1:=h a ha
 have h2:=h1.2 he (cm cl a) (qq.2 J) (by rw[Cc];exact ha1.2)
 rw[Cc]at h2
 rw[hm a (cm cl a) ha J ha1.2.symm,h2]
end
theorem S7{o:List (BitVec 64)}{k:Nat}{y:BitVec 64}(hk:k<o.length):(∀i,eu (o.getD i 0) ((o.set k (o.getD k 0|||y)).getD i 0)=true)/\eu y ((o.set k (o.getD k 0|||y)).getD k 0)=true:=by grind[Ig,tB,Gq]
theorem abX{α:Type}{f:List (BitVec 64)->α->List (BitVec 64)}{n:Nat}(hl:∀o a,(f o a).length=o.length)(l:List α)(hm:∀o:List (BitVec 64),o.length=n->∀a∈l,∀i,eu (o.getD i 0) ((f o a).getD i 0)=true):∀o:List (BitVec 64),o.length=n->(∀i,eu (o.getD i 0) ((l.foldl f o).getD i 0)=true)/\∀a∈l,∀y k,(∀o:List (BitVec 64),o.length=n->eu y ((f o a).getD k 0)=true)->eu y ((l.foldl f o).getD k 0)=true:=by
 induction l with
 |nil=>intro o _;exact⟨fun i=>tB _,fun a ha=>by cases ha⟩
 |cons b l ih=>
  intro o ho
  have h1:=ih (fun o h a ha=>hm o h a (fX _ ha)) (f o b) ((hl o b).trans ho)
  refine⟨fun i=>l8 (hm o ho b aJ i) (h1.1 i),fun a ha y k hy=> ?_⟩
  rcases c8.1 ha with e|ha
  .subst e;exact l8 (hy o ho) (h1.1 k)
  exact h1.2 a ha y k hy
theorem anA{cl:List Nat}{ws:List (BitVec 64)}{n:Nat}{qs:List dD}(h:BD cl)(hl:cl.length=n)(hp:VN n qs):
  (∀v,v<n->eu (ws.getD v 0) ((CN cl ws n qs).getD (cm cl v) 0)=true)/\∀q∈qs,E8 q=true->yz q≠q.to.var->cm cl (yz q).toNat=cm cl q.to.var.toNat->eu q.why ((CN cl ws n qs).getD (cm cl q.to.var.toNat) 0)=true:=by
 have fr:∀v:Nat,v<n->(fN cl (v:Int)).toNat=cm cl v/\cm cl v<n:=fun v hv=>by
  rw[nc J,eA,eA]
  have:=h v J
  exact⟨rfl,J⟩
 have hto:∀q∈qs,JU cl q=true->(fN cl q.to.var).toNat=cm cl q.to.var.toNat/\cm cl q.to.var.toNat<n:=fun q hq hi=>by
  simp only[JU,cL,eE]at hi
  have h1:=hp q hq hi.1.1
  have h2:=(GV hi.1.1)
  obtain⟨_,_,_,h0⟩:=h2
  have:=fr q.to.var.toNat J
  rwa[gk h0]at this
 have ra:(VO cl ws n).length=n:=by unfold VO;rw[DU (Nk cl ws)];simp
 have hA:=abX (n:=n) (f:=Nj cl ws) (Nk cl ws) (List.range n) (fun o ho v hv i=>by
  have hv:=qq.1 hv
  unfold Nj;rw[(fr v hv).1];exact(S7 (by rw[ho];exact(fr v hv).2)).1 i) (List.replicate n 0) aJ
 have hB:=abX (n:=n) (f:=J6 cl) (VP cl) qs (fun o ho q hq i=>by
  unfold J6
  by_cases c:JU cl q=true
  .rw[aX c,(hto q hq c).1];exact(S7 (by rw[ho];exact(hto q hq c).2)).1 i
  rw[aT c];exact tB _) (VO cl ws n) ra
 refine⟨fun v hv=> ?_,fun q hq h1 h2 h3=> ?_⟩
 .have:=hA.2 v (qq.2 hv) (ws.getD v 0) (cm cl v) fun o ho=>by
   unfold Nj;rw[(fr v hv).1];exact(S7 (by rw[ho];exact(fr v hv).2)).2
  exact l8 this (hB.1 _)
 refine hB.2 q hq q.why _ fun o ho=> ?_
 have hv:=hp q hq h1
 have ci:JU cl q=true:=by
  simp only[JU,cL,eE]
  obtain⟨_,_,_,h0⟩:=GV h1
  refine⟨⟨h1,?_⟩,h2⟩
  rw[nc J,nc J,h3]
 unfold J6
 rw[aX ci,(hto q hq ci).1];exact(S7 (by rw[ho];exact(hto q hq ci).2)).2
theorem Qz{n:Nat}:∀{qs:List dD} {g:List (List Int)} {a:Nat} {x:Int},(∀q∈qs,E8 q=true->0<=yz q)->x∈(qs.foldl grQ g).getD a []->x∈g.getD a []\/∃q∈qs,E8 q=true/\yz q=a/\q.to.var=x
 |[],g,a,x,_,h=> .inl h
 |q::qs,g,a,x,hp,h=>by
  rcases Qz (n:=n) (qs:=qs) (g:=grQ g q) (fun p hp'=>hp p (fX _ hp')) h with h|⟨p,h1,h2⟩
  .unfold grQ at h
   by_cases c:E8 q=true
   .rw[aX c]at h
    rw[eT,p7]at h
    by_cases e:(yz q).toNat=a
    .rw[aX e]at h
     split at h
     .rcases fg.1 h with h|h
      .rw[e]at h;exact .inl h
      have:=hp q aJ c
      exact .inr ⟨q,aJ,c,J,(gG.1 h).symm⟩
     .cases h
    rw[aT e,<-eT]at h;exact .inl h
   rw[aT c]at h;exact .inl h
  exact .inr ⟨p,fX _ h1,h2⟩
theorem axu{n:Nat}{qs:List dD}{a b:Nat}(hp:∀q∈qs,E8 q=true->0<=yz q)(h:wg (cz n qs) a b):∃q∈qs,E8 q=true/\yz q=a/\q.to.var=b:=by
 obtain⟨_,_,i,hi,e⟩:=h
 have hm:(b:Int)∈(cz n qs).getD a []:=by rw[<-e,getD_eq hi];exact r8 hi
 rcases Qz (n:=n) hp hm with q|q
 .rw[eT,XB]at q
  split at q<;>cases q
 exact q
theorem asO(E:Nat->Nat->Prop)(k:Nat):∃o,OfK E k o:=by
 have key:∀m j:Nat,j<=m->tJ E k j->∃o,OfK E k o:=by
  intro m
  induction m with
  |zero=>intro j hj h;exact⟨j,⟨j,rfl,h⟩,fun i _=>J⟩
  |succ m ih=>
   intro j hj h
   by_cases c:∃i,i<j/\tJ E k i
   .obtain⟨i,hi,h2⟩:=c;exact ih i J h2
   exact⟨j,⟨j,rfl,h⟩,fun i hi=>by
    refine K9 fun q=>c ⟨i,J,hi⟩⟩
 exact key k k (eU _) ⟨.refl _,.refl _⟩
theorem tJ.trans{E:Nat->Nat->Prop}{a b c:Nat}(h:tJ E a b)(h2:tJ E b c):tJ E a c:=⟨h.1.trans h2.1,h2.2.trans h.2⟩
theorem S8{gl:List (List Int)}{v:Nat}(h:v<gl.length):OfK (wg gl) v ((pw gl).getD v 0):=by grind[asO,wg,pw,aiA]
theorem ajg{gl:List (List Int)}{v u:Nat}(h:v<gl.length)(hu:u<gl.length)(hb:tJ (wg gl) v u):(pw gl).getD v 0=(pw gl).getD u 0:=by
 have h1:=S8 h;have h2:=S8 hu
 obtain⟨j,e,hj⟩:=h2.is
 exact h1.same ⟨⟨j,e,tJ.trans hb hj⟩,fun i hi=>h2.low i (tJ.trans ⟨hb.2,hb.1⟩ hi)⟩
theorem anB{gl:List (List Int)}{a b:Nat}(h:jZ (wg gl) a b)(ha:a<gl.length):b<gl.length:=by grind[jZ,wg]
theorem ajh{E E':Nat->Nat->Prop}{a b:Nat}(hE:∀y c,E y c->tJ E a y->tJ E a c->E' y c)(h:jZ E a b)(hb:jZ E b a):jZ E' a b:=by
 induction h with
 |refl=>exact .refl _
 |step h e ih=>
  have hy:jZ E _ a:=(jZ.one e).trans hb
  exact(ih hy).step (hE _ _ e ⟨h,hy⟩ ⟨h.step e,hb⟩)
theorem mN.aji{S:Sys}{Q:Nat->tK}{y:Nat->BitVec 64}{N:Nat}{M:Qm}{v:Va}{ws:Nat->BitVec 64}{rep V6:Nat->Nat}{P:Nat->Prop}(h:mN S Q y N M v ws rep P)(hr:∀i k,i<S.n->k<S.n->V6 i=V6 k->rep i=rep k):mN S Q y N M v ws V6 P:=
 ⟨h.ok,h.all,h.mok,h.low,h.why,fun i k hi hk e=>by
  obtain⟨a,b,c,d⟩:=h.ring i k hi hk (hr i k hi hk e)
  exact⟨a,b,c,fun u hu p q hp hq=>d u hu p q ⟨hp.1,hr _ _ hp.1 hi hp.2⟩ ⟨hq.1,hr _ _ hq.1 hi hq.2⟩⟩,h.hold⟩
theorem abY{sh:Sh}{ak:List El}:∀{ks:List Int} {e:El},cJ sh e=true->(∀k∈ks,cJ sh (ak.getD k.toNat dg)=true)->cJ sh (wm sh ak e ks)=true/\cS e (wm sh ak e ks)=true/\(∀k∈ks,cS (ak.getD k.toNat dg) (wm sh ak e ks)=true)/\∀u,cJ sh u=true->cS e u=true->(∀k∈ks,cS (ak.getD k.toNat dg) u=true)->cS (wm sh ak e ks) u=true
 |[],e,he,_=>⟨he,j8 _,(fun k hk=>by cases hk),fun u _ h _=>h⟩
 |a::ks,e,he,hk=>by
  have fa:=hk a aJ
  have key:cJ sh (if rS (ak.getD a.toNat dg) e then e else ef sh e (ak.getD a.toNat dg))=true/\cS e (if rS (ak.getD a.toNat dg) e then e else ef sh e (ak.getD a.toNat dg))=true/\cS (ak.getD a.toNat dg) (if rS (ak.getD a.toNat dg) e then e else ef sh e (ak.getD a.toNat dg))=true/\∀u,cJ sh u=true->cS e u=true->cS (ak.getD a.toNat dg) u=true->cS (if rS (ak.getD a.toNat dg) e then e else ef sh e (ak.getD a.toNat dg)) u=true:=by
   by_cases c:rS (ak.getD a.toNat dg) e
   .rw[aX c];exact⟨he,j8 _,ld c,fun u _ h _=>h⟩
   rw[aT c];exact⟨ID he fa,(YQ he fa).1,(YQ he fa).2,fun u fu h1 h2=>abf he fa fu h1 h2⟩
  obtain⟨k1,k2,k3,k4⟩:=key
  obtain⟨h1,h2,h3,h4⟩:=abY (ks:=ks) k1 fun k h=>hk k (fX _ h)
  refine⟨h1,fF k2 h2,fun k h=> ?_,fun u fu hu CF=>h4 u fu (k4 u fu hu (CF a aJ)) fun k h=>CF k (fX _ h)⟩
  rcases c8.1 h with q|q
  .subst q;exact fF k3 h2
  exact h3 k q
theorem V9{p:Nat->Bool}{v m:Nat}(hv:p v=true)(hlo:∀j,j<v->p j=false):∃t,(List.range (v+(m+1))).filter p=v::t:=by
 rw[X8,Rh]
 have e:(List.range v).filter p=[]:=List.filter_eq_nil_iff.2 fun j hj=>by rw[hlo j (qq.1 hj)];exact K7
 rw[e,eN,XE,lR,B5,aX (by simpa using hv)]
 exact⟨_,rfl⟩
theorem Wa{cl:List Nat}{v:Nat}(h:BD cl)(hv:v<cl.length)(he:cm cl v=v):∃t,bP cl v=(v:Int)::t:=by
 obtain⟨t,ht⟩:=V9 (p:=fun k=>cm cl v==cm cl k) (v:=v) (m:=cl.length-v-1) aJ fun j hj=>by
  have:=h j J
  rw[beq_eq_false_iff_ne];omega
 unfold bP Ae
 rw[aX ⟨J,J⟩]
 rw[show v+(cl.length-v-1+1)=cl.length by omega]at ht
 rw[eA,ht]
 exact⟨_,rfl⟩
theorem abZ{cl:List Nat}{n:Nat}{p:Nat->Bool}{q:Nat->Bool}:∀{l:List Nat},(∀x∈l,¬(p x=true/\q x=true))->(l.filter p).length+(l.filter q).length<=(l.filter fun x=>p x||q x).length
 |[],_=>eU _
 |a::l,h=>by
  have ih:=abZ (cl:=cl) (n:=n) (l:=l) (p:=p) (q:=q) fun x hx=>h x (fX _ hx)
  have ha:=h a aJ
  rw[B5,B5,B5]
  by_cases c1:p a=true<;>by_cases c2:q a=true
  .exact absurd ⟨c1,c2⟩ ha
  .rw[aX c1,aT c2,aX (by simp[c1])];simp only[fq];omega
  .rw[aT c1,aX c2,aX (by simp[c2])];simp only[fq];omega
  rw[aT c1,aT c2,aT (by simp[c1,c2])];exact ih
theorem apN{cl:List Nat}(h:BD cl):∀k,coJ cl k<=((List.range cl.length).filter fun j=>decide (cm cl j<k)).length
 |0=>nM _
 |k+1=>by
  have ih:=apN h k
  have h1:=abZ (cl:=cl) (n:=0) (l:=List.range cl.length) (p:=fun j=>decide (cm cl j<k)) (q:=fun j=>cm cl k==cm cl j&&decide (cm cl k=k)) fun x _ ⟨a,b⟩=>by
   simp only[eE,cL,Cc]at a b;omega
  have h2:=(xp (l:=List.range cl.length) (p:=fun x=>decide (cm cl x<k)||(cm cl k==cm cl x&&decide (cm cl k=k))) (q:=fun j=>decide (cm cl j<k+1)) fun x _ q=>by
   simp only[eE,cL,p8,Cc]at q⊢;omega).1
  show coJ cl k+_<=_
  have h3:(if fN cl (k:Int)=(k:Int)then(bP cl (k:Int)).length-1 else 0)<=((List.range cl.length).filter fun j=>cm cl k==cm cl j&&decide (cm cl k=k)).length:=by
   by_cases c:fN cl (k:Int)=(k:Int)
   .rw[aX c]
    by_cases r:0<=(k:Int)/\(k:Int)<cl.length
    .rw[nc r,eA]at c
     have e:cm cl k=k:=J
     unfold bP Ae
     rw[aX r,gF,eA]
     have:=(xp (l:=List.range cl.length) (p:=fun j=>cm cl k==cm cl j) (q:=fun j=>cm cl k==cm cl j&&decide (cm cl k=k)) fun x _ q=>by rw[cL,eE];exact⟨q,e⟩).1
     omega
    rw[IM r]at c;omega
   rw[aT c];exact nM _
  omega
theorem anC{cl:List Nat}(h:BD cl)(k:Nat):coJ cl k<=cl.length:=by grind[apN,cm]
def Nw(cl jT:List Nat)(k a:Nat):Nat:=if cm jT a<k then 2*cm jT a else 2*cm cl a+1
structure CoA(aq:List pO)(a8:List Int)(qs:List dD)(cl jT:List Nat)(n:Nat)(X:Nat->Prop)(w0:List (BitVec 64))(k:Nat)(c:yU):Prop where
 j:ZL aq a8 qs (Nw cl jT k) n X c
 ws:∀j,j<n->k<=cm jT j->c.bq.getD j 0=w0.getD j 0
section
variable{us:List jY}{aq:List pO}{a8:List Int}{qs:List dD}{cl jT:List Nat}{n k:Nat}{X:Nat->Prop}{c:yU}{w0 rs:List (BitVec 64)}
structure RgN(aq:List pO)(a8:List Int)(qs:List dD)(jT:List Nat)(n:Nat)(w0 rs:List (BitVec 64)):Prop where
 ok:BD jT
 len:jT.length=n
 ring:∀v,v<n->cm jT v=v->qB (kA aq a8 n) (OR aq n qs (rs.getD v 0)) fun j=>j<n/\cm jT j=v
 sh:∀a b,a<n->b<n->cm jT a=cm jT b->(kA aq a8 n).sh a=(kA aq a8 n).sh b
 ws:∀v,v<n->eu (w0.getD v 0) (rs.getD (cm jT v) 0)=true
theorem CoA.step(hq:V7 aq a8 n qs)(hu:O4 us qs n)(hr:RgN aq a8 qs jT n w0 rs)(h:CoA aq a8 qs cl jT n X w0 k c)(hk:k<n):CoA aq a8 qs cl jT n X w0 (k+1) (co1 jT us aq a8 rs c k):=by
 have hn:(kA aq a8 n).n=n:=rfl
 have hi:=hr.len
 have ck:=aiO (cl:=jT) (us:=us) (aq:=aq) (a8:=a8) (rs:=rs) (s:=c) (v:=k) hu.hu (by rw[hi,hu.len]) h.j.ck
 have lv:=h.j.ck.lv
 have ly:=h.j.ck.ly
 have si:=h.j.si
 have no:(∀a b,a<n->b<n->Nw cl jT (k+1) a=Nw cl jT (k+1) b->Nw cl jT k a=Nw cl jT k b)->co1 jT us aq a8 rs c k=c->CoA aq a8 qs cl jT n X w0 (k+1) (co1 jT us aq a8 rs c k):=fun hf e=>by
  rw[e];exact⟨⟨h.j.ck,si.aji hf⟩,fun j hj hjk=>h.ws j hj J⟩
 by_cases c1:cm jT k=k
 .obtain⟨t,ht⟩:=Wa hr.ok J c1
  have hCi:∀i:Nat,(i:Int)∈bP jT (k:Int)↔i<n/\cm jT i=k:=fun i=>by
   rw[IX,eA,eA,c1]
   exact⟨fun⟨a,b,c,d⟩=>⟨J,d⟩,fun⟨a,b⟩=>⟨J,J,J,b⟩⟩
  have fk:fN jT (k:Int)=k:=by rw[nc J,eA,c1]
  by_cases c2:(bP jT (k:Int)).length≠1
  .have hks:∀j∈bP jT (k:Int),0<=j/\j<(n:Int):=fun j hj=>by have:=mM hj;omega
   have e0:co1 jT us aq a8 rs c k=_:=abT (k:=(k:Int)) J fk c2
   simp only[eA]at e0
   have hfit:∀j:Nat,j<n->cm jT j=k->cJ ((kA aq a8 n).sh k) (c.ak.getD j dg)=true:=fun j hj e=>by
    rw[<-hr.sh j k hj hk (by rw[e,c1])];exact si.low.fit j hj
   have hdr:∀j∈(bP jT (k:Int)).drop 1,0<=j/\j.toNat<n/\cm jT j.toNat=k:=fun j hj=>by
    have hm:=sw hj
    have:=hks j hm
    have:=(hCi j.toNat).1 (by rw[gk J];exact hm)
    exact⟨J,this⟩
   obtain⟨e1,e2,e3,e4⟩:=abY (sh:=(kA aq a8 n).sh k) (ak:=c.ak) (ks:=(bP jT (k:Int)).drop 1) (e:=c.ak.getD k dg) (hfit k hk c1) fun j hj=>hfit _ (hdr j hj).2.1 (hdr j hj).2.2
   have eq:wm (aq.getD (a8.getD k 0).toNat pQ).p.sh c.ak (c.ak.getD k dg) ((bP jT (k:Int)).drop 1)=wm ((kA aq a8 n).sh k) c.ak (c.ak.getD k dg) ((bP jT (k:Int)).drop 1):=rfl
   rw[eq]at e0
   generalize hE:wm ((kA aq a8 n).sh k) c.ak (c.ak.getD k dg) ((bP jT (k:Int)).drop 1)=e at*
   have hwC:∀j,j<n/\cm jT j=k->eu (wQ c.bq j) (rs.getD k 0)=true:=fun j hj=>by
    have:=hr.ws j hj.1
    rw[hj.2]at this
    show eu (c.bq.getD j 0) _=true
    rw[h.ws j hj.1 J];exact this
   have V8:=hr.ring k hk c1
   have h1:=si.merge (C:=fun j=>j<n/\cm jT j=k) (e:=e) (W:=rs.getD k 0) (k:=k) (V6:=Nw cl jT (k+1)) (P':=fun i=>(i:Int)∈(ye c.ak us (c.wl,c.wi) (bP jT (k:Int)) e).2.1\/X i)
    (fun j hj=>⟨J,hwC j hj⟩) (fun a b ha hb=>hr.sh a b ha.1 hb.1 (by rw[ha.2,hb.2])) V8 ⟨hk,c1⟩ e1
    (fun u hu2=>by
     have hle:∀j,j<n/\cm jT j=k->cS (c.ak.getD j dg) (u k)=true:=fun j hj=>fF (si.why j J u (hu2.less fun q hq=>si.mok _ _ _ (hwC j hj) hq)) (ld (V8 u hu2 j k hj ⟨hk,c1⟩))
     exact e4 _ (hu2.fit k J) (hle k ⟨hk,c1⟩) fun j hj=>hle _ (hdr j hj).2)
    (fun j hj=>by
     have:=(hCi j).2 hj
     rw[ht]at this
     rcases c8.1 this with q|q
     .have:j=k:=J
      subst this;exact e2
     have:=e3 (j:Int) (by rw[ht];exact q)
     rwa[eA]at this)
    (fun a b ha hb hab=>by
     unfold Nw at hab⊢
     by_cases ca:cm jT a<k+1<;>by_cases cb:cm jT b<k+1
     .rw[aX ca,aX cb]at hab
      by_cases q:cm jT a=k
      .exact .inl ⟨⟨J,q⟩,⟨J,J⟩⟩
      refine .inr ⟨fun x=>q x.2,fun x=>q J,?_⟩
      rw[aX J,aX J];omega
     .rw[aX ca,aT cb]at hab;omega
     .rw[aT ca,aX cb]at hab;omega
     rw[aT ca,aT cb]at hab
     refine .inr ⟨fun x=>J,fun x=>J,?_⟩
     rw[aT J,aT J];omega)
    (fun j hj hp=>hp.elim (fun q=> .inl (KZ q)) .inr)
    (fun j hj y hy hc hne=>by
     have hjm:=hq _ (dw (d:=cX) (l:=qs) (k:=(j:Int)) J J)
     rw[eA]at hjm
     rw[GX hjm.2]at hy
     obtain⟨z,hz,rfl⟩:=fZ.1 hy
     have hz0:0<=z:=by
      have:=hz
      rw[hjm.2]at this
      obtain⟨a,ha,ho,h0,rfl⟩:=sS.1 this
      exact h0
     refine .inl (ZK hu.hu (k:=z.toNat) (j:=(j:Int)) ?_ h.j.ck.wq h.j.ck.li (fun k hk=>by have:=hks k hk;have:=hu.len;omega) (by rw[hu.len];exact lv) ((hCi _).2 hc) hne)
     rw[hu.is _ J]
     refine CT.2 ⟨J,?_⟩
     rw[eA,gk hz0];exact hz)
   refine⟨⟨ck,?_⟩,fun j hj hjk=> ?_⟩
   .rw[e0]
    simp only[yS]
    rw[ai5 (by rw[lv];exact hks),ai6 (by rw[ly];exact hks),Nu hCi,Nv hCi]
    exact h1
   rw[e0]
   simp only
   rw[sO J fun q hq=>(hks q hq).1,aT fun q=>by have:=(hCi j).1 q;omega]
   exact h.ws j hj J
  have c2:(bP jT (k:Int)).length=1:=K9 c2
  refine no (fun a b ha hb hab=> ?_) (S1 (k:=(k:Int)) J fun q=>q.2 c2)
  have one:∀a,a<n->cm jT a=k->a=k:=fun a ha e=>by
   have:=(hCi a).2 ⟨ha,e⟩
   rw[ht]at this c2
   have:t=[]:=by cases t with
    |nil=>rfl
    |cons _ _=>simp at c2
   subst this
   have:=gG.1 ‹(a:Int)∈[(k:Int)]›
   omega
  unfold Nw at hab⊢
  by_cases ca:cm jT a<k+1<;>by_cases cb:cm jT b<k+1
  .rw[aX ca,aX cb]at hab
   by_cases q:cm jT a=k
   .have:=one a ha q;have:=one b hb J;subst this;subst a;rfl
   rw[aX J,aX J];omega
  .rw[aX ca,aT cb]at hab;omega
  .rw[aT ca,aX cb]at hab;omega
  rw[aT ca,aT cb]at hab
  rw[aT J,aT J];omega
 refine no (fun a b ha hb hab=> ?_) (S1 (k:=(k:Int)) J fun q=>c1 (by have:=q.1;rw[nc J,eA]at this;omega))
 have one:∀a,a<n->cm jT a≠k:=fun a ha e=>c1 (by have:=(hr.ok a J).2;rw[e]at this;exact this)
 have:=one a ha;have:=one b hb
 unfold Nw at hab⊢
 by_cases ca:cm jT a<k+1<;>by_cases cb:cm jT b<k+1
 .rw[aX ca,aX cb]at hab
  rw[aX J,aX J];omega
 .rw[aX ca,aT cb]at hab;omega
 .rw[aT ca,aX cb]at hab;omega
 rw[aT ca,aT cb]at hab
 rw[aT J,aT J];omega
theorem CoA.all(hq:V7 aq a8 n qs)(hu:O4 us qs n)(hr:RgN aq a8 qs jT n w0 rs)(h:CoA aq a8 qs cl jT n X w0 0 c):∀k,k<=n->CoA aq a8 qs cl jT n X w0 k (coA jT us aq a8 rs c k)
 |0,_=>h
 |k+1,hk=>by
  have e:=CO (cl:=jT) (us:=us) (aq:=aq) (a8:=a8) (rs:=rs) (s:=c) (k:=(k:Int)) J
  rw[show((k:Int)+1).toNat=k+1 by omega,eA]at e
  rw[e];exact(CoA.all hq hu hr h k J).step hq hu hr J
theorem V7.pl(h:V7 aq a8 n qs):VN n qs:=fun q hq hp=>by
 obtain⟨h1,h2⟩:=h q hq
 obtain⟨a,b,_,_⟩:=Et h1 h2 hp
 refine⟨?_,a,b.2⟩
 obtain⟨y,hy,ho,h0⟩:=GV hp
 have:=h1.var y (by rw[hy];simp) ho
 rw[h2,hy];unfold dB;simp[ho,this.1,tM]
theorem anD{cs:List (List Nat)}{ak:List El}{bq:List (BitVec 64)}{P:Nat->Prop}(hq:V7 aq a8 n qs)(hc:BD (bB cs))(hl:(bB cs).length=n)
  (si:mN (kA aq a8 n) (fun i=>uL aq n (qs.getD i cX)) (fun i=>(qs.getD i cX).why) qs.length (OR aq n qs) (vQ ak) (wQ bq) (cm (bB cs)) P):
  MgK (bB cs) (bB (s3 cs (pw (cz n qs)) n)) (pw (cz n qs)) n n/\RgN aq a8 qs (bB (s3 cs (pw (cz n qs)) n)) n bq (CN (bB (s3 cs (pw (cz n qs)) n)) bq n qs):=by
 have gl:(cz n qs).length=n:=FD n qs
 have hp:=hq.pl
 have hpv:∀q∈qs,E8 q=true->0<=yz q:=fun q h1 h2=>(hp q h1 h2).2.1.1
 have oin:∀v,v<n->0<=(pw (cz n qs)).getD v 0/\(pw (cz n qs)).getD v 0<n:=fun v hv=>by
  obtain⟨j,e,hj⟩:=(S8 (gl:=cz n qs) (v:=v) J).is
  have:=anB hj.1 J
  omega
 have mg:=ajf hc hl oin n (eU _)
 have l2:(bB (s3 cs (pw (cz n qs)) n)).length=n:=by rw[xo];exact hl
 have hR:=anA (ws:=bq) mg.ok l2 hp
 refine⟨mg,?_⟩
 generalize bB (s3 cs (pw (cz n qs)) n)=jT at*
 have both:∀a b,a<n->b<n->tJ (wg (cz n qs)) a b->cm jT a=cm jT b:=fun a b ha hb h=>by
  rw[mg.air a ha,mg.air b hb,ajg J J h]
 have arc:∀a b,wg (cz n qs) a b->∃q∈qs,E8 q=true/\yz q=a/\q.to.var=b:=fun a b h=>axu hpv h
 have ash:∀a b,wg (cz n qs) a b->(kA aq a8 n).sh a=(kA aq a8 n).sh b:=fun a b h=>by
  obtain⟨q,h1,h2,h3,h4⟩:=arc a b h
  have:=(Et (hq q h1).1 (hq q h1).2 h2).2.2.2
  rwa[h3,h4,eA,eA]at this
 have wsh:∀a b,jZ (wg (cz n qs)) a b->(kA aq a8 n).sh a=(kA aq a8 n).sh b:=fun a b h=>by
  induction h with
  |refl=>rfl
  |step _ e ih=>exact ih.trans (ash _ _ e)
 have ab0:∀a b:Nat,a<n->(b:Int)=(pw (cz n qs)).getD a 0->tJ (wg (cz n qs)) a b:=fun a b ha e=>by
  obtain⟨j,ej,hj⟩:=(S8 (gl:=cz n qs) (v:=a) J).is
  have:b=j:=J
  subst this;exact hj
 refine⟨mg.ok,l2,fun v hv hvv=> ?_,fun a b ha hb e=> ?_,hR.1⟩
 .have aEh:∀(z:Nat) (Q:tK->Prop),qB (kA aq a8 n) Q fun j=>j=z:=fun z Q u hu i k hi hk=>by
   rw[hi,hk];exact fun _ _=>rfl
  refine ai4 fun i k hi hk=> ?_
  have w:=mg.way i k hi.1 hk.1 (by rw[hi.2,hk.2])
  have step:∀a b,Ew (bB cs) (pw (cz n qs)) n n a b->cm jT a=v->jZ (fun a b=>(∃q,OR aq n qs ((CN jT bq n qs).getD v 0) q/\FG (kA aq a8 n) q a b)\/∃D:Nat->Prop,D a/\D b/\qB (kA aq a8 n) (OR aq n qs ((CN jT bq n qs).getD v 0)) D) a b/\cm jT b=v:=by
   have kn:∀a b,a<n->b<n->tJ (wg (cz n qs)) a b->cm jT a=v->jZ (fun a b=>(∃q,OR aq n qs ((CN jT bq n qs).getD v 0) q/\FG (kA aq a8 n) q a b)\/∃D:Nat->Prop,D a/\D b/\qB (kA aq a8 n) (OR aq n qs ((CN jT bq n qs).getD v 0)) D) a b:=fun a b ha hb hab hav=>
    ajh (E:=wg (cz n qs)) (fun y c e hy hc'=>by
     by_cases q:y=c
     .subst q;exact .inr ⟨fun j=>j=y,rfl,rfl,aEh y _⟩
     obtain⟨q2,h1,h2,h3,h4⟩:=arc y c e
     have yn:y<n:=by have:=e.1;omega
     have cn:c<n:=by have:=e.2.1;omega
     have cy:cm jT y=v:=by rw[<-both a y ha yn hy];exact hav
     have cc:cm jT c=v:=by rw[<-both a c ha cn hc'];exact hav
     have hw:=hR.2 q2 h1 h2 J (by rw[h3,h4,eA,eA,cy,cc])
     rw[h4,eA,cc]at hw
     have hpq:=(Et (hq q2 h1).1 (hq q2 h1).2 h2).2.2.1
     rw[h3,h4,eA,eA]at hpq
     obtain⟨i,hi,ei⟩:=ud h1
     exact .inl ⟨_,⟨i,hi,by rw[getD_eq hi,ei],by rw[getD_eq hi,ei];exact hw⟩,hpq⟩) hab.1 hab.2
   rintro a b ⟨ha,hb,hs|⟨_,hs⟩|⟨_,hs⟩⟩ hav
   .have e2:=mg.more a b ha hb hs
    refine⟨.one (.inr ⟨fun j=>j<n/\cm (bB cs) j=cm (bB cs) a,⟨ha,rfl⟩,⟨hb,hs.symm⟩,?_⟩),by rw[<-e2];exact hav⟩
    have:=(si.ring a a ha ha O).2.2.2
    have hs2:=hR.1 a ha
    rw[hav]at hs2
    exact this.more fun q hq=>si.mok _ _ _ hs2 hq
   .have Xm:=ab0 a b ha hs
    exact⟨kn a b ha hb Xm hav,by rw[<-both a b ha hb Xm];exact hav⟩
   have Xm:=ab0 b a hb hs
   have hb3:tJ (wg (cz n qs)) a b:=⟨Xm.2,Xm.1⟩
   exact⟨kn a b ha hb hb3 hav,by rw[<-both a b ha hb hb3];exact hav⟩
  have key:∀b,jZ (Ew (bB cs) (pw (cz n qs)) n n) i b->jZ (fun a b=>(∃q,OR aq n qs ((CN jT bq n qs).getD v 0) q/\FG (kA aq a8 n) q a b)\/∃D:Nat->Prop,D a/\D b/\qB (kA aq a8 n) (OR aq n qs ((CN jT bq n qs).getD v 0)) D) i b/\cm jT b=v:=fun b wb=>by
   induction wb with
   |refl=>exact⟨.refl _,hi.2⟩
   |step _ e ih=>obtain⟨s1,s2⟩:=step _ _ e ih.2;exact⟨ih.1.trans s1,s2⟩
  exact(key k w).1
 have w:=mg.way a b ha hb e
 induction w with
 |refl=>rfl
 |step w1 e1 ih=>
  obtain⟨h1,h2,h3⟩:=e1
  have e3:∀x y,x<n->y<n->Ew (bB cs) (pw (cz n qs)) n n x y->cm jT x=cm jT y/\(kA aq a8 n).sh x=(kA aq a8 n).sh y:=fun x y hx hy hs=>by
   rcases hs.2.2 with q|⟨_,q⟩|⟨_,q⟩
   .exact⟨mg.more x y hx hy q,(si.ring x y hx hy q).1⟩
   .have:=ab0 x y hx q
    exact⟨both x y hx hy this,wsh _ _ this.1⟩
   have:=ab0 y x hy q
   exact⟨(both y x hy hx this).symm,wsh _ _ this.2⟩
  have:=e3 _ _ h1 h2 ⟨h1,h2,h3⟩
  exact(ih h1 (by rw[this.1];exact e)).trans this.2
end
structure yV(s:NP):Prop where
 ok:D4 s
 fit:V7 s.aq s.a8 s.ak.length s.qs
 us:s.us=(List.range s.ak.length).map (yg s.qs)
 cl:BD (bB s.cs)
 si:mN (kA s.aq s.a8 s.ak.length) (fun i=>uL s.aq s.ak.length (s.qs.getD i cX)) (fun i=>(s.qs.getD i cX).why) s.qs.length (OR s.aq s.ak.length s.qs) (vQ s.ak) (wQ s.bq) (cm (bB s.cs)) fun i=>s.sn<=i
def muM(s:NP):Nat:=s.qs.length+((s.qs.map fun q=>gJ (zu s.aq q)*q.vars.length).sum).toNat
theorem O4.of{us:List jY}{qs:List dD}{n:Nat}(h:qf us=(List.range n).map (yg qs)):O4 us qs n:=by
 have hl:us.length=n:=by have:=aK List.length h;rwa[gz,gF,Rj]at this
 refine⟨hl,fun k hk=> ?_⟩
 rw[<-CQ,h,eT,qp,zy hk];rfl
noncomputable abbrev pz(us:List jY)(s:NP):CoO:=sU s.cs us s.aq s.a8 s.qs s.sn s.ak.length ⟨s.ak,s.bq,[],List.replicate s.qs.length false⟩
abbrev JN(s:NP)(cl:List Nat):yU->Prop:=ZL s.aq s.a8 s.qs (cm cl) s.ak.length fun _=>False
theorem S9{s:NP}(h:yV s){us:List jY}(yf:qf us=s.us):ZL s.aq s.a8 s.qs (cm (bB (pz us s).cs)) s.ak.length (fun i=>s.sn<=(i:Int)) (pz us s).s/\BD (bB (pz us s).cs)/\(bB (pz us s).cs).length=s.ak.length/\(pz us s).j<=s.ak.length:=by
 have hu:=O4.of (yf.trans h.us)
 have h0:Qu s.qs.length s.ak.length s.ak.length ⟨s.ak,s.bq,[],List.replicate s.qs.length false⟩:=⟨rfl,h.ok.T3,aJ,IY _⟩
 have j0:ZL s.aq s.a8 s.qs (cm (bB s.cs)) s.ak.length (fun i=>s.sn<=(i:Int)) ⟨s.ak,s.bq,[],List.replicate s.qs.length false⟩:=⟨h0,h.si.ai3 fun i _ q=> .inr q⟩
 unfold pz sU
 split
 .obtain⟨mg,rg⟩:=anD h.fit h.cl h.ok.ov h.si
  simp only
  split
  .rename_i hle
   have e:=ZM h.cl mg.ok (by rw[xo]) (fun a b ha hb=>mg.more a b (by have:=h.ok.ov;omega) (by have:=h.ok.ov;omega)) hle
   have ov:=h.ok.ov
   refine⟨⟨j0.ck,j0.si.aji fun i k hi hk q=> ?_⟩,mg.ok,rg.len,nM _⟩
   have hi':i<s.ak.length:=hi;have hk':k<s.ak.length:=hk
   rw[e i J,e k J]at q;exact q
  have ov:=h.ok.ov
  have c0:CoA s.aq s.a8 s.qs (bB s.cs) (bB (s3 s.cs (pw (cz s.ak.length s.qs)) s.ak.length)) s.ak.length (fun i=>s.sn<=(i:Int)) s.bq 0 ⟨s.ak,s.bq,[],List.replicate s.qs.length false⟩:=⟨⟨j0.ck,j0.si.aji fun i k hi hk q=>by
   unfold Nw at q
   rw[aT J,aT J]at q;omega⟩,fun j _ _=>rfl⟩
  have ca:=CoA.all h.fit hu rg c0 s.ak.length (eU _)
  refine⟨⟨ca.j.ck,ca.j.si.aji fun i k hi hk q=> ?_⟩,mg.ok,rg.len,by have:=anC mg.ok s.ak.length;rw[rg.len]at this;exact this⟩
  have hi':i<s.ak.length:=hi;have hk':k<s.ak.length:=hk
  have h1:=mg.ok i (by rw[rg.len];exact hi');have h2:=mg.ok k (by rw[rg.len];exact hk')
  unfold Nw
  rw[aX J,aX J,q]
 exact⟨j0,h.cl,h.ok.ov,nM _⟩
theorem Wb{s:NP}(h:yV s){us:List jY}(yf:qf us=s.us):JN s (bB (pz us s).cs) (VZ (pz us s).s s.sn s.qs.length)/\muN s.aq s.a8 s.ak.length s.qs (VZ (pz us s).s s.sn s.qs.length)<=muM s:=by
 obtain⟨j,_,_,_⟩:=S9 h yf
 have ck:=asH (c:=(pz us s).s) j.ck (sn:=s.sn) h.ok.Xj.1
 have hup:∀i∈upI s.sn ((s.qs.length:Int)-s.sn).toNat,0<=i/\i<((pz us s).s.wi.length:Int):=fun i hi=>by
  obtain⟨x,hx,rfl⟩:=fZ.1 hi
  have:=qq.1 hx
  have:=j.ck.li
  have:=h.ok.Xj
  omega
 have hs:=h.ok.Xj
 refine⟨⟨ck,j.si.ai3 fun i hi hp=> .inl ?_⟩,?_⟩
 .rcases hp with q|q
  .exact GU q
  refine S4 j.ck.wq hup ?_
  exact fZ.2 ⟨((i:Int)-s.sn).toNat,qq.2 J,J⟩
 have h1:=ck.wq.len
 have h2:=ck.li
 have h3:px (kA s.aq s.a8 s.ak.length) (S3 s.aq s.ak.length s.qs) (vQ (pz us s).s.ak) s.ak.length<=((s.qs.map (uL s.aq s.ak.length)).map fun q=>gJ q.sh*q.vars.length).sum:=VM fun q hq x hx=>by
  obtain⟨p,hp,rfl⟩:=fZ.1 hq
  exact aiE (h.fit p hp).1 hx
 rw[RA]at h3
 have e:s.qs.map ((fun q:tK=>gJ q.sh*(q.vars.length:Int))∘uL s.aq s.ak.length)=s.qs.map fun q=>gJ (zu s.aq q)*(q.vars.length:Int):=HE fun q hq=>by
  show gJ (zu s.aq q)*((uL s.aq s.ak.length q).vars.length:Int)=_
  rw[GX (h.fit q hq).2,gF]
 rw[e]at h3
 unfold muN muM
 show(VZ (pz us s).s s.sn s.qs.length).wl.length+(px _ _ (vQ (pz us s).s.ak) _).toNat<=_
 omega
theorem JH{sh:Sh}{l:List dU}{v v':List El}(h:∀x∈l,x.op=1->0<=x.n/\x.n<v.length/\x.n<v'.length/\v.getD x.n.toNat dg=v'.getD x.n.toNat dg):ey sh l v=ey sh l v':=by
 have hs:∀(m:List dU),(∀x∈m,x∈l)->∀o,m.foldl (Ba sh v) o=m.foldl (Ba sh v') o:=by
  intro m
  induction m with
  |nil=>intros;rfl
  |cons x m ih=>
   intro hm o
   have e:Ba sh v o x=Ba sh v' o x:=by
    unfold Ba
    by_cases c:x.op=1
    .obtain⟨h0,h1,h2,h3⟩:=h x (hm x aJ) c
     simp only[c,uu,aX (show 0<=x.n/\x.n<v.length from⟨h0,h1⟩),aX (show 0<=x.n/\x.n<v'.length from⟨h0,h2⟩),h3]
    simp only[c,xU]
   rw[o9,o9,e]
   exact ih (fun y hy=>hm y (fX _ hy)) _
 have e:ij sh v l l.length=ij sh v' l l.length:=hs _ (fun x hx=>u9 hx) _
 unfold ey
 rw[e]
theorem Nx{sh:Sh}{code:List dU}{to:iR}{n n':Nat}(h:∀x∈code,x.op=1->0<=x.n/\x.n<n)(hn:n<=n'):CM n' sh code to=CM n sh code to:=by
 unfold CM
 congr 1
 funext u
 congr 1
 refine JH fun x hx ho=> ?_
 obtain⟨h0,h1⟩:=h x hx ho
 refine⟨h0,by simp;omega,by simp;omega,?_⟩
 rw[qC J,qC J]
theorem ajj{aq apP:List pO}{a8:List Int}{n n':Nat}{q:dD}(h:Zz (kA aq a8 n) (zu aq q) q.code q.to)(hn:n<=n')(hs:zu apP q=zu aq q):uL apP n' q=uL aq n q:=by
 unfold uL
 rw[hs]
 exact Nx (fun x hx ho=>by have:=h.var x hx ho;exact⟨this.1,this.2.1⟩) hn
section
variable{S S':Sys}{Q Q':Nat->tK}{y y':Nat->BitVec 64}{N:Nat}{M M':Qm}{v v':Va}{ws ws':Nat->BitVec 64}{rep ajk:Nat->Nat}{P:Nat->Prop}{q:tK}
theorem tL.wide(h:tL S q)(hn:S.n<=S'.n)(hs:∀i,i<S.n->S'.sh i=S.sh i):tL S' q:=by
 have hf:∀u,qg S' u->qg S u:=fun u hu i hi=>by rw[<-hs i hi];exact hu i J
 exact⟨fun u hu=>h.fit u (hf u hu),fun i hi=>by have:=h.lt i hi;omega,fun u w hu hw hl=>h.Qp u w (hf u hu) (hf w hw) hl,fun k hk=>by
  obtain⟨h1,h2⟩:=h.to k hk
  exact⟨J,by rw[hs k h1];exact h2⟩⟩
theorem qg.less{u:Va}(h:qg S' u)(hn:S.n<=S'.n)(hs:∀i,i<S.n->S'.sh i=S.sh i):qg S u:=fun i hi=>by rw[<-hs i hi];exact h i J
theorem mN.wide(h:mN S Q y N M v ws rep P)(hn:S.n<=S'.n)(hs:∀i,i<S.n->S'.sh i=S.sh i)(hv:∀i,i<S.n->v' i=v i)(hw:∀i,i<S.n->ws' i=ws i)
  (hb:∀i,S.n<=i->i<S'.n->mC (S'.sh i)=true/\v' i=gI (S'.sh i) ew) (hr:∀i k,i<S'.n->k<S'.n->ajk i=ajk k->i=k\/(i<S.n/\k<S.n/\rep i=rep k)):mN S' Q y N M v' ws' ajk P:=by
 have asP:∀(R:tK->Prop) u,uV S' R u->uV S R u:=fun R u hu=>⟨hu.fit.less hn hs,hu.hold⟩
 refine⟨fun i hi=>⟨(h.ok i hi).1.wide hn hs,(h.ok i hi).2⟩,h.all,h.mok,⟨fun i hi=> ?_,fun u hu i hi=> ?_⟩,fun k hk u hu=> ?_,fun i k hi hk e=> ?_,fun i hi hp=> ?_⟩
 .by_cases c:i<S.n
  .rw[hs i c,hv i c];exact h.low.fit i c
  obtain⟨h1,h2⟩:=hb i J hi
  rw[h2];exact(PR h1).1
 .by_cases c:i<S.n
  .rw[hv i c];exact h.low.low u (asP _ u hu) i c
  obtain⟨h1,h2⟩:=hb i J hi
  rw[h2];exact(PR h1).2 _ (hu.fit i hi)
 .by_cases c:k<S.n
  .rw[hv k c]
   rw[hw k c]at hu
   exact h.why k c u (asP _ u hu)
  obtain⟨h1,h2⟩:=hb k J hk
  rw[h2];exact(PR h1).2 _ (hu.fit k hk)
 .have ring:qB S' (M (ws' i)) fun j=>j<S'.n/\ajk j=ajk i:=fun u hu a b ha Xm=>by
   have h1:=hr a i ha.1 hi ha.2
   have h2:=hr b i Xm.1 hi Xm.2
   by_cases c:i<S.n
   .rw[hw i c]at hu
    refine(h.ring i i c c O).2.2.2 u (asP _ u hu) a b ?_ ?_
    .rcases h1 with e1|e1
     .rw[e1];exact⟨c,rfl⟩
     exact⟨e1.1,e1.2.2⟩
    rcases h2 with e1|e1
    .rw[e1];exact⟨c,rfl⟩
    exact⟨e1.1,e1.2.2⟩
   have ea:a=i:=h1.resolve_right fun q=>c q.2.1
   have eb:b=i:=h2.resolve_right fun q=>c q.2.1
   rw[ea,eb];exact fun _ _=>rfl
  rcases hr i k hi hk e with e1|⟨c1,c2,e1⟩
  .subst e1;exact⟨rfl,fun _ _=>rfl,rfl,ring⟩
  obtain⟨r1,r2,r3,_⟩:=h.ring i k c1 c2 e1
  exact⟨by rw[hs i c1,hs k c2];exact r1,by rw[hv i c1,hv k c2];exact r2,by rw[hw i c1,hw k c2];exact r3,ring⟩
 have ho:=(h.ok i hi).1
 have hold:=h.hold i hi hp
 have fv:qg S v':=fun j hj=>by rw[hv j hj];exact h.low.fit j hj
 have e1:cS ((Q i).ev v') ((Q i).ev v)=true:=ho.Qp _ _ fv h.low.fit fun j hj=>by rw[hv j (ho.lt j hj)];exact j8 _
 unfold fl tK.rhs at hold⊢
 cases ht:(Q i).to with
 |none=>rw[ht]at hold;exact fF e1 hold
 |some x=>
  rw[ht]at hold
  show cS _ (v' x)=true
  rw[hv x (ho.to x ht).1]
  exact fF e1 hold
theorem mN.congr(h:mN S Q y N M v ws rep P)(hq:∀i,i<N->Q' i=Q i/\y' i=y i):mN S Q' y' N M v ws rep P:=by
 refine⟨fun i hi=>by rw[(hq i hi).1,(hq i hi).2];exact h.ok i hi,fun a q ha=> ?_,h.mok,⟨h.low.fit,fun u hu=>h.low.low u ⟨hu.fit,fun q ⟨i,hi,e⟩=>hu.hold q ⟨i,hi,by rw[(hq i hi).1];exact e⟩⟩⟩,h.why,h.ring,fun i hi hp=>by rw[(hq i hi).1];exact h.hold i hi hp⟩
 obtain⟨i,hi,e⟩:=h.all a q ha
 exact⟨i,hi,by rw[(hq i hi).1];exact e⟩
end
theorem D4.var{s:NP}(h:D4 s){l:Int}(hl:0<=l/\l<s.aq.length){e:El}(hn:s.ak.length<1000):D4 (qM s l e):=by
 have hln:(bB (SP s.cs)).length=(bB s.cs).length+1:=by
  show((bB s.cs)++[(bB s.cs).length]).length=_
  simp
 have h1:=h.T3;have h2:=h.OQ;have h3:=h.ov;have h4:=h.Qw;have h5:=h.hlt
 refine⟨by simp[qM,h1],by simp[qM,h2],by show(bB (SP s.cs)).length=_;rw[hln];simp[qM,h3],by simp[qM];omega,h.Xj,h.hqn,fun q hq=> ?_,by simp[qM,h5],fun k hk=> ?_,fun k hk=> ?_⟩
 .have:=h.hqo q hq
  refine⟨this.a8,this.code,?_,fun hp=> ?_,fun v hv=> ?_⟩
  .have:=this.to;simp[qM];omega
  .have:=this.pl hp;simp[qM];omega
  have:=this.vars v hv;simp[qM];omega
 .show 0<=(s.a8++[l]).getD k 0/\(s.a8++[l]).getD k 0<s.aq.length
  rw[Nr]
  by_cases c:k<s.a8.length
  .rw[aX c];exact h.hlr k c
  have:k=s.a8.length:=by simp[qM]at hk;omega
  rw[aT c,aX this];exact hl
 show((s.us++[[]]).getD k []).length<=1000/\∀i∈(s.us++[[]]).getD k [],0<=i/\i<(s.qs.length:Int)
 rw[Nr]
 by_cases c:k<s.us.length
 .rw[aX c];exact h.yf k c
 rw[aT c]
 split<;>exact⟨aJ,fun i hi=>by cases hi⟩
theorem yV.var{s:NP}(h:yV s){l:Int}(hl:0<=l/\l<s.aq.length)(hs:mC (s.aq.getD l.toNat pQ).p.sh=true){e:El}(he:e=gI (s.aq.getD l.toNat pQ).p.sh ew)(hn:s.ak.length<1000):yV (qM s l e):=by
 have hok:=h.ok
 have h1:=hok.T3;have h3:=hok.ov;have h5:=hok.hlt
 have el:(qM s l e).ak.length=s.ak.length+1:=by simp[qM]
 have hsh:∀i,i<s.ak.length->(kA s.aq (s.a8++[l]) (s.ak.length+1)).sh i=(kA s.aq s.a8 s.ak.length).sh i:=fun i hi=>by
  show(s.aq.getD ((s.a8++[l]).getD i 0).toNat pQ).p.sh=(s.aq.getD (s.a8.getD i 0).toNat pQ).p.sh
  rw[oy J]
 have hq:∀i,uL s.aq (s.ak.length+1) (s.qs.getD i cX)=uL s.aq s.ak.length (s.qs.getD i cX):=fun i=>by
  by_cases c:i<s.qs.length
  .have hm:=dw (d:=cX) (l:=s.qs) (k:=(i:Int)) J J
   rw[eA]at hm
   exact ajj (h.fit _ hm).1 J O
  rw[eT,oc J]
  exact Nx (fun x hx=>by cases hx) J
 have hM:OR s.aq (s.ak.length+1) s.qs=OR s.aq s.ak.length s.qs:=by
  funext a q
  unfold OR
  exact propext ⟨fun⟨i,h1,h2,h3⟩=>⟨i,h1,by rw[<-hq];exact h2,h3⟩,fun⟨i,h1,h2,h3⟩=>⟨i,h1,by rw[hq];exact h2,h3⟩⟩
 refine⟨hok.var hl hn,fun q hq2=> ?_,?_,?_,?_⟩
 .obtain⟨hf,hv⟩:=h.fit q hq2
  rw[el]
  refine⟨⟨hf.right,fun x hx ho=> ?_,hf.con,hf.to0,fun h0=> ?_⟩,hv⟩
  .obtain⟨a,b,c⟩:=hf.var x hx ho
   have b':x.n<(s.ak.length:Int):=b
   exact⟨a,by show x.n<((s.ak.length+1:Nat):Int);omega,(hsh _ J).trans c⟩
  obtain⟨b,c⟩:=hf.to1 h0
  have b':q.to.var<(s.ak.length:Int):=b
  exact⟨by show q.to.var<((s.ak.length+1:Nat):Int);omega,(hsh _ J).trans c⟩
 .rw[el,xO,gU]
  show s.us++[[]]=_
  rw[h.us]
  have:yg s.qs s.ak.length=[]:=by
   refine Q6.2 fun i hi=> ?_
   obtain⟨h1,h2⟩:=CT.1 hi
   have:=(hok.hqo _ (dw (d:=cX) (l:=s.qs) h1.1 h1.2)).vars _ h2
   omega
  show _=(List.range s.ak.length).map (yg s.qs)++[yg s.qs s.ak.length]
  rw[this]
 .intro i hi
  show cm (bB s.cs++[(bB s.cs).length]) i<=i/\cm (bB s.cs++[(bB s.cs).length]) (cm (bB s.cs++[(bB s.cs).length]) i)=cm (bB s.cs++[(bB s.cs).length]) i
  have hi2:i<(bB s.cs).length+1:=by
   have:(bB (SP s.cs)).length=(bB s.cs).length+1:=by show((bB s.cs)++[(bB s.cs).length]).length=_;simp
   exact this▸hi
  by_cases c:i<(bB s.cs).length
  .have q:=h.cl i c
   have e1:cm (bB s.cs++[(bB s.cs).length]) i=cm (bB s.cs) i:=oy c
   have e2:cm (bB s.cs++[(bB s.cs).length]) (cm (bB s.cs) i)=cm (bB s.cs) (cm (bB s.cs) i):=oy J
   rw[e1,e2];exact q
  have e1:cm (bB s.cs++[(bB s.cs).length]) i=i:=(sV J).trans J
  rw[e1,e1];exact⟨eU _,rfl⟩
 rw[el]
 show mN (kA s.aq (s.a8++[l]) (s.ak.length+1)) (fun i=>uL s.aq (s.ak.length+1) (s.qs.getD i cX)) (fun i=>(s.qs.getD i cX).why) s.qs.length (OR s.aq (s.ak.length+1) s.qs) (vQ (s.ak++[e])) (wQ (s.bq++[0])) (cm (bB s.cs++[(bB s.cs).length])) fun i=>s.sn<=i
 rw[hM,show(fun i=>uL s.aq (s.ak.length+1) (s.qs.getD i cX))=fun i=>uL s.aq s.ak.length (s.qs.getD i cX)from funext hq]
 refine h.si.wide (S':=kA s.aq (s.a8++[l]) (s.ak.length+1)) (Nat.le_succ _) hsh (fun i hi=>oy hi) (fun i hi=>oy (by have:i<s.ak.length:=hi;omega)) (fun i h1 h2=> ?_) fun i k hi hk he=> ?_
 .have h1':s.ak.length<=i:=h1
  have h2':i<s.ak.length+1:=h2
  have e1:(kA s.aq (s.a8++[l]) (s.ak.length+1)).sh i=(s.aq.getD l.toNat pQ).p.sh:=by
   show(s.aq.getD ((s.a8++[l]).getD i 0).toNat pQ).p.sh=_
   rw[sV J]
  rw[e1]
  exact⟨hs,(sV J).trans he⟩
 have hi':i<s.ak.length+1:=hi
 have hk':k<s.ak.length+1:=hk
 have hc:∀j,j<s.ak.length->cm (bB s.cs++[(bB s.cs).length]) j=cm (bB s.cs) j/\cm (bB s.cs) j<=j:=fun j hj=>⟨oy J,(h.cl j J).1⟩
 have hd:cm (bB s.cs++[(bB s.cs).length]) s.ak.length=s.ak.length:=(sV J).trans J
 by_cases c1:i<s.ak.length<;>by_cases c2:k<s.ak.length
 .rw[(hc i c1).1,(hc k c2).1]at he
  exact .inr ⟨c1,c2,he⟩
 .have:k=s.ak.length:=J
  subst this
  rw[(hc i c1).1,hd]at he
  have:=(hc i c1).2;omega
 .have:i=s.ak.length:=J
  subst this
  rw[(hc k c2).1,hd]at he
  have:=(hc k c2).2;omega
 exact .inl J
theorem aeo{qs:List dD}{q:dD}{k:Nat}:yg (qs++[q]) k=yg qs k++if(k:Int)∈q.vars then[(qs.length:Int)]else[]:=by
 unfold yg
 rw[dZ,ez,xO,Rh,gU]
 congr 1
 .congr 1
  refine List.filter_congr fun i hi=> ?_
  rw[oy (qq.1 hi)]
 rw[B5,sV O]
 by_cases c:(k:Int)∈q.vars
 .rw[aX LH,aX c];rfl
 rw[aT LH,aT c];rfl
structure Ny(s:NP)(q:dD):Prop where
 a8:0<=q.a8/\q.a8<s.aq.length
 code:q.code.length<=1000
 fit:Zz (kA s.aq s.a8 s.ak.length) (zu s.aq q) q.code q.to
 vars:q.vars=dB q.code
theorem Ny.vin{s:NP}{q:dD}(h:Ny s q):∀v∈q.vars,0<=v/\v<s.ak.length:=fun v hv=>by
 rw[h.vars]at hv
 obtain⟨x,hx,ho,h0,rfl⟩:=sS.1 hv
 have:x.n<(s.ak.length:Int):=(h.fit.var x hx ho).2.1
 exact⟨h0,this⟩
theorem Ny.nd{s:NP}{q:dD}(h:Ny s q):q.vars.Nodup:=by
 rw[h.vars]
 exact(Nh q.code).imp fun h=>by omega
theorem Ny.qok{s:NP}{q:dD}(h:Ny s q):QOk s.aq.length s.ak.length q:=by
 refine⟨h.a8,h.code,?_,fun hp=> ?_,h.vin⟩
 .by_cases c:q.to.var<0
  .omega
  have:q.to.var<(s.ak.length:Int):=(h.fit.to1 J).1
  exact this
 obtain⟨a,b,_,_⟩:=Et h.fit h.vars hp
 obtain⟨y,hy,ho,h0⟩:=GV hp
 have:=h.fit.var y (by rw[hy];simp) ho
 refine⟨?_,a⟩
 rw[h.vars,hy];unfold dB;simp[ho,this.1,tM]
theorem anF{qs:List dD}{k:Nat}:(yg qs k).length<=qs.length/\∀i∈yg qs k,0<=i/\i<(qs.length:Int):=by grind[CT,yg]
theorem ab1{s:NP}{q:dD}(hu:s.us=(List.range s.ak.length).map (yg s.qs))(hf:Ny s q):(BC s q).us=(List.range s.ak.length).map (yg (s.qs++[q])):=by
 have hl:s.us.length=s.ak.length:=by rw[hu];simp
 apply uf
 intro k
 show(q.vars.foldl (FF (s.qs.length:Int)) s.us)[k]?=_
 by_cases c:k<s.ak.length
 .have e1:=CS (i:=(s.qs.length:Int)) (u:=s.us) (k:=k) hf.nd fun v hv=>by have:=hf.vin v hv;omega
  have lk:k<(q.vars.foldl (FF (s.qs.length:Int)) s.us).length:=by rw[pU];omega
  rw[getD_eq lk]at e1
  rw[eD lk,e1,qp,zy c,qU,aeo]
  congr 2
  rw[hu,eT,qp,zy c];rfl
 rw[oc (by rw[pU];omega),oc iX]
theorem D4.add{s:NP}(h:D4 s)(hu:s.us=(List.range s.ak.length).map (yg s.qs)){q:dD}(hf:Ny s q)(hn:s.qs.length<1000):D4 (BC s q):=by
 have h2:=h.OQ
 refine⟨h.T3,by show(q.vars.foldl _ s.us).length=_;rw[pU];exact h2,h.ov,h.Qw,?_,by simp[BC];omega,fun p hp=> ?_,h.hlt,h.hlr,fun k hk=> ?_⟩
 .have:=h.Xj;simp[BC];omega
 .rcases fg.1 hp with c|c
  .exact h.hqo p c
  rw[gG.1 c];exact hf.qok
 have CF:k<s.us.length:=by have:k<(q.vars.foldl (FF (s.qs.length:Int)) s.us).length:=hk;rwa[pU]at this
 rw[ab1 hu hf,eT,qp,zy J,qU,Rq]
 have:=anF (qs:=s.qs++[q]) (k:=k)
 rw[dZ,ez]at this
 exact⟨J,fun i hi=>by have:=this.2 i hi;show 0<=i/\i<((s.qs++[q]).length:Int);rw[dZ,ez];exact this⟩
theorem yV.add{s:NP}(h:yV s){q:dD}(hf:Ny s q)(hn:s.qs.length<1000):yV (BC s q):=by
 have hu:=ab1 h.us hf
 have e0:uL s.aq s.ak.length ((s.qs++[q]).getD s.qs.length cX)=uL s.aq s.ak.length q:=by rw[sV O]
 have e1:∀i,i<s.qs.length->(s.qs++[q]).getD i cX=s.qs.getD i cX:=fun i hi=>oy hi
 have hsub:∀a p,OR s.aq s.ak.length s.qs a p->OR s.aq s.ak.length (s.qs++[q]) a p:=fun a p ⟨i,hi,h1,h2⟩=>⟨i,by simp;omega,by rw[e1 i hi];exact h1,by rw[e1 i hi];exact h2⟩
 refine⟨h.ok.add h.us hf hn,fun p hp=> ?_,hu,h.cl,?_⟩
 .rcases fg.1 hp with c|c
  .exact h.fit p c
  rw[gG.1 c];exact⟨hf.fit,hf.vars⟩
 show mN (kA s.aq s.a8 s.ak.length) (fun i=>uL s.aq s.ak.length ((s.qs++[q]).getD i cX)) (fun i=>((s.qs++[q]).getD i cX).why) (s.qs++[q]).length (OR s.aq s.ak.length (s.qs++[q])) (vQ s.ak) (wQ s.bq) (cm (bB s.cs)) fun i=>s.sn<=i
 have hl:(s.qs++[q]).length=s.qs.length+1:=aJ
 rw[hl]
 refine mN.more (h.si.congr fun i hi=>⟨by rw[e1 i hi],by rw[e1 i hi]⟩) ?_ ?_ ?_ hsub (fun a p ⟨i,hi,h1,h2⟩=>⟨i,by rw[hl]at hi;exact hi,h1⟩) h.si.why (by have:=h.ok.Xj;omega) fun i hi hp=>hp
 .show tL _ (uL s.aq s.ak.length ((s.qs++[q]).getD s.qs.length cX))
  rw[e0];exact aiC hf.fit
 .show OR _ _ _ ((s.qs++[q]).getD s.qs.length cX).why (uL s.aq s.ak.length ((s.qs++[q]).getD s.qs.length cX))
  exact⟨s.qs.length,by rw[hl];omega,rfl,tB _⟩
 exact fun a b p hab ⟨i,hi,h1,h2⟩=>⟨i,hi,h1,l8 h2 hab⟩
theorem yV.start{s:NP}(h1:s.a8=[])(h2:s.ak=[])(h3:s.bq=[])(h4:s.us=[])(h5:s.qs=[])(h6:s.sn=0)(h7:s.cs=[[]]):yV s:=by
 obtain⟨aq,a8,ak,bq,us,qs,sn,cs,sk,wy,wr⟩:=s
 simp only at h1 h2 h3 h4 h5 h6 h7
 subst h1;subst h2;subst h3;subst h4;subst h5;subst h6;subst h7
 refine⟨⟨rfl,rfl,rfl,aJ,aJ,aJ,(fun q hq=>by cases hq),rfl,(fun k hk=>by cases hk),fun k hk=>by cases hk⟩,(fun q hq=>by cases hq),rfl,(fun i hi=>by cases hi),?_⟩
 have hM:∀a q,¬OR aq 0 [] a q:=fun a q ⟨i,hi,_⟩=>by cases hi
 exact(mN.start (P:=fun i=>(0:Int)<=i) hM (fun i hi=>by cases hi) (fun i hi=>by cases hi)).aji fun i k hi=>by cases hi
def wo(S:Sys)(Q:tK->Prop):Prop:=∃u,qg S u/\∀q,Q q->fl q u
theorem wo.sol{S:Sys}{Q:tK->Prop}{u:Va}(h:qg S u)(hq:∀q,Q q->fl q u):uV S Q u:=⟨h,fun q h1 _=>hq q h1⟩
theorem me.aEj{S:Sys}{Q:tK->Prop}{v:Va}(h:me S Q v)(ho:∀q,Q q->tL S q):wo S Q↔∀q,Q q->q.to=none->fl q v:=by
 constructor
 .rintro⟨u,hu,hq⟩ q h1 h2
  exact Hz fun hn=>(h.low.apG (ho q h1) h2 hn) u (wo.sol hu hq) (hq q h1)
 intro hh
 refine⟨v,h.low.fit,fun q h1=> ?_⟩
 by_cases c:q.to=none
 .exact hh q h1 c
 exact h.sol q h1 c
theorem wo.less{S:Sys}{Q Q':tK->Prop}(h:wo S Q')(hq:∀q,Q q->Q' q):wo S Q:=by
 obtain⟨u,h1,h2⟩:=h
 exact⟨u,h1,fun q OS=>h2 q (hq q OS)⟩
def QN(s:NP):tK->Prop:=fun q=>∃i,i<s.qs.length/\q=uL s.aq s.ak.length (s.qs.getD i cX)
abbrev SN(s:NP):Sys:=kA s.aq s.a8 s.ak.length
abbrev MN(s:NP):Qm:=OR s.aq s.ak.length s.qs
def aEk(s:NP)(c:yU)(cs:List (List Nat)):NP:=NP.mk s.aq s.a8 c.ak c.bq s.us s.qs s.qs.length cs s.sk s.wy s.wr
theorem yV.settled{s:NP}(h:yV s){us:List jY}(yf:qf us=s.us){c:yU}(hj:JN s (bB (pz us s).cs) c)(hw:c.wl=[]):
  yV (aEk s c (pz us s).cs)/\me (SN s) (QN s) (vQ c.ak)/\(∀q,QN s q->fl q (vQ c.ak))/\FB (SN s) (MN s) (vQ c.ak) (wQ c.bq):=by
 obtain⟨_,j1,j2,_⟩:=S9 h yf
 have si:=hj.si.ai3 (P':=fun _=>False) fun i hi q=>by
  rcases q with q|q
  .rw[hw]at q;cases q
  exact q
 have hv:c.ak.length=s.ak.length:=hj.ck.lv
 have hy:c.bq.length=s.ak.length:=hj.ck.ly
 have hk:=h.ok
 refine⟨⟨⟨hy.trans hv.symm,hk.OQ.trans hv.symm,j2.trans hv.symm,by show c.ak.length<=1000;rw[hv];exact hk.Qw,⟨Int.natCast_nonneg _,lW _⟩,hk.hqn,?_,hk.hlt.trans hv.symm,hk.hlr,hk.yf⟩,?_,?_,j1,?_⟩,si.done.1,fun q ⟨i,hi,e⟩=>e▸si.done.2 i hi,si.why⟩
 .show ZF s.aq.length c.ak.length s.qs;rw[hv];exact hk.hqo
 .show V7 s.aq s.a8 c.ak.length s.qs;rw[hv];exact h.fit
 .show s.us=(List.range c.ak.length).map (yg s.qs);rw[hv];exact h.us
 show mN (kA s.aq s.a8 c.ak.length) (fun i=>uL s.aq c.ak.length (s.qs.getD i cX)) (fun i=>(s.qs.getD i cX).why) s.qs.length (OR s.aq c.ak.length s.qs) (vQ c.ak) (wQ c.bq) (cm (bB (pz us s).cs)) fun i=>(s.qs.length:Int)<=i
 rw[hv]
 exact si.ai3 fun i hi q=>q.elim
theorem yV.stuck{s:NP}(h:yV s){us:List jY}(yf:qf us=s.us){c:yU}(hj:JN s (bB (pz us s).cs) c){wy T4:BitVec 64}(hr:SpR (bB (pz us s).cs) us s.aq s.qs c false wy T4):¬wo (SN s) (QN s)/\¬wo (SN s) (MN s T4):=by
 rcases hr with⟨q,_⟩|⟨_,x,wl,hw,hl,hy⟩
 .cases q
 obtain⟨ak,bq,cwl,wi⟩:=c
 simp only at hw hl hy
 subst hw
 obtain⟨hx,ck⟩:=hj.ck.take
 have UW:x.toNat<s.qs.length:=J
 obtain⟨hf,hvs⟩:=h.fit _ (dw (d:=cX) hx.1 hx.2)
 have lv:ak.length=s.ak.length:=hj.ck.lv
 have si:=hj.si
 simp only at si
 have key:(s.qs.getD x.toNat cX).to.var<0/\¬fl (uL s.aq s.ak.length (s.qs.getD x.toNat cX)) (vQ ak)/\T4=O3 (s.qs.getD x.toNat cX).why (wQ bq) (uL s.aq s.ak.length (s.qs.getD x.toNat cX)).vars:=by
  rw[GX hvs,<-S5,S6 lv]
  generalize s.qs.getD x.toNat cX=q at*
  unfold n7 at hl hy
  split at hl
  .cases hl
  rename_i c1
  rw[aT c1]at hy
  split at hl
  .rename_i c2
   rw[aX c2]at hy
   split at hl
   .cases hl
   rename_i c3
   rw[aT c3]at hy
   exact⟨c2,by rw[aX c2];exact c3,hy⟩
  split at hl
  .cases hl
  .cases hl
 obtain⟨k1,k2,k3⟩:=key
 have hto:(uL s.aq s.ak.length (s.qs.getD x.toNat cX)).to=none:=by rw[apL,aX k1]
 obtain⟨s1,s2⟩:=si.stuck UW hto k2
 have hmem:=(si.ok x.toNat UW).2
 rw[<-k3]at s2
 refine⟨fun⟨u,h1,h2⟩=>s1 u (wo.sol h1 h2) (h2 _ ⟨_,UW,rfl⟩),fun⟨u,h1,h2⟩=>s2 u (wo.sol h1 h2) (h2 _ ?_)⟩
 rw[k3]
 exact si.mok _ _ _ (GM _ _ _).1 hmem
def yh(s:mv)(v:List El):Va:=fun i=>if(s.vars.getD i fp).kind=1 then v.getD i dg else gI (iv s (s.vars.getD i fp).a8) ew
def F3(s:mv)(x:iU):tK:=CM s.vars.length (iv s x.a8) x.code x.to
def QP(s:mv)(l:List iU):tK->Prop:=fun q=>∃x∈l,x.op=8/\q=F3 s x
section
variable{s:mv}{l:List iU}{v:List El}{x:iU}
theorem Ao(h:kM s x=true)(ho:x.op=8):(0<=x.a8/\x.a8<s.aq.length)/\codeOk s x.a8 x.code=true/\mc s x.a8 x.to=true:=by grind[kM]
theorem ab2{v kd a8:Int}(h:q9 s v kd a8=true):(0<=v/\v<s.vars.length)/\(s.vars.getD v.toNat fp).kind=kd/\(s.vars.getD v.toNat fp).a8=a8:=by grind[q9]
theorem anG(h:codeOk s x.a8 x.code=true){y:dU}(hy:y∈x.code)(ho:y.op=1):(0<=y.n/\y.n<s.vars.length)/\(s.vars.getD y.n.toNat fp).kind=1:=by
 simp only[codeOk,cL]at h
 have h2:=iS.1 h.1 y hy
 simp only[vV,cL,p8,B4,wW]at h2
 have:=ab2 (h2.1.resolve_left fun q=>q ho)
 exact⟨this.1,this.2.1⟩
theorem ajl(h:kM s x=true)(ho:x.op=8):tL (iA s) (F3 s x):=by
 obtain⟨h1,h2,h3⟩:=Ao h ho
 exact aiC (asC h2 h3)
theorem ZN(h:kM s x=true)(ho:x.op=8)(hv:v.length=s.vars.length):(F3 s x).ev (yh s v)=(ey (iv s x.a8) x.code v).1:=by
 obtain⟨h1,h2,h3⟩:=Ao h ho
 show(ey _ _ ((List.range s.vars.length).map (yh s v))).1=_
 congr 1
 refine JH fun y hy hp=> ?_
 obtain⟨⟨a,b⟩,c⟩:=anG h2 hy hp
 refine⟨a,by simp;omega,J,?_⟩
 rw[qC J]
 unfold yh
 rw[aX c]
theorem Ta(h:kM s x=true)(ho:x.op=8)(ht:0<=x.to.var):x.to.var<s.vars.length/\(F3 s x).to=some x.to.var.toNat/\yh s v x.to.var.toNat=v.getD x.to.var.toNat dg/\(s.vars.getD x.to.var.toNat fp).kind=1:=by
 obtain⟨h1,h2,h3⟩:=Ao h ho
 rw[mc,aT J]at h3
 obtain⟨a,b,c⟩:=ab2 h3
 refine⟨a.2,?_,by unfold yh;rw[aX b],b⟩
 show(if x.to.var<0 then none else some x.to.var.toNat)=_
 rw[aT J]
theorem asQ(h:kM s x=true)(ho:x.op=8)(ht:0<=x.to.var)(hv:v.length=s.vars.length):fl (F3 s x) (yh s v)↔cS (ey (iv s x.a8) x.code v).1 (v.getD x.to.var.toNat dg)=true:=by
 obtain⟨_,h2,h3,_⟩:=Ta (v:=v) h ho ht
 unfold fl tK.rhs
 rw[ZN h ho hv,h2]
 simp only
 rw[h3]
theorem ZO(h:kM s x=true)(ho:x.op=8)(ht:x.to.var<0)(hv:v.length=s.vars.length):(F3 s x).to=none/\(fl (F3 s x) (yh s v)↔cS (ey (iv s x.a8) x.code v).1 x.to.c=true):=by
 have h2:(F3 s x).to=none:=by
  show(if x.to.var<0 then none else some x.to.var.toNat)=_
  rw[aX ht]
 refine⟨h2,?_⟩
 unfold fl tK.rhs
 rw[ZN h ho hv,h2];exact Cf
structure O5(s:mv)(l:List iU)(v:List El):Prop where
 len:v.length=s.vars.length
 low:BB (iA s) (QP s l) (yh s v)
theorem wu(h:jb s=true):(s.aq.length<=16/\s.vars.length<=64)/\(∀x∈s.aq,mC x.yK.sh=true)/\∀v∈s.vars,(v.kind=1\/v.kind=2)/\0<=v.a8/\v.a8<s.aq.length:=by grind[jb,MQ,LD]
theorem asR(h:jb s=true):∀i,i<(iA s).n->mC ((iA s).sh i)=true:=by grind[jb,iA,mC,wu,fp,getD_eq,iv,dw]
theorem O5.start(h:jb s=true):O5 s l (MM s.sc).labels:=by
 refine⟨by show(s.vars.map (zZ s.sc)).length=_;simp,abO (asR h) fun i hi=> ?_⟩
 have hi':i<s.vars.length:=hi
 obtain⟨_,h2,h3⟩:=wu h
 have hv:=h3 (s.vars.getD i fp) (by rw[getD_eq hi'];exact r8 hi')
 show yh s (s.vars.map (zZ s.sc)) i=gI (iv s (s.vars.getD i fp).a8) ew
 unfold yh
 by_cases c:(s.vars.getD i fp).kind=1
 .rw[aX c,eT,qp,eD hi']
  rw[getD_eq hi']at c hv⊢
  show zZ s.sc s.vars[i]=_
  unfold zZ
  rw[aX ⟨c,hv.2.1,by show _<((s.aq.map fun l=>l.yK.sh).length:Int);rw[gF];exact hv.2.2⟩]
  congr 1
  show(s.aq.map fun l=>l.yK.sh).getD _ _=(s.aq.getD _ lH).yK.sh
  have:(s.vars[i]).a8.toNat<s.aq.length:=by have:=hv.2;omega
  rw[eT,qp,eD this,eT,eD this];rfl
 rw[aT c]
def aep(s:mv)(v:List El):Nat:=(px (iA s) (fun _=>1) (yh s v) s.vars.length).toNat
theorem ajm{k:Nat}{e:El}(hk:k<v.length)(hc:(s.vars.getD k fp).kind=1):yh s (v.set k e)=GL (yh s v) k e:=by
 funext i
 show(if(s.vars.getD i fp).kind=1 then(v.set k e).getD i dg else gI (iv s (s.vars.getD i fp).a8) ew)=if i=k then e else if(s.vars.getD i fp).kind=1 then v.getD i dg else gI (iv s (s.vars.getD i fp).a8) ew
 by_cases c:i=k
 .subst c
  rw[aX hc,aX O,eT,p7,aX O,aX hk];rfl
 rw[aT c]
 by_cases d:(s.vars.getD i fp).kind=1
 .rw[aX d,aX d,eT,p7,aT fun q=>c q.symm,<-eT]
 rw[aT d,aT d]
theorem O5.raise(h:O5 s l v)(hm:x∈l)(ha:kM s x=true)(ho:x.op=8)(ht:0<=x.to.var)(hn:¬cS (ey (iv s x.a8) x.code v).1 (v.getD x.to.var.toNat dg)=true):
  O5 s l (v.set x.to.var.toNat (ef (iv s x.a8) (v.getD x.to.var.toNat dg) (ey (iv s x.a8) x.code v).1))/\aep s (v.set x.to.var.toNat (ef (iv s x.a8) (v.getD x.to.var.toNat dg) (ey (iv s x.a8) x.code v).1))<aep s v:=by
 obtain⟨t1,t2,t3,t4⟩:=Ta (v:=v) ha ho ht
 have hk:x.to.var.toNat<v.length:=by have:=h.len;omega
 have io:=ajl ha ho
 have e1:=ZN (v:=v) ha ho h.len
 have es:=ajm (e:=ef (iv s x.a8) (v.getD x.to.var.toNat dg) (ey (iv s x.a8) x.code v).1) hk t4
 have hl:=h.low.raise ⟨x,hm,ho,rfl⟩ io t2
 rw[e1,t3]at hl
 have hks:=io.to _ t2
 have fk:=h.low.fit _ hks.1
 rw[hks.2,t3]at fk
 have fe:=io.fit _ h.low.fit
 rw[e1]at fe
 have fj:=ID fk fe
 have up:=YQ fk fe
 have hp:=Qq (S:=iA s) (U:=fun _=>1) (v:=yh s v) (k:=x.to.var.toNat) (e:=ef (iv s x.a8) (v.getD x.to.var.toNat dg) (ey (iv s x.a8) x.code v).1) h.low.fit hks.1 (by rw[hks.2];exact fj) (by rw[t3];exact up.1) fun q=>hn (by
  rw[t3]at q
  exact fF up.2 (ld q))
 refine⟨⟨by rw[nY];exact h.len,by rw[es];exact hl⟩,?_⟩
 have h0:=KX (U:=fun _=>1) hl.fit s.vars.length (eU _)
 unfold aep
 rw[es]
 have Qa:(iA s).n=s.vars.length:=rfl
 have ej:(F3 s x).sh=iv s x.a8:=rfl
 rw[ej]at h0
 rw[Qa]at hp
 omega
theorem O5.done(h:O5 s l v)(ha:∀x∈l,kM s x=true)(hh:∀x∈l,x.op=8->0<=x.to.var->cS (ey (iv s x.a8) x.code v).1 (v.getD x.to.var.toNat dg)=true):me (iA s) (QP s l) (yh s v):=by
 refine⟨h.low,?_⟩
 rintro q ⟨x,hx,ho,rfl⟩ hq
 by_cases c:0<=x.to.var
 .exact(asQ (ha x hx) ho c h.len).2 (hh x hx ho c)
 exact absurd (ZO (ha x hx) ho J h.len).1 hq
theorem Nz(h:me (iA s) (QP s l) (yh s v))(hl:v.length=s.vars.length)(ha:∀x∈l,kM s x=true):wo (iA s) (QP s l)↔∀x∈l,x.op=8->x.to.var<0->cS (ey (iv s x.a8) x.code v).1 x.to.c=true:=by
 rw[h.aEj fun q ⟨x,hx,ho,e⟩=>e▸ajl (ha x hx) ho]
 constructor
 .intro hh x hx ho ht
  obtain⟨h1,h2⟩:=ZO (ha x hx) ho ht hl
  exact h2.1 (hh _ ⟨x,hx,ho,rfl⟩ h1)
 rintro hh q ⟨x,hx,ho,rfl⟩ hq
 by_cases c:0<=x.to.var
 .rw[(Ta (v:=v) (ha x hx) ho c).2.1]at hq;cases hq
 exact(ZO (ha x hx) ho J hl).2.2 (hh x hx ho J)
theorem Ap{p:pI}(h:mK p=true):jb p.s=true/\∀x∈p.bf,kM p.s x=true:=by grind[mK]
theorem anH{K:Vu}{u:Value}{l:List El}{k m:Nat}{e:El}(h:pB K u 8 m (qK (l.flatMap pH) (k*8) (pH e)))(hk:k<l.length)(hm:m=l.length):pB K u 8 (l.set k e).length ((l.set k e).flatMap pH):=by simp_all[DQ,cY]
end
structure Aq(s:NP):Prop where
 ns:yV s
 lw:∀x∈s.aq,mC x.p.sh=true/\x.low=gI x.p.sh ew
 nv:s.ak.length<=128
 nq:s.qs.length<=64
 wy:s.sk=false->s.wy=0
theorem ab3{α:Type}{F:α->Int}{b:Int}:∀{l:List α},(∀x∈l,F x<=b)->(l.map F).sum<=b*l.length
 |[],_=>by simp
 |a::l,h=>by
  have h1:=h a aJ
  have h2:=ab3 (l:=l) fun x hx=>h x (fX _ hx)
  rw[lR,E1,fq,show((l.length+1:Nat):Int)=(l.length:Int)+1 by omega,Int.mul_add,Int.mul_one]
  omega
theorem Aq.mu{s:NP}(h:Aq s):muM s<=4200000:=by
 have hq:∀q∈s.qs,gJ (zu s.aq q)*(q.vars.length:Int)<=65536:=fun q hq=>by
  have hl:=h.ns.ok.hqo q hq
  have hs:mC (zu s.aq q)=true:=(h.lw _ (dw hl.a8.1 hl.a8.2)).1
  have h1:0<=gJ (zu s.aq q)/\gJ (zu s.aq q)<=512:=by
   rw[gJ,aX hs];exact amo hs J J
  have h2:q.vars.length<=s.ak.length:=by
   have hn:(q.vars.map Int.toNat).Nodup:=by
    have e:q.vars.Nodup:=by rw[(h.ns.fit q hq).2];exact V5 q.code
    refine List.Pairwise.map _ ?_ (afq (S:=fun a b=>a.toNat≠b.toNat) ?_ e)
    .exact fun a b q=>q
    intro a b ha hb hab c
    have:=hl.vars a ha;have:=hl.vars b hb
    exact hab J
   have h3:(q.vars.map Int.toNat).length<=(List.range s.ak.length).length:=hn.length_le_of_subset fun x hx=>by
    obtain⟨a,ha,rfl⟩:=fZ.1 hx
    have:=hl.vars a ha
    exact qq.2 J
   simpa using h3
  have h4:=h.nv
  have h5:gJ (zu s.aq q)*(q.vars.length:Int)<=512*128:=Int.mul_le_mul h1.2 J J J
  omega
 have h1:=ab3 hq
 have h2:=h.nq
 unfold muM
 omega
structure asS(s s':NP)(ok:Bool):Prop where
 net:Aq s'
 aq:s'.aq=s.aq
 a8:s'.a8=s.a8
 qs:s'.qs=s.qs
 len:s'.ak.length=s.ak.length
 sk:s'.sk= !ok
 wr:s'.wr=s.wr
 yes:ok=true->me (SN s) (QN s) (vQ s'.ak)/\(∀q,QN s q->fl q (vQ s'.ak))/\FB (SN s) (MN s) (vQ s'.ak) (wQ s'.bq)
 no:ok=false->s'.ak=s.ak/\s'.bq=s.bq/\¬wo (SN s) (QN s)/\¬wo (SN s) (MN s s'.wy)
theorem yV.skw{s:NP}(h:yV s)(b:Bool)(y:BitVec 64):yV {s with sk:=b,wy:=y}:=⟨⟨h.ok.T3,h.ok.OQ,h.ok.ov,h.ok.Qw,h.ok.Xj,h.ok.hqn,h.ok.hqo,h.ok.hlt,h.ok.hlr,h.ok.yf⟩,h.fit,h.us,h.cl,h.si⟩
theorem asT{s:NP}(h:Aq s)(hk:s.sk=false){us:List jY}(yf:qf us=s.us){c:yU}{ok:Bool}{T4:BitVec 64}(hr:SpR (bB (pz us s).cs) us s.aq s.qs c ok s.wy T4)(hj:JN s (bB (pz us s).cs) c):
  asS s (if ok then(NP.mk s.aq s.a8 c.ak c.bq s.us s.qs s.qs.length (pz us s).cs s.sk s.wy s.wr)else{s with sk:=true,wy:=T4}) ok:=by
 cases ok with
 |true=>
  rcases hr with⟨_,hw,_⟩|⟨q,_⟩
  .obtain⟨h1,h2,h3,h4⟩:=h.ns.settled yf hj hw
   have hv:c.ak.length=s.ak.length:=hj.ck.lv
   exact⟨⟨h1,h.lw,by show c.ak.length<=128;rw[hv];exact h.nv,h.nq,h.wy⟩,rfl,rfl,rfl,hv,hk,rfl,fun _=>⟨h2,h3,h4⟩,fun q=>by cases q⟩
  .cases q
 |false=>
  obtain⟨h1,h2⟩:=h.ns.stuck yf hj hr
  exact⟨⟨h.ns.skw true T4,h.lw,h.nv,h.nq,fun q=>by cases q⟩,rfl,rfl,rfl,rfl,rfl,rfl,fun q=>(by cases q),fun _=>⟨rfl,rfl,h1,h2⟩⟩
theorem aeq{s:NP}(h:Aq s){us:List jY}(yf:qf us=s.us):∀dc eK J7 mX x,JN s (bB (pz us s).cs) ⟨dc,eK,x::J7,mX⟩->∀r,n7 (bB (pz us s).cs) us (zu s.aq (s.qs.getD x.toNat cX)) (s.qs.getD x.toNat cX) dc eK J7 (mX.set x.toNat false) s.wy=r->r.ok=true->JN s (bB (pz us s).cs) ⟨r.ak,r.bq,r.wl,r.wi⟩/\muN s.aq s.a8 s.ak.length s.qs ⟨r.ak,r.bq,r.wl,r.wi⟩<muN s.aq s.a8 s.ak.length s.qs ⟨dc,eK,x::J7,mX⟩:=fun dc eK J7 mX x hj r hr hok=>by
 obtain⟨_,_,hl,_⟩:=S9 h.ns yf
 exact hj.look h.ns.fit (O4.of (yf.trans h.ns.us)) hl hr hok
theorem Aq.var{s:NP}(h:Aq s){l:Int}(hl:0<=l/\l<s.aq.length)(hn:s.ak.length<128):Aq (qM s l (s.aq.getD l.toNat pQ).low):=by
 have hx:=h.lw _ (dw (d:=pQ) hl.1 hl.2)
 exact⟨h.ns.var hl hx.1 hx.2 J,h.lw,by simp[qM];omega,h.nq,h.wy⟩
theorem Aq.add{s:NP}(h:Aq s){q:dD}(hf:Ny s q)(hn:s.qs.length<64):Aq (BC s q):=⟨h.ns.add hf J,h.lw,h.nv,by simp[BC];omega,h.wy⟩
structure ux(p:mv)(s:NP):Prop where
 lt:s.aq.map (fun x=>x.p.sh)=p.aq.map fun l=>l.yK.sh
 la:s.a8=p.vars.map vN.a8
 nv:s.ak.length=p.vars.length
section
variable{p:mv}{s s':NP}{l:List iU}{x:iU}
theorem ux.sh(h:ux p s)(k:Nat):(s.aq.getD k pQ).p.sh=(p.aq.getD k lH).yK.sh:=by
 have e:=aK (fun m:List Sh=>m.getD k DV.sh) h.lt
 simp only[eT,qp]at e⊢
 cases h1:s.aq[k]?<;>cases h2:p.aq[k]?<;>simp only[h1,h2,Option.map_none,qU,Option.getD_none,Rq]at e⊢<;>first|rfl|exact e
theorem ux.len(h:ux p s):s.aq.length=p.aq.length:=by have:=aK List.length h.lt;simpa using this
theorem ux.a8(h:ux p s)(i:Nat):s.a8.getD i 0=(p.vars.getD i fp).a8:=by grind[ux,fp]
theorem ux.sys(h:ux p s):SN s=iA p:=by
 show(⟨s.ak.length,fun i=>(s.aq.getD (s.a8.getD i 0).toNat pQ).p.sh⟩:Sys)=⟨p.vars.length,fun i=>(p.aq.getD (p.vars.getD i fp).a8.toNat lH).yK.sh⟩
 rw[h.nv]
 congr 1
 funext i
 rw[h.a8,h.sh]
theorem ux.same(h:ux p s)(h1:s'.aq=s.aq)(h2:s'.a8=s.a8)(h3:s'.ak.length=s.ak.length):ux p s':=by grind[ux]
theorem ux.of(h:ux p s)(hl:s.a8.length=s.ak.length)(v k:Int):ofB s.a8 v k=true↔(0<=v/\v<p.vars.length)/\(p.vars.getD v.toNat fp).a8=k:=by grind[ux,ofB,fp]
theorem ux.fit(h:ux p s)(hl:s.a8.length=s.ak.length)(ha:kM p x=true)(ho:x.op=8):wO s.aq s.a8 x.a8 x.code x.to=true:=by
 obtain⟨h1,h2,h3⟩:=Ao ha ho
 have e:=h.sh x.a8.toNat
 simp only[codeOk,cL]at h2
 rw[Nq (q:=x.code.length) (by rw[h.len];exact h1) h2.2 J fun j a b=> ?_]
 .unfold No
  unfold mc at h3
  by_cases c:x.to.var<0
  .rw[aX c]at h3⊢
   show cJ (s.aq.getD x.a8.toNat pQ).p.sh _=true
   rw[e];exact h3
  rw[aT c]at h3⊢
  have:=ab2 h3
  exact(h.of hl _ _).2 ⟨this.1,this.2.2⟩
 have hi:=iS.1 h2.1 _ (dw (d:=bG) a b)
 simp only[vV,cL,p8,B4,wW]at hi
 refine CR ?_ ?_
 .rcases hi.1 with q|q
  .exact .inl q
  have:=ab2 q
  have:=(h.of hl _ _).2 ⟨this.1,this.2.2⟩
  simp only[ofB,eE]at this
  exact .inr this
 rcases hi.2 with q|q
 .exact .inl q
 refine .inr ?_
 show cJ (s.aq.getD x.a8.toNat pQ).p.sh _=true
 rw[e];exact q
end
theorem anI{s:NP}(hok:D4 s){k:Int}{l:List dU}{t:iR}(h:wO s.aq s.a8 k l t=true)(hl:l.length<=1000)(cv vv:Value)(y:BitVec 64):Ny s ⟨k,cv,l,t,y,vv,dB l⟩:=by
 simp only[wO,cL,eE]at h
 obtain⟨⟨h1,h2⟩,h3,h4⟩:=h
 have of_:∀v,ofB s.a8 v k=true->0<=v/\v<(s.ak.length:Int)/\(kA s.aq s.a8 s.ak.length).sh v.toNat=shL s.aq k:=fun v hv=>by
  simp only[ofB,eE]at hv
  refine⟨hv.1,by have:=hok.hlt;omega,?_⟩
  show(s.aq.getD (s.a8.getD v.toNat 0).toNat pQ).p.sh=_
  rw[hv.2.2];rfl
 refine⟨h1,hl,⟨h2,fun x hx ho=> ?_,fun x hx ho=> ?_,fun h0=> ?_,fun h0=> ?_⟩,rfl⟩
 .have hi:=iS.1 h3 x hx
  simp only[FE,cL,p8,B4,wW]at hi
  exact of_ _ (hi.1.resolve_left fun q=>q ho)
 .have hi:=iS.1 h3 x hx
  simp only[FE,cL,p8,B4,wW]at hi
  exact hi.2.resolve_left fun q=>q ho
 .rw[No,aX h0]at h4;exact h4
 have h0':¬t.var<0:=by have:0<=t.var:=h0;omega
 rw[No,aT h0']at h4
 have:=of_ _ h4
 exact⟨this.2.1,this.2.2⟩
def NA(i:Nat)(x:iU):Int×List dU×iR×BitVec 64:=(x.a8,x.code,x.to,(1#64)<<<i)
def I0(q:dD):Int×List dU×iR×BitVec 64:=(q.a8,q.code,q.to,q.why)
def Bd(l:List iU)(k:Nat):List (Int×List dU×iR×BitVec 64):=((List.range k).filter fun i=>decide ((l.getD i dV).op=8)).map fun i=>NA i (l.getD i dV)
theorem QA{l:List iU}{k:Nat}:Bd l (k+1)=Bd l k++if(l.getD k dV).op=8 then[NA k (l.getD k dV)]else[]:=by grind[Bd,List.range_succ,dV]
section
variable{p:mv}{s:NP}{l:List iU}{k:Nat}
theorem axv(h:ux p s)(hq:s.qs.map I0=Bd l k)(hk:k<=l.length):QN s=QP p (l.take k):=by
 funext q
 refine propext ⟨fun⟨i,hi,e⟩=> ?_,fun⟨x,hx,ho,e⟩=> ?_⟩
 .have hm:I0 (s.qs.getD i cX)∈Bd l k:=by rw[<-hq,getD_eq hi];exact fZ.2 ⟨_,r8 hi,rfl⟩
  obtain⟨j,hj,e2⟩:=fZ.1 hm
  simp only[xP,qq,eE]at hj
  refine⟨l.getD j dV,?_,hj.2,?_⟩
  .rw[getD_eq J]
   exact Q9.2 ⟨j,J,rfl⟩
  rw[e]
  simp only[NA,I0,Yd]at e2
  obtain⟨a,b,c,_⟩:=e2
  unfold uL zu F3 iv
  rw[h.nv,h.sh,<-a,<-b,<-c]
 obtain⟨j,hj,e1⟩:=Q9.1 hx
 have hj2:j<k/\j<l.length:=J
 have hm:NA j x∈Bd l k:=fZ.2 ⟨j,by simp only[xP,qq,eE];exact⟨hj2.1,by rw[getD_eq hj2.2,e1];exact ho⟩,by rw[getD_eq hj2.2,e1]⟩
 rw[<-hq]at hm
 obtain⟨r,hr,e2⟩:=fZ.1 hm
 obtain⟨i,hi,e3⟩:=vc.1 hr
 refine⟨i,hi,?_⟩
 rw[e,getD_eq hi,e3]
 simp only[NA,I0,Yd]at e2
 obtain⟨a,b,c,_⟩:=e2
 unfold uL zu F3 iv
 rw[h.nv,h.sh,a,b,c]
end
theorem asU{cs:List (List Nat)}{us Vj:List jY}{aq:List pO}{a8:List Int}{qs:List dD}{sn:Int}{n:Nat}{c:yU}:(sU cs us aq a8 qs sn n c).cs=(sU cs Vj aq a8 qs sn n c).cs:=by grind[sU]
def usB(s:NP):List jY:=s.us.map fun l=>⟨.slice none 0 0,l⟩
abbrev JB(s:NP):yU->Prop:=JN s (bB (pz (usB s) s).cs)
abbrev muB(s:NP):yU->Nat:=muN s.aq s.a8 s.ak.length s.qs
theorem ab4{s:NP}{us:List jY}:(pz us s).cs=(pz (usB s) s).cs:=asU
theorem axw{s:NP}(h:Aq s):∀us:List jY,qf us=s.us->JB s (VZ (pz us s).s s.sn s.qs.length)/\muB s (VZ (pz us s).s s.sn s.qs.length)<=muM s/\∀dc eK J7 mX x,JB s ⟨dc,eK,x::J7,mX⟩->∀r,n7 (bB (pz us s).cs) us (s.aq.getD (s.qs.getD x.toNat cX).a8.toNat pQ).p.sh (s.qs.getD x.toNat cX) dc eK J7 (mX.set x.toNat false) s.wy=r->r.ok=true->JB s ⟨r.ak,r.bq,r.wl,r.wi⟩/\muB s ⟨r.ak,r.bq,r.wl,r.wi⟩<muB s ⟨dc,eK,x::J7,mX⟩:=fun us yf=>by
 have hs:=Wb h.ns yf
 have hl:=aeq h yf
 unfold JB
 rw[<-ab4 (us:=us)]
 exact⟨hs.1,hs.2,hl⟩
theorem ajn{s:NP}(h:Aq s){us:List jY}(yf:qf us=s.us){c:yU}{ok:Bool}{T4:BitVec 64}{a:Nat}(hr:SpR (bB (pz us s).cs) us s.aq s.qs c ok s.wy T4)(ha:a+muB s c<=muB s (VZ (pz us s).s s.sn s.qs.length)+(if ok then 0 else 1)):a<=muM s:=by
 have hm:=(Wb h.ns yf).2
 rcases hr with⟨e,_⟩|⟨e,x,wl,hw,_⟩
 .subst e;simp only[uu]at ha;unfold muB at ha;omega
 subst e
 have:1<=muB s c:=by unfold muB muN;rw[hw];simp only[fq];omega
 simp only[uE,xU]at ha
 unfold muB at ha this;omega
theorem M7{ids:List Nat}{tl QB:List (Nat×Rl)}:∀{d:Wr},d.Fg ids tl->d.Fg ids (tl++QB)
 | .base p tb,h=>⟨h.1,fun i hi q hq=>dL _ (h.2 i hi q hq)⟩
 | .wrap m d,h=>⟨h.1,M7 h.2⟩
theorem Xl.more{T:OP}{K:Vu}{ids:List Nat}{tl QB:List (Nat×Rl)}{x:pO}(h:Xl T K ids tl x):Xl T K ids (tl++QB) x:=⟨h.ops,M7 h.Fg,h.sh,h.yK,h.dep⟩
theorem NB{p:mv}(h:jb p=true):∀l∈p.aq,l.yK.aY.length<=1000/\∀f∈l.yK.aY,f.names.length<=1000:=fun l hl=>by
 have hs:=n4 ((wu h).2.1 l hl)
 refine⟨by have:=po l.yK;omega,fun f hf=> ?_⟩
 have:=(pE (hs.2.2 f.fc (fZ.2 ⟨f,hf,rfl⟩))).1.2
 have e:f.fc.names=f.names:=rfl
 rw[e]at this;omega
structure J8(p:mv)(x:Value)(j:Nat)(s:NP):Prop where
 lt:s.aq.map (fun x=>x.p.sh)=p.aq.map fun l=>l.yK.sh
 la:s.a8=(p.vars.take j).map vN.a8
 nv:s.ak.length=j
 nw:Aq s
 qs:s.qs=[]
 sk:s.sk=false
 wr:s.wr=x
structure NC(p:mv)(j:Nat)(ls:List pO):Prop where
 lt:ls.map (fun x=>x.p.sh)=(p.aq.take j).map fun l=>l.yK.sh
 lw:∀x∈ls,mC x.p.sh=true/\x.low=gI x.p.sh ew
def npL(ls:List pO)(x:Value):NP:=NP.mk ls [] [] [] [] [] 0 [[]] false 0 x
theorem NC.len{p:mv}{j:Nat}{ls:List pO}(h:NC p j ls)(hj:j<=p.aq.length):ls.length=j:=by
 have:=aK List.length h.lt
 rw[gF,gF,er]at this;omega
theorem NC.next{p:mv}{k:Int}{ls:List pO}(h:NC p k.toNat ls)(h0:0<=k)(h1:k<p.aq.length){x:pO}(hs:mC (p.aq.getD k.toNat lH).yK.sh=true)(hx:x.p.sh=(p.aq.getD k.toNat lH).yK.sh)(hw:x.low=gI (p.aq.getD k.toNat lH).yK.sh ew):NC p (k+1).toNat (ls++[x]):=by
 have hk:k.toNat<p.aq.length:=J
 refine⟨?_,fun y hy=> ?_⟩
 .rw[show(k+1).toNat=k.toNat+1 by omega,ER hk,gU,gU,h.lt]
  simp only[lR,Ca]
  rw[hx,getD_eq hk]
 rcases fg.1 hy with q|q
 .exact h.lw y q
 rw[gG.1 q,hx];exact⟨hs,hw⟩
theorem NC.fin{p:mv}{k:Int}{ls:List pO}{x:Value}(h:NC p k.toNat ls)(h0:0<=k)(h1:¬k<p.aq.length):J8 p x 0 (npL ls x):=
 ⟨by show ls.map _=_;rw[h.lt,ji J],by simp[npL],rfl,⟨yV.start O O O O O O O,h.lw,by simp[npL],by simp[npL],fun _=>rfl⟩,rfl,rfl,rfl⟩
theorem J8.next{p:mv}{x:Value}{j:Int}{s:NP}(h:J8 p x j.toNat s)(h0:0<=j)(h1:j<p.vars.length)(hv:p.vars.length<=64)(hl:0<=(p.vars.getD j.toNat fp).a8/\(p.vars.getD j.toNat fp).a8<s.aq.length):J8 p x (j+1).toNat (qM s (p.vars.getD j.toNat fp).a8 (s.aq.getD (p.vars.getD j.toNat fp).a8.toNat pQ).low):=by
 have hk:j.toNat<p.vars.length:=J
 have hn:=h.nv
 refine⟨h.lt,?_,by simp[qM];omega,h.nw.var hl J,h.qs,h.sk,h.wr⟩
 rw[show(j+1).toNat=j.toNat+1 by omega,ER hk,gU]
 show s.a8++[_]=_
 rw[h.la,getD_eq hk];rfl
theorem J8.len{p:mv}{x:Value}{j:Nat}{s:NP}(h:J8 p x j s):s.aq.length=p.aq.length:=by have:=aK List.length h.lt;simpa using this
theorem J8.fin{p:mv}{x:Value}{j:Int}{s:NP}(h:J8 p x j.toNat s)(h0:0<=j)(h2:j<=p.vars.length)(h1:¬j<p.vars.length):ux p s:=by
 refine⟨h.lt,?_,by have:=h.nv;omega⟩
 rw[h.la,ji J]
structure aEl(s s':NP)(ok:Bool):Prop where
 st:s.sk=true->ok=false/\s'=s
 go:s.sk=false->asS s s' ok
def tmS(s:NP)(lg:List (Value×my))(tm:List Int):List Int:=if s.sk then tm else tm++[(lg.length:Int)]
theorem axy{s:NP}{lg:List (Value×my)}{tm:List Int}(h:s.sk=true):tmS s lg tm=tm:=by unfold tmS;rw[h];rfl
theorem axz{s:NP}{lg:List (Value×my)}{tm:List Int}(h:s.sk=false):tmS s lg tm=tm++[(lg.length:Int)]:=by unfold tmS;rw[h];rfl
def TmA(ok:Bool)(lg:List (Value×my))(tm T5:List Int):Prop:=T5=if ok then tm++[(lg.length:Int)]else tm
structure Tb(s s':NP)(k:Int)(l:List dU)(t:iR)(y:BitVec 64)(ok:Bool):Prop where
 is:ok=true↔s.sk=false/\wO s.aq s.a8 k l t=true
 add:ok=true->∃cv vv,s'=BC s ⟨k,cv,l,t,y,vv,dB l⟩
 same:ok=false->s'=s
theorem Tb.no{s:NP}{k:Int}{l:List dU}{t:iR}{y:BitVec 64}(h:¬(s.sk=false/\wO s.aq s.a8 k l t=true)):Tb s s k l t y false:=by grind[NP,dU,iR,wO,Tb]
theorem Tb.yes{s:NP}{k:Int}{l:List dU}{t:iR}{y:BitVec 64}{cv vv:Value}(h:s.sk=false)(h2:wO s.aq s.a8 k l t=true):Tb s (BC s ⟨k,cv,l,t,y,vv,dB l⟩) k l t y true:=⟨⟨fun _=>⟨h,h2⟩,fun _=>rfl⟩,fun _=>⟨_,_,rfl⟩,fun q=>by cases q⟩
structure Wc(s s':NP)(x:iU)(i:Nat)(ok:Bool):Prop where
 ne:x.op≠8->ok=true/\s'=s
 eq:x.op=8->Tb s s' x.a8 x.code x.to (1#64<<<i) ok
def TmX(op:Int)(ok:Bool)(lg:List (Value×my))(tm T5:List Int):Prop:=if op=8 then TmA ok lg tm T5 else T5=tm
theorem TmX.no{op:Int}{ok:Bool}{lg:List (Value×my)}{tm:List Int}(h:op≠8):TmX op ok lg tm tm:=by grind[TmX]
theorem TmX.yes{op:Int}{ok:Bool}{lg:List (Value×my)}{tm T5:List Int}(h:op=8)(h2:TmA ok lg tm T5):TmX op ok lg tm T5:=by grind[TmX]
theorem aEn{i:Int}(h:0<=i/\i<=1000):(1#64<<<(BitVec.ofInt 64 i).toNat)=1#64<<<i.toNat:=by grind
def QPm(p:mv)(l:List iU)(k:Nat)(a:BitVec 64):tK->Prop:=fun q=>∃j,j<k/\(l.getD j dV).op=8/\q=F3 p (l.getD j dV)/\eu (1#64<<<j) a=true
theorem axA{p:mv}{s:NP}{l:List iU}{k:Nat}(h:ux p s)(hq:s.qs.map I0=Bd l k):MN s=QPm p l k:=by
 have key:∀r:dD,∀x:iU,I0 r=NA 0 x\/(∃j,I0 r=NA j x)->uL s.aq s.ak.length r=F3 p x:=fun r x e=>by
  have e2:r.a8=x.a8/\r.code=x.code/\r.to=x.to:=by
   rcases e with e|⟨j,e⟩<;>(simp only[NA,I0,Yd]at e;exact⟨e.1,e.2.1,e.2.2.1⟩)
  unfold uL zu F3 iv
  rw[h.nv,h.sh,e2.1,e2.2.1,e2.2.2]
 funext a q
 refine propext ⟨fun⟨i,hi,e,hs⟩=> ?_,fun⟨j,hj,ho,e,hs⟩=> ?_⟩
 .have hm:I0 (s.qs.getD i cX)∈Bd l k:=by rw[<-hq,getD_eq hi];exact fZ.2 ⟨_,r8 hi,rfl⟩
  obtain⟨j,hj,e2⟩:=fZ.1 hm
  simp only[xP,qq,eE]at hj
  refine⟨j,hj.1,hj.2,by rw[e];exact key _ _ (.inr ⟨j,e2.symm⟩),?_⟩
  have e3:=aK (fun z=>z.2.2.2) e2
  simp only[NA,I0]at e3
  rw[e3];exact hs
 have hm:NA j (l.getD j dV)∈Bd l k:=fZ.2 ⟨j,by simp only[xP,qq,eE];exact⟨hj,ho⟩,rfl⟩
 rw[<-hq]at hm
 obtain⟨r,hr,e2⟩:=fZ.1 hm
 obtain⟨i,hi,e3⟩:=vc.1 hr
 refine⟨i,hi,?_,?_⟩
 .rw[e,getD_eq hi,e3];exact(key _ _ (.inr ⟨j,e2⟩)).symm
 rw[getD_eq hi,e3]
 have e4:=aK (fun z=>z.2.2.2) e2
 simp only[NA,I0]at e4
 rw[e4];exact hs
structure CU(p:mv)(l:List iU)(k:Nat)(s:NP):Prop where
 np:ux p s
 nw:Aq s
 qs:s.qs.map I0=Bd l k
theorem anK{l:List iU}{k:Nat}:(Bd l k).length<=k:=by grind[Bd]
section
variable{p:mv}{l:List iU}{k:Nat}{s s':NP}{ok:Bool}
theorem CU.start(h1:ux p s)(h2:Aq s)(h3:s.qs=[]):CU p l 0 s:=⟨h1,h2,by rw[h3];rfl⟩
theorem CU.add(h:CU p l k s)(hk:k<l.length)(h64:k<64)(ha:∀x∈l,kM p x=true)(hc:∀x∈l,x.code.length<=1000)(OV:s.sk=false)(hA:Wc s s' (l.getD k dV) k ok):ok=true/\CU p l (k+1) s'/\s'.sk=false/\s'.wr=s.wr/\s'.aq=s.aq:=by
 have hm:l.getD k dV∈l:=by rw[getD_eq hk];exact r8 hk
 by_cases ho:(l.getD k dV).op=8
 .have hR:=hA.eq ho
  have hfb:=h.np.fit h.nw.ns.ok.hlt (ha _ hm) ho
  have hok:=hR.is.2 ⟨OV,hfb⟩
  obtain⟨cv,vv,e⟩:=hR.add hok
  have hf:=anI h.nw.ns.ok hfb (hc _ hm) cv vv (1#64<<<k)
  have hq:s.qs.length<=k:=by have:=aK List.length h.qs;rw[gF]at this;have:=anK (l:=l) (k:=k);omega
  subst e
  refine⟨hok,⟨⟨h.np.lt,h.np.la,h.np.nv⟩,h.nw.add hf J,?_⟩,OV,rfl,rfl⟩
  show(s.qs++[_]).map I0=_
  rw[QA,aX ho,gU,h.qs];rfl
 obtain⟨h1,h2⟩:=hA.ne ho
 subst h2
 exact⟨h1,⟨h.np,h.nw,by rw[QA,aT ho,mY];exact h.qs⟩,OV,rfl,rfl⟩
theorem Wc.stuck{x:iU}{i:Nat}(hA:Wc s s' x i ok)(OV:s.sk=true):s'=s/\(ok=true↔x.op≠8):=by
 by_cases ho:x.op=8
 .have hR:=hA.eq ho
  have hno:ok=false:=by
   cases ok with
   |false=>rfl
   |true=>have:=(hR.is.1 O).1;rw[OV]at this;cases this
  exact⟨hR.same hno,⟨fun q=>(by rw[hno]at q;cases q),fun q=>absurd ho q⟩⟩
 obtain⟨h1,h2⟩:=hA.ne ho
 exact⟨h2,⟨fun _=>ho,fun _=>h1⟩⟩
structure aEo(p:mv)(l:List iU)(k:Nat)(s s':NP)(ok:Bool):Prop where
 net:CU p l k s'
 sk:s'.sk= !ok
 is:ok=true↔wo (iA p) (QP p (l.take k))
 low:ok=true->me (iA p) (QP p (l.take k)) (vQ s'.ak)
 all:ok=true->∀q,QP p (l.take k) q->fl q (vQ s'.ak)
 why:ok=true->∀i,i<p.vars.length->∀u,uV (iA p) (QPm p l k (s'.bq.getD i 0)) u->cS (s'.ak.getD i dg) (u i)=true
 no:ok=false->¬wo (iA p) (QPm p l k s'.wy)
 same:ok=false->s'.ak=s.ak
theorem CU.set(h:CU p l k s)(hk:k<=l.length)(hS:asS s s' ok):aEo p l k s s' ok:=by
 have e1:=h.np.sys
 have e2:=axv h.np h.qs hk
 have e3:=axA h.np h.qs
 have hl:CU p l k s':=⟨h.np.same hS.aq hS.a8 hS.len,hS.net,by rw[hS.qs];exact h.qs⟩
 have hy:ok=true->_:=hS.yes
 have hn:ok=false->_:=hS.no
 rw[e1,e2,e3]at hy hn
 refine⟨hl,hS.sk,⟨fun q=>⟨_,(hy q).1.low.fit,(hy q).2.1⟩,fun q=> ?_⟩,fun q=>(hy q).1,fun q=>(hy q).2.1,fun q i hi u hu=>(hy q).2.2 i hi u hu,fun q=>(hn q).2.2.2,fun q=>(hn q).1⟩
 cases ok with
 |true=>rfl
 |false=>exact absurd q (hn O).2.2.1
end
theorem anL{p:mv}{Q:tK->Prop}{ak v:List El}(h1:me (iA p) Q (vQ ak))(h2:me (iA p) Q (yh p v)){i:Nat}(hi:i<p.vars.length)(hk:(p.vars.getD i fp).kind=1):rS (ak.getD i dg) (v.getD i dg):=by
 have h:=h1.same h2 i hi
 unfold yh at h
 rw[aX hk]at h
 exact h
theorem ajo{p:mv}{l:List iU}{v:Va}(h:BB (iA p) (QP p l) v)(hn:¬wo (iA p) (QP p l))(ha:∀x∈l,kM p x=true):0<p.aq.length:=by
 refine Hz fun hc=>hn ⟨v,h.fit,?_⟩
 rintro q ⟨x,hx,ho,rfl⟩
 have:=(Ao (ha x hx) ho).1
 omega
theorem nbs(b:Bool):((!b)==b)=false:=by cases b<;>rfl
theorem anM{p:pI}(h:mK p=true):p.bf.length<=64:=by grind[mK]
def xq:El:=tA dg 0 1#64
def rG(lv fv nv vv:Value):mv:=⟨lv,[⟨⟨#[107]⟩,⟨false,fv,[⟨1,nv,wL,Rl.none⟩]⟩⟩],vv,[⟨⟨#[120]⟩,1,0⟩,⟨⟨#[121]⟩,1,0⟩]⟩
def a24(v:Value)(l:List dU)(t:iR):iU:=⟨8,0,v,l,t,amC,amC,0,qe⟩
def Be(u v w:Value):List iU:=[a24 u [⟨2,0,xq⟩] ⟨0,dg⟩,a24 v [⟨1,0,dg⟩] ⟨1,dg⟩,a24 w [⟨1,1,dg⟩] ⟨-1,dg⟩]
def N_:Value:= .slice none 0 0
theorem aEp(lv fv nv vv av u v w:Value):mK ⟨rG lv fv nv vv,av,Be u v w⟩=true:=(by decide+kernel:mK ⟨rG N_ N_ N_ N_,N_,Be N_ N_ N_⟩=true)
def CV(a b:El):Va:=fun i=>if i=0 then a else b
theorem Bf{lv fv nv vv:Value}{a b:El}(ha:cJ (iv (rG N_ N_ N_ N_) 0) a=true)(hb:cJ (iv (rG N_ N_ N_ N_) 0) b=true):qg (iA (rG lv fv nv vv)) (CV a b):=fun i hi=>by
 have hi':i<2:=hi
 rcases(by omega:i=0\/i=1)with rfl|rfl
 .exact ha
 exact hb
theorem Bg:cJ (iv (rG N_ N_ N_ N_) 0) dg=true:=by decide+kernel
theorem Bh:cJ (iv (rG N_ N_ N_ N_) 0) xq=true:=by decide+kernel
theorem xu(lv fv nv vv u v w:Value):
  (fl (F3 (rG lv fv nv vv) ((Be u v w).getD 0 dV)) (CV xq xq)/\fl (F3 (rG lv fv nv vv) ((Be u v w).getD 0 dV)) (CV xq dg))/\
  (fl (F3 (rG lv fv nv vv) ((Be u v w).getD 1 dV)) (CV xq xq)/\fl (F3 (rG lv fv nv vv) ((Be u v w).getD 1 dV)) (CV dg dg))/\
  (fl (F3 (rG lv fv nv vv) ((Be u v w).getD 2 dV)) (CV dg dg)/\fl (F3 (rG lv fv nv vv) ((Be u v w).getD 2 dV)) (CV xq dg)):=by
 refine⟨⟨?_,?_⟩,⟨?_,?_⟩,?_,?_⟩
 .exact(by decide+kernel:cS (ey (iv (rG N_ N_ N_ N_) 0) [⟨2,0,xq⟩] [xq,xq]).1 xq=true)
 .exact(by decide+kernel:cS (ey (iv (rG N_ N_ N_ N_) 0) [⟨2,0,xq⟩] [xq,dg]).1 xq=true)
 .exact(by decide+kernel:cS (ey (iv (rG N_ N_ N_ N_) 0) [⟨1,0,dg⟩] [xq,xq]).1 xq=true)
 .exact(by decide+kernel:cS (ey (iv (rG N_ N_ N_ N_) 0) [⟨1,0,dg⟩] [dg,dg]).1 dg=true)
 .exact(by decide+kernel:cS (ey (iv (rG N_ N_ N_ N_) 0) [⟨1,1,dg⟩] [dg,dg]).1 dg=true)
 exact(by decide+kernel:cS (ey (iv (rG N_ N_ N_ N_) 0) [⟨1,1,dg⟩] [xq,dg]).1 dg=true)
theorem asV:cS xq dg=false:=by decide+kernel
section
variable{lv fv nv vv u v w:Value}
theorem ajp{k:Nat}(hk:k<=3){q:tK}:QP (rG lv fv nv vv) ((Be u v w).take k) q↔∃j,j<k/\q=F3 (rG lv fv nv vv) ((Be u v w).getD j dV):=by
 have hl:(Be u v w).length=3:=rfl
 have ho:∀j,j<3->((Be u v w).getD j dV).op=8:=fun j hj=>by
  rcases(by omega:j=0\/j=1\/j=2)with rfl|rfl|rfl<;>rfl
 constructor
 .rintro⟨x,hx,_,e⟩
  obtain⟨j,hj,e1⟩:=Q9.1 hx
  exact⟨j,J,by rw[e,<-e1,getD_eq J]⟩
 rintro⟨j,hj,e⟩
 refine⟨_,?_,ho j J,e⟩
 rw[getD_eq J]
 exact Q9.2 ⟨j,J,rfl⟩
theorem axC{k:Nat}(hk:k<=3){a:BitVec 64}{q:tK}(h:QPm (rG lv fv nv vv) (Be u v w) k a q):∃j,j<k/\q=F3 (rG lv fv nv vv) ((Be u v w).getD j dV)/\eu (1#64<<<j) a=true:=by
 obtain⟨j,hj,_,e,hs⟩:=h
 exact⟨j,hj,e,hs⟩
theorem axD{x:Va}(h0:fl (F3 (rG lv fv nv vv) ((Be u v w).getD 0 dV)) x)(h1:fl (F3 (rG lv fv nv vv) ((Be u v w).getD 1 dV)) x)(hx:qg (iA (rG lv fv nv vv)) x):cS xq (x 1)=true:=by
 have p0:cS xq (x 0)=true:=h0
 have p:=Nt (S:=iA (rG lv fv nv vv)) (sh:=iv (rG lv fv nv vv) 0) (n:=2) (x:=⟨1,0,dg⟩) (to:=⟨1,dg⟩) O ⟨az,az⟩ az
 have e:rS ((F3 (rG lv fv nv vv) ((Be u v w).getD 1 dV)).ev x) (x 0):=p.ev x hx
 have p1:cS ((F3 (rG lv fv nv vv) ((Be u v w).getD 1 dV)).ev x) (x 1)=true:=h1
 exact fF p0 (fF (ld fun i hi=>(e i hi).symm) p1)
theorem asW:wo (iA (rG lv fv nv vv)) (QP (rG lv fv nv vv) ((Be u v w).take 2)):=by
 have h:=xu lv fv nv vv u v w
 refine⟨CV xq xq,Bf Bh Bh,fun q hq=> ?_⟩
 obtain⟨j,hj,e⟩:=(ajp J).1 hq
 subst e
 rcases(by omega:j=0\/j=1)with rfl|rfl
 .exact h.1.1
 exact h.2.1.1
theorem anN{x:Va}(hl:me (iA (rG lv fv nv vv)) (QP (rG lv fv nv vv) ((Be u v w).take 2)) x)(hh:∀q,QP (rG lv fv nv vv) ((Be u v w).take 2) q->fl q x):rS (x 1) xq:=by
 have h:=xu lv fv nv vv u v w
 have hs:uV (iA (rG lv fv nv vv)) (QP (rG lv fv nv vv) ((Be u v w).take 2)) (CV xq xq):=⟨Bf Bh Bh,fun q hq _=>by
  obtain⟨j,hj,e⟩:=(ajp J).1 hq
  subst e
  rcases(by omega:j=0\/j=1)with rfl|rfl
  .exact h.1.1
  exact h.2.1.1⟩
 exact YR (hl.low.low _ hs 1 (show 1<2 by decide)) (axD (hh _ ((ajp J).2 ⟨0,J,rfl⟩)) (hh _ ((ajp J).2 ⟨1,J,rfl⟩)) hl.low.fit)
theorem We{k:Nat}(hk:k<=3){a:BitVec 64}{x y:El}{i:Nat}(hf:qg (iA (rG lv fv nv vv)) (CV x y))(hn:¬∀q,QPm (rG lv fv nv vv) (Be u v w) k a q->fl q (CV x y))(hh:∀j,j<k->j≠i->fl (F3 (rG lv fv nv vv) ((Be u v w).getD j dV)) (CV x y)):eu (1#64<<<i) a=true:=by grind[eu,axC]
theorem Wf{a:BitVec 64}{i:Nat}(hi:i<64)(h:eu (1#64<<<i) a=true):a.getLsbD i=true:=by
 have:=aK (fun z:BitVec 64=>z.getLsbD i) (Li h)
 simp only[sx,Rg,BitVec.getLsbD_shiftLeft,XI,hi,decide_true,mG]at this
 simpa using this
theorem axE{a:BitVec 64}(h0:eu (1#64<<<0) a=true)(h1:eu (1#64<<<1) a=true):a&&&3#64=3#64:=by
 have b0:=Wf az h0
 have b1:=Wf az h1
 refine BitVec.eq_of_getLsbD_eq fun i hi=> ?_
 rw[sx]
 rcases(by omega:i=0\/i=1\/2<=i)with rfl|rfl|h
 .rw[b0];rfl
 .rw[b1];rfl
 have:(3#64).getLsbD i=false:=by
  rw[XH,Nat.testBit_lt_two_pow (XL (by decide:3<2^2) (XG az h))];simp
 rw[this,K8]
theorem asX{a:BitVec 64}(h0:eu (1#64<<<0) a=true)(h1:eu (1#64<<<1) a=true)(h2:eu (1#64<<<2) a=true):a&&&7#64=7#64:=by
 have b0:=Wf az h0
 have b1:=Wf az h1
 have b2:=Wf az h2
 refine BitVec.eq_of_getLsbD_eq fun i hi=> ?_
 rw[sx]
 rcases(by omega:i=0\/i=1\/i=2\/3<=i)with rfl|rfl|rfl|h
 .rw[b0];rfl
 .rw[b1];rfl
 .rw[b2];rfl
 have:(7#64).getLsbD i=false:=by
  rw[XH,Nat.testBit_lt_two_pow (XL (by decide:7<2^3) (XG az h))];simp
 rw[this,K8]
theorem axF{x:Va}{a:BitVec 64}(he:rS (x 1) xq)(hw:∀y,uV (iA (rG lv fv nv vv)) (QPm (rG lv fv nv vv) (Be u v w) 2 a) y->cS (x 1) (y 1)=true):a&&&3#64=3#64:=by
 have h:=xu lv fv nv vv u v w
 have key:∀z:El,cS xq z=false->∀y:El,qg (iA (rG lv fv nv vv)) (CV y z)->¬∀q,QPm (rG lv fv nv vv) (Be u v w) 2 a q->fl q (CV y z):=fun z hz y hf hq=>by
  have h1:=fF (ld fun i hi=>(he i hi).symm) (hw (CV y z) (wo.sol hf hq))
  have h2:cS xq z=true:=h1
  rw[hz]at h2;cases h2
 refine axE (We (k:=2) (x:=dg) (y:=dg) J (Bf Bg Bg) (key _ asV _ (Bf Bg Bg)) fun j hj hne=> ?_) (We (k:=2) (x:=xq) (y:=dg) J (Bf Bh Bg) (key _ asV _ (Bf Bh Bg)) fun j hj hne=> ?_)
 .have:j=1:=J
  subst this;exact h.2.1.2
 have:j=0:=J
 subst this;exact h.1.2
theorem axG:¬wo (iA (rG lv fv nv vv)) (QP (rG lv fv nv vv) ((Be u v w).take 3)):=by
 rintro⟨x,hx,hq⟩
 have g:∀j,j<3->fl (F3 (rG lv fv nv vv) ((Be u v w).getD j dV)) x:=fun j hj=>hq _ ((ajp J).2 ⟨j,hj,rfl⟩)
 have h1:=axD (g 0 J) (g 1 J) hx
 have p:=Nt (S:=iA (rG lv fv nv vv)) (sh:=iv (rG lv fv nv vv) 0) (n:=2) (x:=⟨1,1,dg⟩) (to:=⟨1,dg⟩) O ⟨az,az⟩ az
 have e:rS ((F3 (rG lv fv nv vv) ((Be u v w).getD 2 dV)).ev x) (x 1):=p.ev x hx
 have h2:cS ((F3 (rG lv fv nv vv) ((Be u v w).getD 2 dV)).ev x) dg=true:=g 2 J
 have h3:=fF h1 (fF (ld fun i hi=>(e i hi).symm) h2)
 rw[asV]at h3;cases h3
theorem anO{a:BitVec 64}(hs:¬wo (iA (rG lv fv nv vv)) (QPm (rG lv fv nv vv) (Be u v w) 3 a)):a&&&7#64=7#64:=by
 have h:=xu lv fv nv vv u v w
 have key:∀y z:El,qg (iA (rG lv fv nv vv)) (CV y z)->¬∀q,QPm (rG lv fv nv vv) (Be u v w) 3 a q->fl q (CV y z):=fun y z hf hq=>hs ⟨_,hf,hq⟩
 refine asX (We (k:=3) (x:=dg) (y:=dg) J (Bf Bg Bg) (key _ _ (Bf Bg Bg)) fun j hj hne=> ?_) (We (k:=3) (x:=xq) (y:=dg) J (Bf Bh Bg) (key _ _ (Bf Bh Bg)) fun j hj hne=> ?_) (We (k:=3) (x:=xq) (y:=xq) J (Bf Bh Bh) (key _ _ (Bf Bh Bh)) fun j hj hne=> ?_)
 .rcases(by omega:j=1\/j=2)with rfl|rfl
  .exact h.2.1.2
  exact h.2.2.1
 .rcases(by omega:j=0\/j=2)with rfl|rfl
  .exact h.1.2
  exact h.2.2.2
 rcases(by omega:j=0\/j=1)with rfl|rfl
 .exact h.1.1
 exact h.2.1.1
end
theorem aEq(u v w:Value):∀x∈Be u v w,x.code.length<=1000:=fun x hx=>by
 simp only[Be,c8,HG,Cd]at hx
 rcases hx with rfl|rfl|rfl<;>(show 1<=1000;decide)
theorem aEr:mC (iv (rG N_ N_ N_ N_) 0)=true:=by decide+kernel
end
end Go.Proofs.YtlhjdflgjbkpmaaGreatDoor.E
namespace Go.Proofs.YtlhjdflgjbkpmaaGreatDoor.M
section
open Go
structure ajq(r:Rl)(cl:List Nat):Prop where
 n:pts r=cl.length
 sym:∀i j:Int,bK r i j=true->bK r j i=true
 axH:∀i j:Int,bK r i j=true->cm cl i.toNat=cm cl j.toNat
 lead:∀i:Nat,i<cl.length->bK (jq r) i (cm cl i)=true
theorem ab5{r:Rl}(hs:∀i j:Int,bK r i j=true->bK r j i=true){i j:Int}(h:bK (jq r) i j=true):bK (jq r) j i=true:=by
 have h1:=(jP h).1
 rw[zL]at h1
 exact DB h (fun y=>bK (jq r) y i=true) (fun x y hx hy=>nn (Gi (hs _ _ hy)) hx) (yF h1)
theorem ajr{r q:Rl}(hp:pts q=pts r)(hm:∀i j:Int,bK r i j=true->bK q i j=true){i j:Int}(h:bK (jq r) i j=true):bK (jq q) i j=true:=by
 have h1:=(jP h).1
 rw[zL]at h1
 exact DB h (fun y=>bK (jq q) i y=true) (fun x y hx hy=>nn hx (Gi (hm _ _ hy))) (yF (by rw[hp];exact h1))
section
variable{r:Rl}{cl:List Nat}{nd:List qA}
theorem ajq.same(h:ajq r cl){i j:Nat}(hi:i<cl.length)(hj:j<cl.length):cm cl i=cm cl j↔bK (jq r) i j=true:=by
 constructor
 .intro e
  have h1:=h.lead i hi;have h2:=h.lead j hj
  rw[e]at h1
  exact nn h1 (ab5 h.sym h2)
 intro hc
 have:=DB hc (fun y=>cm cl i=cm cl y.toNat) (fun x y hx hy=>hx.trans (h.axH _ _ hy)) aJ
 simpa using this
theorem ajq.join(h:ajq r cl)(hf:Fo nd cl){q:Rl}{x y:Nat}(hx:x<cl.length)(hy:y<cl.length)(hp:pts q=pts r)(hq:∀i j:Int,bK q i j=true↔bK r i j=true\/(i=x/\j=y)\/(i=y/\j=x)):ajq q (iI cl (cm cl x) (cm cl y)):=by
 have hm:∀i j:Int,bK r i j=true->bK q i j=true:=fun i j e=>(hq i j).2 (.inl e)
 have hs:∀i j:Int,bK q i j=true->bK q j i=true:=fun i j e=>by
  rcases(hq i j).1 e with e|e|e
  .exact hm _ _ (h.sym _ _ e)
  .exact(hq j i).2 (.inr (.inr ⟨e.2,e.1⟩))
  exact(hq j i).2 (.inr (.inl ⟨e.2,e.1⟩))
 have hlen:(iI cl (cm cl x) (cm cl y)).length=cl.length:=by simp[iI]
 have hlc:∀i,i<cl.length->cm cl i<cl.length:=fun i hi=>by have:=(hf.lc i (by rw[<-hf.len];exact hi)).1;omega
 have gc:∀i,i<cl.length->cm (iI cl (cm cl x) (cm cl y)) i=IJ (cm cl x) (cm cl y) (cm cl i):=fun i hi=>Ab hi
 have xy:bK (jq q) x y=true:=Gi ((hq x y).2 (.inr (.inl ⟨rfl,rfl⟩)))
 have cs:∀{i j:Int},bK (jq q) i j=true->bK (jq q) j i=true:=fun e=>ab5 hs e
 have lq:∀i:Nat,i<cl.length->bK (jq q) i (cm cl i)=true:=fun i hi=>ajr hp hm (h.lead i hi)
 have cxy:bK (jq q) (cm cl x) (cm cl y)=true:=nn (cs (lq x hx)) (nn xy (lq y hy))
 refine⟨by rw[hp,h.n,hlen],hs,fun i j e=> ?_,fun i hi=> ?_⟩
 .have hb:=jP e
  rw[hp,h.n]at hb
  rw[gc _ J,gc _ J]
  rcases(hq i j).1 e with e|e|e
  .rw[h.axH _ _ e]
  .rw[e.1,e.2,eA,eA,kQ (.inl O),kQ (.inr O)]
  rw[e.1,e.2,eA,eA,kQ (.inl O),kQ (.inr O)]
 rw[hlen]at hi
 rw[gc i hi]
 by_cases c:cm cl i=cm cl x\/cm cl i=cm cl y
 .rw[kQ c]
  have h1:=lq i hi
  rcases c with c|c<;>rw[c]at h1<;>rcases x7 (cm cl x) (cm cl y)with e|e<;>rw[e]
  .exact h1
  .exact nn h1 cxy
  .exact nn h1 (cs cxy)
  exact h1
 rw[k9 c];exact lq i hi
end
end
end Go.Proofs.YtlhjdflgjbkpmaaGreatDoor.M
namespace Go.Proofs.YtlhjdflgjbkpmaaGreatDoor.E
section
open Go Go.RowKit Go.Proofs.YtlhjdflgjbkpmaaGreatDoor.M
section
variable{P:Program}{n:Nat}{l:List Oper}{S:World->Prop}{k:K}{xs:List (Nat×K)}{r:K}{σ:Env}{w:World}{fuel i d:Nat}{listed:Array Bool}{op:Op}{ty:TypeId}{pos:String}{bO:Array Edge}{g:Option (Nat×Bool)}{v:Value}{dst:Option Tmp}
theorem V{ops:Array Oper}{rest:List Oper}{w':World}(hr:(execOp (ev σ) ⟨some d,op,ty,pos,bO,none⟩).run P w= .ok (.value v) w')(hk:RL P n ops k rest (lX σ d v) w')(hd:Nat.blt d n=true:=by rfl):RL P n ops k (⟨some d,op,ty,pos,bO,none⟩::rest) σ w:=pn hd hr hk
abbrev Pn(b o:Nat):Value:= .pointer (some ⟨b,o,none⟩)
theorem mV{x:Operand}(v:Value)(hx:ev σ x=v):(execOp (ev σ) ⟨dst,.move x,ty,pos,bO,g⟩).run P w= .ok (.value v) w:=run_move hx
theorem aV{x:Operand}(v:Value)(hx:ev σ x=v):(execOp (ev σ) ⟨dst,.assign x,ty,pos,bO,g⟩).run P w= .ok (.value v) w:=run_assign hx
theorem AT(i:Nat)(hi:l[i]?=some ⟨some d,op,ty,pos,bO,none⟩)(hS:S w)(hy:∀w,S w->(execOp (ev σ) ⟨some d,op,ty,pos,bO,none⟩).run P w= .ok (.value v) w)
 (h:AN P n l S k fuel (listed.setIfInBounds i true) (lX σ d v) w) (hd:Nat.blt d n=true:=by rfl) (hs:Region.noSelect l.toArray=true:=by kernel_rfl) (hf:Region.free .any l.toArray listed i=true:=by kernel_rfl)
 (hr:(Region.ready .any l.toArray listed).contains i=true:=by kernel_rfl):AN P n l S k (fuel+1) listed σ w:=by grind[af2]
theorem AG(i:Nat){j dj:Nat}{want:Bool}(hi:l[i]?=some ⟨some d,op,ty,pos,bO,some (j,want)⟩)(hj:(l[j]?).bind (·.dst)=some dj)(hb:σ dj= .bool want)
 (hS:S w) (hy:∀w,S w->(execOp (ev σ) ⟨some d,op,ty,pos,bO,some (j,want)⟩).run P w= .ok (.value v) w)
 (h:AN P n l S k fuel (listed.setIfInBounds i true) (lX σ d v) w) (hd:Nat.blt d n=true:=by rfl) (hs:Region.noSelect l.toArray=true:=by kernel_rfl) (hf:Region.free .any l.toArray listed i=true:=by kernel_rfl)
 (hr:(Region.ready .any l.toArray listed).contains i=true:=by kernel_rfl):AN P n l S k (fuel+1) listed σ w:=by grind[arf]
theorem BQ(i:Nat){j dj:Nat}{want:Bool}(hi:l[i]?=some ⟨some d,op,ty,pos,bO,some (j,want)⟩)(hj:(l[j]?).bind (·.dst)=some dj)(hb:σ dj= .bool want)
 (hS:S w) (hy:∀{w},(execOp (ev σ) ⟨some d,op,ty,pos,bO,some (j,want)⟩).run P w= .ok (.value v) w)
 (h:AN P n l S k fuel (listed.setIfInBounds i true) (lX σ d v) w) (hd:Nat.blt d n=true:=by rfl) (hs:Region.noSelect l.toArray=true:=by kernel_rfl) (hf:Region.free .any l.toArray listed i=true:=by kernel_rfl)
 (hr:(Region.ready .any l.toArray listed).contains i=true:=by kernel_rfl):AN P n l S k (fuel+1) listed σ w:=AG i hi hj hb hS (fun w _=>hy) h hd hs hf hr
theorem AK(i:Nat){j dj:Nat}{b want:Bool}(hi:l[i]?=some ⟨some d,op,ty,pos,bO,some (j,want)⟩)(hj:(l[j]?).bind (·.dst)=some dj)(hb:σ dj= .bool b)(hS:S w)
 (h:AN P n l S k fuel (listed.setIfInBounds i true) (lX σ d undef) w) (hne:(b==want)=false:=by rfl) (hd:Nat.blt d n=true:=by rfl) (hs:Region.noSelect l.toArray=true:=by kernel_rfl) (hf:Region.free .any l.toArray listed i=true:=by kernel_rfl)
 (hr:(Region.ready .any l.toArray listed).contains i=true:=by kernel_rfl):AN P n l S k (fuel+1) listed σ w:=by grind[av7]
theorem AU(i:Nat){j dj:Nat}{want:Bool}(hi:l[i]?=some ⟨some d,op,ty,pos,bO,some (j,want)⟩)(hj:(l[j]?).bind (·.dst)=some dj)(hu:σ dj=undef)(hS:S w)
 (h:AN P n l S k fuel (listed.setIfInBounds i true) (lX σ d undef) w) (hd:Nat.blt d n=true:=by rfl) (hs:Region.noSelect l.toArray=true:=by kernel_rfl) (hf:Region.free .any l.toArray listed i=true:=by kernel_rfl)
 (hr:(Region.ready .any l.toArray listed).contains i=true:=by kernel_rfl):AN P n l S k (fuel+1) listed σ w:=by grind[av8]
theorem AD(h:k σ w)(hr:Region.ready .any l.toArray listed=[]:=by kernel_rfl):AN P n l S k fuel listed σ w:=av6 hr h
theorem A1(i:Nat)(h:AO P n l S k fuel listed σ w i)(hr:Region.ready .any l.toArray listed=[i]:=by kernel_rfl):AN P n l S k (fuel+1) listed σ w:=av9 i hr h
theorem SR{id:Nat}{y:Code}(h:RL P n l.toArray (fun σ w=>CW P n y k xs r σ w) l σ w):CW P n (.seq (.region id l.toArray false) y) k xs r σ w:=ai (au h)
theorem fA{x:Operand}{s i m b o:Nat}{fs:Array Field}{f:Field}(hu:P.underlying s=some (.struct fs))(off:Nat)(hf:fs[i]?=some f)(hs:∀w,(sizeOf f.type).run P w= .ok m w)(hx:ev σ x= .pointer (some ⟨b,o,none⟩))(ho:f.offset=off:=by rfl)(hn:m≠0:=by decide):
 (execOp (ev σ) ⟨dst,.fieldAddr s x i,ty,pos,bO,g⟩).run P w= .ok (.value (.pointer (some ⟨b,o+off,none⟩))) w:=OW hu hf ho hs hn hx
end
theorem sQ{α:Type}{a:α}{l l':List α}(h:l.Sublist l'):l.Sublist (a::l'):= .cons _ h
theorem sP{α:Type}{a:α}{l l':List α}(h:l.Sublist l'):(a::l).Sublist (a::l'):= .cons_cons _ h
theorem sR{α:Type}{l:List α}:l.Sublist l:= .refl _
theorem sA{α:Type}{l l' m:List α}(h:l.Sublist l'):l.Sublist (m++l'):=by grind
theorem pC{α:Type}{a:α}{l l':List α}(h:l.Perm l'):(a::l).Perm (a::l'):= .cons _ h
theorem pR{α:Type}{l:List α}:l.Perm l:= .refl _
theorem pS{α:Type}{a b:α}{l:List α}:(b::a::l).Perm (a::b::l):= .swap _ _ _
theorem z0{α:Type}{a b:α}{l:List α}:(a::l).set 0 b=b::l:=rfl
theorem z1{α:Type}{a b:α}{l:List α}{i:Nat}:(a::l).set (i+1) b=a::l.set i b:=rfl
theorem mT{α:Type}{a b:α}{l:List α}(h:a∈l):a∈b::l:=fX _ h
section
variable{ws:List Nat}{σ σ':Env}{d d1 d2 d3:Nat}{v v1 v2 v3:Value}
theorem Fr.u1(h:Fr ws σ σ')(hd:ws.contains d=true:=by rfl):Fr ws σ (lX σ' d v):=h.u hd
theorem Fr.u4(h:Fr ws σ σ')(hd:ws.contains d=true:=by rfl)(h1:ws.contains d1=true:=by rfl)(h2:ws.contains d2=true:=by rfl)(h3:ws.contains d3=true:=by rfl):Fr ws σ (lX (lX (lX (lX σ' d v) d1 v1) d2 v2) d3 v3):=by grind[Fr,lX]
end
section
variable{P:Program}{n:Nat}{l:List Oper}{S:World->Prop}{k:K}{xs:List (Nat×K)}{r:K}{σ σ':Env}{w:World}{fuel i d:Nat}{listed:Array Bool}{op:Op}{ty:TypeId}{pos:String}{bO:Array Edge}{g:Option (Nat×Bool)}{v:Value}{dst:Option Tmp}{ops:Array Oper}{rest:List Oper}{x:Operand}
theorem va{v:Value}(hx:ev σ x=v)(hk:RL P n ops k rest (lX σ d v) w)(hd:Nat.blt d n=true:=by rfl):RL P n ops k (⟨some d,.assign x,ty,pos,bO,none⟩::rest) σ w:=pn hd (run_assign hx) hk
theorem aE{v:Value}(hx:ev σ x=v)(hk:RL P n ops k rest (lX σ d v) w)(hd:Nat.blt d n=true:=by rfl):RL P n ops k (⟨some d,.move x,ty,pos,bO,none⟩::rest) σ w:=pn hd (run_move hx) hk
theorem aI{a:Int}(hx:ev σ x=I a)(hk:RL P n ops k rest (lX σ d (I a)) w)(hd:Nat.blt d n=true:=by rfl):RL P n ops k (⟨some d,.assign x,ty,pos,bO,none⟩::rest) σ w:=va hx hk hd
theorem aB{a:Bool}(hx:ev σ x=B a)(hk:RL P n ops k rest (lX σ d (B a)) w)(hd:Nat.blt d n=true:=by rfl):RL P n ops k (⟨some d,.assign x,ty,pos,bO,none⟩::rest) σ w:=va hx hk hd
theorem aU{a:BitVec 64}(hx:ev σ x=U a)(hk:RL P n ops k rest (lX σ d (U a)) w)(hd:Nat.blt d n=true:=by rfl):RL P n ops k (⟨some d,.assign x,ty,pos,bO,none⟩::rest) σ w:=va hx hk hd
theorem mI{a:Int}(hx:ev σ x=I a)(hk:RL P n ops k rest (lX σ d (I a)) w)(hd:Nat.blt d n=true:=by rfl):RL P n ops k (⟨some d,.move x,ty,pos,bO,none⟩::rest) σ w:=aE hx hk hd
theorem mB{a:Bool}(hx:ev σ x=B a)(hk:RL P n ops k rest (lX σ d (B a)) w)(hd:Nat.blt d n=true:=by rfl):RL P n ops k (⟨some d,.move x,ty,pos,bO,none⟩::rest) σ w:=aE hx hk hd
theorem mU{a:BitVec 64}(hx:ev σ x=U a)(hk:RL P n ops k rest (lX σ d (U a)) w)(hd:Nat.blt d n=true:=by rfl):RL P n ops k (⟨some d,.move x,ty,pos,bO,none⟩::rest) σ w:=aE hx hk hd
theorem AQ(i:Nat)(hi:l[i]?=some ⟨some d,op,ty,pos,bO,none⟩)(hS:S w)(hy:∀{w},(execOp (ev σ) ⟨some d,op,ty,pos,bO,none⟩).run P w= .ok (.value v) w)
 (h:AN P n l S k fuel (listed.setIfInBounds i true) (lX σ d v) w) (hd:Nat.blt d n=true:=by rfl) (hs:Region.noSelect l.toArray=true:=by kernel_rfl) (hf:Region.free .any l.toArray listed i=true:=by kernel_rfl)
 (hr:(Region.ready .any l.toArray listed).contains i=true:=by kernel_rfl):AN P n l S k (fuel+1) listed σ w:=by grind[af2]
theorem Fr.w1{ws:List Nat}{v1:Value}(h:Fr ws σ σ')(i:Nat)(h1:σ i=v1:=by conv=>lhs;whnf)(c1:ws.contains i=false:=by rfl):σ' i=v1:=(h i c1).trans h1
theorem Fr.t1{ws:List Nat}{v1:Value}(h:Fr ws σ σ')(i:Nat)(h1:σ i=v1)(c1:ws.contains i=false:=by rfl):σ' i=v1:=(h i c1).trans h1
theorem Fr.w2{ws:List Nat}{v1 v2:Value}(h:Fr ws σ σ')(i j:Nat)(h1:σ i=v1:=by conv=>lhs;whnf)(h2:σ j=v2:=by conv=>lhs;whnf)(c1:ws.contains i=false:=by rfl)(c2:ws.contains j=false:=by rfl):σ' i=v1/\σ' j=v2:=⟨(h i c1).trans h1,(h j c2).trans h2⟩
theorem Fr.t2{ws:List Nat}{v1 v2:Value}(h:Fr ws σ σ')(i:Nat)(h1:σ i=v1)(j:Nat)(h2:σ j=v2)(c1:ws.contains i=false:=by rfl)(c2:ws.contains j=false:=by rfl):σ' i=v1/\σ' j=v2:=⟨(h i c1).trans h1,(h j c2).trans h2⟩
theorem Fr.w3{ws:List Nat}{v1 v2 v3:Value}(h:Fr ws σ σ')(i j k:Nat)(h1:σ i=v1:=by conv=>lhs;whnf)(h2:σ j=v2:=by conv=>lhs;whnf)(h3:σ k=v3:=by conv=>lhs;whnf)(c1:ws.contains i=false:=by rfl)(c2:ws.contains j=false:=by rfl)(c3:ws.contains k=false:=by rfl):σ' i=v1/\σ' j=v2/\σ' k=v3:=⟨(h i c1).trans h1,(h j c2).trans h2,(h k c3).trans h3⟩
theorem Fr.t3{ws:List Nat}{v1 v2 v3:Value}(h:Fr ws σ σ')(i:Nat)(h1:σ i=v1)(j:Nat)(h2:σ j=v2)(k:Nat)(h3:σ k=v3)(c1:ws.contains i=false:=by rfl)(c2:ws.contains j=false:=by rfl)(c3:ws.contains k=false:=by rfl):σ' i=v1/\σ' j=v2/\σ' k=v3:=⟨(h i c1).trans h1,(h j c2).trans h2,(h k c3).trans h3⟩
theorem Fr.w4{ws:List Nat}{v1 v2 v3 v4:Value}(h:Fr ws σ σ')(i j k l:Nat)(h1:σ i=v1:=by conv=>lhs;whnf)(h2:σ j=v2:=by conv=>lhs;whnf)(h3:σ k=v3:=by conv=>lhs;whnf)(h4:σ l=v4:=by conv=>lhs;whnf)(c1:ws.contains i=false:=by rfl)(c2:ws.contains j=false:=by rfl)(c3:ws.contains k=false:=by rfl)(c4:ws.contains l=false:=by rfl):σ' i=v1/\σ' j=v2/\σ' k=v3/\σ' l=v4:=⟨(h i c1).trans h1,(h j c2).trans h2,(h k c3).trans h3,(h l c4).trans h4⟩
theorem Fr.t4{ws:List Nat}{v1 v2 v3 v4:Value}(h:Fr ws σ σ')(i:Nat)(h1:σ i=v1)(j:Nat)(h2:σ j=v2)(k:Nat)(h3:σ k=v3)(l:Nat)(h4:σ l=v4)(c1:ws.contains i=false:=by rfl)(c2:ws.contains j=false:=by rfl)(c3:ws.contains k=false:=by rfl)(c4:ws.contains l=false:=by rfl):σ' i=v1/\σ' j=v2/\σ' k=v3/\σ' l=v4:=⟨(h i c1).trans h1,(h j c2).trans h2,(h k c3).trans h3,(h l c4).trans h4⟩
theorem Fr.w5{ws:List Nat}{v1 v2 v3 v4 v5:Value}(h:Fr ws σ σ')(i j k l m:Nat)(h1:σ i=v1:=by conv=>lhs;whnf)(h2:σ j=v2:=by conv=>lhs;whnf)(h3:σ k=v3:=by conv=>lhs;whnf)(h4:σ l=v4:=by conv=>lhs;whnf)(h5:σ m=v5:=by conv=>lhs;whnf)(c1:ws.contains i=false:=by rfl)(c2:ws.contains j=false:=by rfl)(c3:ws.contains k=false:=by rfl)(c4:ws.contains l=false:=by rfl)(c5:ws.contains m=false:=by rfl):σ' i=v1/\σ' j=v2/\σ' k=v3/\σ' l=v4/\σ' m=v5:=⟨(h i c1).trans h1,(h j c2).trans h2,(h k c3).trans h3,(h l c4).trans h4,(h m c5).trans h5⟩
theorem Fr.t5{ws:List Nat}{v1 v2 v3 v4 v5:Value}(h:Fr ws σ σ')(i:Nat)(h1:σ i=v1)(j:Nat)(h2:σ j=v2)(k:Nat)(h3:σ k=v3)(l:Nat)(h4:σ l=v4)(m:Nat)(h5:σ m=v5)(c1:ws.contains i=false:=by rfl)(c2:ws.contains j=false:=by rfl)(c3:ws.contains k=false:=by rfl)(c4:ws.contains l=false:=by rfl)(c5:ws.contains m=false:=by rfl):σ' i=v1/\σ' j=v2/\σ' k=v3/\σ' l=v4/\σ' m=v5:=⟨(h i c1).trans h1,(h j c2).trans h2,(h k c3).trans h3,(h l c4).trans h4,(h m c5).trans h5⟩
theorem Fr.w6{ws:List Nat}{v1 v2 v3 v4 v5 v6:Value}(h:Fr ws σ σ')(i j k l m o:Nat)(h1:σ i=v1:=by conv=>lhs;whnf)(h2:σ j=v2:=by conv=>lhs;whnf)(h3:σ k=v3:=by conv=>lhs;whnf)(h4:σ l=v4:=by conv=>lhs;whnf)(h5:σ m=v5:=by conv=>lhs;whnf)(h6:σ o=v6:=by conv=>lhs;whnf)(c1:ws.contains i=false:=by rfl)(c2:ws.contains j=false:=by rfl)(c3:ws.contains k=false:=by rfl)(c4:ws.contains l=false:=by rfl)(c5:ws.contains m=false:=by rfl)(c6:ws.contains o=false:=by rfl):σ' i=v1/\σ' j=v2/\σ' k=v3/\σ' l=v4/\σ' m=v5/\σ' o=v6:=⟨(h i c1).trans h1,(h j c2).trans h2,(h k c3).trans h3,(h l c4).trans h4,(h m c5).trans h5,(h o c6).trans h6⟩
theorem Fr.ii{ws:List Nat}(h:Fr ws σ σ')(i:Nat){a:Int}(hc:ws.contains i=false)(hv:σ i=E.I a):σ' i=E.I a:=(h i hc).trans hv
theorem Fr.bb{ws:List Nat}(h:Fr ws σ σ')(i:Nat){a:Bool}(hc:ws.contains i=false)(hv:σ i=E.B a):σ' i=E.B a:=(h i hc).trans hv
theorem Fr.ss{ws:List Nat}(h:Fr ws σ σ')(i:Nat){a:ByteArray}(hc:ws.contains i=false)(hv:σ i= .string a):σ' i= .string a:=(h i hc).trans hv
theorem Fr.vv{ws:List Nat}(h:Fr ws σ σ')(i:Nat){a:Value}(hc:ws.contains i=false)(hv:σ i=a):σ' i=a:=(h i hc).trans hv
end
def rg:Nat->Nat->List Nat->List Nat
 |_,0,l=>l
 |a,n+1,l=>a::rg (a+1) n l
theorem lf:(∀(k:IntKind) (n:Int),(Value.int k n).cells.toList=[Value.int k n])/\(∀b:Bool,(Value.bool b).cells.toList=[Value.bool b])/\(∀b:ByteArray,(Value.string b).cells.toList=[Value.string b])/\(∀a:Option Addr,(Value.pointer a).cells.toList=[Value.pointer a])/\(∀(a:Option Addr) (n c:Nat),(Value.slice a n c).cells.toList=[Value.slice a n c])/\(∀l:List Value,(Value.agg l.toArray).cells.toList=l)/\(∀(f:Value->List Value) (a:Value) (l:List Value),(a::l).flatMap f=f a++l.flatMap f)/\(∀f:Value->List Value,([]:List Value).flatMap f=[])/\(∀l:List Value,[]++l=l)/\(∀l:List Value,l++[]=l)/\(∀(a:Value) (l m:List Value),a::l++m=a::(l++m)):=by simp_all[clI,clB,clS,clP,clL,clA]
theorem z2{α:Type}:(∀(a b:α) (l:List α),(a::l).set 0 b=b::l)/\(∀(a b:α) (l:List α) (i:Nat),(a::l).set (i+1) b=a::l.set i b):=⟨fun _ _ _=>rfl,fun _ _ _ _=>rfl⟩
def pull{α:Type}:Nat->List α->List α
 |0,l=>l
 |n+1,a::l=>match pull n l with
  |b::m=>b::a::m
  |[]=>[a]
 |_,[]=>[]
def dx{α:Type}:List Nat->List α->List α
 |[],l=>l
 |n::ns,l=>match pull n l with
  |b::m=>b::dx ns m
  |[]=>[]
theorem ajs{α:Type}:∀(n:Nat) (l:List α),l.Perm (pull n l)
 |0,_=> .refl _
 |n+1,[]=> .refl _
 |n+1,a::l=>by
  have h:=ajs n l
  rw[pull]
  revert h;cases pull n l with
  |nil=>exact fun h=>h.cons a
  |cons b m=>exact fun h=>(h.cons a).trans (.swap _ _ _)
theorem ab6{α:Type}:∀(ns:List Nat) (l:List α),l.Perm (dx ns l)
 |[],_=> .refl _
 |n::ns,l=>by
  have h:=ajs n l
  rw[dx]
  revert h;cases pull n l with
  |nil=>exact fun h=>h
  |cons b m=>exact fun h=>h.trans ((ab6 ns m).cons b)
theorem Hp.pj{w0 w:World}{L:List bu}(h:Hp w0 w L)(ns:List Nat):Hp w0 w (dx ns L):=h.perm (ab6 ns L)
theorem Hp.pk{w0 w:World}{L L':List bu}(h:Hp w0 w L)(ns:List Nat)(e:dx ns L=L':=by conv=>lhs;simp only[dx,pull]):Hp w0 w L':=e▸h.pj ns
section
variable{P:Program}{n:Nat}{ops:Array Oper}{k:K}{rest l:List Oper}{σ:Env}{w0 w:World}{L:List bu}{op:Op}{ty t e:TypeId}{pos:String}{bO:Array Edge}{d:Nat}{v:Value}{x:Operand}{fn:Func}{q:Value->World->Prop}
 {b off:Nat} {c:Array Value} {fr:Nat×Nat} {td:TypeDesc} {fuel:Nat} {listed:Array Bool}
theorem en{f:FuncId}{c:Code}{args:Array Value}(hf:P.funcs[f]?=some fn)(hb:fn.body=some c)(hn:fn.ntmps=n)(h:CW P n c (Out P fn q) [] (Out P fn q) (entry args) w)(ha:Nat.ble args.size n=true:=by rfl):Calls P f args w (jW q):=enter hf hb hn ha h
theorem eH{f:FuncId}{c:Code}{args:Array Value}(hf:P.funcs[f]?=some fn)(hb:fn.body=some c)(hn:fn.ntmps=n)(h:Hp w w []->CW P n c (Out P fn q) [] (Out P fn q) (entry args) w)(ha:Nat.ble args.size n=true:=by rfl):Calls P f args w (jW q):=enter hf hb hn ha (h (Hp.start w))
theorem lJ{o:Obj}(hH:Hp w0 w L)(hr:(execOp (ev σ) ⟨some d,op,ty,pos,bO,none⟩).run P w= .ok (.value (.pointer (some ⟨w.heap.size,0,none⟩))) (w.alloc o))
 (hk:∀b w',Hp w0 w' (.blk b o::L)->RL P n ops k rest (lX σ d (.pointer (some ⟨b,0,none⟩))) w') (hd:Nat.blt d n=true:=by rfl):RL P n ops k (⟨some d,op,ty,pos,bO,none⟩::rest) σ w:=Yx hd hH (f:=fun b=> .pointer (some ⟨b,0,none⟩)) hr hk
theorem gM(hH:Hp w0 w L){v:Value}(hx:ev σ x=v)
 (hk:∀b w',Hp w0 w' (.blk b (.cells v.cells e)::L)->RL P n ops k rest (lX σ d (.pointer (some ⟨b,0,none⟩))) w') (hd:Nat.blt d n=true:=by rfl):RL P n ops k (⟨some d,.box e x,ty,pos,bO,none⟩::rest) σ w:=lJ hH (Ks hx) hk hd
theorem tQ(a m:Nat){o:Obj}(hH:Hp w0 w L)(hr:(execOp (ev σ) ⟨some d,op,ty,pos,bO,none⟩).run P w= .ok (.value (.slice (some ⟨w.heap.size,0,none⟩) a m)) (w.alloc o))
 (hk:∀b w',Hp w0 w' (.blk b o::L)->RL P n ops k rest (lX σ d (.slice (some ⟨b,0,none⟩) a m)) w') (hd:Nat.blt d n=true:=by rfl):RL P n ops k (⟨some d,op,ty,pos,bO,none⟩::rest) σ w:=Yx hd hH (f:=fun b=> .slice (some ⟨b,0,none⟩) a m) hr hk
theorem lV(hu:P.underlying t=some td)(hH:Hp w0 w L)(i:Nat)(hx:ev σ x= .pointer (some ⟨b,off,none⟩))(hi:L[i]?=some (.blk b (.cells c e fr)))(hc:c[off]?=some v)
 (hk:RL P n ops k rest (lX σ d v) w) (hr:td.isRow=false:=by rfl) (hd:Nat.blt d n=true:=by rfl):RL P n ops k (⟨some d,.load t x,ty,pos,bO,none⟩::rest) σ w:=pn hd (aG hu hr hx (hH.cell hi hc)) hk
theorem lI{a:Int}(hu:P.underlying t=some td)(hH:Hp w0 w L)(i:Nat)(hx:ev σ x= .pointer (some ⟨b,off,none⟩))(hi:L[i]?=some (.blk b (.cells c e fr)))(hc:c[off]?=some (I a))
 (hk:RL P n ops k rest (lX σ d (I a)) w) (hr:td.isRow=false:=by rfl) (hd:Nat.blt d n=true:=by rfl):RL P n ops k (⟨some d,.load t x,ty,pos,bO,none⟩::rest) σ w:=pn hd (aG hu hr hx (hH.cell hi hc)) hk
theorem lP{p q:Nat}(hu:P.underlying t=some td)(hH:Hp w0 w L)(i:Nat)(hx:ev σ x= .pointer (some ⟨b,off,none⟩))(hi:L[i]?=some (.blk b (.cells c e fr)))(hc:c[off]?=some (Pn p q))
 (hk:RL P n ops k rest (lX σ d (Pn p q)) w) (hr:td.isRow=false:=by rfl) (hd:Nat.blt d n=true:=by rfl):RL P n ops k (⟨some d,.load t x,ty,pos,bO,none⟩::rest) σ w:=pn hd (aG hu hr hx (hH.cell hi hc)) hk
theorem tV(i:Nat)(hi:l[i]?=some ⟨some d,.load t x,ty,pos,bO,none⟩)(hS:Hp w0 w L)(hu:P.underlying t=some td)(j:Nat)(hx:ev σ x= .pointer (some ⟨b,off,none⟩))(hj:L[j]?=some (.blk b (.cells c e fr)))(hc:c[off]?=some v)
 (h:AN P n l (fun w=>Hp w0 w L) k fuel (listed.setIfInBounds i true) (lX σ d v) w) (ht:td.isRow=false:=by rfl) (hd:Nat.blt d n=true:=by rfl) (hs:Region.noSelect l.toArray=true:=by kernel_rfl) (hf:Region.free .any l.toArray listed i=true:=by kernel_rfl)
 (hr:(Region.ready .any l.toArray listed).contains i=true:=by kernel_rfl):AN P n l (fun w=>Hp w0 w L) k (fuel+1) listed σ w:=af2 i hi hd hs hf hr hS (fun w hS=>aG hu ht hx (hS.cell hj hc)) h
theorem tI{a:Int}(i:Nat)(hi:l[i]?=some ⟨some d,.load t x,ty,pos,bO,none⟩)(hS:Hp w0 w L)(hu:P.underlying t=some td)(j:Nat)(hx:ev σ x= .pointer (some ⟨b,off,none⟩))(hj:L[j]?=some (.blk b (.cells c e fr)))(hc:c[off]?=some (I a))
 (h:AN P n l (fun w=>Hp w0 w L) k fuel (listed.setIfInBounds i true) (lX σ d (I a)) w) (ht:td.isRow=false:=by rfl) (hd:Nat.blt d n=true:=by rfl) (hs:Region.noSelect l.toArray=true:=by kernel_rfl) (hf:Region.free .any l.toArray listed i=true:=by kernel_rfl)
 (hr:(Region.ready .any l.toArray listed).contains i=true:=by kernel_rfl):AN P n l (fun w=>Hp w0 w L) k (fuel+1) listed σ w:=tV i hi hS hu j hx hj hc h ht hd hs hf hr
theorem tP{p q:Nat}(i:Nat)(hi:l[i]?=some ⟨some d,.load t x,ty,pos,bO,none⟩)(hS:Hp w0 w L)(hu:P.underlying t=some td)(j:Nat)(hx:ev σ x= .pointer (some ⟨b,off,none⟩))(hj:L[j]?=some (.blk b (.cells c e fr)))(hc:c[off]?=some (Pn p q))
 (h:AN P n l (fun w=>Hp w0 w L) k fuel (listed.setIfInBounds i true) (lX σ d (Pn p q)) w) (ht:td.isRow=false:=by rfl) (hd:Nat.blt d n=true:=by rfl) (hs:Region.noSelect l.toArray=true:=by kernel_rfl) (hf:Region.free .any l.toArray listed i=true:=by kernel_rfl)
 (hr:(Region.ready .any l.toArray listed).contains i=true:=by kernel_rfl):AN P n l (fun w=>Hp w0 w L) k (fuel+1) listed σ w:=tV i hi hS hu j hx hj hc h ht hd hs hf hr
theorem oB{t:Nat}{a b:Bool}(h:fn.results=#[.tmp t])(he:a=b)(hH:Hp w0 w L)(hs:σ t=B a:=by rfl):Out P fn (fun u w'=>u=B b/\Below w0.heap.size w0 w') σ w:=Gc h (hs.trans (aK B he)) hH.below
theorem oI{t:Nat}{a b:Int}(h:fn.results=#[.tmp t])(he:a=b)(hH:Hp w0 w L)(hs:σ t=I a:=by rfl):Out P fn (fun u w'=>u=I b/\Below w0.heap.size w0 w') σ w:=Gc h (hs.trans (aK I he)) hH.below
theorem oU{t:Nat}{a b:BitVec 64}(h:fn.results=#[.tmp t])(he:a=b)(hH:Hp w0 w L)(hs:σ t=U a:=by rfl):Out P fn (fun u w'=>u=U b/\Below w0.heap.size w0 w') σ w:=Gc h (hs.trans (aK U he)) hH.below
end
end
section
open Go Go.RowKit Go.ChangeShapes Go.WideShapes Go.ChangeAt
theorem Ey{H:Type}{enc:TypeId×Value->H}{P:Program}(hl:laidOutB P=true){W W':World}(hb:Below W.heap.size W W'):
  ∀{ts:List TypeId} {vs:List Value} {ds:List (DataW H)} {p:List MemPlace},(ts.all fun t=>P.readableRec t&&decide (t<P.types.size))=true->(∀x∈p,x.block<W.heap.size)->
   DataW.TrodAll enc P W 0 (fun _=>true) true ts vs ds p->DataW.TrodAll enc P W' 0 (fun b=>decide (b<W.heap.size)) true ts vs ds p
 |[],_,_,_,_,_,h=>by
  obtain⟨rfl,rfl,rfl⟩:=trodAll_nil h
  exact trodAll_mk0
 |t::ts,_,_,_,hr,hlt,h=>by
  obtain⟨v,FH,d,ds1,a,b,rfl,rfl,rfl,h1,h2⟩:=trodAll_cons h
  simp only[List.all_cons,cL,eE]at hr
  exact trodAll_cons_mk (Below.trod hl hr.1.1 hr.1.2 h1 hb fun x hx=>hlt x q5) (Ey hl hb (by simpa using hr.2) (fun x hx=>hlt x q5) h2)
theorem ajt{H:Type}{enc:TypeId×Value->H}{P:Program}{f:FuncId}{fn:Func}{s:ChangeSpec}{W:World}{args:Array Value}{ds gs:List (DataW H)}{before:List MemPlace}{rt:TypeId}
  (hl:laidOutB P=true) (hro:(fn.params.toList.all fun t=>P.readableRec t&&decide (t<P.types.size))=true) (hrt:fn.resultTypes=#[rt]) (axI:P.underlying rt=some .bool) (hvars:s.vars=[])
  (hres:(s.fn H (ds++gs)).results=[.lit (.bool true)]) (hargs:(s.fn H (ds++gs)).args=ds) (hvs:(s.fn H (ds++gs)).vars=[])
  (hW:DataW.Whole enc P fn.params.toList s.vars false W args.toList ds gs before)
  (hc:Calls P f args W (Pure (B true) W)):
  Calls P f args W fun e W'=>∃v,e= .returned v/\s.post enc P fn false true false false W args v W':=by
 refine hc.mono fun e W' hr=> ?_
 cases e with
 |panicked c=>exact hr.elim
 |outgrown=>exact hr.elim
 |returned v=>
  obtain⟨rfl,hb⟩:=hr
  have hW':=hW
  obtain⟨p,q,hA,hV,rfl,_⟩:=hW
  have hlt:∀x∈p,x.block<W.heap.size:=fun x hx=>by simpa using hW'.lt x q5
  refine⟨_,rfl,ds,gs,_,[],p,[],hW',?_,?_,?_,hb.frame _,fun h=>mJ⟩
  .rw[hres,hrt]
   exact trodAll_cons_mk (shut_bool axI _) trodAll_mk0
  .rw[hargs]
   exact Ey hl hb hro hlt hA
  rw[hvs,hvars];rfl
theorem aEs{n:Int}(h:(Lit.int .u64 n).wf=true):∃a:BitVec 64,n=(a.toNat:Int):=by
 simp[Lit.wf,IntKind.min,IntKind.max,IntKind.signed,IntKind.bits]at h
 refine⟨BitVec.ofInt 64 n,?_⟩
 rw[Rf];omega
end
section
open Go Go.RowKit Go.ChangeShapes Go.WideShapes Go.ChangeAt Go.Proofs.YtlhjdflgjbkpmaaGreatDoor.M
theorem ab7{α:Type}(cells:α->List Value)(sz:Nat)(hsz:∀a,(cells a).length=sz):∀(l:List α) (j:Nat) (c:Value),(l.flatMap cells)[j]?=some c->∃i a r,l[i]?=some a/\j=i*sz+r/\r<sz/\(cells a)[r]?=some c
 |[],j,c,h=>by simp at h
 |a::l,j,c,h=>by
  rw[uF]at h
  by_cases hj:j<sz
  .rw[zw (by rw[hsz];exact hj)]at h
   exact⟨0,a,j,rfl,J,hj,h⟩
  rw[ET (by rw[hsz];omega),hsz]at h
  obtain⟨i,b,r,h1,h2,h3,h4⟩:=ab7 cells sz hsz l _ c h
  exact⟨i+1,b,r,Fa,by rw[lm];omega,h3,h4⟩
theorem aju{α:Type}(cells:α->List Value)(sz:Nat)(hsz:∀a,(cells a).length=sz)(l:List α):(l.flatMap cells).length=l.length*sz:=by
 induction l with
 |nil=>simp
 |cons a l ih=>rw[uF,dZ,hsz,ih,fq,lm];omega
theorem qj{α H:Type}{enc:TypeId×Value->H}{P:Program}{w:World}{base:Nat}{sp:Nat->Bool}{held:Bool}{t e:TypeId}{A2:List Value}{x:DataW H×List MemPlace}{fuel sz:Nat}(cells:α->List Value)(ok:α->Prop)
  (hsz:∀a,(cells a).length=sz) (hpos:0<sz) (ht:P.underlying t=some (.slice e)) (hc:P.cellsOf e=sz)
  (hE:∀fuel cs x,DataW.trod enc P w base sp held fuel e cs=some x->∃a,cs=cells a/\ok a) (h:DataW.trod enc P w base sp held fuel t A2=some x):
  ∃(v:Value) (l:List α),A2=[v]/\Sl w v sz l.length (l.flatMap cells)/\(∀a∈l,ok a)/\v.cells=#[v]:=by
 rcases DataW.trod_slice ht h with⟨h1,-⟩|⟨a,len,cap,elems,rest,n,_,rfl,-,hb,hl,hm,hlen,hel,-,-⟩
 .exact⟨_,[],h1,Sl.nil w sz,fun a ha=>by simp at ha,rfl⟩
 have key:∀k,k<=len->∃l:List α,l.length=k/\∀i b,l[i]?=some b->w.cells? base (a.add (i*sz)) sz=some (cells b)/\ok b:=fun k=>by
  induction k with
  |zero=>exact fun _=>⟨[],rfl,fun i b hi=>by simp at hi⟩
  |succ k ih=>
   intro hk
   obtain⟨l,h1,h2⟩:=ih J
   have h3:=hel k J
   rw[eD (by omega:k<elems.length),Option.bind_eq_some_iff,hc]at h3
   obtain⟨cs,h4,h5⟩:=h3
   obtain⟨b,rfl,Xm⟩:=hE _ _ _ h5
   refine⟨l++[b],by simp[h1],fun i c hi=> ?_⟩
   by_cases hik:i<k
   .rw[zw J]at hi;exact h2 i c hi
   have:i=k:=by
    have:=(nX.1 hi).1
    simp[h1]at this;omega
   subst this
   rw[ET J,h1]at hi
   simp at hi;subst hi;exact⟨h4,Xm⟩
 obtain⟨l,h1,h2⟩:=key len (eU _)
 refine⟨_,l,rfl,?_,fun b Xm=> ?_,rfl⟩
 .have apR:0<len->a.spot=none:=fun h0=>by
   have h3:=(h2 0 (l.getD 0 (l[0]'J)) (by rw[eT,eD J];rfl)).1
   have h4:=(World.cells?_some h3).2.2 0 hpos
   rw[Ry]at h4
   have h5:a.add 0=a\/a.spot=none:=by
    unfold Addr.add
    split
    .rename_i hs;exact .inl (by cases a;simp)
    rename_i hs;exact .inr (by cases hq:a.spot with
     |none=>rfl
     |some _=>simp_all)
   have hcs:((cells (l.getD 0 (l[0]'J)))[0]?)≠none:=by
    rw[Ne,List.getElem?_eq_none_iff,hsz];omega
   rcases h5 with h5|h5
   .rw[h5,h5]at h4
    unfold World.cell? at h4
    split at h4
    .split at h4
     .exact absurd h4.symm hcs
     rename_i hns;cases h6:a.spot with
     |none=>rfl
     |some _=>rw[h6]at hns;simp at hns
    exact absurd h4.symm hcs
   exact h5
  have axK:0<len->∀j,a.add j=⟨a.block,a.off+j,none⟩:=fun h0 j=>by
   have:=apR h0
   unfold Addr.add
   cases a;simp_all
  refine⟨⟨some a,cap,by rw[h1],by rw[h1];exact hl,fun h0=> ?_⟩,aju cells sz hsz l,fun j c hj=> ?_,by rw[h1];omega⟩
  .rw[h1]at h0
   have:=apR h0
   cases a;simp_all [sb,so]
  obtain⟨i,b,r,hi,rfl,hr,hbr⟩:=ab7 cells sz hsz l j c hj
  have axL:0<len:=by have:=(nX.1 hi).1;omega
  have h6:=(World.cells?_some (h2 i b hi).1).2.2 r hr
  rw[axK axL,show(⟨a.block,a.off+i*sz,none⟩:Addr).add r=⟨a.block,a.off+i*sz+r,none⟩by simp[Addr.add]]at h6
  show w.cell? ⟨a.block,a.off+(i*sz+r),none⟩=some c
  rw[<-xR,h6,hbr]
 obtain⟨i,hi⟩:=List.getElem?_of_mem Xm
 exact(h2 i b hi).2
end
section
open Go Go.RowKit Go.ChangeShapes Go.WideShapes Go.ChangeAt Go.Deep Go.Proofs.YtlhjdflgjbkpmaaGreatDoor.M
theorem ajv{cs:List Value}(hl:cs.length=8)(h:∀i,i<8->∃a:BitVec 64,cs[i]?=some (U a)):∃e:El,cs=pH e:=by
 have hf:∀i:Nat,∃a:BitVec 64,i<8->cs[i]?=some (U a):=fun i=>by
  by_cases hi:i<8
  .obtain⟨a,ha⟩:=h i hi;exact⟨a,fun _=>ha⟩
  exact⟨0#64,fun h=>absurd h hi⟩
 refine⟨fun i=>(hf i).choose,uf fun j=> ?_⟩
 by_cases hj:j<8
 .rw[(hf j).choose_spec hj];simp[pH,hj]
 rw[oc J,oc (by rw[cY];omega)]
theorem anP(l:List Tx):l.flatMap (fun s=>[Value.string s])=Jy l:=by
 induction l with
 |nil=>rfl
 |cons a l ih=>rw[uF,ih];rfl
structure apS(P:Program)(t ti ta te:TypeId):Prop where
 u:∃f0 f1:Field,P.underlying t=some (.struct #[f0,f1])/\(f0.type=ti/\f0.offset=0)/\(f1.type=ta/\f1.offset=1)
 i:P.underlying ti=some (.int .i64)
 ci:P.cellsOf ti=1
 a:P.underlying ta=some (.array 64 te)
 e:P.underlying te=some (.int .u64)
 ce:P.cellsOf te=1
 ca:P.cellsOf ta=64
 z:P.cellsOf t=65
structure apT(P:Program)(t tk ts tx tr ti ta te:TypeId):Prop where
 r:apS P tr ti ta te
 u:∃f0 f1 f2:Field,P.underlying t=some (.struct #[f0,f1,f2])/\(f0.type=tk/\f0.offset=0)/\(f1.type=ts/\f1.offset=1)/\(f2.type=tr/\f2.offset=2)
 k:P.underlying tk=some (.int .i64)
 ck:P.cellsOf tk=1
 s:P.underlying ts=some (.slice tx)
 cs:P.cellsOf ts=1
 x:P.underlying tx=some .string
 cx:P.cellsOf tx=1
 z:P.cellsOf t=67
structure apU(P:Program)(t tb J9 tf tk ts tx tr ti ta te:TypeId):Prop where
 f:apT P tf tk ts tx tr ti ta te
 u:∃f0 f1:Field,P.underlying t=some (.struct #[f0,f1])/\(f0.type=tb/\f0.offset=0)/\(f1.type=J9/\f1.offset=1)
 b:P.underlying tb=some .bool
 cb:P.cellsOf tb=1
 fs:P.underlying J9=some (.slice tf)
 cfs:P.cellsOf J9=1
 z:P.cellsOf t=2
section
variable{H:Type}{enc:TypeId×Value->H}{P:Program}{w:World}{base:Nat}{sp:Nat->Bool}{held:Bool}{fuel:Nat}{cs:List Value}{x:DataW H×List MemPlace}{t tb J9 tf tk ts tx tr ti ta te:TypeId}
theorem ND{n:Nat}(ht:P.underlying t=some (.array n te))(he:P.underlying te=some (.int .u64))(hc:P.cellsOf te=1)(hz:P.cellsOf t=n)(h:DataW.trod enc P w base sp held fuel t cs=some x):
  cs.length=n/\∀i,i<n->∃a:BitVec 64,cs[i]?=some (U a):=by
 obtain⟨xs,m,-,-,hl,hn,hel⟩:=DataW.trod_array ht h
 refine⟨by rw[hl,hz],fun i hi=> ?_⟩
 have h1:=hel i hi
 rw[hc,lU,eD J]at h1
 obtain⟨k,h2,-,wf⟩:=ug he h1
 obtain⟨a,rfl⟩:=aEs wf
 have h3:((cs.drop i).take 1)[0]?=some (U a):=by rw[h2];rfl
 rw[qS,aX J,B3,Lr]at h3
 exact⟨a,h3⟩
theorem ab8(ht:P.underlying t=some (.array 8 te))(he:P.underlying te=some (.int .u64))(hc:P.cellsOf te=1)(hz:P.cellsOf t=8)(h:DataW.trod enc P w base sp held fuel t cs=some x):∃e:El,cs=pH e/\True:=by
 obtain⟨h1,h2⟩:=ND ht he hc hz h
 obtain⟨e,rfl⟩:=ajv h1 h2
 exact⟨e,rfl,trivial⟩
theorem ajw(T:apS P t ti ta te)(h:DataW.trod enc P w base sp held fuel t cs=some x):∃r:Rl,cs=wH r:=by
 obtain⟨f0,f1,ht,h0,h1⟩:=T.u
 obtain⟨y0,y1,n,-,hl,h2,h3⟩:=trod_struct2 ht h
 rw[h0.1,h0.2,T.ci]at h2
 rw[h1.1,h1.2,T.ca]at h3
 obtain⟨m,h4,-⟩:=ug T.i h2
 obtain⟨h5,h6⟩:=ND T.a T.e T.ce T.ca h3
 rw[T.z]at hl
 have hf:∀i:Nat,∃a:BitVec 64,i<64->cs[i+1]?=some (U a):=fun i=>by
  by_cases hi:i<64
  .obtain⟨a,ha⟩:=h6 i hi
   rw[qS,aX hi,B3,Nat.add_comm]at ha
   exact⟨a,fun _=>ha⟩
  exact⟨0#64,fun h=>absurd h hi⟩
 refine⟨⟨m,fun i=>(hf i).choose⟩,uf fun j=> ?_⟩
 match j with
 |0=>
  have h7:((cs.drop 0).take 1)[0]?=some (I m):=by rw[h4];rfl
  rw[qS,aX J,B3,Lr]at h7
  rw[h7];rfl
 |j+1=>
  by_cases hj:j<64
  .rw[(hf j).choose_spec hj];simp[wH,hj]
  rw[oc J,oc (by rw[pG];omega)]
theorem ajx(T:apT P t tk ts tx tr ti ta te)(h:DataW.trod enc P w base sp held fuel t cs=some x):∃f:qw,cs=sH f/\wJ (Kw w) f:=by
 obtain⟨f0,f1,f2,ht,h0,h1,h2⟩:=T.u
 obtain⟨y0,y1,y2,n,-,hl,h3,h4,h5⟩:=trod_struct3 ht h
 rw[h0.1,h0.2,T.ck]at h3
 rw[h1.1,h1.2,T.cs]at h4
 rw[h2.1,h2.2,T.r.z]at h5
 obtain⟨m,e3,-⟩:=ug T.k h3
 obtain⟨v,l,e4,hs,-,-⟩:=qj (sz:=1) (fun s:Tx=>[Value.string s]) (fun _=>True) (fun _=>rfl) J T.s T.cx (fun _ _ _ hx=>by
  obtain⟨s,e,-⟩:=Lj T.x hx
  exact⟨s,e,trivial⟩) h4
 obtain⟨r,e5⟩:=ajw T.r h5
 rw[anP]at hs
 rw[T.z]at hl
 refine⟨⟨m,v,l,r⟩,?_,⟨hs.slv⟩⟩
 match cs,hl with
 |a::b::c,hl=>
  simp only[fq]at hl
  simp only[Ln,Hy,xK,Ld]at e3 e4 e5
  rw[ji J]at e5
  rw[sH,e5,(List.cons.inj e3).1,(List.cons.inj e4).1]
theorem ajy(T:apU P t tb J9 tf tk ts tx tr ti ta te)(h:DataW.trod enc P w base sp held fuel t cs=some x):∃s:kP,cs=[B s.tuple,s.fv]/\k7 (Kw w) s:=by
 obtain⟨f0,f1,ht,h0,h1⟩:=T.u
 obtain⟨y0,y1,n,-,hl,h2,h3⟩:=trod_struct2 ht h
 rw[h0.1,h0.2,T.cb]at h2
 rw[h1.1,h1.2,T.cfs]at h3
 obtain⟨m,e2,-⟩:=DataW.trod_bool T.b h2
 obtain⟨v,l,e3,hs,hok,-⟩:=qj (sz:=67) sH (wJ (Kw w)) fy J T.fs T.f.z (fun _ _ _ hx=>ajx T.f hx) h3
 rw[T.z]at hl
 refine⟨⟨m,v,l⟩,?_,⟨hs.slv,hok⟩⟩
 match cs,hl with
 |[a,b],_=>
  simp at e2 e3
  rw[e2,e3]
end
section
variable{P:Program}{w:World}{r:Reach}{b0:Nat}{t te:TypeId}{v:Value}
end
structure apV(P:Program)(t tx ti:TypeId):Prop where
 u:∃f0 f1 f2:Field,P.underlying t=some (.struct #[f0,f1,f2])/\(f0.type=tx/\f0.offset=0)/\(f1.type=ti/\f1.offset=1)/\(f2.type=ti/\f2.offset=2)
 x:P.underlying tx=some .string
 cx:P.cellsOf tx=1
 i:P.underlying ti=some (.int .i64)
 ci:P.cellsOf ti=1
 z:P.cellsOf t=3
structure aJZ(P:Program)(t ti:TypeId):Prop where
 u:∃f0 f1:Field,P.underlying t=some (.struct #[f0,f1])/\(f0.type=ti/\f0.offset=0)/\(f1.type=ti/\f1.offset=1)
 i:P.underlying ti=some (.int .i64)
 ci:P.cellsOf ti=1
 z:P.cellsOf t=2
structure apW(P:Program)(t tsh tb J9 tf tk ts tx tr ti ta te:TypeId):Prop where
 s:apU P tsh tb J9 tf tk ts tx tr ti ta te
 u:∃f0 f1:Field,P.underlying t=some (.struct #[f0,f1])/\(f0.type=tx/\f0.offset=0)/\(f1.type=tsh/\f1.offset=1)
 z:P.cellsOf t=3
structure apX(P:Program)(t tls tvs tv tl tsh tb J9 tf tk ts tx tr ti ta te:TypeId):Prop where
 l:apW P tl tsh tb J9 tf tk ts tx tr ti ta te
 v:apV P tv tx ti
 u:∃f0 f1:Field,P.underlying t=some (.struct #[f0,f1])/\(f0.type=tls/\f0.offset=0)/\(f1.type=tvs/\f1.offset=1)
 ls:P.underlying tls=some (.slice tl)
 vs:P.underlying tvs=some (.slice tv)
 cls:P.cellsOf tls=1
 cvs:P.cellsOf tvs=1
 z:P.cellsOf t=2
section
variable{H:Type}{enc:TypeId×Value->H}{P:Program}{w:World}{base:Nat}{sp:Nat->Bool}{held:Bool}{fuel:Nat}{cs:List Value}{x:DataW H×List MemPlace}{t tls tvs tv tl tsh tb J9 tf tk ts tx tr ti ta te:TypeId}
theorem ajz(T:apV P t tx ti)(h:DataW.trod enc P w base sp held fuel t cs=some x):∃v:vN,cs=OU v/\True:=by
 obtain⟨f0,f1,f2,ht,h0,h1,h2⟩:=T.u
 obtain⟨y0,y1,y2,n,-,hl,h3,h4,h5⟩:=trod_struct3 ht h
 rw[h0.1,h0.2,T.cx]at h3
 rw[h1.1,h1.2,T.ci]at h4
 rw[h2.1,h2.2,T.ci]at h5
 obtain⟨a,e3,-⟩:=Lj T.x h3
 obtain⟨b,e4,-⟩:=ug T.i h4
 obtain⟨c,e5,-⟩:=ug T.i h5
 rw[T.z]at hl
 match cs,hl with
 |[u,v,z],_=>
  simp at e3 e4 e5
  exact⟨⟨a,b,c⟩,by rw[e3,e4,e5];rfl,trivial⟩
theorem ajA(T:apW P t tsh tb J9 tf tk ts tx tr ti ta te)(h:DataW.trod enc P w base sp held fuel t cs=some x):∃l:DW,cs=MF l/\k7 (Kw w) l.yK:=by
 obtain⟨f0,f1,ht,h0,h1⟩:=T.u
 obtain⟨y0,y1,n,-,hl,h3,h4⟩:=trod_struct2 ht h
 rw[h0.1,h0.2,T.s.f.cx]at h3
 rw[h1.1,h1.2,T.s.z]at h4
 obtain⟨a,e3,-⟩:=Lj T.s.f.x h3
 obtain⟨s,e4,hs⟩:=ajy T.s h4
 rw[T.z]at hl
 refine⟨⟨a,s⟩,?_,hs⟩
 match cs,hl with
 |[u,v,z],_=>
  simp at e3 e4
  rw[e3,e4.1,e4.2];rfl
theorem ajB(T:apX P t tls tvs tv tl tsh tb J9 tf tk ts tx tr ti ta te)(h:DataW.trod enc P w base sp held fuel t cs=some x):∃s:mv,cs=[s.lv,s.vv]/\DX (Kw w) s:=by
 obtain⟨f0,f1,ht,h0,h1⟩:=T.u
 obtain⟨y0,y1,n,-,hl,h3,h4⟩:=trod_struct2 ht h
 rw[h0.1,h0.2,T.cls]at h3
 rw[h1.1,h1.2,T.cvs]at h4
 obtain⟨v,l,e3,hs,hok,-⟩:=qj (sz:=3) MF (fun l=>k7 (Kw w) l.yK) m9 J T.ls T.l.z (fun _ _ _ hx=>ajA T.l hx) h3
 obtain⟨v2,l2,e4,hs2,-,-⟩:=qj (sz:=3) OU (fun _=>True) tD J T.vs T.v.z (fun _ _ _ hx=>ajz T.v hx) h4
 rw[T.z]at hl
 refine⟨⟨v,l,v2,l2⟩,?_,⟨hs.slv,hs2.slv,hok⟩⟩
 match cs,hl with
 |[a,b],_=>
  simp at e3 e4
  rw[e3,e4]
end
structure ZP(P:Program)(t ti te tu:TypeId):Prop where
 u:∃f0 f1:Field,P.underlying t=some (.struct #[f0,f1])/\(f0.type=ti/\f0.offset=0)/\(f1.type=te/\f1.offset=1)
 i:P.underlying ti=some (.int .i64)
 ci:P.cellsOf ti=1
 e:P.underlying te=some (.array 8 tu)
 hu:P.underlying tu=some (.int .u64)
 cu:P.cellsOf tu=1
 ce:P.cellsOf te=8
 z:P.cellsOf t=9
structure ab9(P:Program)(t ta tx ti te tu:TypeId):Prop where
 a:ZP P ta ti te tu
 u:∃f0 f1:Field,P.underlying t=some (.struct #[f0,f1])/\(f0.type=tx/\f0.offset=0)/\(f1.type=ta/\f1.offset=1)
 x:P.underlying tx=some .string
 cx:P.cellsOf tx=1
 z:P.cellsOf t=10
structure apY(P:Program)(t J9 tf ta tx ti te tu:TypeId):Prop where
 f:ab9 P tf ta tx ti te tu
 u:∃f0 f1:Field,P.underlying t=some (.struct #[f0,f1])/\(f0.type=J9/\f0.offset=0)/\(f1.type=ti/\f1.offset=1)
 fs:P.underlying J9=some (.slice tf)
 cfs:P.cellsOf J9=1
 z:P.cellsOf t=2
structure apZ(P:Program)(t ti te tu:TypeId):Prop where
 u:∃f0 f1 f2:Field,P.underlying t=some (.struct #[f0,f1,f2])/\(f0.type=ti/\f0.offset=0)/\(f1.type=ti/\f1.offset=1)/\(f2.type=te/\f2.offset=2)
 z:P.cellsOf t=10
structure ap0(P:Program)(t tcs tn tr J9 tf ta tx ti te tu:TypeId):Prop where
 r:apY P tr J9 tf ta tx ti te tu
 n:apZ P tn ti te tu
 u:∃f0 f1 f2 f3 f4 f5 f6 f7:Field,P.underlying t=some (.struct #[f0,f1,f2,f3,f4,f5,f6,f7])/\(f0.type=ti/\f0.offset=0)/\(f1.type=ti/\f1.offset=1)/\(f2.type=tcs/\f2.offset=2)/\(f3.type=ta/\f3.offset=3)/\(f4.type=tr/\f4.offset=12)/\(f5.type=tr/\f5.offset=14)/\(f6.type=ti/\f6.offset=16)/\(f7.type=tx/\f7.offset=17)
 cs:P.underlying tcs=some (.slice tn)
 ccs:P.cellsOf tcs=1
 z:P.cellsOf t=18
structure ajC(P:Program)(t tas tss anR anS anT anU anV anW anX anY anZ acd ace acf acg ach ajD tcs tn tr J9 tf ta tx ti te tu:TypeId):Prop where
 a:ap0 P ajD tcs tn tr J9 tf ta tx ti te tu
 s:apX P tss anR anS anT anU anV anW anX anY anZ acd ace acf acg ach tu
 u:∃f0 f1:Field,P.underlying t=some (.struct #[f0,f1])/\(f0.type=tss/\f0.offset=0)/\(f1.type=tas/\f1.offset=2)
 Hx:P.underlying tas=some (.slice ajD)
 cas:P.cellsOf tas=1
 z:P.cellsOf t=3
section
variable{H:Type}{enc:TypeId×Value->H}{P:Program}{w:World}{base:Nat}{sp:Nat->Bool}{held:Bool}{fuel:Nat}{cs:List Value}{x:DataW H×List MemPlace}{t tas ajD tcs tn tr J9 tf ta tx ti te tu tss anR anS anT anU anV anW anX anY anZ acd ace acf acg ach:TypeId}
theorem QC(T:ZP P t ti te tu)(h:DataW.trod enc P w base sp held fuel t cs=some x):∃a:iR,cs=jG a/\True:=by
 obtain⟨f0,f1,ht,h0,h1⟩:=T.u
 obtain⟨y0,y1,n,-,hl,h3,h4⟩:=trod_struct2 ht h
 rw[h0.1,h0.2,T.ci]at h3
 rw[h1.1,h1.2,T.ce]at h4
 obtain⟨b,e3,-⟩:=ug T.i h3
 obtain⟨c,e4,-⟩:=ab8 T.e T.hu T.cu T.ce h4
 rw[T.z]at hl
 match cs,hl with
 |u::cs,hl=>
  simp at e3 hl
  refine⟨⟨b,c⟩,?_,trivial⟩
  rw[Ld,Ln,ji J]at e4
  rw[e3,e4];rfl
theorem ZQ(T:ab9 P t ta tx ti te tu)(h:DataW.trod enc P w base sp held fuel t cs=some x):∃a:lC,cs=uw a/\True:=by
 obtain⟨f0,f1,ht,h0,h1⟩:=T.u
 obtain⟨y0,y1,n,-,hl,h3,h4⟩:=trod_struct2 ht h
 rw[h0.1,h0.2,T.cx]at h3
 rw[h1.1,h1.2,T.a.z]at h4
 obtain⟨b,e3,-⟩:=Lj T.x h3
 obtain⟨c,e4,-⟩:=QC T.a h4
 rw[T.z]at hl
 match cs,hl with
 |u::cs,hl=>
  simp at e3 hl
  refine⟨⟨b,c⟩,?_,trivial⟩
  rw[Ld,Ln,ji J]at e4
  rw[e3,e4];rfl
theorem QD(T:apY P t J9 tf ta tx ti te tu)(h:DataW.trod enc P w base sp held fuel t cs=some x):∃r:Bx,cs=Sy r/\Y4 (Kw w) r:=by
 obtain⟨f0,f1,ht,h0,h1⟩:=T.u
 obtain⟨y0,y1,n,-,hl,h3,h4⟩:=trod_struct2 ht h
 rw[h0.1,h0.2,T.cfs]at h3
 rw[h1.1,h1.2,T.f.a.ci]at h4
 obtain⟨v,l,e3,hs,-,-⟩:=qj (sz:=10) uw (fun _=>True) sJ J T.fs T.f.z (fun _ _ _ hx=>ZQ T.f hx) h3
 obtain⟨b,e4,-⟩:=ug T.f.a.i h4
 rw[T.z]at hl
 refine⟨⟨v,l,b⟩,?_,⟨hs.slv⟩⟩
 match cs,hl with
 |[a,c],_=>
  simp at e3 e4
  rw[e3,e4];rfl
theorem ajE(A:ZP P ta ti te tu)(T:apZ P t ti te tu)(h:DataW.trod enc P w base sp held fuel t cs=some x):∃a:dU,cs=j9 a/\True:=by
 obtain⟨f0,f1,f2,ht,h0,h1,h2⟩:=T.u
 obtain⟨y0,y1,y2,n,-,hl,h3,h4,h5⟩:=trod_struct3 ht h
 rw[h0.1,h0.2,A.ci]at h3
 rw[h1.1,h1.2,A.ci]at h4
 rw[h2.1,h2.2,A.ce]at h5
 obtain⟨a,e3,-⟩:=ug A.i h3
 obtain⟨b,e4,-⟩:=ug A.i h4
 obtain⟨c,e5,-⟩:=ab8 A.e A.hu A.cu A.ce h5
 rw[T.z]at hl
 match cs,hl with
 |u::v::cs,hl=>
  simp at e3 e4 hl
  refine⟨⟨a,b,c⟩,?_,trivial⟩
  rw[Ld,Ld,Ln,ji J]at e5
  rw[e3,e4,e5];rfl
theorem ajF(T:ap0 P t tcs tn tr J9 tf ta tx ti te tu)(h:DataW.trod enc P w base sp held fuel t cs=some x):∃a:iU,cs=vP a/\JZ (Kw w) a:=by
 obtain⟨f0,f1,f2,f3,f4,f5,f6,f7,ht,h0,h1,h2,h3,h4,h5,h6,h7⟩:=T.u
 obtain⟨xs,n,hfu,rfl,hl,hlen,hf⟩:=DataW.trod_struct ht h
 have g0:=hf 0 f0 O
 have g1:=hf 1 f1 O
 have g2:=hf 2 f2 O
 have g3:=hf 3 f3 O
 have g4:=hf 4 f4 O
 have g5:=hf 5 f5 O
 have g6:=hf 6 f6 O
 have g7:=hf 7 f7 O
 match xs,hlen with
 |[y0,y1,y2,y3,y4,y5,y6,y7],_=>
  simp only[List.getElem?_cons_zero,List.getElem?_cons_succ]at g0 g1 g2 g3 g4 g5 g6 g7
  rw[h0.1,h0.2,T.r.f.a.ci]at g0
  rw[h1.1,h1.2,T.r.f.a.ci]at g1
  rw[h2.1,h2.2,T.ccs]at g2
  rw[h3.1,h3.2,T.r.f.a.z]at g3
  rw[h4.1,h4.2,T.r.z]at g4
  rw[h5.1,h5.2,T.r.z]at g5
  rw[h6.1,h6.2,T.r.f.a.ci]at g6
  rw[h7.1,h7.2,T.r.f.cx]at g7
  obtain⟨op,e0,-⟩:=ug T.r.f.a.i g0
  obtain⟨a8,e1,-⟩:=ug T.r.f.a.i g1
  obtain⟨cv,code,e2,hc,-,-⟩:=qj (sz:=10) j9 (fun _=>True) gO J T.cs T.n.z (fun _ _ _ hx=>ajE T.r.f.a T.n hx) g2
  obtain⟨to,e3,-⟩:=QC T.r.f.a g3
  obtain⟨a,e4,ha⟩:=QD T.r g4
  obtain⟨b,e5,hb⟩:=QD T.r g5
  obtain⟨var,e6,-⟩:=ug T.r.f.a.i g6
  obtain⟨field,e7,-⟩:=Lj T.r.f.x g7
  rw[T.z]at hl
  refine⟨⟨op,a8,cv,code,to,a,b,var,field⟩,?_,⟨hc.slv,ha,hb⟩⟩
  match cs,hl with
  |[u0,u1,u2,v0,v1,v2,v3,v4,v5,v6,v7,v8,a0,a1,b0,b1,z0,z1],_=>
   simp[Sy]at e0 e1 e2 e3 e4 e5 e6 e7
   rw[e0,e1,e2,e4.1,e4.2,e5.1,e5.2,e6,e7]
   show _=I op::I a8::cv::(jG to++_)
   rw[<-e3];rfl
theorem aer(T:ajC P t tas tss anR anS anT anU anV anW anX anY anZ acd ace acf acg ach ajD tcs tn tr J9 tf ta tx ti te tu)(h:DataW.trod enc P w base sp held fuel t cs=some x):∃p:pI,cs=yO p/\A9 (Kw w) p:=by
 obtain⟨f0,f1,ht,h0,h1⟩:=T.u
 obtain⟨y0,y1,n,-,hl,h3,h4⟩:=trod_struct2 ht h
 rw[h0.1,h0.2,T.s.z]at h3
 rw[h1.1,h1.2,T.cas]at h4
 obtain⟨s,e3,hs⟩:=ajB T.s h3
 obtain⟨v,l,e4,ha,hok,-⟩:=qj (sz:=18) vP (fun x=>JZ (Kw w) x) yN J T.Hx T.a.z (fun _ _ _ hx=>ajF T.a hx) h4
 rw[T.z]at hl
 refine⟨⟨s,v,l⟩,?_,⟨hs,ha.slv,hok⟩⟩
 match cs,hl with
 |[a,b,c],_=>
  simp at e3 e4
  rw[e3.1,e3.2,e4];rfl
theorem aes{r:Reach}{b0:Nat}{v:Value}{d:DataW H}{ps:List MemPlace}(T:ajC P t tas tss anR anS anT anU anV anW anX anY anZ acd ace acf acg ach ajD tcs tn tr J9 tf ta tx ti te tu)(hval:Value.okWide P w r b0 t v)(hd:DataW.Trod enc P w base sp held t v d ps):∃p:pI,v= .agg (yO p).toArray/\A9 (Kw w) p:=by
 obtain⟨f0,f1,ht,-⟩:=T.u
 obtain⟨cs,rfl,-⟩:=okWide_struct ht hval
 obtain⟨fuel,h⟩:=hd
 obtain⟨s,h1,h2⟩:=aer T h
 refine⟨s,?_,h2⟩
 congr 1
 exact RD h1
end
end
end Go.Proofs.YtlhjdflgjbkpmaaGreatDoor.E

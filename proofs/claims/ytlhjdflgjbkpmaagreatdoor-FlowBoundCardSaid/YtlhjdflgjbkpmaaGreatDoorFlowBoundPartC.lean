/- Part 3 of the proof of FlowBound: its plain laws and the walks of its functions. -/
import Derived.Test.YtlhjdflgjbkpmaaGreatDoorFlowBoundPartB
set_option linter.all false
namespace Go.Proofs.YtlhjdflgjbkpmaaGreatDoor.E
section
open Go Go.RowKit Go.Proofs.YtlhjdflgjbkpmaaGreatDoor.M
def ait:Value->Bool
 | .nilFunc=>false
 |_=>true
section
variable{P:Program}{σ:Env}{w w':World}{dst:Option Tmp}{t ty u:TypeId}{pos:String}{bK:Array Edge}{g:Option (Nat×Bool)}{x y:Operand}{v:Value}
theorem adY(d:Nat){ps rs:Array TypeId}{vr:Bool}(ht:P.underlying t=some (.func ps rs vr)):(Op.equalIn (d+1) t .nilFunc .nilFunc).run P w= .ok true w:=by
 simp[Op.equalIn,kr ht]
theorem adZ{ps rs:Array TypeId}{vr:Bool}(hv:v= .nilFunc\/∃f b c,v= .func f b c)(ht:P.underlying t=some (.func ps rs vr))(hx:ev σ x=v)(hy:ev σ y= .nilFunc):
  (execOp (ev σ) ⟨dst,.binOp .neq t x y u,ty,pos,bK,g⟩).run P w= .ok (.value (.bool (ait v))) w:=by
 rcases hv with rfl|⟨f,b,c,rfl⟩
 .have h:(binOp .neq t .nilFunc .nilFunc).run P w= .ok (.bool false) w:=by
   simp only[binOp];simp[Op.equal,Op.maxDepth,adY 9999 ht]
  have he:(eqGuard .neq t x y .nilFunc .nilFunc)=pure ():=rfl
  simp only[execOp,hx,hy,he];simp[h,ait]
 exact U7 ht hx hy
theorem Zm{f:FuncId}{r v1:Value}{x1:Operand}{ats:Array TypeId}(hf:∀args w,(callFunc f args).run P w= .ok (.enter f args) w)(hx:ev σ x= .func (.func f) #[r] #[])(h1:ev σ x1=v1):
  (execOp (ev σ) ⟨dst,.call {callee:= .value x,args:=#[x1],argTypes:=ats},ty,pos,bK,g⟩).run P w= .ok (.enter f #[r,v1]) w:=by
 subst h1
 simp[execOp,resolve,hx,Deferred.ofValue,invoke,hf]
theorem ad0{fn:Fn}{v1:Value}{x1:Operand}(h:ev σ x1=v1):(execOp (ev σ) ⟨dst,.makeFunc fn #[x1] #[],ty,pos,bK,g⟩).run P w= .ok (.value (.func fn #[v1] #[])) w:=by
 subst h;simp[execOp,Instr.makeFunc]
end
theorem Gz{T:On}{K:Vu}{ids:List Nat}{tl:List (Nat×Rl)}{x:pg}(h:WU T K ids tl x):∀u∈(WT x).toArray,u.oneCell'=true:=by
 intro u hu
 obtain⟨f,g,k,a,b,c,e1,e2,e3⟩:=h.ops.one
 simp only[WT,zv,K7,cQ,eI,Hw,BO]at hu
 rcases hu with(rfl|rfl)|(rfl|rfl|rfl)|hu
 .rfl
 .exact(ou h.zx.aL).1
 .rw[e1];rfl
 .rw[e2];rfl
 .rw[e3];rfl
 exact wH x.low u qy
theorem Qj{P p:kW}(h:P.sh=⟨true,AB [p]⟩):P.aL.map qk.fc=p.aL.map qk.fc:=by
 have hq:=aJ Sh.aL h
 simp only[AB,tS,List.flatMap_nil,lY]at hq
 exact hq
theorem ana{P p:kW}(h:P.sh=⟨true,AB [p]⟩)(h1:p.aL.length<=1000)(h2:∀f∈p.aL,f.names.length<=1000):P.aL.length<=1000/\∀f∈P.aL,f.names.length<=1000:=by
 have hq:=Qj h
 refine⟨?_,fun f hf=> ?_⟩
 .have:=aJ List.length hq;rw[gB,gB]at this;omega
 have hm:f.fc∈p.aL.map qk.fc:=hq▸fX.2 ⟨f,hf,rfl⟩
 obtain⟨f2,h3,e⟩:=fX.1 hm
 have:=h2 f2 h3
 have e2:f2.names=f.names:=aJ Fc.names e
 rwa[e2]at this
theorem VB{f:Value}{s:NP}{x:pg}:iD [(f,.aX s.au.length)] s {s with au:=s.au++[x]}:=
 iD.one (by simp only[vp];rw[uH]) (by show s.au.length<=(s.au++[x]).length;simp)
theorem Hp.us2{w0 w:World}{A Z B C U L:List a7}(h:Hp w0 w (A++(Z++(B++(C++(U++L)))))):Hp w0 w (A++(U++(Z++(B++(C++L))))):=h.perm (uE A (by
 rw[show Z++(B++(C++(U++L)))=(Z++(B++C))++(U++L)by simp only[dG],show U++(Z++(B++(C++L)))=U++((Z++(B++C))++L)by simp only[dG]]
 exact wu _ _ _))
theorem Hp.us3{w0 w:World}{A Z B C D U L:List a7}(h:Hp w0 w (A++(Z++(B++(C++(D++(U++L))))))):Hp w0 w (A++(U++(Z++(B++(C++(D++L)))))):=h.perm (uE A (by
 rw[show Z++(B++(C++(D++(U++L))))=(Z++(B++(C++D)))++(U++L)by simp only[dG],show U++(Z++(B++(C++(D++L))))=U++((Z++(B++(C++D)))++L)by simp only[dG]]
 exact wu _ _ _))
theorem Hp.us4{w0 w:World}{A Z B C D E U L:List a7}(h:Hp w0 w (A++(Z++(B++(C++(D++(E++(U++L)))))))):Hp w0 w (A++(U++(Z++(B++(C++(D++(E++L))))))):=h.perm (uE A (by
 rw[show Z++(B++(C++(D++(E++(U++L)))))=(Z++(B++(C++(D++E))))++(U++L)by simp only[dG],show U++(Z++(B++(C++(D++(E++L)))))=U++((Z++(B++(C++(D++E))))++L)by simp only[dG]]
 exact wu _ _ _))
theorem Vs.snoc{T:On}{K:Vu}{ids:List Nat}{tl:List (Nat×Rl)}{l:List pg}{x:pg}(h:Vs T K ids tl l)(hx:WU T K ids tl x):Vs T K ids tl (l++[x]):=fun y hy=>by
 rcases eI.1 hy with q|q
 .exact h y q
 rw[dY.1 q];exact hx
theorem aiu{K:Vu}{p:kW}(h:ld K p):∀u∈(zv p).toArray,u.oneCell'=true:=by
 intro u hu
 simp only[zv,K7,cQ,Hw,BO]at hu
 rcases hu with rfl|rfl
 .rfl
 exact(ou h.aL).1
theorem asv(x:pg):((WT x).drop 5).take 8=s8 x.low:=by
 show(s8 x.low).take 8=_
 exact iV (by rw[fK];exact er _)
def shL(au:List pg)(k:Int):Sh:=(au.getD k.toNat o3).p.sh
def ofB(aX:List Int)(v x:Int):Bool:=decide (0<=v/\v<aX.length/\aX.getD v.toNat 0=x)
def Fl(au:List pg)(aX:List Int)(k:Int)(x:dz):Bool:=(!decide (x.op=1)||ofB aX x.n k)&&(!decide (x.op=2)||cF (shL au k) x.c)
def M1(au:List pg)(aX:List Int)(k:Int)(t:iw):Bool:=if t.var<0 then cF (shL au k) t.c else ofB aX t.var k
def vY(au:List pg)(aX:List Int)(k:Int)(l:List dz)(t:iw):Bool:=decide (0<=k/\k<au.length)&&gq l&&(l.all (Fl au aX k)&&M1 au aX k t)
section
variable{au:List pg}{aX:List Int}{k q:Int}{l:List dz}{t:iw}{x:dz}
theorem M3(h:¬(0<=k/\k<au.length)):vY au aX k l t=false:=by grind[vY]
theorem aiv(h:gq l=false):vY au aX k l t=false:=by grind[vY]
theorem VC(h0:0<=q)(h1:q<l.length)(h:Fl au aX k (l.getD q.toNat cB)=false):vY au aX k l t=false:=by grind[Fl,dh,vY]
theorem M4(h1:0<=k/\k<au.length)(h2:gq l=true)(h3:¬q<l.length)(hg:∀j:Int,0<=j->j<q->Fl au aX k (l.getD j.toNat cB)=true):vY au aX k l t=M1 au aX k t:=by grind[Fl,List.all_eq_true,List.mem_iff_getElem,Int.toNat_natCast,getD_eq,vY]
theorem aiw(h:x.op=1)(h2:¬(0<=x.n/\x.n<aX.length/\aX.getD x.n.toNat 0=k)):Fl au aX k x=false:=by grind[Fl,ofB]
theorem aix(h:x.op=2)(h2:cF (shL au k) x.c=false):Fl au aX k x=false:=by grind[Fl]
theorem Cx(h1:¬x.op=1\/(0<=x.n/\x.n<aX.length/\aX.getD x.n.toNat 0=k))(h2:¬x.op=2\/cF (shL au k) x.c=true):Fl au aX k x=true:=by grind[ofB,cF,shL,Fl]
theorem anb(h:t.var<0):M1 au aX k t=cF (shL au k) t.c:=aS h
theorem anc(h:¬t.var<0):M1 au aX k t=decide (0<=t.var/\t.var<aX.length/\aX.getD t.var.toNat 0=k):=aR h
end
theorem M5{α:Type}{l:List α}{a d:α}{i:Nat}:(l++[a]).getD i d=if i<l.length then l.getD i d else if i=l.length then a else d:=by grind
theorem oa{α:Type}{l:List α}{a d:α}{i:Nat}(h:i<l.length):(l++[a]).getD i d=l.getD i d:=by grind
theorem sq{α:Type}{l:List α}{a d:α}{i:Nat}(h:i=l.length):(l++[a]).getD i d=a:=by grind
def qn(s:NP)(l:Int)(e:El):NP:={s with aX:=s.aX++[l],aj:=s.aj++[e],a6:=s.a6++[0],us:=s.us++[[]],cs:=Sw s.cs}
def Fm(i:Int)(u:List (List Int))(v:Int):List (List Int):=u.set v.toNat (u.getD v.toNat []++[i])
theorem po{i:Int}:∀{l:List Int} {u:List (List Int)},(l.foldl (Fm i) u).length=u.length
 |[],u=>rfl
 |v::l,u=>by rw[rA,po];simp[Fm]
theorem Cy{i:Int}:∀{l:List Int} {u:List (List Int)} {k:Nat},l.Nodup->(∀v∈l,0<=v/\v<u.length)->(l.foldl (Fm i) u).getD k []=u.getD k []++if(k:Int)∈l then[i]else[]
 |[],u,k,_,_=>by simp
 |v::l,u,k,hn,hl=>by
  obtain⟨n1,n2⟩:=nP.1 hn
  have h0:=hl v aF
  rw[rA,Cy n2 fun x hx=>by have:=hl x (fC _ hx);simp only[Fm,m9];exact this]
  unfold Fm
  rw[eS,pD]
  by_cases c:v.toNat=k
  .have e:(k:Int)=v:=J
   rw[aS c,aS J,e,aR n1,aS aF,lY,c];rfl
  have e:¬(k:Int)=v:=J
  rw[aR c,<-eS]
  congr 1
  simp only[cQ,e,false_or]
def A7(s:NP)(q:dw):NP:={s with qs:=s.qs++[q],us:=q.vars.foldl (Fm s.qs.length) s.us}
theorem aiy{cs:List (List Nat)}(h:0<cs.length):(Cl (Sw cs) ((cs.length:Int)-1)).1=cs:=by
 unfold Cl Sw
 rw[aR (by simp only[eR];omega),show((bq cs++[(bq cs).length])::cs).length-1-(max 0 ((cs.length:Int)-1)).toNat=1 by simp only[eR];omega]
 rfl
theorem aiz{f:Value}{s:NP}{l:Int}{e:El}(h1:s.aX.length=s.aj.length)(h2:s.a6.length=s.aj.length)(h3:s.us.length=s.aj.length)(h4:0<s.cs.length):iD [(f,.var s.aj.length ((s.cs.length:Int)-1))] s (qn s l e):=by
 refine iD.one ?_ ⟨by simp[qn];omega,by simp[qn],by simp[qn];omega,by simp[qn];omega⟩
 simp only[vp,qn]
 rw[aiy h4,uH,show(s.aX++[l]).take s.aj.length=s.aX by rw[<-h1,uH],show(s.a6++[(0:BitVec 64)]).take s.aj.length=s.a6 by rw[<-h2,uH],show(s.us++[([]:List Int)]).take s.aj.length=s.us by rw[<-h3,uH]]
theorem Hp.aEb{w0 w:World}{A B U R L:List a7}{x:a7}(h:Hp w0 w (x::(A++(B++((U++R)++L))))):Hp w0 w (A++((U++[x])++(R++(B++L)))):=by
 refine h.perm ((EH (l₁:=A)).symm.trans (uE A ?_))
 have h1:(B++((U++R)++L)).Perm (U++(R++(B++L))):=by
  rw[<-dG U R]
  exact wu _ _ _
 refine(h1.cons x).trans ?_
 rw[dG]
 exact EH.symm
theorem aiA{us:List jM}{u:List (List Int)}(h:pO us=u):pO (us++[cY])=u++[[]]:=by grind[pO,cY]
theorem M6(l:List dz):∀u∈l.flatMap j6,u.oneCell'=true:=by grind[yd]
theorem ad1{au:List pg}{aX:List Int}{k:Int}{l:List dz}{t:iw}(h:vY au aX k l t=true):∀v∈bS l,0<=v/\v<aX.length:=by grind[ow,vY,Fl,ofB]
theorem VD(l:List dz):(bS l).Nodup:=(Fj l).imp fun h=>by omega
theorem IL:∀{l:List Int} {u:List (List Int)},(l.foldl Gx u).length=u.length
 |[],u=>rfl
 |v::l,u=>by rw[rA,IL];simp[Gx]
theorem Qk:∀{l:List Int} {u:List (List Int)} {k:Nat},l.Nodup->(∀v∈l,0<=v/\v<u.length)->(l.foldl Gx u).getD k []=if(k:Int)∈l then(u.getD k []).dropLast else u.getD k []
 |[],u,k,_,_=>by simp
 |v::l,u,k,hn,hl=>by
  obtain⟨n1,n2⟩:=nP.1 hn
  have h0:=hl v aF
  rw[rA,Qk n2 fun x hx=>by have:=hl x (fC _ hx);simp only[Gx,m9];exact this]
  have e0:(Gx u v).getD k []=if v.toNat=k then(u.getD k []).dropLast else u.getD k []:=by
   unfold Gx
   rw[eS,pD]
   by_cases c:v.toNat=k
   .rw[aS c,aS J,aS c,c];rfl
   rw[aR c,aR c,<-eS]
  rw[e0]
  by_cases c:v.toNat=k
  .have e:(k:Int)=v:=J
   rw[aS c,e,aR n1,aS aF]
  have e:¬(k:Int)=v:=J
  rw[aR c]
  simp only[cQ,e,false_or]
theorem aiB{i:Int}{l:List Int}{u:List (List Int)}(hn:l.Nodup)(hl:∀v∈l,0<=v/\v<u.length):l.foldl Gx (l.foldl (Fm i) u)=u:=by
 apply tj
 intro k
 by_cases c:k<u.length
 .have h1:=Qk (k:=k) (u:=l.foldl (Fm i) u) hn fun v hv=>by rw[po];exact hl v hv
  rw[Cy hn hl]at h1
  have lk:k<(l.foldl Gx (l.foldl (Fm i) u)).length:=by rw[IL,po];exact c
  rw[getD_eq lk,getD_eq c]at h1
  rw[ep lk,ep c,h1]
  by_cases q:(k:Int)∈l
  .rw[aS q,aS q,List.dropLast_concat]
  rw[aR q,aR q,lY]
 rw[ny (by rw[IL,po];omega),ny J]
theorem aiC{f:Value}{s:NP}{q:dw}(hn:q.vars.Nodup)(hl:∀v∈q.vars,0<=v/\v<s.us.length):iD [(f,.add s.qs.length q)] s (A7 s q):=by
 refine iD.one ?_ ⟨by simp[A7],hn,fun v hv=> ?_⟩
 .simp only[vp,A7]
  rw[uH,aiB hn hl]
 have h0:=hl v hv
 refine⟨h0.1,by simp only[A7];rw[po];exact h0.2,?_⟩
 simp only[A7]
 rw[Cy hn hl,aS (by rw[fW h0.1];exact hv)]
 simp
theorem ane{i:Int}{l:List Int}{u:List (List Int)}{k b:Nat}(hn:l.Nodup)(hl:∀v∈l,0<=v/\v<u.length)(h:(u.getD k []).length<=b):((l.foldl (Fm i) u).getD k []).length<=b+1:=by grind[Cy]
theorem Hp.aEc{w0 w:World}{A B U Q R L:List a7}(h:Hp w0 w (A++(B++(U++(Q++(R++L)))))):Hp w0 w (A++(U++(R++(B++(Q++L))))):=by
 refine h.perm (uE A ?_)
 refine(wu B U _).trans (uE U ?_)
 rw[<-dG,<-dG B Q L]
 exact wu _ _ _
structure mj(S:Sys)(Q:Nat->tg)(y:Nat->BitVec 64)(N:Nat)(M:Qm)(v:Va)(ws:Nat->BitVec 64)(rep:Nat->Nat)(P:Nat->Prop):Prop where
 ok:∀i,i<N->ud S (Q i)/\M (y i) (Q i)
 all:∀a q,M a q->∃i,i<N/\q=Q i
 mok:adR M
 low:Cq S (fun q=>∃i,i<N/\q=Q i) v
 why:Fh S M v ws
 ring:∀i k,i<S.n->k<S.n->rep i=rep k->S.sh i=S.sh k/\rC (v i) (v k)/\ws i=ws k/\qb S (M (ws i)) fun j=>j<S.n/\rep j=rep i
 hold:∀i,i<N->¬P i->e8 (Q i) v
section
variable{S:Sys}{Q:Nat->tg}{y:Nat->BitVec 64}{N:Nat}{M:Qm}{v:Va}{ws:Nat->BitVec 64}{rep:Nat->Nat}{P P':Nat->Prop}{i k:Nat}{W:BitVec 64}
theorem qb.more{Q Q':tg->Prop}{C:Nat->Prop}(h:qb S Q C)(hq:∀q,Q q->Q' q):qb S Q' C:=fun u hu=>h u (hu.less hq)
theorem mj.aiD(h:mj S Q y N M v ws rep P)(hp:∀i,i<N->P i->P' i):mj S Q y N M v ws rep P':=⟨h.ok,h.all,h.mok,h.low,h.why,h.ring,fun i hi hn=>h.hold i hi fun q=>hn (hp i hi q)⟩
theorem mj.look(h:mj S Q y N M v ws rep P)(hh:e8 (Q i) v):mj S Q y N M v ws rep fun j=>P j/\j≠i:=⟨h.ok,h.all,h.mok,h.low,h.why,h.ring,fun j hj hn=>by
 by_cases e:j=i
 .subst e;exact hh
 exact h.hold j hj fun q=>hn ⟨q,e⟩⟩
theorem mj.raise(h:mj S Q y N M v ws rep P)(hi:i<N)(hk:(Q i).to=some k)(hW1:dX (ws k) W=true)(hW2:dX (OC (y i) ws (Q i).vars) W=true)
  (hP:∀j,j<N->j≠i->P j->P' j) (hU:∀j,j<N->∀x,x∈(Q j).vars->rep x=rep k->¬rC (v x) (fH (Q i).sh (v k) ((Q i).ev v))->P' j):
  mj S Q y N M (qP v (fun j=>j<S.n/\rep j=rep k) (fH (Q i).sh (v k) ((Q i).ev v))) (Fi ws (fun j=>j<S.n/\rep j=rep k) W) rep P':=by
 obtain⟨ho,hy⟩:=h.ok i hi
 obtain⟨k1,k2⟩:=ho.to k hk
 have hmem:(fun q=>∃i,i<N/\q=Q i) (Q i):=⟨i,hi,rfl⟩
 have hr:=h.ring k k k1 k1 O
 have hl:=h.low.lub hmem ho hk
 have hRQ:qb S (fun q=>∃i,i<N/\q=Q i) fun j=>j<S.n/\rep j=rep k:=hr.2.2.2.more fun q hq=>h.all _ q hq
 have hsh:∀j,(j<S.n/\rep j=rep k)->S.sh j=S.sh k:=fun j hj=>(h.ring j k hj.1 k1 hj.2).1
 have Yr:=h.low.ring hRQ (fun j hj=>hj.1) (k:=k) ⟨k1,rfl⟩ hsh hl.1 hl.2
 have asx:=h.why.raise h.mok h.low.fit ho hk hy hr.2.2.2 ⟨k1,rfl⟩ hW1 hW2
 have hup:∀j,j<S.n->cT (v j) (qP v (fun j=>j<S.n/\rep j=rep k) (fH (Q i).sh (v k) ((Q i).ev v)) j)=true:=fun j hj=>by
  unfold qP
  by_cases c:j<S.n/\rep j=rep k
  .rw[aS c]
   have e:=(h.ring j k hj k1 c.2).2.1
   have fk:=h.low.fit k k1
   rw[k2]at fk
   exact fg (kS e) (YC fk (ho.fit v h.low.fit)).1
  rw[aR c];exact jR _
 refine⟨h.ok,h.all,h.mok,Yr,asx,fun a b ha hb hab=> ?_,fun j hj hn=> ?_⟩
 .have hra:=h.ring a b ha hb hab
  unfold qP Fi
  by_cases c:a<S.n/\rep a=rep k
  .have c2:b<S.n/\rep b=rep k:=⟨hb,hab▸c.2⟩
   rw[aS c,aS c2,aS c,aS c2]
   refine⟨hra.1,fun _ _=>rfl,rfl,?_⟩
   have e:(fun j=>j<S.n/\rep j=rep a)=fun j=>j<S.n/\rep j=rep k:=by rw[c.2]
   rw[e]
   exact hr.2.2.2.more fun q hq=>h.mok _ _ _ hW1 hq
  have c2:¬(b<S.n/\rep b=rep k):=fun q=>c ⟨ha,hab.trans q.2⟩
  rw[aR c,aR c2,aR c,aR c2]
  exact hra
 have oj:=(h.ok j hj).1
 have hs:∀x,x∈(Q j).vars->cT (qP v (fun j=>j<S.n/\rep j=rep k) (fH (Q i).sh (v k) ((Q i).ev v)) x) (v x)=true:=fun x hx=>by
  unfold qP
  by_cases c:x<S.n/\rep x=rep k
  .rw[aS c]
   by_cases e:rC (v x) (fH (Q i).sh (v k) ((Q i).ev v))
   .exact kS fun q hq=>(e q hq).symm
   exact absurd (hU j hj x hx c.2 e) hn
  rw[aR c];exact jR _
 have hev:cT ((Q j).ev (qP v (fun j=>j<S.n/\rep j=rep k) (fH (Q i).sh (v k) ((Q i).ev v)))) ((Q j).ev v)=true:=oj.Qb _ _ Yr.fit h.low.fit hs
 by_cases e:j=i
 .subst e
  unfold e8 tg.rhs
  rw[hk]
  have ek:qP v (fun j=>j<S.n/\rep j=rep k) (fH (Q j).sh (v k) ((Q j).ev v)) k=fH (Q j).sh (v k) ((Q j).ev v):=aS ⟨k1,rfl⟩
  show cT _ (qP v _ _ k)=true
  rw[ek]
  have fk:=h.low.fit k k1
  rw[k2]at fk
  exact fg hev (YC fk (ho.fit v h.low.fit)).2
 have hold:=h.hold j hj fun q=>hn (hP j hj e q)
 unfold e8 tg.rhs at hold⊢
 cases ht:(Q j).to with
 |none=>rw[ht]at hold;exact fg hev hold
 |some x=>
  rw[ht]at hold
  exact fg hev (fg hold (hup x (oj.to x ht).1))
theorem mj.merge{C:Nat->Prop}[DecidablePred C]{e:El}{VE:Nat->Nat}(h:mj S Q y N M v ws rep P)(hC:∀j,C j->j<S.n/\dX (ws j) W=true)(hsh:∀a b,C a->C b->S.sh a=S.sh b)(hr:qb S (M W) C)(hk:C k)(he:cF (S.sh k) e=true)
  (hlo:∀u,uv S (M W) u->cT e (u k)=true) (hup:∀j,C j->cT (v j) e=true) (h2:∀a b,a<S.n->b<S.n->VE a=VE b->C a/\C b\/¬C a/\¬C b/\rep a=rep b)
  (hP:∀j,j<N->P j->P' j) (hU:∀j,j<N->∀x,x∈(Q j).vars->C x->¬rC (v x) e->P' j):mj S Q y N M (qP v C e) (Fi ws C W) VE P':=by
 have Yr:=h.low.ring (hr.more fun q hq=>h.all _ q hq) (fun j hj=>(hC j hj).1) hk (fun j hj=>hsh j k hj hk) he fun u hu=>hlo u (hu.less fun q hq=>h.all _ q hq)
 have asx:Fh S M (qP v C e) (Fi ws C W):=h.why.ring h.mok hr hC fun u hu i hi=>fg (hlo u hu) (kS (hr u hu k i hk hi))
 have hle:∀j,cT (v j) (qP v C e j)=true:=fun j=>by
  unfold qP
  by_cases c:C j
  .rw[aS c];exact hup j c
  rw[aR c];exact jR _
 refine⟨h.ok,h.all,h.mok,Yr,asx,fun a b ha hb hab=> ?_,fun j hj hn=> ?_⟩
 .unfold qP Fi
  rcases h2 a b ha hb hab with⟨c1,c2⟩|⟨c1,c2,c3⟩
  .rw[aS c1,aS c2,aS c1,aS c2]
   refine⟨hsh a b c1 c2,fun _ _=>rfl,rfl,fun u hu i j hi hj=> ?_⟩
   have ci:C i:=(h2 i a hi.1 ha hi.2).elim (fun q=>q.1) fun q=>absurd c1 q.2.1
   have cj:C j:=(h2 j a hj.1 ha hj.2).elim (fun q=>q.1) fun q=>absurd c1 q.2.1
   exact hr u hu i j ci cj
  rw[aR c1,aR c2,aR c1,aR c2]
  obtain⟨r1,r2,r3,r4⟩:=h.ring a b ha hb c3
  refine⟨r1,r2,r3,fun u hu i j hi hj=> ?_⟩
  have ci:rep i=rep a:=(h2 i a hi.1 ha hi.2).elim (fun q=>absurd q.2 c1) fun q=>q.2.2
  have cj:rep j=rep a:=(h2 j a hj.1 ha hj.2).elim (fun q=>absurd q.2 c1) fun q=>q.2.2
  exact r4 u hu i j ⟨hi.1,ci⟩ ⟨hj.1,cj⟩
 have oj:=(h.ok j hj).1
 have hs:∀x,x∈(Q j).vars->cT (qP v C e x) (v x)=true:=fun x hx=>by
  unfold qP
  by_cases c:C x
  .rw[aS c]
   by_cases q:rC (v x) e
   .exact kS fun i hi=>(q i hi).symm
   exact absurd (hU j hj x hx c q) hn
  rw[aR c];exact jR _
 have hev:=oj.Qb _ _ Yr.fit h.low.fit hs
 have hold:=h.hold j hj fun q=>hn (hP j hj q)
 unfold e8 tg.rhs at hold⊢
 cases ht:(Q j).to with
 |none=>rw[ht]at hold;exact fg hev hold
 |some x=>rw[ht]at hold;exact fg hev (fg hold (hle x))
theorem mj.more(h:mj S Q y N M v ws rep P){M':Qm}(ho:ud S (Q N))(hy:M' (y N) (Q N))(hM:adR M')(h1:∀a q,M a q->M' a q)(h2:∀a q,M' a q->∃i,i<N+1/\q=Q i)(hs:Fh S M v ws)(hN:P' N)(hp:∀i,i<N->P i->P' i):mj S Q y (N+1) M' v ws rep P':=by
 refine⟨fun i hi=> ?_,h2,hM,h.low.more fun q ⟨i,hi,e⟩=>⟨i,J,e⟩,fun k hk u hu=>hs k hk u (hu.less fun q hq=>h1 _ q hq),fun i k hi hk e=> ?_,fun i hi hn=> ?_⟩
 .by_cases e:i=N
  .subst e;exact⟨ho,hy⟩
  exact⟨(h.ok i J).1,h1 _ _ (h.ok i J).2⟩
 .obtain⟨a,b,c,d⟩:=h.ring i k hi hk e
  exact⟨a,b,c,d.more fun q hq=>h1 _ q hq⟩
 by_cases e:i=N
 .subst e;exact absurd hN hn
 exact h.hold i J fun q=>hn (hp i J q)
theorem mj.start(hM:∀a q,¬M a q)(hs:∀i,i<S.n->lW (S.sh i)=true)(hv:∀i,i<S.n->v i=iu (S.sh i) eY):mj S Q y 0 M v ws id P:=
 ⟨fun i hi=>J,fun a q h=>absurd h (hM a q),fun a b q _ h=>absurd h (hM a q),abm hs hv,fun k hk u hu=>by rw[hv k hk];exact(Pu (hs k hk)).2 _ (hu.fit k hk),
  fun i k hi hk e=>by have:i=k:=e;subst this;exact⟨rfl,fun _ _=>rfl,rfl,fun u hu a b ha hb=>by have e1:a=i:=ha.2;have e2:b=i:=hb.2;rw[e1,e2];exact fun _ _=>rfl⟩,fun i hi=>J⟩
theorem mj.done(h:mj S Q y N M v ws rep fun _=>False):tG S (fun q=>∃i,i<N/\q=Q i) v/\∀i,i<N->e8 (Q i) v:=
 ⟨⟨h.low,fun q ⟨i,hi,e⟩ _=>e▸h.hold i hi id⟩,fun i hi=>h.hold i hi id⟩
theorem mj.stuck(h:mj S Q y N M v ws rep P)(hi:i<N)(hk:(Q i).to=none)(hf:¬e8 (Q i) v):(∀u,uv S (fun q=>∃i,i<N/\q=Q i) u->¬e8 (Q i) u)/\∀u,uv S (M (OC (y i) ws (Q i).vars)) u->¬e8 (Q i) u:=
 ⟨h.low.axe (h.ok i hi).1 hk hf,h.why.stuck h.mok h.low.fit (h.ok i hi).1 hk hf⟩
end
theorem anf{E:Nat->Nat->Prop}{u:Va}{a b:Nat}(hE:∀x y,E x y->cT (u x) (u y)=true)(h:jN E a b):cT (u a) (u b)=true:=by
 induction h with
 |refl=>exact jR _
 |step _ e ih=>exact fg ih (hE _ _ e)
section
variable{S:Sys}{Q:tg->Prop}
structure Fp(S:Sys)(q:tg)(x y:Nat):Prop where
 to:q.to=some y
 ev:∀u,pP S u->rC (q.ev u) (u x)
theorem aiE{C:Nat->Prop}(h:∀i k,C i->C k->jN (fun a b=>(∃q,Q q/\Fp S q a b)\/∃D,D a/\D b/\qb S Q D) i k):qb S Q C:=qb.of fun u hu i k hi hk=>anf (fun x y e=>by
 rcases e with⟨q,hq,hp⟩|⟨D,hx,hy,hD⟩
 .have h1:=hu.hold q hq (by rw[hp.to];simp)
  unfold e8 tg.rhs at h1
  rw[hp.to]at h1
  exact fg (kS fun i hi=>(hp.ev u hu.fit i hi).symm) h1
 exact kS (hD u hu x y hx hy)) (h i k hi hk)
theorem Zp{q:tg}{x y:Nat}{v:Va}(hp:Fp S q x y)(hv:pP S v)(he:rC (v x) (v y)):e8 q v:=by
 unfold e8 tg.rhs
 rw[hp.to]
 exact fg (kS (hp.ev v hv)) (kS he)
theorem M7{sh:Sh}{n:Nat}{x:dz}{to:iw}(h1:x.op=1)(h0:0<=x.n/\x.n<n)(h2:0<=to.var):Fp S (Cr n sh [x] to) x.n.toNat to.var.toNat:=by
 refine⟨by unfold Cr;simp;omega,fun u hu=> ?_⟩
 have hr:gq [x]=true:=by
  unfold gq jx
  simp[wJ,h1]
 have hs:ix sh ((List.range n).map u) [x] (([x]:List dz).length:Nat)=some ([]++[((List.range n).map u).getD x.n.toNat dH]):=
  aml (s:=sh) (v:=(List.range n).map u) (l:=[x]) (st:=[]) (k:=0) J aF O h1 ⟨h0.1,by simpa using h0.2⟩
 show rC (fY sh [x] ((List.range n).map u)).1 (u x.n.toNat)
 rw[Sf hr (k:=(([x]:List dz).length:Nat)) J J hs]
 simp only[eC,List.getD_cons_zero]
 rw[qc J]
 exact fun _ _=>rfl
end
def j8(au:List pg)(aX:List Int)(n:Nat):Sys:=⟨n,fun i=>(au.getD (aX.getD i 0).toNat o3).p.sh⟩
def ym(au:List pg)(q:dw):Sh:=(au.getD q.aX.toNat o3).p.sh
def uf(au:List pg)(n:Nat)(q:dw):tg:=Cr n (ym au q) q.code q.to
def vQ(aj:List El):Va:=fun i=>aj.getD i dH
def wQ(ws:List (BitVec 64)):Nat->BitVec 64:=fun i=>ws.getD i 0
def Oq(au:List pg)(n:Nat)(qs:List dw):Qm:=fun a q=>∃i,i<qs.length/\q=uf au n (qs.getD i cP)/\dX (qs.getD i cP).why a=true
def VF(au:List pg)(aX:List Int)(n:Nat)(qs:List dw):Prop:=∀q∈qs,Za (j8 au aX n) (ym au q) q.code q.to/\q.vars=bS q.code
def xB(qs:List dw)(k:Nat):List Int:=((List.range qs.length).filter fun i=>decide ((k:Int)∈(qs.getD i cP).vars)).map fun i:Nat=>(i:Int)
abbrev SJ(au:List pg)(n:Nat)(qs:List dw):Nat->Nat:=Vj (qs.map (uf au n))
def muN(au:List pg)(aX:List Int)(n:Nat)(qs:List dw)(c:yl):Nat:=c.wl.length+(oW (j8 au aX n) (SJ au n qs) (vQ c.aj) n).toNat
section
variable{S:Sys}{v:Va}{e:El}{C D:Nat->Prop}
theorem M8[DecidablePred C][DecidablePred D](h:∀i,C i↔D i):qP v C e=qP v D e:=by grind[qP]
theorem M9{ws:Nat->BitVec 64}{W:BitVec 64}[DecidablePred C][DecidablePred D](h:∀i,C i↔D i):Fi ws C W=Fi ws D W:=by grind[Fi]
theorem asy{aj:List El}{k:Nat}(h:k<aj.length):vQ (aj.set k e)=Gu (vQ aj) k e:=by grind[vQ,Gu]
theorem aiF{aj:List El}{ks:List Int}(h:∀k∈ks,0<=k/\k<aj.length):vQ (gx aj ks e)=qP (vQ aj) (fun i=>(i:Int)∈ks) e:=by
 funext i;show(gx aj ks e).getD i dH=if(i:Int)∈ks then e else aj.getD i dH
 by_cases c:i<aj.length
 .exact r9 c fun k hk=>(h k hk).1
 rw[eS,ny (by rw[iR];omega),aR fun q=>by have:=h _ q;omega,eS,ny J]
theorem aiG{ws:List (BitVec 64)}{W:BitVec 64}{ks:List Int}(h:∀k∈ks,0<=k/\k<ws.length):wQ (gx ws ks W)=Fi (wQ ws) (fun i=>(i:Int)∈ks) W:=by grind[wQ,gx,Fi,r9,iR]
theorem aiH{aj:List El}{n:Nat}(h:aj.length=n):(List.range n).map (vQ aj)=aj:=by
 apply tj
 intro i
 rw[pW]
 by_cases c:i<n
 .rw[yN c,qt,ep J]
  unfold vQ;rw[getD_eq J]
 rw[ny Lt,ny J];rfl
theorem aiI{p:List Int×List Bool}{i j:Int}(h:j∈p.1):j∈(oX p i).1:=by grind[oX]
theorem GC:∀{l:List Int} {p:List Int×List Bool} {j:Int},j∈p.1->j∈(rj p l).1
 |[],p,j,h=>h
 |i::l,p,j,h=>GC (l:=l) (p:=oX p i) (aiI h)
theorem SK:∀{l:List Int} {wl:List Int} {wi:List Bool} {j:Int},uw wl wi->(∀i∈l,0<=i/\i<wi.length)->j∈l->j∈(rj (wl,wi) l).1
 |i::l,wl,wi,j,h,hl,hj=>by
  show j∈(rj (oX (wl,wi) i) l).1
  by_cases e:j=i
  .subst e
   refine GC ?_
   unfold oX
   by_cases c:wi.getD j.toNat false=true
   .rw[aS c];exact(h.mem j).2 ⟨hl j aF,c⟩
   rw[aR c];simp
  exact SK (wl:=(oX (wl,wi) i).1) (wi:=(oX (wl,wi) i).2) (h.put (hl i aF)) (fun k hk=>by rw[MZ];exact hl k (fC _ hk)) ((cQ.1 hj).resolve_left e)
theorem aiJ{aj:List El}{us:List jM}{p:List Int×List Bool}{k j:Int}(h:j∈p.1):j∈(lQ aj us p k e).1:=by grind[lQ,GC]
theorem KM{us:List jM}:∀{ks:List Int} {aj:List El} {p:List Int×List Bool} {j:Int},j∈p.1->j∈(xz aj us p ks e).2.1
 |[],aj,p,j,h=>h
 |k::ks,aj,p,j,h=>KM (ks:=ks) (aj:=aj.set k.toNat e) (p:=lQ aj us p k e) (aiJ h)
theorem Zu{us:List jM}{b:Nat}(hu:∀k:Nat,k<us.length->∀i∈(us.getD k cY).l,0<=i/\i<(b:Int)){k:Nat}{j:Int}(hj:j∈(us.getD k cY).l):∀{ks:List Int} {aj:List El} {wl:List Int} {wi:List Bool},uw wl wi->wi.length=b->(∀k∈ks,0<=k/\k<us.length)->aj.length=us.length->(k:Int)∈ks->¬rC (aj.getD k dH) e->j∈(xz aj us (wl,wi) ks e).2.1
 |a::ks,aj,wl,wi,h,hb,hk,hv,hm,hne=>by
  have ha:=hk a aF
  show j∈(xz (aj.set a.toNat e) us (lQ aj us (wl,wi) a e) ks e).2.1
  by_cases q:(k:Int)=a
  .refine KM ?_
   unfold lQ
   rw[<-q,ef,aR hne]
   exact SK h (fun i hi=>by have:=hu k J i hi;omega) hj
  have h1:uw (lQ aj us (wl,wi) a e).1 (lQ aj us (wl,wi) a e).2:=by
   unfold lQ;split
   .exact h
   exact h.rj fun i hi=>by have:=hu a.toNat J i hi;omega
  refine Zu hu hj (ks:=ks) (aj:=aj.set a.toNat e) (wl:=(lQ aj us (wl,wi) a e).1) (wi:=(lQ aj us (wl,wi) a e).2) h1 (M0.trans hb) (fun x hx=>hk x (fC _ hx)) (by simpa using hv) ((cQ.1 hm).resolve_left q) ?_
  rw[eS,pD,aR J,<-eS];exact hne
theorem aiK{us:List jM}{U:Nat->Nat}(hU:∀k,k<S.n->(us.getD k cY).l.length<=U k):∀{ks:List Int} {aj:List El} {p:List Int×List Bool},aj.length=S.n->pP S (vQ aj)->
  (∀k∈ks,(0<=k/\k<S.n)/\cF (S.sh k.toNat) e=true/\cT (aj.getD k.toNat dH) e=true)->((xz aj us p ks e).2.1.length:Int)+oW S U (vQ (xz aj us p ks e).1) S.n<=p.1.length+oW S U (vQ aj) S.n
 |[],aj,p,_,_,_=>nc _
 |k::ks,aj,p,hl,hv,hk=>by
  obtain⟨k1,k2,k3⟩:=hk k aF
  have es:=asy (e:=e) (aj:=aj) (k:=k.toNat) J
  have fv:pP S (vQ (aj.set k.toNat e)):=by
   rw[es];intro i hi;unfold Gu
   by_cases c:i=k.toNat
   .rw[aS c,c];exact k2
   rw[aR c];exact hv i hi
  have ih:=aiK hU (ks:=ks) (aj:=aj.set k.toNat e) (p:=lQ aj us p k e) (by simpa using hl) fv fun x hx=>by
   obtain⟨a,b,c⟩:=hk x (fC _ hx)
   refine⟨a,b,?_⟩
   rw[eS,pD]
   by_cases q:k.toNat=x.toNat
   .rw[aS q,aS J];exact jR _
   rw[aR q,<-eS];exact c
  show((xz (aj.set k.toNat e) us (lQ aj us p k e) ks e).2.1.length:Int)+oW S U (vQ (xz (aj.set k.toNat e) us (lQ aj us p k e) ks e).1) S.n<=_
  refine BL ih ?_
  rw[es]
  unfold lQ
  have hkn:k.toNat<S.n:=J
  by_cases c:rC (aj.getD k.toNat dH) e
  .rw[aS c,SD,aS hkn]
   have h8:(S.sh k.toNat).aL.length<=8:=by
    have:lW (S.sh k.toNat)=true:=by
     have:=k2;unfold cF at this;simp only[cG]at this;exact this.1
    exact(mc this).1.2
   have:mF (S.sh k.toNat) (vQ aj k.toNat)=mF (S.sh k.toNat) e:=Uw h8 c
   rw[this];omega
  rw[aR c]
  have h1:=Qc (U:=U) hv hkn k2 (show cT (vQ aj k.toNat) e=true from k3) (fun q=>c (ahk q))
  have h2:=Gw (l:=(us.getD k.toNat cY).l) (p:=p)
  have h3:=hU k.toNat hkn
  omega
end
theorem SL(ws:List (BitVec 64)):∀(l:List Int) (y:BitVec 64),orW y ws l=OC y (wQ ws) (l.map Int.toNat)
 |[],y=>rfl
 |a::l,y=>SL ws l (y|||ws.getD a.toNat 0)
structure OD(us:List jM)(qs:List dw)(n:Nat):Prop where
 len:us.length=n
 is:∀k,k<n->(us.getD k cY).l=xB qs k
theorem Cz{qs:List dw}{k:Nat}{i:Int}:i∈xB qs k↔(0<=i/\i<qs.length)/\(k:Int)∈(qs.getD i.toNat cP).vars:=by grind[xB]
theorem aiL{k:Nat}:∀{l:List Nat},k∈l->1<=SF k l
 |a::l,h=>by
  unfold SF
  rcases cQ.1 h with e|h
  .rw[aS e];omega
  have:=aiL h;omega
theorem aiM{au:List pg}{n:Nat}{qs:List dw}(hv:∀q∈qs,q.vars=bS q.code)(k:Nat):(xB qs k).length<=SJ au n qs k:=by
 have key:∀(qs:List dw),(∀q∈qs,q.vars=bS q.code)->(qs.filter fun q=>decide ((k:Int)∈q.vars)).length<=SJ au n qs k:=by
  intro qs
  induction qs with
  |nil=>intro _;exact er _
  |cons q qs ih=>
   intro h
   have h1:=ih fun p hp=>h p (fC _ hp)
   show _<=SF k (uf au n q).vars+SJ au n qs k
   rw[BF]
   split
   .rename_i c
    have:k∈(uf au n q).vars:=by
     refine fX.2 ⟨(k:Int),?_,ef k⟩
     have:=h q aF
     rw[<-this];simpa using c
    have:=aiL this
    rw[eR];omega
   omega
 have e:(xB qs k).length=(qs.filter fun q=>decide ((k:Int)∈q.vars)).length:=by
  unfold xB
  rw[gB]
  have aEd:∀(l:List Nat) (m:List dw),l.map (fun i=>qs.getD i cP)=m->(l.filter fun i=>decide ((k:Int)∈(qs.getD i cP).vars)).length=(m.filter fun q=>decide ((k:Int)∈q.vars)).length:=fun l m h=>by
   subst h
   rw[List.filter_map,gB];rfl
  refine aEd _ _ ?_
  apply tj
  intro i
  rw[pW]
  by_cases c:i<qs.length
  .rw[yN c,qt,getD_eq c,ep c]
  rw[ny Lt,ny J];rfl
 rw[e];exact key qs hv
def A8(cl:List Nat):Prop:=∀i,i<cl.length->ct cl i<=i/\ct cl (ct cl i)=ct cl i
structure Zv(au:List pg)(aX:List Int)(qs:List dw)(rep:Nat->Nat)(n:Nat)(X:Nat->Prop)(c:yl):Prop where
 ck:Qg qs.length n n c
 si:mj (j8 au aX n) (fun i=>uf au n (qs.getD i cP)) (fun i=>(qs.getD i cP).why) qs.length (Oq au n qs) (vQ c.aj) (wQ c.a6) rep fun i=>(i:Int)∈c.wl\/X i
section
variable{us:List jM}{au:List pg}{aX:List Int}{qs:List dw}{cl:List Nat}{n:Nat}{aj:List El}{a6:List (BitVec 64)}{wl:List Int}{wi:List Bool}{x:Int}{wy:BitVec 64}{q:dw}{rep:Nat->Nat}{X:Nat->Prop}{c:yl}
theorem OD.hu(h:OD us qs n):∀k:Nat,k<us.length->∀i∈(us.getD k cY).l,0<=i/\i<(qs.length:Int):=by grind[OD,cY,Cz]
theorem apl(hl:aj.length=n):(uf au n q).ev (vQ aj)=lkE (ym au q) q aj:=by
 show(fY _ _ ((List.range n).map (vQ aj))).1=_
 rw[aiH hl];rfl
theorem asA:(uf au n q).rhs (vQ aj)=if q.to.var<0 then q.to.c else aj.getD q.to.var.toNat dH:=by grind[tg.rhs,uf,Cr,vQ]
theorem apm:(uf au n q).to=if q.to.var<0 then none else some q.to.var.toNat:=rfl
theorem SM(hl:aj.length=n):e8 (uf au n q) (vQ aj)↔cT (lkE (ym au q) q aj) (if q.to.var<0 then q.to.c else aj.getD q.to.var.toNat dH)=true:=by
 unfold e8;rw[apl hl,asA]
theorem GD(hp:EP q=true):∃y,q.code=[y]/\y.op=1/\0<=q.to.var:=by
 simp only[EP,cG,eo]at hp
 obtain⟨⟨h1,h2⟩,h3⟩:=hp
 match hc:q.code,h1 with
 |[y],_=>rw[hc]at h2;exact⟨y,rfl,h2,h3⟩
theorem D9(hf:Za (j8 au aX n) (ym au q) q.code q.to)(hv:q.vars=bS q.code)(hp:EP q=true):(0<=xO q/\xO q<n)/\(0<=q.to.var/\q.to.var<n)/\Fp (j8 au aX n) (uf au n q) (xO q).toNat q.to.var.toNat/\(j8 au aX n).sh (xO q).toNat=(j8 au aX n).sh q.to.var.toNat:=by
 obtain⟨y,hy,ho,h0⟩:=GD hp
 have h1:=hf.var y (by rw[hy];simp) ho
 have h2:=hf.to1 h0
 have hn:(j8 au aX n).n=n:=rfl
 have e:xO q=y.n:=by unfold xO;rw[hv,hy];unfold bS;simp[ho,h1.1,sZ]
 rw[e]
 refine⟨⟨h1.1,J⟩,⟨h0,J⟩,?_,by rw[h1.2.2,h2.2]⟩
 unfold uf
 rw[hy]
 exact M7 ho ⟨h1.1,J⟩ h0
theorem GF(hv:q.vars=bS q.code):(uf au n q).vars=q.vars.map Int.toNat:=by rw[hv];rfl
theorem Zv.look(hq:VF au aX n qs)(hu:OD us qs n)(kD:cl.length=n)(h:Zv au aX qs (ct cl) n (fun _=>False) ⟨aj,a6,x::wl,wi⟩){r:LkO}(hr:ng cl us (ym au (qs.getD x.toNat cP)) (qs.getD x.toNat cP) aj a6 wl (wi.set x.toNat false) wy=r)(hok:r.ok=true):
  Zv au aX qs (ct cl) n (fun _=>False) ⟨r.aj,r.a6,r.wl,r.wi⟩/\muN au aX n qs ⟨r.aj,r.a6,r.wl,r.wi⟩<muN au aX n qs ⟨aj,a6,x::wl,wi⟩:=by
 have hn:(j8 au aX n).n=n:=rfl
 obtain⟨hx,ck⟩:=h.ck.take
 have ckr:=aip (cl:=cl) (us:=us) (sh:=ym au (qs.getD x.toNat cP)) (q:=qs.getD x.toNat cP) (wy:=wy) hu.hu (by rw[kD,hu.len]) ck
 rw[hr]at ckr
 have Px:x.toNat<qs.length:=J
 have hm:=dh (d:=cP) hx.1 hx.2
 obtain⟨hf,hvs⟩:=hq _ hm
 generalize hqq:qs.getD x.toNat cP=q at*
 have lv:aj.length=n:=h.ck.lv
 have ly:a6.length=n:=h.ck.ly
 have nd:=nP.1 h.ck.wq.nd
 have hsi:=h.si
 simp only at hsi
 have yes:e8 (uf au n q) (vQ aj)->mj (j8 au aX n) (fun i=>uf au n (qs.getD i cP)) (fun i=>(qs.getD i cP).why) qs.length (Oq au n qs) (vQ aj) (wQ a6) (ct cl) (fun i=>(i:Int)∈wl\/False)/\muN au aX n qs ⟨aj,a6,wl,wi.set x.toNat false⟩<muN au aX n qs ⟨aj,a6,x::wl,wi⟩:=fun hh=>by
  have h1:=hsi.look (i:=x.toNat) (by show e8 (uf au n (qs.getD x.toNat cP)) _;rw[hqq];exact hh)
  refine⟨h1.aiD fun i hi ⟨hp,hne⟩=> ?_,?_⟩
  .rcases hp with hp|hp
   .rcases cQ.1 hp with e|e
    .exact absurd J hne
    exact .inl e
   exact hp.elim
  unfold muN;simp only[eR];omega
 unfold ng at hr
 by_cases c1:skQ cl q=true
 .rw[aS c1]at hr;subst hr
  simp only[skQ,cG,eo]at c1
  obtain⟨p1,p2,p3,p4⟩:=D9 hf hvs c1.1
  have e:=c1.2
  rw[mG J,mG J]at e
  have:=(hsi.ring _ _ J J (Int.ofNat.inj e)).2.1
  have:=yes (Zp p3 hsi.low.fit this)
  exact⟨⟨ckr,this.1⟩,this.2⟩
 rw[aR c1]at hr
 by_cases c2:q.to.var<0
 .rw[aS c2]at hr
  by_cases c3:cT (lkE (ym au q) q aj) q.to.c=true
  .rw[aS c3]at hr;subst hr
   have:=yes ((SM lv).2 (by rw[aS c2];exact c3))
   exact⟨⟨ckr,this.1⟩,this.2⟩
  rw[aR c3]at hr;subst hr;cases hok
 rw[aR c2]at hr
 by_cases c3:cT (lkE (ym au q) q aj) (aj.getD q.to.var.toNat dH)=true
 .rw[aS c3]at hr;subst hr
  have:=yes ((SM lv).2 (by rw[aR c2];exact c3))
  exact⟨⟨ckr,this.1⟩,this.2⟩
 rw[aR c3]at hr;subst hr
 have hto:=hf.to1 J
 have hk:(uf au n q).to=some q.to.var.toNat:=by rw[apm,aR c2]
 have kn:q.to.var.toNat<n:=J
 have hks:∀k∈bJ cl q.to.var,0<=k/\k<(n:Int):=fun k hk=>by have:=mi hk;omega
 have hCi:∀i:Nat,(i:Int)∈bJ cl q.to.var↔i<n/\ct cl i=ct cl q.to.var.toNat:=fun i=>by
  rw[IJ,ef]
  exact⟨fun⟨a,b,c,d⟩=>⟨J,d⟩,fun⟨a,b⟩=>⟨J,J,J,b⟩⟩
 have eJ:fH (uf au n q).sh (vQ aj q.to.var.toNat) ((uf au n q).ev (vQ aj))=lkJ (ym au q) q aj:=by rw[apl lv];rfl
 have hq2:uf au n (qs.getD x.toNat cP)=uf au n q:=by rw[hqq]
 have h1:=hsi.raise (i:=x.toNat) (k:=q.to.var.toNat) (W:=a6.getD q.to.var.toNat 0|||orW q.why a6 q.vars) (P':=fun i=>(i:Int)∈(xz aj us (wl,wi.set x.toNat false) (bJ cl q.to.var) (lkJ (ym au q) q aj)).2.1\/False) Px (by show(uf au n (qs.getD x.toNat cP)).to=_;rw[hqq];exact hk) (H6 _ _)
  (by show dX (OC (qs.getD x.toNat cP).why (wQ a6) (uf au n (qs.getD x.toNat cP)).vars) _=true;rw[hqq,GF hvs,<-SL];exact Ga _ _)
  (fun j hj hne hp=>by
   rcases hp with hp|hp
   .rcases cQ.1 hp with e|e
    .exact absurd J hne
    exact .inl (KM e)
   exact hp.elim)
  (fun j hj y hy hr hne=>by
   simp only[hqq]at hy hne
   rw[eJ]at hne
   have hjm:=hq _ (dh (d:=cP) (l:=qs) (k:=(j:Int)) J J)
   rw[ef]at hjm
   rw[GF hjm.2]at hy
   obtain⟨z,hz,rfl⟩:=fX.1 hy
   have hz0:0<=z/\z<n:=by
    have:=hz
    rw[hjm.2]at this
    obtain⟨a,ha,ho,h0,rfl⟩:=ow.1 this
    have:=hjm.1.var a ha ho
    omega
   refine .inl (Zu hu.hu (k:=z.toNat) (j:=(j:Int)) ?_ ck.wq ck.li (fun k hk=>by have:=hks k hk;have:=hu.len;omega) (by rw[hu.len];exact lv) ?_ hne)
   .rw[hu.is _ J]
    refine Cz.2 ⟨J,?_⟩
    rw[ef,fW hz0.1];exact hz
   exact(hCi _).2 ⟨J,hr⟩)
 simp only[hqq]at h1
 rw[eJ]at h1
 have e1:vQ (lkR cl us (ym au q) q aj a6 wl (wi.set x.toNat false) wy).aj=qP (vQ aj) (fun i=>i<n/\ct cl i=ct cl q.to.var.toNat) (lkJ (ym au q) q aj):=by
  unfold lkR;simp only[yh]
  rw[aiF (by rw[lv];exact hks)]
  exact M8 hCi
 have e2:wQ (lkR cl us (ym au q) q aj a6 wl (wi.set x.toNat false) wy).a6=Fi (wQ a6) (fun i=>i<n/\ct cl i=ct cl q.to.var.toNat) (a6.getD q.to.var.toNat 0|||orW q.why a6 q.vars):=by
  unfold lkR;simp only
  rw[aiG (by rw[ly];exact hks)]
  exact M9 hCi
 refine⟨⟨ckr,?_⟩,?_⟩
 .simp only;rw[e1,e2];exact h1
 have fv:=hsi.low.fit
 have io:=(hsi.ok x.toNat Px).1
 simp only[hqq]at io
 have fk:cF (ym au q) (vQ aj q.to.var.toNat)=true:=by rw[<-hto.2];exact fv _ J
 have fj:cF (ym au q) (lkJ (ym au q) q aj)=true:=by rw[<-eJ];exact Io fk (io.fit _ fv)
 have up:cT (vQ aj q.to.var.toNat) (lkJ (ym au q) q aj)=true:=by rw[<-eJ];exact(YC fk (io.fit _ fv)).1
 have h2:=aiK (S:=j8 au aX n) (us:=us) (U:=SJ au n qs) (e:=lkJ (ym au q) q aj) (ks:=bJ cl q.to.var) (aj:=aj) (p:=(wl,wi.set x.toNat false)) (fun k hk=>by rw[hu.is k hk];exact aiM (fun q hq'=>(hq q hq').2) k) lv fv fun k hk=>by
  have hc:=mi hk
  have VG:=hsi.ring k.toNat q.to.var.toNat J J hc.2.2.2
  refine⟨by have:=hks k hk;omega,by rw[VG.1,hto.2];exact fj,fg (kS VG.2.1) up⟩
 have h3:=KK (U:=SJ au n qs) fv n (er _)
 have h4:0<=oW (j8 au aX n) (SJ au n qs) (qP (vQ aj) (fun i=>i<n/\ct cl i=ct cl q.to.var.toNat) (lkJ (ym au q) q aj)) n:=KK (U:=SJ au n qs) h1.low.fit n (er _)
 rw[<-e1]at h4
 rw[hn]at h2
 unfold muN
 simp only[eR]
 have e3:(lkR cl us (ym au q) q aj a6 wl (wi.set x.toNat false) wy).aj=(xz aj us (wl,wi.set x.toNat false) (bJ cl q.to.var) (lkJ (ym au q) q aj)).1:=rfl
 have e4:(lkR cl us (ym au q) q aj a6 wl (wi.set x.toNat false) wy).wl=(xz aj us (wl,wi.set x.toNat false) (bJ cl q.to.var) (lkJ (ym au q) q aj)).2.1:=rfl
 rw[e3]at h4⊢
 rw[e4]
 simp only at h2
 omega
end
section
variable{cl:List Nat}{x y a b:Nat}
theorem ang:Iv x y a=Iv x y b↔a=b\/((a=x\/a=y)/\(b=x\/b=y)):=by grind[Iv,xm]
theorem A8.join(h:A8 cl)(ha:a<cl.length)(hb:b<cl.length):A8 (iy cl (ct cl a) (ct cl b)):=by grind[A8,iy,ct,IE,Iv,zF,kF,xm,kR]
theorem ad2{cs:List (List Nat)}{i j:Int}(hi:0<=i/\i<(bq cs).length)(hj:0<=j/\j<(bq cs).length)(ha:a<(bq cs).length)(hb:b<(bq cs).length):
 ct (bq (jc cs i j).1) a=ct (bq (jc cs i j).1) b↔ct (bq cs) a=ct (bq cs) b\/((ct (bq cs) a=ct (bq cs) i.toNat\/ct (bq cs) a=ct (bq cs) j.toNat)/\(ct (bq cs) b=ct (bq cs) i.toNat\/ct (bq cs) b=ct (bq cs) j.toNat)):=by grind[ID,bq,IF,ct,iy,zF,ang,MQ]
theorem aiO{cs:List (List Nat)}{i j:Int}(hi:0<=i/\i<(bq cs).length)(hj:0<=j/\j<(bq cs).length)(h:A8 (bq cs)):A8 (bq (jc cs i j).1):=by
 by_cases q:ID (bq cs).length (bq cs) i j
 .rw[IF q];exact h.join J J
 rw[MQ q];exact h
def Ec(cl:List Nat)(ks:List Int)(n k a b:Nat):Prop:=a<n/\b<n/\(ct cl a=ct cl b\/(a<k/\(b:Int)=ks.getD a 0)\/(b<k/\(a:Int)=ks.getD b 0))
structure MgK(cl jF:List Nat)(ks:List Int)(n k:Nat):Prop where
 ok:A8 jF
 more:∀a b,a<n->b<n->ct cl a=ct cl b->ct jF a=ct jF b
 ahZ:∀v,v<k->ct jF v=ct jF (ks.getD v 0).toNat
 way:∀a b,a<n->b<n->ct jF a=ct jF b->jN (Ec cl ks n k) a b
theorem aiP{cs:List (List Nat)}{ks:List Int}{n:Nat}(h:A8 (bq cs))(hl:(bq cs).length=n)(hk:∀v,v<n->0<=ks.getD v 0/\ks.getD v 0<n):∀k,k<=n->MgK (bq cs) (bq (sC cs ks k)) ks n k
 |0,_=>⟨h,fun a b _ _ q=>q,fun v hv=>J,fun a b ha hb q=> .one ⟨ha,hb,.inl q⟩⟩
 |k+1,hn=>by
  have ih:=aiP h hl hk k J
  have e:=Gy (cs:=cs) (ks:=ks) (k:=(k:Int)) J
  rw[show((k:Int)+1).toNat=k+1 by omega,show((k:Int)).toNat=k by omega]at e
  have l2:(bq (sC cs ks k)).length=n:=by rw[wO];exact hl
  have hkk:=hk k J
  have iff:=fun a b (ha:a<n) (hb:b<n)=>ad2 (cs:=sC cs ks k) (i:=(k:Int)) (j:=ks.getD k 0) (a:=a) (b:=b) J J J J
  rw[ef]at iff
  rw[e]
  have st:∀a b,jN (Ec (bq cs) ks n k) a b->jN (Ec (bq cs) ks n (k+1)) a b:=fun a b w=>w.mono fun x y ⟨h1,h2,h3⟩=>⟨h1,h2,by
   rcases h3 with q|q|q
   .exact .inl q
   .exact .inr (.inl ⟨J,q.2⟩)
   exact .inr (.inr ⟨J,q.2⟩)⟩
  refine⟨aiO J J ih.ok,fun a b ha hb q=>(iff a b ha hb).2 (.inl (ih.more a b ha hb q)),fun v hv=> ?_,fun a b ha hb q=> ?_⟩
  .by_cases c:v=k
   .subst c;exact(iff v _ J J).2 (.inr ⟨.inl O,.inr O⟩)
   have:=hk v J
   exact(iff v _ J J).2 (.inl (ih.ahZ v J))
  have jk:jN (Ec (bq cs) ks n (k+1)) k (ks.getD k 0).toNat:= .one ⟨J,J,.inr (.inl ⟨J,J⟩)⟩
  have kj:jN (Ec (bq cs) ks n (k+1)) (ks.getD k 0).toNat k:= .one ⟨J,J,.inr (.inr ⟨J,J⟩)⟩
  have kn:k<n:=J
  have jn:(ks.getD k 0).toNat<n:=J
  rcases(iff a b ha hb).1 q with q|⟨q,r⟩
  .exact st _ _ (ih.way a b ha hb q)
  have w1:jN (Ec (bq cs) ks n (k+1)) a k:=by
   rcases q with q|q
   .exact st _ _ (ih.way a k ha kn q)
   exact(st _ _ (ih.way a _ ha jn q)).trans kj
  have w2:jN (Ec (bq cs) ks n (k+1)) k b:=by
   rcases r with q|q
   .exact st _ _ (ih.way k b kn hb q.symm)
   exact jk.trans (st _ _ (ih.way _ b jn hb q.symm))
  exact w1.trans w2
theorem wP{α:Type}{p q:α->Bool}:∀{l:List α},(∀x∈l,p x=true->q x=true)->(l.filter p).length<=(l.filter q).length/\((l.filter p).length=(l.filter q).length->∀x∈l,q x=true->p x=true)
 |[],_=>⟨er _,fun _ x hx=>by cases hx⟩
 |a::l,h=>by
  obtain⟨h1,h2⟩:=wP (l:=l) (p:=p) (q:=q) fun x hx=>h x (fC _ hx)
  rw[BF,BF]
  by_cases c:p a=true
  .rw[aS c,aS (h a aF c)]
   simp only[eR]
   refine⟨J,fun e x hx hq=> ?_⟩
   rcases cQ.1 hx with r|r
   .rw[r];exact c
   exact h2 J x r hq
  rw[aR c]
  by_cases d:q a=true
  .rw[aS d];simp only[eR]
   exact⟨J,fun e=>J⟩
  rw[aR d]
  refine⟨h1,fun e x hx hq=> ?_⟩
  rcases cQ.1 hx with r|r
  .rw[r]at hq;exact absurd hq d
  exact h2 e x r hq
theorem Zw{cl jF:List Nat}(h:A8 cl)(h':A8 jF)(hl:jF.length=cl.length)(hm:∀a b,a<cl.length->b<cl.length->ct cl a=ct cl b->ct jF a=ct jF b)(he:leads jF=leads cl):∀a,a<cl.length->ct jF a=ct cl a:=fun a ha=>by
 unfold leads at he
 rw[hl]at he
 have h1:=wP (l:=List.range cl.length) (p:=fun i=>ct jF i==i) (q:=fun i=>ct cl i==i) fun x hx hp=>by
  rw[BN]at hp⊢
  have hx:=pX.1 hx
  have c1:=h x hx
  have c2:=hm x (ct cl x) hx J c1.2.symm
  have c3:=h' (ct cl x) J
  omega
 have ha1:=h a ha
 have h2:=h1.2 he (ct cl a) (pX.2 J) (by rw[BN];exact ha1.2)
 rw[BN]at h2
 rw[hm a (ct cl a) ha J ha1.2.symm,h2]
end
theorem SO{o:List (BitVec 64)}{k:Nat}{y:BitVec 64}(hk:k<o.length):(∀i,dX (o.getD i 0) ((o.set k (o.getD k 0|||y)).getD i 0)=true)/\dX y ((o.set k (o.getD k 0|||y)).getD k 0)=true:=by grind[H6,sS,Ga]
theorem abw{α:Type}{f:List (BitVec 64)->α->List (BitVec 64)}{n:Nat}(hl:∀o a,(f o a).length=o.length)(l:List α)(hm:∀o:List (BitVec 64),o.length=n->∀a∈l,∀i,dX (o.getD i 0) ((f o a).getD i 0)=true):∀o:List (BitVec 64),o.length=n->(∀i,dX (o.getD i 0) ((l.foldl f o).getD i 0)=true)/\∀a∈l,∀y k,(∀o:List (BitVec 64),o.length=n->dX y ((f o a).getD k 0)=true)->dX y ((l.foldl f o).getD k 0)=true:=by
 induction l with
 |nil=>intro o _;exact⟨fun i=>sS _,fun a ha=>by cases ha⟩
 |cons b l ih=>
  intro o ho
  have h1:=ih (fun o h a ha=>hm o h a (fC _ ha)) (f o b) ((hl o b).trans ho)
  refine⟨fun i=>lM (hm o ho b aF i) (h1.1 i),fun a ha y k hy=> ?_⟩
  rcases cQ.1 ha with e|ha
  .subst e;exact lM (hy o ho) (h1.1 k)
  exact h1.2 a ha y k hy
theorem anh{cl:List Nat}{ws:List (BitVec 64)}{n:Nat}{qs:List dw}(h:A8 cl)(hl:cl.length=n)(hp:Vl n qs):
  (∀v,v<n->dX (ws.getD v 0) ((Cs cl ws n qs).getD (ct cl v) 0)=true)/\∀q∈qs,EP q=true->xO q≠q.to.var->ct cl (xO q).toNat=ct cl q.to.var.toNat->dX q.why ((Cs cl ws n qs).getD (ct cl q.to.var.toNat) 0)=true:=by
 have fr:∀v:Nat,v<n->(fw cl (v:Int)).toNat=ct cl v/\ct cl v<n:=fun v hv=>by
  rw[mG J,ef,ef]
  have:=h v J
  exact⟨rfl,J⟩
 have hto:∀q∈qs,JK cl q=true->(fw cl q.to.var).toNat=ct cl q.to.var.toNat/\ct cl q.to.var.toNat<n:=fun q hq hi=>by
  simp only[JK,cG,eo]at hi
  have h1:=hp q hq hi.1.1
  have h2:=(GD hi.1.1)
  obtain⟨_,_,_,h0⟩:=h2
  have:=fr q.to.var.toNat J
  rwa[fW h0]at this
 have ra:(Vm cl ws n).length=n:=by unfold Vm;rw[DB (MY cl ws)];simp
 have hA:=abw (n:=n) (f:=MX cl ws) (MY cl ws) (List.range n) (fun o ho v hv i=>by
  have hv:=pX.1 hv
  unfold MX;rw[(fr v hv).1];exact(SO (by rw[ho];exact(fr v hv).2)).1 i) (List.replicate n 0) aF
 have hB:=abw (n:=n) (f:=JV cl) (Vn cl) qs (fun o ho q hq i=>by
  unfold JV
  by_cases c:JK cl q=true
  .rw[aS c,(hto q hq c).1];exact(SO (by rw[ho];exact(hto q hq c).2)).1 i
  rw[aR c];exact sS _) (Vm cl ws n) ra
 refine⟨fun v hv=> ?_,fun q hq h1 h2 h3=> ?_⟩
 .have:=hA.2 v (pX.2 hv) (ws.getD v 0) (ct cl v) fun o ho=>by
   unfold MX;rw[(fr v hv).1];exact(SO (by rw[ho];exact(fr v hv).2)).2
  exact lM this (hB.1 _)
 refine hB.2 q hq q.why _ fun o ho=> ?_
 have hv:=hp q hq h1
 have ci:JK cl q=true:=by
  simp only[JK,cG,eo]
  obtain⟨_,_,_,h0⟩:=GD h1
  refine⟨⟨h1,?_⟩,h2⟩
  rw[mG J,mG J,h3]
 unfold JV
 rw[aS ci,(hto q hq ci).1];exact(SO (by rw[ho];exact(hto q hq ci).2)).2
theorem Ql{n:Nat}:∀{qs:List dw} {g:List (List Int)} {a:Nat} {x:Int},(∀q∈qs,EP q=true->0<=xO q)->x∈(qs.foldl grQ g).getD a []->x∈g.getD a []\/∃q∈qs,EP q=true/\xO q=a/\q.to.var=x
 |[],g,a,x,_,h=> .inl h
 |q::qs,g,a,x,hp,h=>by
  rcases Ql (n:=n) (qs:=qs) (g:=grQ g q) (fun p hp'=>hp p (fC _ hp')) h with h|⟨p,h1,h2⟩
  .unfold grQ at h
   by_cases c:EP q=true
   .rw[aS c]at h
    rw[eS,pD]at h
    by_cases e:(xO q).toNat=a
    .rw[aS e]at h
     split at h
     .rcases eI.1 h with h|h
      .rw[e]at h;exact .inl h
      have:=hp q aF c
      exact .inr ⟨q,aF,c,J,(dY.1 h).symm⟩
     .cases h
    rw[aR e,<-eS]at h;exact .inl h
   rw[aR c]at h;exact .inl h
  exact .inr ⟨p,fC _ h1,h2⟩
theorem axk{n:Nat}{qs:List dw}{a b:Nat}(hp:∀q∈qs,EP q=true->0<=xO q)(h:vi (cz n qs) a b):∃q∈qs,EP q=true/\xO q=a/\q.to.var=b:=by
 obtain⟨_,_,i,hi,e⟩:=h
 have hm:(b:Int)∈(cz n qs).getD a []:=by rw[<-e,getD_eq hi];exact nM hi
 rcases Ql (n:=n) hp hm with q|q
 .rw[eS,Xb]at q
  split at q<;>cases q
 exact q
theorem asB(E:Nat->Nat->Prop)(k:Nat):∃o,OfK E k o:=by
 have key:∀m j:Nat,j<=m->sY E k j->∃o,OfK E k o:=by
  intro m
  induction m with
  |zero=>intro j hj h;exact⟨j,⟨j,rfl,h⟩,fun i _=>J⟩
  |succ m ih=>
   intro j hj h
   by_cases c:∃i,i<j/\sY E k i
   .obtain⟨i,hi,h2⟩:=c;exact ih i J h2
   exact⟨j,⟨j,rfl,h⟩,fun i hi=>by
    refine KY fun q=>c ⟨i,J,hi⟩⟩
 exact key k k (er _) ⟨.refl _,.refl _⟩
theorem sY.trans{E:Nat->Nat->Prop}{a b c:Nat}(h:sY E a b)(h2:sY E b c):sY E a c:=⟨h.1.trans h2.1,h2.2.trans h.2⟩
theorem SP{gl:List (List Int)}{v:Nat}(h:v<gl.length):OfK (vi gl) v ((oV gl).getD v 0):=by grind[asB,vi,oV,ah8]
theorem aiQ{gl:List (List Int)}{v u:Nat}(h:v<gl.length)(hu:u<gl.length)(hb:sY (vi gl) v u):(oV gl).getD v 0=(oV gl).getD u 0:=by
 have h1:=SP h;have h2:=SP hu
 obtain⟨j,e,hj⟩:=h2.is
 exact h1.same ⟨⟨j,e,sY.trans hb hj⟩,fun i hi=>h2.low i (sY.trans ⟨hb.2,hb.1⟩ hi)⟩
theorem ani{gl:List (List Int)}{a b:Nat}(h:jN (vi gl) a b)(ha:a<gl.length):b<gl.length:=by grind[jN,vi]
theorem aiR{E E':Nat->Nat->Prop}{a b:Nat}(hE:∀y c,E y c->sY E a y->sY E a c->E' y c)(h:jN E a b)(hb:jN E b a):jN E' a b:=by
 induction h with
 |refl=>exact .refl _
 |step h e ih=>
  have hy:jN E _ a:=(jN.one e).trans hb
  exact(ih hy).step (hE _ _ e ⟨h,hy⟩ ⟨h.step e,hb⟩)
theorem mj.aiS{S:Sys}{Q:Nat->tg}{y:Nat->BitVec 64}{N:Nat}{M:Qm}{v:Va}{ws:Nat->BitVec 64}{rep VE:Nat->Nat}{P:Nat->Prop}(h:mj S Q y N M v ws rep P)(hr:∀i k,i<S.n->k<S.n->VE i=VE k->rep i=rep k):mj S Q y N M v ws VE P:=
 ⟨h.ok,h.all,h.mok,h.low,h.why,fun i k hi hk e=>by
  obtain⟨a,b,c,d⟩:=h.ring i k hi hk (hr i k hi hk e)
  exact⟨a,b,c,fun u hu p q hp hq=>d u hu p q ⟨hp.1,hr _ _ hp.1 hi hp.2⟩ ⟨hq.1,hr _ _ hq.1 hi hq.2⟩⟩,h.hold⟩
theorem abx{sh:Sh}{aj:List El}:∀{ks:List Int} {e:El},cF sh e=true->(∀k∈ks,cF sh (aj.getD k.toNat dH)=true)->cF sh (vz sh aj e ks)=true/\cT e (vz sh aj e ks)=true/\(∀k∈ks,cT (aj.getD k.toNat dH) (vz sh aj e ks)=true)/\∀u,cF sh u=true->cT e u=true->(∀k∈ks,cT (aj.getD k.toNat dH) u=true)->cT (vz sh aj e ks) u=true
 |[],e,he,_=>⟨he,jR _,(fun k hk=>by cases hk),fun u _ h _=>h⟩
 |a::ks,e,he,hk=>by
  have fa:=hk a aF
  have key:cF sh (if rC (aj.getD a.toNat dH) e then e else fH sh e (aj.getD a.toNat dH))=true/\cT e (if rC (aj.getD a.toNat dH) e then e else fH sh e (aj.getD a.toNat dH))=true/\cT (aj.getD a.toNat dH) (if rC (aj.getD a.toNat dH) e then e else fH sh e (aj.getD a.toNat dH))=true/\∀u,cF sh u=true->cT e u=true->cT (aj.getD a.toNat dH) u=true->cT (if rC (aj.getD a.toNat dH) e then e else fH sh e (aj.getD a.toNat dH)) u=true:=by
   by_cases c:rC (aj.getD a.toNat dH) e
   .rw[aS c];exact⟨he,jR _,kS c,fun u _ h _=>h⟩
   rw[aR c];exact⟨Io he fa,(YC he fa).1,(YC he fa).2,fun u fu h1 h2=>aaN he fa fu h1 h2⟩
  obtain⟨k1,k2,k3,k4⟩:=key
  obtain⟨h1,h2,h3,h4⟩:=abx (ks:=ks) k1 fun k h=>hk k (fC _ h)
  refine⟨h1,fg k2 h2,fun k h=> ?_,fun u fu hu Du=>h4 u fu (k4 u fu hu (Du a aF)) fun k h=>Du k (fC _ h)⟩
  rcases cQ.1 h with q|q
  .subst q;exact fg k3 h2
  exact h3 k q
theorem VH{p:Nat->Bool}{v m:Nat}(hv:p v=true)(hlo:∀j,j<v->p j=false):∃t,(List.range (v+(m+1))).filter p=v::t:=by
 rw[XH,Hu]
 have e:(List.range v).filter p=[]:=List.filter_eq_nil_iff.2 fun j hj=>by rw[hlo j (pX.1 hj)];exact KV
 rw[e,eC,Xe,lB,BF,aS (by simpa using hv)]
 exact⟨_,rfl⟩
theorem VI{cl:List Nat}{v:Nat}(h:A8 cl)(hv:v<cl.length)(he:ct cl v=v):∃t,bJ cl v=(v:Int)::t:=by
 obtain⟨t,ht⟩:=VH (p:=fun k=>ct cl v==ct cl k) (v:=v) (m:=cl.length-v-1) aF fun j hj=>by
  have:=h j J
  rw[beq_eq_false_iff_ne];omega
 unfold bJ zI
 rw[aS ⟨J,J⟩]
 rw[show v+(cl.length-v-1+1)=cl.length by omega]at ht
 rw[ef,ht]
 exact⟨_,rfl⟩
theorem aby{cl:List Nat}{n:Nat}{p:Nat->Bool}{q:Nat->Bool}:∀{l:List Nat},(∀x∈l,¬(p x=true/\q x=true))->(l.filter p).length+(l.filter q).length<=(l.filter fun x=>p x||q x).length
 |[],_=>er _
 |a::l,h=>by
  have ih:=aby (cl:=cl) (n:=n) (l:=l) (p:=p) (q:=q) fun x hx=>h x (fC _ hx)
  have ha:=h a aF
  rw[BF,BF,BF]
  by_cases c1:p a=true<;>by_cases c2:q a=true
  .exact absurd ⟨c1,c2⟩ ha
  .rw[aS c1,aR c2,aS (by simp[c1])];simp only[eR];omega
  .rw[aR c1,aS c2,aS (by simp[c2])];simp only[eR];omega
  rw[aR c1,aR c2,aR (by simp[c1,c2])];exact ih
theorem apo{cl:List Nat}(h:A8 cl):∀k,coJ cl k<=((List.range cl.length).filter fun j=>decide (ct cl j<k)).length
 |0=>mW _
 |k+1=>by
  have ih:=apo h k
  have h1:=aby (cl:=cl) (n:=0) (l:=List.range cl.length) (p:=fun j=>decide (ct cl j<k)) (q:=fun j=>ct cl k==ct cl j&&decide (ct cl k=k)) fun x _ ⟨a,b⟩=>by
   simp only[eo,cG,BN]at a b;omega
  have h2:=(wP (l:=List.range cl.length) (p:=fun x=>decide (ct cl x<k)||(ct cl k==ct cl x&&decide (ct cl k=k))) (q:=fun j=>decide (ct cl j<k+1)) fun x _ q=>by
   simp only[eo,cG,pE,BN]at q⊢;omega).1
  show coJ cl k+_<=_
  have h3:(if fw cl (k:Int)=(k:Int)then(bJ cl (k:Int)).length-1 else 0)<=((List.range cl.length).filter fun j=>ct cl k==ct cl j&&decide (ct cl k=k)).length:=by
   by_cases c:fw cl (k:Int)=(k:Int)
   .rw[aS c]
    by_cases r:0<=(k:Int)/\(k:Int)<cl.length
    .rw[mG r,ef]at c
     have e:ct cl k=k:=J
     unfold bJ zI
     rw[aS r,gB,ef]
     have:=(wP (l:=List.range cl.length) (p:=fun j=>ct cl k==ct cl j) (q:=fun j=>ct cl k==ct cl j&&decide (ct cl k=k)) fun x _ q=>by rw[cG,eo];exact⟨q,e⟩).1
     omega
    rw[Iy r]at c;omega
   rw[aR c];exact mW _
  omega
theorem anj{cl:List Nat}(h:A8 cl)(k:Nat):coJ cl k<=cl.length:=by grind[apo,ct]
def Na(cl jF:List Nat)(k a:Nat):Nat:=if ct jF a<k then 2*ct jF a else 2*ct cl a+1
structure CoA(au:List pg)(aX:List Int)(qs:List dw)(cl jF:List Nat)(n:Nat)(X:Nat->Prop)(w0:List (BitVec 64))(k:Nat)(c:yl):Prop where
 j:Zv au aX qs (Na cl jF k) n X c
 ws:∀j,j<n->k<=ct jF j->c.a6.getD j 0=w0.getD j 0
section
variable{us:List jM}{au:List pg}{aX:List Int}{qs:List dw}{cl jF:List Nat}{n k:Nat}{X:Nat->Prop}{c:yl}{w0 rs:List (BitVec 64)}
structure RgN(au:List pg)(aX:List Int)(qs:List dw)(jF:List Nat)(n:Nat)(w0 rs:List (BitVec 64)):Prop where
 ok:A8 jF
 len:jF.length=n
 ring:∀v,v<n->ct jF v=v->qb (j8 au aX n) (Oq au n qs (rs.getD v 0)) fun j=>j<n/\ct jF j=v
 sh:∀a b,a<n->b<n->ct jF a=ct jF b->(j8 au aX n).sh a=(j8 au aX n).sh b
 ws:∀v,v<n->dX (w0.getD v 0) (rs.getD (ct jF v) 0)=true
theorem CoA.step(hq:VF au aX n qs)(hu:OD us qs n)(hr:RgN au aX qs jF n w0 rs)(h:CoA au aX qs cl jF n X w0 k c)(hk:k<n):CoA au aX qs cl jF n X w0 (k+1) (co1 jF us au aX rs c k):=by
 have hn:(j8 au aX n).n=n:=rfl
 have hi:=hr.len
 have ck:=ain (cl:=jF) (us:=us) (au:=au) (aX:=aX) (rs:=rs) (s:=c) (v:=k) hu.hu (by rw[hi,hu.len]) h.j.ck
 have lv:=h.j.ck.lv
 have ly:=h.j.ck.ly
 have si:=h.j.si
 have no:(∀a b,a<n->b<n->Na cl jF (k+1) a=Na cl jF (k+1) b->Na cl jF k a=Na cl jF k b)->co1 jF us au aX rs c k=c->CoA au aX qs cl jF n X w0 (k+1) (co1 jF us au aX rs c k):=fun hf e=>by
  rw[e];exact⟨⟨h.j.ck,si.aiS hf⟩,fun j hj hjk=>h.ws j hj J⟩
 by_cases c1:ct jF k=k
 .obtain⟨t,ht⟩:=VI hr.ok J c1
  have hCi:∀i:Nat,(i:Int)∈bJ jF (k:Int)↔i<n/\ct jF i=k:=fun i=>by
   rw[IJ,ef,ef,c1]
   exact⟨fun⟨a,b,c,d⟩=>⟨J,d⟩,fun⟨a,b⟩=>⟨J,J,J,b⟩⟩
  have fk:fw jF (k:Int)=k:=by rw[mG J,ef,c1]
  by_cases c2:(bJ jF (k:Int)).length≠1
  .have hks:∀j∈bJ jF (k:Int),0<=j/\j<(n:Int):=fun j hj=>by have:=mi hj;omega
   have e0:co1 jF us au aX rs c k=_:=abr (k:=(k:Int)) J fk c2
   simp only[ef]at e0
   have hfit:∀j:Nat,j<n->ct jF j=k->cF ((j8 au aX n).sh k) (c.aj.getD j dH)=true:=fun j hj e=>by
    rw[<-hr.sh j k hj hk (by rw[e,c1])];exact si.low.fit j hj
   have hdr:∀j∈(bJ jF (k:Int)).drop 1,0<=j/\j.toNat<n/\ct jF j.toNat=k:=fun j hj=>by
    have hm:=rI hj
    have:=hks j hm
    have:=(hCi j.toNat).1 (by rw[fW J];exact hm)
    exact⟨J,this⟩
   obtain⟨e1,e2,e3,e4⟩:=abx (sh:=(j8 au aX n).sh k) (aj:=c.aj) (ks:=(bJ jF (k:Int)).drop 1) (e:=c.aj.getD k dH) (hfit k hk c1) fun j hj=>hfit _ (hdr j hj).2.1 (hdr j hj).2.2
   have eq:vz (au.getD (aX.getD k 0).toNat o3).p.sh c.aj (c.aj.getD k dH) ((bJ jF (k:Int)).drop 1)=vz ((j8 au aX n).sh k) c.aj (c.aj.getD k dH) ((bJ jF (k:Int)).drop 1):=rfl
   rw[eq]at e0
   generalize hE:vz ((j8 au aX n).sh k) c.aj (c.aj.getD k dH) ((bJ jF (k:Int)).drop 1)=e at*
   have hwC:∀j,j<n/\ct jF j=k->dX (wQ c.a6 j) (rs.getD k 0)=true:=fun j hj=>by
    have:=hr.ws j hj.1
    rw[hj.2]at this
    show dX (c.a6.getD j 0) _=true
    rw[h.ws j hj.1 J];exact this
   have VG:=hr.ring k hk c1
   have h1:=si.merge (C:=fun j=>j<n/\ct jF j=k) (e:=e) (W:=rs.getD k 0) (k:=k) (VE:=Na cl jF (k+1)) (P':=fun i=>(i:Int)∈(xz c.aj us (c.wl,c.wi) (bJ jF (k:Int)) e).2.1\/X i)
    (fun j hj=>⟨J,hwC j hj⟩) (fun a b ha hb=>hr.sh a b ha.1 hb.1 (by rw[ha.2,hb.2])) VG ⟨hk,c1⟩ e1
    (fun u hu2=>by
     have hle:∀j,j<n/\ct jF j=k->cT (c.aj.getD j dH) (u k)=true:=fun j hj=>fg (si.why j J u (hu2.less fun q hq=>si.mok _ _ _ (hwC j hj) hq)) (kS (VG u hu2 j k hj ⟨hk,c1⟩))
     exact e4 _ (hu2.fit k J) (hle k ⟨hk,c1⟩) fun j hj=>hle _ (hdr j hj).2)
    (fun j hj=>by
     have:=(hCi j).2 hj
     rw[ht]at this
     rcases cQ.1 this with q|q
     .have:j=k:=J
      subst this;exact e2
     have:=e3 (j:Int) (by rw[ht];exact q)
     rwa[ef]at this)
    (fun a b ha hb hab=>by
     unfold Na at hab⊢
     by_cases ca:ct jF a<k+1<;>by_cases cb:ct jF b<k+1
     .rw[aS ca,aS cb]at hab
      by_cases q:ct jF a=k
      .exact .inl ⟨⟨J,q⟩,⟨J,J⟩⟩
      refine .inr ⟨fun x=>q x.2,fun x=>q J,?_⟩
      rw[aS J,aS J];omega
     .rw[aS ca,aR cb]at hab;omega
     .rw[aR ca,aS cb]at hab;omega
     rw[aR ca,aR cb]at hab
     refine .inr ⟨fun x=>J,fun x=>J,?_⟩
     rw[aR J,aR J];omega)
    (fun j hj hp=>hp.elim (fun q=> .inl (KM q)) .inr)
    (fun j hj y hy hc hne=>by
     have hjm:=hq _ (dh (d:=cP) (l:=qs) (k:=(j:Int)) J J)
     rw[ef]at hjm
     rw[GF hjm.2]at hy
     obtain⟨z,hz,rfl⟩:=fX.1 hy
     have hz0:0<=z:=by
      have:=hz
      rw[hjm.2]at this
      obtain⟨a,ha,ho,h0,rfl⟩:=ow.1 this
      exact h0
     refine .inl (Zu hu.hu (k:=z.toNat) (j:=(j:Int)) ?_ h.j.ck.wq h.j.ck.li (fun k hk=>by have:=hks k hk;have:=hu.len;omega) (by rw[hu.len];exact lv) ((hCi _).2 hc) hne)
     rw[hu.is _ J]
     refine Cz.2 ⟨J,?_⟩
     rw[ef,fW hz0];exact hz)
   refine⟨⟨ck,?_⟩,fun j hj hjk=> ?_⟩
   .rw[e0]
    simp only[yh]
    rw[aiF (by rw[lv];exact hks),aiG (by rw[ly];exact hks),M8 hCi,M9 hCi]
    exact h1
   rw[e0]
   simp only
   rw[r9 J fun q hq=>(hks q hq).1,aR fun q=>by have:=(hCi j).1 q;omega]
   exact h.ws j hj J
  have c2:(bJ jF (k:Int)).length=1:=KY c2
  refine no (fun a b ha hb hab=> ?_) (SH (k:=(k:Int)) J fun q=>q.2 c2)
  have one:∀a,a<n->ct jF a=k->a=k:=fun a ha e=>by
   have:=(hCi a).2 ⟨ha,e⟩
   rw[ht]at this c2
   have:t=[]:=by cases t with
    |nil=>rfl
    |cons _ _=>simp at c2
   subst this
   have:=dY.1 ‹(a:Int)∈[(k:Int)]›
   omega
  unfold Na at hab⊢
  by_cases ca:ct jF a<k+1<;>by_cases cb:ct jF b<k+1
  .rw[aS ca,aS cb]at hab
   by_cases q:ct jF a=k
   .have:=one a ha q;have:=one b hb J;subst this;subst a;rfl
   rw[aS J,aS J];omega
  .rw[aS ca,aR cb]at hab;omega
  .rw[aR ca,aS cb]at hab;omega
  rw[aR ca,aR cb]at hab
  rw[aR J,aR J];omega
 refine no (fun a b ha hb hab=> ?_) (SH (k:=(k:Int)) J fun q=>c1 (by have:=q.1;rw[mG J,ef]at this;omega))
 have one:∀a,a<n->ct jF a≠k:=fun a ha e=>c1 (by have:=(hr.ok a J).2;rw[e]at this;exact this)
 have:=one a ha;have:=one b hb
 unfold Na at hab⊢
 by_cases ca:ct jF a<k+1<;>by_cases cb:ct jF b<k+1
 .rw[aS ca,aS cb]at hab
  rw[aS J,aS J];omega
 .rw[aS ca,aR cb]at hab;omega
 .rw[aR ca,aS cb]at hab;omega
 rw[aR ca,aR cb]at hab
 rw[aR J,aR J];omega
theorem CoA.all(hq:VF au aX n qs)(hu:OD us qs n)(hr:RgN au aX qs jF n w0 rs)(h:CoA au aX qs cl jF n X w0 0 c):∀k,k<=n->CoA au aX qs cl jF n X w0 k (coA jF us au aX rs c k)
 |0,_=>h
 |k+1,hk=>by
  have e:=Cu (cl:=jF) (us:=us) (au:=au) (aX:=aX) (rs:=rs) (s:=c) (k:=(k:Int)) J
  rw[show((k:Int)+1).toNat=k+1 by omega,ef]at e
  rw[e];exact(CoA.all hq hu hr h k J).step hq hu hr J
theorem VF.pl(h:VF au aX n qs):Vl n qs:=fun q hq hp=>by
 obtain⟨h1,h2⟩:=h q hq
 obtain⟨a,b,_,_⟩:=D9 h1 h2 hp
 refine⟨?_,a,b.2⟩
 obtain⟨y,hy,ho,h0⟩:=GD hp
 have:=h1.var y (by rw[hy];simp) ho
 rw[h2,hy];unfold bS;simp[ho,this.1,sZ]
theorem ank{cs:List (List Nat)}{aj:List El}{a6:List (BitVec 64)}{P:Nat->Prop}(hq:VF au aX n qs)(hc:A8 (bq cs))(hl:(bq cs).length=n)
  (si:mj (j8 au aX n) (fun i=>uf au n (qs.getD i cP)) (fun i=>(qs.getD i cP).why) qs.length (Oq au n qs) (vQ aj) (wQ a6) (ct (bq cs)) P):
  MgK (bq cs) (bq (sC cs (oV (cz n qs)) n)) (oV (cz n qs)) n n/\RgN au aX qs (bq (sC cs (oV (cz n qs)) n)) n a6 (Cs (bq (sC cs (oV (cz n qs)) n)) a6 n qs):=by
 have gl:(cz n qs).length=n:=Fk n qs
 have hp:=hq.pl
 have hpv:∀q∈qs,EP q=true->0<=xO q:=fun q h1 h2=>(hp q h1 h2).2.1.1
 have oin:∀v,v<n->0<=(oV (cz n qs)).getD v 0/\(oV (cz n qs)).getD v 0<n:=fun v hv=>by
  obtain⟨j,e,hj⟩:=(SP (gl:=cz n qs) (v:=v) J).is
  have:=ani hj.1 J
  omega
 have mg:=aiP hc hl oin n (er _)
 have l2:(bq (sC cs (oV (cz n qs)) n)).length=n:=by rw[wO];exact hl
 have hR:=anh (ws:=a6) mg.ok l2 hp
 refine⟨mg,?_⟩
 generalize bq (sC cs (oV (cz n qs)) n)=jF at*
 have both:∀a b,a<n->b<n->sY (vi (cz n qs)) a b->ct jF a=ct jF b:=fun a b ha hb h=>by
  rw[mg.ahZ a ha,mg.ahZ b hb,aiQ J J h]
 have arc:∀a b,vi (cz n qs) a b->∃q∈qs,EP q=true/\xO q=a/\q.to.var=b:=fun a b h=>axk hpv h
 have ash:∀a b,vi (cz n qs) a b->(j8 au aX n).sh a=(j8 au aX n).sh b:=fun a b h=>by
  obtain⟨q,h1,h2,h3,h4⟩:=arc a b h
  have:=(D9 (hq q h1).1 (hq q h1).2 h2).2.2.2
  rwa[h3,h4,ef,ef]at this
 have wsh:∀a b,jN (vi (cz n qs)) a b->(j8 au aX n).sh a=(j8 au aX n).sh b:=fun a b h=>by
  induction h with
  |refl=>rfl
  |step _ e ih=>exact ih.trans (ash _ _ e)
 have abz:∀a b:Nat,a<n->(b:Int)=(oV (cz n qs)).getD a 0->sY (vi (cz n qs)) a b:=fun a b ha e=>by
  obtain⟨j,ej,hj⟩:=(SP (gl:=cz n qs) (v:=a) J).is
  have:b=j:=J
  subst this;exact hj
 refine⟨mg.ok,l2,fun v hv hvv=> ?_,fun a b ha hb e=> ?_,hR.1⟩
 .have aEh:∀(z:Nat) (Q:tg->Prop),qb (j8 au aX n) Q fun j=>j=z:=fun z Q u hu i k hi hk=>by
   rw[hi,hk];exact fun _ _=>rfl
  refine aiE fun i k hi hk=> ?_
  have w:=mg.way i k hi.1 hk.1 (by rw[hi.2,hk.2])
  have step:∀a b,Ec (bq cs) (oV (cz n qs)) n n a b->ct jF a=v->jN (fun a b=>(∃q,Oq au n qs ((Cs jF a6 n qs).getD v 0) q/\Fp (j8 au aX n) q a b)\/∃D:Nat->Prop,D a/\D b/\qb (j8 au aX n) (Oq au n qs ((Cs jF a6 n qs).getD v 0)) D) a b/\ct jF b=v:=by
   have kn:∀a b,a<n->b<n->sY (vi (cz n qs)) a b->ct jF a=v->jN (fun a b=>(∃q,Oq au n qs ((Cs jF a6 n qs).getD v 0) q/\Fp (j8 au aX n) q a b)\/∃D:Nat->Prop,D a/\D b/\qb (j8 au aX n) (Oq au n qs ((Cs jF a6 n qs).getD v 0)) D) a b:=fun a b ha hb hab hav=>
    aiR (E:=vi (cz n qs)) (fun y c e hy hc'=>by
     by_cases q:y=c
     .subst q;exact .inr ⟨fun j=>j=y,rfl,rfl,aEh y _⟩
     obtain⟨q2,h1,h2,h3,h4⟩:=arc y c e
     have yn:y<n:=by have:=e.1;omega
     have cn:c<n:=by have:=e.2.1;omega
     have cy:ct jF y=v:=by rw[<-both a y ha yn hy];exact hav
     have cc:ct jF c=v:=by rw[<-both a c ha cn hc'];exact hav
     have hw:=hR.2 q2 h1 h2 J (by rw[h3,h4,ef,ef,cy,cc])
     rw[h4,ef,cc]at hw
     have hpq:=(D9 (hq q2 h1).1 (hq q2 h1).2 h2).2.2.1
     rw[h3,h4,ef,ef]at hpq
     obtain⟨i,hi,ei⟩:=th h1
     exact .inl ⟨_,⟨i,hi,by rw[getD_eq hi,ei],by rw[getD_eq hi,ei];exact hw⟩,hpq⟩) hab.1 hab.2
   rintro a b ⟨ha,hb,hs|⟨_,hs⟩|⟨_,hs⟩⟩ hav
   .have e2:=mg.more a b ha hb hs
    refine⟨.one (.inr ⟨fun j=>j<n/\ct (bq cs) j=ct (bq cs) a,⟨ha,rfl⟩,⟨hb,hs.symm⟩,?_⟩),by rw[<-e2];exact hav⟩
    have:=(si.ring a a ha ha O).2.2.2
    have hs2:=hR.1 a ha
    rw[hav]at hs2
    exact this.more fun q hq=>si.mok _ _ _ hs2 hq
   .have WV:=abz a b ha hs
    exact⟨kn a b ha hb WV hav,by rw[<-both a b ha hb WV];exact hav⟩
   have WV:=abz b a hb hs
   have hb3:sY (vi (cz n qs)) a b:=⟨WV.2,WV.1⟩
   exact⟨kn a b ha hb hb3 hav,by rw[<-both a b ha hb hb3];exact hav⟩
  have key:∀b,jN (Ec (bq cs) (oV (cz n qs)) n n) i b->jN (fun a b=>(∃q,Oq au n qs ((Cs jF a6 n qs).getD v 0) q/\Fp (j8 au aX n) q a b)\/∃D:Nat->Prop,D a/\D b/\qb (j8 au aX n) (Oq au n qs ((Cs jF a6 n qs).getD v 0)) D) i b/\ct jF b=v:=fun b wb=>by
   induction wb with
   |refl=>exact⟨.refl _,hi.2⟩
   |step _ e ih=>obtain⟨s1,s2⟩:=step _ _ e ih.2;exact⟨ih.1.trans s1,s2⟩
  exact(key k w).1
 have w:=mg.way a b ha hb e
 induction w with
 |refl=>rfl
 |step w1 e1 ih=>
  obtain⟨h1,h2,h3⟩:=e1
  have e3:∀x y,x<n->y<n->Ec (bq cs) (oV (cz n qs)) n n x y->ct jF x=ct jF y/\(j8 au aX n).sh x=(j8 au aX n).sh y:=fun x y hx hy hs=>by
   rcases hs.2.2 with q|⟨_,q⟩|⟨_,q⟩
   .exact⟨mg.more x y hx hy q,(si.ring x y hx hy q).1⟩
   .have:=abz x y hx q
    exact⟨both x y hx hy this,wsh _ _ this.1⟩
   have:=abz y x hy q
   exact⟨(both y x hy hx this).symm,wsh _ _ this.2⟩
  have:=e3 _ _ h1 h2 ⟨h1,h2,h3⟩
  exact(ih h1 (by rw[this.1];exact e)).trans this.2
end
structure yo(s:NP):Prop where
 ok:DL s
 fit:VF s.au s.aX s.aj.length s.qs
 us:s.us=(List.range s.aj.length).map (xB s.qs)
 cl:A8 (bq s.cs)
 si:mj (j8 s.au s.aX s.aj.length) (fun i=>uf s.au s.aj.length (s.qs.getD i cP)) (fun i=>(s.qs.getD i cP).why) s.qs.length (Oq s.au s.aj.length s.qs) (vQ s.aj) (wQ s.a6) (ct (bq s.cs)) fun i=>s.sn<=i
def muM(s:NP):Nat:=s.qs.length+((s.qs.map fun q=>df (ym s.au q)*q.vars.length).sum).toNat
theorem OD.of{us:List jM}{qs:List dw}{n:Nat}(h:pO us=(List.range n).map (xB qs)):OD us qs n:=by
 have hl:us.length=n:=by have:=aJ List.length h;rwa[gd,gB,Q8]at this
 refine⟨hl,fun k hk=> ?_⟩
 rw[<-Cw,h,eS,pW,yN hk];rfl
noncomputable abbrev oY(us:List jM)(s:NP):CoO:=sj s.cs us s.au s.aX s.qs s.sn s.aj.length ⟨s.aj,s.a6,[],List.replicate s.qs.length false⟩
abbrev JN(s:NP)(cl:List Nat):yl->Prop:=Zv s.au s.aX s.qs (ct cl) s.aj.length fun _=>False
theorem SQ{s:NP}(h:yo s){us:List jM}(xA:pO us=s.us):Zv s.au s.aX s.qs (ct (bq (oY us s).cs)) s.aj.length (fun i=>s.sn<=(i:Int)) (oY us s).s/\A8 (bq (oY us s).cs)/\(bq (oY us s).cs).length=s.aj.length/\(oY us s).j<=s.aj.length:=by
 have hu:=OD.of (xA.trans h.us)
 have h0:Qg s.qs.length s.aj.length s.aj.length ⟨s.aj,s.a6,[],List.replicate s.qs.length false⟩:=⟨rfl,h.ok.TG,aF,IK _⟩
 have j0:Zv s.au s.aX s.qs (ct (bq s.cs)) s.aj.length (fun i=>s.sn<=(i:Int)) ⟨s.aj,s.a6,[],List.replicate s.qs.length false⟩:=⟨h0,h.si.aiD fun i _ q=> .inr q⟩
 unfold oY sj
 split
 .obtain⟨mg,rg⟩:=ank h.fit h.cl h.ok.kD h.si
  simp only
  split
  .rename_i hle
   have e:=Zw h.cl mg.ok (by rw[wO]) (fun a b ha hb=>mg.more a b (by have:=h.ok.kD;omega) (by have:=h.ok.kD;omega)) hle
   have kD:=h.ok.kD
   refine⟨⟨j0.ck,j0.si.aiS fun i k hi hk q=> ?_⟩,mg.ok,rg.len,mW _⟩
   have hi':i<s.aj.length:=hi;have hk':k<s.aj.length:=hk
   rw[e i J,e k J]at q;exact q
  have kD:=h.ok.kD
  have c0:CoA s.au s.aX s.qs (bq s.cs) (bq (sC s.cs (oV (cz s.aj.length s.qs)) s.aj.length)) s.aj.length (fun i=>s.sn<=(i:Int)) s.a6 0 ⟨s.aj,s.a6,[],List.replicate s.qs.length false⟩:=⟨⟨j0.ck,j0.si.aiS fun i k hi hk q=>by
   unfold Na at q
   rw[aR J,aR J]at q;omega⟩,fun j _ _=>rfl⟩
  have ca:=CoA.all h.fit hu rg c0 s.aj.length (er _)
  refine⟨⟨ca.j.ck,ca.j.si.aiS fun i k hi hk q=> ?_⟩,mg.ok,rg.len,by have:=anj mg.ok s.aj.length;rw[rg.len]at this;exact this⟩
  have hi':i<s.aj.length:=hi;have hk':k<s.aj.length:=hk
  have h1:=mg.ok i (by rw[rg.len];exact hi');have h2:=mg.ok k (by rw[rg.len];exact hk')
  unfold Na
  rw[aS J,aS J,q]
 exact⟨j0,h.cl,h.ok.kD,mW _⟩
theorem VJ{s:NP}(h:yo s){us:List jM}(xA:pO us=s.us):JN s (bq (oY us s).cs) (Vx (oY us s).s s.sn s.qs.length)/\muN s.au s.aX s.aj.length s.qs (Vx (oY us s).s s.sn s.qs.length)<=muM s:=by
 obtain⟨j,_,_,_⟩:=SQ h xA
 have ck:=ast (c:=(oY us s).s) j.ck (sn:=s.sn) h.ok.WS.1
 have hup:∀i∈upI s.sn ((s.qs.length:Int)-s.sn).toNat,0<=i/\i<((oY us s).s.wi.length:Int):=fun i hi=>by
  obtain⟨x,hx,rfl⟩:=fX.1 hi
  have:=pX.1 hx
  have:=j.ck.li
  have:=h.ok.WS
  omega
 have hs:=h.ok.WS
 refine⟨⟨ck,j.si.aiD fun i hi hp=> .inl ?_⟩,?_⟩
 .rcases hp with q|q
  .exact GC q
  refine SK j.ck.wq hup ?_
  exact fX.2 ⟨((i:Int)-s.sn).toNat,pX.2 J,J⟩
 have h1:=ck.wq.len
 have h2:=ck.li
 have h3:oW (j8 s.au s.aX s.aj.length) (SJ s.au s.aj.length s.qs) (vQ (oY us s).s.aj) s.aj.length<=((s.qs.map (uf s.au s.aj.length)).map fun q=>df q.sh*q.vars.length).sum:=Vk fun q hq x hx=>by
  obtain⟨p,hp,rfl⟩:=fX.1 hq
  exact aic (h.fit p hp).1 hx
 rw[Li]at h3
 have e:s.qs.map ((fun q:tg=>df q.sh*(q.vars.length:Int))∘uf s.au s.aj.length)=s.qs.map fun q=>df (ym s.au q)*(q.vars.length:Int):=ED fun q hq=>by
  show df (ym s.au q)*((uf s.au s.aj.length q).vars.length:Int)=_
  rw[GF (h.fit q hq).2,gB]
 rw[e]at h3
 unfold muN muM
 show(Vx (oY us s).s s.sn s.qs.length).wl.length+(oW _ _ (vQ (oY us s).s.aj) _).toNat<=_
 omega
theorem Jx{sh:Sh}{l:List dz}{v v':List El}(h:∀x∈l,x.op=1->0<=x.n/\x.n<v.length/\x.n<v'.length/\v.getD x.n.toNat dH=v'.getD x.n.toNat dH):fY sh l v=fY sh l v':=by
 have hs:∀(m:List dz),(∀x∈m,x∈l)->∀o,m.foldl (AE sh v) o=m.foldl (AE sh v') o:=by
  intro m
  induction m with
  |nil=>intros;rfl
  |cons x m ih=>
   intro hm o
   have e:AE sh v o x=AE sh v' o x:=by
    unfold AE
    by_cases c:x.op=1
    .obtain⟨h0,h1,h2,h3⟩:=h x (hm x aF) c
     simp only[c,uL,aS (show 0<=x.n/\x.n<v.length from⟨h0,h1⟩),aS (show 0<=x.n/\x.n<v'.length from⟨h0,h2⟩),h3]
    simp only[c,xj]
   rw[rA,rA,e]
   exact ih (fun y hy=>hm y (fC _ hy)) _
 have e:ix sh v l l.length=ix sh v' l l.length:=hs _ (fun x hx=>rH hx) _
 unfold fY
 rw[e]
theorem Nb{sh:Sh}{code:List dz}{to:iw}{n n':Nat}(h:∀x∈code,x.op=1->0<=x.n/\x.n<n)(hn:n<=n'):Cr n' sh code to=Cr n sh code to:=by
 unfold Cr
 congr 1
 funext u
 congr 1
 refine Jx fun x hx ho=> ?_
 obtain⟨h0,h1⟩:=h x hx ho
 refine⟨h0,by simp;omega,by simp;omega,?_⟩
 rw[qc J,qc J]
theorem aiU{au apq:List pg}{aX:List Int}{n n':Nat}{q:dw}(h:Za (j8 au aX n) (ym au q) q.code q.to)(hn:n<=n')(hs:ym apq q=ym au q):uf apq n' q=uf au n q:=by
 unfold uf
 rw[hs]
 exact Nb (fun x hx ho=>by have:=h.var x hx ho;exact⟨this.1,this.2.1⟩) hn
section
variable{S S':Sys}{Q Q':Nat->tg}{y y':Nat->BitVec 64}{N:Nat}{M M':Qm}{v v':Va}{ws ws':Nat->BitVec 64}{rep aiV:Nat->Nat}{P:Nat->Prop}{q:tg}
theorem ud.wide(h:ud S q)(hn:S.n<=S'.n)(hs:∀i,i<S.n->S'.sh i=S.sh i):ud S' q:=by
 have hf:∀u,pP S' u->pP S u:=fun u hu i hi=>by rw[<-hs i hi];exact hu i J
 exact⟨fun u hu=>h.fit u (hf u hu),fun i hi=>by have:=h.lt i hi;omega,fun u w hu hw hl=>h.Qb u w (hf u hu) (hf w hw) hl,fun k hk=>by
  obtain⟨h1,h2⟩:=h.to k hk
  exact⟨J,by rw[hs k h1];exact h2⟩⟩
theorem pP.less{u:Va}(h:pP S' u)(hn:S.n<=S'.n)(hs:∀i,i<S.n->S'.sh i=S.sh i):pP S u:=fun i hi=>by rw[<-hs i hi];exact h i J
theorem mj.wide(h:mj S Q y N M v ws rep P)(hn:S.n<=S'.n)(hs:∀i,i<S.n->S'.sh i=S.sh i)(hv:∀i,i<S.n->v' i=v i)(hw:∀i,i<S.n->ws' i=ws i)
  (hb:∀i,S.n<=i->i<S'.n->lW (S'.sh i)=true/\v' i=iu (S'.sh i) eY) (hr:∀i k,i<S'.n->k<S'.n->aiV i=aiV k->i=k\/(i<S.n/\k<S.n/\rep i=rep k)):mj S' Q y N M v' ws' aiV P:=by
 have asC:∀(R:tg->Prop) u,uv S' R u->uv S R u:=fun R u hu=>⟨hu.fit.less hn hs,hu.hold⟩
 refine⟨fun i hi=>⟨(h.ok i hi).1.wide hn hs,(h.ok i hi).2⟩,h.all,h.mok,⟨fun i hi=> ?_,fun u hu i hi=> ?_⟩,fun k hk u hu=> ?_,fun i k hi hk e=> ?_,fun i hi hp=> ?_⟩
 .by_cases c:i<S.n
  .rw[hs i c,hv i c];exact h.low.fit i c
  obtain⟨h1,h2⟩:=hb i J hi
  rw[h2];exact(Pu h1).1
 .by_cases c:i<S.n
  .rw[hv i c];exact h.low.low u (asC _ u hu) i c
  obtain⟨h1,h2⟩:=hb i J hi
  rw[h2];exact(Pu h1).2 _ (hu.fit i hi)
 .by_cases c:k<S.n
  .rw[hv k c]
   rw[hw k c]at hu
   exact h.why k c u (asC _ u hu)
  obtain⟨h1,h2⟩:=hb k J hk
  rw[h2];exact(Pu h1).2 _ (hu.fit k hk)
 .have ring:qb S' (M (ws' i)) fun j=>j<S'.n/\aiV j=aiV i:=fun u hu a b ha WV=>by
   have h1:=hr a i ha.1 hi ha.2
   have h2:=hr b i WV.1 hi WV.2
   by_cases c:i<S.n
   .rw[hw i c]at hu
    refine(h.ring i i c c O).2.2.2 u (asC _ u hu) a b ?_ ?_
    .rcases h1 with e1|e1
     .rw[e1];exact⟨c,rfl⟩
     exact⟨e1.1,e1.2.2⟩
    rcases h2 with e1|e1
    .rw[e1];exact⟨c,rfl⟩
    exact⟨e1.1,e1.2.2⟩
   have ea:a=i:=h1.resolve_right fun q=>c q.2.1
   have eb:b=i:=h2.resolve_right fun q=>c q.2.1
   rw[ea,eb];exact fun _ _=>rfl
  rcases hr i k hi hk e with e1|⟨c1,c2,e1⟩
  .subst e1;exact⟨rfl,fun _ _=>rfl,rfl,ring⟩
  obtain⟨r1,r2,r3,_⟩:=h.ring i k c1 c2 e1
  exact⟨by rw[hs i c1,hs k c2];exact r1,by rw[hv i c1,hv k c2];exact r2,by rw[hw i c1,hw k c2];exact r3,ring⟩
 have ho:=(h.ok i hi).1
 have hold:=h.hold i hi hp
 have fv:pP S v':=fun j hj=>by rw[hv j hj];exact h.low.fit j hj
 have e1:cT ((Q i).ev v') ((Q i).ev v)=true:=ho.Qb _ _ fv h.low.fit fun j hj=>by rw[hv j (ho.lt j hj)];exact jR _
 unfold e8 tg.rhs at hold⊢
 cases ht:(Q i).to with
 |none=>rw[ht]at hold;exact fg e1 hold
 |some x=>
  rw[ht]at hold
  show cT _ (v' x)=true
  rw[hv x (ho.to x ht).1]
  exact fg e1 hold
theorem mj.congr(h:mj S Q y N M v ws rep P)(hq:∀i,i<N->Q' i=Q i/\y' i=y i):mj S Q' y' N M v ws rep P:=by
 refine⟨fun i hi=>by rw[(hq i hi).1,(hq i hi).2];exact h.ok i hi,fun a q ha=> ?_,h.mok,⟨h.low.fit,fun u hu=>h.low.low u ⟨hu.fit,fun q ⟨i,hi,e⟩=>hu.hold q ⟨i,hi,by rw[(hq i hi).1];exact e⟩⟩⟩,h.why,h.ring,fun i hi hp=>by rw[(hq i hi).1];exact h.hold i hi hp⟩
 obtain⟨i,hi,e⟩:=h.all a q ha
 exact⟨i,hi,by rw[(hq i hi).1];exact e⟩
end
theorem DL.var{s:NP}(h:DL s){l:Int}(hl:0<=l/\l<s.au.length){e:El}(hn:s.aj.length<1000):DL (qn s l e):=by
 have hln:(bq (Sw s.cs)).length=(bq s.cs).length+1:=by
  show((bq s.cs)++[(bq s.cs).length]).length=_
  simp
 have h1:=h.TG;have h2:=h.Oo;have h3:=h.kD;have h4:=h.Qi;have h5:=h.hlt
 refine⟨by simp[qn,h1],by simp[qn,h2],by show(bq (Sw s.cs)).length=_;rw[hln];simp[qn,h3],by simp[qn];omega,h.WS,h.hqn,fun q hq=> ?_,by simp[qn,h5],fun k hk=> ?_,fun k hk=> ?_⟩
 .have:=h.hqo q hq
  refine⟨this.aX,this.code,?_,fun hp=> ?_,fun v hv=> ?_⟩
  .have:=this.to;simp[qn];omega
  .have:=this.pl hp;simp[qn];omega
  have:=this.vars v hv;simp[qn];omega
 .show 0<=(s.aX++[l]).getD k 0/\(s.aX++[l]).getD k 0<s.au.length
  rw[M5]
  by_cases c:k<s.aX.length
  .rw[aS c];exact h.hlr k c
  have:k=s.aX.length:=by simp[qn]at hk;omega
  rw[aR c,aS this];exact hl
 show((s.us++[[]]).getD k []).length<=1000/\∀i∈(s.us++[[]]).getD k [],0<=i/\i<(s.qs.length:Int)
 rw[M5]
 by_cases c:k<s.us.length
 .rw[aS c];exact h.xA k c
 rw[aR c]
 split<;>exact⟨aF,fun i hi=>by cases hi⟩
theorem yo.var{s:NP}(h:yo s){l:Int}(hl:0<=l/\l<s.au.length)(hs:lW (s.au.getD l.toNat o3).p.sh=true){e:El}(he:e=iu (s.au.getD l.toNat o3).p.sh eY)(hn:s.aj.length<1000):yo (qn s l e):=by
 have hok:=h.ok
 have h1:=hok.TG;have h3:=hok.kD;have h5:=hok.hlt
 have el:(qn s l e).aj.length=s.aj.length+1:=by simp[qn]
 have hsh:∀i,i<s.aj.length->(j8 s.au (s.aX++[l]) (s.aj.length+1)).sh i=(j8 s.au s.aX s.aj.length).sh i:=fun i hi=>by
  show(s.au.getD ((s.aX++[l]).getD i 0).toNat o3).p.sh=(s.au.getD (s.aX.getD i 0).toNat o3).p.sh
  rw[oa J]
 have hq:∀i,uf s.au (s.aj.length+1) (s.qs.getD i cP)=uf s.au s.aj.length (s.qs.getD i cP):=fun i=>by
  by_cases c:i<s.qs.length
  .have hm:=dh (d:=cP) (l:=s.qs) (k:=(i:Int)) J J
   rw[ef]at hm
   exact aiU (h.fit _ hm).1 J O
  rw[eS,ny J]
  exact Nb (fun x hx=>by cases hx) J
 have hM:Oq s.au (s.aj.length+1) s.qs=Oq s.au s.aj.length s.qs:=by
  funext a q
  unfold Oq
  exact propext ⟨fun⟨i,h1,h2,h3⟩=>⟨i,h1,by rw[<-hq];exact h2,h3⟩,fun⟨i,h1,h2,h3⟩=>⟨i,h1,by rw[hq];exact h2,h3⟩⟩
 refine⟨hok.var hl hn,fun q hq2=> ?_,?_,?_,?_⟩
 .obtain⟨hf,hv⟩:=h.fit q hq2
  rw[el]
  refine⟨⟨hf.right,fun x hx ho=> ?_,hf.con,hf.to0,fun h0=> ?_⟩,hv⟩
  .obtain⟨a,b,c⟩:=hf.var x hx ho
   have b':x.n<(s.aj.length:Int):=b
   exact⟨a,by show x.n<((s.aj.length+1:Nat):Int);omega,(hsh _ J).trans c⟩
  obtain⟨b,c⟩:=hf.to1 h0
  have b':q.to.var<(s.aj.length:Int):=b
  exact⟨by show q.to.var<((s.aj.length+1:Nat):Int);omega,(hsh _ J).trans c⟩
 .rw[el,xa,gz]
  show s.us++[[]]=_
  rw[h.us]
  have:xB s.qs s.aj.length=[]:=by
   refine QW.2 fun i hi=> ?_
   obtain⟨h1,h2⟩:=Cz.1 hi
   have:=(hok.hqo _ (dh (d:=cP) (l:=s.qs) h1.1 h1.2)).vars _ h2
   omega
  show _=(List.range s.aj.length).map (xB s.qs)++[xB s.qs s.aj.length]
  rw[this]
 .intro i hi
  show ct (bq s.cs++[(bq s.cs).length]) i<=i/\ct (bq s.cs++[(bq s.cs).length]) (ct (bq s.cs++[(bq s.cs).length]) i)=ct (bq s.cs++[(bq s.cs).length]) i
  have hi2:i<(bq s.cs).length+1:=by
   have:(bq (Sw s.cs)).length=(bq s.cs).length+1:=by show((bq s.cs)++[(bq s.cs).length]).length=_;simp
   exact this▸hi
  by_cases c:i<(bq s.cs).length
  .have q:=h.cl i c
   have e1:ct (bq s.cs++[(bq s.cs).length]) i=ct (bq s.cs) i:=oa c
   have e2:ct (bq s.cs++[(bq s.cs).length]) (ct (bq s.cs) i)=ct (bq s.cs) (ct (bq s.cs) i):=oa J
   rw[e1,e2];exact q
  have e1:ct (bq s.cs++[(bq s.cs).length]) i=i:=(sq J).trans J
  rw[e1,e1];exact⟨er _,rfl⟩
 rw[el]
 show mj (j8 s.au (s.aX++[l]) (s.aj.length+1)) (fun i=>uf s.au (s.aj.length+1) (s.qs.getD i cP)) (fun i=>(s.qs.getD i cP).why) s.qs.length (Oq s.au (s.aj.length+1) s.qs) (vQ (s.aj++[e])) (wQ (s.a6++[0])) (ct (bq s.cs++[(bq s.cs).length])) fun i=>s.sn<=i
 rw[hM,show(fun i=>uf s.au (s.aj.length+1) (s.qs.getD i cP))=fun i=>uf s.au s.aj.length (s.qs.getD i cP)from funext hq]
 refine h.si.wide (S':=j8 s.au (s.aX++[l]) (s.aj.length+1)) (Nat.le_succ _) hsh (fun i hi=>oa hi) (fun i hi=>oa (by have:i<s.aj.length:=hi;omega)) (fun i h1 h2=> ?_) fun i k hi hk he=> ?_
 .have h1':s.aj.length<=i:=h1
  have h2':i<s.aj.length+1:=h2
  have e1:(j8 s.au (s.aX++[l]) (s.aj.length+1)).sh i=(s.au.getD l.toNat o3).p.sh:=by
   show(s.au.getD ((s.aX++[l]).getD i 0).toNat o3).p.sh=_
   rw[sq J]
  rw[e1]
  exact⟨hs,(sq J).trans he⟩
 have hi':i<s.aj.length+1:=hi
 have hk':k<s.aj.length+1:=hk
 have hc:∀j,j<s.aj.length->ct (bq s.cs++[(bq s.cs).length]) j=ct (bq s.cs) j/\ct (bq s.cs) j<=j:=fun j hj=>⟨oa J,(h.cl j J).1⟩
 have hd:ct (bq s.cs++[(bq s.cs).length]) s.aj.length=s.aj.length:=(sq J).trans J
 by_cases c1:i<s.aj.length<;>by_cases c2:k<s.aj.length
 .rw[(hc i c1).1,(hc k c2).1]at he
  exact .inr ⟨c1,c2,he⟩
 .have:k=s.aj.length:=J
  subst this
  rw[(hc i c1).1,hd]at he
  have:=(hc i c1).2;omega
 .have:i=s.aj.length:=J
  subst this
  rw[(hc k c2).1,hd]at he
  have:=(hc k c2).2;omega
 exact .inl J
theorem ad4{qs:List dw}{q:dw}{k:Nat}:xB (qs++[q]) k=xB qs k++if(k:Int)∈q.vars then[(qs.length:Int)]else[]:=by
 unfold xB
 rw[cZ,gN,xa,Hu,gz]
 congr 1
 .congr 1
  refine List.filter_congr fun i hi=> ?_
  rw[oa (pX.1 hi)]
 rw[BF,sq O]
 by_cases c:(k:Int)∈q.vars
 .rw[aS Lt,aS c];rfl
 rw[aR Lt,aR c];rfl
structure Nc(s:NP)(q:dw):Prop where
 aX:0<=q.aX/\q.aX<s.au.length
 code:q.code.length<=1000
 fit:Za (j8 s.au s.aX s.aj.length) (ym s.au q) q.code q.to
 vars:q.vars=bS q.code
theorem Nc.vin{s:NP}{q:dw}(h:Nc s q):∀v∈q.vars,0<=v/\v<s.aj.length:=fun v hv=>by
 rw[h.vars]at hv
 obtain⟨x,hx,ho,h0,rfl⟩:=ow.1 hv
 have:x.n<(s.aj.length:Int):=(h.fit.var x hx ho).2.1
 exact⟨h0,this⟩
theorem Nc.nd{s:NP}{q:dw}(h:Nc s q):q.vars.Nodup:=by
 rw[h.vars]
 exact(Fj q.code).imp fun h=>by omega
theorem Nc.qok{s:NP}{q:dw}(h:Nc s q):QOk s.au.length s.aj.length q:=by
 refine⟨h.aX,h.code,?_,fun hp=> ?_,h.vin⟩
 .by_cases c:q.to.var<0
  .omega
  have:q.to.var<(s.aj.length:Int):=(h.fit.to1 J).1
  exact this
 obtain⟨a,b,_,_⟩:=D9 h.fit h.vars hp
 obtain⟨y,hy,ho,h0⟩:=GD hp
 have:=h.fit.var y (by rw[hy];simp) ho
 refine⟨?_,a⟩
 rw[h.vars,hy];unfold bS;simp[ho,this.1,sZ]
theorem anm{qs:List dw}{k:Nat}:(xB qs k).length<=qs.length/\∀i∈xB qs k,0<=i/\i<(qs.length:Int):=by grind[Cz,xB]
theorem abA{s:NP}{q:dw}(hu:s.us=(List.range s.aj.length).map (xB s.qs))(hf:Nc s q):(A7 s q).us=(List.range s.aj.length).map (xB (s.qs++[q])):=by
 have hl:s.us.length=s.aj.length:=by rw[hu];simp
 apply tj
 intro k
 show(q.vars.foldl (Fm (s.qs.length:Int)) s.us)[k]?=_
 by_cases c:k<s.aj.length
 .have e1:=Cy (i:=(s.qs.length:Int)) (u:=s.us) (k:=k) hf.nd fun v hv=>by have:=hf.vin v hv;omega
  have lk:k<(q.vars.foldl (Fm (s.qs.length:Int)) s.us).length:=by rw[po];omega
  rw[getD_eq lk]at e1
  rw[ep lk,e1,pW,yN c,qt,ad4]
  congr 2
  rw[hu,eS,pW,yN c];rfl
 rw[ny (by rw[po];omega),ny iP]
theorem DL.add{s:NP}(h:DL s)(hu:s.us=(List.range s.aj.length).map (xB s.qs)){q:dw}(hf:Nc s q)(hn:s.qs.length<1000):DL (A7 s q):=by
 have h2:=h.Oo
 refine⟨h.TG,by show(q.vars.foldl _ s.us).length=_;rw[po];exact h2,h.kD,h.Qi,?_,by simp[A7];omega,fun p hp=> ?_,h.hlt,h.hlr,fun k hk=> ?_⟩
 .have:=h.WS;simp[A7];omega
 .rcases eI.1 hp with c|c
  .exact h.hqo p c
  rw[dY.1 c];exact hf.qok
 have Du:k<s.us.length:=by have:k<(q.vars.foldl (Fm (s.qs.length:Int)) s.us).length:=hk;rwa[po]at this
 rw[abA hu hf,eS,pW,yN J,qt,Re]
 have:=anm (qs:=s.qs++[q]) (k:=k)
 rw[cZ,gN]at this
 exact⟨J,fun i hi=>by have:=this.2 i hi;show 0<=i/\i<((s.qs++[q]).length:Int);rw[cZ,gN];exact this⟩
theorem yo.add{s:NP}(h:yo s){q:dw}(hf:Nc s q)(hn:s.qs.length<1000):yo (A7 s q):=by
 have hu:=abA h.us hf
 have e0:uf s.au s.aj.length ((s.qs++[q]).getD s.qs.length cP)=uf s.au s.aj.length q:=by rw[sq O]
 have e1:∀i,i<s.qs.length->(s.qs++[q]).getD i cP=s.qs.getD i cP:=fun i hi=>oa hi
 have hsub:∀a p,Oq s.au s.aj.length s.qs a p->Oq s.au s.aj.length (s.qs++[q]) a p:=fun a p ⟨i,hi,h1,h2⟩=>⟨i,by simp;omega,by rw[e1 i hi];exact h1,by rw[e1 i hi];exact h2⟩
 refine⟨h.ok.add h.us hf hn,fun p hp=> ?_,hu,h.cl,?_⟩
 .rcases eI.1 hp with c|c
  .exact h.fit p c
  rw[dY.1 c];exact⟨hf.fit,hf.vars⟩
 show mj (j8 s.au s.aX s.aj.length) (fun i=>uf s.au s.aj.length ((s.qs++[q]).getD i cP)) (fun i=>((s.qs++[q]).getD i cP).why) (s.qs++[q]).length (Oq s.au s.aj.length (s.qs++[q])) (vQ s.aj) (wQ s.a6) (ct (bq s.cs)) fun i=>s.sn<=i
 have hl:(s.qs++[q]).length=s.qs.length+1:=aF
 rw[hl]
 refine mj.more (h.si.congr fun i hi=>⟨by rw[e1 i hi],by rw[e1 i hi]⟩) ?_ ?_ ?_ hsub (fun a p ⟨i,hi,h1,h2⟩=>⟨i,by rw[hl]at hi;exact hi,h1⟩) h.si.why (by have:=h.ok.WS;omega) fun i hi hp=>hp
 .show ud _ (uf s.au s.aj.length ((s.qs++[q]).getD s.qs.length cP))
  rw[e0];exact aia hf.fit
 .show Oq _ _ _ ((s.qs++[q]).getD s.qs.length cP).why (uf s.au s.aj.length ((s.qs++[q]).getD s.qs.length cP))
  exact⟨s.qs.length,by rw[hl];omega,rfl,sS _⟩
 exact fun a b p hab ⟨i,hi,h1,h2⟩=>⟨i,hi,h1,lM h2 hab⟩
theorem yo.start{s:NP}(h1:s.aX=[])(h2:s.aj=[])(h3:s.a6=[])(h4:s.us=[])(h5:s.qs=[])(h6:s.sn=0)(h7:s.cs=[[]]):yo s:=by
 obtain⟨au,aX,aj,a6,us,qs,sn,cs,sk,wy,wr⟩:=s
 simp only at h1 h2 h3 h4 h5 h6 h7
 subst h1;subst h2;subst h3;subst h4;subst h5;subst h6;subst h7
 refine⟨⟨rfl,rfl,rfl,aF,aF,aF,(fun q hq=>by cases hq),rfl,(fun k hk=>by cases hk),fun k hk=>by cases hk⟩,(fun q hq=>by cases hq),rfl,(fun i hi=>by cases hi),?_⟩
 have hM:∀a q,¬Oq au 0 [] a q:=fun a q ⟨i,hi,_⟩=>by cases hi
 exact(mj.start (P:=fun i=>(0:Int)<=i) hM (fun i hi=>by cases hi) (fun i hi=>by cases hi)).aiS fun i k hi=>by cases hi
def A9(S:Sys)(Q:tg->Prop):Prop:=∃u,pP S u/\∀q,Q q->e8 q u
theorem A9.sol{S:Sys}{Q:tg->Prop}{u:Va}(h:pP S u)(hq:∀q,Q q->e8 q u):uv S Q u:=⟨h,fun q h1 _=>hq q h1⟩
theorem A9.less{S:Sys}{Q Q':tg->Prop}(h:A9 S Q')(hq:∀q,Q q->Q' q):A9 S Q:=by
 obtain⟨u,h1,h2⟩:=h
 exact⟨u,h1,fun q Ot=>h2 q (hq q Ot)⟩
def QN(s:NP):tg->Prop:=fun q=>∃i,i<s.qs.length/\q=uf s.au s.aj.length (s.qs.getD i cP)
abbrev SN(s:NP):Sys:=j8 s.au s.aX s.aj.length
abbrev MN(s:NP):Qm:=Oq s.au s.aj.length s.qs
def aEj(s:NP)(c:yl)(cs:List (List Nat)):NP:=NP.mk s.au s.aX c.aj c.a6 s.us s.qs s.qs.length cs s.sk s.wy s.wr
theorem yo.settled{s:NP}(h:yo s){us:List jM}(xA:pO us=s.us){c:yl}(hj:JN s (bq (oY us s).cs) c)(hw:c.wl=[]):
  yo (aEj s c (oY us s).cs)/\tG (SN s) (QN s) (vQ c.aj)/\(∀q,QN s q->e8 q (vQ c.aj))/\Fh (SN s) (MN s) (vQ c.aj) (wQ c.a6):=by
 obtain⟨_,j1,j2,_⟩:=SQ h xA
 have si:=hj.si.aiD (P':=fun _=>False) fun i hi q=>by
  rcases q with q|q
  .rw[hw]at q;cases q
  exact q
 have hv:c.aj.length=s.aj.length:=hj.ck.lv
 have hy:c.a6.length=s.aj.length:=hj.ck.ly
 have hk:=h.ok
 refine⟨⟨⟨hy.trans hv.symm,hk.Oo.trans hv.symm,j2.trans hv.symm,by show c.aj.length<=1000;rw[hv];exact hk.Qi,⟨Q4 _,nc _⟩,hk.hqn,?_,hk.hlt.trans hv.symm,hk.hlr,hk.xA⟩,?_,?_,j1,?_⟩,si.done.1,fun q ⟨i,hi,e⟩=>e▸si.done.2 i hi,si.why⟩
 .show Zi s.au.length c.aj.length s.qs;rw[hv];exact hk.hqo
 .show VF s.au s.aX c.aj.length s.qs;rw[hv];exact h.fit
 .show s.us=(List.range c.aj.length).map (xB s.qs);rw[hv];exact h.us
 show mj (j8 s.au s.aX c.aj.length) (fun i=>uf s.au c.aj.length (s.qs.getD i cP)) (fun i=>(s.qs.getD i cP).why) s.qs.length (Oq s.au c.aj.length s.qs) (vQ c.aj) (wQ c.a6) (ct (bq (oY us s).cs)) fun i=>(s.qs.length:Int)<=i
 rw[hv]
 exact si.aiD fun i hi q=>q.elim
theorem yo.stuck{s:NP}(h:yo s){us:List jM}(xA:pO us=s.us){c:yl}(hj:JN s (bq (oY us s).cs) c){wy TH:BitVec 64}(hr:SpR (bq (oY us s).cs) us s.au s.qs c false wy TH):¬A9 (SN s) (QN s)/\¬A9 (SN s) (MN s TH):=by
 rcases hr with⟨q,_⟩|⟨_,x,wl,hw,hl,hy⟩
 .cases q
 obtain⟨aj,a6,cwl,wi⟩:=c
 simp only at hw hl hy
 subst hw
 obtain⟨hx,ck⟩:=hj.ck.take
 have Px:x.toNat<s.qs.length:=J
 obtain⟨hf,hvs⟩:=h.fit _ (dh (d:=cP) hx.1 hx.2)
 have lv:aj.length=s.aj.length:=hj.ck.lv
 have si:=hj.si
 simp only at si
 have key:(s.qs.getD x.toNat cP).to.var<0/\¬e8 (uf s.au s.aj.length (s.qs.getD x.toNat cP)) (vQ aj)/\TH=OC (s.qs.getD x.toNat cP).why (wQ a6) (uf s.au s.aj.length (s.qs.getD x.toNat cP)).vars:=by
  rw[GF hvs,<-SL,SM lv]
  generalize s.qs.getD x.toNat cP=q at*
  unfold ng at hl hy
  split at hl
  .cases hl
  rename_i c1
  rw[aR c1]at hy
  split at hl
  .rename_i c2
   rw[aS c2]at hy
   split at hl
   .cases hl
   rename_i c3
   rw[aR c3]at hy
   exact⟨c2,by rw[aS c2];exact c3,hy⟩
  split at hl
  .cases hl
  .cases hl
 obtain⟨k1,k2,k3⟩:=key
 have hto:(uf s.au s.aj.length (s.qs.getD x.toNat cP)).to=none:=by rw[apm,aS k1]
 obtain⟨s1,s2⟩:=si.stuck Px hto k2
 have hmem:=(si.ok x.toNat Px).2
 rw[<-k3]at s2
 refine⟨fun⟨u,h1,h2⟩=>s1 u (A9.sol h1 h2) (h2 _ ⟨_,Px,rfl⟩),fun⟨u,h1,h2⟩=>s2 u (A9.sol h1 h2) (h2 _ ?_)⟩
 rw[k3]
 exact si.mok _ _ _ (Gv _ _ _).1 hmem
def Fq(s:kE)(v:List El):Va:=fun i=>if(s.vars.getD i gL).kind=1 then v.getD i dH else iu (iO s (s.vars.getD i gL).aX) eY
def FJ(s:kE)(x:gp):tg:=Cr s.vars.length (iO s x.aX) x.code x.to
def QP(s:kE)(l:List gp):tg->Prop:=fun q=>∃x∈l,x.op=8/\q=FJ s x
section
variable{s:kE}{l:List gp}{v:List El}{x:gp}
theorem DC(h:jr s x=true)(ho:x.op=8):(0<=x.aX/\x.aX<s.au.length)/\codeOk s x.aX x.code=true/\lO s x.aX x.to=true:=by grind[jr]
theorem abB{v kd aX:Int}(h:qA s v kd aX=true):(0<=v/\v<s.vars.length)/\(s.vars.getD v.toNat gL).kind=kd/\(s.vars.getD v.toNat gL).aX=aX:=by grind[qA]
theorem ann(h:codeOk s x.aX x.code=true){y:dz}(hy:y∈x.code)(ho:y.op=1):(0<=y.n/\y.n<s.vars.length)/\(s.vars.getD y.n.toNat gL).kind=1:=by
 simp only[codeOk,cG]at h
 have h2:=iN.1 h.1 y hy
 simp only[u7,cG,pE,BE,wv]at h2
 have:=abB (h2.1.resolve_left fun q=>q ho)
 exact⟨this.1,this.2.1⟩
theorem asD(h:jr s x=true)(ho:x.op=8):ud (j7 s) (FJ s x):=by
 obtain⟨h1,h2,h3⟩:=DC h ho
 exact aia (aso h2 h3)
theorem Zx(h:jr s x=true)(ho:x.op=8)(hv:v.length=s.vars.length):(FJ s x).ev (Fq s v)=(fY (iO s x.aX) x.code v).1:=by
 obtain⟨h1,h2,h3⟩:=DC h ho
 show(fY _ _ ((List.range s.vars.length).map (Fq s v))).1=_
 congr 1
 refine Jx fun y hy hp=> ?_
 obtain⟨⟨a,b⟩,c⟩:=ann h2 hy hp
 refine⟨a,by simp;omega,J,?_⟩
 rw[qc J]
 unfold Fq
 rw[aS c]
theorem aiW(h:jr s x=true)(ho:x.op=8)(ht:0<=x.to.var):x.to.var<s.vars.length/\(FJ s x).to=some x.to.var.toNat/\Fq s v x.to.var.toNat=v.getD x.to.var.toNat dH/\(s.vars.getD x.to.var.toNat gL).kind=1:=by
 obtain⟨h1,h2,h3⟩:=DC h ho
 rw[lO,aR J]at h3
 obtain⟨a,b,c⟩:=abB h3
 refine⟨a.2,?_,by unfold Fq;rw[aS b],b⟩
 show(if x.to.var<0 then none else some x.to.var.toNat)=_
 rw[aR J]
theorem asE(h:jr s x=true)(ho:x.op=8)(ht:0<=x.to.var)(hv:v.length=s.vars.length):e8 (FJ s x) (Fq s v)↔cT (fY (iO s x.aX) x.code v).1 (v.getD x.to.var.toNat dH)=true:=by
 obtain⟨_,h2,h3,_⟩:=aiW (v:=v) h ho ht
 unfold e8 tg.rhs
 rw[Zx h ho hv,h2]
 simp only
 rw[h3]
theorem asF(h:jr s x=true)(ho:x.op=8)(ht:x.to.var<0)(hv:v.length=s.vars.length):(FJ s x).to=none/\(e8 (FJ s x) (Fq s v)↔cT (fY (iO s x.aX) x.code v).1 x.to.c=true):=by
 have h2:(FJ s x).to=none:=by
  show(if x.to.var<0 then none else some x.to.var.toNat)=_
  rw[aS ht]
 refine⟨h2,?_⟩
 unfold e8 tg.rhs
 rw[Zx h ho hv,h2];exact BS
structure Zy(s:kE)(l:List gp)(v:List El):Prop where
 len:v.length=s.vars.length
 low:Cq (j7 s) (QP s l) (Fq s v)
theorem vA(h:gM s=true):(s.au.length<=16/\s.vars.length<=64)/\(∀x∈s.au,lW x.zx.sh=true)/\∀v∈s.vars,(v.kind=1\/v.kind=2)/\0<=v.aX/\v.aX<s.au.length:=by grind[gM,Mx,Lr]
theorem asG(h:gM s=true):∀i,i<(j7 s).n->lW ((j7 s).sh i)=true:=by grind[gM,j7,lW,vA,gL,getD_eq,iO,dh]
theorem Zy.start(h:gM s=true):Zy s l (arC s.sc).labels:=by
 refine⟨by show(s.vars.map (adn s.sc)).length=_;simp,abm (asG h) fun i hi=> ?_⟩
 have hi':i<s.vars.length:=hi
 obtain⟨_,h2,h3⟩:=vA h
 have hv:=h3 (s.vars.getD i gL) (by rw[getD_eq hi'];exact nM hi')
 show Fq s (s.vars.map (adn s.sc)) i=iu (iO s (s.vars.getD i gL).aX) eY
 unfold Fq
 by_cases c:(s.vars.getD i gL).kind=1
 .rw[aS c,eS,pW,ep hi']
  rw[getD_eq hi']at c hv⊢
  show adn s.sc s.vars[i]=_
  unfold adn
  rw[aS ⟨c,hv.2.1,by show _<((s.au.map fun l=>l.zx.sh).length:Int);rw[gB];exact hv.2.2⟩]
  congr 1
  show(s.au.map fun l=>l.zx.sh).getD _ _=(s.au.getD _ me).zx.sh
  have:(s.vars[i]).aX.toNat<s.au.length:=by have:=hv.2;omega
  rw[eS,pW,ep this,eS,ep this];rfl
 rw[aR c]
def asH(s:kE)(v:List El):Nat:=(oW (j7 s) (fun _=>1) (Fq s v) s.vars.length).toNat
theorem aiX{k:Nat}{e:El}(hk:k<v.length)(hc:(s.vars.getD k gL).kind=1):Fq s (v.set k e)=Gu (Fq s v) k e:=by
 funext i
 show(if(s.vars.getD i gL).kind=1 then(v.set k e).getD i dH else iu (iO s (s.vars.getD i gL).aX) eY)=if i=k then e else if(s.vars.getD i gL).kind=1 then v.getD i dH else iu (iO s (s.vars.getD i gL).aX) eY
 by_cases c:i=k
 .subst c
  rw[aS hc,aS O,eS,pD,aS O,aS hk];rfl
 rw[aR c]
 by_cases d:(s.vars.getD i gL).kind=1
 .rw[aS d,aS d,eS,pD,aR fun q=>c q.symm,<-eS]
 rw[aR d,aR d]
theorem Zy.raise(h:Zy s l v)(hm:x∈l)(ha:jr s x=true)(ho:x.op=8)(ht:0<=x.to.var)(hn:¬cT (fY (iO s x.aX) x.code v).1 (v.getD x.to.var.toNat dH)=true):
  Zy s l (v.set x.to.var.toNat (fH (iO s x.aX) (v.getD x.to.var.toNat dH) (fY (iO s x.aX) x.code v).1))/\asH s (v.set x.to.var.toNat (fH (iO s x.aX) (v.getD x.to.var.toNat dH) (fY (iO s x.aX) x.code v).1))<asH s v:=by
 obtain⟨t1,t2,t3,t4⟩:=aiW (v:=v) ha ho ht
 have hk:x.to.var.toNat<v.length:=by have:=h.len;omega
 have io:=asD ha ho
 have e1:=Zx (v:=v) ha ho h.len
 have es:=aiX (e:=fH (iO s x.aX) (v.getD x.to.var.toNat dH) (fY (iO s x.aX) x.code v).1) hk t4
 have hl:=h.low.raise ⟨x,hm,ho,rfl⟩ io t2
 rw[e1,t3]at hl
 have hks:=io.to _ t2
 have fk:=h.low.fit _ hks.1
 rw[hks.2,t3]at fk
 have fe:=io.fit _ h.low.fit
 rw[e1]at fe
 have fj:=Io fk fe
 have up:=YC fk fe
 have hp:=Qc (S:=j7 s) (U:=fun _=>1) (v:=Fq s v) (k:=x.to.var.toNat) (e:=fH (iO s x.aX) (v.getD x.to.var.toNat dH) (fY (iO s x.aX) x.code v).1) h.low.fit hks.1 (by rw[hks.2];exact fj) (by rw[t3];exact up.1) fun q=>hn (by
  rw[t3]at q
  exact fg up.2 (kS q))
 refine⟨⟨by rw[m9];exact h.len,by rw[es];exact hl⟩,?_⟩
 have h0:=KK (U:=fun _=>1) hl.fit s.vars.length (er _)
 unfold asH
 rw[es]
 have PU:(j7 s).n=s.vars.length:=rfl
 have ej:(FJ s x).sh=iO s x.aX:=rfl
 rw[ej]at h0
 rw[PU]at hp
 omega
theorem Zy.done(h:Zy s l v)(ha:∀x∈l,jr s x=true)(hh:∀x∈l,x.op=8->0<=x.to.var->cT (fY (iO s x.aX) x.code v).1 (v.getD x.to.var.toNat dH)=true):tG (j7 s) (QP s l) (Fq s v):=by
 refine⟨h.low,?_⟩
 rintro q ⟨x,hx,ho,rfl⟩ hq
 by_cases c:0<=x.to.var
 .exact(asE (ha x hx) ho c h.len).2 (hh x hx ho c)
 exact absurd (asF (ha x hx) ho J h.len).1 hq
theorem Fs{p:l6}(h:kY p=true):gM p.s=true/\∀x∈p.bu,jr p.s x=true:=by grind[kY]
end
structure xC(s:NP):Prop where
 ns:yo s
 lw:∀x∈s.au,lW x.p.sh=true/\x.low=iu x.p.sh eY
 nv:s.aj.length<=128
 nq:s.qs.length<=64
 wy:s.sk=false->s.wy=0
theorem abC{α:Type}{F:α->Int}{b:Int}:∀{l:List α},(∀x∈l,F x<=b)->(l.map F).sum<=b*l.length
 |[],_=>by simp
 |a::l,h=>by
  have h1:=h a aF
  have h2:=abC (l:=l) fun x hx=>h x (fC _ hx)
  rw[lB,BJ,eR,show((l.length+1:Nat):Int)=(l.length:Int)+1 by omega,Int.mul_add,Int.mul_one]
  omega
theorem xC.mu{s:NP}(h:xC s):muM s<=4200000:=by
 have hq:∀q∈s.qs,df (ym s.au q)*(q.vars.length:Int)<=65536:=fun q hq=>by
  have hl:=h.ns.ok.hqo q hq
  have hs:lW (ym s.au q)=true:=(h.lw _ (dh hl.aX.1 hl.aX.2)).1
  have h1:0<=df (ym s.au q)/\df (ym s.au q)<=512:=by
   rw[df,aS hs];exact Rs hs J J
  have h2:q.vars.length<=s.aj.length:=by
   have hn:(q.vars.map Int.toNat).Nodup:=by
    have e:q.vars.Nodup:=by rw[(h.ns.fit q hq).2];exact VD q.code
    refine List.Pairwise.map _ ?_ (ae5 (S:=fun a b=>a.toNat≠b.toNat) ?_ e)
    .exact fun a b q=>q
    intro a b ha hb hab c
    have:=hl.vars a ha;have:=hl.vars b hb
    exact hab J
   have h3:(q.vars.map Int.toNat).length<=(List.range s.aj.length).length:=hn.length_le_of_subset fun x hx=>by
    obtain⟨a,ha,rfl⟩:=fX.1 hx
    have:=hl.vars a ha
    exact pX.2 J
   simpa using h3
  have h4:=h.nv
  have h5:df (ym s.au q)*(q.vars.length:Int)<=512*128:=La h1.2 J J J
  omega
 have h1:=abC hq
 have h2:=h.nq
 unfold muM
 omega
structure asI(s s':NP)(ok:Bool):Prop where
 net:xC s'
 au:s'.au=s.au
 aX:s'.aX=s.aX
 qs:s'.qs=s.qs
 len:s'.aj.length=s.aj.length
 sk:s'.sk= !ok
 wr:s'.wr=s.wr
 yes:ok=true->tG (SN s) (QN s) (vQ s'.aj)/\(∀q,QN s q->e8 q (vQ s'.aj))/\Fh (SN s) (MN s) (vQ s'.aj) (wQ s'.a6)
 no:ok=false->s'.aj=s.aj/\s'.a6=s.a6/\¬A9 (SN s) (QN s)/\¬A9 (SN s) (MN s s'.wy)
theorem yo.skw{s:NP}(h:yo s)(b:Bool)(y:BitVec 64):yo {s with sk:=b,wy:=y}:=⟨⟨h.ok.TG,h.ok.Oo,h.ok.kD,h.ok.Qi,h.ok.WS,h.ok.hqn,h.ok.hqo,h.ok.hlt,h.ok.hlr,h.ok.xA⟩,h.fit,h.us,h.cl,h.si⟩
theorem asJ{s:NP}(h:xC s)(hk:s.sk=false){us:List jM}(xA:pO us=s.us){c:yl}{ok:Bool}{TH:BitVec 64}(hr:SpR (bq (oY us s).cs) us s.au s.qs c ok s.wy TH)(hj:JN s (bq (oY us s).cs) c):
  asI s (if ok then(NP.mk s.au s.aX c.aj c.a6 s.us s.qs s.qs.length (oY us s).cs s.sk s.wy s.wr)else{s with sk:=true,wy:=TH}) ok:=by
 cases ok with
 |true=>
  rcases hr with⟨_,hw,_⟩|⟨q,_⟩
  .obtain⟨h1,h2,h3,h4⟩:=h.ns.settled xA hj hw
   have hv:c.aj.length=s.aj.length:=hj.ck.lv
   exact⟨⟨h1,h.lw,by show c.aj.length<=128;rw[hv];exact h.nv,h.nq,h.wy⟩,rfl,rfl,rfl,hv,hk,rfl,fun _=>⟨h2,h3,h4⟩,fun q=>by cases q⟩
  .cases q
 |false=>
  obtain⟨h1,h2⟩:=h.ns.stuck xA hj hr
  exact⟨⟨h.ns.skw true TH,h.lw,h.nv,h.nq,fun q=>by cases q⟩,rfl,rfl,rfl,rfl,rfl,rfl,fun q=>(by cases q),fun _=>⟨rfl,rfl,h1,h2⟩⟩
theorem ad5{s:NP}(h:xC s){us:List jM}(xA:pO us=s.us):∀cX eA JW mz x,JN s (bq (oY us s).cs) ⟨cX,eA,x::JW,mz⟩->∀r,ng (bq (oY us s).cs) us (ym s.au (s.qs.getD x.toNat cP)) (s.qs.getD x.toNat cP) cX eA JW (mz.set x.toNat false) s.wy=r->r.ok=true->JN s (bq (oY us s).cs) ⟨r.aj,r.a6,r.wl,r.wi⟩/\muN s.au s.aX s.aj.length s.qs ⟨r.aj,r.a6,r.wl,r.wi⟩<muN s.au s.aX s.aj.length s.qs ⟨cX,eA,x::JW,mz⟩:=fun cX eA JW mz x hj r hr hok=>by
 obtain⟨_,_,hl,_⟩:=SQ h.ns xA
 exact hj.look h.ns.fit (OD.of (xA.trans h.ns.us)) hl hr hok
theorem xC.var{s:NP}(h:xC s){l:Int}(hl:0<=l/\l<s.au.length)(hn:s.aj.length<128):xC (qn s l (s.au.getD l.toNat o3).low):=by
 have hx:=h.lw _ (dh (d:=o3) hl.1 hl.2)
 exact⟨h.ns.var hl hx.1 hx.2 J,h.lw,by simp[qn];omega,h.nq,h.wy⟩
theorem xC.add{s:NP}(h:xC s){q:dw}(hf:Nc s q)(hn:s.qs.length<64):xC (A7 s q):=⟨h.ns.add hf J,h.lw,h.nv,by simp[A7];omega,h.wy⟩
structure s4(p:kE)(s:NP):Prop where
 lt:s.au.map (fun x=>x.p.sh)=p.au.map fun l=>l.zx.sh
 la:s.aX=p.vars.map vS.aX
 nv:s.aj.length=p.vars.length
section
variable{p:kE}{s s':NP}{l:List gp}{x:gp}
theorem s4.sh(h:s4 p s)(k:Nat):(s.au.getD k o3).p.sh=(p.au.getD k me).zx.sh:=by
 have e:=aJ (fun m:List Sh=>m.getD k DE.sh) h.lt
 simp only[eS,pW]at e⊢
 cases h1:s.au[k]?<;>cases h2:p.au[k]?<;>simp only[h1,h2,Option.map_none,qt,Option.getD_none,Re]at e⊢<;>first|rfl|exact e
theorem s4.len(h:s4 p s):s.au.length=p.au.length:=by have:=aJ List.length h.lt;simpa using this
theorem s4.aX(h:s4 p s)(i:Nat):s.aX.getD i 0=(p.vars.getD i gL).aX:=by grind[s4,gL]
theorem s4.sys(h:s4 p s):SN s=j7 p:=by
 show(⟨s.aj.length,fun i=>(s.au.getD (s.aX.getD i 0).toNat o3).p.sh⟩:Sys)=⟨p.vars.length,fun i=>(p.au.getD (p.vars.getD i gL).aX.toNat me).zx.sh⟩
 rw[h.nv]
 congr 1
 funext i
 rw[h.aX,h.sh]
theorem s4.same(h:s4 p s)(h1:s'.au=s.au)(h2:s'.aX=s.aX)(h3:s'.aj.length=s.aj.length):s4 p s':=by grind[s4]
theorem s4.of(h:s4 p s)(hl:s.aX.length=s.aj.length)(v k:Int):ofB s.aX v k=true↔(0<=v/\v<p.vars.length)/\(p.vars.getD v.toNat gL).aX=k:=by grind[s4,ofB,gL]
theorem s4.fit(h:s4 p s)(hl:s.aX.length=s.aj.length)(ha:jr p x=true)(ho:x.op=8):vY s.au s.aX x.aX x.code x.to=true:=by
 obtain⟨h1,h2,h3⟩:=DC ha ho
 have e:=h.sh x.aX.toNat
 simp only[codeOk,cG]at h2
 rw[M4 (q:=x.code.length) (by rw[h.len];exact h1) h2.2 J fun j a b=> ?_]
 .unfold M1
  unfold lO at h3
  by_cases c:x.to.var<0
  .rw[aS c]at h3⊢
   show cF (s.au.getD x.aX.toNat o3).p.sh _=true
   rw[e];exact h3
  rw[aR c]at h3⊢
  have:=abB h3
  exact(h.of hl _ _).2 ⟨this.1,this.2.2⟩
 have hi:=iN.1 h2.1 _ (dh (d:=cB) a b)
 simp only[u7,cG,pE,BE,wv]at hi
 refine Cx ?_ ?_
 .rcases hi.1 with q|q
  .exact .inl q
  have:=abB q
  have:=(h.of hl _ _).2 ⟨this.1,this.2.2⟩
  simp only[ofB,eo]at this
  exact .inr this
 rcases hi.2 with q|q
 .exact .inl q
 refine .inr ?_
 show cF (s.au.getD x.aX.toNat o3).p.sh _=true
 rw[e];exact q
end
theorem ano{s:NP}(hok:DL s){k:Int}{l:List dz}{t:iw}(h:vY s.au s.aX k l t=true)(hl:l.length<=1000)(cv vv:Value)(y:BitVec 64):Nc s ⟨k,cv,l,t,y,vv,bS l⟩:=by
 simp only[vY,cG,eo]at h
 obtain⟨⟨h1,h2⟩,h3,h4⟩:=h
 have of_:∀v,ofB s.aX v k=true->0<=v/\v<(s.aj.length:Int)/\(j8 s.au s.aX s.aj.length).sh v.toNat=shL s.au k:=fun v hv=>by
  simp only[ofB,eo]at hv
  refine⟨hv.1,by have:=hok.hlt;omega,?_⟩
  show(s.au.getD (s.aX.getD v.toNat 0).toNat o3).p.sh=_
  rw[hv.2.2];rfl
 refine⟨h1,hl,⟨h2,fun x hx ho=> ?_,fun x hx ho=> ?_,fun h0=> ?_,fun h0=> ?_⟩,rfl⟩
 .have hi:=iN.1 h3 x hx
  simp only[Fl,cG,pE,BE,wv]at hi
  exact of_ _ (hi.1.resolve_left fun q=>q ho)
 .have hi:=iN.1 h3 x hx
  simp only[Fl,cG,pE,BE,wv]at hi
  exact hi.2.resolve_left fun q=>q ho
 .rw[M1,aS h0]at h4;exact h4
 have h0':¬t.var<0:=by have:0<=t.var:=h0;omega
 rw[M1,aR h0']at h4
 have:=of_ _ h4
 exact⟨this.2.1,this.2.2⟩
def Nf(i:Nat)(x:gp):Int×List dz×iw×BitVec 64:=(x.aX,x.code,x.to,(1#64)<<<i)
def IM(q:dw):Int×List dz×iw×BitVec 64:=(q.aX,q.code,q.to,q.why)
def rE(l:List gp)(k:Nat):List (Int×List dz×iw×BitVec 64):=((List.range k).filter fun i=>decide ((l.getD i fU).op=8)).map fun i=>Nf i (l.getD i fU)
theorem IN{l:List gp}{k:Nat}:rE l (k+1)=rE l k++if(l.getD k fU).op=8 then[Nf k (l.getD k fU)]else[]:=by grind[rE,List.range_succ,fU]
section
variable{p:kE}{s:NP}{l:List gp}{k:Nat}
theorem axl(h:s4 p s)(hq:s.qs.map IM=rE l k)(hk:k<=l.length):QN s=QP p (l.take k):=by
 funext q
 refine propext ⟨fun⟨i,hi,e⟩=> ?_,fun⟨x,hx,ho,e⟩=> ?_⟩
 .have hm:IM (s.qs.getD i cP)∈rE l k:=by rw[<-hq,getD_eq hi];exact fX.2 ⟨_,nM hi,rfl⟩
  obtain⟨j,hj,e2⟩:=fX.1 hm
  simp only[xb,pX,eo]at hj
  refine⟨l.getD j fU,?_,hj.2,?_⟩
  .rw[getD_eq J]
   exact Hq.2 ⟨j,J,rfl⟩
  rw[e]
  simp only[Nf,IM,XM]at e2
  obtain⟨a,b,c,_⟩:=e2
  unfold uf ym FJ iO
  rw[h.nv,h.sh,<-a,<-b,<-c]
 obtain⟨j,hj,e1⟩:=Hq.1 hx
 have hj2:j<k/\j<l.length:=J
 have hm:Nf j x∈rE l k:=fX.2 ⟨j,by simp only[xb,pX,eo];exact⟨hj2.1,by rw[getD_eq hj2.2,e1];exact ho⟩,by rw[getD_eq hj2.2,e1]⟩
 rw[<-hq]at hm
 obtain⟨r,hr,e2⟩:=fX.1 hm
 obtain⟨i,hi,e3⟩:=yM.1 hr
 refine⟨i,hi,?_⟩
 rw[e,getD_eq hi,e3]
 simp only[Nf,IM,XM]at e2
 obtain⟨a,b,c,_⟩:=e2
 unfold uf ym FJ iO
 rw[h.nv,h.sh,a,b,c]
end
theorem asK{cs:List (List Nat)}{us UP:List jM}{au:List pg}{aX:List Int}{qs:List dw}{sn:Int}{n:Nat}{c:yl}:(sj cs us au aX qs sn n c).cs=(sj cs UP au aX qs sn n c).cs:=by grind[sj]
def usB(s:NP):List jM:=s.us.map fun l=>⟨.slice none 0 0,l⟩
abbrev JB(s:NP):yl->Prop:=JN s (bq (oY (usB s) s).cs)
abbrev muB(s:NP):yl->Nat:=muN s.au s.aX s.aj.length s.qs
theorem abD{s:NP}{us:List jM}:(oY us s).cs=(oY (usB s) s).cs:=asK
theorem axm{s:NP}(h:xC s):∀us:List jM,pO us=s.us->JB s (Vx (oY us s).s s.sn s.qs.length)/\muB s (Vx (oY us s).s s.sn s.qs.length)<=muM s/\∀cX eA JW mz x,JB s ⟨cX,eA,x::JW,mz⟩->∀r,ng (bq (oY us s).cs) us (s.au.getD (s.qs.getD x.toNat cP).aX.toNat o3).p.sh (s.qs.getD x.toNat cP) cX eA JW (mz.set x.toNat false) s.wy=r->r.ok=true->JB s ⟨r.aj,r.a6,r.wl,r.wi⟩/\muB s ⟨r.aj,r.a6,r.wl,r.wi⟩<muB s ⟨cX,eA,x::JW,mz⟩:=fun us xA=>by
 have hs:=VJ h.ns xA
 have hl:=ad5 h xA
 unfold JB
 rw[<-abD (us:=us)]
 exact⟨hs.1,hs.2,hl⟩
theorem aiZ{s:NP}(h:xC s){us:List jM}(xA:pO us=s.us){c:yl}{ok:Bool}{TH:BitVec 64}{a:Nat}(hr:SpR (bq (oY us s).cs) us s.au s.qs c ok s.wy TH)(ha:a+muB s c<=muB s (Vx (oY us s).s s.sn s.qs.length)+(if ok then 0 else 1)):a<=muM s:=by
 have hm:=(VJ h.ns xA).2
 rcases hr with⟨e,_⟩|⟨e,x,wl,hw,_⟩
 .subst e;simp only[uL]at ha;unfold muB at ha;omega
 subst e
 have:1<=muB s c:=by unfold muB muN;rw[hw];simp only[eR];omega
 simp only[tR,xj]at ha
 unfold muB at ha this;omega
theorem MO{ids:List Nat}{tl Qn:List (Nat×Rl)}:∀{d:Wr},d.EX ids tl->d.EX ids (tl++Qn)
 | .base p tb,h=>⟨h.1,fun i hi q hq=>dy _ (h.2 i hi q hq)⟩
 | .wrap m d,h=>⟨h.1,MO h.2⟩
theorem WU.more{T:On}{K:Vu}{ids:List Nat}{tl Qn:List (Nat×Rl)}{x:pg}(h:WU T K ids tl x):WU T K ids (tl++Qn) x:=⟨h.ops,MO h.EX,h.sh,h.zx,h.dep⟩
theorem ai0{p:kE}(h:gM p=true):∀l∈p.au,l.zx.aL.length<=1000/\∀f∈l.zx.aL,f.names.length<=1000:=fun l hl=>by
 have hs:=mc ((vA h).2.1 l hl)
 refine⟨by have:=rV l.zx;omega,fun f hf=> ?_⟩
 have:=(sE (hs.2.2 f.fc (fX.2 ⟨f,hf,rfl⟩))).1.2
 have e:f.fc.names=f.names:=rfl
 rw[e]at this;omega
structure JX(p:kE)(x:Value)(j:Nat)(s:NP):Prop where
 lt:s.au.map (fun x=>x.p.sh)=p.au.map fun l=>l.zx.sh
 la:s.aX=(p.vars.take j).map vS.aX
 nv:s.aj.length=j
 nw:xC s
 qs:s.qs=[]
 sk:s.sk=false
 wr:s.wr=x
structure Ng(p:kE)(j:Nat)(ls:List pg):Prop where
 lt:ls.map (fun x=>x.p.sh)=(p.au.take j).map fun l=>l.zx.sh
 lw:∀x∈ls,lW x.p.sh=true/\x.low=iu x.p.sh eY
def npL(ls:List pg)(x:Value):NP:=NP.mk ls [] [] [] [] [] 0 [[]] false 0 x
theorem Ng.len{p:kE}{j:Nat}{ls:List pg}(h:Ng p j ls)(hj:j<=p.au.length):ls.length=j:=by
 have:=aJ List.length h.lt
 rw[gB,gB,eP]at this;omega
theorem Ng.next{p:kE}{k:Int}{ls:List pg}(h:Ng p k.toNat ls)(h0:0<=k)(h1:k<p.au.length){x:pg}(hs:lW (p.au.getD k.toNat me).zx.sh=true)(hx:x.p.sh=(p.au.getD k.toNat me).zx.sh)(hw:x.low=iu (p.au.getD k.toNat me).zx.sh eY):Ng p (k+1).toNat (ls++[x]):=by
 have hk:k.toNat<p.au.length:=J
 refine⟨?_,fun y hy=> ?_⟩
 .rw[show(k+1).toNat=k.toNat+1 by omega,DY hk,gz,gz,h.lt]
  simp only[lB,BM]
  rw[hx,getD_eq hk]
 rcases eI.1 hy with q|q
 .exact h.lw y q
 rw[dY.1 q,hx];exact⟨hs,hw⟩
theorem Ng.fin{p:kE}{k:Int}{ls:List pg}{x:Value}(h:Ng p k.toNat ls)(h0:0<=k)(h1:¬k<p.au.length):JX p x 0 (npL ls x):=
 ⟨by show ls.map _=_;rw[h.lt,iV J],by simp[npL],rfl,⟨yo.start O O O O O O O,h.lw,by simp[npL],by simp[npL],fun _=>rfl⟩,rfl,rfl,rfl⟩
theorem JX.next{p:kE}{x:Value}{j:Int}{s:NP}(h:JX p x j.toNat s)(h0:0<=j)(h1:j<p.vars.length)(hv:p.vars.length<=64)(hl:0<=(p.vars.getD j.toNat gL).aX/\(p.vars.getD j.toNat gL).aX<s.au.length):JX p x (j+1).toNat (qn s (p.vars.getD j.toNat gL).aX (s.au.getD (p.vars.getD j.toNat gL).aX.toNat o3).low):=by
 have hk:j.toNat<p.vars.length:=J
 have hn:=h.nv
 refine⟨h.lt,?_,by simp[qn];omega,h.nw.var hl J,h.qs,h.sk,h.wr⟩
 rw[show(j+1).toNat=j.toNat+1 by omega,DY hk,gz]
 show s.aX++[_]=_
 rw[h.la,getD_eq hk];rfl
theorem JX.len{p:kE}{x:Value}{j:Nat}{s:NP}(h:JX p x j s):s.au.length=p.au.length:=by have:=aJ List.length h.lt;simpa using this
theorem JX.fin{p:kE}{x:Value}{j:Int}{s:NP}(h:JX p x j.toNat s)(h0:0<=j)(h2:j<=p.vars.length)(h1:¬j<p.vars.length):s4 p s:=by
 refine⟨h.lt,?_,by have:=h.nv;omega⟩
 rw[h.la,iV J]
structure asL(s s':NP)(ok:Bool):Prop where
 st:s.sk=true->ok=false/\s'=s
 go:s.sk=false->asI s s' ok
def tmS(s:NP)(lg:List (Value×lU))(tm:List Int):List Int:=if s.sk then tm else tm++[(lg.length:Int)]
theorem axo{s:NP}{lg:List (Value×lU)}{tm:List Int}(h:s.sk=true):tmS s lg tm=tm:=by unfold tmS;rw[h];rfl
theorem axp{s:NP}{lg:List (Value×lU)}{tm:List Int}(h:s.sk=false):tmS s lg tm=tm++[(lg.length:Int)]:=by unfold tmS;rw[h];rfl
def TmA(ok:Bool)(lg:List (Value×lU))(tm TI:List Int):Prop:=TI=if ok then tm++[(lg.length:Int)]else tm
structure SS(s s':NP)(k:Int)(l:List dz)(t:iw)(y:BitVec 64)(ok:Bool):Prop where
 is:ok=true↔s.sk=false/\vY s.au s.aX k l t=true
 add:ok=true->∃cv vv,s'=A7 s ⟨k,cv,l,t,y,vv,bS l⟩
 same:ok=false->s'=s
theorem SS.no{s:NP}{k:Int}{l:List dz}{t:iw}{y:BitVec 64}(h:¬(s.sk=false/\vY s.au s.aX k l t=true)):SS s s k l t y false:=by grind[NP,dz,iw,vY,SS]
theorem SS.yes{s:NP}{k:Int}{l:List dz}{t:iw}{y:BitVec 64}{cv vv:Value}(h:s.sk=false)(h2:vY s.au s.aX k l t=true):SS s (A7 s ⟨k,cv,l,t,y,vv,bS l⟩) k l t y true:=⟨⟨fun _=>⟨h,h2⟩,fun _=>rfl⟩,fun _=>⟨_,_,rfl⟩,fun q=>by cases q⟩
structure OE(s s':NP)(x:gp)(i:Nat)(ok:Bool):Prop where
 ne:x.op≠8->ok=true/\s'=s
 eq:x.op=8->SS s s' x.aX x.code x.to (1#64<<<i) ok
def TmX(op:Int)(ok:Bool)(lg:List (Value×lU))(tm TI:List Int):Prop:=if op=8 then TmA ok lg tm TI else TI=tm
theorem TmX.no{op:Int}{ok:Bool}{lg:List (Value×lU)}{tm:List Int}(h:op≠8):TmX op ok lg tm tm:=by grind[TmX]
theorem TmX.yes{op:Int}{ok:Bool}{lg:List (Value×lU)}{tm TI:List Int}(h:op=8)(h2:TmA ok lg tm TI):TmX op ok lg tm TI:=by grind[TmX]
theorem aEl{i:Int}(h:0<=i/\i<=1000):(1#64<<<(BitVec.ofInt 64 i).toNat)=1#64<<<i.toNat:=by grind
def QPm(p:kE)(l:List gp)(k:Nat)(a:BitVec 64):tg->Prop:=fun q=>∃j,j<k/\(l.getD j fU).op=8/\q=FJ p (l.getD j fU)/\dX (1#64<<<j) a=true
theorem axq{p:kE}{s:NP}{l:List gp}{k:Nat}(h:s4 p s)(hq:s.qs.map IM=rE l k):MN s=QPm p l k:=by
 have key:∀r:dw,∀x:gp,IM r=Nf 0 x\/(∃j,IM r=Nf j x)->uf s.au s.aj.length r=FJ p x:=fun r x e=>by
  have e2:r.aX=x.aX/\r.code=x.code/\r.to=x.to:=by
   rcases e with e|⟨j,e⟩<;>(simp only[Nf,IM,XM]at e;exact⟨e.1,e.2.1,e.2.2.1⟩)
  unfold uf ym FJ iO
  rw[h.nv,h.sh,e2.1,e2.2.1,e2.2.2]
 funext a q
 refine propext ⟨fun⟨i,hi,e,hs⟩=> ?_,fun⟨j,hj,ho,e,hs⟩=> ?_⟩
 .have hm:IM (s.qs.getD i cP)∈rE l k:=by rw[<-hq,getD_eq hi];exact fX.2 ⟨_,nM hi,rfl⟩
  obtain⟨j,hj,e2⟩:=fX.1 hm
  simp only[xb,pX,eo]at hj
  refine⟨j,hj.1,hj.2,by rw[e];exact key _ _ (.inr ⟨j,e2.symm⟩),?_⟩
  have e3:=aJ (fun z=>z.2.2.2) e2
  simp only[Nf,IM]at e3
  rw[e3];exact hs
 have hm:Nf j (l.getD j fU)∈rE l k:=fX.2 ⟨j,by simp only[xb,pX,eo];exact⟨hj,ho⟩,rfl⟩
 rw[<-hq]at hm
 obtain⟨r,hr,e2⟩:=fX.1 hm
 obtain⟨i,hi,e3⟩:=yM.1 hr
 refine⟨i,hi,?_,?_⟩
 .rw[e,getD_eq hi,e3];exact(key _ _ (.inr ⟨j,e2⟩)).symm
 rw[getD_eq hi,e3]
 have e4:=aJ (fun z=>z.2.2.2) e2
 simp only[Nf,IM]at e4
 rw[e4];exact hs
structure vZ(p:kE)(l:List gp)(k:Nat)(s:NP):Prop where
 np:s4 p s
 nw:xC s
 qs:s.qs.map IM=rE l k
theorem anq{l:List gp}{k:Nat}:(rE l k).length<=k:=by grind[rE]
section
variable{p:kE}{l:List gp}{k:Nat}{s s':NP}{ok:Bool}
theorem vZ.start(h1:s4 p s)(h2:xC s)(h3:s.qs=[]):vZ p l 0 s:=⟨h1,h2,by rw[h3];rfl⟩
theorem vZ.add(h:vZ p l k s)(hk:k<l.length)(h64:k<64)(ha:∀x∈l,jr p x=true)(hc:∀x∈l,x.code.length<=1000)(Bu:s.sk=false)(hA:OE s s' (l.getD k fU) k ok):ok=true/\vZ p l (k+1) s'/\s'.sk=false/\s'.wr=s.wr/\s'.au=s.au:=by
 have hm:l.getD k fU∈l:=by rw[getD_eq hk];exact nM hk
 by_cases ho:(l.getD k fU).op=8
 .have hR:=hA.eq ho
  have hfb:=h.np.fit h.nw.ns.ok.hlt (ha _ hm) ho
  have hok:=hR.is.2 ⟨Bu,hfb⟩
  obtain⟨cv,vv,e⟩:=hR.add hok
  have hf:=ano h.nw.ns.ok hfb (hc _ hm) cv vv (1#64<<<k)
  have hq:s.qs.length<=k:=by have:=aJ List.length h.qs;rw[gB]at this;have:=anq (l:=l) (k:=k);omega
  subst e
  refine⟨hok,⟨⟨h.np.lt,h.np.la,h.np.nv⟩,h.nw.add hf J,?_⟩,Bu,rfl,rfl⟩
  show(s.qs++[_]).map IM=_
  rw[IN,aS ho,gz,h.qs];rfl
 obtain⟨h1,h2⟩:=hA.ne ho
 subst h2
 exact⟨h1,⟨h.np,h.nw,by rw[IN,aR ho,lY];exact h.qs⟩,Bu,rfl,rfl⟩
theorem OE.stuck{x:gp}{i:Nat}(hA:OE s s' x i ok)(Bu:s.sk=true):s'=s/\(ok=true↔x.op≠8):=by
 by_cases ho:x.op=8
 .have hR:=hA.eq ho
  have hno:ok=false:=by
   cases ok with
   |false=>rfl
   |true=>have:=(hR.is.1 O).1;rw[Bu]at this;cases this
  exact⟨hR.same hno,⟨fun q=>(by rw[hno]at q;cases q),fun q=>absurd ho q⟩⟩
 obtain⟨h1,h2⟩:=hA.ne ho
 exact⟨h2,⟨fun _=>ho,fun _=>h1⟩⟩
structure aEm(p:kE)(l:List gp)(k:Nat)(s s':NP)(ok:Bool):Prop where
 net:vZ p l k s'
 sk:s'.sk= !ok
 is:ok=true↔A9 (j7 p) (QP p (l.take k))
 low:ok=true->tG (j7 p) (QP p (l.take k)) (vQ s'.aj)
 all:ok=true->∀q,QP p (l.take k) q->e8 q (vQ s'.aj)
 why:ok=true->∀i,i<p.vars.length->∀u,uv (j7 p) (QPm p l k (s'.a6.getD i 0)) u->cT (s'.aj.getD i dH) (u i)=true
 no:ok=false->¬A9 (j7 p) (QPm p l k s'.wy)
 same:ok=false->s'.aj=s.aj
theorem vZ.set(h:vZ p l k s)(hk:k<=l.length)(hS:asI s s' ok):aEm p l k s s' ok:=by
 have e1:=h.np.sys
 have e2:=axl h.np h.qs hk
 have e3:=axq h.np h.qs
 have hl:vZ p l k s':=⟨h.np.same hS.au hS.aX hS.len,hS.net,by rw[hS.qs];exact h.qs⟩
 have hy:ok=true->_:=hS.yes
 have hn:ok=false->_:=hS.no
 rw[e1,e2,e3]at hy hn
 refine⟨hl,hS.sk,⟨fun q=>⟨_,(hy q).1.low.fit,(hy q).2.1⟩,fun q=> ?_⟩,fun q=>(hy q).1,fun q=>(hy q).2.1,fun q i hi u hu=>(hy q).2.2 i hi u hu,fun q=>(hn q).2.2.2,fun q=>(hn q).1⟩
 cases ok with
 |true=>rfl
 |false=>exact absurd q (hn O).2.2.1
end
theorem abE{p:l6}(h:kY p=true):p.bu.length<=64:=by grind[kY]
def wR:El:=A4 dH 0 1#64
def qR(lv fv nv vv:Value):kE:=⟨lv,[⟨⟨#[107]⟩,⟨false,fv,[⟨1,nv,vV,Rl.none⟩]⟩⟩],vv,[⟨⟨#[120]⟩,1,0⟩,⟨⟨#[121]⟩,1,0⟩]⟩
def a24(v:Value)(l:List dz)(t:iw):gp:=⟨8,0,v,l,t,amk,amk,0,pM⟩
def AH(u v w:Value):List gp:=[a24 u [⟨2,0,wR⟩] ⟨0,dH⟩,a24 v [⟨1,0,dH⟩] ⟨1,dH⟩,a24 w [⟨1,1,dH⟩] ⟨-1,dH⟩]
def N_:Value:= .slice none 0 0
theorem aEn(lv fv nv vv av u v w:Value):kY ⟨qR lv fv nv vv,av,AH u v w⟩=true:=(by decide+kernel:kY ⟨qR N_ N_ N_ N_,N_,AH N_ N_ N_⟩=true)
def CA(a b:El):Va:=fun i=>if i=0 then a else b
theorem AI{lv fv nv vv:Value}{a b:El}(ha:cF (iO (qR N_ N_ N_ N_) 0) a=true)(hb:cF (iO (qR N_ N_ N_ N_) 0) b=true):pP (j7 (qR lv fv nv vv)) (CA a b):=fun i hi=>by
 have hi':i<2:=hi
 rcases(by omega:i=0\/i=1)with rfl|rfl
 .exact ha
 exact hb
theorem AJ:cF (iO (qR N_ N_ N_ N_) 0) dH=true:=by decide+kernel
theorem AL:cF (iO (qR N_ N_ N_ N_) 0) wR=true:=by decide+kernel
theorem AM(lv fv nv vv u v w:Value):
  (e8 (FJ (qR lv fv nv vv) ((AH u v w).getD 0 fU)) (CA wR wR)/\e8 (FJ (qR lv fv nv vv) ((AH u v w).getD 0 fU)) (CA wR dH))/\
  (e8 (FJ (qR lv fv nv vv) ((AH u v w).getD 1 fU)) (CA wR wR)/\e8 (FJ (qR lv fv nv vv) ((AH u v w).getD 1 fU)) (CA dH dH))/\
  (e8 (FJ (qR lv fv nv vv) ((AH u v w).getD 2 fU)) (CA dH dH)/\e8 (FJ (qR lv fv nv vv) ((AH u v w).getD 2 fU)) (CA wR dH)):=by
 refine⟨⟨?_,?_⟩,⟨?_,?_⟩,?_,?_⟩
 .exact(by decide+kernel:cT (fY (iO (qR N_ N_ N_ N_) 0) [⟨2,0,wR⟩] [wR,wR]).1 wR=true)
 .exact(by decide+kernel:cT (fY (iO (qR N_ N_ N_ N_) 0) [⟨2,0,wR⟩] [wR,dH]).1 wR=true)
 .exact(by decide+kernel:cT (fY (iO (qR N_ N_ N_ N_) 0) [⟨1,0,dH⟩] [wR,wR]).1 wR=true)
 .exact(by decide+kernel:cT (fY (iO (qR N_ N_ N_ N_) 0) [⟨1,0,dH⟩] [dH,dH]).1 dH=true)
 .exact(by decide+kernel:cT (fY (iO (qR N_ N_ N_ N_) 0) [⟨1,1,dH⟩] [dH,dH]).1 dH=true)
 exact(by decide+kernel:cT (fY (iO (qR N_ N_ N_ N_) 0) [⟨1,1,dH⟩] [wR,dH]).1 dH=true)
theorem asM:cT wR dH=false:=by decide+kernel
section
variable{lv fv nv vv u v w:Value}
theorem ai1{k:Nat}(hk:k<=3){q:tg}:QP (qR lv fv nv vv) ((AH u v w).take k) q↔∃j,j<k/\q=FJ (qR lv fv nv vv) ((AH u v w).getD j fU):=by
 have hl:(AH u v w).length=3:=rfl
 have ho:∀j,j<3->((AH u v w).getD j fU).op=8:=fun j hj=>by
  rcases(by omega:j=0\/j=1\/j=2)with rfl|rfl|rfl<;>rfl
 constructor
 .rintro⟨x,hx,_,e⟩
  obtain⟨j,hj,e1⟩:=Hq.1 hx
  exact⟨j,J,by rw[e,<-e1,getD_eq J]⟩
 rintro⟨j,hj,e⟩
 refine⟨_,?_,ho j J,e⟩
 rw[getD_eq J]
 exact Hq.2 ⟨j,J,rfl⟩
theorem axs{k:Nat}(hk:k<=3){a:BitVec 64}{q:tg}(h:QPm (qR lv fv nv vv) (AH u v w) k a q):∃j,j<k/\q=FJ (qR lv fv nv vv) ((AH u v w).getD j fU)/\dX (1#64<<<j) a=true:=by
 obtain⟨j,hj,_,e,hs⟩:=h
 exact⟨j,hj,e,hs⟩
theorem axt{x:Va}(h0:e8 (FJ (qR lv fv nv vv) ((AH u v w).getD 0 fU)) x)(h1:e8 (FJ (qR lv fv nv vv) ((AH u v w).getD 1 fU)) x)(hx:pP (j7 (qR lv fv nv vv)) x):cT wR (x 1)=true:=by
 have p0:cT wR (x 0)=true:=h0
 have p:=M7 (S:=j7 (qR lv fv nv vv)) (sh:=iO (qR lv fv nv vv) 0) (n:=2) (x:=⟨1,0,dH⟩) (to:=⟨1,dH⟩) O ⟨az,az⟩ az
 have e:rC ((FJ (qR lv fv nv vv) ((AH u v w).getD 1 fU)).ev x) (x 0):=p.ev x hx
 have p1:cT ((FJ (qR lv fv nv vv) ((AH u v w).getD 1 fU)).ev x) (x 1)=true:=h1
 exact fg p0 (fg (kS fun i hi=>(e i hi).symm) p1)
theorem asN:A9 (j7 (qR lv fv nv vv)) (QP (qR lv fv nv vv) ((AH u v w).take 2)):=by
 have h:=AM lv fv nv vv u v w
 refine⟨CA wR wR,AI AL AL,fun q hq=> ?_⟩
 obtain⟨j,hj,e⟩:=(ai1 J).1 hq
 subst e
 rcases(by omega:j=0\/j=1)with rfl|rfl
 .exact h.1.1
 exact h.2.1.1
theorem anr{x:Va}(hl:tG (j7 (qR lv fv nv vv)) (QP (qR lv fv nv vv) ((AH u v w).take 2)) x)(hh:∀q,QP (qR lv fv nv vv) ((AH u v w).take 2) q->e8 q x):rC (x 1) wR:=by
 have h:=AM lv fv nv vv u v w
 have hs:uv (j7 (qR lv fv nv vv)) (QP (qR lv fv nv vv) ((AH u v w).take 2)) (CA wR wR):=⟨AI AL AL,fun q hq _=>by
  obtain⟨j,hj,e⟩:=(ai1 J).1 hq
  subst e
  rcases(by omega:j=0\/j=1)with rfl|rfl
  .exact h.1.1
  exact h.2.1.1⟩
 exact YD (hl.low.low _ hs 1 (show 1<2 by decide)) (axt (hh _ ((ai1 J).2 ⟨0,J,rfl⟩)) (hh _ ((ai1 J).2 ⟨1,J,rfl⟩)) hl.low.fit)
theorem VK{k:Nat}(hk:k<=3){a:BitVec 64}{x y:El}{i:Nat}(hf:pP (j7 (qR lv fv nv vv)) (CA x y))(hn:¬∀q,QPm (qR lv fv nv vv) (AH u v w) k a q->e8 q (CA x y))(hh:∀j,j<k->j≠i->e8 (FJ (qR lv fv nv vv) ((AH u v w).getD j fU)) (CA x y)):dX (1#64<<<i) a=true:=by grind[dX,axs]
theorem VL{a:BitVec 64}{i:Nat}(hi:i<64)(h:dX (1#64<<<i) a=true):a.getLsbD i=true:=by
 have:=aJ (fun z:BitVec 64=>z.getLsbD i) (K4 h)
 simp only[rJ,Q5,BitVec.getLsbD_shiftLeft,Xi,hi,decide_true,l8]at this
 simpa using this
theorem axu{a:BitVec 64}(h0:dX (1#64<<<0) a=true)(h1:dX (1#64<<<1) a=true):a&&&3#64=3#64:=by
 have b0:=VL az h0
 have b1:=VL az h1
 refine BitVec.eq_of_getLsbD_eq fun i hi=> ?_
 rw[rJ]
 rcases(by omega:i=0\/i=1\/2<=i)with rfl|rfl|h
 .rw[b0];rfl
 .rw[b1];rfl
 have:(3#64).getLsbD i=false:=by
  rw[Xh,Nat.testBit_lt_two_pow (Xl (by decide:3<2^2) (Xg az h))];simp
 rw[this,KW]
theorem asO{a:BitVec 64}(h0:dX (1#64<<<0) a=true)(h1:dX (1#64<<<1) a=true)(h2:dX (1#64<<<2) a=true):a&&&7#64=7#64:=by
 have b0:=VL az h0
 have b1:=VL az h1
 have b2:=VL az h2
 refine BitVec.eq_of_getLsbD_eq fun i hi=> ?_
 rw[rJ]
 rcases(by omega:i=0\/i=1\/i=2\/3<=i)with rfl|rfl|rfl|h
 .rw[b0];rfl
 .rw[b1];rfl
 .rw[b2];rfl
 have:(7#64).getLsbD i=false:=by
  rw[Xh,Nat.testBit_lt_two_pow (Xl (by decide:7<2^3) (Xg az h))];simp
 rw[this,KW]
theorem axv{x:Va}{a:BitVec 64}(he:rC (x 1) wR)(hw:∀y,uv (j7 (qR lv fv nv vv)) (QPm (qR lv fv nv vv) (AH u v w) 2 a) y->cT (x 1) (y 1)=true):a&&&3#64=3#64:=by
 have h:=AM lv fv nv vv u v w
 have key:∀z:El,cT wR z=false->∀y:El,pP (j7 (qR lv fv nv vv)) (CA y z)->¬∀q,QPm (qR lv fv nv vv) (AH u v w) 2 a q->e8 q (CA y z):=fun z hz y hf hq=>by
  have h1:=fg (kS fun i hi=>(he i hi).symm) (hw (CA y z) (A9.sol hf hq))
  have h2:cT wR z=true:=h1
  rw[hz]at h2;cases h2
 refine axu (VK (k:=2) (x:=dH) (y:=dH) J (AI AJ AJ) (key _ asM _ (AI AJ AJ)) fun j hj hne=> ?_) (VK (k:=2) (x:=wR) (y:=dH) J (AI AL AJ) (key _ asM _ (AI AL AJ)) fun j hj hne=> ?_)
 .have:j=1:=J
  subst this;exact h.2.1.2
 have:j=0:=J
 subst this;exact h.1.2
theorem axw:¬A9 (j7 (qR lv fv nv vv)) (QP (qR lv fv nv vv) ((AH u v w).take 3)):=by
 rintro⟨x,hx,hq⟩
 have g:∀j,j<3->e8 (FJ (qR lv fv nv vv) ((AH u v w).getD j fU)) x:=fun j hj=>hq _ ((ai1 J).2 ⟨j,hj,rfl⟩)
 have h1:=axt (g 0 J) (g 1 J) hx
 have p:=M7 (S:=j7 (qR lv fv nv vv)) (sh:=iO (qR lv fv nv vv) 0) (n:=2) (x:=⟨1,1,dH⟩) (to:=⟨1,dH⟩) O ⟨az,az⟩ az
 have e:rC ((FJ (qR lv fv nv vv) ((AH u v w).getD 2 fU)).ev x) (x 1):=p.ev x hx
 have h2:cT ((FJ (qR lv fv nv vv) ((AH u v w).getD 2 fU)).ev x) dH=true:=g 2 J
 have h3:=fg h1 (fg (kS fun i hi=>(e i hi).symm) h2)
 rw[asM]at h3;cases h3
theorem ans{a:BitVec 64}(hs:¬A9 (j7 (qR lv fv nv vv)) (QPm (qR lv fv nv vv) (AH u v w) 3 a)):a&&&7#64=7#64:=by
 have h:=AM lv fv nv vv u v w
 have key:∀y z:El,pP (j7 (qR lv fv nv vv)) (CA y z)->¬∀q,QPm (qR lv fv nv vv) (AH u v w) 3 a q->e8 q (CA y z):=fun y z hf hq=>hs ⟨_,hf,hq⟩
 refine asO (VK (k:=3) (x:=dH) (y:=dH) J (AI AJ AJ) (key _ _ (AI AJ AJ)) fun j hj hne=> ?_) (VK (k:=3) (x:=wR) (y:=dH) J (AI AL AJ) (key _ _ (AI AL AJ)) fun j hj hne=> ?_) (VK (k:=3) (x:=wR) (y:=wR) J (AI AL AL) (key _ _ (AI AL AL)) fun j hj hne=> ?_)
 .rcases(by omega:j=1\/j=2)with rfl|rfl
  .exact h.2.1.2
  exact h.2.2.1
 .rcases(by omega:j=0\/j=2)with rfl|rfl
  .exact h.1.2
  exact h.2.2.2
 rcases(by omega:j=0\/j=1)with rfl|rfl
 .exact h.1.1
 exact h.2.1.1
end
theorem aEo(u v w:Value):∀x∈AH u v w,x.code.length<=1000:=fun x hx=>by
 simp only[AH,cQ,Hw,BO]at hx
 rcases hx with rfl|rfl|rfl<;>(show 1<=1000;decide)
theorem aEp:lW (iO (qR N_ N_ N_ N_) 0)=true:=by decide+kernel
structure VM(p:kE)(l:List gp)(k:Nat)(s:NP):Prop where
 nw:xC s
 wr:s.wr= .nilFunc
 go:s.sk=false->vZ p l k s
 st:s.sk=true->¬A9 (j7 p) (QP p (l.take k))
section
variable{p:kE}{l:List gp}{k:Nat}{s s':NP}{ok:Bool}
theorem ant{q:tg}(h:QP p (l.take k) q):QP p (l.take (k+1)) q:=by
 obtain⟨x,hx,ho,e⟩:=h
 obtain⟨j,hj,e1⟩:=Hq.1 hx
 exact⟨x,Hq.2 ⟨j,J,e1⟩,ho,e⟩
theorem VM.start(h:vZ p l 0 s)(hs:s.sk=false)(hw:s.wr= .nilFunc):VM p l 0 s:=⟨h.nw,hw,fun _=>h,fun q=>(by rw[hs]at q;cases q)⟩
theorem VM.add(h:VM p l k s)(hk:k<l.length)(h64:k<64)(ha:∀x∈l,jr p x=true)(hc:∀x∈l,x.code.length<=1000)(hA:OE s s' (l.getD k fU) k ok):(s.sk=false->ok=true)/\(s.sk=true->ok=decide ((l.getD k fU).op≠8))/\VM p l (k+1) s'/\s'.sk=s.sk:=by
 cases Bu:s.sk with
 |false=>
  obtain⟨h1,h2,h3,h4,_⟩:=(h.go Bu).add hk h64 ha hc Bu hA
  exact⟨fun _=>h1,fun q=>(by cases q),⟨h2.nw,h4.trans h.wr,fun _=>h2,fun q=>(by rw[h3]at q;cases q)⟩,h3⟩
 |true=>
  obtain⟨h1,h2⟩:=hA.stuck Bu
  subst h1
  exact⟨fun q=>(by cases q),fun _=>gP.2 (by rw[h2];simp),⟨h.nw,h.wr,fun q=>Ya,fun q hs=>h.st q (hs.less fun _=>ant)⟩,Bu⟩
theorem VM.set(h:VM p l k s)(hk:k<=l.length)(hQ:asL s s' ok):VM p l k s'/\(ok=true↔A9 (j7 p) (QP p (l.take k)))/\(ok=true->s4 p s'/\tG (j7 p) (QP p (l.take k)) (vQ s'.aj)):=by
 cases Bu:s.sk with
 |false=>
  have hP:=(h.go Bu).set hk (hQ.go Bu)
  refine⟨⟨hP.net.nw,(hQ.go Bu).wr.trans h.wr,fun _=>hP.net,fun q=> ?_⟩,hP.is,fun q=>⟨hP.net.np,hP.low q⟩⟩
  rw[hP.sk]at q
  rw[<-hP.is]
  cases ok with
  |true=>cases q
  |false=>exact fun e=>(by cases e)
 |true=>
  obtain⟨h1,h2⟩:=hQ.st Bu
  subst h1;subst h2
  exact⟨h,⟨fun q=>(by cases q),fun q=>absurd q (h.st Bu)⟩,fun q=>(by cases q)⟩
end
theorem SU{K:Vu}{v:Value}{sz n:Nat}{cells:List Value}(h:pN K v sz n cells)(k:Nat)(hk:k<=n):pN K (q7 v k) sz k (cells.take (k*sz)):=by
 obtain⟨a,cap,hv,hnc,ha⟩:=h.shape
 subst hv
 have e1:sb (.slice a k cap)=sb (.slice a n cap):=by cases a<;>rfl
 have e2:so (.slice a k cap)=so (.slice a n cap):=by cases a<;>rfl
 refine⟨⟨a,cap,rfl,J,fun h0=> ?_⟩,?_,fun j c hc=> ?_,kM hk h.small⟩
 .show a=some ⟨sb (.slice a k cap),so (.slice a k cap),none⟩
  rw[e1,e2];exact ha J
 .rw[eP,h.len]
  exact rz (ry _ hk)
 rw[uF]at hc
 split at hc
 .show Po K (sb (.slice a k cap)) (so (.slice a k cap)+j) c
  rw[e1,e2];exact h.cell j c hc
 .cases hc
theorem wI.take{K:Vu}{p:l6}(h:wI K p){k:Nat}(hk:k<=p.bu.length):wI K ⟨p.s,q7 p.av k,p.bu.take k⟩:=by
 refine⟨h.s,?_,fun x hx=>h.each x (rH hx)⟩
 have:=SU h.bu k hk
 rw[O5 yc]at this
 show pN K (q7 p.av k) 18 (p.bu.take k).length _
 rw[eP,rz hk];exact this
theorem KO{p:l6}(h:kY p=true)(k:Nat)(v:Value):kY ⟨p.s,v,p.bu.take k⟩=true:=by
 simp only[kY,cG,eo,iN]at h⊢
 exact⟨⟨h.1.1,by rw[eP];omega⟩,fun x hx=>h.2 x (rH hx)⟩
def nxP(o:List Int)(x:dz):Prop:=x.op=1/\0<=x.n/\x.n∉o
instance(o:List Int)(x:dz):Decidable (nxP o x):=by unfold nxP;infer_instance
def nxG(o:List Int)(b:Int)(x:dz):Int:=if nxP o x/\(b<0\/x.n<b)then x.n else b
def nxV(l:List dz)(o:List Int)(k:Nat):Int:=(l.take k).foldl (nxG o) (-1)
theorem alr{l:List dz}{o:List Int}{k:Int}(h0:0<=k)(h1:k<l.length):nxV l o (k+1).toNat=nxG o (nxV l o k.toNat) (l.getD k.toNat cB):=by
 unfold nxV;rw[mR h0 h1]
theorem Zz{o:List Int}:∀(l:List dz) (b:Int),(b= -1\/0<=b)->(l.foldl (nxG o) b=b/\∀x∈l,nxP o x->0<=b/\b<=x.n)\/(0<=l.foldl (nxG o) b/\(b<0\/l.foldl (nxG o) b<=b)/\(∃x∈l,nxP o x/\x.n=l.foldl (nxG o) b)/\∀x∈l,nxP o x->l.foldl (nxG o) b<=x.n)
 |[],b,_=> .inl ⟨rfl,fun x hx=>by cases hx⟩
 |a::l,b,hb=>by
  by_cases c:nxP o a/\(b<0\/a.n<b)
  .have e:nxG o b a=a.n:=aS c
   rw[rA,e]
   have ha:=c.1.2.1
   rcases Zz l a.n (.inr ha)with⟨h1,h2⟩|⟨h1,h2,⟨x,hx,hp,he⟩,h4⟩
   .refine .inr ⟨J,J,⟨a,aF,c.1,h1.symm⟩,fun x hx hp=> ?_⟩
    rw[h1]
    rcases cQ.1 hx with rfl|hx
    .exact nc _
    exact(h2 x hx hp).2
   refine .inr ⟨h1,J,⟨x,oN,hp,he⟩,fun y hy hq=> ?_⟩
   rcases cQ.1 hy with rfl|hy
   .omega
   exact h4 y hy hq
  have e:nxG o b a=b:=aR c
  rw[rA,e]
  have hc:nxP o a->0<=b/\b<=a.n:=fun hp=>by
   have:¬(b<0\/a.n<b):=fun q=>c ⟨hp,q⟩
   omega
  rcases Zz l b hb with⟨h1,h2⟩|⟨h1,h2,⟨x,hx,hp,he⟩,h4⟩
  .refine .inl ⟨h1,fun x hx hp=> ?_⟩
   rcases cQ.1 hx with rfl|hx
   .exact hc hp
   exact h2 x hx hp
  refine .inr ⟨h1,h2,⟨x,oN,hp,he⟩,fun y hy hq=> ?_⟩
  rcases cQ.1 hy with rfl|hy
  .have:=hc hq;omega
  exact h4 y hy hq
theorem ai2{l:List dz}{j:Nat}(hj:j<=(bS l).length):nxV l ((bS l).take j) l.length=if j<(bS l).length then(bS l).getD j 0 else-1:=by
 have hs:=Fj l
 have hm:∀i,i∈bS l↔∃x∈l,x.op=1/\0<=x.n/\x.n=i:=fun i=>ow
 have hd:∀i,i∈bS l->i∉(bS l).take j->i∈(bS l).drop j:=fun i hi hn=>by
  rw[<-BB j (bS l)]at hi
  rcases eI.1 hi with q|q
  .exact absurd q hn
  exact q
 have hlt:∀a∈(bS l).take j,∀b∈(bS l).drop j,a<b:=fun a ha b hb=>by
  have h:=hs
  rw[<-BB j (bS l)]at h
  exact(BC.1 h).2.2 a ha b hb
 unfold nxV
 rw[EG]
 rcases Zz (o:=(bS l).take j) l (-1) (.inl O)with⟨h1,h2⟩|⟨h1,_,⟨x,hx,hp,he⟩,h4⟩
 .rw[h1]
  by_cases c:j<(bS l).length
  .exfalso
   have hg:(bS l)[j]∈(bS l).drop j:=by rw[EA c];exact tQ ..
   obtain⟨x,hx,ho,h0,e⟩:=(hm _).1 (nM c)
   have:=h2 x hx ⟨ho,h0,fun q=>by have:=hlt _ q _ hg;rw[e]at this;exact absurd this (Int.lt_irrefl _)⟩
   omega
  rw[aR c]
 have hv:x.n∈bS l:=(hm _).2 ⟨x,hx,hp.1,hp.2.1,rfl⟩
 have hdx:=hd _ hv hp.2.2
 have c:j<(bS l).length:=by
  refine KX fun q=> ?_
  rw[List.drop_eq_nil_of_le J]at hdx;cases hdx
 rw[aS c,getD_eq c,<-he]
 have hg:(bS l)[j]∈(bS l).drop j:=by rw[EA c];exact tQ ..
 obtain⟨y,hy,ho,h0,e⟩:=(hm _).1 (nM c)
 have h5:=h4 y hy ⟨ho,h0,fun q=>by have:=hlt _ q _ hg;rw[e]at this;exact absurd this (Int.lt_irrefl _)⟩
 have h6:(bS l)[j]<=x.n:=by
  have h:=hs.drop (i:=j)
  rw[EA c]at h hdx
  rcases cQ.1 hdx with q|q
  .omega
  have:=(lA.1 h).1 _ q;omega
 omega
theorem aqR{l:List dz}{j:Nat}(hj:j<=(bS l).length)(h:nxV l ((bS l).take j) l.length<0):(bS l).take j=bS l:=by
 refine iV (Nat.le_of_not_lt fun c=> ?_)
 rw[ai2 hj,aS c,getD_eq c]at h
 obtain⟨x,_,_,h0,e⟩:=ow.1 (nM c)
 omega
theorem SV{l:List dz}{j:Nat}(hj:j<=(bS l).length)(h:¬nxV l ((bS l).take j) l.length<0):j<(bS l).length:=by
 refine Nat.lt_of_not_le fun c=>h ?_
 rw[ai2 hj,aR J];decide
def bdA(p:kE)(x:gp):Int:=if x.op=8 then 1+df (iO p x.aX)*((bS x.code).length:Int)else 0
def VN(p:kE)(l:List gp)(k:Nat):Int:=p.vars.length+((l.take k).map (bdA p)).sum
theorem aEq{p:kE}{l:List gp}:VN p l 0=p.vars.length:=by unfold VN;simp
theorem Ru{p:kE}{l:List gp}{k:Int}(h0:0<=k)(h1:k<l.length):VN p l (k+1).toNat=VN p l k.toNat+bdA p (l.getD k.toNat fU):=by
 unfold VN
 rw[show(k+1).toNat=k.toNat+1 by omega,DY J,gz,XF,getD_eq J]
 simp;omega
theorem ai3{s:Sh}(h:lW s=true):0<=df s/\df s<=512:=by
 rw[df,aS h];exact Rs h J J
theorem ai4{p:kE}{x:gp}(hr:gM p=true)(ha:jr p x=true)(hc:x.code.length<=1000):0<=bdA p x/\bdA p x<=512001:=by
 unfold bdA
 by_cases ho:x.op=8
 .rw[aS ho]
  have hl:=(DC ha ho).1
  have h1:=ai3 ((vA hr).2.1 _ (dh (d:=me) hl.1 hl.2))
  have h1':0<=df (iO p x.aX)/\df (iO p x.aX)<=512:=h1
  have h2:=DA x.code
  have h3:df (iO p x.aX)*((bS x.code).length:Int)<=512*1000:=La h1'.2 J J J
  have h4:0<=df (iO p x.aX)*((bS x.code).length:Int):=Hy h1'.1 J
  omega
 rw[aR ho];omega
theorem ai5{p:kE}{l:List gp}(hr:gM p=true)(ha:∀x∈l,jr p x=true)(hc:∀x∈l,x.code.length<=1000):∀k,k<=l.length->(p.vars.length:Int)<=VN p l k/\VN p l k<=p.vars.length+512001*k
 |0,_=>by rw[aEq];omega
 |k+1,hk=>by
  have h1:=ai5 hr ha hc k J
  have hm:l.getD k fU∈l:=by rw[getD_eq J];exact nM _
  have h2:=ai4 hr (ha _ hm) (hc _ hm)
  have h3:=Ru (p:=p) (l:=l) (k:=(k:Int)) J J
  rw[show((k:Int)+1).toNat=k+1 by omega,show(k:Int).toNat=k by omega]at h3
  omega
theorem abF{p:kE}{l:List gp}(hr:gM p=true)(ha:∀x∈l,jr p x=true)(hc:∀x∈l,x.code.length<=1000){j:Nat}:∀k,j<=k->k<=l.length->VN p l j<=VN p l k
 |0,h,_=>by
  obtain rfl:j=0:=J
  exact nc _
 |k+1,h,hk=>by
  by_cases e:j=k+1
  .subst e;exact nc _
  have h1:=abF hr ha hc (j:=j) k J J
  have hm:l.getD k fU∈l:=by rw[getD_eq J];exact nM _
  have h2:=ai4 hr (ha _ hm) (hc _ hm)
  have h3:=Ru (p:=p) (l:=l) (k:=(k:Int)) J J
  rw[show((k:Int)+1).toNat=k+1 by omega,show(k:Int).toNat=k by omega]at h3
  omega
theorem ai6:∀{l:List Int},(∀x∈l,0<=x)->0<=l.sum
 |[],_=>by simp
 |a::l,h=>by
  have h1:=h a aF
  have h2:=ai6 (l:=l) fun x hx=>h x (fC _ hx)
  rw[BJ];omega
def kbQ(p:kE)(x:Int×List dz×iw×BitVec 64):Int:=df (iO p x.1)*((bS x.2.1).length:Int)
section
variable{p:kE}{s s':NP}{l:List gp}{k:Nat}{ok:Bool}
theorem abG:∀{k:Nat},k<=l.length->((rE l k).length:Int)+((rE l k).map (kbQ p)).sum=((l.take k).map (bdA p)).sum
 |0,_=>by simp[rE]
 |k+1,hk=>by
  have ih:=abG (k:=k) J
  rw[IN,DY J,gz,XF,gz,XF,cZ,<-ih,EE,List.sum_singleton]
  have e:l[k]=l.getD k fU:=(getD_eq J).symm
  rw[e]
  unfold bdA
  by_cases ho:(l.getD k fU).op=8
  .rw[aS ho,aS ho,EE,List.sum_singleton]
   show((_+1:Nat):Int)+(_+df (iO p (l.getD k fU).aX)*((bS (l.getD k fU).code).length:Int))=_
   omega
  rw[aR ho,aR ho];simp
theorem vZ.bound(h:vZ p l k s)(hk:k<=l.length):(muM s:Int)+s.aj.length<=VN p l k:=by
 have e:s.qs.map (fun q=>df (ym s.au q)*(q.vars.length:Int))=(rE l k).map (kbQ p):=by
  rw[<-h.qs,Li]
  refine ED fun q hq=> ?_
  show df (s.au.getD q.aX.toNat o3).p.sh*(q.vars.length:Int)=df (p.au.getD q.aX.toNat me).zx.sh*((bS q.code).length:Int)
  rw[h.np.sh,(h.nw.ns.fit q hq).2]
 have hn:0<=((rE l k).map (kbQ p)).sum:=by
  rw[<-e]
  refine ai6 fun x hx=> ?_
  obtain⟨q,hq,rfl⟩:=fX.1 hx
  have hl:=h.nw.ns.ok.hqo q hq
  exact Hy (ai3 (h.nw.lw _ (dh hl.aX.1 hl.aX.2)).1).1 (Q4 _)
 have hl:s.qs.length=(rE l k).length:=by rw[<-h.qs,gB]
 have hb:=abG (p:=p) hk
 unfold muM VN
 rw[e,hl,h.np.nv]
 omega
structure JY(p:kE)(l:List gp)(k:Nat)(s:NP):Prop where
 nw:xC s
 wk:∃k0,k0<=k/\vZ p l k0 s/\(s.sk=false->k0=k)
theorem JY.start(h:vZ p l 0 s):JY p l 0 s:=⟨h.nw,0,er _,h,fun _=>rfl⟩
theorem JY.add(h:JY p l k s)(hk:k<l.length)(h64:k<64)(ha:∀x∈l,jr p x=true)(hc:∀x∈l,x.code.length<=1000)(hA:OE s s' (l.getD k fU) k ok):JY p l (k+1) s':=by
 obtain⟨k0,h1,h2,h3⟩:=h.wk
 cases Bu:s.sk with
 |false=>
  obtain rfl:=h3 Bu
  obtain⟨_,h2,h3,_,_⟩:=h2.add hk h64 ha hc Bu hA
  exact⟨h2.nw,_,er _,h2,fun _=>rfl⟩
 |true=>
  obtain⟨g1,g2⟩:=hA.stuck Bu
  subst g1
  exact⟨h.nw,k0,J,h2,fun q=>Ya⟩
theorem JY.set(h:JY p l k s)(hk:k<=l.length)(hQ:asL s s' ok):JY p l k s':=by
 obtain⟨k0,h1,h2,h3⟩:=h.wk
 cases Bu:s.sk with
 |false=>
  obtain rfl:=h3 Bu
  have hP:=h2.set hk (hQ.go Bu)
  exact⟨hP.net.nw,_,er _,hP.net,fun _=>rfl⟩
 |true=>
  obtain⟨g1,g2⟩:=hQ.st Bu
  subst g2
  exact h
theorem JY.bd(h:JY p l k s)(hr:gM p=true)(ha:∀x∈l,jr p x=true)(hc:∀x∈l,x.code.length<=1000)(hk:k<=l.length):(muM s:Int)+s.aj.length<=VN p l k:=by
 obtain⟨k0,h1,h2,h3⟩:=h.wk
 exact BL (h2.bound J) (abF hr ha hc k h1 hk)
end
end
end Go.Proofs.YtlhjdflgjbkpmaaGreatDoor.E
namespace Go.Proofs.YtlhjdflgjbkpmaaGreatDoor.M
section
open Go
structure ai7(r:Rl)(cl:List Nat):Prop where
 n:pts r=cl.length
 sym:∀i j:Int,bH r i j=true->bH r j i=true
 axx:∀i j:Int,bH r i j=true->ct cl i.toNat=ct cl j.toNat
 lead:∀i:Nat,i<cl.length->bH (gX r) i (ct cl i)=true
theorem abH{r:Rl}(hs:∀i j:Int,bH r i j=true->bH r j i=true){i j:Int}(h:bH (gX r) i j=true):bH (gX r) j i=true:=by
 have h1:=(jB h).1
 rw[zh]at h1
 exact Db h (fun y=>bH (gX r) y i=true) (fun x y hx hy=>mO (FW (hs _ _ hy)) hx) (xY h1)
theorem ai8{r q:Rl}(hp:pts q=pts r)(hm:∀i j:Int,bH r i j=true->bH q i j=true){i j:Int}(h:bH (gX r) i j=true):bH (gX q) i j=true:=by
 have h1:=(jB h).1
 rw[zh]at h1
 exact Db h (fun y=>bH (gX q) i y=true) (fun x y hx hy=>mO hx (FW (hm _ _ hy))) (xY (by rw[hp];exact h1))
section
variable{r:Rl}{cl:List Nat}{nd:List qa}
theorem ai7.same(h:ai7 r cl){i j:Nat}(hi:i<cl.length)(hj:j<cl.length):ct cl i=ct cl j↔bH (gX r) i j=true:=by
 constructor
 .intro e
  have h1:=h.lead i hi;have h2:=h.lead j hj
  rw[e]at h1
  exact mO h1 (abH h.sym h2)
 intro hc
 have:=Db hc (fun y=>ct cl i=ct cl y.toNat) (fun x y hx hy=>hx.trans (h.axx _ _ hy)) aF
 simpa using this
theorem ai7.join(h:ai7 r cl)(hf:Fo nd cl){q:Rl}{x y:Nat}(hx:x<cl.length)(hy:y<cl.length)(hp:pts q=pts r)(hq:∀i j:Int,bH q i j=true↔bH r i j=true\/(i=x/\j=y)\/(i=y/\j=x)):ai7 q (iy cl (ct cl x) (ct cl y)):=by
 have hm:∀i j:Int,bH r i j=true->bH q i j=true:=fun i j e=>(hq i j).2 (.inl e)
 have hs:∀i j:Int,bH q i j=true->bH q j i=true:=fun i j e=>by
  rcases(hq i j).1 e with e|e|e
  .exact hm _ _ (h.sym _ _ e)
  .exact(hq j i).2 (.inr (.inr ⟨e.2,e.1⟩))
  exact(hq j i).2 (.inr (.inl ⟨e.2,e.1⟩))
 have hlen:(iy cl (ct cl x) (ct cl y)).length=cl.length:=by simp[iy]
 have hlc:∀i,i<cl.length->ct cl i<cl.length:=fun i hi=>by have:=(hf.lc i (by rw[<-hf.len];exact hi)).1;omega
 have gc:∀i,i<cl.length->ct (iy cl (ct cl x) (ct cl y)) i=Iv (ct cl x) (ct cl y) (ct cl i):=fun i hi=>zF hi
 have xy:bH (gX q) x y=true:=FW ((hq x y).2 (.inr (.inl ⟨rfl,rfl⟩)))
 have cs:∀{i j:Int},bH (gX q) i j=true->bH (gX q) j i=true:=fun e=>abH hs e
 have lq:∀i:Nat,i<cl.length->bH (gX q) i (ct cl i)=true:=fun i hi=>ai8 hp hm (h.lead i hi)
 have cxy:bH (gX q) (ct cl x) (ct cl y)=true:=mO (cs (lq x hx)) (mO xy (lq y hy))
 refine⟨by rw[hp,h.n,hlen],hs,fun i j e=> ?_,fun i hi=> ?_⟩
 .have hb:=jB e
  rw[hp,h.n]at hb
  rw[gc _ J,gc _ J]
  rcases(hq i j).1 e with e|e|e
  .rw[h.axx _ _ e]
  .rw[e.1,e.2,ef,ef,kF (.inl O),kF (.inr O)]
  rw[e.1,e.2,ef,ef,kF (.inl O),kF (.inr O)]
 rw[hlen]at hi
 rw[gc i hi]
 by_cases c:ct cl i=ct cl x\/ct cl i=ct cl y
 .rw[kF c]
  have h1:=lq i hi
  rcases c with c|c<;>rw[c]at h1<;>rcases xm (ct cl x) (ct cl y)with e|e<;>rw[e]
  .exact h1
  .exact mO h1 cxy
  .exact mO h1 (cs cxy)
  exact h1
 rw[kR c];exact lq i hi
end
end
end Go.Proofs.YtlhjdflgjbkpmaaGreatDoor.M
namespace Go.Proofs.YtlhjdflgjbkpmaaGreatDoor.E
section
open Go Go.RowKit Go.Proofs.YtlhjdflgjbkpmaaGreatDoor.M
section
variable{P:Program}{n:Nat}{l:List Oper}{S:World->Prop}{k:K}{xs:List (Nat×K)}{r:K}{σ:Env}{w:World}{fuel i d:Nat}{listed:Array Bool}{op:Op}{ty:TypeId}{pos:String}{bK:Array Edge}{g:Option (Nat×Bool)}{v:Value}{dst:Option Tmp}
theorem V{ops:Array Oper}{rest:List Oper}{w':World}(hr:(execOp (ev σ) ⟨some d,op,ty,pos,bK,none⟩).run P w= .ok (.value v) w')(hk:RL P n ops k rest (lG σ d v) w')(hd:Nat.blt d n=true:=by rfl):RL P n ops k (⟨some d,op,ty,pos,bK,none⟩::rest) σ w:=oP hd hr hk
abbrev Pn(b o:Nat):Value:= .pointer (some ⟨b,o,none⟩)
theorem mV{x:Operand}(v:Value)(hx:ev σ x=v):(execOp (ev σ) ⟨dst,.move x,ty,pos,bK,g⟩).run P w= .ok (.value v) w:=run_move hx
theorem aV{x:Operand}(v:Value)(hx:ev σ x=v):(execOp (ev σ) ⟨dst,.assign x,ty,pos,bK,g⟩).run P w= .ok (.value v) w:=run_assign hx
theorem AT(i:Nat)(hi:l[i]?=some ⟨some d,op,ty,pos,bK,none⟩)(hS:S w)(hy:∀w,S w->(execOp (ev σ) ⟨some d,op,ty,pos,bK,none⟩).run P w= .ok (.value v) w)
 (h:AN P n l S k fuel (listed.setIfInBounds i true) (lG σ d v) w) (hd:Nat.blt d n=true:=by rfl) (hs:Region.noSelect l.toArray=true:=by kernel_rfl) (hf:Region.free .any l.toArray listed i=true:=by kernel_rfl)
 (hr:(Region.ready .any l.toArray listed).contains i=true:=by kernel_rfl):AN P n l S k (fuel+1) listed σ w:=by grind[afI]
theorem AG(i:Nat){j dj:Nat}{want:Bool}(hi:l[i]?=some ⟨some d,op,ty,pos,bK,some (j,want)⟩)(hj:(l[j]?).bind (·.dst)=some dj)(hb:σ dj= .bool want)
 (hS:S w) (hy:∀w,S w->(execOp (ev σ) ⟨some d,op,ty,pos,bK,some (j,want)⟩).run P w= .ok (.value v) w)
 (h:AN P n l S k fuel (listed.setIfInBounds i true) (lG σ d v) w) (hd:Nat.blt d n=true:=by rfl) (hs:Region.noSelect l.toArray=true:=by kernel_rfl) (hf:Region.free .any l.toArray listed i=true:=by kernel_rfl)
 (hr:(Region.ready .any l.toArray listed).contains i=true:=by kernel_rfl):AN P n l S k (fuel+1) listed σ w:=by grind[aqW]
theorem BQ(i:Nat){j dj:Nat}{want:Bool}(hi:l[i]?=some ⟨some d,op,ty,pos,bK,some (j,want)⟩)(hj:(l[j]?).bind (·.dst)=some dj)(hb:σ dj= .bool want)
 (hS:S w) (hy:∀{w},(execOp (ev σ) ⟨some d,op,ty,pos,bK,some (j,want)⟩).run P w= .ok (.value v) w)
 (h:AN P n l S k fuel (listed.setIfInBounds i true) (lG σ d v) w) (hd:Nat.blt d n=true:=by rfl) (hs:Region.noSelect l.toArray=true:=by kernel_rfl) (hf:Region.free .any l.toArray listed i=true:=by kernel_rfl)
 (hr:(Region.ready .any l.toArray listed).contains i=true:=by kernel_rfl):AN P n l S k (fuel+1) listed σ w:=AG i hi hj hb hS (fun w _=>hy) h hd hs hf hr
theorem AK(i:Nat){j dj:Nat}{b want:Bool}(hi:l[i]?=some ⟨some d,op,ty,pos,bK,some (j,want)⟩)(hj:(l[j]?).bind (·.dst)=some dj)(hb:σ dj= .bool b)(hS:S w)
 (h:AN P n l S k fuel (listed.setIfInBounds i true) (lG σ d undef) w) (hne:(b==want)=false:=by rfl) (hd:Nat.blt d n=true:=by rfl) (hs:Region.noSelect l.toArray=true:=by kernel_rfl) (hf:Region.free .any l.toArray listed i=true:=by kernel_rfl)
 (hr:(Region.ready .any l.toArray listed).contains i=true:=by kernel_rfl):AN P n l S k (fuel+1) listed σ w:=by grind[avY]
theorem AU(i:Nat){j dj:Nat}{want:Bool}(hi:l[i]?=some ⟨some d,op,ty,pos,bK,some (j,want)⟩)(hj:(l[j]?).bind (·.dst)=some dj)(hu:σ dj=undef)(hS:S w)
 (h:AN P n l S k fuel (listed.setIfInBounds i true) (lG σ d undef) w) (hd:Nat.blt d n=true:=by rfl) (hs:Region.noSelect l.toArray=true:=by kernel_rfl) (hf:Region.free .any l.toArray listed i=true:=by kernel_rfl)
 (hr:(Region.ready .any l.toArray listed).contains i=true:=by kernel_rfl):AN P n l S k (fuel+1) listed σ w:=by grind[avZ]
theorem AD(h:k σ w)(hr:Region.ready .any l.toArray listed=[]:=by kernel_rfl):AN P n l S k fuel listed σ w:=avX hr h
theorem A1(i:Nat)(h:AO P n l S k fuel listed σ w i)(hr:Region.ready .any l.toArray listed=[i]:=by kernel_rfl):AN P n l S k (fuel+1) listed σ w:=av0 i hr h
theorem SR{id:Nat}{y:Code}(h:RL P n l.toArray (fun σ w=>CW P n y k xs r σ w) l σ w):CW P n (.seq (.region id l.toArray false) y) k xs r σ w:=ag (aq h)
theorem fA{x:Operand}{s i m b o:Nat}{fs:Array Field}{f:Field}(hu:P.underlying s=some (.struct fs))(off:Nat)(hf:fs[i]?=some f)(hs:∀w,(sizeOf f.type).run P w= .ok m w)(hx:ev σ x= .pointer (some ⟨b,o,none⟩))(ho:f.offset=off:=by rfl)(hn:m≠0:=by decide):
 (execOp (ev σ) ⟨dst,.fieldAddr s x i,ty,pos,bK,g⟩).run P w= .ok (.value (.pointer (some ⟨b,o+off,none⟩))) w:=Ov hu hf ho hs hn hx
end
theorem sQ{α:Type}{a:α}{l l':List α}(h:l.Sublist l'):l.Sublist (a::l'):= .cons _ h
theorem sP{α:Type}{a:α}{l l':List α}(h:l.Sublist l'):(a::l).Sublist (a::l'):= .cons_cons _ h
theorem sR{α:Type}{l:List α}:l.Sublist l:= .refl _
theorem sA{α:Type}{l l' m:List α}(h:l.Sublist l'):l.Sublist (m++l'):=by grind
theorem z0{α:Type}{a b:α}{l:List α}:(a::l).set 0 b=b::l:=rfl
theorem z1{α:Type}{a b:α}{l:List α}{i:Nat}:(a::l).set (i+1) b=a::l.set i b:=rfl
theorem mT{α:Type}{a b:α}{l:List α}(h:a∈l):a∈b::l:=fC _ h
section
variable{ws:List Nat}{σ σ':Env}{d d1 d2 d3:Nat}{v v1 v2 v3:Value}
theorem Fr.u1(h:Fr ws σ σ')(hd:ws.contains d=true:=by rfl):Fr ws σ (lG σ' d v):=h.u hd
theorem Fr.u4(h:Fr ws σ σ')(hd:ws.contains d=true:=by rfl)(h1:ws.contains d1=true:=by rfl)(h2:ws.contains d2=true:=by rfl)(h3:ws.contains d3=true:=by rfl):Fr ws σ (lG (lG (lG (lG σ' d v) d1 v1) d2 v2) d3 v3):=by grind[Fr,lG]
end
section
variable{P:Program}{n:Nat}{l:List Oper}{S:World->Prop}{k:K}{xs:List (Nat×K)}{r:K}{σ σ':Env}{w:World}{fuel i d:Nat}{listed:Array Bool}{op:Op}{ty:TypeId}{pos:String}{bK:Array Edge}{g:Option (Nat×Bool)}{v:Value}{dst:Option Tmp}{ops:Array Oper}{rest:List Oper}{x:Operand}
theorem va{v:Value}(hx:ev σ x=v)(hk:RL P n ops k rest (lG σ d v) w)(hd:Nat.blt d n=true:=by rfl):RL P n ops k (⟨some d,.assign x,ty,pos,bK,none⟩::rest) σ w:=oP hd (run_assign hx) hk
theorem aE{v:Value}(hx:ev σ x=v)(hk:RL P n ops k rest (lG σ d v) w)(hd:Nat.blt d n=true:=by rfl):RL P n ops k (⟨some d,.move x,ty,pos,bK,none⟩::rest) σ w:=oP hd (run_move hx) hk
theorem aI{a:Int}(hx:ev σ x=I a)(hk:RL P n ops k rest (lG σ d (I a)) w)(hd:Nat.blt d n=true:=by rfl):RL P n ops k (⟨some d,.assign x,ty,pos,bK,none⟩::rest) σ w:=va hx hk hd
theorem aB{a:Bool}(hx:ev σ x=B a)(hk:RL P n ops k rest (lG σ d (B a)) w)(hd:Nat.blt d n=true:=by rfl):RL P n ops k (⟨some d,.assign x,ty,pos,bK,none⟩::rest) σ w:=va hx hk hd
theorem aU{a:BitVec 64}(hx:ev σ x=U a)(hk:RL P n ops k rest (lG σ d (U a)) w)(hd:Nat.blt d n=true:=by rfl):RL P n ops k (⟨some d,.assign x,ty,pos,bK,none⟩::rest) σ w:=va hx hk hd
theorem mI{a:Int}(hx:ev σ x=I a)(hk:RL P n ops k rest (lG σ d (I a)) w)(hd:Nat.blt d n=true:=by rfl):RL P n ops k (⟨some d,.move x,ty,pos,bK,none⟩::rest) σ w:=aE hx hk hd
theorem mB{a:Bool}(hx:ev σ x=B a)(hk:RL P n ops k rest (lG σ d (B a)) w)(hd:Nat.blt d n=true:=by rfl):RL P n ops k (⟨some d,.move x,ty,pos,bK,none⟩::rest) σ w:=aE hx hk hd
theorem mU{a:BitVec 64}(hx:ev σ x=U a)(hk:RL P n ops k rest (lG σ d (U a)) w)(hd:Nat.blt d n=true:=by rfl):RL P n ops k (⟨some d,.move x,ty,pos,bK,none⟩::rest) σ w:=aE hx hk hd
theorem AQ(i:Nat)(hi:l[i]?=some ⟨some d,op,ty,pos,bK,none⟩)(hS:S w)(hy:∀{w},(execOp (ev σ) ⟨some d,op,ty,pos,bK,none⟩).run P w= .ok (.value v) w)
 (h:AN P n l S k fuel (listed.setIfInBounds i true) (lG σ d v) w) (hd:Nat.blt d n=true:=by rfl) (hs:Region.noSelect l.toArray=true:=by kernel_rfl) (hf:Region.free .any l.toArray listed i=true:=by kernel_rfl)
 (hr:(Region.ready .any l.toArray listed).contains i=true:=by kernel_rfl):AN P n l S k (fuel+1) listed σ w:=by grind[afI]
theorem Fr.w1{ws:List Nat}{v1:Value}(h:Fr ws σ σ')(i:Nat)(h1:σ i=v1:=by conv=>lhs;whnf)(c1:ws.contains i=false:=by rfl):σ' i=v1:=(h i c1).trans h1
theorem Fr.t1{ws:List Nat}{v1:Value}(h:Fr ws σ σ')(i:Nat)(h1:σ i=v1)(c1:ws.contains i=false:=by rfl):σ' i=v1:=(h i c1).trans h1
theorem Fr.w2{ws:List Nat}{v1 v2:Value}(h:Fr ws σ σ')(i j:Nat)(h1:σ i=v1:=by conv=>lhs;whnf)(h2:σ j=v2:=by conv=>lhs;whnf)(c1:ws.contains i=false:=by rfl)(c2:ws.contains j=false:=by rfl):σ' i=v1/\σ' j=v2:=⟨(h i c1).trans h1,(h j c2).trans h2⟩
theorem Fr.t2{ws:List Nat}{v1 v2:Value}(h:Fr ws σ σ')(i:Nat)(h1:σ i=v1)(j:Nat)(h2:σ j=v2)(c1:ws.contains i=false:=by rfl)(c2:ws.contains j=false:=by rfl):σ' i=v1/\σ' j=v2:=⟨(h i c1).trans h1,(h j c2).trans h2⟩
theorem Fr.w3{ws:List Nat}{v1 v2 v3:Value}(h:Fr ws σ σ')(i j k:Nat)(h1:σ i=v1:=by conv=>lhs;whnf)(h2:σ j=v2:=by conv=>lhs;whnf)(h3:σ k=v3:=by conv=>lhs;whnf)(c1:ws.contains i=false:=by rfl)(c2:ws.contains j=false:=by rfl)(c3:ws.contains k=false:=by rfl):σ' i=v1/\σ' j=v2/\σ' k=v3:=⟨(h i c1).trans h1,(h j c2).trans h2,(h k c3).trans h3⟩
theorem Fr.t3{ws:List Nat}{v1 v2 v3:Value}(h:Fr ws σ σ')(i:Nat)(h1:σ i=v1)(j:Nat)(h2:σ j=v2)(k:Nat)(h3:σ k=v3)(c1:ws.contains i=false:=by rfl)(c2:ws.contains j=false:=by rfl)(c3:ws.contains k=false:=by rfl):σ' i=v1/\σ' j=v2/\σ' k=v3:=⟨(h i c1).trans h1,(h j c2).trans h2,(h k c3).trans h3⟩
theorem Fr.w4{ws:List Nat}{v1 v2 v3 v4:Value}(h:Fr ws σ σ')(i j k l:Nat)(h1:σ i=v1:=by conv=>lhs;whnf)(h2:σ j=v2:=by conv=>lhs;whnf)(h3:σ k=v3:=by conv=>lhs;whnf)(h4:σ l=v4:=by conv=>lhs;whnf)(c1:ws.contains i=false:=by rfl)(c2:ws.contains j=false:=by rfl)(c3:ws.contains k=false:=by rfl)(c4:ws.contains l=false:=by rfl):σ' i=v1/\σ' j=v2/\σ' k=v3/\σ' l=v4:=⟨(h i c1).trans h1,(h j c2).trans h2,(h k c3).trans h3,(h l c4).trans h4⟩
theorem Fr.t4{ws:List Nat}{v1 v2 v3 v4:Value}(h:Fr ws σ σ')(i:Nat)(h1:σ i=v1)(j:Nat)(h2:σ j=v2)(k:Nat)(h3:σ k=v3)(l:Nat)(h4:σ l=v4)(c1:ws.contains i=false:=by rfl)(c2:ws.contains j=false:=by rfl)(c3:ws.contains k=false:=by rfl)(c4:ws.contains l=false:=by rfl):σ' i=v1/\σ' j=v2/\σ' k=v3/\σ' l=v4:=⟨(h i c1).trans h1,(h j c2).trans h2,(h k c3).trans h3,(h l c4).trans h4⟩
theorem Fr.w5{ws:List Nat}{v1 v2 v3 v4 v5:Value}(h:Fr ws σ σ')(i j k l m:Nat)(h1:σ i=v1:=by conv=>lhs;whnf)(h2:σ j=v2:=by conv=>lhs;whnf)(h3:σ k=v3:=by conv=>lhs;whnf)(h4:σ l=v4:=by conv=>lhs;whnf)(h5:σ m=v5:=by conv=>lhs;whnf)(c1:ws.contains i=false:=by rfl)(c2:ws.contains j=false:=by rfl)(c3:ws.contains k=false:=by rfl)(c4:ws.contains l=false:=by rfl)(c5:ws.contains m=false:=by rfl):σ' i=v1/\σ' j=v2/\σ' k=v3/\σ' l=v4/\σ' m=v5:=⟨(h i c1).trans h1,(h j c2).trans h2,(h k c3).trans h3,(h l c4).trans h4,(h m c5).trans h5⟩
theorem Fr.t5{ws:List Nat}{v1 v2 v3 v4 v5:Value}(h:Fr ws σ σ')(i:Nat)(h1:σ i=v1)(j:Nat)(h2:σ j=v2)(k:Nat)(h3:σ k=v3)(l:Nat)(h4:σ l=v4)(m:Nat)(h5:σ m=v5)(c1:ws.contains i=false:=by rfl)(c2:ws.contains j=false:=by rfl)(c3:ws.contains k=false:=by rfl)(c4:ws.contains l=false:=by rfl)(c5:ws.contains m=false:=by rfl):σ' i=v1/\σ' j=v2/\σ' k=v3/\σ' l=v4/\σ' m=v5:=⟨(h i c1).trans h1,(h j c2).trans h2,(h k c3).trans h3,(h l c4).trans h4,(h m c5).trans h5⟩
theorem Fr.w6{ws:List Nat}{v1 v2 v3 v4 v5 v6:Value}(h:Fr ws σ σ')(i j k l m o:Nat)(h1:σ i=v1:=by conv=>lhs;whnf)(h2:σ j=v2:=by conv=>lhs;whnf)(h3:σ k=v3:=by conv=>lhs;whnf)(h4:σ l=v4:=by conv=>lhs;whnf)(h5:σ m=v5:=by conv=>lhs;whnf)(h6:σ o=v6:=by conv=>lhs;whnf)(c1:ws.contains i=false:=by rfl)(c2:ws.contains j=false:=by rfl)(c3:ws.contains k=false:=by rfl)(c4:ws.contains l=false:=by rfl)(c5:ws.contains m=false:=by rfl)(c6:ws.contains o=false:=by rfl):σ' i=v1/\σ' j=v2/\σ' k=v3/\σ' l=v4/\σ' m=v5/\σ' o=v6:=⟨(h i c1).trans h1,(h j c2).trans h2,(h k c3).trans h3,(h l c4).trans h4,(h m c5).trans h5,(h o c6).trans h6⟩
theorem Fr.t6{ws:List Nat}{v1 v2 v3 v4 v5 v6:Value}(h:Fr ws σ σ')(i:Nat)(h1:σ i=v1)(j:Nat)(h2:σ j=v2)(k:Nat)(h3:σ k=v3)(l:Nat)(h4:σ l=v4)(m:Nat)(h5:σ m=v5)(o:Nat)(h6:σ o=v6)(c1:ws.contains i=false:=by rfl)(c2:ws.contains j=false:=by rfl)(c3:ws.contains k=false:=by rfl)(c4:ws.contains l=false:=by rfl)(c5:ws.contains m=false:=by rfl)(c6:ws.contains o=false:=by rfl):σ' i=v1/\σ' j=v2/\σ' k=v3/\σ' l=v4/\σ' m=v5/\σ' o=v6:=⟨(h i c1).trans h1,(h j c2).trans h2,(h k c3).trans h3,(h l c4).trans h4,(h m c5).trans h5,(h o c6).trans h6⟩
theorem Fr.ii{ws:List Nat}(h:Fr ws σ σ')(i:Nat){a:Int}(hc:ws.contains i=false)(hv:σ i=E.I a):σ' i=E.I a:=(h i hc).trans hv
theorem Fr.bb{ws:List Nat}(h:Fr ws σ σ')(i:Nat){a:Bool}(hc:ws.contains i=false)(hv:σ i=E.B a):σ' i=E.B a:=(h i hc).trans hv
theorem Fr.ss{ws:List Nat}(h:Fr ws σ σ')(i:Nat){a:ByteArray}(hc:ws.contains i=false)(hv:σ i= .string a):σ' i= .string a:=(h i hc).trans hv
theorem Fr.vv{ws:List Nat}(h:Fr ws σ σ')(i:Nat){a:Value}(hc:ws.contains i=false)(hv:σ i=a):σ' i=a:=(h i hc).trans hv
end
def rg:Nat->Nat->List Nat->List Nat
 |_,0,l=>l
 |a,n+1,l=>a::rg (a+1) n l
theorem o4:(∀(k:IntKind) (n:Int),(Value.int k n).cells.toList=[Value.int k n])/\(∀b:Bool,(Value.bool b).cells.toList=[Value.bool b])/\(∀b:ByteArray,(Value.string b).cells.toList=[Value.string b])/\(∀a:Option Addr,(Value.pointer a).cells.toList=[Value.pointer a])/\(∀(a:Option Addr) (n c:Nat),(Value.slice a n c).cells.toList=[Value.slice a n c])/\(∀l:List Value,(Value.agg l.toArray).cells.toList=l)/\(∀(f:Value->List Value) (a:Value) (l:List Value),(a::l).flatMap f=f a++l.flatMap f)/\(∀f:Value->List Value,([]:List Value).flatMap f=[])/\(∀l:List Value,[]++l=l)/\(∀l:List Value,l++[]=l)/\(∀(a:Value) (l m:List Value),a::l++m=a::(l++m)):=by simp_all[clI,clB,clS,clP,clL,clA]
theorem z2{α:Type}:(∀(a b:α) (l:List α),(a::l).set 0 b=b::l)/\(∀(a b:α) (l:List α) (i:Nat),(a::l).set (i+1) b=a::l.set i b):=⟨fun _ _ _=>rfl,fun _ _ _ _=>rfl⟩
def pull{α:Type}:Nat->List α->List α
 |0,l=>l
 |n+1,a::l=>match pull n l with
  |b::m=>b::a::m
  |[]=>[a]
 |_,[]=>[]
def gU{α:Type}:List Nat->List α->List α
 |[],l=>l
 |n::ns,l=>match pull n l with
  |b::m=>b::gU ns m
  |[]=>[]
theorem ai9{α:Type}:∀(n:Nat) (l:List α),l.Perm (pull n l)
 |0,_=> .refl _
 |n+1,[]=> .refl _
 |n+1,a::l=>by
  have h:=ai9 n l
  rw[pull]
  revert h;cases pull n l with
  |nil=>exact fun h=>h.cons a
  |cons b m=>exact fun h=>(h.cons a).trans (.swap _ _ _)
theorem abI{α:Type}:∀(ns:List Nat) (l:List α),l.Perm (gU ns l)
 |[],_=> .refl _
 |n::ns,l=>by
  have h:=ai9 n l
  rw[gU]
  revert h;cases pull n l with
  |nil=>exact fun h=>h
  |cons b m=>exact fun h=>h.trans ((abI ns m).cons b)
theorem Hp.pj{w0 w:World}{L:List a7}(h:Hp w0 w L)(ns:List Nat):Hp w0 w (gU ns L):=h.perm (abI ns L)
theorem Hp.pk{w0 w:World}{L L':List a7}(h:Hp w0 w L)(ns:List Nat)(e:gU ns L=L':=by conv=>lhs;simp only[gU,pull]):Hp w0 w L':=e▸h.pj ns
section
variable{P:Program}{n:Nat}{ops:Array Oper}{k:K}{rest l:List Oper}{σ:Env}{w0 w:World}{L:List a7}{op:Op}{ty t e:TypeId}{pos:String}{bK:Array Edge}{d:Nat}{v:Value}{x:Operand}{fn:Func}{q:Value->World->Prop}
 {b off:Nat} {c:Array Value} {fr:Nat×Nat} {td:TypeDesc} {fuel:Nat} {listed:Array Bool}
theorem en{f:FuncId}{c:Code}{args:Array Value}(hf:P.funcs[f]?=some fn)(hb:fn.body=some c)(hn:fn.ntmps=n)(h:CW P n c (Out P fn q) [] (Out P fn q) (entry args) w)(ha:Nat.ble args.size n=true:=by rfl):Calls P f args w (jj q):=enter hf hb hn ha h
theorem eH{f:FuncId}{c:Code}{args:Array Value}(hf:P.funcs[f]?=some fn)(hb:fn.body=some c)(hn:fn.ntmps=n)(h:Hp w w []->CW P n c (Out P fn q) [] (Out P fn q) (entry args) w)(ha:Nat.ble args.size n=true:=by rfl):Calls P f args w (jj q):=enter hf hb hn ha (h (Hp.start w))
theorem nu{o:Obj}(hH:Hp w0 w L)(hr:(execOp (ev σ) ⟨some d,op,ty,pos,bK,none⟩).run P w= .ok (.value (.pointer (some ⟨w.heap.size,0,none⟩))) (w.alloc o))
 (hk:∀b w',Hp w0 w' (.blk b o::L)->RL P n ops k rest (lG σ d (.pointer (some ⟨b,0,none⟩))) w') (hd:Nat.blt d n=true:=by rfl):RL P n ops k (⟨some d,op,ty,pos,bK,none⟩::rest) σ w:=Yf hd hH (f:=fun b=> .pointer (some ⟨b,0,none⟩)) hr hk
theorem gV(hH:Hp w0 w L){v:Value}(hx:ev σ x=v)
 (hk:∀b w',Hp w0 w' (.blk b (.cells v.cells e)::L)->RL P n ops k rest (lG σ d (.pointer (some ⟨b,0,none⟩))) w') (hd:Nat.blt d n=true:=by rfl):RL P n ops k (⟨some d,.box e x,ty,pos,bK,none⟩::rest) σ w:=nu hH (Kj hx) hk hd
theorem xP(a m:Nat){o:Obj}(hH:Hp w0 w L)(hr:(execOp (ev σ) ⟨some d,op,ty,pos,bK,none⟩).run P w= .ok (.value (.slice (some ⟨w.heap.size,0,none⟩) a m)) (w.alloc o))
 (hk:∀b w',Hp w0 w' (.blk b o::L)->RL P n ops k rest (lG σ d (.slice (some ⟨b,0,none⟩) a m)) w') (hd:Nat.blt d n=true:=by rfl):RL P n ops k (⟨some d,op,ty,pos,bK,none⟩::rest) σ w:=Yf hd hH (f:=fun b=> .slice (some ⟨b,0,none⟩) a m) hr hk
theorem lV(hu:P.underlying t=some td)(hH:Hp w0 w L)(i:Nat)(hx:ev σ x= .pointer (some ⟨b,off,none⟩))(hi:L[i]?=some (.blk b (.cells c e fr)))(hc:c[off]?=some v)
 (hk:RL P n ops k rest (lG σ d v) w) (hr:td.isRow=false:=by rfl) (hd:Nat.blt d n=true:=by rfl):RL P n ops k (⟨some d,.load t x,ty,pos,bK,none⟩::rest) σ w:=oP hd (aC hu hr hx (hH.cell hi hc)) hk
theorem lI{a:Int}(hu:P.underlying t=some td)(hH:Hp w0 w L)(i:Nat)(hx:ev σ x= .pointer (some ⟨b,off,none⟩))(hi:L[i]?=some (.blk b (.cells c e fr)))(hc:c[off]?=some (I a))
 (hk:RL P n ops k rest (lG σ d (I a)) w) (hr:td.isRow=false:=by rfl) (hd:Nat.blt d n=true:=by rfl):RL P n ops k (⟨some d,.load t x,ty,pos,bK,none⟩::rest) σ w:=oP hd (aC hu hr hx (hH.cell hi hc)) hk
theorem lP{p q:Nat}(hu:P.underlying t=some td)(hH:Hp w0 w L)(i:Nat)(hx:ev σ x= .pointer (some ⟨b,off,none⟩))(hi:L[i]?=some (.blk b (.cells c e fr)))(hc:c[off]?=some (Pn p q))
 (hk:RL P n ops k rest (lG σ d (Pn p q)) w) (hr:td.isRow=false:=by rfl) (hd:Nat.blt d n=true:=by rfl):RL P n ops k (⟨some d,.load t x,ty,pos,bK,none⟩::rest) σ w:=oP hd (aC hu hr hx (hH.cell hi hc)) hk
theorem tV(i:Nat)(hi:l[i]?=some ⟨some d,.load t x,ty,pos,bK,none⟩)(hS:Hp w0 w L)(hu:P.underlying t=some td)(j:Nat)(hx:ev σ x= .pointer (some ⟨b,off,none⟩))(hj:L[j]?=some (.blk b (.cells c e fr)))(hc:c[off]?=some v)
 (h:AN P n l (fun w=>Hp w0 w L) k fuel (listed.setIfInBounds i true) (lG σ d v) w) (ht:td.isRow=false:=by rfl) (hd:Nat.blt d n=true:=by rfl) (hs:Region.noSelect l.toArray=true:=by kernel_rfl) (hf:Region.free .any l.toArray listed i=true:=by kernel_rfl)
 (hr:(Region.ready .any l.toArray listed).contains i=true:=by kernel_rfl):AN P n l (fun w=>Hp w0 w L) k (fuel+1) listed σ w:=afI i hi hd hs hf hr hS (fun w hS=>aC hu ht hx (hS.cell hj hc)) h
theorem tI{a:Int}(i:Nat)(hi:l[i]?=some ⟨some d,.load t x,ty,pos,bK,none⟩)(hS:Hp w0 w L)(hu:P.underlying t=some td)(j:Nat)(hx:ev σ x= .pointer (some ⟨b,off,none⟩))(hj:L[j]?=some (.blk b (.cells c e fr)))(hc:c[off]?=some (I a))
 (h:AN P n l (fun w=>Hp w0 w L) k fuel (listed.setIfInBounds i true) (lG σ d (I a)) w) (ht:td.isRow=false:=by rfl) (hd:Nat.blt d n=true:=by rfl) (hs:Region.noSelect l.toArray=true:=by kernel_rfl) (hf:Region.free .any l.toArray listed i=true:=by kernel_rfl)
 (hr:(Region.ready .any l.toArray listed).contains i=true:=by kernel_rfl):AN P n l (fun w=>Hp w0 w L) k (fuel+1) listed σ w:=tV i hi hS hu j hx hj hc h ht hd hs hf hr
theorem tP{p q:Nat}(i:Nat)(hi:l[i]?=some ⟨some d,.load t x,ty,pos,bK,none⟩)(hS:Hp w0 w L)(hu:P.underlying t=some td)(j:Nat)(hx:ev σ x= .pointer (some ⟨b,off,none⟩))(hj:L[j]?=some (.blk b (.cells c e fr)))(hc:c[off]?=some (Pn p q))
 (h:AN P n l (fun w=>Hp w0 w L) k fuel (listed.setIfInBounds i true) (lG σ d (Pn p q)) w) (ht:td.isRow=false:=by rfl) (hd:Nat.blt d n=true:=by rfl) (hs:Region.noSelect l.toArray=true:=by kernel_rfl) (hf:Region.free .any l.toArray listed i=true:=by kernel_rfl)
 (hr:(Region.ready .any l.toArray listed).contains i=true:=by kernel_rfl):AN P n l (fun w=>Hp w0 w L) k (fuel+1) listed σ w:=tV i hi hS hu j hx hj hc h ht hd hs hf hr
theorem oB{t:Nat}{a b:Bool}(h:fn.results=#[.tmp t])(he:a=b)(hH:Hp w0 w L)(hs:σ t=B a:=by rfl):Out P fn (fun u w'=>u=B b/\Below w0.heap.size w0 w') σ w:=FP h (hs.trans (aJ B he)) hH.below
theorem oI{t:Nat}{a b:Int}(h:fn.results=#[.tmp t])(he:a=b)(hH:Hp w0 w L)(hs:σ t=I a:=by rfl):Out P fn (fun u w'=>u=I b/\Below w0.heap.size w0 w') σ w:=FP h (hs.trans (aJ I he)) hH.below
theorem oU{t:Nat}{a b:BitVec 64}(h:fn.results=#[.tmp t])(he:a=b)(hH:Hp w0 w L)(hs:σ t=U a:=by rfl):Out P fn (fun u w'=>u=U b/\Below w0.heap.size w0 w') σ w:=FP h (hs.trans (aJ U he)) hH.below
end
end
section
open Go Go.RowKit Go.ChangeShapes Go.WideShapes Go.ChangeAt
theorem Ed{H:Type}{enc:TypeId×Value->H}{P:Program}(hl:laidOutB P=true){W W':World}(hb:Below W.heap.size W W'):
  ∀{ts:List TypeId} {vs:List Value} {ds:List (DataW H)} {p:List MemPlace},(ts.all fun t=>P.readableRec t&&decide (t<P.types.size))=true->(∀x∈p,x.block<W.heap.size)->
   DataW.TrodAll enc P W 0 (fun _=>true) true ts vs ds p->DataW.TrodAll enc P W' 0 (fun b=>decide (b<W.heap.size)) true ts vs ds p
 |[],_,_,_,_,_,h=>by
  obtain⟨rfl,rfl,rfl⟩:=trodAll_nil h
  exact trodAll_mk0
 |t::ts,_,_,_,hr,hlt,h=>by
  obtain⟨v,Nh,d,ds1,a,b,rfl,rfl,rfl,h1,h2⟩:=trodAll_cons h
  simp only[List.all_cons,cG,eo]at hr
  exact trodAll_cons_mk (Below.trod hl hr.1.1 hr.1.2 h1 hb fun x hx=>hlt x oN) (Ed hl hb (by simpa using hr.2) (fun x hx=>hlt x oN) h2)
theorem aja{H:Type}{enc:TypeId×Value->H}{P:Program}{f:FuncId}{fn:Func}{s:ChangeSpec}{W:World}{args:Array Value}{ds gs:List (DataW H)}{before:List MemPlace}{rt:TypeId}
  (hl:laidOutB P=true) (hro:(fn.params.toList.all fun t=>P.readableRec t&&decide (t<P.types.size))=true) (hrt:fn.resultTypes=#[rt]) (axy:P.underlying rt=some .bool) (hvars:s.vars=[])
  (hres:(s.fn H (ds++gs)).results=[.lit (.bool true)]) (hargs:(s.fn H (ds++gs)).args=ds) (hvs:(s.fn H (ds++gs)).vars=[])
  (hW:DataW.Whole enc P fn.params.toList s.vars false W args.toList ds gs before)
  (hc:Calls P f args W (Pure (B true) W)):
  Calls P f args W fun e W'=>∃v,e= .returned v/\s.post enc P fn false true false false W args v W':=by
 refine hc.mono fun e W' hr=> ?_
 cases e with
 |panicked c=>exact hr.elim
 |outgrown=>exact hr.elim
 |returned v=>
  obtain⟨rfl,hb⟩:=hr
  have hW':=hW
  obtain⟨p,q,hA,hV,rfl,_⟩:=hW
  have hlt:∀x∈p,x.block<W.heap.size:=fun x hx=>by simpa using hW'.lt x oN
  refine⟨_,rfl,ds,gs,_,[],p,[],hW',?_,?_,?_,hb.frame _,fun h=>oO⟩
  .rw[hres,hrt]
   exact trodAll_cons_mk (shut_bool axy _) trodAll_mk0
  .rw[hargs]
   exact Ed hl hb hro hlt hA
  rw[hvs,hvars];rfl
theorem axA{n:Int}(h:(Lit.int .u64 n).wf=true):∃a:BitVec 64,n=(a.toNat:Int):=by
 simp[Lit.wf,IntKind.min,IntKind.max,IntKind.signed,IntKind.bits]at h
 refine⟨BitVec.ofInt 64 n,?_⟩
 rw[Q3];omega
end
section
open Go Go.RowKit Go.ChangeShapes Go.WideShapes Go.ChangeAt Go.Proofs.YtlhjdflgjbkpmaaGreatDoor.M
theorem abJ{α:Type}(cells:α->List Value)(sz:Nat)(hsz:∀a,(cells a).length=sz):∀(l:List α) (j:Nat) (c:Value),(l.flatMap cells)[j]?=some c->∃i a r,l[i]?=some a/\j=i*sz+r/\r<sz/\(cells a)[r]?=some c
 |[],j,c,h=>by simp at h
 |a::l,j,c,h=>by
  rw[tS]at h
  by_cases hj:j<sz
  .rw[yK (by rw[hsz];exact hj)]at h
   exact⟨0,a,j,rfl,J,hj,h⟩
  rw[Ez (by rw[hsz];omega),hsz]at h
  obtain⟨i,b,r,h1,h2,h3,h4⟩:=abJ cells sz hsz l _ c h
  exact⟨i+1,b,r,ES,by rw[kT];omega,h3,h4⟩
theorem ajb{α:Type}(cells:α->List Value)(sz:Nat)(hsz:∀a,(cells a).length=sz)(l:List α):(l.flatMap cells).length=l.length*sz:=by
 induction l with
 |nil=>simp
 |cons a l ih=>rw[tS,cZ,hsz,ih,eR,kT];omega
theorem pR{α H:Type}{enc:TypeId×Value->H}{P:Program}{w:World}{base:Nat}{sp:Nat->Bool}{held:Bool}{t e:TypeId}{Av:List Value}{x:DataW H×List MemPlace}{fuel sz:Nat}(cells:α->List Value)(ok:α->Prop)
  (hsz:∀a,(cells a).length=sz) (hpos:0<sz) (ht:P.underlying t=some (.slice e)) (hc:P.cellsOf e=sz)
  (hE:∀fuel cs x,DataW.trod enc P w base sp held fuel e cs=some x->∃a,cs=cells a/\ok a) (h:DataW.trod enc P w base sp held fuel t Av=some x):
  ∃(v:Value) (l:List α),Av=[v]/\Sl w v sz l.length (l.flatMap cells)/\(∀a∈l,ok a)/\v.cells=#[v]:=by
 rcases DataW.trod_slice ht h with⟨h1,-⟩|⟨a,len,cap,elems,rest,n,_,rfl,-,hb,hl,hm,hlen,hel,-,-⟩
 .exact⟨_,[],h1,Sl.nil w sz,fun a ha=>by simp at ha,rfl⟩
 have key:∀k,k<=len->∃l:List α,l.length=k/\∀i b,l[i]?=some b->w.cells? base (a.add (i*sz)) sz=some (cells b)/\ok b:=fun k=>by
  induction k with
  |zero=>exact fun _=>⟨[],rfl,fun i b hi=>by simp at hi⟩
  |succ k ih=>
   intro hk
   obtain⟨l,h1,h2⟩:=ih J
   have h3:=hel k J
   rw[ep (by omega:k<elems.length),Option.bind_eq_some_iff,hc]at h3
   obtain⟨cs,h4,h5⟩:=h3
   obtain⟨b,rfl,WV⟩:=hE _ _ _ h5
   refine⟨l++[b],by simp[h1],fun i c hi=> ?_⟩
   by_cases hik:i<k
   .rw[yK J]at hi;exact h2 i c hi
   have:i=k:=by
    have:=(m8.1 hi).1
    simp[h1]at this;omega
   subst this
   rw[Ez J,h1]at hi
   simp at hi;subst hi;exact⟨h4,WV⟩
 obtain⟨l,h1,h2⟩:=key len (er _)
 refine⟨_,l,rfl,?_,fun b WV=> ?_,rfl⟩
 .have aps:0<len->a.spot=none:=fun h0=>by
   have h3:=(h2 0 (l.getD 0 (l[0]'J)) (by rw[eS,ep J];rfl)).1
   have h4:=(World.cells?_some h3).2.2 0 hpos
   rw[Ro]at h4
   have h5:a.add 0=a\/a.spot=none:=by
    unfold Addr.add
    split
    .rename_i hs;exact .inl (by cases a;simp)
    rename_i hs;exact .inr (by cases hq:a.spot with
     |none=>rfl
     |some _=>simp_all)
   have hcs:((cells (l.getD 0 (l[0]'J)))[0]?)≠none:=by
    rw[Ne,List.getElem?_eq_none_iff,hsz];omega
   rcases h5 with h5|h5
   .rw[h5,h5]at h4
    unfold World.cell? at h4
    split at h4
    .split at h4
     .exact absurd h4.symm hcs
     rename_i hns;cases h6:a.spot with
     |none=>rfl
     |some _=>rw[h6]at hns;simp at hns
    exact absurd h4.symm hcs
   exact h5
  have axB:0<len->∀j,a.add j=⟨a.block,a.off+j,none⟩:=fun h0 j=>by
   have:=aps h0
   unfold Addr.add
   cases a;simp_all
  refine⟨⟨some a,cap,by rw[h1],by rw[h1];exact hl,fun h0=> ?_⟩,ajb cells sz hsz l,fun j c hj=> ?_,by rw[h1];omega⟩
  .rw[h1]at h0
   have:=aps h0
   cases a;simp_all [sb,so]
  obtain⟨i,b,r,hi,rfl,hr,hbr⟩:=abJ cells sz hsz l j c hj
  have axC:0<len:=by have:=(m8.1 hi).1;omega
  have h6:=(World.cells?_some (h2 i b hi).1).2.2 r hr
  rw[axB axC,show(⟨a.block,a.off+i*sz,none⟩:Addr).add r=⟨a.block,a.off+i*sz+r,none⟩by simp[Addr.add]]at h6
  show w.cell? ⟨a.block,a.off+(i*sz+r),none⟩=some c
  rw[<-yQ,h6,hbr]
 obtain⟨i,hi⟩:=List.getElem?_of_mem WV
 exact(h2 i b hi).2
end
section
open Go Go.RowKit Go.ChangeShapes Go.WideShapes Go.ChangeAt Go.Deep Go.Proofs.YtlhjdflgjbkpmaaGreatDoor.M
theorem ajc{cs:List Value}(hl:cs.length=8)(h:∀i,i<8->∃a:BitVec 64,cs[i]?=some (U a)):∃e:El,cs=s8 e:=by
 have hf:∀i:Nat,∃a:BitVec 64,i<8->cs[i]?=some (U a):=fun i=>by
  by_cases hi:i<8
  .obtain⟨a,ha⟩:=h i hi;exact⟨a,fun _=>ha⟩
  exact⟨0#64,fun h=>absurd h hi⟩
 refine⟨fun i=>(hf i).choose,tj fun j=> ?_⟩
 by_cases hj:j<8
 .rw[(hf j).choose_spec hj];simp[s8,hj]
 rw[ny J,ny (by rw[fK];omega)]
theorem anu(l:List Tx):l.flatMap (fun s=>[Value.string s])=Jn l:=by
 induction l with
 |nil=>rfl
 |cons a l ih=>rw[tS,ih];rfl
structure apt(P:Program)(t ti ta te:TypeId):Prop where
 u:∃f0 f1:Field,P.underlying t=some (.struct #[f0,f1])/\(f0.type=ti/\f0.offset=0)/\(f1.type=ta/\f1.offset=1)
 i:P.underlying ti=some (.int .i64)
 ci:P.cellsOf ti=1
 a:P.underlying ta=some (.array 64 te)
 e:P.underlying te=some (.int .u64)
 ce:P.cellsOf te=1
 ca:P.cellsOf ta=64
 z:P.cellsOf t=65
structure apu(P:Program)(t tk ts tx tr ti ta te:TypeId):Prop where
 r:apt P tr ti ta te
 u:∃f0 f1 f2:Field,P.underlying t=some (.struct #[f0,f1,f2])/\(f0.type=tk/\f0.offset=0)/\(f1.type=ts/\f1.offset=1)/\(f2.type=tr/\f2.offset=2)
 k:P.underlying tk=some (.int .i64)
 ck:P.cellsOf tk=1
 s:P.underlying ts=some (.slice tx)
 cs:P.cellsOf ts=1
 x:P.underlying tx=some .string
 cx:P.cellsOf tx=1
 z:P.cellsOf t=67
structure apv(P:Program)(t tb JZ tf tk ts tx tr ti ta te:TypeId):Prop where
 f:apu P tf tk ts tx tr ti ta te
 u:∃f0 f1:Field,P.underlying t=some (.struct #[f0,f1])/\(f0.type=tb/\f0.offset=0)/\(f1.type=JZ/\f1.offset=1)
 b:P.underlying tb=some .bool
 cb:P.cellsOf tb=1
 fs:P.underlying JZ=some (.slice tf)
 cfs:P.cellsOf JZ=1
 z:P.cellsOf t=2
section
variable{H:Type}{enc:TypeId×Value->H}{P:Program}{w:World}{base:Nat}{sp:Nat->Bool}{held:Bool}{fuel:Nat}{cs:List Value}{x:DataW H×List MemPlace}{t tb JZ tf tk ts tx tr ti ta te:TypeId}
theorem Ni{n:Nat}(ht:P.underlying t=some (.array n te))(he:P.underlying te=some (.int .u64))(hc:P.cellsOf te=1)(hz:P.cellsOf t=n)(h:DataW.trod enc P w base sp held fuel t cs=some x):
  cs.length=n/\∀i,i<n->∃a:BitVec 64,cs[i]?=some (U a):=by
 obtain⟨xs,m,-,-,hl,hn,hel⟩:=DataW.trod_array ht h
 refine⟨by rw[hl,hz],fun i hi=> ?_⟩
 have h1:=hel i hi
 rw[hc,lE,ep J]at h1
 obtain⟨k,h2,-,wf⟩:=tw he h1
 obtain⟨a,rfl⟩:=axA wf
 have h3:((cs.drop i).take 1)[0]?=some (U a):=by rw[h2];rfl
 rw[uF,aS J,BD,Lh]at h3
 exact⟨a,h3⟩
theorem abK(ht:P.underlying t=some (.array 8 te))(he:P.underlying te=some (.int .u64))(hc:P.cellsOf te=1)(hz:P.cellsOf t=8)(h:DataW.trod enc P w base sp held fuel t cs=some x):∃e:El,cs=s8 e/\True:=by
 obtain⟨h1,h2⟩:=Ni ht he hc hz h
 obtain⟨e,rfl⟩:=ajc h1 h2
 exact⟨e,rfl,trivial⟩
theorem ajd(T:apt P t ti ta te)(h:DataW.trod enc P w base sp held fuel t cs=some x):∃r:Rl,cs=vP r:=by
 obtain⟨f0,f1,ht,h0,h1⟩:=T.u
 obtain⟨y0,y1,n,-,hl,h2,h3⟩:=trod_struct2 ht h
 rw[h0.1,h0.2,T.ci]at h2
 rw[h1.1,h1.2,T.ca]at h3
 obtain⟨m,h4,-⟩:=tw T.i h2
 obtain⟨h5,h6⟩:=Ni T.a T.e T.ce T.ca h3
 rw[T.z]at hl
 have hf:∀i:Nat,∃a:BitVec 64,i<64->cs[i+1]?=some (U a):=fun i=>by
  by_cases hi:i<64
  .obtain⟨a,ha⟩:=h6 i hi
   rw[uF,aS hi,BD,Nat.add_comm]at ha
   exact⟨a,fun _=>ha⟩
  exact⟨0#64,fun h=>absurd h hi⟩
 refine⟨⟨m,fun i=>(hf i).choose⟩,tj fun j=> ?_⟩
 match j with
 |0=>
  have h7:((cs.drop 0).take 1)[0]?=some (I m):=by rw[h4];rfl
  rw[uF,aS J,BD,Lh]at h7
  rw[h7];rfl
 |j+1=>
  by_cases hj:j<64
  .rw[(hf j).choose_spec hj];simp[vP,hj]
  rw[ny J,ny (by rw[o7];omega)]
theorem aje(T:apu P t tk ts tx tr ti ta te)(h:DataW.trod enc P w base sp held fuel t cs=some x):∃f:qk,cs=rU f/\vR (Kw w) f:=by
 obtain⟨f0,f1,f2,ht,h0,h1,h2⟩:=T.u
 obtain⟨y0,y1,y2,n,-,hl,h3,h4,h5⟩:=trod_struct3 ht h
 rw[h0.1,h0.2,T.ck]at h3
 rw[h1.1,h1.2,T.cs]at h4
 rw[h2.1,h2.2,T.r.z]at h5
 obtain⟨m,e3,-⟩:=tw T.k h3
 obtain⟨v,l,e4,hs,-,-⟩:=pR (sz:=1) (fun s:Tx=>[Value.string s]) (fun _=>True) (fun _=>rfl) J T.s T.cx (fun _ _ _ hx=>by
  obtain⟨s,e,-⟩:=K5 T.x hx
  exact⟨s,e,trivial⟩) h4
 obtain⟨r,e5⟩:=ajd T.r h5
 rw[anu]at hs
 rw[T.z]at hl
 refine⟨⟨m,v,l,r⟩,?_,⟨hs.slv⟩⟩
 match cs,hl with
 |a::b::c,hl=>
  simp only[eR]at hl
  simp only[Lc,Ho,wY,K1]at e3 e4 e5
  rw[iV J]at e5
  rw[rU,e5,(List.cons.inj e3).1,(List.cons.inj e4).1]
theorem ajf(T:apv P t tb JZ tf tk ts tx tr ti ta te)(h:DataW.trod enc P w base sp held fuel t cs=some x):∃s:kW,cs=[B s.tuple,s.fv]/\ld (Kw w) s:=by
 obtain⟨f0,f1,ht,h0,h1⟩:=T.u
 obtain⟨y0,y1,n,-,hl,h2,h3⟩:=trod_struct2 ht h
 rw[h0.1,h0.2,T.cb]at h2
 rw[h1.1,h1.2,T.cfs]at h3
 obtain⟨m,e2,-⟩:=DataW.trod_bool T.b h2
 obtain⟨v,l,e3,hs,hok,-⟩:=pR (sz:=67) rU (vR (Kw w)) fI J T.fs T.f.z (fun _ _ _ hx=>aje T.f hx) h3
 rw[T.z]at hl
 refine⟨⟨m,v,l⟩,?_,⟨hs.slv,hok⟩⟩
 match cs,hl with
 |[a,b],_=>
  simp at e2 e3
  rw[e2,e3]
end
section
variable{P:Program}{w:World}{r:Reach}{b0:Nat}{t te:TypeId}{v:Value}
end
structure apw(P:Program)(t tx ti:TypeId):Prop where
 u:∃f0 f1 f2:Field,P.underlying t=some (.struct #[f0,f1,f2])/\(f0.type=tx/\f0.offset=0)/\(f1.type=ti/\f1.offset=1)/\(f2.type=ti/\f2.offset=2)
 x:P.underlying tx=some .string
 cx:P.cellsOf tx=1
 i:P.underlying ti=some (.int .i64)
 ci:P.cellsOf ti=1
 z:P.cellsOf t=3
structure aJR(P:Program)(t ti:TypeId):Prop where
 u:∃f0 f1:Field,P.underlying t=some (.struct #[f0,f1])/\(f0.type=ti/\f0.offset=0)/\(f1.type=ti/\f1.offset=1)
 i:P.underlying ti=some (.int .i64)
 ci:P.cellsOf ti=1
 z:P.cellsOf t=2
structure apx(P:Program)(t tsh tb JZ tf tk ts tx tr ti ta te:TypeId):Prop where
 s:apv P tsh tb JZ tf tk ts tx tr ti ta te
 u:∃f0 f1:Field,P.underlying t=some (.struct #[f0,f1])/\(f0.type=tx/\f0.offset=0)/\(f1.type=tsh/\f1.offset=1)
 z:P.cellsOf t=3
structure apy(P:Program)(t tls tvs tv tl tsh tb JZ tf tk ts tx tr ti ta te:TypeId):Prop where
 l:apx P tl tsh tb JZ tf tk ts tx tr ti ta te
 v:apw P tv tx ti
 u:∃f0 f1:Field,P.underlying t=some (.struct #[f0,f1])/\(f0.type=tls/\f0.offset=0)/\(f1.type=tvs/\f1.offset=1)
 ls:P.underlying tls=some (.slice tl)
 vs:P.underlying tvs=some (.slice tv)
 cls:P.cellsOf tls=1
 cvs:P.cellsOf tvs=1
 z:P.cellsOf t=2
section
variable{H:Type}{enc:TypeId×Value->H}{P:Program}{w:World}{base:Nat}{sp:Nat->Bool}{held:Bool}{fuel:Nat}{cs:List Value}{x:DataW H×List MemPlace}{t tls tvs tv tl tsh tb JZ tf tk ts tx tr ti ta te:TypeId}
theorem ajg(T:apw P t tx ti)(h:DataW.trod enc P w base sp held fuel t cs=some x):∃v:vS,cs=TO v/\True:=by
 obtain⟨f0,f1,f2,ht,h0,h1,h2⟩:=T.u
 obtain⟨y0,y1,y2,n,-,hl,h3,h4,h5⟩:=trod_struct3 ht h
 rw[h0.1,h0.2,T.cx]at h3
 rw[h1.1,h1.2,T.ci]at h4
 rw[h2.1,h2.2,T.ci]at h5
 obtain⟨a,e3,-⟩:=K5 T.x h3
 obtain⟨b,e4,-⟩:=tw T.i h4
 obtain⟨c,e5,-⟩:=tw T.i h5
 rw[T.z]at hl
 match cs,hl with
 |[u,v,z],_=>
  simp at e3 e4 e5
  exact⟨⟨a,b,c⟩,by rw[e3,e4,e5];rfl,trivial⟩
theorem ajh(T:apx P t tsh tb JZ tf tk ts tx tr ti ta te)(h:DataW.trod enc P w base sp held fuel t cs=some x):∃l:DF,cs=Mp l/\ld (Kw w) l.zx:=by
 obtain⟨f0,f1,ht,h0,h1⟩:=T.u
 obtain⟨y0,y1,n,-,hl,h3,h4⟩:=trod_struct2 ht h
 rw[h0.1,h0.2,T.s.f.cx]at h3
 rw[h1.1,h1.2,T.s.z]at h4
 obtain⟨a,e3,-⟩:=K5 T.s.f.x h3
 obtain⟨s,e4,hs⟩:=ajf T.s h4
 rw[T.z]at hl
 refine⟨⟨a,s⟩,?_,hs⟩
 match cs,hl with
 |[u,v,z],_=>
  simp at e3 e4
  rw[e3,e4.1,e4.2];rfl
theorem aji(T:apy P t tls tvs tv tl tsh tb JZ tf tk ts tx tr ti ta te)(h:DataW.trod enc P w base sp held fuel t cs=some x):∃s:kE,cs=[s.lv,s.vv]/\E5 (Kw w) s:=by
 obtain⟨f0,f1,ht,h0,h1⟩:=T.u
 obtain⟨y0,y1,n,-,hl,h3,h4⟩:=trod_struct2 ht h
 rw[h0.1,h0.2,T.cls]at h3
 rw[h1.1,h1.2,T.cvs]at h4
 obtain⟨v,l,e3,hs,hok,-⟩:=pR (sz:=3) Mp (fun l=>ld (Kw w) l.zx) qI J T.ls T.l.z (fun _ _ _ hx=>ajh T.l hx) h3
 obtain⟨v2,l2,e4,hs2,-,-⟩:=pR (sz:=3) TO (fun _=>True) ya J T.vs T.v.z (fun _ _ _ hx=>ajg T.v hx) h4
 rw[T.z]at hl
 refine⟨⟨v,l,v2,l2⟩,?_,⟨hs.slv,hs2.slv,hok⟩⟩
 match cs,hl with
 |[a,b],_=>
  simp at e3 e4
  rw[e3,e4]
end
structure ZA(P:Program)(t ti te tu:TypeId):Prop where
 u:∃f0 f1:Field,P.underlying t=some (.struct #[f0,f1])/\(f0.type=ti/\f0.offset=0)/\(f1.type=te/\f1.offset=1)
 i:P.underlying ti=some (.int .i64)
 ci:P.cellsOf ti=1
 e:P.underlying te=some (.array 8 tu)
 hu:P.underlying tu=some (.int .u64)
 cu:P.cellsOf tu=1
 ce:P.cellsOf te=8
 z:P.cellsOf t=9
structure abL(P:Program)(t ta tx ti te tu:TypeId):Prop where
 a:ZA P ta ti te tu
 u:∃f0 f1:Field,P.underlying t=some (.struct #[f0,f1])/\(f0.type=tx/\f0.offset=0)/\(f1.type=ta/\f1.offset=1)
 x:P.underlying tx=some .string
 cx:P.cellsOf tx=1
 z:P.cellsOf t=10
structure apz(P:Program)(t JZ tf ta tx ti te tu:TypeId):Prop where
 f:abL P tf ta tx ti te tu
 u:∃f0 f1:Field,P.underlying t=some (.struct #[f0,f1])/\(f0.type=JZ/\f0.offset=0)/\(f1.type=ti/\f1.offset=1)
 fs:P.underlying JZ=some (.slice tf)
 cfs:P.cellsOf JZ=1
 z:P.cellsOf t=2
structure apA(P:Program)(t ti te tu:TypeId):Prop where
 u:∃f0 f1 f2:Field,P.underlying t=some (.struct #[f0,f1,f2])/\(f0.type=ti/\f0.offset=0)/\(f1.type=ti/\f1.offset=1)/\(f2.type=te/\f2.offset=2)
 z:P.cellsOf t=10
structure apB(P:Program)(t tcs tn tr JZ tf ta tx ti te tu:TypeId):Prop where
 r:apz P tr JZ tf ta tx ti te tu
 n:apA P tn ti te tu
 u:∃f0 f1 f2 f3 f4 f5 f6 f7:Field,P.underlying t=some (.struct #[f0,f1,f2,f3,f4,f5,f6,f7])/\(f0.type=ti/\f0.offset=0)/\(f1.type=ti/\f1.offset=1)/\(f2.type=tcs/\f2.offset=2)/\(f3.type=ta/\f3.offset=3)/\(f4.type=tr/\f4.offset=12)/\(f5.type=tr/\f5.offset=14)/\(f6.type=ti/\f6.offset=16)/\(f7.type=tx/\f7.offset=17)
 cs:P.underlying tcs=some (.slice tn)
 ccs:P.cellsOf tcs=1
 z:P.cellsOf t=18
structure ajj(P:Program)(t tas tss anw anx anz anA anB anC anD anE anF abM abN abO abP abQ ajk tcs tn tr JZ tf ta tx ti te tu:TypeId):Prop where
 a:apB P ajk tcs tn tr JZ tf ta tx ti te tu
 s:apy P tss anw anx anz anA anB anC anD anE anF abM abN abO abP abQ tu
 u:∃f0 f1:Field,P.underlying t=some (.struct #[f0,f1])/\(f0.type=tss/\f0.offset=0)/\(f1.type=tas/\f1.offset=2)
 HU:P.underlying tas=some (.slice ajk)
 cas:P.cellsOf tas=1
 z:P.cellsOf t=3
section
variable{H:Type}{enc:TypeId×Value->H}{P:Program}{w:World}{base:Nat}{sp:Nat->Bool}{held:Bool}{fuel:Nat}{cs:List Value}{x:DataW H×List MemPlace}{t tas ajk tcs tn tr JZ tf ta tx ti te tu tss anw anx anz anA anB anC anD anE anF abM abN abO abP abQ:TypeId}
theorem Qo(T:ZA P t ti te tu)(h:DataW.trod enc P w base sp held fuel t cs=some x):∃a:iw,cs=jq a/\True:=by
 obtain⟨f0,f1,ht,h0,h1⟩:=T.u
 obtain⟨y0,y1,n,-,hl,h3,h4⟩:=trod_struct2 ht h
 rw[h0.1,h0.2,T.ci]at h3
 rw[h1.1,h1.2,T.ce]at h4
 obtain⟨b,e3,-⟩:=tw T.i h3
 obtain⟨c,e4,-⟩:=abK T.e T.hu T.cu T.ce h4
 rw[T.z]at hl
 match cs,hl with
 |u::cs,hl=>
  simp at e3 hl
  refine⟨⟨b,c⟩,?_,trivial⟩
  rw[K1,Lc,iV J]at e4
  rw[e3,e4];rfl
theorem ZB(T:abL P t ta tx ti te tu)(h:DataW.trod enc P w base sp held fuel t cs=some x):∃a:kX,cs=tF a/\True:=by
 obtain⟨f0,f1,ht,h0,h1⟩:=T.u
 obtain⟨y0,y1,n,-,hl,h3,h4⟩:=trod_struct2 ht h
 rw[h0.1,h0.2,T.cx]at h3
 rw[h1.1,h1.2,T.a.z]at h4
 obtain⟨b,e3,-⟩:=K5 T.x h3
 obtain⟨c,e4,-⟩:=Qo T.a h4
 rw[T.z]at hl
 match cs,hl with
 |u::cs,hl=>
  simp at e3 hl
  refine⟨⟨b,c⟩,?_,trivial⟩
  rw[K1,Lc,iV J]at e4
  rw[e3,e4];rfl
theorem Qp(T:apz P t JZ tf ta tx ti te tu)(h:DataW.trod enc P w base sp held fuel t cs=some x):∃r:A5,cs=Sb r/\YM (Kw w) r:=by
 obtain⟨f0,f1,ht,h0,h1⟩:=T.u
 obtain⟨y0,y1,n,-,hl,h3,h4⟩:=trod_struct2 ht h
 rw[h0.1,h0.2,T.cfs]at h3
 rw[h1.1,h1.2,T.f.a.ci]at h4
 obtain⟨v,l,e3,hs,-,-⟩:=pR (sz:=10) tF (fun _=>True) rZ J T.fs T.f.z (fun _ _ _ hx=>ZB T.f hx) h3
 obtain⟨b,e4,-⟩:=tw T.f.a.i h4
 rw[T.z]at hl
 refine⟨⟨v,l,b⟩,?_,⟨hs.slv⟩⟩
 match cs,hl with
 |[a,c],_=>
  simp at e3 e4
  rw[e3,e4];rfl
theorem ajl(A:ZA P ta ti te tu)(T:apA P t ti te tu)(h:DataW.trod enc P w base sp held fuel t cs=some x):∃a:dz,cs=j6 a/\True:=by
 obtain⟨f0,f1,f2,ht,h0,h1,h2⟩:=T.u
 obtain⟨y0,y1,y2,n,-,hl,h3,h4,h5⟩:=trod_struct3 ht h
 rw[h0.1,h0.2,A.ci]at h3
 rw[h1.1,h1.2,A.ci]at h4
 rw[h2.1,h2.2,A.ce]at h5
 obtain⟨a,e3,-⟩:=tw A.i h3
 obtain⟨b,e4,-⟩:=tw A.i h4
 obtain⟨c,e5,-⟩:=abK A.e A.hu A.cu A.ce h5
 rw[T.z]at hl
 match cs,hl with
 |u::v::cs,hl=>
  simp at e3 e4 hl
  refine⟨⟨a,b,c⟩,?_,trivial⟩
  rw[K1,K1,Lc,iV J]at e5
  rw[e3,e4,e5];rfl
theorem ajm(T:apB P t tcs tn tr JZ tf ta tx ti te tu)(h:DataW.trod enc P w base sp held fuel t cs=some x):∃a:gp,cs=zy a/\JQ (Kw w) a:=by
 obtain⟨f0,f1,f2,f3,f4,f5,f6,f7,ht,h0,h1,h2,h3,h4,h5,h6,h7⟩:=T.u
 obtain⟨xs,n,hfu,rfl,hl,hlen,hf⟩:=DataW.trod_struct ht h
 have g0:=hf 0 f0 O
 have g1:=hf 1 f1 O
 have g2:=hf 2 f2 O
 have g3:=hf 3 f3 O
 have g4:=hf 4 f4 O
 have g5:=hf 5 f5 O
 have g6:=hf 6 f6 O
 have g7:=hf 7 f7 O
 match xs,hlen with
 |[y0,y1,y2,y3,y4,y5,y6,y7],_=>
  simp only[List.getElem?_cons_zero,List.getElem?_cons_succ]at g0 g1 g2 g3 g4 g5 g6 g7
  rw[h0.1,h0.2,T.r.f.a.ci]at g0
  rw[h1.1,h1.2,T.r.f.a.ci]at g1
  rw[h2.1,h2.2,T.ccs]at g2
  rw[h3.1,h3.2,T.r.f.a.z]at g3
  rw[h4.1,h4.2,T.r.z]at g4
  rw[h5.1,h5.2,T.r.z]at g5
  rw[h6.1,h6.2,T.r.f.a.ci]at g6
  rw[h7.1,h7.2,T.r.f.cx]at g7
  obtain⟨op,e0,-⟩:=tw T.r.f.a.i g0
  obtain⟨aX,e1,-⟩:=tw T.r.f.a.i g1
  obtain⟨cv,code,e2,hc,-,-⟩:=pR (sz:=10) j6 (fun _=>True) gj J T.cs T.n.z (fun _ _ _ hx=>ajl T.r.f.a T.n hx) g2
  obtain⟨to,e3,-⟩:=Qo T.r.f.a g3
  obtain⟨a,e4,ha⟩:=Qp T.r g4
  obtain⟨b,e5,hb⟩:=Qp T.r g5
  obtain⟨var,e6,-⟩:=tw T.r.f.a.i g6
  obtain⟨field,e7,-⟩:=K5 T.r.f.x g7
  rw[T.z]at hl
  refine⟨⟨op,aX,cv,code,to,a,b,var,field⟩,?_,⟨hc.slv,ha,hb⟩⟩
  match cs,hl with
  |[u0,u1,u2,v0,v1,v2,v3,v4,v5,v6,v7,v8,a0,a1,b0,b1,z0,z1],_=>
   simp[Sb]at e0 e1 e2 e3 e4 e5 e6 e7
   rw[e0,e1,e2,e4.1,e4.2,e5.1,e5.2,e6,e7]
   show _=I op::I aX::cv::(jq to++_)
   rw[<-e3];rfl
theorem ad6(T:ajj P t tas tss anw anx anz anA anB anC anD anE anF abM abN abO abP abQ ajk tcs tn tr JZ tf ta tx ti te tu)(h:DataW.trod enc P w base sp held fuel t cs=some x):∃p:l6,cs=D6 p/\wI (Kw w) p:=by
 obtain⟨f0,f1,ht,h0,h1⟩:=T.u
 obtain⟨y0,y1,n,-,hl,h3,h4⟩:=trod_struct2 ht h
 rw[h0.1,h0.2,T.s.z]at h3
 rw[h1.1,h1.2,T.cas]at h4
 obtain⟨s,e3,hs⟩:=aji T.s h3
 obtain⟨v,l,e4,ha,hok,-⟩:=pR (sz:=18) zy (fun x=>JQ (Kw w) x) yc J T.HU T.a.z (fun _ _ _ hx=>ajm T.a hx) h4
 rw[T.z]at hl
 refine⟨⟨s,v,l⟩,?_,⟨hs,ha.slv,hok⟩⟩
 match cs,hl with
 |[a,b,c],_=>
  simp at e3 e4
  rw[e3.1,e3.2,e4];rfl
theorem ad7{r:Reach}{b0:Nat}{v:Value}{d:DataW H}{ps:List MemPlace}(T:ajj P t tas tss anw anx anz anA anB anC anD anE anF abM abN abO abP abQ ajk tcs tn tr JZ tf ta tx ti te tu)(hval:Value.okWide P w r b0 t v)(hd:DataW.Trod enc P w base sp held t v d ps):∃p:l6,v= .agg (D6 p).toArray/\wI (Kw w) p:=by
 obtain⟨f0,f1,ht,-⟩:=T.u
 obtain⟨cs,rfl,-⟩:=okWide_struct ht hval
 obtain⟨fuel,h⟩:=hd
 obtain⟨s,h1,h2⟩:=ad6 T h
 refine⟨s,?_,h2⟩
 congr 1
 exact Rr h1
end
end
end Go.Proofs.YtlhjdflgjbkpmaaGreatDoor.E

/- Part 3 of the proof of FlowBack: its plain laws and the walks of its functions. -/
import Derived.Test.YtlhjdflgjbkpmaaGreatDoorFlowBackPartB
set_option linter.all false
namespace Go.Proofs.YtlhjdflgjbkpmaaGreatDoor.E
section
open Go Go.RowKit Go.Proofs.YtlhjdflgjbkpmaaGreatDoor.M
theorem ahR{K:Vu}{p:kX}(h:lB K p):∀u∈(Aw p).toArray,u.oneCell'=true:=by
 intro u hu
 simp only[Aw,Kk,cZ,Gu,Bg]at hu
 rcases hu with rfl|rfl
 .rfl
 exact(nZ h.aY).1
theorem asm(x:oJ):((We x).drop 5).take 8=sU x.low:=by
 show(sU x.low).take 8=_
 exact iP (by rw[fy];exact eG _)
def shL(an:List oJ)(k:Int):Sh:=(an.getD k.toNat oK).p.sh
def ofB(aT:List Int)(v x:Int):Bool:=decide (0<=v/\v<aT.length/\aT.getD v.toNat 0=x)
def EI(an:List oJ)(aT:List Int)(k:Int)(x:dK):Bool:=(!decide (x.op=1)||ofB aT x.n k)&&(!decide (x.op=2)||cz (shL an k) x.c)
def Mp(an:List oJ)(aT:List Int)(k:Int)(t:ix):Bool:=if t.var<0 then cz (shL an k) t.c else ofB aT t.var k
def vO(an:List oJ)(aT:List Int)(k:Int)(l:List dK)(t:ix):Bool:=decide (0<=k/\k<an.length)&&fX l&&(l.all (EI an aT k)&&Mp an aT k t)
section
variable{an:List oJ}{aT:List Int}{k q:Int}{l:List dK}{t:ix}{x:dK}
theorem Mq(h:¬(0<=k/\k<an.length)):vO an aT k l t=false:=by grind[vO]
theorem ahS(h:fX l=false):vO an aT k l t=false:=by grind[vO]
theorem U0(h0:0<=q)(h1:q<l.length)(h:EI an aT k (l.getD q.toNat cA)=false):vO an aT k l t=false:=by grind[EI,dc,vO]
theorem Mr(h1:0<=k/\k<an.length)(h2:fX l=true)(h3:¬q<l.length)(hg:∀j:Int,0<=j->j<q->EI an aT k (l.getD j.toNat cA)=true):vO an aT k l t=Mp an aT k t:=by grind[EI,List.all_eq_true,List.mem_iff_getElem,Int.toNat_natCast,getD_eq,vO]
theorem ahT(h:x.op=1)(h2:¬(0<=x.n/\x.n<aT.length/\aT.getD x.n.toNat 0=k)):EI an aT k x=false:=by grind[EI,ofB]
theorem ahU(h:x.op=2)(h2:cz (shL an k) x.c=false):EI an aT k x=false:=by grind[EI]
theorem BU(h1:¬x.op=1\/(0<=x.n/\x.n<aT.length/\aT.getD x.n.toNat 0=k))(h2:¬x.op=2\/cz (shL an k) x.c=true):EI an aT k x=true:=by grind[ofB,cz,shL,EI]
theorem amI(h:t.var<0):Mp an aT k t=cz (shL an k) t.c:=aQ h
theorem amJ(h:¬t.var<0):Mp an aT k t=decide (0<=t.var/\t.var<aT.length/\aT.getD t.var.toNat 0=k):=aP h
end
theorem Ms{α:Type}{l:List α}{a d:α}{i:Nat}:(l++[a]).getD i d=if i<l.length then l.getD i d else if i=l.length then a else d:=by grind
theorem nN{α:Type}{l:List α}{a d:α}{i:Nat}(h:i<l.length):(l++[a]).getD i d=l.getD i d:=by grind
theorem rQ{α:Type}{l:List α}{a d:α}{i:Nat}(h:i=l.length):(l++[a]).getD i d=a:=by grind
def pz(s:NP)(l:Int)(e:El):NP:={s with aT:=s.aT++[l],ai:=s.ai++[e],aX:=s.aX++[0],us:=s.us++[[]],cs:=RE s.cs}
def EJ(i:Int)(u:List (List Int))(v:Int):List (List Int):=u.set v.toNat (u.getD v.toNat []++[i])
theorem oW{i:Int}:∀{l:List Int} {u:List (List Int)},(l.foldl (EJ i) u).length=u.length
 |[],u=>rfl
 |v::l,u=>by rw[r5,oW];simp[EJ]
theorem BV{i:Int}:∀{l:List Int} {u:List (List Int)} {k:Nat},l.Nodup->(∀v∈l,0<=v/\v<u.length)->(l.foldl (EJ i) u).getD k []=u.getD k []++if(k:Int)∈l then[i]else[]
 |[],u,k,_,_=>by simp
 |v::l,u,k,hn,hl=>by
  obtain⟨n1,n2⟩:=mZ.1 hn
  have h0:=hl v az
  rw[r5,BV n2 fun x hx=>by have:=hl x (fw _ hx);simp only[EJ,mM];exact this]
  unfold EJ
  rw[eE,uq]
  by_cases c:v.toNat=k
  .have e:(k:Int)=v:=J
   rw[aQ c,aQ J,e,aP n1,aQ az,kV,c];rfl
  have e:¬(k:Int)=v:=J
  rw[aP c,<-eE]
  congr 1
  simp only[cZ,e,false_or]
def AB(s:NP)(q:de):NP:={s with qs:=s.qs++[q],us:=q.vars.foldl (EJ s.qs.length) s.us}
theorem ahV{cs:List (List Nat)}(h:0<cs.length):(Ac (RE cs) ((cs.length:Int)-1)).1=cs:=by
 unfold Ac RE
 rw[aP (by simp only[eO];omega),show((bk cs++[(bk cs).length])::cs).length-1-(max 0 ((cs.length:Int)-1)).toNat=1 by simp only[eO];omega]
 rfl
theorem ahW{f:Value}{s:NP}{l:Int}{e:El}(h1:s.aT.length=s.ai.length)(h2:s.aX.length=s.ai.length)(h3:s.us.length=s.ai.length)(h4:0<s.cs.length):gh [(f,.var s.ai.length ((s.cs.length:Int)-1))] s (pz s l e):=by
 refine gh.one ?_ ⟨by simp[pz];omega,by simp[pz],by simp[pz];omega,by simp[pz];omega⟩
 simp only[sL,pz]
 rw[ahV h4,uv,show(s.aT++[l]).take s.ai.length=s.aT by rw[<-h1,uv],show(s.aX++[(0:BitVec 64)]).take s.ai.length=s.aX by rw[<-h2,uv],show(s.us++[([]:List Int)]).take s.ai.length=s.us by rw[<-h3,uv]]
theorem Hp.aEw{w0 w:World}{A B U R L:List a8}{x:a8}(h:Hp w0 w (x::(A++(B++((U++R)++L))))):Hp w0 w (A++((U++[x])++(R++(B++L)))):=by
 refine h.perm ((D0 (l₁:=A)).symm.trans (um A ?_))
 have h1:(B++((U++R)++L)).Perm (U++(R++(B++L))):=by
  rw[<-dg U R]
  exact we _ _ _
 refine(h1.cons x).trans ?_
 rw[dg]
 exact D0.symm
theorem ahX{us:List iW}{u:List (List Int)}(h:mO us=u):mO (us++[cD])=u++[[]]:=by grind[mO,cD]
theorem Mt(l:List dK):∀u∈l.flatMap kg,u.oneCell'=true:=by grind[xX]
theorem ac2{an:List oJ}{aT:List Int}{k:Int}{l:List dK}{t:ix}(h:vO an aT k l t=true):∀v∈dw l,0<=v/\v<aT.length:=by grind[rO,vO,EI,ofB]
theorem U1(l:List dK):(dw l).Nodup:=(Mi l).imp fun h=>by omega
theorem CY:∀{l:List Int} {u:List (List Int)},(l.foldl uY u).length=u.length
 |[],u=>rfl
 |v::l,u=>by rw[r5,CY];simp[uY]
theorem PE:∀{l:List Int} {u:List (List Int)} {k:Nat},l.Nodup->(∀v∈l,0<=v/\v<u.length)->(l.foldl uY u).getD k []=if(k:Int)∈l then(u.getD k []).dropLast else u.getD k []
 |[],u,k,_,_=>by simp
 |v::l,u,k,hn,hl=>by
  obtain⟨n1,n2⟩:=mZ.1 hn
  have h0:=hl v az
  rw[r5,PE n2 fun x hx=>by have:=hl x (fw _ hx);simp only[uY,mM];exact this]
  have e0:(uY u v).getD k []=if v.toNat=k then(u.getD k []).dropLast else u.getD k []:=by
   unfold uY
   rw[eE,uq]
   by_cases c:v.toNat=k
   .rw[aQ c,aQ J,aQ c,c];rfl
   rw[aP c,aP c,<-eE]
  rw[e0]
  by_cases c:v.toNat=k
  .have e:(k:Int)=v:=J
   rw[aQ c,e,aP n1,aQ az]
  have e:¬(k:Int)=v:=J
  rw[aP c]
  simp only[cZ,e,false_or]
theorem ahY{i:Int}{l:List Int}{u:List (List Int)}(hn:l.Nodup)(hl:∀v∈l,0<=v/\v<u.length):l.foldl uY (l.foldl (EJ i) u)=u:=by
 apply sY
 intro k
 by_cases c:k<u.length
 .have h1:=PE (k:=k) (u:=l.foldl (EJ i) u) hn fun v hv=>by rw[oW];exact hl v hv
  rw[BV hn hl]at h1
  have lk:k<(l.foldl uY (l.foldl (EJ i) u)).length:=by rw[CY,oW];exact c
  rw[getD_eq lk,getD_eq c]at h1
  rw[ef lk,ef c,h1]
  by_cases q:(k:Int)∈l
  .rw[aQ q,aQ q,List.dropLast_concat]
  rw[aP q,aP q,kV]
 rw[mX (by rw[CY,oW];omega),mX J]
theorem ahZ{f:Value}{s:NP}{q:de}(hn:q.vars.Nodup)(hl:∀v∈q.vars,0<=v/\v<s.us.length):gh [(f,.add s.qs.length q)] s (AB s q):=by
 refine gh.one ?_ ⟨by simp[AB],hn,fun v hv=> ?_⟩
 .simp only[sL,AB]
  rw[uv,ahY hn hl]
 have h0:=hl v hv
 refine⟨h0.1,by simp only[AB];rw[oW];exact h0.2,?_⟩
 simp only[AB]
 rw[BV hn hl,aQ (by rw[fN h0.1];exact hv)]
 simp
theorem amK{i:Int}{l:List Int}{u:List (List Int)}{k b:Nat}(hn:l.Nodup)(hl:∀v∈l,0<=v/\v<u.length)(h:(u.getD k []).length<=b):((l.foldl (EJ i) u).getD k []).length<=b+1:=by grind[BV]
theorem Hp.aEx{w0 w:World}{A B U Q R L:List a8}(h:Hp w0 w (A++(B++(U++(Q++(R++L)))))):Hp w0 w (A++(U++(R++(B++(Q++L))))):=by
 refine h.perm (um A ?_)
 refine(we B U _).trans (um U ?_)
 rw[<-dg,<-dg B Q L]
 exact we _ _ _
structure lZ(S:Sys)(Q:Nat->sH)(y:Nat->BitVec 64)(N:Nat)(M:Qm)(v:Va)(ws:Nat->BitVec 64)(rep:Nat->Nat)(P:Nat->Prop):Prop where
 ok:∀i,i<N->tQ S (Q i)/\M (y i) (Q i)
 all:∀a q,M a q->∃i,i<N/\q=Q i
 mok:acS M
 low:BN S (fun q=>∃i,i<N/\q=Q i) v
 why:EE S M v ws
 ring:∀i k,i<S.n->k<S.n->rep i=rep k->S.sh i=S.sh k/\qL (v i) (v k)/\ws i=ws k/\pO S (M (ws i)) fun j=>j<S.n/\rep j=rep i
 hold:∀i,i<N->¬P i->eW (Q i) v
section
variable{S:Sys}{Q:Nat->sH}{y:Nat->BitVec 64}{N:Nat}{M:Qm}{v:Va}{ws:Nat->BitVec 64}{rep:Nat->Nat}{P P':Nat->Prop}{i k:Nat}{W:BitVec 64}
theorem pO.more{Q Q':sH->Prop}{C:Nat->Prop}(h:pO S Q C)(hq:∀q,Q q->Q' q):pO S Q' C:=fun u hu=>h u (hu.less hq)
theorem lZ.ah0(h:lZ S Q y N M v ws rep P)(hp:∀i,i<N->P i->P' i):lZ S Q y N M v ws rep P':=⟨h.ok,h.all,h.mok,h.low,h.why,h.ring,fun i hi hn=>h.hold i hi fun q=>hn (hp i hi q)⟩
theorem lZ.look(h:lZ S Q y N M v ws rep P)(hh:eW (Q i) v):lZ S Q y N M v ws rep fun j=>P j/\j≠i:=⟨h.ok,h.all,h.mok,h.low,h.why,h.ring,fun j hj hn=>by
 by_cases e:j=i
 .subst e;exact hh
 exact h.hold j hj fun q=>hn ⟨q,e⟩⟩
theorem lZ.raise(h:lZ S Q y N M v ws rep P)(hi:i<N)(hk:(Q i).to=some k)(hW1:dV (ws k) W=true)(hW2:dV (N9 (y i) ws (Q i).vars) W=true)
  (hP:∀j,j<N->j≠i->P j->P' j) (hU:∀j,j<N->∀x,x∈(Q j).vars->rep x=rep k->¬qL (v x) (fC (Q i).sh (v k) ((Q i).ev v))->P' j):
  lZ S Q y N M (qy v (fun j=>j<S.n/\rep j=rep k) (fC (Q i).sh (v k) ((Q i).ev v))) (EF ws (fun j=>j<S.n/\rep j=rep k) W) rep P':=by
 obtain⟨ho,hy⟩:=h.ok i hi
 obtain⟨k1,k2⟩:=ho.to k hk
 have hmem:(fun q=>∃i,i<N/\q=Q i) (Q i):=⟨i,hi,rfl⟩
 have hr:=h.ring k k k1 k1 O
 have hl:=h.low.lub hmem ho hk
 have hRQ:pO S (fun q=>∃i,i<N/\q=Q i) fun j=>j<S.n/\rep j=rep k:=hr.2.2.2.more fun q hq=>h.all _ q hq
 have hsh:∀j,(j<S.n/\rep j=rep k)->S.sh j=S.sh k:=fun j hj=>(h.ring j k hj.1 k1 hj.2).1
 have acO:=h.low.ring hRQ (fun j hj=>hj.1) (k:=k) ⟨k1,rfl⟩ hsh hl.1 hl.2
 have aso:=h.why.raise h.mok h.low.fit ho hk hy hr.2.2.2 ⟨k1,rfl⟩ hW1 hW2
 have hup:∀j,j<S.n->cR (v j) (qy v (fun j=>j<S.n/\rep j=rep k) (fC (Q i).sh (v k) ((Q i).ev v)) j)=true:=fun j hj=>by
  unfold qy
  by_cases c:j<S.n/\rep j=rep k
  .rw[aQ c]
   have e:=(h.ring j k hj k1 c.2).2.1
   have fk:=h.low.fit k k1
   rw[k2]at fk
   exact eX (kM e) (XO fk (ho.fit v h.low.fit)).1
  rw[aP c];exact jJ _
 refine⟨h.ok,h.all,h.mok,acO,aso,fun a b ha hb hab=> ?_,fun j hj hn=> ?_⟩
 .have hra:=h.ring a b ha hb hab
  unfold qy EF
  by_cases c:a<S.n/\rep a=rep k
  .have c2:b<S.n/\rep b=rep k:=⟨hb,hab▸c.2⟩
   rw[aQ c,aQ c2,aQ c,aQ c2]
   refine⟨hra.1,fun _ _=>rfl,rfl,?_⟩
   have e:(fun j=>j<S.n/\rep j=rep a)=fun j=>j<S.n/\rep j=rep k:=by rw[c.2]
   rw[e]
   exact hr.2.2.2.more fun q hq=>h.mok _ _ _ hW1 hq
  have c2:¬(b<S.n/\rep b=rep k):=fun q=>c ⟨ha,hab.trans q.2⟩
  rw[aP c,aP c2,aP c,aP c2]
  exact hra
 have oj:=(h.ok j hj).1
 have hs:∀x,x∈(Q j).vars->cR (qy v (fun j=>j<S.n/\rep j=rep k) (fC (Q i).sh (v k) ((Q i).ev v)) x) (v x)=true:=fun x hx=>by
  unfold qy
  by_cases c:x<S.n/\rep x=rep k
  .rw[aQ c]
   by_cases e:qL (v x) (fC (Q i).sh (v k) ((Q i).ev v))
   .exact kM fun q hq=>(e q hq).symm
   exact absurd (hU j hj x hx c.2 e) hn
  rw[aP c];exact jJ _
 have hev:cR ((Q j).ev (qy v (fun j=>j<S.n/\rep j=rep k) (fC (Q i).sh (v k) ((Q i).ev v)))) ((Q j).ev v)=true:=oj.Pu _ _ acO.fit h.low.fit hs
 by_cases e:j=i
 .subst e
  unfold eW sH.rhs
  rw[hk]
  have ek:qy v (fun j=>j<S.n/\rep j=rep k) (fC (Q j).sh (v k) ((Q j).ev v)) k=fC (Q j).sh (v k) ((Q j).ev v):=aQ ⟨k1,rfl⟩
  show cR _ (qy v _ _ k)=true
  rw[ek]
  have fk:=h.low.fit k k1
  rw[k2]at fk
  exact eX hev (XO fk (ho.fit v h.low.fit)).2
 have hold:=h.hold j hj fun q=>hn (hP j hj e q)
 unfold eW sH.rhs at hold⊢
 cases ht:(Q j).to with
 |none=>rw[ht]at hold;exact eX hev hold
 |some x=>
  rw[ht]at hold
  exact eX hev (eX hold (hup x (oj.to x ht).1))
theorem lZ.merge{C:Nat->Prop}[DecidablePred C]{e:El}{U2:Nat->Nat}(h:lZ S Q y N M v ws rep P)(hC:∀j,C j->j<S.n/\dV (ws j) W=true)(hsh:∀a b,C a->C b->S.sh a=S.sh b)(hr:pO S (M W) C)(hk:C k)(he:cz (S.sh k) e=true)
  (hlo:∀u,tZ S (M W) u->cR e (u k)=true) (hup:∀j,C j->cR (v j) e=true) (h2:∀a b,a<S.n->b<S.n->U2 a=U2 b->C a/\C b\/¬C a/\¬C b/\rep a=rep b)
  (hP:∀j,j<N->P j->P' j) (hU:∀j,j<N->∀x,x∈(Q j).vars->C x->¬qL (v x) e->P' j):lZ S Q y N M (qy v C e) (EF ws C W) U2 P':=by
 have acO:=h.low.ring (hr.more fun q hq=>h.all _ q hq) (fun j hj=>(hC j hj).1) hk (fun j hj=>hsh j k hj hk) he fun u hu=>hlo u (hu.less fun q hq=>h.all _ q hq)
 have aso:EE S M (qy v C e) (EF ws C W):=h.why.ring h.mok hr hC fun u hu i hi=>eX (hlo u hu) (kM (hr u hu k i hk hi))
 have hle:∀j,cR (v j) (qy v C e j)=true:=fun j=>by
  unfold qy
  by_cases c:C j
  .rw[aQ c];exact hup j c
  rw[aP c];exact jJ _
 refine⟨h.ok,h.all,h.mok,acO,aso,fun a b ha hb hab=> ?_,fun j hj hn=> ?_⟩
 .unfold qy EF
  rcases h2 a b ha hb hab with⟨c1,c2⟩|⟨c1,c2,c3⟩
  .rw[aQ c1,aQ c2,aQ c1,aQ c2]
   refine⟨hsh a b c1 c2,fun _ _=>rfl,rfl,fun u hu i j hi hj=> ?_⟩
   have ci:C i:=(h2 i a hi.1 ha hi.2).elim (fun q=>q.1) fun q=>absurd c1 q.2.1
   have cj:C j:=(h2 j a hj.1 ha hj.2).elim (fun q=>q.1) fun q=>absurd c1 q.2.1
   exact hr u hu i j ci cj
  rw[aP c1,aP c2,aP c1,aP c2]
  obtain⟨r1,r2,r3,r4⟩:=h.ring a b ha hb c3
  refine⟨r1,r2,r3,fun u hu i j hi hj=> ?_⟩
  have ci:rep i=rep a:=(h2 i a hi.1 ha hi.2).elim (fun q=>absurd q.2 c1) fun q=>q.2.2
  have cj:rep j=rep a:=(h2 j a hj.1 ha hj.2).elim (fun q=>absurd q.2 c1) fun q=>q.2.2
  exact r4 u hu i j ⟨hi.1,ci⟩ ⟨hj.1,cj⟩
 have oj:=(h.ok j hj).1
 have hs:∀x,x∈(Q j).vars->cR (qy v C e x) (v x)=true:=fun x hx=>by
  unfold qy
  by_cases c:C x
  .rw[aQ c]
   by_cases q:qL (v x) e
   .exact kM fun i hi=>(q i hi).symm
   exact absurd (hU j hj x hx c q) hn
  rw[aP c];exact jJ _
 have hev:=oj.Pu _ _ acO.fit h.low.fit hs
 have hold:=h.hold j hj fun q=>hn (hP j hj q)
 unfold eW sH.rhs at hold⊢
 cases ht:(Q j).to with
 |none=>rw[ht]at hold;exact eX hev hold
 |some x=>rw[ht]at hold;exact eX hev (eX hold (hle x))
theorem lZ.more(h:lZ S Q y N M v ws rep P){M':Qm}(ho:tQ S (Q N))(hy:M' (y N) (Q N))(hM:acS M')(h1:∀a q,M a q->M' a q)(h2:∀a q,M' a q->∃i,i<N+1/\q=Q i)(hs:EE S M v ws)(hN:P' N)(hp:∀i,i<N->P i->P' i):lZ S Q y (N+1) M' v ws rep P':=by
 refine⟨fun i hi=> ?_,h2,hM,h.low.more fun q ⟨i,hi,e⟩=>⟨i,J,e⟩,fun k hk u hu=>hs k hk u (hu.less fun q hq=>h1 _ q hq),fun i k hi hk e=> ?_,fun i hi hn=> ?_⟩
 .by_cases e:i=N
  .subst e;exact⟨ho,hy⟩
  exact⟨(h.ok i J).1,h1 _ _ (h.ok i J).2⟩
 .obtain⟨a,b,c,d⟩:=h.ring i k hi hk e
  exact⟨a,b,c,d.more fun q hq=>h1 _ q hq⟩
 by_cases e:i=N
 .subst e;exact absurd hN hn
 exact h.hold i J fun q=>hn (hp i J q)
theorem lZ.start(hM:∀a q,¬M a q)(hs:∀i,i<S.n->qY (S.sh i)=true)(hv:∀i,i<S.n->v i=gZ (S.sh i) eU):lZ S Q y 0 M v ws id P:=
 ⟨fun i hi=>J,fun a q h=>absurd h (hM a q),fun a b q _ h=>absurd h (hM a q),aaE hs hv,fun k hk u hu=>by rw[hv k hk];exact(OW (hs k hk)).2 _ (hu.fit k hk),
  fun i k hi hk e=>by have:i=k:=e;subst this;exact⟨rfl,fun _ _=>rfl,rfl,fun u hu a b ha hb=>by have e1:a=i:=ha.2;have e2:b=i:=hb.2;rw[e1,e2];exact fun _ _=>rfl⟩,fun i hi=>J⟩
theorem lZ.done(h:lZ S Q y N M v ws rep fun _=>False):rN S (fun q=>∃i,i<N/\q=Q i) v/\∀i,i<N->eW (Q i) v:=
 ⟨⟨h.low,fun q ⟨i,hi,e⟩ _=>e▸h.hold i hi id⟩,fun i hi=>h.hold i hi id⟩
theorem lZ.stuck(h:lZ S Q y N M v ws rep P)(hi:i<N)(hk:(Q i).to=none)(hf:¬eW (Q i) v):(∀u,tZ S (fun q=>∃i,i<N/\q=Q i) u->¬eW (Q i) u)/\∀u,tZ S (M (N9 (y i) ws (Q i).vars)) u->¬eW (Q i) u:=
 ⟨h.low.aw7 (h.ok i hi).1 hk hf,h.why.stuck h.mok h.low.fit (h.ok i hi).1 hk hf⟩
end
theorem amL{E:Nat->Nat->Prop}{u:Va}{a b:Nat}(hE:∀x y,E x y->cR (u x) (u y)=true)(h:jG E a b):cR (u a) (u b)=true:=by
 induction h with
 |refl=>exact jJ _
 |step _ e ih=>exact eX ih (hE _ _ e)
section
variable{S:Sys}{Q:sH->Prop}
structure EK(S:Sys)(q:sH)(x y:Nat):Prop where
 to:q.to=some y
 ev:∀u,py S u->qL (q.ev u) (u x)
theorem ah1{C:Nat->Prop}(h:∀i k,C i->C k->jG (fun a b=>(∃q,Q q/\EK S q a b)\/∃D,D a/\D b/\pO S Q D) i k):pO S Q C:=pO.of fun u hu i k hi hk=>amL (fun x y e=>by
 rcases e with⟨q,hq,hp⟩|⟨D,hx,hy,hD⟩
 .have h1:=hu.hold q hq (by rw[hp.to];simp)
  unfold eW sH.rhs at h1
  rw[hp.to]at h1
  exact eX (kM fun i hi=>(hp.ev u hu.fit i hi).symm) h1
 exact kM (hD u hu x y hx hy)) (h i k hi hk)
theorem Yz{q:sH}{x y:Nat}{v:Va}(hp:EK S q x y)(hv:py S v)(he:qL (v x) (v y)):eW q v:=by
 unfold eW sH.rhs
 rw[hp.to]
 exact eX (kM (hp.ev v hv)) (kM he)
theorem Mu{sh:Sh}{n:Nat}{x:dK}{to:ix}(h1:x.op=1)(h0:0<=x.n/\x.n<n)(h2:0<=to.var):EK S (BO n sh [x] to) x.n.toNat to.var.toNat:=by
 refine⟨by unfold BO;simp;omega,fun u hu=> ?_⟩
 have hr:fX [x]=true:=by
  unfold fX jh
  simp[wz,h1]
 have hs:ic sh ((List.range n).map u) [x] (([x]:List dK).length:Nat)=some ([]++[((List.range n).map u).getD x.n.toNat dy]):=
  alS (s:=sh) (v:=(List.range n).map u) (l:=[x]) (st:=[]) (k:=0) J az O h1 ⟨h0.1,by simpa using h0.2⟩
 show qL (fP sh [x] ((List.range n).map u)).1 (u x.n.toNat)
 rw[Rq hr (k:=(([x]:List dK).length:Nat)) J J hs]
 simp only[er,List.getD_cons_zero]
 rw[pP J]
 exact fun _ _=>rfl
end
def j7(an:List oJ)(aT:List Int)(n:Nat):Sys:=⟨n,fun i=>(an.getD (aT.getD i 0).toNat oK).p.sh⟩
def ya(an:List oJ)(q:de):Sh:=(an.getD q.aT.toNat oK).p.sh
def sM(an:List oJ)(n:Nat)(q:de):sH:=BO n (ya an q) q.code q.to
def vQ(ai:List El):Va:=fun i=>ai.getD i dy
def wQ(ws:List (BitVec 64)):Nat->BitVec 64:=fun i=>ws.getD i 0
def NW(an:List oJ)(n:Nat)(qs:List de):Qm:=fun a q=>∃i,i<qs.length/\q=sM an n (qs.getD i cQ)/\dV (qs.getD i cQ).why a=true
def U3(an:List oJ)(aT:List Int)(n:Nat)(qs:List de):Prop:=∀q∈qs,Yo (j7 an aT n) (ya an q) q.code q.to/\q.vars=dw q.code
def xo(qs:List de)(k:Nat):List Int:=((List.range qs.length).filter fun i=>decide ((k:Int)∈(qs.getD i cQ).vars)).map fun i:Nat=>(i:Int)
abbrev RT(an:List oJ)(n:Nat)(qs:List de):Nat->Nat:=UH (qs.map (sM an n))
def muN(an:List oJ)(aT:List Int)(n:Nat)(qs:List de)(c:x9):Nat:=c.wl.length+(oC (j7 an aT n) (RT an n qs) (vQ c.ai) n).toNat
section
variable{S:Sys}{v:Va}{e:El}{C D:Nat->Prop}
theorem Mv[DecidablePred C][DecidablePred D](h:∀i,C i↔D i):qy v C e=qy v D e:=by grind[qy]
theorem Mw{ws:Nat->BitVec 64}{W:BitVec 64}[DecidablePred C][DecidablePred D](h:∀i,C i↔D i):EF ws C W=EF ws D W:=by grind[EF]
theorem asp{ai:List El}{k:Nat}(h:k<ai.length):vQ (ai.set k e)=FH (vQ ai) k e:=by grind[vQ,FH]
theorem ah2{ai:List El}{ks:List Int}(h:∀k∈ks,0<=k/\k<ai.length):vQ (fY ai ks e)=qy (vQ ai) (fun i=>(i:Int)∈ks) e:=by
 funext i;show(fY ai ks e).getD i dy=if(i:Int)∈ks then e else ai.getD i dy
 by_cases c:i<ai.length
 .exact rM c fun k hk=>(h k hk).1
 rw[eE,mX (by rw[iK];omega),aP fun q=>by have:=h _ q;omega,eE,mX J]
theorem ah3{ws:List (BitVec 64)}{W:BitVec 64}{ks:List Int}(h:∀k∈ks,0<=k/\k<ws.length):wQ (fY ws ks W)=EF (wQ ws) (fun i=>(i:Int)∈ks) W:=by grind[wQ,fY,EF,rM,iK]
theorem ah4{ai:List El}{n:Nat}(h:ai.length=n):(List.range n).map (vQ ai)=ai:=by
 apply sY
 intro i
 rw[p5]
 by_cases c:i<n
 .rw[yA c,p7,ef J]
  unfold vQ;rw[getD_eq J]
 rw[mX KI,mX J];rfl
theorem ah5{p:List Int×List Bool}{i j:Int}(h:j∈p.1):j∈(oD p i).1:=by grind[oD]
theorem FN:∀{l:List Int} {p:List Int×List Bool} {j:Int},j∈p.1->j∈(qP p l).1
 |[],p,j,h=>h
 |i::l,p,j,h=>FN (l:=l) (p:=oD p i) (ah5 h)
theorem RU:∀{l:List Int} {wl:List Int} {wi:List Bool} {j:Int},ud wl wi->(∀i∈l,0<=i/\i<wi.length)->j∈l->j∈(qP (wl,wi) l).1
 |i::l,wl,wi,j,h,hl,hj=>by
  show j∈(qP (oD (wl,wi) i) l).1
  by_cases e:j=i
  .subst e
   refine FN ?_
   unfold oD
   by_cases c:wi.getD j.toNat false=true
   .rw[aQ c];exact(h.mem j).2 ⟨hl j az,c⟩
   rw[aP c];simp
  exact RU (wl:=(oD (wl,wi) i).1) (wi:=(oD (wl,wi) i).2) (h.put (hl i az)) (fun k hk=>by rw[Mn];exact hl k (fw _ hk)) ((cZ.1 hj).resolve_left e)
theorem ah6{ai:List El}{us:List iW}{p:List Int×List Bool}{k j:Int}(h:j∈p.1):j∈(lG ai us p k e).1:=by grind[lG,FN]
theorem JW{us:List iW}:∀{ks:List Int} {ai:List El} {p:List Int×List Bool} {j:Int},j∈p.1->j∈(xn ai us p ks e).2.1
 |[],ai,p,j,h=>h
 |k::ks,ai,p,j,h=>JW (ks:=ks) (ai:=ai.set k.toNat e) (p:=lG ai us p k e) (ah6 h)
theorem YA{us:List iW}{b:Nat}(hu:∀k:Nat,k<us.length->∀i∈(us.getD k cD).l,0<=i/\i<(b:Int)){k:Nat}{j:Int}(hj:j∈(us.getD k cD).l):∀{ks:List Int} {ai:List El} {wl:List Int} {wi:List Bool},ud wl wi->wi.length=b->(∀k∈ks,0<=k/\k<us.length)->ai.length=us.length->(k:Int)∈ks->¬qL (ai.getD k dy) e->j∈(xn ai us (wl,wi) ks e).2.1
 |a::ks,ai,wl,wi,h,hb,hk,hv,hm,hne=>by
  have ha:=hk a az
  show j∈(xn (ai.set a.toNat e) us (lG ai us (wl,wi) a e) ks e).2.1
  by_cases q:(k:Int)=a
  .refine JW ?_
   unfold lG
   rw[<-q,dN,aP hne]
   exact RU h (fun i hi=>by have:=hu k J i hi;omega) hj
  have h1:ud (lG ai us (wl,wi) a e).1 (lG ai us (wl,wi) a e).2:=by
   unfold lG;split
   .exact h
   exact h.qP fun i hi=>by have:=hu a.toNat J i hi;omega
  refine YA hu hj (ks:=ks) (ai:=ai.set a.toNat e) (wl:=(lG ai us (wl,wi) a e).1) (wi:=(lG ai us (wl,wi) a e).2) h1 (Mo.trans hb) (fun x hx=>hk x (fw _ hx)) (by simpa using hv) ((cZ.1 hm).resolve_left q) ?_
  rw[eE,uq,aP J,<-eE];exact hne
theorem ah7{us:List iW}{U:Nat->Nat}(hU:∀k,k<S.n->(us.getD k cD).l.length<=U k):∀{ks:List Int} {ai:List El} {p:List Int×List Bool},ai.length=S.n->py S (vQ ai)->
  (∀k∈ks,(0<=k/\k<S.n)/\cz (S.sh k.toNat) e=true/\cR (ai.getD k.toNat dy) e=true)->((xn ai us p ks e).2.1.length:Int)+oC S U (vQ (xn ai us p ks e).1) S.n<=p.1.length+oC S U (vQ ai) S.n
 |[],ai,p,_,_,_=>lm _
 |k::ks,ai,p,hl,hv,hk=>by
  obtain⟨k1,k2,k3⟩:=hk k az
  have es:=asp (e:=e) (ai:=ai) (k:=k.toNat) J
  have fv:py S (vQ (ai.set k.toNat e)):=by
   rw[es];intro i hi;unfold FH
   by_cases c:i=k.toNat
   .rw[aQ c,c];exact k2
   rw[aP c];exact hv i hi
  have ih:=ah7 hU (ks:=ks) (ai:=ai.set k.toNat e) (p:=lG ai us p k e) (by simpa using hl) fv fun x hx=>by
   obtain⟨a,b,c⟩:=hk x (fw _ hx)
   refine⟨a,b,?_⟩
   rw[eE,uq]
   by_cases q:k.toNat=x.toNat
   .rw[aQ q,aQ J];exact jJ _
   rw[aP q,<-eE];exact c
  show((xn (ai.set k.toNat e) us (lG ai us p k e) ks e).2.1.length:Int)+oC S U (vQ (xn (ai.set k.toNat e) us (lG ai us p k e) ks e).1) S.n<=_
  refine Kt ih ?_
  rw[es]
  unfold lG
  have hkn:k.toNat<S.n:=J
  by_cases c:qL (ai.getD k.toNat dy) e
  .rw[aQ c,RK,aQ hkn]
   have h8:(S.sh k.toNat).aY.length<=8:=by
    have:qY (S.sh k.toNat)=true:=by
     have:=k2;unfold cz at this;simp only[cH]at this;exact this.1
    exact(yV this).1.2
   have:mv (S.sh k.toNat) (vQ ai k.toNat)=mv (S.sh k.toNat) e:=TV h8 c
   rw[this];omega
  rw[aP c]
  have h1:=Pv (U:=U) hv hkn k2 (show cR (vQ ai k.toNat) e=true from k3) (fun q=>c (agG q))
  have h2:=FJ (l:=(us.getD k.toNat cD).l) (p:=p)
  have h3:=hU k.toNat hkn
  omega
end
theorem RV(ws:List (BitVec 64)):∀(l:List Int) (y:BitVec 64),orW y ws l=N9 y (wQ ws) (l.map Int.toNat)
 |[],y=>rfl
 |a::l,y=>RV ws l (y|||ws.getD a.toNat 0)
structure Oa(us:List iW)(qs:List de)(n:Nat):Prop where
 len:us.length=n
 is:∀k,k<n->(us.getD k cD).l=xo qs k
theorem BW{qs:List de}{k:Nat}{i:Int}:i∈xo qs k↔(0<=i/\i<qs.length)/\(k:Int)∈(qs.getD i.toNat cQ).vars:=by grind[xo]
theorem ah8{k:Nat}:∀{l:List Nat},k∈l->1<=RN k l
 |a::l,h=>by
  unfold RN
  rcases cZ.1 h with e|h
  .rw[aQ e];omega
  have:=ah8 h;omega
theorem ah9{an:List oJ}{n:Nat}{qs:List de}(hv:∀q∈qs,q.vars=dw q.code)(k:Nat):(xo qs k).length<=RT an n qs k:=by
 have key:∀(qs:List de),(∀q∈qs,q.vars=dw q.code)->(qs.filter fun q=>decide ((k:Int)∈q.vars)).length<=RT an n qs k:=by
  intro qs
  induction qs with
  |nil=>intro _;exact eG _
  |cons q qs ih=>
   intro h
   have h1:=ih fun p hp=>h p (fw _ hp)
   show _<=RN k (sM an n q).vars+RT an n qs k
   rw[A9]
   split
   .rename_i c
    have:k∈(sM an n q).vars:=by
     refine fU.2 ⟨(k:Int),?_,dN k⟩
     have:=h q az
     rw[<-this];simpa using c
    have:=ah8 this
    rw[eO];omega
   omega
 have e:(xo qs k).length=(qs.filter fun q=>decide ((k:Int)∈q.vars)).length:=by
  unfold xo
  rw[gj]
  have aEy:∀(l:List Nat) (m:List de),l.map (fun i=>qs.getD i cQ)=m->(l.filter fun i=>decide ((k:Int)∈(qs.getD i cQ).vars)).length=(m.filter fun q=>decide ((k:Int)∈q.vars)).length:=fun l m h=>by
   subst h
   rw[List.filter_map,gj];rfl
  refine aEy _ _ ?_
  apply sY
  intro i
  rw[p5]
  by_cases c:i<qs.length
  .rw[yA c,p7,getD_eq c,ef c]
  rw[mX KI,mX J];rfl
 rw[e];exact key qs hv
def AE(cl:List Nat):Prop:=∀i,i<cl.length->cg cl i<=i/\cg cl (cg cl i)=cg cl i
structure YB(an:List oJ)(aT:List Int)(qs:List de)(rep:Nat->Nat)(n:Nat)(X:Nat->Prop)(c:x9):Prop where
 ck:PB qs.length n n c
 si:lZ (j7 an aT n) (fun i=>sM an n (qs.getD i cQ)) (fun i=>(qs.getD i cQ).why) qs.length (NW an n qs) (vQ c.ai) (wQ c.aX) rep fun i=>(i:Int)∈c.wl\/X i
section
variable{us:List iW}{an:List oJ}{aT:List Int}{qs:List de}{cl:List Nat}{n:Nat}{ai:List El}{aX:List (BitVec 64)}{wl:List Int}{wi:List Bool}{x:Int}{wy:BitVec 64}{q:de}{rep:Nat->Nat}{X:Nat->Prop}{c:x9}
theorem Oa.hu(h:Oa us qs n):∀k:Nat,k<us.length->∀i∈(us.getD k cD).l,0<=i/\i<(qs.length:Int):=by grind[Oa,cD,BW]
theorem ao0(hl:ai.length=n):(sM an n q).ev (vQ ai)=lkE (ya an q) q ai:=by
 show(fP _ _ ((List.range n).map (vQ ai))).1=_
 rw[ah4 hl];rfl
theorem asq:(sM an n q).rhs (vQ ai)=if q.to.var<0 then q.to.c else ai.getD q.to.var.toNat dy:=by grind[sH.rhs,sM,BO,vQ]
theorem ao1:(sM an n q).to=if q.to.var<0 then none else some q.to.var.toNat:=rfl
theorem RW(hl:ai.length=n):eW (sM an n q) (vQ ai)↔cR (lkE (ya an q) q ai) (if q.to.var<0 then q.to.c else ai.getD q.to.var.toNat dy)=true:=by
 unfold eW;rw[ao0 hl,asq]
theorem FO(hp:Eb q=true):∃y,q.code=[y]/\y.op=1/\0<=q.to.var:=by
 simp only[Eb,cH,ep]at hp
 obtain⟨⟨h1,h2⟩,h3⟩:=hp
 match hc:q.code,h1 with
 |[y],_=>rw[hc]at h2;exact⟨y,rfl,h2,h3⟩
theorem Dw(hf:Yo (j7 an aT n) (ya an q) q.code q.to)(hv:q.vars=dw q.code)(hp:Eb q=true):(0<=xG q/\xG q<n)/\(0<=q.to.var/\q.to.var<n)/\EK (j7 an aT n) (sM an n q) (xG q).toNat q.to.var.toNat/\(j7 an aT n).sh (xG q).toNat=(j7 an aT n).sh q.to.var.toNat:=by
 obtain⟨y,hy,ho,h0⟩:=FO hp
 have h1:=hf.var y (by rw[hy];simp) ho
 have h2:=hf.to1 h0
 have hn:(j7 an aT n).n=n:=rfl
 have e:xG q=y.n:=by unfold xG;rw[hv,hy];unfold dw;simp[ho,h1.1,sI]
 rw[e]
 refine⟨⟨h1.1,J⟩,⟨h0,J⟩,?_,by rw[h1.2.2,h2.2]⟩
 unfold sM
 rw[hy]
 exact Mu ho ⟨h1.1,J⟩ h0
theorem FP(hv:q.vars=dw q.code):(sM an n q).vars=q.vars.map Int.toNat:=by rw[hv];rfl
theorem YB.look(hq:U3 an aT n qs)(hu:Oa us qs n)(ni:cl.length=n)(h:YB an aT qs (cg cl) n (fun _=>False) ⟨ai,aX,x::wl,wi⟩){r:LkO}(hr:mP cl us (ya an (qs.getD x.toNat cQ)) (qs.getD x.toNat cQ) ai aX wl (wi.set x.toNat false) wy=r)(hok:r.ok=true):
  YB an aT qs (cg cl) n (fun _=>False) ⟨r.ai,r.aX,r.wl,r.wi⟩/\muN an aT n qs ⟨r.ai,r.aX,r.wl,r.wi⟩<muN an aT n qs ⟨ai,aX,x::wl,wi⟩:=by
 have hn:(j7 an aT n).n=n:=rfl
 obtain⟨hx,ck⟩:=h.ck.take
 have ckr:=ahN (cl:=cl) (us:=us) (sh:=ya an (qs.getD x.toNat cQ)) (q:=qs.getD x.toNat cQ) (wy:=wy) hu.hu (by rw[ni,hu.len]) ck
 rw[hr]at ckr
 have XQ:x.toNat<qs.length:=J
 have hm:=dc (d:=cQ) hx.1 hx.2
 obtain⟨hf,hvs⟩:=hq _ hm
 generalize hqq:qs.getD x.toNat cQ=q at*
 have lv:ai.length=n:=h.ck.lv
 have ly:aX.length=n:=h.ck.ly
 have nd:=mZ.1 h.ck.wq.nd
 have hsi:=h.si
 simp only at hsi
 have yes:eW (sM an n q) (vQ ai)->lZ (j7 an aT n) (fun i=>sM an n (qs.getD i cQ)) (fun i=>(qs.getD i cQ).why) qs.length (NW an n qs) (vQ ai) (wQ aX) (cg cl) (fun i=>(i:Int)∈wl\/False)/\muN an aT n qs ⟨ai,aX,wl,wi.set x.toNat false⟩<muN an aT n qs ⟨ai,aX,x::wl,wi⟩:=fun hh=>by
  have h1:=hsi.look (i:=x.toNat) (by show eW (sM an n (qs.getD x.toNat cQ)) _;rw[hqq];exact hh)
  refine⟨h1.ah0 fun i hi ⟨hp,hne⟩=> ?_,?_⟩
  .rcases hp with hp|hp
   .rcases cZ.1 hp with e|e
    .exact absurd J hne
    exact .inl e
   exact hp.elim
  unfold muN;simp only[eO];omega
 unfold mP at hr
 by_cases c1:skQ cl q=true
 .rw[aQ c1]at hr;subst hr
  simp only[skQ,cH,ep]at c1
  obtain⟨p1,p2,p3,p4⟩:=Dw hf hvs c1.1
  have e:=c1.2
  rw[mw J,mw J]at e
  have:=(hsi.ring _ _ J J (Int.ofNat.inj e)).2.1
  have:=yes (Yz p3 hsi.low.fit this)
  exact⟨⟨ckr,this.1⟩,this.2⟩
 rw[aP c1]at hr
 by_cases c2:q.to.var<0
 .rw[aQ c2]at hr
  by_cases c3:cR (lkE (ya an q) q ai) q.to.c=true
  .rw[aQ c3]at hr;subst hr
   have:=yes ((RW lv).2 (by rw[aQ c2];exact c3))
   exact⟨⟨ckr,this.1⟩,this.2⟩
  rw[aP c3]at hr;subst hr;cases hok
 rw[aP c2]at hr
 by_cases c3:cR (lkE (ya an q) q ai) (ai.getD q.to.var.toNat dy)=true
 .rw[aQ c3]at hr;subst hr
  have:=yes ((RW lv).2 (by rw[aP c2];exact c3))
  exact⟨⟨ckr,this.1⟩,this.2⟩
 rw[aP c3]at hr;subst hr
 have hto:=hf.to1 J
 have hk:(sM an n q).to=some q.to.var.toNat:=by rw[ao1,aP c2]
 have kn:q.to.var.toNat<n:=J
 have hks:∀k∈bK cl q.to.var,0<=k/\k<(n:Int):=fun k hk=>by have:=lY hk;omega
 have hCi:∀i:Nat,(i:Int)∈bK cl q.to.var↔i<n/\cg cl i=cg cl q.to.var.toNat:=fun i=>by
  rw[HI,dN]
  exact⟨fun⟨a,b,c,d⟩=>⟨J,d⟩,fun⟨a,b⟩=>⟨J,J,J,b⟩⟩
 have eJ:fC (sM an n q).sh (vQ ai q.to.var.toNat) ((sM an n q).ev (vQ ai))=lkJ (ya an q) q ai:=by rw[ao0 lv];rfl
 have hq2:sM an n (qs.getD x.toNat cQ)=sM an n q:=by rw[hqq]
 have h1:=hsi.raise (i:=x.toNat) (k:=q.to.var.toNat) (W:=aX.getD q.to.var.toNat 0|||orW q.why aX q.vars) (P':=fun i=>(i:Int)∈(xn ai us (wl,wi.set x.toNat false) (bK cl q.to.var) (lkJ (ya an q) q ai)).2.1\/False) XQ (by show(sM an n (qs.getD x.toNat cQ)).to=_;rw[hqq];exact hk) (G2 _ _)
  (by show dV (N9 (qs.getD x.toNat cQ).why (wQ aX) (sM an n (qs.getD x.toNat cQ)).vars) _=true;rw[hqq,FP hvs,<-RV];exact Fm _ _)
  (fun j hj hne hp=>by
   rcases hp with hp|hp
   .rcases cZ.1 hp with e|e
    .exact absurd J hne
    exact .inl (JW e)
   exact hp.elim)
  (fun j hj y hy hr hne=>by
   simp only[hqq]at hy hne
   rw[eJ]at hne
   have hjm:=hq _ (dc (d:=cQ) (l:=qs) (k:=(j:Int)) J J)
   rw[dN]at hjm
   rw[FP hjm.2]at hy
   obtain⟨z,hz,rfl⟩:=fU.1 hy
   have hz0:0<=z/\z<n:=by
    have:=hz
    rw[hjm.2]at this
    obtain⟨a,ha,ho,h0,rfl⟩:=rO.1 this
    have:=hjm.1.var a ha ho
    omega
   refine .inl (YA hu.hu (k:=z.toNat) (j:=(j:Int)) ?_ ck.wq ck.li (fun k hk=>by have:=hks k hk;have:=hu.len;omega) (by rw[hu.len];exact lv) ?_ hne)
   .rw[hu.is _ J]
    refine BW.2 ⟨J,?_⟩
    rw[dN,fN hz0.1];exact hz
   exact(hCi _).2 ⟨J,hr⟩)
 simp only[hqq]at h1
 rw[eJ]at h1
 have e1:vQ (lkR cl us (ya an q) q ai aX wl (wi.set x.toNat false) wy).ai=qy (vQ ai) (fun i=>i<n/\cg cl i=cg cl q.to.var.toNat) (lkJ (ya an q) q ai):=by
  unfold lkR;simp only[x7]
  rw[ah2 (by rw[lv];exact hks)]
  exact Mv hCi
 have e2:wQ (lkR cl us (ya an q) q ai aX wl (wi.set x.toNat false) wy).aX=EF (wQ aX) (fun i=>i<n/\cg cl i=cg cl q.to.var.toNat) (aX.getD q.to.var.toNat 0|||orW q.why aX q.vars):=by
  unfold lkR;simp only
  rw[ah3 (by rw[ly];exact hks)]
  exact Mw hCi
 refine⟨⟨ckr,?_⟩,?_⟩
 .simp only;rw[e1,e2];exact h1
 have fv:=hsi.low.fit
 have io:=(hsi.ok x.toNat XQ).1
 simp only[hqq]at io
 have fk:cz (ya an q) (vQ ai q.to.var.toNat)=true:=by rw[<-hto.2];exact fv _ J
 have fj:cz (ya an q) (lkJ (ya an q) q ai)=true:=by rw[<-eJ];exact Hq fk (io.fit _ fv)
 have up:cR (vQ ai q.to.var.toNat) (lkJ (ya an q) q ai)=true:=by rw[<-eJ];exact(XO fk (io.fit _ fv)).1
 have h2:=ah7 (S:=j7 an aT n) (us:=us) (U:=RT an n qs) (e:=lkJ (ya an q) q ai) (ks:=bK cl q.to.var) (ai:=ai) (p:=(wl,wi.set x.toNat false)) (fun k hk=>by rw[hu.is k hk];exact ah9 (fun q hq'=>(hq q hq').2) k) lv fv fun k hk=>by
  have hc:=lY hk
  have U4:=hsi.ring k.toNat q.to.var.toNat J J hc.2.2.2
  refine⟨by have:=hks k hk;omega,by rw[U4.1,hto.2];exact fj,eX (kM U4.2.1) up⟩
 have h3:=JU (U:=RT an n qs) fv n (eG _)
 have h4:0<=oC (j7 an aT n) (RT an n qs) (qy (vQ ai) (fun i=>i<n/\cg cl i=cg cl q.to.var.toNat) (lkJ (ya an q) q ai)) n:=JU (U:=RT an n qs) h1.low.fit n (eG _)
 rw[<-e1]at h4
 rw[hn]at h2
 unfold muN
 simp only[eO]
 have e3:(lkR cl us (ya an q) q ai aX wl (wi.set x.toNat false) wy).ai=(xn ai us (wl,wi.set x.toNat false) (bK cl q.to.var) (lkJ (ya an q) q ai)).1:=rfl
 have e4:(lkR cl us (ya an q) q ai aX wl (wi.set x.toNat false) wy).wl=(xn ai us (wl,wi.set x.toNat false) (bK cl q.to.var) (lkJ (ya an q) q ai)).2.1:=rfl
 rw[e3]at h4⊢
 rw[e4]
 simp only at h2
 omega
end
section
variable{cl:List Nat}{x y a b:Nat}
theorem amM:Hw x y a=Hw x y b↔a=b\/((a=x\/a=y)/\(b=x\/b=y)):=by grind[Hw,xf]
theorem AE.join(h:AE cl)(ha:a<cl.length)(hb:b<cl.length):AE (ig cl (cg cl a) (cg cl b)):=by grind[AE,ig,cg,HF,Hw,zc,kx,xf,kL]
theorem ac3{cs:List (List Nat)}{i j:Int}(hi:0<=i/\i<(bk cs).length)(hj:0<=j/\j<(bk cs).length)(ha:a<(bk cs).length)(hb:b<(bk cs).length):
 cg (bk (iT cs i j).1) a=cg (bk (iT cs i j).1) b↔cg (bk cs) a=cg (bk cs) b\/((cg (bk cs) a=cg (bk cs) i.toNat\/cg (bk cs) a=cg (bk cs) j.toNat)/\(cg (bk cs) b=cg (bk cs) i.toNat\/cg (bk cs) b=cg (bk cs) j.toNat)):=by grind[HE,bk,HG,cg,ig,zc,amM,Mb]
theorem aib{cs:List (List Nat)}{i j:Int}(hi:0<=i/\i<(bk cs).length)(hj:0<=j/\j<(bk cs).length)(h:AE (bk cs)):AE (bk (iT cs i j).1):=by
 by_cases q:HE (bk cs).length (bk cs) i j
 .rw[HG q];exact h.join J J
 rw[Mb q];exact h
def Dz(cl:List Nat)(ks:List Int)(n k a b:Nat):Prop:=a<n/\b<n/\(cg cl a=cg cl b\/(a<k/\(b:Int)=ks.getD a 0)\/(b<k/\(a:Int)=ks.getD b 0))
structure MgK(cl jz:List Nat)(ks:List Int)(n k:Nat):Prop where
 ok:AE jz
 more:∀a b,a<n->b<n->cg cl a=cg cl b->cg jz a=cg jz b
 aho:∀v,v<k->cg jz v=cg jz (ks.getD v 0).toNat
 way:∀a b,a<n->b<n->cg jz a=cg jz b->jG (Dz cl ks n k) a b
theorem aic{cs:List (List Nat)}{ks:List Int}{n:Nat}(h:AE (bk cs))(hl:(bk cs).length=n)(hk:∀v,v<n->0<=ks.getD v 0/\ks.getD v 0<n):∀k,k<=n->MgK (bk cs) (bk (rX cs ks k)) ks n k
 |0,_=>⟨h,fun a b _ _ q=>q,fun v hv=>J,fun a b ha hb q=> .one ⟨ha,hb,.inl q⟩⟩
 |k+1,hn=>by
  have ih:=aic h hl hk k J
  have e:=FK (cs:=cs) (ks:=ks) (k:=(k:Int)) J
  rw[show((k:Int)+1).toNat=k+1 by omega,show((k:Int)).toNat=k by omega]at e
  have l2:(bk (rX cs ks k)).length=n:=by rw[wD];exact hl
  have hkk:=hk k J
  have iff:=fun a b (ha:a<n) (hb:b<n)=>ac3 (cs:=rX cs ks k) (i:=(k:Int)) (j:=ks.getD k 0) (a:=a) (b:=b) J J J J
  rw[dN]at iff
  rw[e]
  have st:∀a b,jG (Dz (bk cs) ks n k) a b->jG (Dz (bk cs) ks n (k+1)) a b:=fun a b w=>w.mono fun x y ⟨h1,h2,h3⟩=>⟨h1,h2,by
   rcases h3 with q|q|q
   .exact .inl q
   .exact .inr (.inl ⟨J,q.2⟩)
   exact .inr (.inr ⟨J,q.2⟩)⟩
  refine⟨aib J J ih.ok,fun a b ha hb q=>(iff a b ha hb).2 (.inl (ih.more a b ha hb q)),fun v hv=> ?_,fun a b ha hb q=> ?_⟩
  .by_cases c:v=k
   .subst c;exact(iff v _ J J).2 (.inr ⟨.inl O,.inr O⟩)
   have:=hk v J
   exact(iff v _ J J).2 (.inl (ih.aho v J))
  have jk:jG (Dz (bk cs) ks n (k+1)) k (ks.getD k 0).toNat:= .one ⟨J,J,.inr (.inl ⟨J,J⟩)⟩
  have kj:jG (Dz (bk cs) ks n (k+1)) (ks.getD k 0).toNat k:= .one ⟨J,J,.inr (.inr ⟨J,J⟩)⟩
  have kn:k<n:=J
  have jn:(ks.getD k 0).toNat<n:=J
  rcases(iff a b ha hb).1 q with q|⟨q,r⟩
  .exact st _ _ (ih.way a b ha hb q)
  have w1:jG (Dz (bk cs) ks n (k+1)) a k:=by
   rcases q with q|q
   .exact st _ _ (ih.way a k ha kn q)
   exact(st _ _ (ih.way a _ ha jn q)).trans kj
  have w2:jG (Dz (bk cs) ks n (k+1)) k b:=by
   rcases r with q|q
   .exact st _ _ (ih.way k b kn hb q.symm)
   exact jk.trans (st _ _ (ih.way _ b jn hb q.symm))
  exact w1.trans w2
theorem wF{α:Type}{p q:α->Bool}:∀{l:List α},(∀x∈l,p x=true->q x=true)->(l.filter p).length<=(l.filter q).length/\((l.filter p).length=(l.filter q).length->∀x∈l,q x=true->p x=true)
 |[],_=>⟨eG _,fun _ x hx=>by cases hx⟩
 |a::l,h=>by
  obtain⟨h1,h2⟩:=wF (l:=l) (p:=p) (q:=q) fun x hx=>h x (fw _ hx)
  rw[A9,A9]
  by_cases c:p a=true
  .rw[aQ c,aQ (h a az c)]
   simp only[eO]
   refine⟨J,fun e x hx hq=> ?_⟩
   rcases cZ.1 hx with r|r
   .rw[r];exact c
   exact h2 J x r hq
  rw[aP c]
  by_cases d:q a=true
  .rw[aQ d];simp only[eO]
   exact⟨J,fun e=>J⟩
  rw[aP d]
  refine⟨h1,fun e x hx hq=> ?_⟩
  rcases cZ.1 hx with r|r
  .rw[r]at hq;exact absurd hq d
  exact h2 e x r hq
theorem YC{cl jz:List Nat}(h:AE cl)(h':AE jz)(hl:jz.length=cl.length)(hm:∀a b,a<cl.length->b<cl.length->cg cl a=cg cl b->cg jz a=cg jz b)(he:leads jz=leads cl):∀a,a<cl.length->cg jz a=cg cl a:=fun a ha=>by
 unfold leads at he
 rw[hl]at he
 have h1:=wF (l:=List.range cl.length) (p:=fun i=>cg jz i==i) (q:=fun i=>cg cl i==i) fun x hx hp=>by
  rw[xb]at hp⊢
  have hx:=oL.1 hx
  have c1:=h x hx
  have c2:=hm x (cg cl x) hx J c1.2.symm
  have c3:=h' (cg cl x) J
  omega
 have ha1:=h a ha
 have h2:=h1.2 he (cg cl a) (oL.2 J) (by rw[xb];exact ha1.2)
 rw[xb]at h2
 rw[hm a (cg cl a) ha J ha1.2.symm,h2]
end
theorem RX{o:List (BitVec 64)}{k:Nat}{y:BitVec 64}(hk:k<o.length):(∀i,dV (o.getD i 0) ((o.set k (o.getD k 0|||y)).getD i 0)=true)/\dV y ((o.set k (o.getD k 0|||y)).getD k 0)=true:=by grind[G2,sy,Fm]
theorem aaM{α:Type}{f:List (BitVec 64)->α->List (BitVec 64)}{n:Nat}(hl:∀o a,(f o a).length=o.length)(l:List α)(hm:∀o:List (BitVec 64),o.length=n->∀a∈l,∀i,dV (o.getD i 0) ((f o a).getD i 0)=true):∀o:List (BitVec 64),o.length=n->(∀i,dV (o.getD i 0) ((l.foldl f o).getD i 0)=true)/\∀a∈l,∀y k,(∀o:List (BitVec 64),o.length=n->dV y ((f o a).getD k 0)=true)->dV y ((l.foldl f o).getD k 0)=true:=by
 induction l with
 |nil=>intro o _;exact⟨fun i=>sy _,fun a ha=>by cases ha⟩
 |cons b l ih=>
  intro o ho
  have h1:=ih (fun o h a ha=>hm o h a (fw _ ha)) (f o b) ((hl o b).trans ho)
  refine⟨fun i=>lD (hm o ho b az i) (h1.1 i),fun a ha y k hy=> ?_⟩
  rcases cZ.1 ha with e|ha
  .subst e;exact lD (hy o ho) (h1.1 k)
  exact h1.2 a ha y k hy
theorem amN{cl:List Nat}{ws:List (BitVec 64)}{n:Nat}{qs:List de}(h:AE cl)(hl:cl.length=n)(hp:UJ n qs):
  (∀v,v<n->dV (ws.getD v 0) ((BP cl ws n qs).getD (cg cl v) 0)=true)/\∀q∈qs,Eb q=true->xG q≠q.to.var->cg cl (xG q).toNat=cg cl q.to.var.toNat->dV q.why ((BP cl ws n qs).getD (cg cl q.to.var.toNat) 0)=true:=by
 have fr:∀v:Nat,v<n->(fl cl (v:Int)).toNat=cg cl v/\cg cl v<n:=fun v hv=>by
  rw[mw J,dN,dN]
  have:=h v J
  exact⟨rfl,J⟩
 have hto:∀q∈qs,IU cl q=true->(fl cl q.to.var).toNat=cg cl q.to.var.toNat/\cg cl q.to.var.toNat<n:=fun q hq hi=>by
  simp only[IU,cH,ep]at hi
  have h1:=hp q hq hi.1.1
  have h2:=(FO hi.1.1)
  obtain⟨_,_,_,h0⟩:=h2
  have:=fr q.to.var.toNat J
  rwa[fN h0]at this
 have ra:(UK cl ws n).length=n:=by unfold UK;rw[CX (Mm cl ws)];simp
 have hA:=aaM (n:=n) (f:=Ml cl ws) (Mm cl ws) (List.range n) (fun o ho v hv i=>by
  have hv:=oL.1 hv
  unfold Ml;rw[(fr v hv).1];exact(RX (by rw[ho];exact(fr v hv).2)).1 i) (List.replicate n 0) az
 have hB:=aaM (n:=n) (f:=I3 cl) (UL cl) qs (fun o ho q hq i=>by
  unfold I3
  by_cases c:IU cl q=true
  .rw[aQ c,(hto q hq c).1];exact(RX (by rw[ho];exact(hto q hq c).2)).1 i
  rw[aP c];exact sy _) (UK cl ws n) ra
 refine⟨fun v hv=> ?_,fun q hq h1 h2 h3=> ?_⟩
 .have:=hA.2 v (oL.2 hv) (ws.getD v 0) (cg cl v) fun o ho=>by
   unfold Ml;rw[(fr v hv).1];exact(RX (by rw[ho];exact(fr v hv).2)).2
  exact lD this (hB.1 _)
 refine hB.2 q hq q.why _ fun o ho=> ?_
 have hv:=hp q hq h1
 have ci:IU cl q=true:=by
  simp only[IU,cH,ep]
  obtain⟨_,_,_,h0⟩:=FO h1
  refine⟨⟨h1,?_⟩,h2⟩
  rw[mw J,mw J,h3]
 unfold I3
 rw[aQ ci,(hto q hq ci).1];exact(RX (by rw[ho];exact(hto q hq ci).2)).2
theorem PF{n:Nat}:∀{qs:List de} {g:List (List Int)} {a:Nat} {x:Int},(∀q∈qs,Eb q=true->0<=xG q)->x∈(qs.foldl grQ g).getD a []->x∈g.getD a []\/∃q∈qs,Eb q=true/\xG q=a/\q.to.var=x
 |[],g,a,x,_,h=> .inl h
 |q::qs,g,a,x,hp,h=>by
  rcases PF (n:=n) (qs:=qs) (g:=grQ g q) (fun p hp'=>hp p (fw _ hp')) h with h|⟨p,h1,h2⟩
  .unfold grQ at h
   by_cases c:Eb q=true
   .rw[aQ c]at h
    rw[eE,uq]at h
    by_cases e:(xG q).toNat=a
    .rw[aQ e]at h
     split at h
     .rcases eP.1 h with h|h
      .rw[e]at h;exact .inl h
      have:=hp q az c
      exact .inr ⟨q,az,c,J,(fZ.1 h).symm⟩
     .cases h
    rw[aP e,<-eE]at h;exact .inl h
   rw[aP c]at h;exact .inl h
  exact .inr ⟨p,fw _ h1,h2⟩
theorem axe{n:Nat}{qs:List de}{a b:Nat}(hp:∀q∈qs,Eb q=true->0<=xG q)(h:uW (cr n qs) a b):∃q∈qs,Eb q=true/\xG q=a/\q.to.var=b:=by
 obtain⟨_,_,i,hi,e⟩:=h
 have hm:(b:Int)∈(cr n qs).getD a []:=by rw[<-e,getD_eq hi];exact p6 hi
 rcases PF (n:=n) hp hm with q|q
 .rw[eE,Wq]at q
  split at q<;>cases q
 exact q
theorem asr(E:Nat->Nat->Prop)(k:Nat):∃o,OfK E k o:=by
 have key:∀m j:Nat,j<=m->sG E k j->∃o,OfK E k o:=by
  intro m
  induction m with
  |zero=>intro j hj h;exact⟨j,⟨j,rfl,h⟩,fun i _=>J⟩
  |succ m ih=>
   intro j hj h
   by_cases c:∃i,i<j/\sG E k i
   .obtain⟨i,hi,h2⟩:=c;exact ih i J h2
   exact⟨j,⟨j,rfl,h⟩,fun i hi=>by
    refine J8 fun q=>c ⟨i,J,hi⟩⟩
 exact key k k (eG _) ⟨.refl _,.refl _⟩
theorem sG.trans{E:Nat->Nat->Prop}{a b c:Nat}(h:sG E a b)(h2:sG E b c):sG E a c:=⟨h.1.trans h2.1,h2.2.trans h.2⟩
theorem RY{gl:List (List Int)}{v:Nat}(h:v<gl.length):OfK (uW gl) v ((oA gl).getD v 0):=by grind[asr,uW,oA,ahx]
theorem aid{gl:List (List Int)}{v u:Nat}(h:v<gl.length)(hu:u<gl.length)(hb:sG (uW gl) v u):(oA gl).getD v 0=(oA gl).getD u 0:=by
 have h1:=RY h;have h2:=RY hu
 obtain⟨j,e,hj⟩:=h2.is
 exact h1.same ⟨⟨j,e,sG.trans hb hj⟩,fun i hi=>h2.low i (sG.trans ⟨hb.2,hb.1⟩ hi)⟩
theorem amO{gl:List (List Int)}{a b:Nat}(h:jG (uW gl) a b)(ha:a<gl.length):b<gl.length:=by grind[jG,uW]
theorem aie{E E':Nat->Nat->Prop}{a b:Nat}(hE:∀y c,E y c->sG E a y->sG E a c->E' y c)(h:jG E a b)(hb:jG E b a):jG E' a b:=by
 induction h with
 |refl=>exact .refl _
 |step h e ih=>
  have hy:jG E _ a:=(jG.one e).trans hb
  exact(ih hy).step (hE _ _ e ⟨h,hy⟩ ⟨h.step e,hb⟩)
theorem lZ.aif{S:Sys}{Q:Nat->sH}{y:Nat->BitVec 64}{N:Nat}{M:Qm}{v:Va}{ws:Nat->BitVec 64}{rep U2:Nat->Nat}{P:Nat->Prop}(h:lZ S Q y N M v ws rep P)(hr:∀i k,i<S.n->k<S.n->U2 i=U2 k->rep i=rep k):lZ S Q y N M v ws U2 P:=
 ⟨h.ok,h.all,h.mok,h.low,h.why,fun i k hi hk e=>by
  obtain⟨a,b,c,d⟩:=h.ring i k hi hk (hr i k hi hk e)
  exact⟨a,b,c,fun u hu p q hp hq=>d u hu p q ⟨hp.1,hr _ _ hp.1 hi hp.2⟩ ⟨hq.1,hr _ _ hq.1 hi hq.2⟩⟩,h.hold⟩
theorem aaN{sh:Sh}{ai:List El}:∀{ks:List Int} {e:El},cz sh e=true->(∀k∈ks,cz sh (ai.getD k.toNat dy)=true)->cz sh (u5 sh ai e ks)=true/\cR e (u5 sh ai e ks)=true/\(∀k∈ks,cR (ai.getD k.toNat dy) (u5 sh ai e ks)=true)/\∀u,cz sh u=true->cR e u=true->(∀k∈ks,cR (ai.getD k.toNat dy) u=true)->cR (u5 sh ai e ks) u=true
 |[],e,he,_=>⟨he,jJ _,(fun k hk=>by cases hk),fun u _ h _=>h⟩
 |a::ks,e,he,hk=>by
  have fa:=hk a az
  have key:cz sh (if qL (ai.getD a.toNat dy) e then e else fC sh e (ai.getD a.toNat dy))=true/\cR e (if qL (ai.getD a.toNat dy) e then e else fC sh e (ai.getD a.toNat dy))=true/\cR (ai.getD a.toNat dy) (if qL (ai.getD a.toNat dy) e then e else fC sh e (ai.getD a.toNat dy))=true/\∀u,cz sh u=true->cR e u=true->cR (ai.getD a.toNat dy) u=true->cR (if qL (ai.getD a.toNat dy) e then e else fC sh e (ai.getD a.toNat dy)) u=true:=by
   by_cases c:qL (ai.getD a.toNat dy) e
   .rw[aQ c];exact⟨he,jJ _,kM c,fun u _ h _=>h⟩
   rw[aP c];exact⟨Hq he fa,(XO he fa).1,(XO he fa).2,fun u fu h1 h2=>ZZ he fa fu h1 h2⟩
  obtain⟨k1,k2,k3,k4⟩:=key
  obtain⟨h1,h2,h3,h4⟩:=aaN (ks:=ks) k1 fun k h=>hk k (fw _ h)
  refine⟨h1,eX k2 h2,fun k h=> ?_,fun u fu hu CQ=>h4 u fu (k4 u fu hu (CQ a az)) fun k h=>CQ k (fw _ h)⟩
  rcases cZ.1 h with q|q
  .subst q;exact eX k3 h2
  exact h3 k q
theorem U5{p:Nat->Bool}{v m:Nat}(hv:p v=true)(hlo:∀j,j<v->p j=false):∃t,(List.range (v+(m+1))).filter p=v::t:=by
 rw[WZ,Qp]
 have e:(List.range v).filter p=[]:=List.filter_eq_nil_iff.2 fun j hj=>by rw[hlo j (oL.1 hj)];exact J5
 rw[e,er,Wt,lf,A9,aQ (by simpa using hv)]
 exact⟨_,rfl⟩
theorem U6{cl:List Nat}{v:Nat}(h:AE cl)(hv:v<cl.length)(he:cg cl v=v):∃t,bK cl v=(v:Int)::t:=by
 obtain⟨t,ht⟩:=U5 (p:=fun k=>cg cl v==cg cl k) (v:=v) (m:=cl.length-v-1) az fun j hj=>by
  have:=h j J
  rw[beq_eq_false_iff_ne];omega
 unfold bK zg
 rw[aQ ⟨J,J⟩]
 rw[show v+(cl.length-v-1+1)=cl.length by omega]at ht
 rw[dN,ht]
 exact⟨_,rfl⟩
theorem aaO{cl:List Nat}{n:Nat}{p:Nat->Bool}{q:Nat->Bool}:∀{l:List Nat},(∀x∈l,¬(p x=true/\q x=true))->(l.filter p).length+(l.filter q).length<=(l.filter fun x=>p x||q x).length
 |[],_=>eG _
 |a::l,h=>by
  have ih:=aaO (cl:=cl) (n:=n) (l:=l) (p:=p) (q:=q) fun x hx=>h x (fw _ hx)
  have ha:=h a az
  rw[A9,A9,A9]
  by_cases c1:p a=true<;>by_cases c2:q a=true
  .exact absurd ⟨c1,c2⟩ ha
  .rw[aQ c1,aP c2,aQ (by simp[c1])];simp only[eO];omega
  .rw[aP c1,aQ c2,aQ (by simp[c2])];simp only[eO];omega
  rw[aP c1,aP c2,aP (by simp[c1,c2])];exact ih
theorem ao3{cl:List Nat}(h:AE cl):∀k,coJ cl k<=((List.range cl.length).filter fun j=>decide (cg cl j<k)).length
 |0=>lW _
 |k+1=>by
  have ih:=ao3 h k
  have h1:=aaO (cl:=cl) (n:=0) (l:=List.range cl.length) (p:=fun j=>decide (cg cl j<k)) (q:=fun j=>cg cl k==cg cl j&&decide (cg cl k=k)) fun x _ ⟨a,b⟩=>by
   simp only[ep,cH,xb]at a b;omega
  have h2:=(wF (l:=List.range cl.length) (p:=fun x=>decide (cg cl x<k)||(cg cl k==cg cl x&&decide (cg cl k=k))) (q:=fun j=>decide (cg cl j<k+1)) fun x _ q=>by
   simp only[ep,cH,ou,xb]at q⊢;omega).1
  show coJ cl k+_<=_
  have h3:(if fl cl (k:Int)=(k:Int)then(bK cl (k:Int)).length-1 else 0)<=((List.range cl.length).filter fun j=>cg cl k==cg cl j&&decide (cg cl k=k)).length:=by
   by_cases c:fl cl (k:Int)=(k:Int)
   .rw[aQ c]
    by_cases r:0<=(k:Int)/\(k:Int)<cl.length
    .rw[mw r,dN]at c
     have e:cg cl k=k:=J
     unfold bK zg
     rw[aQ r,gj,dN]
     have:=(wF (l:=List.range cl.length) (p:=fun j=>cg cl k==cg cl j) (q:=fun j=>cg cl k==cg cl j&&decide (cg cl k=k)) fun x _ q=>by rw[cH,ep];exact⟨q,e⟩).1
     omega
    rw[Hz r]at c;omega
   rw[aP c];exact lW _
  omega
theorem amP{cl:List Nat}(h:AE cl)(k:Nat):coJ cl k<=cl.length:=by grind[ao3,cg]
def Mx(cl jz:List Nat)(k a:Nat):Nat:=if cg jz a<k then 2*cg jz a else 2*cg cl a+1
structure CoA(an:List oJ)(aT:List Int)(qs:List de)(cl jz:List Nat)(n:Nat)(X:Nat->Prop)(w0:List (BitVec 64))(k:Nat)(c:x9):Prop where
 j:YB an aT qs (Mx cl jz k) n X c
 ws:∀j,j<n->k<=cg jz j->c.aX.getD j 0=w0.getD j 0
section
variable{us:List iW}{an:List oJ}{aT:List Int}{qs:List de}{cl jz:List Nat}{n k:Nat}{X:Nat->Prop}{c:x9}{w0 rs:List (BitVec 64)}
structure RgN(an:List oJ)(aT:List Int)(qs:List de)(jz:List Nat)(n:Nat)(w0 rs:List (BitVec 64)):Prop where
 ok:AE jz
 len:jz.length=n
 ring:∀v,v<n->cg jz v=v->pO (j7 an aT n) (NW an n qs (rs.getD v 0)) fun j=>j<n/\cg jz j=v
 sh:∀a b,a<n->b<n->cg jz a=cg jz b->(j7 an aT n).sh a=(j7 an aT n).sh b
 ws:∀v,v<n->dV (w0.getD v 0) (rs.getD (cg jz v) 0)=true
theorem CoA.step(hq:U3 an aT n qs)(hu:Oa us qs n)(hr:RgN an aT qs jz n w0 rs)(h:CoA an aT qs cl jz n X w0 k c)(hk:k<n):CoA an aT qs cl jz n X w0 (k+1) (co1 jz us an aT rs c k):=by
 have hn:(j7 an aT n).n=n:=rfl
 have hi:=hr.len
 have ck:=ahL (cl:=jz) (us:=us) (an:=an) (aT:=aT) (rs:=rs) (s:=c) (v:=k) hu.hu (by rw[hi,hu.len]) h.j.ck
 have lv:=h.j.ck.lv
 have ly:=h.j.ck.ly
 have si:=h.j.si
 have no:(∀a b,a<n->b<n->Mx cl jz (k+1) a=Mx cl jz (k+1) b->Mx cl jz k a=Mx cl jz k b)->co1 jz us an aT rs c k=c->CoA an aT qs cl jz n X w0 (k+1) (co1 jz us an aT rs c k):=fun hf e=>by
  rw[e];exact⟨⟨h.j.ck,si.aif hf⟩,fun j hj hjk=>h.ws j hj J⟩
 by_cases c1:cg jz k=k
 .obtain⟨t,ht⟩:=U6 hr.ok J c1
  have hCi:∀i:Nat,(i:Int)∈bK jz (k:Int)↔i<n/\cg jz i=k:=fun i=>by
   rw[HI,dN,dN,c1]
   exact⟨fun⟨a,b,c,d⟩=>⟨J,d⟩,fun⟨a,b⟩=>⟨J,J,J,b⟩⟩
  have fk:fl jz (k:Int)=k:=by rw[mw J,dN,c1]
  by_cases c2:(bK jz (k:Int)).length≠1
  .have hks:∀j∈bK jz (k:Int),0<=j/\j<(n:Int):=fun j hj=>by have:=lY hj;omega
   have e0:co1 jz us an aT rs c k=_:=aaI (k:=(k:Int)) J fk c2
   simp only[dN]at e0
   have hfit:∀j:Nat,j<n->cg jz j=k->cz ((j7 an aT n).sh k) (c.ai.getD j dy)=true:=fun j hj e=>by
    rw[<-hr.sh j k hj hk (by rw[e,c1])];exact si.low.fit j hj
   have hdr:∀j∈(bK jz (k:Int)).drop 1,0<=j/\j.toNat<n/\cg jz j.toNat=k:=fun j hj=>by
    have hm:=xK hj
    have:=hks j hm
    have:=(hCi j.toNat).1 (by rw[fN J];exact hm)
    exact⟨J,this⟩
   obtain⟨e1,e2,e3,e4⟩:=aaN (sh:=(j7 an aT n).sh k) (ai:=c.ai) (ks:=(bK jz (k:Int)).drop 1) (e:=c.ai.getD k dy) (hfit k hk c1) fun j hj=>hfit _ (hdr j hj).2.1 (hdr j hj).2.2
   have eq:u5 (an.getD (aT.getD k 0).toNat oK).p.sh c.ai (c.ai.getD k dy) ((bK jz (k:Int)).drop 1)=u5 ((j7 an aT n).sh k) c.ai (c.ai.getD k dy) ((bK jz (k:Int)).drop 1):=rfl
   rw[eq]at e0
   generalize hE:u5 ((j7 an aT n).sh k) c.ai (c.ai.getD k dy) ((bK jz (k:Int)).drop 1)=e at*
   have hwC:∀j,j<n/\cg jz j=k->dV (wQ c.aX j) (rs.getD k 0)=true:=fun j hj=>by
    have:=hr.ws j hj.1
    rw[hj.2]at this
    show dV (c.aX.getD j 0) _=true
    rw[h.ws j hj.1 J];exact this
   have U4:=hr.ring k hk c1
   have h1:=si.merge (C:=fun j=>j<n/\cg jz j=k) (e:=e) (W:=rs.getD k 0) (k:=k) (U2:=Mx cl jz (k+1)) (P':=fun i=>(i:Int)∈(xn c.ai us (c.wl,c.wi) (bK jz (k:Int)) e).2.1\/X i)
    (fun j hj=>⟨J,hwC j hj⟩) (fun a b ha hb=>hr.sh a b ha.1 hb.1 (by rw[ha.2,hb.2])) U4 ⟨hk,c1⟩ e1
    (fun u hu2=>by
     have hle:∀j,j<n/\cg jz j=k->cR (c.ai.getD j dy) (u k)=true:=fun j hj=>eX (si.why j J u (hu2.less fun q hq=>si.mok _ _ _ (hwC j hj) hq)) (kM (U4 u hu2 j k hj ⟨hk,c1⟩))
     exact e4 _ (hu2.fit k J) (hle k ⟨hk,c1⟩) fun j hj=>hle _ (hdr j hj).2)
    (fun j hj=>by
     have:=(hCi j).2 hj
     rw[ht]at this
     rcases cZ.1 this with q|q
     .have:j=k:=J
      subst this;exact e2
     have:=e3 (j:Int) (by rw[ht];exact q)
     rwa[dN]at this)
    (fun a b ha hb hab=>by
     unfold Mx at hab⊢
     by_cases ca:cg jz a<k+1<;>by_cases cb:cg jz b<k+1
     .rw[aQ ca,aQ cb]at hab
      by_cases q:cg jz a=k
      .exact .inl ⟨⟨J,q⟩,⟨J,J⟩⟩
      refine .inr ⟨fun x=>q x.2,fun x=>q J,?_⟩
      rw[aQ J,aQ J];omega
     .rw[aQ ca,aP cb]at hab;omega
     .rw[aP ca,aQ cb]at hab;omega
     rw[aP ca,aP cb]at hab
     refine .inr ⟨fun x=>J,fun x=>J,?_⟩
     rw[aP J,aP J];omega)
    (fun j hj hp=>hp.elim (fun q=> .inl (JW q)) .inr)
    (fun j hj y hy hc hne=>by
     have hjm:=hq _ (dc (d:=cQ) (l:=qs) (k:=(j:Int)) J J)
     rw[dN]at hjm
     rw[FP hjm.2]at hy
     obtain⟨z,hz,rfl⟩:=fU.1 hy
     have hz0:0<=z:=by
      have:=hz
      rw[hjm.2]at this
      obtain⟨a,ha,ho,h0,rfl⟩:=rO.1 this
      exact h0
     refine .inl (YA hu.hu (k:=z.toNat) (j:=(j:Int)) ?_ h.j.ck.wq h.j.ck.li (fun k hk=>by have:=hks k hk;have:=hu.len;omega) (by rw[hu.len];exact lv) ((hCi _).2 hc) hne)
     rw[hu.is _ J]
     refine BW.2 ⟨J,?_⟩
     rw[dN,fN hz0];exact hz)
   refine⟨⟨ck,?_⟩,fun j hj hjk=> ?_⟩
   .rw[e0]
    simp only[x7]
    rw[ah2 (by rw[lv];exact hks),ah3 (by rw[ly];exact hks),Mv hCi,Mw hCi]
    exact h1
   rw[e0]
   simp only
   rw[rM J fun q hq=>(hks q hq).1,aP fun q=>by have:=(hCi j).1 q;omega]
   exact h.ws j hj J
  have c2:(bK jz (k:Int)).length=1:=J8 c2
  refine no (fun a b ha hb hab=> ?_) (RQ (k:=(k:Int)) J fun q=>q.2 c2)
  have one:∀a,a<n->cg jz a=k->a=k:=fun a ha e=>by
   have:=(hCi a).2 ⟨ha,e⟩
   rw[ht]at this c2
   have:t=[]:=by cases t with
    |nil=>rfl
    |cons _ _=>simp at c2
   subst this
   have:=fZ.1 ‹(a:Int)∈[(k:Int)]›
   omega
  unfold Mx at hab⊢
  by_cases ca:cg jz a<k+1<;>by_cases cb:cg jz b<k+1
  .rw[aQ ca,aQ cb]at hab
   by_cases q:cg jz a=k
   .have:=one a ha q;have:=one b hb J;subst this;subst a;rfl
   rw[aQ J,aQ J];omega
  .rw[aQ ca,aP cb]at hab;omega
  .rw[aP ca,aQ cb]at hab;omega
  rw[aP ca,aP cb]at hab
  rw[aP J,aP J];omega
 refine no (fun a b ha hb hab=> ?_) (RQ (k:=(k:Int)) J fun q=>c1 (by have:=q.1;rw[mw J,dN]at this;omega))
 have one:∀a,a<n->cg jz a≠k:=fun a ha e=>c1 (by have:=(hr.ok a J).2;rw[e]at this;exact this)
 have:=one a ha;have:=one b hb
 unfold Mx at hab⊢
 by_cases ca:cg jz a<k+1<;>by_cases cb:cg jz b<k+1
 .rw[aQ ca,aQ cb]at hab
  rw[aQ J,aQ J];omega
 .rw[aQ ca,aP cb]at hab;omega
 .rw[aP ca,aQ cb]at hab;omega
 rw[aP ca,aP cb]at hab
 rw[aP J,aP J];omega
theorem CoA.all(hq:U3 an aT n qs)(hu:Oa us qs n)(hr:RgN an aT qs jz n w0 rs)(h:CoA an aT qs cl jz n X w0 0 c):∀k,k<=n->CoA an aT qs cl jz n X w0 k (coA jz us an aT rs c k)
 |0,_=>h
 |k+1,hk=>by
  have e:=BR (cl:=jz) (us:=us) (an:=an) (aT:=aT) (rs:=rs) (s:=c) (k:=(k:Int)) J
  rw[show((k:Int)+1).toNat=k+1 by omega,dN]at e
  rw[e];exact(CoA.all hq hu hr h k J).step hq hu hr J
theorem U3.pl(h:U3 an aT n qs):UJ n qs:=fun q hq hp=>by
 obtain⟨h1,h2⟩:=h q hq
 obtain⟨a,b,_,_⟩:=Dw h1 h2 hp
 refine⟨?_,a,b.2⟩
 obtain⟨y,hy,ho,h0⟩:=FO hp
 have:=h1.var y (by rw[hy];simp) ho
 rw[h2,hy];unfold dw;simp[ho,this.1,sI]
theorem amQ{cs:List (List Nat)}{ai:List El}{aX:List (BitVec 64)}{P:Nat->Prop}(hq:U3 an aT n qs)(hc:AE (bk cs))(hl:(bk cs).length=n)
  (si:lZ (j7 an aT n) (fun i=>sM an n (qs.getD i cQ)) (fun i=>(qs.getD i cQ).why) qs.length (NW an n qs) (vQ ai) (wQ aX) (cg (bk cs)) P):
  MgK (bk cs) (bk (rX cs (oA (cr n qs)) n)) (oA (cr n qs)) n n/\RgN an aT qs (bk (rX cs (oA (cr n qs)) n)) n aX (BP (bk (rX cs (oA (cr n qs)) n)) aX n qs):=by
 have gl:(cr n qs).length=n:=EG n qs
 have hp:=hq.pl
 have hpv:∀q∈qs,Eb q=true->0<=xG q:=fun q h1 h2=>(hp q h1 h2).2.1.1
 have oin:∀v,v<n->0<=(oA (cr n qs)).getD v 0/\(oA (cr n qs)).getD v 0<n:=fun v hv=>by
  obtain⟨j,e,hj⟩:=(RY (gl:=cr n qs) (v:=v) J).is
  have:=amO hj.1 J
  omega
 have mg:=aic hc hl oin n (eG _)
 have l2:(bk (rX cs (oA (cr n qs)) n)).length=n:=by rw[wD];exact hl
 have hR:=amN (ws:=aX) mg.ok l2 hp
 refine⟨mg,?_⟩
 generalize bk (rX cs (oA (cr n qs)) n)=jz at*
 have both:∀a b,a<n->b<n->sG (uW (cr n qs)) a b->cg jz a=cg jz b:=fun a b ha hb h=>by
  rw[mg.aho a ha,mg.aho b hb,aid J J h]
 have arc:∀a b,uW (cr n qs) a b->∃q∈qs,Eb q=true/\xG q=a/\q.to.var=b:=fun a b h=>axe hpv h
 have ash:∀a b,uW (cr n qs) a b->(j7 an aT n).sh a=(j7 an aT n).sh b:=fun a b h=>by
  obtain⟨q,h1,h2,h3,h4⟩:=arc a b h
  have:=(Dw (hq q h1).1 (hq q h1).2 h2).2.2.2
  rwa[h3,h4,dN,dN]at this
 have wsh:∀a b,jG (uW (cr n qs)) a b->(j7 an aT n).sh a=(j7 an aT n).sh b:=fun a b h=>by
  induction h with
  |refl=>rfl
  |step _ e ih=>exact ih.trans (ash _ _ e)
 have aaP:∀a b:Nat,a<n->(b:Int)=(oA (cr n qs)).getD a 0->sG (uW (cr n qs)) a b:=fun a b ha e=>by
  obtain⟨j,ej,hj⟩:=(RY (gl:=cr n qs) (v:=a) J).is
  have:b=j:=J
  subst this;exact hj
 refine⟨mg.ok,l2,fun v hv hvv=> ?_,fun a b ha hb e=> ?_,hR.1⟩
 .have aEC:∀(z:Nat) (Q:sH->Prop),pO (j7 an aT n) Q fun j=>j=z:=fun z Q u hu i k hi hk=>by
   rw[hi,hk];exact fun _ _=>rfl
  refine ah1 fun i k hi hk=> ?_
  have w:=mg.way i k hi.1 hk.1 (by rw[hi.2,hk.2])
  have step:∀a b,Dz (bk cs) (oA (cr n qs)) n n a b->cg jz a=v->jG (fun a b=>(∃q,NW an n qs ((BP jz aX n qs).getD v 0) q/\EK (j7 an aT n) q a b)\/∃D:Nat->Prop,D a/\D b/\pO (j7 an aT n) (NW an n qs ((BP jz aX n qs).getD v 0)) D) a b/\cg jz b=v:=by
   have kn:∀a b,a<n->b<n->sG (uW (cr n qs)) a b->cg jz a=v->jG (fun a b=>(∃q,NW an n qs ((BP jz aX n qs).getD v 0) q/\EK (j7 an aT n) q a b)\/∃D:Nat->Prop,D a/\D b/\pO (j7 an aT n) (NW an n qs ((BP jz aX n qs).getD v 0)) D) a b:=fun a b ha hb hab hav=>
    aie (E:=uW (cr n qs)) (fun y c e hy hc'=>by
     by_cases q:y=c
     .subst q;exact .inr ⟨fun j=>j=y,rfl,rfl,aEC y _⟩
     obtain⟨q2,h1,h2,h3,h4⟩:=arc y c e
     have yn:y<n:=by have:=e.1;omega
     have cn:c<n:=by have:=e.2.1;omega
     have cy:cg jz y=v:=by rw[<-both a y ha yn hy];exact hav
     have cc:cg jz c=v:=by rw[<-both a c ha cn hc'];exact hav
     have hw:=hR.2 q2 h1 h2 J (by rw[h3,h4,dN,dN,cy,cc])
     rw[h4,dN,cc]at hw
     have hpq:=(Dw (hq q2 h1).1 (hq q2 h1).2 h2).2.2.1
     rw[h3,h4,dN,dN]at hpq
     obtain⟨i,hi,ei⟩:=sX h1
     exact .inl ⟨_,⟨i,hi,by rw[getD_eq hi,ei],by rw[getD_eq hi,ei];exact hw⟩,hpq⟩) hab.1 hab.2
   rintro a b ⟨ha,hb,hs|⟨_,hs⟩|⟨_,hs⟩⟩ hav
   .have e2:=mg.more a b ha hb hs
    refine⟨.one (.inr ⟨fun j=>j<n/\cg (bk cs) j=cg (bk cs) a,⟨ha,rfl⟩,⟨hb,hs.symm⟩,?_⟩),by rw[<-e2];exact hav⟩
    have:=(si.ring a a ha ha O).2.2.2
    have hs2:=hR.1 a ha
    rw[hav]at hs2
    exact this.more fun q hq=>si.mok _ _ _ hs2 hq
   .have KK:=aaP a b ha hs
    exact⟨kn a b ha hb KK hav,by rw[<-both a b ha hb KK];exact hav⟩
   have KK:=aaP b a hb hs
   have hb3:sG (uW (cr n qs)) a b:=⟨KK.2,KK.1⟩
   exact⟨kn a b ha hb hb3 hav,by rw[<-both a b ha hb hb3];exact hav⟩
  have key:∀b,jG (Dz (bk cs) (oA (cr n qs)) n n) i b->jG (fun a b=>(∃q,NW an n qs ((BP jz aX n qs).getD v 0) q/\EK (j7 an aT n) q a b)\/∃D:Nat->Prop,D a/\D b/\pO (j7 an aT n) (NW an n qs ((BP jz aX n qs).getD v 0)) D) i b/\cg jz b=v:=fun b wb=>by
   induction wb with
   |refl=>exact⟨.refl _,hi.2⟩
   |step _ e ih=>obtain⟨s1,s2⟩:=step _ _ e ih.2;exact⟨ih.1.trans s1,s2⟩
  exact(key k w).1
 have w:=mg.way a b ha hb e
 induction w with
 |refl=>rfl
 |step w1 e1 ih=>
  obtain⟨h1,h2,h3⟩:=e1
  have e3:∀x y,x<n->y<n->Dz (bk cs) (oA (cr n qs)) n n x y->cg jz x=cg jz y/\(j7 an aT n).sh x=(j7 an aT n).sh y:=fun x y hx hy hs=>by
   rcases hs.2.2 with q|⟨_,q⟩|⟨_,q⟩
   .exact⟨mg.more x y hx hy q,(si.ring x y hx hy q).1⟩
   .have:=aaP x y hx q
    exact⟨both x y hx hy this,wsh _ _ this.1⟩
   have:=aaP y x hy q
   exact⟨(both y x hy hx this).symm,wsh _ _ this.2⟩
  have:=e3 _ _ h1 h2 ⟨h1,h2,h3⟩
  exact(ih h1 (by rw[this.1];exact e)).trans this.2
end
structure yb(s:NP):Prop where
 ok:BS s
 fit:U3 s.an s.aT s.ai.length s.qs
 us:s.us=(List.range s.ai.length).map (xo s.qs)
 cl:AE (bk s.cs)
 si:lZ (j7 s.an s.aT s.ai.length) (fun i=>sM s.an s.ai.length (s.qs.getD i cQ)) (fun i=>(s.qs.getD i cQ).why) s.qs.length (NW s.an s.ai.length s.qs) (vQ s.ai) (wQ s.aX) (cg (bk s.cs)) fun i=>s.sn<=i
def muM(s:NP):Nat:=s.qs.length+((s.qs.map fun q=>gd (ya s.an q)*q.vars.length).sum).toNat
theorem Oa.of{us:List iW}{qs:List de}{n:Nat}(h:mO us=(List.range n).map (xo qs)):Oa us qs n:=by
 have hl:us.length=n:=by have:=aK List.length h;rwa[eM,gj,Qr]at this
 refine⟨hl,fun k hk=> ?_⟩
 rw[<-BT,h,eE,p5,yA hk];rfl
noncomputable abbrev oE(us:List iW)(s:NP):CoO:=rP s.cs us s.an s.aT s.qs s.sn s.ai.length ⟨s.ai,s.aX,[],List.replicate s.qs.length false⟩
abbrev JN(s:NP)(cl:List Nat):x9->Prop:=YB s.an s.aT s.qs (cg cl) s.ai.length fun _=>False
theorem RZ{s:NP}(h:yb s){us:List iW}(vN:mO us=s.us):YB s.an s.aT s.qs (cg (bk (oE us s).cs)) s.ai.length (fun i=>s.sn<=(i:Int)) (oE us s).s/\AE (bk (oE us s).cs)/\(bk (oE us s).cs).length=s.ai.length/\(oE us s).j<=s.ai.length:=by
 have hu:=Oa.of (vN.trans h.us)
 have h0:PB s.qs.length s.ai.length s.ai.length ⟨s.ai,s.aX,[],List.replicate s.qs.length false⟩:=⟨rfl,h.ok.S2,az,HJ _⟩
 have j0:YB s.an s.aT s.qs (cg (bk s.cs)) s.ai.length (fun i=>s.sn<=(i:Int)) ⟨s.ai,s.aX,[],List.replicate s.qs.length false⟩:=⟨h0,h.si.ah0 fun i _ q=> .inr q⟩
 unfold oE rP
 split
 .obtain⟨mg,rg⟩:=amQ h.fit h.cl h.ok.ni h.si
  simp only
  split
  .rename_i hle
   have e:=YC h.cl mg.ok (by rw[wD]) (fun a b ha hb=>mg.more a b (by have:=h.ok.ni;omega) (by have:=h.ok.ni;omega)) hle
   have ni:=h.ok.ni
   refine⟨⟨j0.ck,j0.si.aif fun i k hi hk q=> ?_⟩,mg.ok,rg.len,lW _⟩
   have hi':i<s.ai.length:=hi;have hk':k<s.ai.length:=hk
   rw[e i J,e k J]at q;exact q
  have ni:=h.ok.ni
  have c0:CoA s.an s.aT s.qs (bk s.cs) (bk (rX s.cs (oA (cr s.ai.length s.qs)) s.ai.length)) s.ai.length (fun i=>s.sn<=(i:Int)) s.aX 0 ⟨s.ai,s.aX,[],List.replicate s.qs.length false⟩:=⟨⟨j0.ck,j0.si.aif fun i k hi hk q=>by
   unfold Mx at q
   rw[aP J,aP J]at q;omega⟩,fun j _ _=>rfl⟩
  have ca:=CoA.all h.fit hu rg c0 s.ai.length (eG _)
  refine⟨⟨ca.j.ck,ca.j.si.aif fun i k hi hk q=> ?_⟩,mg.ok,rg.len,by have:=amP mg.ok s.ai.length;rw[rg.len]at this;exact this⟩
  have hi':i<s.ai.length:=hi;have hk':k<s.ai.length:=hk
  have h1:=mg.ok i (by rw[rg.len];exact hi');have h2:=mg.ok k (by rw[rg.len];exact hk')
  unfold Mx
  rw[aQ J,aQ J,q]
 exact⟨j0,h.cl,h.ok.ni,lW _⟩
theorem U7{s:NP}(h:yb s){us:List iW}(vN:mO us=s.us):JN s (bk (oE us s).cs) (UW (oE us s).s s.sn s.qs.length)/\muN s.an s.aT s.ai.length s.qs (UW (oE us s).s s.sn s.qs.length)<=muM s:=by
 obtain⟨j,_,_,_⟩:=RZ h vN
 have ck:=asj (c:=(oE us s).s) j.ck (sn:=s.sn) h.ok.Wc.1
 have hup:∀i∈upI s.sn ((s.qs.length:Int)-s.sn).toNat,0<=i/\i<((oE us s).s.wi.length:Int):=fun i hi=>by
  obtain⟨x,hx,rfl⟩:=fU.1 hi
  have:=oL.1 hx
  have:=j.ck.li
  have:=h.ok.Wc
  omega
 have hs:=h.ok.Wc
 refine⟨⟨ck,j.si.ah0 fun i hi hp=> .inl ?_⟩,?_⟩
 .rcases hp with q|q
  .exact FN q
  refine RU j.ck.wq hup ?_
  exact fU.2 ⟨((i:Int)-s.sn).toNat,oL.2 J,J⟩
 have h1:=ck.wq.len
 have h2:=ck.li
 have h3:oC (j7 s.an s.aT s.ai.length) (RT s.an s.ai.length s.qs) (vQ (oE us s).s.ai) s.ai.length<=((s.qs.map (sM s.an s.ai.length)).map fun q=>gd q.sh*q.vars.length).sum:=UI fun q hq x hx=>by
  obtain⟨p,hp,rfl⟩:=fU.1 hq
  exact ahB (h.fit p hp).1 hx
 rw[QG]at h3
 have e:s.qs.map ((fun q:sH=>gd q.sh*(q.vars.length:Int))∘sM s.an s.ai.length)=s.qs.map fun q=>gd (ya s.an q)*(q.vars.length:Int):=Gs fun q hq=>by
  show gd (ya s.an q)*((sM s.an s.ai.length q).vars.length:Int)=_
  rw[FP (h.fit q hq).2,gj]
 rw[e]at h3
 unfold muN muM
 show(UW (oE us s).s s.sn s.qs.length).wl.length+(oC _ _ (vQ (oE us s).s.ai) _).toNat<=_
 omega
theorem IB{sh:Sh}{l:List dK}{v v':List El}(h:∀x∈l,x.op=1->0<=x.n/\x.n<v.length/\x.n<v'.length/\v.getD x.n.toNat dy=v'.getD x.n.toNat dy):fP sh l v=fP sh l v':=by
 have hs:∀(m:List dK),(∀x∈m,x∈l)->∀o,m.foldl (Ab sh v) o=m.foldl (Ab sh v') o:=by
  intro m
  induction m with
  |nil=>intros;rfl
  |cons x m ih=>
   intro hm o
   have e:Ab sh v o x=Ab sh v' o x:=by
    unfold Ab
    by_cases c:x.op=1
    .obtain⟨h0,h1,h2,h3⟩:=h x (hm x az) c
     simp only[c,s5,aQ (show 0<=x.n/\x.n<v.length from⟨h0,h1⟩),aQ (show 0<=x.n/\x.n<v'.length from⟨h0,h2⟩),h3]
    simp only[c,xd]
   rw[r5,r5,e]
   exact ih (fun y hy=>hm y (fw _ hy)) _
 have e:ic sh v l l.length=ic sh v' l l.length:=hs _ (fun x hx=>uu hx) _
 unfold fP
 rw[e]
theorem My{sh:Sh}{code:List dK}{to:ix}{n n':Nat}(h:∀x∈code,x.op=1->0<=x.n/\x.n<n)(hn:n<=n'):BO n' sh code to=BO n sh code to:=by
 unfold BO
 congr 1
 funext u
 congr 1
 refine IB fun x hx ho=> ?_
 obtain⟨h0,h1⟩:=h x hx ho
 refine⟨h0,by simp;omega,by simp;omega,?_⟩
 rw[pP J,pP J]
theorem aih{an ao5:List oJ}{aT:List Int}{n n':Nat}{q:de}(h:Yo (j7 an aT n) (ya an q) q.code q.to)(hn:n<=n')(hs:ya ao5 q=ya an q):sM ao5 n' q=sM an n q:=by
 unfold sM
 rw[hs]
 exact My (fun x hx ho=>by have:=h.var x hx ho;exact⟨this.1,this.2.1⟩) hn
section
variable{S S':Sys}{Q Q':Nat->sH}{y y':Nat->BitVec 64}{N:Nat}{M M':Qm}{v v':Va}{ws ws':Nat->BitVec 64}{rep aii:Nat->Nat}{P:Nat->Prop}{q:sH}
theorem tQ.wide(h:tQ S q)(hn:S.n<=S'.n)(hs:∀i,i<S.n->S'.sh i=S.sh i):tQ S' q:=by
 have hf:∀u,py S' u->py S u:=fun u hu i hi=>by rw[<-hs i hi];exact hu i J
 exact⟨fun u hu=>h.fit u (hf u hu),fun i hi=>by have:=h.lt i hi;omega,fun u w hu hw hl=>h.Pu u w (hf u hu) (hf w hw) hl,fun k hk=>by
  obtain⟨h1,h2⟩:=h.to k hk
  exact⟨J,by rw[hs k h1];exact h2⟩⟩
theorem py.less{u:Va}(h:py S' u)(hn:S.n<=S'.n)(hs:∀i,i<S.n->S'.sh i=S.sh i):py S u:=fun i hi=>by rw[<-hs i hi];exact h i J
theorem lZ.wide(h:lZ S Q y N M v ws rep P)(hn:S.n<=S'.n)(hs:∀i,i<S.n->S'.sh i=S.sh i)(hv:∀i,i<S.n->v' i=v i)(hw:∀i,i<S.n->ws' i=ws i)
  (hb:∀i,S.n<=i->i<S'.n->qY (S'.sh i)=true/\v' i=gZ (S'.sh i) eU) (hr:∀i k,i<S'.n->k<S'.n->aii i=aii k->i=k\/(i<S.n/\k<S.n/\rep i=rep k)):lZ S' Q y N M v' ws' aii P:=by
 have ass:∀(R:sH->Prop) u,tZ S' R u->tZ S R u:=fun R u hu=>⟨hu.fit.less hn hs,hu.hold⟩
 refine⟨fun i hi=>⟨(h.ok i hi).1.wide hn hs,(h.ok i hi).2⟩,h.all,h.mok,⟨fun i hi=> ?_,fun u hu i hi=> ?_⟩,fun k hk u hu=> ?_,fun i k hi hk e=> ?_,fun i hi hp=> ?_⟩
 .by_cases c:i<S.n
  .rw[hs i c,hv i c];exact h.low.fit i c
  obtain⟨h1,h2⟩:=hb i J hi
  rw[h2];exact(OW h1).1
 .by_cases c:i<S.n
  .rw[hv i c];exact h.low.low u (ass _ u hu) i c
  obtain⟨h1,h2⟩:=hb i J hi
  rw[h2];exact(OW h1).2 _ (hu.fit i hi)
 .by_cases c:k<S.n
  .rw[hv k c]
   rw[hw k c]at hu
   exact h.why k c u (ass _ u hu)
  obtain⟨h1,h2⟩:=hb k J hk
  rw[h2];exact(OW h1).2 _ (hu.fit k hk)
 .have ring:pO S' (M (ws' i)) fun j=>j<S'.n/\aii j=aii i:=fun u hu a b ha KK=>by
   have h1:=hr a i ha.1 hi ha.2
   have h2:=hr b i KK.1 hi KK.2
   by_cases c:i<S.n
   .rw[hw i c]at hu
    refine(h.ring i i c c O).2.2.2 u (ass _ u hu) a b ?_ ?_
    .rcases h1 with e1|e1
     .rw[e1];exact⟨c,rfl⟩
     exact⟨e1.1,e1.2.2⟩
    rcases h2 with e1|e1
    .rw[e1];exact⟨c,rfl⟩
    exact⟨e1.1,e1.2.2⟩
   have ea:a=i:=h1.resolve_right fun q=>c q.2.1
   have eb:b=i:=h2.resolve_right fun q=>c q.2.1
   rw[ea,eb];exact fun _ _=>rfl
  rcases hr i k hi hk e with e1|⟨c1,c2,e1⟩
  .subst e1;exact⟨rfl,fun _ _=>rfl,rfl,ring⟩
  obtain⟨r1,r2,r3,_⟩:=h.ring i k c1 c2 e1
  exact⟨by rw[hs i c1,hs k c2];exact r1,by rw[hv i c1,hv k c2];exact r2,by rw[hw i c1,hw k c2];exact r3,ring⟩
 have ho:=(h.ok i hi).1
 have hold:=h.hold i hi hp
 have fv:py S v':=fun j hj=>by rw[hv j hj];exact h.low.fit j hj
 have e1:cR ((Q i).ev v') ((Q i).ev v)=true:=ho.Pu _ _ fv h.low.fit fun j hj=>by rw[hv j (ho.lt j hj)];exact jJ _
 unfold eW sH.rhs at hold⊢
 cases ht:(Q i).to with
 |none=>rw[ht]at hold;exact eX e1 hold
 |some x=>
  rw[ht]at hold
  show cR _ (v' x)=true
  rw[hv x (ho.to x ht).1]
  exact eX e1 hold
theorem lZ.congr(h:lZ S Q y N M v ws rep P)(hq:∀i,i<N->Q' i=Q i/\y' i=y i):lZ S Q' y' N M v ws rep P:=by
 refine⟨fun i hi=>by rw[(hq i hi).1,(hq i hi).2];exact h.ok i hi,fun a q ha=> ?_,h.mok,⟨h.low.fit,fun u hu=>h.low.low u ⟨hu.fit,fun q ⟨i,hi,e⟩=>hu.hold q ⟨i,hi,by rw[(hq i hi).1];exact e⟩⟩⟩,h.why,h.ring,fun i hi hp=>by rw[(hq i hi).1];exact h.hold i hi hp⟩
 obtain⟨i,hi,e⟩:=h.all a q ha
 exact⟨i,hi,by rw[(hq i hi).1];exact e⟩
end
theorem BS.var{s:NP}(h:BS s){l:Int}(hl:0<=l/\l<s.an.length){e:El}(hn:s.ai.length<1000):BS (pz s l e):=by
 have hln:(bk (RE s.cs)).length=(bk s.cs).length+1:=by
  show((bk s.cs)++[(bk s.cs).length]).length=_
  simp
 have h1:=h.S2;have h2:=h.NU;have h3:=h.ni;have h4:=h.NV;have h5:=h.hlt
 refine⟨by simp[pz,h1],by simp[pz,h2],by show(bk (RE s.cs)).length=_;rw[hln];simp[pz,h3],by simp[pz];omega,h.Wc,h.hqn,fun q hq=> ?_,by simp[pz,h5],fun k hk=> ?_,fun k hk=> ?_⟩
 .have:=h.hqo q hq
  refine⟨this.aT,this.code,?_,fun hp=> ?_,fun v hv=> ?_⟩
  .have:=this.to;simp[pz];omega
  .have:=this.pl hp;simp[pz];omega
  have:=this.vars v hv;simp[pz];omega
 .show 0<=(s.aT++[l]).getD k 0/\(s.aT++[l]).getD k 0<s.an.length
  rw[Ms]
  by_cases c:k<s.aT.length
  .rw[aQ c];exact h.hlr k c
  have:k=s.aT.length:=by simp[pz]at hk;omega
  rw[aP c,aQ this];exact hl
 show((s.us++[[]]).getD k []).length<=1000/\∀i∈(s.us++[[]]).getD k [],0<=i/\i<(s.qs.length:Int)
 rw[Ms]
 by_cases c:k<s.us.length
 .rw[aQ c];exact h.vN k c
 rw[aP c]
 split<;>exact⟨az,fun i hi=>by cases hi⟩
theorem yb.var{s:NP}(h:yb s){l:Int}(hl:0<=l/\l<s.an.length)(hs:qY (s.an.getD l.toNat oK).p.sh=true){e:El}(he:e=gZ (s.an.getD l.toNat oK).p.sh eU)(hn:s.ai.length<1000):yb (pz s l e):=by
 have hok:=h.ok
 have h1:=hok.S2;have h3:=hok.ni;have h5:=hok.hlt
 have el:(pz s l e).ai.length=s.ai.length+1:=by simp[pz]
 have hsh:∀i,i<s.ai.length->(j7 s.an (s.aT++[l]) (s.ai.length+1)).sh i=(j7 s.an s.aT s.ai.length).sh i:=fun i hi=>by
  show(s.an.getD ((s.aT++[l]).getD i 0).toNat oK).p.sh=(s.an.getD (s.aT.getD i 0).toNat oK).p.sh
  rw[nN J]
 have hq:∀i,sM s.an (s.ai.length+1) (s.qs.getD i cQ)=sM s.an s.ai.length (s.qs.getD i cQ):=fun i=>by
  by_cases c:i<s.qs.length
  .have hm:=dc (d:=cQ) (l:=s.qs) (k:=(i:Int)) J J
   rw[dN]at hm
   exact aih (h.fit _ hm).1 J O
  rw[eE,mX J]
  exact My (fun x hx=>by cases hx) J
 have hM:NW s.an (s.ai.length+1) s.qs=NW s.an s.ai.length s.qs:=by
  funext a q
  unfold NW
  exact propext ⟨fun⟨i,h1,h2,h3⟩=>⟨i,h1,by rw[<-hq];exact h2,h3⟩,fun⟨i,h1,h2,h3⟩=>⟨i,h1,by rw[hq];exact h2,h3⟩⟩
 refine⟨hok.var hl hn,fun q hq2=> ?_,?_,?_,?_⟩
 .obtain⟨hf,hv⟩:=h.fit q hq2
  rw[el]
  refine⟨⟨hf.right,fun x hx ho=> ?_,hf.con,hf.to0,fun h0=> ?_⟩,hv⟩
  .obtain⟨a,b,c⟩:=hf.var x hx ho
   have b':x.n<(s.ai.length:Int):=b
   exact⟨a,by show x.n<((s.ai.length+1:Nat):Int);omega,(hsh _ J).trans c⟩
  obtain⟨b,c⟩:=hf.to1 h0
  have b':q.to.var<(s.ai.length:Int):=b
  exact⟨by show q.to.var<((s.ai.length+1:Nat):Int);omega,(hsh _ J).trans c⟩
 .rw[el,wV,gA]
  show s.us++[[]]=_
  rw[h.us]
  have:xo s.qs s.ai.length=[]:=by
   refine Qd.2 fun i hi=> ?_
   obtain⟨h1,h2⟩:=BW.1 hi
   have:=(hok.hqo _ (dc (d:=cQ) (l:=s.qs) h1.1 h1.2)).vars _ h2
   omega
  show _=(List.range s.ai.length).map (xo s.qs)++[xo s.qs s.ai.length]
  rw[this]
 .intro i hi
  show cg (bk s.cs++[(bk s.cs).length]) i<=i/\cg (bk s.cs++[(bk s.cs).length]) (cg (bk s.cs++[(bk s.cs).length]) i)=cg (bk s.cs++[(bk s.cs).length]) i
  have hi2:i<(bk s.cs).length+1:=by
   have:(bk (RE s.cs)).length=(bk s.cs).length+1:=by show((bk s.cs)++[(bk s.cs).length]).length=_;simp
   exact this▸hi
  by_cases c:i<(bk s.cs).length
  .have q:=h.cl i c
   have e1:cg (bk s.cs++[(bk s.cs).length]) i=cg (bk s.cs) i:=nN c
   have e2:cg (bk s.cs++[(bk s.cs).length]) (cg (bk s.cs) i)=cg (bk s.cs) (cg (bk s.cs) i):=nN J
   rw[e1,e2];exact q
  have e1:cg (bk s.cs++[(bk s.cs).length]) i=i:=(rQ J).trans J
  rw[e1,e1];exact⟨eG _,rfl⟩
 rw[el]
 show lZ (j7 s.an (s.aT++[l]) (s.ai.length+1)) (fun i=>sM s.an (s.ai.length+1) (s.qs.getD i cQ)) (fun i=>(s.qs.getD i cQ).why) s.qs.length (NW s.an (s.ai.length+1) s.qs) (vQ (s.ai++[e])) (wQ (s.aX++[0])) (cg (bk s.cs++[(bk s.cs).length])) fun i=>s.sn<=i
 rw[hM,show(fun i=>sM s.an (s.ai.length+1) (s.qs.getD i cQ))=fun i=>sM s.an s.ai.length (s.qs.getD i cQ)from funext hq]
 refine h.si.wide (S':=j7 s.an (s.aT++[l]) (s.ai.length+1)) (Gx _) hsh (fun i hi=>nN hi) (fun i hi=>nN (by have:i<s.ai.length:=hi;omega)) (fun i h1 h2=> ?_) fun i k hi hk he=> ?_
 .have h1':s.ai.length<=i:=h1
  have h2':i<s.ai.length+1:=h2
  have e1:(j7 s.an (s.aT++[l]) (s.ai.length+1)).sh i=(s.an.getD l.toNat oK).p.sh:=by
   show(s.an.getD ((s.aT++[l]).getD i 0).toNat oK).p.sh=_
   rw[rQ J]
  rw[e1]
  exact⟨hs,(rQ J).trans he⟩
 have hi':i<s.ai.length+1:=hi
 have hk':k<s.ai.length+1:=hk
 have hc:∀j,j<s.ai.length->cg (bk s.cs++[(bk s.cs).length]) j=cg (bk s.cs) j/\cg (bk s.cs) j<=j:=fun j hj=>⟨nN J,(h.cl j J).1⟩
 have hd:cg (bk s.cs++[(bk s.cs).length]) s.ai.length=s.ai.length:=(rQ J).trans J
 by_cases c1:i<s.ai.length<;>by_cases c2:k<s.ai.length
 .rw[(hc i c1).1,(hc k c2).1]at he
  exact .inr ⟨c1,c2,he⟩
 .have:k=s.ai.length:=J
  subst this
  rw[(hc i c1).1,hd]at he
  have:=(hc i c1).2;omega
 .have:i=s.ai.length:=J
  subst this
  rw[(hc k c2).1,hd]at he
  have:=(hc k c2).2;omega
 exact .inl J
theorem ac4{qs:List de}{q:de}{k:Nat}:xo (qs++[q]) k=xo qs k++if(k:Int)∈q.vars then[(qs.length:Int)]else[]:=by
 unfold xo
 rw[cV,gk,wV,Qp,gA]
 congr 1
 .congr 1
  refine List.filter_congr fun i hi=> ?_
  rw[nN (oL.1 hi)]
 rw[A9,rQ O]
 by_cases c:(k:Int)∈q.vars
 .rw[aQ KI,aQ c];rfl
 rw[aP KI,aP c];rfl
structure Mz(s:NP)(q:de):Prop where
 aT:0<=q.aT/\q.aT<s.an.length
 code:q.code.length<=1000
 fit:Yo (j7 s.an s.aT s.ai.length) (ya s.an q) q.code q.to
 vars:q.vars=dw q.code
theorem Mz.vin{s:NP}{q:de}(h:Mz s q):∀v∈q.vars,0<=v/\v<s.ai.length:=fun v hv=>by
 rw[h.vars]at hv
 obtain⟨x,hx,ho,h0,rfl⟩:=rO.1 hv
 have:x.n<(s.ai.length:Int):=(h.fit.var x hx ho).2.1
 exact⟨h0,this⟩
theorem Mz.nd{s:NP}{q:de}(h:Mz s q):q.vars.Nodup:=by
 rw[h.vars]
 exact(Mi q.code).imp fun h=>by omega
theorem Mz.qok{s:NP}{q:de}(h:Mz s q):QOk s.an.length s.ai.length q:=by
 refine⟨h.aT,h.code,?_,fun hp=> ?_,h.vin⟩
 .by_cases c:q.to.var<0
  .omega
  have:q.to.var<(s.ai.length:Int):=(h.fit.to1 J).1
  exact this
 obtain⟨a,b,_,_⟩:=Dw h.fit h.vars hp
 obtain⟨y,hy,ho,h0⟩:=FO hp
 have:=h.fit.var y (by rw[hy];simp) ho
 refine⟨?_,a⟩
 rw[h.vars,hy];unfold dw;simp[ho,this.1,sI]
theorem amS{qs:List de}{k:Nat}:(xo qs k).length<=qs.length/\∀i∈xo qs k,0<=i/\i<(qs.length:Int):=by grind[BW,xo]
theorem aaQ{s:NP}{q:de}(hu:s.us=(List.range s.ai.length).map (xo s.qs))(hf:Mz s q):(AB s q).us=(List.range s.ai.length).map (xo (s.qs++[q])):=by
 have hl:s.us.length=s.ai.length:=by rw[hu];simp
 apply sY
 intro k
 show(q.vars.foldl (EJ (s.qs.length:Int)) s.us)[k]?=_
 by_cases c:k<s.ai.length
 .have e1:=BV (i:=(s.qs.length:Int)) (u:=s.us) (k:=k) hf.nd fun v hv=>by have:=hf.vin v hv;omega
  have lk:k<(q.vars.foldl (EJ (s.qs.length:Int)) s.us).length:=by rw[oW];omega
  rw[getD_eq lk]at e1
  rw[ef lk,e1,p5,yA c,p7,ac4]
  congr 2
  rw[hu,eE,p5,yA c];rfl
 rw[mX (by rw[oW];omega),mX iF]
theorem BS.add{s:NP}(h:BS s)(hu:s.us=(List.range s.ai.length).map (xo s.qs)){q:de}(hf:Mz s q)(hn:s.qs.length<1000):BS (AB s q):=by
 have h2:=h.NU
 refine⟨h.S2,by show(q.vars.foldl _ s.us).length=_;rw[oW];exact h2,h.ni,h.NV,?_,by simp[AB];omega,fun p hp=> ?_,h.hlt,h.hlr,fun k hk=> ?_⟩
 .have:=h.Wc;simp[AB];omega
 .rcases eP.1 hp with c|c
  .exact h.hqo p c
  rw[fZ.1 c];exact hf.qok
 have CQ:k<s.us.length:=by have:k<(q.vars.foldl (EJ (s.qs.length:Int)) s.us).length:=hk;rwa[oW]at this
 rw[aaQ hu hf,eE,p5,yA J,p7,Qw]
 have:=amS (qs:=s.qs++[q]) (k:=k)
 rw[cV,gk]at this
 exact⟨J,fun i hi=>by have:=this.2 i hi;show 0<=i/\i<((s.qs++[q]).length:Int);rw[cV,gk];exact this⟩
theorem yb.add{s:NP}(h:yb s){q:de}(hf:Mz s q)(hn:s.qs.length<1000):yb (AB s q):=by
 have hu:=aaQ h.us hf
 have e0:sM s.an s.ai.length ((s.qs++[q]).getD s.qs.length cQ)=sM s.an s.ai.length q:=by rw[rQ O]
 have e1:∀i,i<s.qs.length->(s.qs++[q]).getD i cQ=s.qs.getD i cQ:=fun i hi=>nN hi
 have hsub:∀a p,NW s.an s.ai.length s.qs a p->NW s.an s.ai.length (s.qs++[q]) a p:=fun a p ⟨i,hi,h1,h2⟩=>⟨i,by simp;omega,by rw[e1 i hi];exact h1,by rw[e1 i hi];exact h2⟩
 refine⟨h.ok.add h.us hf hn,fun p hp=> ?_,hu,h.cl,?_⟩
 .rcases eP.1 hp with c|c
  .exact h.fit p c
  rw[fZ.1 c];exact⟨hf.fit,hf.vars⟩
 show lZ (j7 s.an s.aT s.ai.length) (fun i=>sM s.an s.ai.length ((s.qs++[q]).getD i cQ)) (fun i=>((s.qs++[q]).getD i cQ).why) (s.qs++[q]).length (NW s.an s.ai.length (s.qs++[q])) (vQ s.ai) (wQ s.aX) (cg (bk s.cs)) fun i=>s.sn<=i
 have hl:(s.qs++[q]).length=s.qs.length+1:=az
 rw[hl]
 refine lZ.more (h.si.congr fun i hi=>⟨by rw[e1 i hi],by rw[e1 i hi]⟩) ?_ ?_ ?_ hsub (fun a p ⟨i,hi,h1,h2⟩=>⟨i,by rw[hl]at hi;exact hi,h1⟩) h.si.why (by have:=h.ok.Wc;omega) fun i hi hp=>hp
 .show tQ _ (sM s.an s.ai.length ((s.qs++[q]).getD s.qs.length cQ))
  rw[e0];exact ahz hf.fit
 .show NW _ _ _ ((s.qs++[q]).getD s.qs.length cQ).why (sM s.an s.ai.length ((s.qs++[q]).getD s.qs.length cQ))
  exact⟨s.qs.length,by rw[hl];omega,rfl,sy _⟩
 exact fun a b p hab ⟨i,hi,h1,h2⟩=>⟨i,hi,h1,lD h2 hab⟩
theorem yb.start{s:NP}(h1:s.aT=[])(h2:s.ai=[])(h3:s.aX=[])(h4:s.us=[])(h5:s.qs=[])(h6:s.sn=0)(h7:s.cs=[[]]):yb s:=by
 obtain⟨an,aT,ai,aX,us,qs,sn,cs,sk,wy,wr⟩:=s
 simp only at h1 h2 h3 h4 h5 h6 h7
 subst h1;subst h2;subst h3;subst h4;subst h5;subst h6;subst h7
 refine⟨⟨rfl,rfl,rfl,az,az,az,(fun q hq=>by cases hq),rfl,(fun k hk=>by cases hk),fun k hk=>by cases hk⟩,(fun q hq=>by cases hq),rfl,(fun i hi=>by cases hi),?_⟩
 have hM:∀a q,¬NW an 0 [] a q:=fun a q ⟨i,hi,_⟩=>by cases hi
 exact(lZ.start (P:=fun i=>(0:Int)<=i) hM (fun i hi=>by cases hi) (fun i hi=>by cases hi)).aif fun i k hi=>by cases hi
def yc(S:Sys)(Q:sH->Prop):Prop:=∃u,py S u/\∀q,Q q->eW q u
theorem yc.sol{S:Sys}{Q:sH->Prop}{u:Va}(h:py S u)(hq:∀q,Q q->eW q u):tZ S Q u:=⟨h,fun q h1 _=>hq q h1⟩
theorem yc.less{S:Sys}{Q Q':sH->Prop}(h:yc S Q')(hq:∀q,Q q->Q' q):yc S Q:=by
 obtain⟨u,h1,h2⟩:=h
 exact⟨u,h1,fun q MA=>h2 q (hq q MA)⟩
def QN(s:NP):sH->Prop:=fun q=>∃i,i<s.qs.length/\q=sM s.an s.ai.length (s.qs.getD i cQ)
abbrev SN(s:NP):Sys:=j7 s.an s.aT s.ai.length
abbrev MN(s:NP):Qm:=NW s.an s.ai.length s.qs
def aEE(s:NP)(c:x9)(cs:List (List Nat)):NP:=NP.mk s.an s.aT c.ai c.aX s.us s.qs s.qs.length cs s.sk s.wy s.wr
theorem yb.settled{s:NP}(h:yb s){us:List iW}(vN:mO us=s.us){c:x9}(hj:JN s (bk (oE us s).cs) c)(hw:c.wl=[]):
  yb (aEE s c (oE us s).cs)/\rN (SN s) (QN s) (vQ c.ai)/\(∀q,QN s q->eW q (vQ c.ai))/\EE (SN s) (MN s) (vQ c.ai) (wQ c.aX):=by
 obtain⟨_,j1,j2,_⟩:=RZ h vN
 have si:=hj.si.ah0 (P':=fun _=>False) fun i hi q=>by
  rcases q with q|q
  .rw[hw]at q;cases q
  exact q
 have hv:c.ai.length=s.ai.length:=hj.ck.lv
 have hy:c.aX.length=s.ai.length:=hj.ck.ly
 have hk:=h.ok
 refine⟨⟨⟨hy.trans hv.symm,hk.NU.trans hv.symm,j2.trans hv.symm,by show c.ai.length<=1000;rw[hv];exact hk.NV,⟨Ke _,lm _⟩,hk.hqn,?_,hk.hlt.trans hv.symm,hk.hlr,hk.vN⟩,?_,?_,j1,?_⟩,si.done.1,fun q ⟨i,hi,e⟩=>e▸si.done.2 i hi,si.why⟩
 .show Yu s.an.length c.ai.length s.qs;rw[hv];exact hk.hqo
 .show U3 s.an s.aT c.ai.length s.qs;rw[hv];exact h.fit
 .show s.us=(List.range c.ai.length).map (xo s.qs);rw[hv];exact h.us
 show lZ (j7 s.an s.aT c.ai.length) (fun i=>sM s.an c.ai.length (s.qs.getD i cQ)) (fun i=>(s.qs.getD i cQ).why) s.qs.length (NW s.an c.ai.length s.qs) (vQ c.ai) (wQ c.aX) (cg (bk (oE us s).cs)) fun i=>(s.qs.length:Int)<=i
 rw[hv]
 exact si.ah0 fun i hi q=>q.elim
theorem yb.stuck{s:NP}(h:yb s){us:List iW}(vN:mO us=s.us){c:x9}(hj:JN s (bk (oE us s).cs) c){wy S3:BitVec 64}(hr:SpR (bk (oE us s).cs) us s.an s.qs c false wy S3):¬yc (SN s) (QN s)/\¬yc (SN s) (MN s S3):=by
 rcases hr with⟨q,_⟩|⟨_,x,wl,hw,hl,hy⟩
 .cases q
 obtain⟨ai,aX,cwl,wi⟩:=c
 simp only at hw hl hy
 subst hw
 obtain⟨hx,ck⟩:=hj.ck.take
 have XQ:x.toNat<s.qs.length:=J
 obtain⟨hf,hvs⟩:=h.fit _ (dc (d:=cQ) hx.1 hx.2)
 have lv:ai.length=s.ai.length:=hj.ck.lv
 have si:=hj.si
 simp only at si
 have key:(s.qs.getD x.toNat cQ).to.var<0/\¬eW (sM s.an s.ai.length (s.qs.getD x.toNat cQ)) (vQ ai)/\S3=N9 (s.qs.getD x.toNat cQ).why (wQ aX) (sM s.an s.ai.length (s.qs.getD x.toNat cQ)).vars:=by
  rw[FP hvs,<-RV,RW lv]
  generalize s.qs.getD x.toNat cQ=q at*
  unfold mP at hl hy
  split at hl
  .cases hl
  rename_i c1
  rw[aP c1]at hy
  split at hl
  .rename_i c2
   rw[aQ c2]at hy
   split at hl
   .cases hl
   rename_i c3
   rw[aP c3]at hy
   exact⟨c2,by rw[aQ c2];exact c3,hy⟩
  split at hl
  .cases hl
  .cases hl
 obtain⟨k1,k2,k3⟩:=key
 have hto:(sM s.an s.ai.length (s.qs.getD x.toNat cQ)).to=none:=by rw[ao1,aQ k1]
 obtain⟨s1,s2⟩:=si.stuck XQ hto k2
 have hmem:=(si.ok x.toNat XQ).2
 rw[<-k3]at s2
 refine⟨fun⟨u,h1,h2⟩=>s1 u (yc.sol h1 h2) (h2 _ ⟨_,XQ,rfl⟩),fun⟨u,h1,h2⟩=>s2 u (yc.sol h1 h2) (h2 _ ?_)⟩
 rw[k3]
 exact si.mok _ _ _ (FI _ _ _).1 hmem
def EL(s:lM)(v:List El):Va:=fun i=>if(s.vars.getD i gD).kind=1 then v.getD i dy else gZ (j4 s (s.vars.getD i gD).aT) eU
def E1(s:lM)(x:ia):sH:=BO s.vars.length (j4 s x.aT) x.code x.to
def QP(s:lM)(l:List ia):sH->Prop:=fun q=>∃x∈l,x.op=8/\q=E1 s x
section
variable{s:lM}{l:List ia}{v:List El}{x:ia}
theorem JX(h:j5 s x=true)(ho:x.op=8):(0<=x.aT/\x.aT<s.an.length)/\codeOk s x.aT x.code=true/\lF s x.aT x.to=true:=by grind[j5]
theorem aaR{v kd aT:Int}(h:qj s v kd aT=true):(0<=v/\v<s.vars.length)/\(s.vars.getD v.toNat gD).kind=kd/\(s.vars.getD v.toNat gD).aT=aT:=by grind[qj]
theorem amT(h:codeOk s x.aT x.code=true){y:dK}(hy:y∈x.code)(ho:y.op=1):(0<=y.n/\y.n<s.vars.length)/\(s.vars.getD y.n.toNat gD).kind=1:=by
 simp only[codeOk,cH]at h
 have h2:=iC.1 h.1 y hy
 simp only[uQ,cH,ou,A8,wg]at h2
 have:=aaR (h2.1.resolve_left fun q=>q ho)
 exact⟨this.1,this.2.1⟩
theorem ast(h:j5 s x=true)(ho:x.op=8):tQ (j6 s) (E1 s x):=by
 obtain⟨h1,h2,h3⟩:=JX h ho
 exact ahz (asd h2 h3)
theorem YD(h:j5 s x=true)(ho:x.op=8)(hv:v.length=s.vars.length):(E1 s x).ev (EL s v)=(fP (j4 s x.aT) x.code v).1:=by
 obtain⟨h1,h2,h3⟩:=JX h ho
 show(fP _ _ ((List.range s.vars.length).map (EL s v))).1=_
 congr 1
 refine IB fun y hy hp=> ?_
 obtain⟨⟨a,b⟩,c⟩:=amT h2 hy hp
 refine⟨a,by simp;omega,J,?_⟩
 rw[pP J]
 unfold EL
 rw[aQ c]
theorem aij(h:j5 s x=true)(ho:x.op=8)(ht:0<=x.to.var):x.to.var<s.vars.length/\(E1 s x).to=some x.to.var.toNat/\EL s v x.to.var.toNat=v.getD x.to.var.toNat dy/\(s.vars.getD x.to.var.toNat gD).kind=1:=by
 obtain⟨h1,h2,h3⟩:=JX h ho
 rw[lF,aP J]at h3
 obtain⟨a,b,c⟩:=aaR h3
 refine⟨a.2,?_,by unfold EL;rw[aQ b],b⟩
 show(if x.to.var<0 then none else some x.to.var.toNat)=_
 rw[aP J]
theorem asu(h:j5 s x=true)(ho:x.op=8)(ht:0<=x.to.var)(hv:v.length=s.vars.length):eW (E1 s x) (EL s v)↔cR (fP (j4 s x.aT) x.code v).1 (v.getD x.to.var.toNat dy)=true:=by
 obtain⟨_,h2,h3,_⟩:=aij (v:=v) h ho ht
 unfold eW sH.rhs
 rw[YD h ho hv,h2]
 simp only
 rw[h3]
theorem asv(h:j5 s x=true)(ho:x.op=8)(ht:x.to.var<0)(hv:v.length=s.vars.length):(E1 s x).to=none/\(eW (E1 s x) (EL s v)↔cR (fP (j4 s x.aT) x.code v).1 x.to.c=true):=by
 have h2:(E1 s x).to=none:=by
  show(if x.to.var<0 then none else some x.to.var.toNat)=_
  rw[aQ ht]
 refine⟨h2,?_⟩
 unfold eW sH.rhs
 rw[YD h ho hv,h2];exact Bj
structure YE(s:lM)(l:List ia)(v:List El):Prop where
 len:v.length=s.vars.length
 low:BN (j6 s) (QP s l) (EL s v)
theorem BX(h:iJ s=true):(s.an.length<=16/\s.vars.length<=64)/\(∀x∈s.an,qY x.Aa.sh=true)/\∀v∈s.vars,(v.kind=1\/v.kind=2)/\0<=v.aT/\v.aT<s.an.length:=by grind[iJ,LQ,KG]
theorem asw(h:iJ s=true):∀i,i<(j6 s).n->qY ((j6 s).sh i)=true:=by grind[iJ,j6,qY,BX,gD,getD_eq,j4,dc]
theorem YE.start(h:iJ s=true):YE s l (arq s.sc).labels:=by
 refine⟨by show(s.vars.map (ach s.sc)).length=_;simp,aaE (asw h) fun i hi=> ?_⟩
 have hi':i<s.vars.length:=hi
 obtain⟨_,h2,h3⟩:=BX h
 have hv:=h3 (s.vars.getD i gD) (by rw[getD_eq hi'];exact p6 hi')
 show EL s (s.vars.map (ach s.sc)) i=gZ (j4 s (s.vars.getD i gD).aT) eU
 unfold EL
 by_cases c:(s.vars.getD i gD).kind=1
 .rw[aQ c,eE,p5,ef hi']
  rw[getD_eq hi']at c hv⊢
  show ach s.sc s.vars[i]=_
  unfold ach
  rw[aQ ⟨c,hv.2.1,by show _<((s.an.map fun l=>l.Aa.sh).length:Int);rw[gj];exact hv.2.2⟩]
  congr 1
  show(s.an.map fun l=>l.Aa.sh).getD _ _=(s.an.getD _ nj).Aa.sh
  have:(s.vars[i]).aT.toNat<s.an.length:=by have:=hv.2;omega
  rw[eE,p5,ef this,eE,ef this];rfl
 rw[aP c]
def asx(s:lM)(v:List El):Nat:=(oC (j6 s) (fun _=>1) (EL s v) s.vars.length).toNat
theorem aik{k:Nat}{e:El}(hk:k<v.length)(hc:(s.vars.getD k gD).kind=1):EL s (v.set k e)=FH (EL s v) k e:=by
 funext i
 show(if(s.vars.getD i gD).kind=1 then(v.set k e).getD i dy else gZ (j4 s (s.vars.getD i gD).aT) eU)=if i=k then e else if(s.vars.getD i gD).kind=1 then v.getD i dy else gZ (j4 s (s.vars.getD i gD).aT) eU
 by_cases c:i=k
 .subst c
  rw[aQ hc,aQ O,eE,uq,aQ O,aQ hk];rfl
 rw[aP c]
 by_cases d:(s.vars.getD i gD).kind=1
 .rw[aQ d,aQ d,eE,uq,aP fun q=>c q.symm,<-eE]
 rw[aP d,aP d]
theorem YE.raise(h:YE s l v)(hm:x∈l)(ha:j5 s x=true)(ho:x.op=8)(ht:0<=x.to.var)(hn:¬cR (fP (j4 s x.aT) x.code v).1 (v.getD x.to.var.toNat dy)=true):
  YE s l (v.set x.to.var.toNat (fC (j4 s x.aT) (v.getD x.to.var.toNat dy) (fP (j4 s x.aT) x.code v).1))/\asx s (v.set x.to.var.toNat (fC (j4 s x.aT) (v.getD x.to.var.toNat dy) (fP (j4 s x.aT) x.code v).1))<asx s v:=by
 obtain⟨t1,t2,t3,t4⟩:=aij (v:=v) ha ho ht
 have hk:x.to.var.toNat<v.length:=by have:=h.len;omega
 have io:=ast ha ho
 have e1:=YD (v:=v) ha ho h.len
 have es:=aik (e:=fC (j4 s x.aT) (v.getD x.to.var.toNat dy) (fP (j4 s x.aT) x.code v).1) hk t4
 have hl:=h.low.raise ⟨x,hm,ho,rfl⟩ io t2
 rw[e1,t3]at hl
 have hks:=io.to _ t2
 have fk:=h.low.fit _ hks.1
 rw[hks.2,t3]at fk
 have fe:=io.fit _ h.low.fit
 rw[e1]at fe
 have fj:=Hq fk fe
 have up:=XO fk fe
 have hp:=Pv (S:=j6 s) (U:=fun _=>1) (v:=EL s v) (k:=x.to.var.toNat) (e:=fC (j4 s x.aT) (v.getD x.to.var.toNat dy) (fP (j4 s x.aT) x.code v).1) h.low.fit hks.1 (by rw[hks.2];exact fj) (by rw[t3];exact up.1) fun q=>hn (by
  rw[t3]at q
  exact eX up.2 (kM q))
 refine⟨⟨by rw[mM];exact h.len,by rw[es];exact hl⟩,?_⟩
 have h0:=JU (U:=fun _=>1) hl.fit s.vars.length (eG _)
 unfold asx
 rw[es]
 have Pd:(j6 s).n=s.vars.length:=rfl
 have ej:(E1 s x).sh=j4 s x.aT:=rfl
 rw[ej]at h0
 rw[Pd]at hp
 omega
theorem YE.done(h:YE s l v)(ha:∀x∈l,j5 s x=true)(hh:∀x∈l,x.op=8->0<=x.to.var->cR (fP (j4 s x.aT) x.code v).1 (v.getD x.to.var.toNat dy)=true):rN (j6 s) (QP s l) (EL s v):=by
 refine⟨h.low,?_⟩
 rintro q ⟨x,hx,ho,rfl⟩ hq
 by_cases c:0<=x.to.var
 .exact(asu (ha x hx) ho c h.len).2 (hh x hx ho c)
 exact absurd (asv (ha x hx) ho J h.len).1 hq
theorem MB{p:pM}(h:nn p=true):iJ p.s=true/\∀x∈p.bE,j5 p.s x=true:=by grind[nn]
end
structure n5(s:NP):Prop where
 ns:yb s
 lw:∀x∈s.an,qY x.p.sh=true/\x.low=gZ x.p.sh eU
 nv:s.ai.length<=128
 nq:s.qs.length<=64
 wy:s.sk=false->s.wy=0
theorem aaS{α:Type}{F:α->Int}{b:Int}:∀{l:List α},(∀x∈l,F x<=b)->(l.map F).sum<=b*l.length
 |[],_=>by simp
 |a::l,h=>by
  have h1:=h a az
  have h2:=aaS (l:=l) fun x hx=>h x (fw _ hx)
  rw[lf,D4,eO,show((l.length+1:Nat):Int)=(l.length:Int)+1 by omega,Int.mul_add,Int.mul_one]
  omega
theorem n5.mu{s:NP}(h:n5 s):muM s<=4200000:=by
 have hq:∀q∈s.qs,gd (ya s.an q)*(q.vars.length:Int)<=65536:=fun q hq=>by
  have hl:=h.ns.ok.hqo q hq
  have hs:qY (ya s.an q)=true:=(h.lw _ (dc hl.aT.1 hl.aT.2)).1
  have h1:0<=gd (ya s.an q)/\gd (ya s.an q)<=512:=by
   rw[gd,aQ hs];exact alE hs J J
  have h2:q.vars.length<=s.ai.length:=by
   have hn:(q.vars.map Int.toNat).Nodup:=by
    have e:q.vars.Nodup:=by rw[(h.ns.fit q hq).2];exact U1 q.code
    refine List.Pairwise.map _ ?_ (aej (S:=fun a b=>a.toNat≠b.toNat) ?_ e)
    .exact fun a b q=>q
    intro a b ha hb hab c
    have:=hl.vars a ha;have:=hl.vars b hb
    exact hab J
   have h3:(q.vars.map Int.toNat).length<=(List.range s.ai.length).length:=hn.length_le_of_subset fun x hx=>by
    obtain⟨a,ha,rfl⟩:=fU.1 hx
    have:=hl.vars a ha
    exact oL.2 J
   simpa using h3
  have h4:=h.nv
  have h5:gd (ya s.an q)*(q.vars.length:Int)<=512*128:=Int.mul_le_mul h1.2 J J J
  omega
 have h1:=aaS hq
 have h2:=h.nq
 unfold muM
 omega
structure asy(s s':NP)(ok:Bool):Prop where
 net:n5 s'
 an:s'.an=s.an
 aT:s'.aT=s.aT
 qs:s'.qs=s.qs
 len:s'.ai.length=s.ai.length
 sk:s'.sk= !ok
 wr:s'.wr=s.wr
 yes:ok=true->rN (SN s) (QN s) (vQ s'.ai)/\(∀q,QN s q->eW q (vQ s'.ai))/\EE (SN s) (MN s) (vQ s'.ai) (wQ s'.aX)
 no:ok=false->s'.ai=s.ai/\s'.aX=s.aX/\¬yc (SN s) (QN s)/\¬yc (SN s) (MN s s'.wy)
theorem yb.skw{s:NP}(h:yb s)(b:Bool)(y:BitVec 64):yb {s with sk:=b,wy:=y}:=⟨⟨h.ok.S2,h.ok.NU,h.ok.ni,h.ok.NV,h.ok.Wc,h.ok.hqn,h.ok.hqo,h.ok.hlt,h.ok.hlr,h.ok.vN⟩,h.fit,h.us,h.cl,h.si⟩
theorem asA{s:NP}(h:n5 s)(hk:s.sk=false){us:List iW}(vN:mO us=s.us){c:x9}{ok:Bool}{S3:BitVec 64}(hr:SpR (bk (oE us s).cs) us s.an s.qs c ok s.wy S3)(hj:JN s (bk (oE us s).cs) c):
  asy s (if ok then(NP.mk s.an s.aT c.ai c.aX s.us s.qs s.qs.length (oE us s).cs s.sk s.wy s.wr)else{s with sk:=true,wy:=S3}) ok:=by
 cases ok with
 |true=>
  rcases hr with⟨_,hw,_⟩|⟨q,_⟩
  .obtain⟨h1,h2,h3,h4⟩:=h.ns.settled vN hj hw
   have hv:c.ai.length=s.ai.length:=hj.ck.lv
   exact⟨⟨h1,h.lw,by show c.ai.length<=128;rw[hv];exact h.nv,h.nq,h.wy⟩,rfl,rfl,rfl,hv,hk,rfl,fun _=>⟨h2,h3,h4⟩,fun q=>yL⟩
  .cases q
 |false=>
  obtain⟨h1,h2⟩:=h.ns.stuck vN hj hr
  exact⟨⟨h.ns.skw true S3,h.lw,h.nv,h.nq,fun q=>yL⟩,rfl,rfl,rfl,rfl,rfl,rfl,fun q=>yL,fun _=>⟨rfl,rfl,h1,h2⟩⟩
theorem ac5{s:NP}(h:n5 s){us:List iW}(vN:mO us=s.us):∀cX eA I4 me x,JN s (bk (oE us s).cs) ⟨cX,eA,x::I4,me⟩->∀r,mP (bk (oE us s).cs) us (ya s.an (s.qs.getD x.toNat cQ)) (s.qs.getD x.toNat cQ) cX eA I4 (me.set x.toNat false) s.wy=r->r.ok=true->JN s (bk (oE us s).cs) ⟨r.ai,r.aX,r.wl,r.wi⟩/\muN s.an s.aT s.ai.length s.qs ⟨r.ai,r.aX,r.wl,r.wi⟩<muN s.an s.aT s.ai.length s.qs ⟨cX,eA,x::I4,me⟩:=fun cX eA I4 me x hj r hr hok=>by
 obtain⟨_,_,hl,_⟩:=RZ h.ns vN
 exact hj.look h.ns.fit (Oa.of (vN.trans h.ns.us)) hl hr hok
theorem n5.var{s:NP}(h:n5 s){l:Int}(hl:0<=l/\l<s.an.length)(hn:s.ai.length<128):n5 (pz s l (s.an.getD l.toNat oK).low):=by
 have hx:=h.lw _ (dc (d:=oK) hl.1 hl.2)
 exact⟨h.ns.var hl hx.1 hx.2 J,h.lw,by simp[pz];omega,h.nq,h.wy⟩
theorem n5.add{s:NP}(h:n5 s){q:de}(hf:Mz s q)(hn:s.qs.length<64):n5 (AB s q):=⟨h.ns.add hf J,h.lw,h.nv,by simp[AB];omega,h.wy⟩
structure mR(p:lM)(s:NP):Prop where
 lt:s.an.map (fun x=>x.p.sh)=p.an.map fun l=>l.Aa.sh
 la:s.aT=p.vars.map vI.aT
 nv:s.ai.length=p.vars.length
section
variable{p:lM}{s s':NP}{l:List ia}{x:ia}
theorem mR.sh(h:mR p s)(k:Nat):(s.an.getD k oK).p.sh=(p.an.getD k nj).Aa.sh:=by
 have e:=aK (fun m:List Sh=>m.getD k C1.sh) h.lt
 simp only[eE,p5]at e⊢
 cases h1:s.an[k]?<;>cases h2:p.an[k]?<;>simp only[h1,h2,Option.map_none,p7,Option.getD_none,Qw]at e⊢<;>first|rfl|exact e
theorem mR.len(h:mR p s):s.an.length=p.an.length:=by have:=aK List.length h.lt;simpa using this
theorem mR.aT(h:mR p s)(i:Nat):s.aT.getD i 0=(p.vars.getD i gD).aT:=by grind[mR,gD]
theorem mR.sys(h:mR p s):SN s=j6 p:=by
 show(⟨s.ai.length,fun i=>(s.an.getD (s.aT.getD i 0).toNat oK).p.sh⟩:Sys)=⟨p.vars.length,fun i=>(p.an.getD (p.vars.getD i gD).aT.toNat nj).Aa.sh⟩
 rw[h.nv]
 congr 1
 funext i
 rw[h.aT,h.sh]
theorem mR.same(h:mR p s)(h1:s'.an=s.an)(h2:s'.aT=s.aT)(h3:s'.ai.length=s.ai.length):mR p s':=by grind[mR]
theorem mR.of(h:mR p s)(hl:s.aT.length=s.ai.length)(v k:Int):ofB s.aT v k=true↔(0<=v/\v<p.vars.length)/\(p.vars.getD v.toNat gD).aT=k:=by grind[mR,ofB,gD]
theorem mR.fit(h:mR p s)(hl:s.aT.length=s.ai.length)(ha:j5 p x=true)(ho:x.op=8):vO s.an s.aT x.aT x.code x.to=true:=by
 obtain⟨h1,h2,h3⟩:=JX ha ho
 have e:=h.sh x.aT.toNat
 simp only[codeOk,cH]at h2
 rw[Mr (q:=x.code.length) (by rw[h.len];exact h1) h2.2 J fun j a b=> ?_]
 .unfold Mp
  unfold lF at h3
  by_cases c:x.to.var<0
  .rw[aQ c]at h3⊢
   show cz (s.an.getD x.aT.toNat oK).p.sh _=true
   rw[e];exact h3
  rw[aP c]at h3⊢
  have:=aaR h3
  exact(h.of hl _ _).2 ⟨this.1,this.2.2⟩
 have hi:=iC.1 h2.1 _ (dc (d:=cA) a b)
 simp only[uQ,cH,ou,A8,wg]at hi
 refine BU ?_ ?_
 .rcases hi.1 with q|q
  .exact .inl q
  have:=aaR q
  have:=(h.of hl _ _).2 ⟨this.1,this.2.2⟩
  simp only[ofB,ep]at this
  exact .inr this
 rcases hi.2 with q|q
 .exact .inl q
 refine .inr ?_
 show cz (s.an.getD x.aT.toNat oK).p.sh _=true
 rw[e];exact q
end
theorem R2{s:NP}(hok:BS s){k:Int}{l:List dK}{t:ix}(h:vO s.an s.aT k l t=true)(hl:l.length<=1000)(cv vv:Value)(y:BitVec 64):Mz s ⟨k,cv,l,t,y,vv,dw l⟩:=by
 simp only[vO,cH,ep]at h
 obtain⟨⟨h1,h2⟩,h3,h4⟩:=h
 have of_:∀v,ofB s.aT v k=true->0<=v/\v<(s.ai.length:Int)/\(j7 s.an s.aT s.ai.length).sh v.toNat=shL s.an k:=fun v hv=>by
  simp only[ofB,ep]at hv
  refine⟨hv.1,by have:=hok.hlt;omega,?_⟩
  show(s.an.getD (s.aT.getD v.toNat 0).toNat oK).p.sh=_
  rw[hv.2.2];rfl
 refine⟨h1,hl,⟨h2,fun x hx ho=> ?_,fun x hx ho=> ?_,fun h0=> ?_,fun h0=> ?_⟩,rfl⟩
 .have hi:=iC.1 h3 x hx
  simp only[EI,cH,ou,A8,wg]at hi
  exact of_ _ (hi.1.resolve_left fun q=>q ho)
 .have hi:=iC.1 h3 x hx
  simp only[EI,cH,ou,A8,wg]at hi
  exact hi.2.resolve_left fun q=>q ho
 .rw[Mp,aQ h0]at h4;exact h4
 have h0':¬t.var<0:=by have:0<=t.var:=h0;omega
 rw[Mp,aP h0']at h4
 have:=of_ _ h4
 exact⟨this.2.1,this.2.2⟩
def I5(i:Nat)(x:ia):Int×List dK×ix×BitVec 64:=(x.aT,x.code,x.to,(1#64)<<<i)
def u7(q:de):Int×List dK×ix×BitVec 64:=(q.aT,q.code,q.to,q.why)
def Ae(l:List ia)(k:Nat):List (Int×List dK×ix×BitVec 64):=((List.range k).filter fun i=>decide ((l.getD i gz).op=8)).map fun i=>I5 i (l.getD i gz)
theorem PG{l:List ia}{k:Nat}:Ae l (k+1)=Ae l k++if(l.getD k gz).op=8 then[I5 k (l.getD k gz)]else[]:=by grind[Ae,List.range_succ,gz]
section
variable{p:lM}{s:NP}{l:List ia}{k:Nat}
theorem axg(h:mR p s)(hq:s.qs.map u7=Ae l k)(hk:k<=l.length):QN s=QP p (l.take k):=by
 funext q
 refine propext ⟨fun⟨i,hi,e⟩=> ?_,fun⟨x,hx,ho,e⟩=> ?_⟩
 .have hm:u7 (s.qs.getD i cQ)∈Ae l k:=by rw[<-hq,getD_eq hi];exact fU.2 ⟨_,p6 hi,rfl⟩
  obtain⟨j,hj,e2⟩:=fU.1 hm
  simp only[wW,oL,ep]at hj
  refine⟨l.getD j gz,?_,hj.2,?_⟩
  .rw[getD_eq J]
   exact DW.2 ⟨j,J,rfl⟩
  rw[e]
  simp only[I5,u7,QA]at e2
  obtain⟨a,b,c,_⟩:=e2
  unfold sM ya E1 j4
  rw[h.nv,h.sh,<-a,<-b,<-c]
 obtain⟨j,hj,e1⟩:=DW.1 hx
 have hj2:j<k/\j<l.length:=J
 have hm:I5 j x∈Ae l k:=fU.2 ⟨j,by simp only[wW,oL,ep];exact⟨hj2.1,by rw[getD_eq hj2.2,e1];exact ho⟩,by rw[getD_eq hj2.2,e1]⟩
 rw[<-hq]at hm
 obtain⟨r,hr,e2⟩:=fU.1 hm
 obtain⟨i,hi,e3⟩:=yz.1 hr
 refine⟨i,hi,?_⟩
 rw[e,getD_eq hi,e3]
 simp only[I5,u7,QA]at e2
 obtain⟨a,b,c,_⟩:=e2
 unfold sM ya E1 j4
 rw[h.nv,h.sh,a,b,c]
end
theorem asB{cs:List (List Nat)}{us N5:List iW}{an:List oJ}{aT:List Int}{qs:List de}{sn:Int}{n:Nat}{c:x9}:(rP cs us an aT qs sn n c).cs=(rP cs N5 an aT qs sn n c).cs:=by grind[rP]
def usB(s:NP):List iW:=s.us.map fun l=>⟨.slice none 0 0,l⟩
abbrev JB(s:NP):x9->Prop:=JN s (bk (oE (usB s) s).cs)
abbrev muB(s:NP):x9->Nat:=muN s.an s.aT s.ai.length s.qs
theorem aaT{s:NP}{us:List iW}:(oE us s).cs=(oE (usB s) s).cs:=asB
theorem axh{s:NP}(h:n5 s):∀us:List iW,mO us=s.us->JB s (UW (oE us s).s s.sn s.qs.length)/\muB s (UW (oE us s).s s.sn s.qs.length)<=muM s/\∀cX eA I4 me x,JB s ⟨cX,eA,x::I4,me⟩->∀r,mP (bk (oE us s).cs) us (s.an.getD (s.qs.getD x.toNat cQ).aT.toNat oK).p.sh (s.qs.getD x.toNat cQ) cX eA I4 (me.set x.toNat false) s.wy=r->r.ok=true->JB s ⟨r.ai,r.aX,r.wl,r.wi⟩/\muB s ⟨r.ai,r.aX,r.wl,r.wi⟩<muB s ⟨cX,eA,x::I4,me⟩:=fun us vN=>by
 have hs:=U7 h.ns vN
 have hl:=ac5 h vN
 unfold JB
 rw[<-aaT (us:=us)]
 exact⟨hs.1,hs.2,hl⟩
theorem ail{s:NP}(h:n5 s){us:List iW}(vN:mO us=s.us){c:x9}{ok:Bool}{S3:BitVec 64}{a:Nat}(hr:SpR (bk (oE us s).cs) us s.an s.qs c ok s.wy S3)(ha:a+muB s c<=muB s (UW (oE us s).s s.sn s.qs.length)+(if ok then 0 else 1)):a<=muM s:=by
 have hm:=(U7 h.ns vN).2
 rcases hr with⟨e,_⟩|⟨e,x,wl,hw,_⟩
 .subst e;simp only[s5]at ha;unfold muB at ha;omega
 subst e
 have:1<=muB s c:=by unfold muB muN;rw[hw];simp only[eO];omega
 simp only[rZ,xd]at ha
 unfold muB at ha this;omega
theorem L9{ids:List Nat}{tl PI:List (Nat×Rl)}:∀{d:Wr},d.Ek ids tl->d.Ek ids (tl++PI)
 | .base p tb,h=>⟨h.1,fun i hi q hq=>dx _ (h.2 i hi q hq)⟩
 | .wrap m d,h=>⟨h.1,L9 h.2⟩
theorem Wf.more{T:NT}{K:Vu}{ids:List Nat}{tl PI:List (Nat×Rl)}{x:oJ}(h:Wf T K ids tl x):Wf T K ids (tl++PI) x:=⟨h.ops,L9 h.Ek,h.sh,h.Aa,h.dep⟩
theorem aim{p:lM}(h:iJ p=true):∀l∈p.an,l.Aa.aY.length<=1000/\∀f∈l.Aa.aY,f.names.length<=1000:=fun l hl=>by
 have hs:=yV ((BX h).2.1 l hl)
 refine⟨by have:=tg l.Aa;omega,fun f hf=> ?_⟩
 have:=(uL (hs.2.2 f.fc (fU.2 ⟨f,hf,rfl⟩))).1.2
 have e:f.fc.names=f.names:=rfl
 rw[e]at this;omega
structure I6(p:lM)(x:Value)(j:Nat)(s:NP):Prop where
 lt:s.an.map (fun x=>x.p.sh)=p.an.map fun l=>l.Aa.sh
 la:s.aT=(p.vars.take j).map vI.aT
 nv:s.ai.length=j
 nw:n5 s
 qs:s.qs=[]
 sk:s.sk=false
 wr:s.wr=x
structure MC(p:lM)(j:Nat)(ls:List oJ):Prop where
 lt:ls.map (fun x=>x.p.sh)=(p.an.take j).map fun l=>l.Aa.sh
 lw:∀x∈ls,qY x.p.sh=true/\x.low=gZ x.p.sh eU
def npL(ls:List oJ)(x:Value):NP:=NP.mk ls [] [] [] [] [] 0 [[]] false 0 x
theorem MC.len{p:lM}{j:Nat}{ls:List oJ}(h:MC p j ls)(hj:j<=p.an.length):ls.length=j:=by
 have:=aK List.length h.lt
 rw[gj,gj,eo]at this;omega
theorem MC.next{p:lM}{k:Int}{ls:List oJ}(h:MC p k.toNat ls)(h0:0<=k)(h1:k<p.an.length){x:oJ}(hs:qY (p.an.getD k.toNat nj).Aa.sh=true)(hx:x.p.sh=(p.an.getD k.toNat nj).Aa.sh)(hw:x.low=gZ (p.an.getD k.toNat nj).Aa.sh eU):MC p (k+1).toNat (ls++[x]):=by
 have hk:k.toNat<p.an.length:=J
 refine⟨?_,fun y hy=> ?_⟩
 .rw[show(k+1).toNat=k.toNat+1 by omega,DS hk,gA,gA,h.lt]
  simp only[lf,Bd]
  rw[hx,getD_eq hk]
 rcases eP.1 hy with q|q
 .exact h.lw y q
 rw[fZ.1 q,hx];exact⟨hs,hw⟩
theorem MC.fin{p:lM}{k:Int}{ls:List oJ}{x:Value}(h:MC p k.toNat ls)(h0:0<=k)(h1:¬k<p.an.length):I6 p x 0 (npL ls x):=
 ⟨by show ls.map _=_;rw[h.lt,iP J],by simp[npL],rfl,⟨yb.start O O O O O O O,h.lw,by simp[npL],by simp[npL],fun _=>rfl⟩,rfl,rfl,rfl⟩
theorem I6.next{p:lM}{x:Value}{j:Int}{s:NP}(h:I6 p x j.toNat s)(h0:0<=j)(h1:j<p.vars.length)(hv:p.vars.length<=64)(hl:0<=(p.vars.getD j.toNat gD).aT/\(p.vars.getD j.toNat gD).aT<s.an.length):I6 p x (j+1).toNat (pz s (p.vars.getD j.toNat gD).aT (s.an.getD (p.vars.getD j.toNat gD).aT.toNat oK).low):=by
 have hk:j.toNat<p.vars.length:=J
 have hn:=h.nv
 refine⟨h.lt,?_,by simp[pz];omega,h.nw.var hl J,h.qs,h.sk,h.wr⟩
 rw[show(j+1).toNat=j.toNat+1 by omega,DS hk,gA]
 show s.aT++[_]=_
 rw[h.la,getD_eq hk];rfl
theorem I6.len{p:lM}{x:Value}{j:Nat}{s:NP}(h:I6 p x j s):s.an.length=p.an.length:=by have:=aK List.length h.lt;simpa using this
theorem I6.fin{p:lM}{x:Value}{j:Int}{s:NP}(h:I6 p x j.toNat s)(h0:0<=j)(h2:j<=p.vars.length)(h1:¬j<p.vars.length):mR p s:=by
 refine⟨h.lt,?_,by have:=h.nv;omega⟩
 rw[h.la,iP J]
structure ac6(s s':NP)(ok:Bool):Prop where
 st:s.sk=true->ok=false/\s'=s
 go:s.sk=false->asy s s' ok
def tmS(s:NP)(lg:List (Value×jj))(tm:List Int):List Int:=if s.sk then tm else tm++[(lg.length:Int)]
theorem ao7{s:NP}{lg:List (Value×jj)}{tm:List Int}(h:s.sk=true):tmS s lg tm=tm:=by unfold tmS;rw[h];rfl
theorem ao8{s:NP}{lg:List (Value×jj)}{tm:List Int}(h:s.sk=false):tmS s lg tm=tm++[(lg.length:Int)]:=by unfold tmS;rw[h];rfl
def TmA(ok:Bool)(lg:List (Value×jj))(tm u9:List Int):Prop:=u9=if ok then tm++[(lg.length:Int)]else tm
structure R3(s s':NP)(k:Int)(l:List dK)(t:ix)(y:BitVec 64)(ok:Bool):Prop where
 is:ok=true↔s.sk=false/\vO s.an s.aT k l t=true
 add:ok=true->∃cv vv,s'=AB s ⟨k,cv,l,t,y,vv,dw l⟩
 same:ok=false->s'=s
theorem R3.no{s:NP}{k:Int}{l:List dK}{t:ix}{y:BitVec 64}(h:¬(s.sk=false/\vO s.an s.aT k l t=true)):R3 s s k l t y false:=by grind[NP,dK,ix,vO,R3]
theorem R3.yes{s:NP}{k:Int}{l:List dK}{t:ix}{y:BitVec 64}{cv vv:Value}(h:s.sk=false)(h2:vO s.an s.aT k l t=true):R3 s (AB s ⟨k,cv,l,t,y,vv,dw l⟩) k l t y true:=⟨⟨fun _=>⟨h,h2⟩,fun _=>rfl⟩,fun _=>⟨_,_,rfl⟩,fun q=>yL⟩
structure FQ(s s':NP)(x:ia)(i:Nat)(ok:Bool):Prop where
 ne:x.op≠8->ok=true/\s'=s
 eq:x.op=8->R3 s s' x.aT x.code x.to (1#64<<<i) ok
def YF(op:Int)(ok:Bool)(lg:List (Value×jj))(tm u9:List Int):Prop:=if op=8 then TmA ok lg tm u9 else u9=tm
theorem YF.no{op:Int}{ok:Bool}{lg:List (Value×jj)}{tm:List Int}(h:op≠8):YF op ok lg tm tm:=by grind[YF]
theorem YF.yes{op:Int}{ok:Bool}{lg:List (Value×jj)}{tm u9:List Int}(h:op=8)(h2:TmA ok lg tm u9):YF op ok lg tm u9:=by grind[YF]
theorem aEF{i:Int}(h:0<=i/\i<=1000):(1#64<<<(BitVec.ofInt 64 i).toNat)=1#64<<<i.toNat:=by grind
def QPm(p:lM)(l:List ia)(k:Nat)(a:BitVec 64):sH->Prop:=fun q=>∃j,j<k/\(l.getD j gz).op=8/\q=E1 p (l.getD j gz)/\dV (1#64<<<j) a=true
theorem axj{p:lM}{s:NP}{l:List ia}{k:Nat}(h:mR p s)(hq:s.qs.map u7=Ae l k):MN s=QPm p l k:=by
 have key:∀r:de,∀x:ia,u7 r=I5 0 x\/(∃j,u7 r=I5 j x)->sM s.an s.ai.length r=E1 p x:=fun r x e=>by
  have e2:r.aT=x.aT/\r.code=x.code/\r.to=x.to:=by
   rcases e with e|⟨j,e⟩<;>(simp only[I5,u7,QA]at e;exact⟨e.1,e.2.1,e.2.2.1⟩)
  unfold sM ya E1 j4
  rw[h.nv,h.sh,e2.1,e2.2.1,e2.2.2]
 funext a q
 refine propext ⟨fun⟨i,hi,e,hs⟩=> ?_,fun⟨j,hj,ho,e,hs⟩=> ?_⟩
 .have hm:u7 (s.qs.getD i cQ)∈Ae l k:=by rw[<-hq,getD_eq hi];exact fU.2 ⟨_,p6 hi,rfl⟩
  obtain⟨j,hj,e2⟩:=fU.1 hm
  simp only[wW,oL,ep]at hj
  refine⟨j,hj.1,hj.2,by rw[e];exact key _ _ (.inr ⟨j,e2.symm⟩),?_⟩
  have e3:=aK (fun z=>z.2.2.2) e2
  simp only[I5,u7]at e3
  rw[e3];exact hs
 have hm:I5 j (l.getD j gz)∈Ae l k:=fU.2 ⟨j,by simp only[wW,oL,ep];exact⟨hj,ho⟩,rfl⟩
 rw[<-hq]at hm
 obtain⟨r,hr,e2⟩:=fU.1 hm
 obtain⟨i,hi,e3⟩:=yz.1 hr
 refine⟨i,hi,?_,?_⟩
 .rw[e,getD_eq hi,e3];exact(key _ _ (.inr ⟨j,e2⟩)).symm
 rw[getD_eq hi,e3]
 have e4:=aK (fun z=>z.2.2.2) e2
 simp only[I5,u7]at e4
 rw[e4];exact hs
structure BY(p:lM)(l:List ia)(k:Nat)(s:NP):Prop where
 np:mR p s
 nw:n5 s
 qs:s.qs.map u7=Ae l k
theorem amV{l:List ia}{k:Nat}:(Ae l k).length<=k:=by grind[Ae]
section
variable{p:lM}{l:List ia}{k:Nat}{s s':NP}{ok:Bool}
theorem BY.start(h1:mR p s)(h2:n5 s)(h3:s.qs=[]):BY p l 0 s:=⟨h1,h2,by rw[h3];rfl⟩
theorem BY.add(h:BY p l k s)(hk:k<l.length)(h64:k<64)(ha:∀x∈l,j5 p x=true)(hc:∀x∈l,x.code.length<=1000)(tL:s.sk=false)(hA:FQ s s' (l.getD k gz) k ok):ok=true/\BY p l (k+1) s'/\s'.sk=false/\s'.wr=s.wr/\s'.an=s.an:=by
 have hm:l.getD k gz∈l:=by rw[getD_eq hk];exact p6 hk
 by_cases ho:(l.getD k gz).op=8
 .have hR:=hA.eq ho
  have hfb:=h.np.fit h.nw.ns.ok.hlt (ha _ hm) ho
  have hok:=hR.is.2 ⟨tL,hfb⟩
  obtain⟨cv,vv,e⟩:=hR.add hok
  have hf:=R2 h.nw.ns.ok hfb (hc _ hm) cv vv (1#64<<<k)
  have hq:s.qs.length<=k:=by have:=aK List.length h.qs;rw[gj]at this;have:=amV (l:=l) (k:=k);omega
  subst e
  refine⟨hok,⟨⟨h.np.lt,h.np.la,h.np.nv⟩,h.nw.add hf J,?_⟩,tL,rfl,rfl⟩
  show(s.qs++[_]).map u7=_
  rw[PG,aQ ho,gA,h.qs];rfl
 obtain⟨h1,h2⟩:=hA.ne ho
 subst h2
 exact⟨h1,⟨h.np,h.nw,by rw[PG,aP ho,kV];exact h.qs⟩,tL,rfl,rfl⟩
theorem FQ.stuck{x:ia}{i:Nat}(hA:FQ s s' x i ok)(tL:s.sk=true):s'=s/\(ok=true↔x.op≠8):=by
 by_cases ho:x.op=8
 .have hR:=hA.eq ho
  have hno:ok=false:=by
   cases ok with
   |false=>rfl
   |true=>have:=(hR.is.1 O).1;rw[tL]at this;cases this
  exact⟨hR.same hno,⟨fun q=>(by rw[hno]at q;cases q),fun q=>absurd ho q⟩⟩
 obtain⟨h1,h2⟩:=hA.ne ho
 exact⟨h2,⟨fun _=>ho,fun _=>h1⟩⟩
structure aEG(p:lM)(l:List ia)(k:Nat)(s s':NP)(ok:Bool):Prop where
 net:BY p l k s'
 sk:s'.sk= !ok
 is:ok=true↔yc (j6 p) (QP p (l.take k))
 low:ok=true->rN (j6 p) (QP p (l.take k)) (vQ s'.ai)
 all:ok=true->∀q,QP p (l.take k) q->eW q (vQ s'.ai)
 why:ok=true->∀i,i<p.vars.length->∀u,tZ (j6 p) (QPm p l k (s'.aX.getD i 0)) u->cR (s'.ai.getD i dy) (u i)=true
 no:ok=false->¬yc (j6 p) (QPm p l k s'.wy)
 same:ok=false->s'.ai=s.ai
theorem BY.set(h:BY p l k s)(hk:k<=l.length)(hS:asy s s' ok):aEG p l k s s' ok:=by
 have e1:=h.np.sys
 have e2:=axg h.np h.qs hk
 have e3:=axj h.np h.qs
 have hl:BY p l k s':=⟨h.np.same hS.an hS.aT hS.len,hS.net,by rw[hS.qs];exact h.qs⟩
 have hy:ok=true->_:=hS.yes
 have hn:ok=false->_:=hS.no
 rw[e1,e2,e3]at hy hn
 refine⟨hl,hS.sk,⟨fun q=>⟨_,(hy q).1.low.fit,(hy q).2.1⟩,fun q=> ?_⟩,fun q=>(hy q).1,fun q=>(hy q).2.1,fun q i hi u hu=>(hy q).2.2 i hi u hu,fun q=>(hn q).2.2.2,fun q=>(hn q).1⟩
 cases ok with
 |true=>rfl
 |false=>exact absurd q (hn O).2.2.1
end
theorem amW{p:pM}(h:nn p=true):p.bE.length<=64:=by grind[nn]
def wG:El:=Av dy 0 1#64
def qz(lv fv nv vv:Value):lM:=⟨lv,[⟨⟨#[107]⟩,⟨false,fv,[⟨1,nv,vJ,Rl.none⟩]⟩⟩],vv,[⟨⟨#[120]⟩,1,0⟩,⟨⟨#[121]⟩,1,0⟩]⟩
def a24(v:Value)(l:List dK)(t:ix):ia:=⟨8,0,v,l,t,alR,alR,0,pu⟩
def Af(u v w:Value):List ia:=[a24 u [⟨2,0,wG⟩] ⟨0,dy⟩,a24 v [⟨1,0,dy⟩] ⟨1,dy⟩,a24 w [⟨1,1,dy⟩] ⟨-1,dy⟩]
def N_:Value:= .slice none 0 0
theorem aEH(lv fv nv vv av u v w:Value):nn ⟨qz lv fv nv vv,av,Af u v w⟩=true:=(by decide+kernel:nn ⟨qz N_ N_ N_ N_,N_,Af N_ N_ N_⟩=true)
def BZ(a b:El):Va:=fun i=>if i=0 then a else b
theorem Ag{lv fv nv vv:Value}{a b:El}(ha:cz (j4 (qz N_ N_ N_ N_) 0) a=true)(hb:cz (j4 (qz N_ N_ N_ N_) 0) b=true):py (j6 (qz lv fv nv vv)) (BZ a b):=fun i hi=>by
 have hi':i<2:=hi
 rcases(by omega:i=0\/i=1)with rfl|rfl
 .exact ha
 exact hb
theorem Ah:cz (j4 (qz N_ N_ N_ N_) 0) dy=true:=by decide+kernel
theorem Ai:cz (j4 (qz N_ N_ N_ N_) 0) wG=true:=by decide+kernel
theorem Aj(lv fv nv vv u v w:Value):
  (eW (E1 (qz lv fv nv vv) ((Af u v w).getD 0 gz)) (BZ wG wG)/\eW (E1 (qz lv fv nv vv) ((Af u v w).getD 0 gz)) (BZ wG dy))/\
  (eW (E1 (qz lv fv nv vv) ((Af u v w).getD 1 gz)) (BZ wG wG)/\eW (E1 (qz lv fv nv vv) ((Af u v w).getD 1 gz)) (BZ dy dy))/\
  (eW (E1 (qz lv fv nv vv) ((Af u v w).getD 2 gz)) (BZ dy dy)/\eW (E1 (qz lv fv nv vv) ((Af u v w).getD 2 gz)) (BZ wG dy)):=by
 refine⟨⟨?_,?_⟩,⟨?_,?_⟩,?_,?_⟩
 .exact(by decide+kernel:cR (fP (j4 (qz N_ N_ N_ N_) 0) [⟨2,0,wG⟩] [wG,wG]).1 wG=true)
 .exact(by decide+kernel:cR (fP (j4 (qz N_ N_ N_ N_) 0) [⟨2,0,wG⟩] [wG,dy]).1 wG=true)
 .exact(by decide+kernel:cR (fP (j4 (qz N_ N_ N_ N_) 0) [⟨1,0,dy⟩] [wG,wG]).1 wG=true)
 .exact(by decide+kernel:cR (fP (j4 (qz N_ N_ N_ N_) 0) [⟨1,0,dy⟩] [dy,dy]).1 dy=true)
 .exact(by decide+kernel:cR (fP (j4 (qz N_ N_ N_ N_) 0) [⟨1,1,dy⟩] [dy,dy]).1 dy=true)
 exact(by decide+kernel:cR (fP (j4 (qz N_ N_ N_ N_) 0) [⟨1,1,dy⟩] [wG,dy]).1 dy=true)
theorem asC:cR wG dy=false:=by decide+kernel
section
variable{lv fv nv vv u v w:Value}
theorem ain{k:Nat}(hk:k<=3){q:sH}:QP (qz lv fv nv vv) ((Af u v w).take k) q↔∃j,j<k/\q=E1 (qz lv fv nv vv) ((Af u v w).getD j gz):=by
 have hl:(Af u v w).length=3:=rfl
 have ho:∀j,j<3->((Af u v w).getD j gz).op=8:=fun j hj=>by
  rcases(by omega:j=0\/j=1\/j=2)with rfl|rfl|rfl<;>rfl
 constructor
 .rintro⟨x,hx,_,e⟩
  obtain⟨j,hj,e1⟩:=DW.1 hx
  exact⟨j,J,by rw[e,<-e1,getD_eq J]⟩
 rintro⟨j,hj,e⟩
 refine⟨_,?_,ho j J,e⟩
 rw[getD_eq J]
 exact DW.2 ⟨j,J,rfl⟩
theorem axk{k:Nat}(hk:k<=3){a:BitVec 64}{q:sH}(h:QPm (qz lv fv nv vv) (Af u v w) k a q):∃j,j<k/\q=E1 (qz lv fv nv vv) ((Af u v w).getD j gz)/\dV (1#64<<<j) a=true:=by
 obtain⟨j,hj,_,e,hs⟩:=h
 exact⟨j,hj,e,hs⟩
theorem axl{x:Va}(h0:eW (E1 (qz lv fv nv vv) ((Af u v w).getD 0 gz)) x)(h1:eW (E1 (qz lv fv nv vv) ((Af u v w).getD 1 gz)) x)(hx:py (j6 (qz lv fv nv vv)) x):cR wG (x 1)=true:=by
 have p0:cR wG (x 0)=true:=h0
 have p:=Mu (S:=j6 (qz lv fv nv vv)) (sh:=j4 (qz lv fv nv vv) 0) (n:=2) (x:=⟨1,0,dy⟩) (to:=⟨1,dy⟩) O ⟨aD,aD⟩ aD
 have e:qL ((E1 (qz lv fv nv vv) ((Af u v w).getD 1 gz)).ev x) (x 0):=p.ev x hx
 have p1:cR ((E1 (qz lv fv nv vv) ((Af u v w).getD 1 gz)).ev x) (x 1)=true:=h1
 exact eX p0 (eX (kM fun i hi=>(e i hi).symm) p1)
theorem asD:yc (j6 (qz lv fv nv vv)) (QP (qz lv fv nv vv) ((Af u v w).take 2)):=by
 have h:=Aj lv fv nv vv u v w
 refine⟨BZ wG wG,Ag Ai Ai,fun q hq=> ?_⟩
 obtain⟨j,hj,e⟩:=(ain J).1 hq
 subst e
 rcases(by omega:j=0\/j=1)with rfl|rfl
 .exact h.1.1
 exact h.2.1.1
theorem amX{x:Va}(hl:rN (j6 (qz lv fv nv vv)) (QP (qz lv fv nv vv) ((Af u v w).take 2)) x)(hh:∀q,QP (qz lv fv nv vv) ((Af u v w).take 2) q->eW q x):qL (x 1) wG:=by
 have h:=Aj lv fv nv vv u v w
 have hs:tZ (j6 (qz lv fv nv vv)) (QP (qz lv fv nv vv) ((Af u v w).take 2)) (BZ wG wG):=⟨Ag Ai Ai,fun q hq _=>by
  obtain⟨j,hj,e⟩:=(ain J).1 hq
  subst e
  rcases(by omega:j=0\/j=1)with rfl|rfl
  .exact h.1.1
  exact h.2.1.1⟩
 exact XP (hl.low.low _ hs 1 (show 1<2 by decide)) (axl (hh _ ((ain J).2 ⟨0,J,rfl⟩)) (hh _ ((ain J).2 ⟨1,J,rfl⟩)) hl.low.fit)
theorem U8{k:Nat}(hk:k<=3){a:BitVec 64}{x y:El}{i:Nat}(hf:py (j6 (qz lv fv nv vv)) (BZ x y))(hn:¬∀q,QPm (qz lv fv nv vv) (Af u v w) k a q->eW q (BZ x y))(hh:∀j,j<k->j≠i->eW (E1 (qz lv fv nv vv) ((Af u v w).getD j gz)) (BZ x y)):dV (1#64<<<i) a=true:=by grind[dV,axk]
theorem U9{a:BitVec 64}{i:Nat}(hi:i<64)(h:dV (1#64<<<i) a=true):a.getLsbD i=true:=by
 have:=aK (fun z:BitVec 64=>z.getLsbD i) (Kh h)
 simp only[q9,Qo,BitVec.getLsbD_shiftLeft,Wx,hi,decide_true,lU]at this
 simpa using this
theorem axm{a:BitVec 64}(h0:dV (1#64<<<0) a=true)(h1:dV (1#64<<<1) a=true):a&&&3#64=3#64:=by
 have b0:=U9 aD h0
 have b1:=U9 aD h1
 refine BitVec.eq_of_getLsbD_eq fun i hi=> ?_
 rw[q9]
 rcases(by omega:i=0\/i=1\/2<=i)with rfl|rfl|h
 .rw[b0];rfl
 .rw[b1];rfl
 have:(3#64).getLsbD i=false:=by
  rw[Ww,Nat.testBit_lt_two_pow (WB (by decide:3<2^2) (Wv aD h))];simp
 rw[this,J6]
theorem asE{a:BitVec 64}(h0:dV (1#64<<<0) a=true)(h1:dV (1#64<<<1) a=true)(h2:dV (1#64<<<2) a=true):a&&&7#64=7#64:=by
 have b0:=U9 aD h0
 have b1:=U9 aD h1
 have b2:=U9 aD h2
 refine BitVec.eq_of_getLsbD_eq fun i hi=> ?_
 rw[q9]
 rcases(by omega:i=0\/i=1\/i=2\/3<=i)with rfl|rfl|rfl|h
 .rw[b0];rfl
 .rw[b1];rfl
 .rw[b2];rfl
 have:(7#64).getLsbD i=false:=by
  rw[Ww,Nat.testBit_lt_two_pow (WB (by decide:7<2^3) (Wv aD h))];simp
 rw[this,J6]
theorem axn{x:Va}{a:BitVec 64}(he:qL (x 1) wG)(hw:∀y,tZ (j6 (qz lv fv nv vv)) (QPm (qz lv fv nv vv) (Af u v w) 2 a) y->cR (x 1) (y 1)=true):a&&&3#64=3#64:=by
 have h:=Aj lv fv nv vv u v w
 have key:∀z:El,cR wG z=false->∀y:El,py (j6 (qz lv fv nv vv)) (BZ y z)->¬∀q,QPm (qz lv fv nv vv) (Af u v w) 2 a q->eW q (BZ y z):=fun z hz y hf hq=>by
  have h1:=eX (kM fun i hi=>(he i hi).symm) (hw (BZ y z) (yc.sol hf hq))
  have h2:cR wG z=true:=h1
  rw[hz]at h2;cases h2
 refine axm (U8 (k:=2) (x:=dy) (y:=dy) J (Ag Ah Ah) (key _ asC _ (Ag Ah Ah)) fun j hj hne=> ?_) (U8 (k:=2) (x:=wG) (y:=dy) J (Ag Ai Ah) (key _ asC _ (Ag Ai Ah)) fun j hj hne=> ?_)
 .have:j=1:=J
  subst this;exact h.2.1.2
 have:j=0:=J
 subst this;exact h.1.2
theorem axo:¬yc (j6 (qz lv fv nv vv)) (QP (qz lv fv nv vv) ((Af u v w).take 3)):=by
 rintro⟨x,hx,hq⟩
 have g:∀j,j<3->eW (E1 (qz lv fv nv vv) ((Af u v w).getD j gz)) x:=fun j hj=>hq _ ((ain J).2 ⟨j,hj,rfl⟩)
 have h1:=axl (g 0 J) (g 1 J) hx
 have p:=Mu (S:=j6 (qz lv fv nv vv)) (sh:=j4 (qz lv fv nv vv) 0) (n:=2) (x:=⟨1,1,dy⟩) (to:=⟨1,dy⟩) O ⟨aD,aD⟩ aD
 have e:qL ((E1 (qz lv fv nv vv) ((Af u v w).getD 2 gz)).ev x) (x 1):=p.ev x hx
 have h2:cR ((E1 (qz lv fv nv vv) ((Af u v w).getD 2 gz)).ev x) dy=true:=g 2 J
 have h3:=eX h1 (eX (kM fun i hi=>(e i hi).symm) h2)
 rw[asC]at h3;cases h3
theorem amY{a:BitVec 64}(hs:¬yc (j6 (qz lv fv nv vv)) (QPm (qz lv fv nv vv) (Af u v w) 3 a)):a&&&7#64=7#64:=by
 have h:=Aj lv fv nv vv u v w
 have key:∀y z:El,py (j6 (qz lv fv nv vv)) (BZ y z)->¬∀q,QPm (qz lv fv nv vv) (Af u v w) 3 a q->eW q (BZ y z):=fun y z hf hq=>hs ⟨_,hf,hq⟩
 refine asE (U8 (k:=3) (x:=dy) (y:=dy) J (Ag Ah Ah) (key _ _ (Ag Ah Ah)) fun j hj hne=> ?_) (U8 (k:=3) (x:=wG) (y:=dy) J (Ag Ai Ah) (key _ _ (Ag Ai Ah)) fun j hj hne=> ?_) (U8 (k:=3) (x:=wG) (y:=wG) J (Ag Ai Ai) (key _ _ (Ag Ai Ai)) fun j hj hne=> ?_)
 .rcases(by omega:j=1\/j=2)with rfl|rfl
  .exact h.2.1.2
  exact h.2.2.1
 .rcases(by omega:j=0\/j=2)with rfl|rfl
  .exact h.1.2
  exact h.2.2.2
 rcases(by omega:j=0\/j=1)with rfl|rfl
 .exact h.1.1
 exact h.2.1.1
end
theorem aEI(u v w:Value):∀x∈Af u v w,x.code.length<=1000:=fun x hx=>by
 simp only[Af,cZ,Gu,Bg]at hx
 rcases hx with rfl|rfl|rfl<;>(show 1<=1000;decide)
theorem aEJ:qY (j4 (qz N_ N_ N_ N_) 0)=true:=by decide+kernel
structure Vb(p:lM)(l:List ia)(k:Nat)(s:NP):Prop where
 nw:n5 s
 wr:s.wr= .nilFunc
 go:s.sk=false->BY p l k s
 st:s.sk=true->¬yc (j6 p) (QP p (l.take k))
section
variable{p:lM}{l:List ia}{k:Nat}{s s':NP}{ok:Bool}
theorem amZ{q:sH}(h:QP p (l.take k) q):QP p (l.take (k+1)) q:=by
 obtain⟨x,hx,ho,e⟩:=h
 obtain⟨j,hj,e1⟩:=DW.1 hx
 exact⟨x,DW.2 ⟨j,J,e1⟩,ho,e⟩
theorem Vb.start(h:BY p l 0 s)(hs:s.sk=false)(hw:s.wr= .nilFunc):Vb p l 0 s:=⟨h.nw,hw,fun _=>h,fun q=>(by rw[hs]at q;cases q)⟩
theorem Vb.add(h:Vb p l k s)(hk:k<l.length)(h64:k<64)(ha:∀x∈l,j5 p x=true)(hc:∀x∈l,x.code.length<=1000)(hA:FQ s s' (l.getD k gz) k ok):(s.sk=false->ok=true)/\(s.sk=true->ok=decide ((l.getD k gz).op≠8))/\Vb p l (k+1) s'/\s'.sk=s.sk:=by
 cases tL:s.sk with
 |false=>
  obtain⟨h1,h2,h3,h4,_⟩:=(h.go tL).add hk h64 ha hc tL hA
  exact⟨fun _=>h1,fun q=>yL,⟨h2.nw,h4.trans h.wr,fun _=>h2,fun q=>(by rw[h3]at q;cases q)⟩,h3⟩
 |true=>
  obtain⟨h1,h2⟩:=hA.stuck tL
  subst h1
  exact⟨fun q=>yL,fun _=>gG.2 (by rw[h2];simp),⟨h.nw,h.wr,fun q=>(by rw[tL]at q;cases q),fun q hs=>h.st q (hs.less fun _=>amZ)⟩,tL⟩
theorem Vb.set(h:Vb p l k s)(hk:k<=l.length)(hQ:ac6 s s' ok):Vb p l k s'/\(ok=true↔yc (j6 p) (QP p (l.take k)))/\(ok=true->mR p s'/\rN (j6 p) (QP p (l.take k)) (vQ s'.ai)):=by
 cases tL:s.sk with
 |false=>
  have hP:=(h.go tL).set hk (hQ.go tL)
  refine⟨⟨hP.net.nw,(hQ.go tL).wr.trans h.wr,fun _=>hP.net,fun q=> ?_⟩,hP.is,fun q=>⟨hP.net.np,hP.low q⟩⟩
  rw[hP.sk]at q
  rw[<-hP.is]
  cases ok with
  |true=>cases q
  |false=>exact fun e=>(by cases e)
 |true=>
  obtain⟨h1,h2⟩:=hQ.st tL
  subst h1;subst h2
  exact⟨h,⟨fun q=>yL,fun q=>absurd q (h.st tL)⟩,fun q=>yL⟩
end
theorem am0{K:Vu}{v:Value}{sz n:Nat}{cells:List Value}(h:pw K v sz n cells)(k:Nat)(hk:k<=n):pw K (kS v k) sz k (cells.take (k*sz)):=by
 obtain⟨a,cap,hv,hnc,ha⟩:=h.shape
 subst hv
 have e1:sb (.slice a k cap)=sb (.slice a n cap):=by cases a<;>rfl
 have e2:so (.slice a k cap)=so (.slice a n cap):=by cases a<;>rfl
 refine⟨⟨a,cap,rfl,J,fun h0=> ?_⟩,?_,fun j c hc=> ?_,jP hk h.small⟩
 .show a=some ⟨sb (.slice a k cap),so (.slice a k cap),none⟩
  rw[e1,e2];exact ha J
 .rw[eo,h.len]
  exact qW (qV _ hk)
 rw[uo]at hc
 split at hc
 .show OP K (sb (.slice a k cap)) (so (.slice a k cap)+j) c
  rw[e1,e2];exact h.cell j c hc
 .cases hc
theorem xW.take{K:Vu}{p:pM}(h:xW K p){k:Nat}(hk:k<=p.bE.length):xW K ⟨p.s,kS p.av k,p.bE.take k⟩:=by
 refine⟨h.s,?_,fun x hx=>h.each x (uu hx)⟩
 have:=am0 h.bE k hk
 rw[Oz qv]at this
 show pw K (kS p.av k) 18 (p.bE.take k).length _
 rw[eo,qW hk];exact this
def Kp{α:Type}(s:Sem α):Prop:=∀P w x w',s.run P w= .ok x w'->w'=w
theorem Kp.pure{α:Type}{x:α}:Kp (Pure.pure x:Sem α):=fun P w y w' h=>by cases h;rfl
theorem Kp.halt{α:Type}{h:Halt}:Kp (.halt h:Sem α):=fun P w y w' h=>by cases h
theorem Kp.prog{α:Type}{k:Program->Sem α}(h:∀p,Kp (k p)):Kp (.program k):=fun P w x w' e=>h P P w x w' e
theorem Kp.load{α:Type}{m:Mode}{a:Addr}{k:Value->Sem α}(h:∀v,Kp (k v)):Kp (.load m a k):=fun P w x w' e=>by
 simp only[Sem.run]at e
 split at e
 .exact h _ P w x w' e
 split at e
 .exact h _ P w x w' e
 .cases e
theorem Kp.bind{α β:Type}{s:Sem α}{k:α->Sem β}(h1:Kp s)(h2:∀x,Kp (k x)):Kp (s>>=k):=fun P w x w' e=>by
 rw[o9]at e
 cases h:s.run P w with
 |ok y w1=>rw[h]at e;have:=h1 P w y w1 h;subst this;exact h2 _ P _ x w' e
 |halt a w1=>rw[h]at e;cases e
def Nok{α:Type}(s:Sem α):Prop:=∀P w x w',s.run P w≠ .ok x w'
theorem Nok.kp{α:Type}{s:Sem α}(h:Nok s):Kp s:=fun P w x w' e=>absurd e (h P w x w')
theorem Nok.bind{α β:Type}{s:Sem α}{k:α->Sem β}(h2:∀x,Nok (k x)):Nok (s>>=k):=fun P w x w' e=>by
 rw[o9]at e
 cases h:s.run P w with
 |ok y w1=>rw[h]at e;exact h2 _ P _ x w' e
 |halt a w1=>rw[h]at e;cases e
theorem Nok.rtB{α:Type}{x y:Int}{b:Bool}{c:BoundsCode}:Nok (runtimePanic (.bounds x y b c):Sem α):=Nok.bind fun p P w x w' h=>by cases h
theorem Nok.rtN{α:Type}:Nok (runtimePanic .nilDeref:Sem α):=Nok.bind fun p P w x w' h=>by cases h
theorem am1{t:TypeId}:Kp (typeInfo t):= .bind (.prog fun _=> .pure) fun p=>by
 show Kp (match p.info? t with|some i=>_|none=>_)
 split
 .exact .pure
 exact .halt
theorem YG{t:TypeId}:Kp (underlying t):= .bind (.prog fun _=> .pure) fun p=>by
 show Kp (match p.underlying t with|some i=>_|none=>_)
 split
 .exact .pure
 exact .halt
theorem R4{t:TypeId}:Kp (sizeOf t):= .bind am1 fun _=> .pure
theorem asF{t:TypeId}:Kp (isAgg t):= .bind YG fun p=>by split<;>exact .pure
theorem Vc{a:Addr}:∀(n i:Nat) (acc:Array Value),Kp (loadCellsFrom a i n acc)
 |0,_,_=> .pure
 |n+1,i,acc=> .bind (.load fun _=> .pure) fun v=>Vc n (i+1) (acc.push v)
theorem ac7{t:TypeId}{v:Value}:Kp (Instr.loadAt t v):=by
 refine .bind ?_ fun a=> .bind asF fun b=> ?_
 .unfold Instr.sureAddr;split
  .exact .pure
  exact .halt
 split
 .exact .bind R4 fun n=> .bind (Vc _ _ _) fun _=> .pure
 exact .load fun _=> .pure
theorem asG{v:Value}:Kp (asIntOf v):=by unfold asIntOf;split<;>first|exact .pure|exact .halt
theorem axp{α:Type}{k:IntKind}{x y:Int}{c:BoundsCode}:Kp (boundsPanic k x y c:Sem α):=by
 unfold boundsPanic
 dsimp only
 split<;>exact(Nok.bind fun _=>Nok.rtB).kp
theorem aio{x:Value}{y:Nat}{c:BoundsCode}:Kp (Instr.sliceBound x y c):= .bind asG fun⟨k,i⟩=>by
 show Kp (if _ then _ else _)
 split
 .exact .pure
 exact axp
theorem am2{v:Value}:Kp (Instr.sureAddr v):=by unfold Instr.sureAddr;split<;>first|exact .pure|exact .halt
theorem am3{v:Value}:Kp (asAddr v):=by unfold asAddr;split<;>first|exact .pure|exact Nok.rtN.kp|exact .halt
theorem PJ{b:Bool}{l c:Nat}{lo hi mx:Option Value}:Kp (Instr.sliceBounds b l c lo hi mx):=by
 unfold Instr.sliceBounds
 dsimp only
 repeat' (first|exact .pure|exact .halt|exact aio|refine .bind ?_ fun _=> ?_|split)
theorem aip{t:TypeId}{v:Value}{lo hi mx:Option Value}:Kp (Instr.slice t v lo hi mx):=by
 unfold Instr.slice
 dsimp only
 repeat' (first|exact .pure|exact .halt|exact YG|exact R4|exact PJ|exact am3|refine .bind ?_ fun _=> ?_|split)
theorem YH{t:TypeId}{v:Value}{lo hi mx:Option Value}:Kp (Instr.sliceAt t v lo hi mx):=by
 unfold Instr.sliceAt
 dsimp only
 repeat' (first|exact .pure|exact YG|exact R4|exact PJ|exact am2|exact aip|refine .bind ?_ fun _=> ?_|split)
def Still(o:Oper):Prop:=∀ρ P w x w',(execOp ρ o).run P w= .ok x w'->w'=w/\∃u,x= .value u
theorem Vd{o:Oper}{s:(Operand->Value)->Sem Value}(hk:∀ρ,Kp (s ρ))(he:∀ρ,execOp ρ o=s ρ>>=fun x=>Pure.pure (.value x)):Still o:=fun ρ P w x w' h=>by
 rw[he,o9]at h
 cases hq:(s ρ).run P w with
 |ok y w1=>rw[hq]at h;have:=hk ρ P w y w1 hq;subst this;cases h;exact⟨rfl,y,rfl⟩
 |halt a w1=>rw[hq]at h;cases h
def aiq:Op->Bool
 | .load .. | .slice .. =>true
 |_=>false
theorem ac8{o:Oper}(h:aiq o.op=true):Still o:=by
 obtain⟨d,op,ty,pos,bJ,g⟩:=o
 cases op with
 |load t x=>exact Vd (s:=fun ρ=>Instr.loadAt t (ρ x)) (fun ρ=>ac7) fun ρ=>rfl
 |slice t x lo hi mx=>exact Vd (s:=fun ρ=>Instr.sliceAt t (ρ x) (lo.map ρ) (hi.map ρ) (mx.map ρ)) (fun ρ=>YH) fun ρ=>rfl
 |_=>cases h
def air(l:List Oper)(listed:Array Bool)(i:Nat):Bool:=(List.range l.length).all fun j=>j==i||listed.getD j true||match l[j]? with
 |some oj=>oj.after.any (fun e=>Region.binds .any e&&e.on==i)||aiq oj.op
 |none=>true
section
variable{P:Program}{ops:Array Oper}{Q:Exit->Act->World->Prop}{S:World->Prop}
theorem YI{j:Nat}{oj:Oper}{K:Act->World->Prop}{a:Act}{w:World}(hj:ops[j]?=some oj)(hs:Still oj)(h:wpOp P ops Q j K a w):wpOp P ops Q j (fun a' w'=>w'=w/\K a' w') a w:=by
 unfold wpOp at*
 simp only[hj]at*
 split
 .rename_i hw
  simp only[hw,s5]at h
  refine h.imp (fun h=> ?_) id
  unfold Oper.wp at*
  cases hr:(execOp a.eval oj).run P w with
  |ok x w'=>obtain⟨rfl,u,rfl⟩:=hs _ _ _ _ _ hr;rw[hr]at h;exact⟨rfl,h⟩
  |halt x w'=>rw[hr]at h;cases x<;>exact h
 rename_i hw
 rw[aP hw]at h
 exact⟨trivial,h⟩
theorem R5{i:Nat}{oi:Oper}{v:Value}(hi:ops[i]?=some oi)(hsel:∀(j:Nat) (o:Oper) cs b,ops[j]?=some o->o.op≠ .select cs b)
  (hQ:∀c a w,Q (.panic c) (a.put oi.dst v) w->Q (.panic c) a w) (w:World) (hS:S w):
  ∀(fuel:Nat) (listed:Array Bool) (a:Act),
   (∀j oj,ops[j]?=some oj->j≠i->listed.getD j true=false->(∀e∈oj.after,Region.binds .any e=true->e.on≠i)->oi.apart ops oj=true/\Still oj)->
   i∈Region.ready .any ops listed->YieldsIf P ops (fun w1=>w1=w) oi v a->
   wpAnyH P .any ops Q S fuel (listed.setIfInBounds i true) (a.put oi.dst v) w->wpAnyH P .any ops Q S (fuel+1) listed a w:=by
 intro fuel
 induction fuel with
 |zero=>
  intro listed a _ hr hy H
  refine⟨fun h=>(by rw[h]at hr;cases hr),fun j hj=> ?_⟩
  by_cases hji:j=i
  .subst hji;exact hy.wpOp hi O ⟨hS,H⟩
  have:=ready_mono hj hji
  rw[H.1]at this
  cases this
 |succ fuel ih=>
  intro listed a hfree hr hy H
  refine⟨fun h=>(by rw[h]at hr;cases hr),fun j hj=> ?_⟩
  by_cases hji:j=i
  .subst hji;exact hy.wpOp hi O ⟨hS,H⟩
  have h1:=H.2 j (ready_mono hj hji)
  obtain⟨axq,oj,hoj,hall⟩:=mem_ready.1 hj
  have am4:∀e∈oj.after,Region.binds .any e=true->e.on≠i:=fun e he hb heq=>by
   have h1:=hall e he hb
   have h0:=(mem_ready.1 hr).1
   rw[heq]at h1
   rcases Nat.lt_or_ge i listed.size with h'|h'
   .simp[h']at h0 h1;rw[h0]at h1;cases h1
   simp[Qh h']at h1
  obtain⟨hap,hst⟩:=hfree j oj hoj hji axq am4
  have h2:=YI hoj hst (wpOp_putIf hoj hap (fun cs b=>hsel i oi cs b hi) (fun cs b=>hsel j oj cs b hoj) hQ hy h1)
  refine wpOp_mono (fun a' w' h3=> ?_) h2
  obtain⟨rfl,h3,h4,h5⟩:=h3
  refine⟨h4,ih (listed.setIfInBounds j true) a' (fun k ok hk hki hun hno=> ?_) (ready_mono hr (Bl hji)) h3 ?_⟩
  .refine hfree k ok hk hki ?_ hno
   by_cases hjk:j=k
   .subst hjk;exact axq
   rw[getD_set_ne true hjk]at hun;exact hun
  rw[Array.setIfInBounds_comm _ _ hji];exact h5
end
section
variable{P:Program}{n:Nat}{l:List Oper}{S:World->Prop}{k:K}{σ:Env}{w:World}{fuel d:Nat}{listed:Array Bool}{op:Op}{ty:TypeId}{pos:String}{bJ:Array Edge}{v:Value}
theorem R6(i:Nat)(hi:l[i]?=some ⟨some d,op,ty,pos,bJ,none⟩)(hd:Nat.blt d n=true)(hs:Region.noSelect l.toArray=true)(hf:Region.free .any l.toArray listed i=true)(hst:air l listed i=true)
  (hr:(Region.ready .any l.toArray listed).contains i=true) (hS:S w) (hy:(execOp (ev σ) ⟨some d,op,ty,pos,bJ,none⟩).run P w= .ok (.value v) w)
  (h:AN P n l S k fuel (listed.setIfInBounds i true) (k7 σ d v) w):AN P n l S k (fuel+1) listed σ w:=by
 intro a ha
 have hi':l.toArray[i]?=some ⟨some d,op,ty,pos,bJ,none⟩:=uA
 refine R5 hi' (Region.noSelect_spec hs) (fun c a w hq=>hq.elim) w hS fuel listed a (fun j oj hj hji hun hno=>⟨Region.free_spec hi' hf j oj hj hji hun hno,?_⟩) (by simpa using hr) (.inl ⟨rfl,fun w1 hw=> ?_⟩) (h _ (ha.put hd v))
 .simp only[air,iC,oL]at hst
  have hj':l[j]?=some oj:=by simpa using hj
  have h1:=hst j (mh.1 hj').1
  simp only[hj',ou,xb,hji,false_or,hun,rZ]at h1
  rcases h1 with h1|h1
  .rw[Array.any_eq_true']at h1
   obtain⟨e,he,h2⟩:=h1
   simp only[cH,xb]at h2
   exact absurd h2.2 (hno e he h2.1)
  exact ac8 h1
 subst hw;rw[ha.eval];exact hy
end
section afb
variable{P:Program}{σ:Env}{w w1:World}{dst:Option Tmp}{ty t:TypeId}{pos:String}{bJ:Array Edge}{g:Option (Nat×Bool)}{x y:Operand}{v:Value}{sz n:Nat}{cells:List Value}{k:IntKind}{i:Int}
theorem B0{e:TypeId}(hS:Sl w1 v sz n cells)(hu:P.underlying t=some (.slice e))(hs:∀w,(sizeOf e).run P w= .ok sz w)(hx:ev σ x=v)(hy:ev σ y= .int k i)(hi:0<=i/\i<=n):
  (execOp (ev σ) ⟨dst,.slice t x none (some y) none,ty,pos,bJ,g⟩).run P w= .ok (.value (kS v i.toNat)) w:=by
 obtain⟨a,cap,hv,hnc,ha⟩:=hS.shape
 subst hv
 have h1:0<=i/\i<=(cap:Int):=J
 have h2:(Instr.slice t (.slice a n cap) none (some (.int k i)) none).run P w= .ok (.slice a i.toNat cap) w:=by
  simp[Instr.slice,Instr.sliceBounds,Instr.sliceBound,jr hu,asIntOf,h1,hs]
  intro h;cases a<;>rfl
 have h3:(Instr.sliceAt t (.slice a n cap) none (some (.int k i)) none).run P w= .ok (.slice a i.toNat cap) w:=by
  simp[Instr.sliceAt,jr hu,h2]
 simp[execOp,hx,hy,h3,kS]
end afb
theorem Ve{k:Nat}:∀{l:List Int} {u:List (List Int)},(∀x∈l,x.toNat≠k)->(l.foldl uY u).getD k []=u.getD k []
 |[],_,_=>rfl
 |a::l,u,h=>by
  rw[r5,Ve fun x hx=>h x (fw _ hx)]
  unfold uY
  rw[eE,List.getElem?_set_ne (h a (tG ..)),<-eE]
theorem am5{l:List Int}{us sV:List iW}{j:Int}(hnd:l.Nodup)(hp:∀v∈l,0<=v/\v<us.length)(hne:∀v∈l,(mO us).getD v.toNat []≠[])(h0:0<=j)(hj:j<l.length)(S4:mO sV=(l.take j.toNat).foldl uY (mO us)):
  1<=(sV.getD (l.getD j.toNat 0).toNat cD).l.length:=by
 have hm:=dc (d:=0) h0 hj
 have h1:(mO sV).getD (l.getD j.toNat 0).toNat []=(mO us).getD (l.getD j.toNat 0).toNat []:=by
  rw[S4]
  refine Ve fun x hx e=> ?_
  obtain⟨i,hi,rfl⟩:=DW.1 hx
  have hjl:j.toNat<l.length:=J
  rw[getD_eq hjl]at e hm
  have a1:=hp _ hm
  have a2:=hp _ (p6 (h:=(by omega:i<l.length)))
  exact J7.1 hnd i j.toNat J hjl J J
 have h2:=hne _ hm
 rw[<-h1,zm]at h2
 exact List.length_pos_iff.2 h2
theorem Hp.usT{w0 w:World}{us:List iW}{t:TypeId}{i:Nat}{e1 e2 e3 e4 e5 e6 e7 e8 e9 e10 e11 e12:a8}{R X:List a8}(h:Hp w0 w (e1::e2::e3::e4::e5::e6::e7::e8::e9::e10::e11::e12::((us.map (dr t)++R)++X))):
  Hp w0 w (e1::e2::e3::e4::e5::e6::e7::e8::e9::e10::e11::e12::((us.take i).map (dr t)++(R++X))):=by
 refine h.sub ?_
 rw[dg]
 iterate 12 refine .cons_cons _ ?_
 exact Wz ((List.take_sublist _ _).map _) (List.Sublist.refl _)
structure AF(p:lM)(k:Nat)(s u:NP):Prop where
 np:mR p s
 nq:mR p u
 nw:n5 s
 nu:n5 u
 qs:s.qs.map u7=u.qs.map u7
 ql:s.qs.length<=k
 sk:s.sk=u.sk
 va:∀i,i<p.vars.length->qL (s.ai.getD i dy) (u.ai.getD i dy)
section
variable{p:lM}{s s' u u':NP}{k j:Nat}{ok ok':Bool}{x:ia}
theorem Vf(h:n5 s)(hq:s.qs=[]):rN (SN s) (fun _=>False) (vQ s.ai):=
 ⟨⟨h.ns.si.low.fit,fun u hu=>h.ns.si.low.low u ⟨hu.fit,fun q ⟨i,hi,_⟩=>by rw[hq]at hi;cases hi⟩⟩,fun q h=>h.elim⟩
theorem AF.start(h1:mR p s)(h2:n5 s)(h3:s.qs=[])(h4:s.sk=false)(g1:mR p u)(g2:n5 u)(g3:u.qs=[])(g4:u.sk=false):AF p 0 s u:=
 ⟨h1,g1,h2,g2,by rw[h3,g3],by rw[h3];exact lW _,h4.trans g4.symm,fun i hi=>by
  have a:=Vf h2 h3
  have b:=Vf g2 g3
  rw[h1.sys]at a;rw[g1.sys]at b
  exact a.same b i hi⟩
theorem asH(h1:mR p s)(h2:mR p u){q r:de}(e:u7 q=u7 r):sM s.an s.ai.length q=sM u.an u.ai.length r:=by
 simp only[u7,QA]at e
 unfold sM ya
 rw[h1.nv,h2.nv,h1.sh,h2.sh,e.1,e.2.1,e.2.2.1]
theorem ao9(h1:mR p s)(h2:mR p u)(hq:s.qs.map u7=u.qs.map u7){q:sH}(h:QN s q):QN u q:=by
 obtain⟨i,hi,e⟩:=h
 have hl:s.qs.length=u.qs.length:=by have:=aK List.length hq;simpa using this
 refine⟨i,J,e.trans (asH h1 h2 ?_)⟩
 rw[getD_eq hi,getD_eq (show i<u.qs.length by omega)]
 have:=List.getElem_of_eq hq (i:=i) uA
 simpa using this
theorem AF.sys(h:AF p k s u):SN s=SN u:=h.np.sys.trans h.nq.sys.symm
theorem AF.qn(h:AF p k s u):QN s=QN u:=funext fun q=>propext ⟨ao9 h.np h.nq h.qs,ao9 h.nq h.np h.qs.symm⟩
theorem AF.more(h:AF p k s u)(hk:k<=j):AF p j s u:=⟨h.np,h.nq,h.nw,h.nu,h.qs,jP h.ql hk,h.sk,h.va⟩
theorem add_one(hp:mR p s)(hw:n5 s)(hq:s.qs.length<64)(hx:j5 p x=true)(hc:x.code.length<=1000)(hA:FQ s s' x j ok):(mR p s'/\n5 s')/\s'.qs.map u7=s.qs.map u7++(if x.op=8/\s.sk=false then[I5 j x]else[])/\s'.sk=s.sk/\s'.ai=s.ai/\ok=(decide (x.op≠8)|| !s.sk):=by
 cases tL:s.sk with
 |true=>
  obtain⟨h1,h2⟩:=hA.stuck tL
  subst h1
  refine⟨⟨hp,hw⟩,?_,tL,rfl,?_⟩
  .rw[aP az,kV]
  rw[gG,h2];simp
 |false=>
  by_cases ho:x.op=8
  .have hR:=hA.eq ho
   have hfb:=hp.fit hw.ns.ok.hlt hx ho
   have hok:=hR.is.2 ⟨tL,hfb⟩
   obtain⟨cv,vv,e⟩:=hR.add hok
   have hf:=R2 hw.ns.ok hfb hc cv vv (1#64<<<j)
   subst e
   refine⟨⟨⟨hp.lt,hp.la,hp.nv⟩,hw.add hf hq⟩,?_,tL,rfl,by rw[hok];simp⟩
   rw[aQ ⟨ho,rfl⟩]
   show(s.qs++[_]).map u7=_
   rw[gA];rfl
  obtain⟨h1,h2⟩:=hA.ne ho
  subst h2
  exact⟨⟨hp,hw⟩,by rw[aP fun q=>ho q.1,kV],tL,rfl,by rw[h1];simp[ho]⟩
theorem AF.add(h:AF p k s u)(hk:k<64)(hx:j5 p x=true)(hc:x.code.length<=1000)(hA:FQ s s' x j ok)(hB:FQ u u' x j ok'):ok=ok'/\AF p (k+1) s' u':=by
 have hl:s.qs.length=u.qs.length:=by have:=aK List.length h.qs;simpa using this
 have hql:=h.ql
 obtain⟨⟨a1,a2⟩,a3,a4,a5,a6⟩:=add_one h.np h.nw J hx hc hA
 obtain⟨⟨b1,b2⟩,b3,b4,b5,b6⟩:=add_one h.nq h.nu J hx hc hB
 refine⟨by rw[a6,b6,h.sk],a1,b1,a2,b2,by rw[a3,b3,h.qs,h.sk],?_,by rw[a4,b4,h.sk],by rw[a5,b5];exact h.va⟩
 have e:=aK List.length a3
 simp only[gj,cV]at e
 split at e<;>simp only[gk,D2]at e<;>omega
theorem AF.set(h:AF p k s u)(hQ:ac6 s s' ok)(hR:ac6 u u' ok'):ok=ok'/\AF p k s' u':=by
 cases tL:s.sk with
 |true=>
  obtain⟨a1,a2⟩:=hQ.st tL
  obtain⟨b1,b2⟩:=hR.st (h.sk.symm.trans tL)
  subst a1;subst a2;subst b1;subst b2
  exact⟨rfl,h⟩
 |false=>
  have a:=hQ.go tL
  have b:=hR.go (h.sk.symm.trans tL)
  have hok:ok=ok':=by
   cases ok with
   |true=>
    cases ok' with
    |true=>rfl
    |false=>
     have q:yc (SN s) (QN s):=⟨_,(a.yes O).1.low.fit,(a.yes O).2.1⟩
     rw[h.sys,h.qn]at q
     exact absurd q (b.no O).2.2.1
   |false=>
    cases ok' with
    |false=>rfl
    |true=>
     have q:yc (SN u) (QN u):=⟨_,(b.yes O).1.low.fit,(b.yes O).2.1⟩
     rw[<-h.sys,<-h.qn]at q
     exact absurd q (a.no O).2.2.1
  subst hok
  refine⟨rfl,h.np.same a.an a.aT a.len,h.nq.same b.an b.aT b.len,a.net,b.net,by rw[a.qs,b.qs];exact h.qs,by rw[a.qs];exact h.ql,by rw[a.sk,b.sk],fun i hi=> ?_⟩
  cases ok with
  |true=>
   have y:=(a.yes O).1
   rw[h.sys,h.qn]at y
   exact y.same (b.yes O).1 i (by rw[h.nq.sys];exact hi)
  |false=>rw[(a.no O).1,(b.no O).1];exact h.va i hi
end
theorem aaV{s u:NP}{lg lg':List (Value×jj)}{tm u9:List Int}(h:s.sk=u.sk)(hl:tm.length=u9.length):(tmS s lg tm).length=(tmS u lg' u9).length:=by
 unfold tmS
 rw[h]
 split<;>simp[hl]
theorem aaW{op:Int}{ok ok':Bool}{lg lg':List (Value×jj)}{tm t1 u9 t2:List Int}(h:YF op ok lg tm t1)(h2:YF op ok' lg' u9 t2)(he:ok=ok')(hl:tm.length=u9.length):t1.length=t2.length:=by
 subst he
 unfold YF TmA at h h2
 split at h
 .rename_i c
  rw[aQ c]at h2
  rw[h,h2];split<;>simp[hl]
 rename_i c
 rw[aP c]at h2
 rw[h,h2,hl]
def MD(m:Nat)(s1:NP)(lg:List (Value×jj))(tm:List Int)(s:NP):Prop:=(tm.length=m/\s=s1)\/(m<tm.length/\∃a b,lg=a++b/\tm.getD m 0=((a.length:Nat):Int)/\gh b s1 s)
structure apa(s s':NP)(k:Int)(lg:List (Value×jj))(tm u9:List Int)(ok:Bool):Prop where
 no:(tm.length:Int)<k->ok=false/\s'=s/\u9=tm
 eq:k=(tm.length:Int)->ok=true/\s'=s/\u9=tm
 lt:k<(tm.length:Int)->ok=true/\s'=xm (u6 lg (tm.getD k.toNat 0).toNat) s/\u9=tm.take k.toNat
section
variable{m:Nat}{s1 s s':NP}{lg new:List (Value×jj)}{tm u9:List Int}{ok:Bool}{x:ia}{j:Nat}
theorem MD.start(h:tm.length=m):MD m s1 lg tm s1:= .inl ⟨h,rfl⟩
theorem MD.tick(h:MD m s1 lg tm s)(hb:gh new s s'):MD m s1 (lg++new) (tm++[(lg.length:Int)]) s':=by
 rcases h with⟨h1,h2⟩|⟨h1,a,b,e,h2,h3⟩
 .subst h2
  refine .inr ⟨by simp;omega,lg,new,rfl,?_,hb⟩
  subst h1
  simp
 refine .inr ⟨by simp;omega,a,b++new,by rw[e,dg],?_,h3.trans hb⟩
 rw[<-h2]
 simp only[eE,wP h1]
theorem MD.same(h:MD m s1 lg tm s)(hb:gh new s s):MD m s1 (lg++new) tm s:=by
 rcases h with⟨h1,h2⟩|⟨h1,a,b,e,h2,h3⟩
 .exact .inl ⟨h1,h2⟩
 exact .inr ⟨h1,a,b++new,by rw[e,dg],h2,h3.trans hb⟩
theorem MD.add(h:MD m s1 lg tm s)(hA:FQ s s' x j ok)(hb:gh new s s')(ht:YF x.op ok lg tm u9):MD m s1 (lg++new) u9 s':=by
 unfold YF at ht
 split at ht
 .rename_i ho
  unfold TmA at ht
  cases ok with
  |true=>rw[ht];exact h.tick hb
  |false=>
   have:=(hA.eq ho).same O
   subst this
   rw[ht];exact h.same hb
 rename_i ho
 obtain⟨_,h2⟩:=hA.ne ho
 subst h2
 rw[ht];exact h.same hb
theorem MD.set(h:MD m s1 lg tm s)(hQ:ac6 s s' ok)(hb:gh new s s'):MD m s1 (lg++new) (tmS s lg tm) s':=by
 cases tL:s.sk with
 |true=>
  obtain⟨_,h2⟩:=hQ.st tL
  subst h2
  rw[ao7 tL];exact h.same hb
 |false=>rw[ao8 tL];exact h.tick hb
theorem MD.htr(h:MD m s1 lg tm s):((m:Nat):Int)<tm.length->(0<=tm.getD ((m:Nat):Int).toNat 0/\tm.getD ((m:Nat):Int).toNat 0<=lg.length)/\okB (u6 lg (tm.getD ((m:Nat):Int).toNat 0).toNat) s:=fun hl=>by
 rcases h with⟨h1,h2⟩|⟨h1,a,b,e,h2,h3⟩
 .omega
 rw[dN,h2,e,dN,FL]
 exact⟨⟨J,by simp only[cV];omega⟩,h3.ok⟩
theorem MD.back(h:MD m s1 lg tm s)(hU:apa s s' ((m:Nat):Int) lg tm u9 ok):ok=true/\s'=s1/\u9.length=m:=by
 rcases h with⟨h1,h2⟩|⟨h1,a,b,e,h2,h3⟩
 .obtain⟨q1,q2,q3⟩:=hU.eq J
  exact⟨q1,q2.trans h2,by rw[q3];exact h1⟩
 obtain⟨q1,q2,q3⟩:=hU.lt J
 refine⟨q1,?_,by rw[q3,dN,eo];omega⟩
 rw[q2,dN,h2,e,dN,FL]
 exact h3.und
end
theorem am6{s s':NP}{x:ia}{j:Nat}{ok:Bool}(hw:n5 s)(hq:s.qs.length<64)(hc:x.code.length<=1000)(hA:FQ s s' x j ok):n5 s'/\s'.qs.length<=s.qs.length+1/\s'.ai.length=s.ai.length:=by
 by_cases ho:x.op=8
 .have hR:=hA.eq ho
  cases ok with
  |false=>
   have:=hR.same O
   subst this
   exact⟨hw,Gx _,rfl⟩
  |true=>
   obtain⟨tL,hfb⟩:=hR.is.1 O
   obtain⟨cv,vv,e⟩:=hR.add O
   have hf:=R2 hw.ns.ok hfb hc cv vv (1#64<<<j)
   subst e
   exact⟨hw.add hf hq,by show(s.qs++[_]).length<=_;simp,rfl⟩
 obtain⟨h1,h2⟩:=hA.ne ho
 subst h2
 exact⟨hw,Gx _,rfl⟩
theorem am7{s s':NP}{ok:Bool}(hw:n5 s)(hQ:ac6 s s' ok):n5 s'/\s'.qs.length=s.qs.length/\s'.ai.length=s.ai.length:=by
 cases tL:s.sk with
 |true=>
  obtain⟨_,h2⟩:=hQ.st tL
  subst h2
  exact⟨hw,rfl,rfl⟩
 |false=>exact⟨(hQ.go tL).net,aK List.length (hQ.go tL).qs,(hQ.go tL).len⟩
def VmR(s s':NP)(l:Int)(lg:List (Value×jj))(tm u9:List Int):Prop:=(s'=s/\u9=tm)\/((0<=l/\l<s.an.length)/\s'=pz s l (s.an.getD l.toNat oK).low/\u9=tm++[(lg.length:Int)])
theorem VmR.nw{s s':NP}{l:Int}{lg:List (Value×jj)}{tm u9:List Int}(h:VmR s s' l lg tm u9)(hw:n5 s)(hn:s.ai.length<128):n5 s'/\s'.qs.length=s.qs.length/\s'.ai.length<=s.ai.length+1:=by
 rcases h with⟨h1,_⟩|⟨hl,h1,_⟩
 .subst h1;exact⟨hw,rfl,Gx _⟩
 subst h1;exact⟨hw.var hl hn,rfl,by show(s.ai++[_]).length<=_;simp⟩
theorem MD.var{m:Nat}{s1 s s':NP}{lg new:List (Value×jj)}{tm u9:List Int}{l:Int}(h:MD m s1 lg tm s)(hV:VmR s s' l lg tm u9)(hb:gh new s s'):MD m s1 (lg++new) u9 s':=by
 rcases hV with⟨h1,h2⟩|⟨_,_,h2⟩
 .subst h1;rw[h2];exact h.same hb
 rw[h2];exact h.tick hb
theorem Vg:∀{l:List jj} {s:NP} {x:oJ},x∈(xm l s).an->x∈s.an
 |[],s,x,h=>h
 |c::l,s,x,h=>by
  have h1:=Vg (l:=l) (s:=sL c s) h
  cases c<;>first|exact h1|exact uu h1
theorem ait:∀{l:List jj} {s:NP} {x:de},x∈(xm l s).qs->x∈s.qs
 |[],s,x,h=>h
 |c::l,s,x,h=>by
  have h1:=ait (l:=l) (s:=sL c s) h
  cases c<;>first|exact h1|exact uu h1
end
end Go.Proofs.YtlhjdflgjbkpmaaGreatDoor.E
namespace Go.Proofs.YtlhjdflgjbkpmaaGreatDoor.M
section
open Go
structure aiu(r:Rl)(cl:List Nat):Prop where
 n:pts r=cl.length
 sym:∀i j:Int,bI r i j=true->bI r j i=true
 axr:∀i j:Int,bI r i j=true->cg cl i.toNat=cg cl j.toNat
 lead:∀i:Nat,i<cl.length->bI (iQ r) i (cg cl i)=true
theorem aaX{r:Rl}(hs:∀i j:Int,bI r i j=true->bI r j i=true){i j:Int}(h:bI (iQ r) i j=true):bI (iQ r) j i=true:=by
 have h1:=(jt h).1
 rw[yK]at h1
 exact CF h (fun y=>bI (iQ r) y i=true) (fun x y hx hy=>mC (Ff (hs _ _ hy)) hx) (xO h1)
theorem aiv{r q:Rl}(hp:pts q=pts r)(hm:∀i j:Int,bI r i j=true->bI q i j=true){i j:Int}(h:bI (iQ r) i j=true):bI (iQ q) i j=true:=by
 have h1:=(jt h).1
 rw[yK]at h1
 exact CF h (fun y=>bI (iQ q) i y=true) (fun x y hx hy=>mC hx (Ff (hm _ _ hy))) (xO (by rw[hp];exact h1))
section
variable{r:Rl}{cl:List Nat}{nd:List pN}
theorem aiu.same(h:aiu r cl){i j:Nat}(hi:i<cl.length)(hj:j<cl.length):cg cl i=cg cl j↔bI (iQ r) i j=true:=by
 constructor
 .intro e
  have h1:=h.lead i hi;have h2:=h.lead j hj
  rw[e]at h1
  exact mC h1 (aaX h.sym h2)
 intro hc
 have:=CF hc (fun y=>cg cl i=cg cl y.toNat) (fun x y hx hy=>hx.trans (h.axr _ _ hy)) az
 simpa using this
theorem aiu.join(h:aiu r cl)(hf:Fo nd cl){q:Rl}{x y:Nat}(hx:x<cl.length)(hy:y<cl.length)(hp:pts q=pts r)(hq:∀i j:Int,bI q i j=true↔bI r i j=true\/(i=x/\j=y)\/(i=y/\j=x)):aiu q (ig cl (cg cl x) (cg cl y)):=by
 have hm:∀i j:Int,bI r i j=true->bI q i j=true:=fun i j e=>(hq i j).2 (.inl e)
 have hs:∀i j:Int,bI q i j=true->bI q j i=true:=fun i j e=>by
  rcases(hq i j).1 e with e|e|e
  .exact hm _ _ (h.sym _ _ e)
  .exact(hq j i).2 (.inr (.inr ⟨e.2,e.1⟩))
  exact(hq j i).2 (.inr (.inl ⟨e.2,e.1⟩))
 have hlen:(ig cl (cg cl x) (cg cl y)).length=cl.length:=by simp[ig]
 have hlc:∀i,i<cl.length->cg cl i<cl.length:=fun i hi=>by have:=(hf.lc i (by rw[<-hf.len];exact hi)).1;omega
 have gc:∀i,i<cl.length->cg (ig cl (cg cl x) (cg cl y)) i=Hw (cg cl x) (cg cl y) (cg cl i):=fun i hi=>zc hi
 have xy:bI (iQ q) x y=true:=Ff ((hq x y).2 (.inr (.inl ⟨rfl,rfl⟩)))
 have cs:∀{i j:Int},bI (iQ q) i j=true->bI (iQ q) j i=true:=fun e=>aaX hs e
 have lq:∀i:Nat,i<cl.length->bI (iQ q) i (cg cl i)=true:=fun i hi=>aiv hp hm (h.lead i hi)
 have cxy:bI (iQ q) (cg cl x) (cg cl y)=true:=mC (cs (lq x hx)) (mC xy (lq y hy))
 refine⟨by rw[hp,h.n,hlen],hs,fun i j e=> ?_,fun i hi=> ?_⟩
 .have hb:=jt e
  rw[hp,h.n]at hb
  rw[gc _ J,gc _ J]
  rcases(hq i j).1 e with e|e|e
  .rw[h.axr _ _ e]
  .rw[e.1,e.2,dN,dN,kx (.inl O),kx (.inr O)]
  rw[e.1,e.2,dN,dN,kx (.inl O),kx (.inr O)]
 rw[hlen]at hi
 rw[gc i hi]
 by_cases c:cg cl i=cg cl x\/cg cl i=cg cl y
 .rw[kx c]
  have h1:=lq i hi
  rcases c with c|c<;>rw[c]at h1<;>rcases xf (cg cl x) (cg cl y)with e|e<;>rw[e]
  .exact h1
  .exact mC h1 cxy
  .exact mC h1 (cs cxy)
  exact h1
 rw[kL c];exact lq i hi
end
end
end Go.Proofs.YtlhjdflgjbkpmaaGreatDoor.M
namespace Go.Proofs.YtlhjdflgjbkpmaaGreatDoor.E
section
open Go Go.RowKit Go.Proofs.YtlhjdflgjbkpmaaGreatDoor.M
section
variable{P:Program}{n:Nat}{l:List Oper}{S:World->Prop}{k:K}{xs:List (Nat×K)}{r:K}{σ:Env}{w:World}{fuel i d:Nat}{listed:Array Bool}{op:Op}{ty:TypeId}{pos:String}{bJ:Array Edge}{g:Option (Nat×Bool)}{v:Value}{dst:Option Tmp}
theorem V{ops:Array Oper}{rest:List Oper}{w':World}(hr:(execOp (ev σ) ⟨some d,op,ty,pos,bJ,none⟩).run P w= .ok (.value v) w')(hk:RL P n ops k rest (k7 σ d v) w')(hd:Nat.blt d n=true:=by rfl):RL P n ops k (⟨some d,op,ty,pos,bJ,none⟩::rest) σ w:=ox hd hr hk
abbrev Pn(b o:Nat):Value:= .pointer (some ⟨b,o,none⟩)
theorem mV{x:Operand}(v:Value)(hx:ev σ x=v):(execOp (ev σ) ⟨dst,.move x,ty,pos,bJ,g⟩).run P w= .ok (.value v) w:=run_move hx
theorem aV{x:Operand}(v:Value)(hx:ev σ x=v):(execOp (ev σ) ⟨dst,.assign x,ty,pos,bJ,g⟩).run P w= .ok (.value v) w:=run_assign hx
theorem AT(i:Nat)(hi:l[i]?=some ⟨some d,op,ty,pos,bJ,none⟩)(hS:S w)(hy:∀w,S w->(execOp (ev σ) ⟨some d,op,ty,pos,bJ,none⟩).run P w= .ok (.value v) w)
 (h:AN P n l S k fuel (listed.setIfInBounds i true) (k7 σ d v) w) (hd:Nat.blt d n=true:=by rfl) (hs:Region.noSelect l.toArray=true:=by kernel_rfl) (hf:Region.free .any l.toArray listed i=true:=by kernel_rfl)
 (hr:(Region.ready .any l.toArray listed).contains i=true:=by kernel_rfl):AN P n l S k (fuel+1) listed σ w:=by grind[aeY]
theorem AG(i:Nat){j dj:Nat}{want:Bool}(hi:l[i]?=some ⟨some d,op,ty,pos,bJ,some (j,want)⟩)(hj:(l[j]?).bind (·.dst)=some dj)(hb:σ dj= .bool want)
 (hS:S w) (hy:∀w,S w->(execOp (ev σ) ⟨some d,op,ty,pos,bJ,some (j,want)⟩).run P w= .ok (.value v) w)
 (h:AN P n l S k fuel (listed.setIfInBounds i true) (k7 σ d v) w) (hd:Nat.blt d n=true:=by rfl) (hs:Region.noSelect l.toArray=true:=by kernel_rfl) (hf:Region.free .any l.toArray listed i=true:=by kernel_rfl)
 (hr:(Region.ready .any l.toArray listed).contains i=true:=by kernel_rfl):AN P n l S k (fuel+1) listed σ w:=by grind[aqP]
theorem BQ(i:Nat){j dj:Nat}{want:Bool}(hi:l[i]?=some ⟨some d,op,ty,pos,bJ,some (j,want)⟩)(hj:(l[j]?).bind (·.dst)=some dj)(hb:σ dj= .bool want)
 (hS:S w) (hy:∀{w},(execOp (ev σ) ⟨some d,op,ty,pos,bJ,some (j,want)⟩).run P w= .ok (.value v) w)
 (h:AN P n l S k fuel (listed.setIfInBounds i true) (k7 σ d v) w) (hd:Nat.blt d n=true:=by rfl) (hs:Region.noSelect l.toArray=true:=by kernel_rfl) (hf:Region.free .any l.toArray listed i=true:=by kernel_rfl)
 (hr:(Region.ready .any l.toArray listed).contains i=true:=by kernel_rfl):AN P n l S k (fuel+1) listed σ w:=AG i hi hj hb hS (fun w _=>hy) h hd hs hf hr
theorem AK(i:Nat){j dj:Nat}{b want:Bool}(hi:l[i]?=some ⟨some d,op,ty,pos,bJ,some (j,want)⟩)(hj:(l[j]?).bind (·.dst)=some dj)(hb:σ dj= .bool b)(hS:S w)
 (h:AN P n l S k fuel (listed.setIfInBounds i true) (k7 σ d undef) w) (hne:(b==want)=false:=by rfl) (hd:Nat.blt d n=true:=by rfl) (hs:Region.noSelect l.toArray=true:=by kernel_rfl) (hf:Region.free .any l.toArray listed i=true:=by kernel_rfl)
 (hr:(Region.ready .any l.toArray listed).contains i=true:=by kernel_rfl):AN P n l S k (fuel+1) listed σ w:=by grind[avS]
theorem AU(i:Nat){j dj:Nat}{want:Bool}(hi:l[i]?=some ⟨some d,op,ty,pos,bJ,some (j,want)⟩)(hj:(l[j]?).bind (·.dst)=some dj)(hu:σ dj=undef)(hS:S w)
 (h:AN P n l S k fuel (listed.setIfInBounds i true) (k7 σ d undef) w) (hd:Nat.blt d n=true:=by rfl) (hs:Region.noSelect l.toArray=true:=by kernel_rfl) (hf:Region.free .any l.toArray listed i=true:=by kernel_rfl)
 (hr:(Region.ready .any l.toArray listed).contains i=true:=by kernel_rfl):AN P n l S k (fuel+1) listed σ w:=by grind[avT]
theorem AD(h:k σ w)(hr:Region.ready .any l.toArray listed=[]:=by kernel_rfl):AN P n l S k fuel listed σ w:=avR hr h
theorem A1(i:Nat)(h:AO P n l S k fuel listed σ w i)(hr:Region.ready .any l.toArray listed=[i]:=by kernel_rfl):AN P n l S k (fuel+1) listed σ w:=avU i hr h
theorem SR{id:Nat}{y:Code}(h:RL P n l.toArray (fun σ w=>CW P n y k xs r σ w) l σ w):CW P n (.seq (.region id l.toArray false) y) k xs r σ w:=ah (ax h)
theorem fA{x:Operand}{s i m b o:Nat}{fs:Array Field}{f:Field}(hu:P.underlying s=some (.struct fs))(off:Nat)(hf:fs[i]?=some f)(hs:∀w,(sizeOf f.type).run P w= .ok m w)(hx:ev σ x= .pointer (some ⟨b,o,none⟩))(ho:f.offset=off:=by rfl)(hn:m≠0:=by decide):
 (execOp (ev σ) ⟨dst,.fieldAddr s x i,ty,pos,bJ,g⟩).run P w= .ok (.value (.pointer (some ⟨b,o+off,none⟩))) w:=N0 hu hf ho hs hn hx
end
theorem sQ{α:Type}{a:α}{l l':List α}(h:l.Sublist l'):l.Sublist (a::l'):= .cons _ h
theorem sP{α:Type}{a:α}{l l':List α}(h:l.Sublist l'):(a::l).Sublist (a::l'):= .cons_cons _ h
theorem sR{α:Type}{l:List α}:l.Sublist l:= .refl _
theorem sA{α:Type}{l l' m:List α}(h:l.Sublist l'):l.Sublist (m++l'):=by grind
theorem z0{α:Type}{a b:α}{l:List α}:(a::l).set 0 b=b::l:=rfl
theorem z1{α:Type}{a b:α}{l:List α}{i:Nat}:(a::l).set (i+1) b=a::l.set i b:=rfl
theorem mT{α:Type}{a b:α}{l:List α}(h:a∈l):a∈b::l:=fw _ h
section
variable{ws:List Nat}{σ σ':Env}{d d1 d2 d3:Nat}{v v1 v2 v3:Value}
theorem Fr.u1(h:Fr ws σ σ')(hd:ws.contains d=true:=by rfl):Fr ws σ (k7 σ' d v):=h.u hd
theorem Fr.u4(h:Fr ws σ σ')(hd:ws.contains d=true:=by rfl)(h1:ws.contains d1=true:=by rfl)(h2:ws.contains d2=true:=by rfl)(h3:ws.contains d3=true:=by rfl):Fr ws σ (k7 (k7 (k7 (k7 σ' d v) d1 v1) d2 v2) d3 v3):=by grind[Fr,k7]
end
section
variable{P:Program}{n:Nat}{l:List Oper}{S:World->Prop}{k:K}{xs:List (Nat×K)}{r:K}{σ σ':Env}{w:World}{fuel i d:Nat}{listed:Array Bool}{op:Op}{ty:TypeId}{pos:String}{bJ:Array Edge}{g:Option (Nat×Bool)}{v:Value}{dst:Option Tmp}{ops:Array Oper}{rest:List Oper}{x:Operand}
theorem va{v:Value}(hx:ev σ x=v)(hk:RL P n ops k rest (k7 σ d v) w)(hd:Nat.blt d n=true:=by rfl):RL P n ops k (⟨some d,.assign x,ty,pos,bJ,none⟩::rest) σ w:=ox hd (run_assign hx) hk
theorem aE{v:Value}(hx:ev σ x=v)(hk:RL P n ops k rest (k7 σ d v) w)(hd:Nat.blt d n=true:=by rfl):RL P n ops k (⟨some d,.move x,ty,pos,bJ,none⟩::rest) σ w:=ox hd (run_move hx) hk
theorem aI{a:Int}(hx:ev σ x=I a)(hk:RL P n ops k rest (k7 σ d (I a)) w)(hd:Nat.blt d n=true:=by rfl):RL P n ops k (⟨some d,.assign x,ty,pos,bJ,none⟩::rest) σ w:=va hx hk hd
theorem aB{a:Bool}(hx:ev σ x=B a)(hk:RL P n ops k rest (k7 σ d (B a)) w)(hd:Nat.blt d n=true:=by rfl):RL P n ops k (⟨some d,.assign x,ty,pos,bJ,none⟩::rest) σ w:=va hx hk hd
theorem aU{a:BitVec 64}(hx:ev σ x=U a)(hk:RL P n ops k rest (k7 σ d (U a)) w)(hd:Nat.blt d n=true:=by rfl):RL P n ops k (⟨some d,.assign x,ty,pos,bJ,none⟩::rest) σ w:=va hx hk hd
theorem mI{a:Int}(hx:ev σ x=I a)(hk:RL P n ops k rest (k7 σ d (I a)) w)(hd:Nat.blt d n=true:=by rfl):RL P n ops k (⟨some d,.move x,ty,pos,bJ,none⟩::rest) σ w:=aE hx hk hd
theorem mB{a:Bool}(hx:ev σ x=B a)(hk:RL P n ops k rest (k7 σ d (B a)) w)(hd:Nat.blt d n=true:=by rfl):RL P n ops k (⟨some d,.move x,ty,pos,bJ,none⟩::rest) σ w:=aE hx hk hd
theorem mU{a:BitVec 64}(hx:ev σ x=U a)(hk:RL P n ops k rest (k7 σ d (U a)) w)(hd:Nat.blt d n=true:=by rfl):RL P n ops k (⟨some d,.move x,ty,pos,bJ,none⟩::rest) σ w:=aE hx hk hd
theorem AQ(i:Nat)(hi:l[i]?=some ⟨some d,op,ty,pos,bJ,none⟩)(hS:S w)(hy:∀{w},(execOp (ev σ) ⟨some d,op,ty,pos,bJ,none⟩).run P w= .ok (.value v) w)
 (h:AN P n l S k fuel (listed.setIfInBounds i true) (k7 σ d v) w) (hd:Nat.blt d n=true:=by rfl) (hs:Region.noSelect l.toArray=true:=by kernel_rfl) (hf:Region.free .any l.toArray listed i=true:=by kernel_rfl)
 (hr:(Region.ready .any l.toArray listed).contains i=true:=by kernel_rfl):AN P n l S k (fuel+1) listed σ w:=by grind[aeY]
theorem Fr.w1{ws:List Nat}{v1:Value}(h:Fr ws σ σ')(i:Nat)(h1:σ i=v1:=by conv=>lhs;whnf)(c1:ws.contains i=false:=by rfl):σ' i=v1:=(h i c1).trans h1
theorem Fr.t1{ws:List Nat}{v1:Value}(h:Fr ws σ σ')(i:Nat)(h1:σ i=v1)(c1:ws.contains i=false:=by rfl):σ' i=v1:=(h i c1).trans h1
theorem Fr.w2{ws:List Nat}{v1 v2:Value}(h:Fr ws σ σ')(i j:Nat)(h1:σ i=v1:=by conv=>lhs;whnf)(h2:σ j=v2:=by conv=>lhs;whnf)(c1:ws.contains i=false:=by rfl)(c2:ws.contains j=false:=by rfl):σ' i=v1/\σ' j=v2:=⟨(h i c1).trans h1,(h j c2).trans h2⟩
theorem Fr.t2{ws:List Nat}{v1 v2:Value}(h:Fr ws σ σ')(i:Nat)(h1:σ i=v1)(j:Nat)(h2:σ j=v2)(c1:ws.contains i=false:=by rfl)(c2:ws.contains j=false:=by rfl):σ' i=v1/\σ' j=v2:=⟨(h i c1).trans h1,(h j c2).trans h2⟩
theorem Fr.w3{ws:List Nat}{v1 v2 v3:Value}(h:Fr ws σ σ')(i j k:Nat)(h1:σ i=v1:=by conv=>lhs;whnf)(h2:σ j=v2:=by conv=>lhs;whnf)(h3:σ k=v3:=by conv=>lhs;whnf)(c1:ws.contains i=false:=by rfl)(c2:ws.contains j=false:=by rfl)(c3:ws.contains k=false:=by rfl):σ' i=v1/\σ' j=v2/\σ' k=v3:=⟨(h i c1).trans h1,(h j c2).trans h2,(h k c3).trans h3⟩
theorem Fr.t3{ws:List Nat}{v1 v2 v3:Value}(h:Fr ws σ σ')(i:Nat)(h1:σ i=v1)(j:Nat)(h2:σ j=v2)(k:Nat)(h3:σ k=v3)(c1:ws.contains i=false:=by rfl)(c2:ws.contains j=false:=by rfl)(c3:ws.contains k=false:=by rfl):σ' i=v1/\σ' j=v2/\σ' k=v3:=⟨(h i c1).trans h1,(h j c2).trans h2,(h k c3).trans h3⟩
theorem Fr.w4{ws:List Nat}{v1 v2 v3 v4:Value}(h:Fr ws σ σ')(i j k l:Nat)(h1:σ i=v1:=by conv=>lhs;whnf)(h2:σ j=v2:=by conv=>lhs;whnf)(h3:σ k=v3:=by conv=>lhs;whnf)(h4:σ l=v4:=by conv=>lhs;whnf)(c1:ws.contains i=false:=by rfl)(c2:ws.contains j=false:=by rfl)(c3:ws.contains k=false:=by rfl)(c4:ws.contains l=false:=by rfl):σ' i=v1/\σ' j=v2/\σ' k=v3/\σ' l=v4:=⟨(h i c1).trans h1,(h j c2).trans h2,(h k c3).trans h3,(h l c4).trans h4⟩
theorem Fr.t4{ws:List Nat}{v1 v2 v3 v4:Value}(h:Fr ws σ σ')(i:Nat)(h1:σ i=v1)(j:Nat)(h2:σ j=v2)(k:Nat)(h3:σ k=v3)(l:Nat)(h4:σ l=v4)(c1:ws.contains i=false:=by rfl)(c2:ws.contains j=false:=by rfl)(c3:ws.contains k=false:=by rfl)(c4:ws.contains l=false:=by rfl):σ' i=v1/\σ' j=v2/\σ' k=v3/\σ' l=v4:=⟨(h i c1).trans h1,(h j c2).trans h2,(h k c3).trans h3,(h l c4).trans h4⟩
theorem Fr.w5{ws:List Nat}{v1 v2 v3 v4 v5:Value}(h:Fr ws σ σ')(i j k l m:Nat)(h1:σ i=v1:=by conv=>lhs;whnf)(h2:σ j=v2:=by conv=>lhs;whnf)(h3:σ k=v3:=by conv=>lhs;whnf)(h4:σ l=v4:=by conv=>lhs;whnf)(h5:σ m=v5:=by conv=>lhs;whnf)(c1:ws.contains i=false:=by rfl)(c2:ws.contains j=false:=by rfl)(c3:ws.contains k=false:=by rfl)(c4:ws.contains l=false:=by rfl)(c5:ws.contains m=false:=by rfl):σ' i=v1/\σ' j=v2/\σ' k=v3/\σ' l=v4/\σ' m=v5:=⟨(h i c1).trans h1,(h j c2).trans h2,(h k c3).trans h3,(h l c4).trans h4,(h m c5).trans h5⟩
theorem Fr.t5{ws:List Nat}{v1 v2 v3 v4 v5:Value}(h:Fr ws σ σ')(i:Nat)(h1:σ i=v1)(j:Nat)(h2:σ j=v2)(k:Nat)(h3:σ k=v3)(l:Nat)(h4:σ l=v4)(m:Nat)(h5:σ m=v5)(c1:ws.contains i=false:=by rfl)(c2:ws.contains j=false:=by rfl)(c3:ws.contains k=false:=by rfl)(c4:ws.contains l=false:=by rfl)(c5:ws.contains m=false:=by rfl):σ' i=v1/\σ' j=v2/\σ' k=v3/\σ' l=v4/\σ' m=v5:=⟨(h i c1).trans h1,(h j c2).trans h2,(h k c3).trans h3,(h l c4).trans h4,(h m c5).trans h5⟩
theorem Fr.w6{ws:List Nat}{v1 v2 v3 v4 v5 v6:Value}(h:Fr ws σ σ')(i j k l m o:Nat)(h1:σ i=v1:=by conv=>lhs;whnf)(h2:σ j=v2:=by conv=>lhs;whnf)(h3:σ k=v3:=by conv=>lhs;whnf)(h4:σ l=v4:=by conv=>lhs;whnf)(h5:σ m=v5:=by conv=>lhs;whnf)(h6:σ o=v6:=by conv=>lhs;whnf)(c1:ws.contains i=false:=by rfl)(c2:ws.contains j=false:=by rfl)(c3:ws.contains k=false:=by rfl)(c4:ws.contains l=false:=by rfl)(c5:ws.contains m=false:=by rfl)(c6:ws.contains o=false:=by rfl):σ' i=v1/\σ' j=v2/\σ' k=v3/\σ' l=v4/\σ' m=v5/\σ' o=v6:=⟨(h i c1).trans h1,(h j c2).trans h2,(h k c3).trans h3,(h l c4).trans h4,(h m c5).trans h5,(h o c6).trans h6⟩
theorem Fr.ii{ws:List Nat}(h:Fr ws σ σ')(i:Nat){a:Int}(hc:ws.contains i=false)(hv:σ i=E.I a):σ' i=E.I a:=(h i hc).trans hv
theorem Fr.bb{ws:List Nat}(h:Fr ws σ σ')(i:Nat){a:Bool}(hc:ws.contains i=false)(hv:σ i=E.B a):σ' i=E.B a:=(h i hc).trans hv
theorem Fr.ss{ws:List Nat}(h:Fr ws σ σ')(i:Nat){a:ByteArray}(hc:ws.contains i=false)(hv:σ i= .string a):σ' i= .string a:=(h i hc).trans hv
theorem Fr.vv{ws:List Nat}(h:Fr ws σ σ')(i:Nat){a:Value}(hc:ws.contains i=false)(hv:σ i=a):σ' i=a:=(h i hc).trans hv
end
def rg:Nat->Nat->List Nat->List Nat
 |_,0,l=>l
 |a,n+1,l=>a::rg (a+1) n l
theorem oX:(∀(k:IntKind) (n:Int),(Value.int k n).cells.toList=[Value.int k n])/\(∀b:Bool,(Value.bool b).cells.toList=[Value.bool b])/\(∀b:ByteArray,(Value.string b).cells.toList=[Value.string b])/\(∀a:Option Addr,(Value.pointer a).cells.toList=[Value.pointer a])/\(∀(a:Option Addr) (n c:Nat),(Value.slice a n c).cells.toList=[Value.slice a n c])/\(∀l:List Value,(Value.agg l.toArray).cells.toList=l)/\(∀(f:Value->List Value) (a:Value) (l:List Value),(a::l).flatMap f=f a++l.flatMap f)/\(∀f:Value->List Value,([]:List Value).flatMap f=[])/\(∀l:List Value,[]++l=l)/\(∀l:List Value,l++[]=l)/\(∀(a:Value) (l m:List Value),a::l++m=a::(l++m)):=by simp_all[clI,clB,clS,clP,clL,clA]
theorem z2{α:Type}:(∀(a b:α) (l:List α),(a::l).set 0 b=b::l)/\(∀(a b:α) (l:List α) (i:Nat),(a::l).set (i+1) b=a::l.set i b):=⟨fun _ _ _=>rfl,fun _ _ _ _=>rfl⟩
def pull{α:Type}:Nat->List α->List α
 |0,l=>l
 |n+1,a::l=>match pull n l with
  |b::m=>b::a::m
  |[]=>[a]
 |_,[]=>[]
def gL{α:Type}:List Nat->List α->List α
 |[],l=>l
 |n::ns,l=>match pull n l with
  |b::m=>b::gL ns m
  |[]=>[]
theorem aiw{α:Type}:∀(n:Nat) (l:List α),l.Perm (pull n l)
 |0,_=> .refl _
 |n+1,[]=> .refl _
 |n+1,a::l=>by
  have h:=aiw n l
  rw[pull]
  revert h;cases pull n l with
  |nil=>exact fun h=>h.cons a
  |cons b m=>exact fun h=>(h.cons a).trans (.swap _ _ _)
theorem aaY{α:Type}:∀(ns:List Nat) (l:List α),l.Perm (gL ns l)
 |[],_=> .refl _
 |n::ns,l=>by
  have h:=aiw n l
  rw[gL]
  revert h;cases pull n l with
  |nil=>exact fun h=>h
  |cons b m=>exact fun h=>h.trans ((aaY ns m).cons b)
theorem Hp.pj{w0 w:World}{L:List a8}(h:Hp w0 w L)(ns:List Nat):Hp w0 w (gL ns L):=h.perm (aaY ns L)
theorem Hp.pk{w0 w:World}{L L':List a8}(h:Hp w0 w L)(ns:List Nat)(e:gL ns L=L':=by conv=>lhs;simp only[gL,pull]):Hp w0 w L':=e▸h.pj ns
section
variable{P:Program}{n:Nat}{ops:Array Oper}{k:K}{rest l:List Oper}{σ:Env}{w0 w:World}{L:List a8}{op:Op}{ty t e:TypeId}{pos:String}{bJ:Array Edge}{d:Nat}{v:Value}{x:Operand}{fn:Func}{q:Value->World->Prop}
 {b off:Nat} {c:Array Value} {fr:Nat×Nat} {td:TypeDesc} {fuel:Nat} {listed:Array Bool}
theorem en{f:FuncId}{c:Code}{args:Array Value}(hf:P.funcs[f]?=some fn)(hb:fn.body=some c)(hn:fn.ntmps=n)(h:CW P n c (Out P fn q) [] (Out P fn q) (entry args) w)(ha:Nat.ble args.size n=true:=by rfl):Calls P f args w (iA q):=enter hf hb hn ha h
theorem eH{f:FuncId}{c:Code}{args:Array Value}(hf:P.funcs[f]?=some fn)(hb:fn.body=some c)(hn:fn.ntmps=n)(h:Hp w w []->CW P n c (Out P fn q) [] (Out P fn q) (entry args) w)(ha:Nat.ble args.size n=true:=by rfl):Calls P f args w (iA q):=enter hf hb hn ha (h (Hp.start w))
theorem oY{o:Obj}(hH:Hp w0 w L)(hr:(execOp (ev σ) ⟨some d,op,ty,pos,bJ,none⟩).run P w= .ok (.value (.pointer (some ⟨w.heap.size,0,none⟩))) (w.alloc o))
 (hk:∀b w',Hp w0 w' (.blk b o::L)->RL P n ops k rest (k7 σ d (.pointer (some ⟨b,0,none⟩))) w') (hd:Nat.blt d n=true:=by rfl):RL P n ops k (⟨some d,op,ty,pos,bJ,none⟩::rest) σ w:=Xt hd hH (f:=fun b=> .pointer (some ⟨b,0,none⟩)) hr hk
theorem iu(hH:Hp w0 w L){v:Value}(hx:ev σ x=v)
 (hk:∀b w',Hp w0 w' (.blk b (.cells v.cells e)::L)->RL P n ops k rest (k7 σ d (.pointer (some ⟨b,0,none⟩))) w') (hd:Nat.blt d n=true:=by rfl):RL P n ops k (⟨some d,.box e x,ty,pos,bJ,none⟩::rest) σ w:=oY hH (Jr hx) hk hd
theorem yd(a m:Nat){o:Obj}(hH:Hp w0 w L)(hr:(execOp (ev σ) ⟨some d,op,ty,pos,bJ,none⟩).run P w= .ok (.value (.slice (some ⟨w.heap.size,0,none⟩) a m)) (w.alloc o))
 (hk:∀b w',Hp w0 w' (.blk b o::L)->RL P n ops k rest (k7 σ d (.slice (some ⟨b,0,none⟩) a m)) w') (hd:Nat.blt d n=true:=by rfl):RL P n ops k (⟨some d,op,ty,pos,bJ,none⟩::rest) σ w:=Xt hd hH (f:=fun b=> .slice (some ⟨b,0,none⟩) a m) hr hk
theorem lV(hu:P.underlying t=some td)(hH:Hp w0 w L)(i:Nat)(hx:ev σ x= .pointer (some ⟨b,off,none⟩))(hi:L[i]?=some (.blk b (.cells c e fr)))(hc:c[off]?=some v)
 (hk:RL P n ops k rest (k7 σ d v) w) (hr:td.isRow=false:=by rfl) (hd:Nat.blt d n=true:=by rfl):RL P n ops k (⟨some d,.load t x,ty,pos,bJ,none⟩::rest) σ w:=ox hd (au hu hr hx (hH.cell hi hc)) hk
theorem lI{a:Int}(hu:P.underlying t=some td)(hH:Hp w0 w L)(i:Nat)(hx:ev σ x= .pointer (some ⟨b,off,none⟩))(hi:L[i]?=some (.blk b (.cells c e fr)))(hc:c[off]?=some (I a))
 (hk:RL P n ops k rest (k7 σ d (I a)) w) (hr:td.isRow=false:=by rfl) (hd:Nat.blt d n=true:=by rfl):RL P n ops k (⟨some d,.load t x,ty,pos,bJ,none⟩::rest) σ w:=ox hd (au hu hr hx (hH.cell hi hc)) hk
theorem lP{p q:Nat}(hu:P.underlying t=some td)(hH:Hp w0 w L)(i:Nat)(hx:ev σ x= .pointer (some ⟨b,off,none⟩))(hi:L[i]?=some (.blk b (.cells c e fr)))(hc:c[off]?=some (Pn p q))
 (hk:RL P n ops k rest (k7 σ d (Pn p q)) w) (hr:td.isRow=false:=by rfl) (hd:Nat.blt d n=true:=by rfl):RL P n ops k (⟨some d,.load t x,ty,pos,bJ,none⟩::rest) σ w:=ox hd (au hu hr hx (hH.cell hi hc)) hk
theorem tV(i:Nat)(hi:l[i]?=some ⟨some d,.load t x,ty,pos,bJ,none⟩)(hS:Hp w0 w L)(hu:P.underlying t=some td)(j:Nat)(hx:ev σ x= .pointer (some ⟨b,off,none⟩))(hj:L[j]?=some (.blk b (.cells c e fr)))(hc:c[off]?=some v)
 (h:AN P n l (fun w=>Hp w0 w L) k fuel (listed.setIfInBounds i true) (k7 σ d v) w) (ht:td.isRow=false:=by rfl) (hd:Nat.blt d n=true:=by rfl) (hs:Region.noSelect l.toArray=true:=by kernel_rfl) (hf:Region.free .any l.toArray listed i=true:=by kernel_rfl)
 (hr:(Region.ready .any l.toArray listed).contains i=true:=by kernel_rfl):AN P n l (fun w=>Hp w0 w L) k (fuel+1) listed σ w:=aeY i hi hd hs hf hr hS (fun w hS=>au hu ht hx (hS.cell hj hc)) h
theorem tI{a:Int}(i:Nat)(hi:l[i]?=some ⟨some d,.load t x,ty,pos,bJ,none⟩)(hS:Hp w0 w L)(hu:P.underlying t=some td)(j:Nat)(hx:ev σ x= .pointer (some ⟨b,off,none⟩))(hj:L[j]?=some (.blk b (.cells c e fr)))(hc:c[off]?=some (I a))
 (h:AN P n l (fun w=>Hp w0 w L) k fuel (listed.setIfInBounds i true) (k7 σ d (I a)) w) (ht:td.isRow=false:=by rfl) (hd:Nat.blt d n=true:=by rfl) (hs:Region.noSelect l.toArray=true:=by kernel_rfl) (hf:Region.free .any l.toArray listed i=true:=by kernel_rfl)
 (hr:(Region.ready .any l.toArray listed).contains i=true:=by kernel_rfl):AN P n l (fun w=>Hp w0 w L) k (fuel+1) listed σ w:=tV i hi hS hu j hx hj hc h ht hd hs hf hr
theorem tP{p q:Nat}(i:Nat)(hi:l[i]?=some ⟨some d,.load t x,ty,pos,bJ,none⟩)(hS:Hp w0 w L)(hu:P.underlying t=some td)(j:Nat)(hx:ev σ x= .pointer (some ⟨b,off,none⟩))(hj:L[j]?=some (.blk b (.cells c e fr)))(hc:c[off]?=some (Pn p q))
 (h:AN P n l (fun w=>Hp w0 w L) k fuel (listed.setIfInBounds i true) (k7 σ d (Pn p q)) w) (ht:td.isRow=false:=by rfl) (hd:Nat.blt d n=true:=by rfl) (hs:Region.noSelect l.toArray=true:=by kernel_rfl) (hf:Region.free .any l.toArray listed i=true:=by kernel_rfl)
 (hr:(Region.ready .any l.toArray listed).contains i=true:=by kernel_rfl):AN P n l (fun w=>Hp w0 w L) k (fuel+1) listed σ w:=tV i hi hS hu j hx hj hc h ht hd hs hf hr
theorem oB{t:Nat}{a b:Bool}(h:fn.results=#[.tmp t])(he:a=b)(hH:Hp w0 w L)(hs:σ t=B a:=by rfl):Out P fn (fun u w'=>u=B b/\Below w0.heap.size w0 w') σ w:=E7 h (hs.trans (aK B he)) hH.below
theorem oI{t:Nat}{a b:Int}(h:fn.results=#[.tmp t])(he:a=b)(hH:Hp w0 w L)(hs:σ t=I a:=by rfl):Out P fn (fun u w'=>u=I b/\Below w0.heap.size w0 w') σ w:=E7 h (hs.trans (aK I he)) hH.below
theorem oU{t:Nat}{a b:BitVec 64}(h:fn.results=#[.tmp t])(he:a=b)(hH:Hp w0 w L)(hs:σ t=U a:=by rfl):Out P fn (fun u w'=>u=U b/\Below w0.heap.size w0 w') σ w:=E7 h (hs.trans (aK U he)) hH.below
end
end
section
open Go Go.RowKit Go.ChangeShapes Go.WideShapes Go.ChangeAt
theorem DA{H:Type}{enc:TypeId×Value->H}{P:Program}(hl:laidOutB P=true){W W':World}(hb:Below W.heap.size W W'):
  ∀{ts:List TypeId} {vs:List Value} {ds:List (DataW H)} {p:List MemPlace},(ts.all fun t=>P.readableRec t&&decide (t<P.types.size))=true->(∀x∈p,x.block<W.heap.size)->
   DataW.TrodAll enc P W 0 (fun _=>true) true ts vs ds p->DataW.TrodAll enc P W' 0 (fun b=>decide (b<W.heap.size)) true ts vs ds p
 |[],_,_,_,_,_,h=>by
  obtain⟨rfl,rfl,rfl⟩:=trodAll_nil h
  exact trodAll_mk0
 |t::ts,_,_,_,hr,hlt,h=>by
  obtain⟨v,ME,d,ds1,a,b,rfl,rfl,rfl,h1,h2⟩:=trodAll_cons h
  simp only[List.all_cons,cH,ep]at hr
  exact trodAll_cons_mk (Below.trod hl hr.1.1 hr.1.2 h1 hb fun x hx=>hlt x qg) (DA hl hb (by simpa using hr.2) (fun x hx=>hlt x qg) h2)
theorem aix{H:Type}{enc:TypeId×Value->H}{P:Program}{f:FuncId}{fn:Func}{s:ChangeSpec}{W:World}{args:Array Value}{ds gs:List (DataW H)}{before:List MemPlace}{rt:TypeId}
  (hl:laidOutB P=true) (hro:(fn.params.toList.all fun t=>P.readableRec t&&decide (t<P.types.size))=true) (hrt:fn.resultTypes=#[rt]) (axs:P.underlying rt=some .bool) (hvars:s.vars=[])
  (hres:(s.fn H (ds++gs)).results=[.lit (.bool true)]) (hargs:(s.fn H (ds++gs)).args=ds) (hvs:(s.fn H (ds++gs)).vars=[])
  (hW:DataW.Whole enc P fn.params.toList s.vars false W args.toList ds gs before)
  (hc:Calls P f args W (Pure (B true) W)):
  Calls P f args W fun e W'=>∃v,e= .returned v/\s.post enc P fn false true false false W args v W':=by
 refine hc.mono fun e W' hr=> ?_
 cases e with
 |panicked c=>exact hr.elim
 |outgrown=>exact hr.elim
 |returned v=>
  obtain⟨rfl,hb⟩:=hr
  have hW':=hW
  obtain⟨p,q,hA,hV,rfl,_⟩:=hW
  have hlt:∀x∈p,x.block<W.heap.size:=fun x hx=>by simpa using hW'.lt x qg
  refine⟨_,rfl,ds,gs,_,[],p,[],hW',?_,?_,?_,hb.frame _,fun h=>ow⟩
  .rw[hres,hrt]
   exact trodAll_cons_mk (shut_bool axs _) trodAll_mk0
  .rw[hargs]
   exact DA hl hb hro hlt hA
  rw[hvs,hvars];rfl
theorem wf_u8{a:Int}(h:(Lit.int .u8 a).wf=true):0<=a/\a<=255:=by
 simp[Lit.wf,IntKind.min,IntKind.max,IntKind.signed,IntKind.bits]at h
 omega
theorem aEK{n:Int}(h:(Lit.int .u64 n).wf=true):∃a:BitVec 64,n=(a.toNat:Int):=by
 simp[Lit.wf,IntKind.min,IntKind.max,IntKind.signed,IntKind.bits]at h
 refine⟨BitVec.ofInt 64 n,?_⟩
 rw[Qn];omega
end
section
open Go Go.RowKit Go.ChangeShapes Go.WideShapes Go.ChangeAt Go.Proofs.YtlhjdflgjbkpmaaGreatDoor.M
theorem aaZ{α:Type}(cells:α->List Value)(sz:Nat)(hsz:∀a,(cells a).length=sz):∀(l:List α) (j:Nat) (c:Value),(l.flatMap cells)[j]?=some c->∃i a r,l[i]?=some a/\j=i*sz+r/\r<sz/\(cells a)[r]?=some c
 |[],j,c,h=>by simp at h
 |a::l,j,c,h=>by
  rw[tH]at h
  by_cases hj:j<sz
  .rw[wP (by rw[hsz];exact hj)]at h
   exact⟨0,a,j,rfl,J,hj,h⟩
  rw[DV (by rw[hsz];omega),hsz]at h
  obtain⟨i,b,r,h1,h2,h3,h4⟩:=aaZ cells sz hsz l _ c h
  exact⟨i+1,b,r,Ee,by rw[kO];omega,h3,h4⟩
theorem aiy{α:Type}(cells:α->List Value)(sz:Nat)(hsz:∀a,(cells a).length=sz)(l:List α):(l.flatMap cells).length=l.length*sz:=by
 induction l with
 |nil=>simp
 |cons a l ih=>rw[tH,cV,hsz,ih,eO,kO];omega
theorem pA{α H:Type}{enc:TypeId×Value->H}{P:Program}{w:World}{base:Nat}{sp:Nat->Bool}{held:Bool}{t e:TypeId}{zX:List Value}{x:DataW H×List MemPlace}{fuel sz:Nat}(cells:α->List Value)(ok:α->Prop)
  (hsz:∀a,(cells a).length=sz) (hpos:0<sz) (ht:P.underlying t=some (.slice e)) (hc:P.cellsOf e=sz)
  (hE:∀fuel cs x,DataW.trod enc P w base sp held fuel e cs=some x->∃a,cs=cells a/\ok a) (h:DataW.trod enc P w base sp held fuel t zX=some x):
  ∃(v:Value) (l:List α),zX=[v]/\Sl w v sz l.length (l.flatMap cells)/\(∀a∈l,ok a)/\v.cells=#[v]:=by
 rcases DataW.trod_slice ht h with⟨h1,-⟩|⟨a,len,cap,elems,rest,n,_,rfl,-,hb,hl,hm,hlen,hel,-,-⟩
 .exact⟨_,[],h1,Sl.nil w sz,fun a ha=>by simp at ha,rfl⟩
 have key:∀k,k<=len->∃l:List α,l.length=k/\∀i b,l[i]?=some b->w.cells? base (a.add (i*sz)) sz=some (cells b)/\ok b:=fun k=>by
  induction k with
  |zero=>exact fun _=>⟨[],rfl,fun i b hi=>by simp at hi⟩
  |succ k ih=>
   intro hk
   obtain⟨l,h1,h2⟩:=ih J
   have h3:=hel k J
   rw[ef (by omega:k<elems.length),Option.bind_eq_some_iff,hc]at h3
   obtain⟨cs,h4,h5⟩:=h3
   obtain⟨b,rfl,KK⟩:=hE _ _ _ h5
   refine⟨l++[b],by simp[h1],fun i c hi=> ?_⟩
   by_cases hik:i<k
   .rw[wP J]at hi;exact h2 i c hi
   have:i=k:=by
    have:=(mh.1 hi).1
    simp[h1]at this;omega
   subst this
   rw[DV J,h1]at hi
   simp at hi;subst hi;exact⟨h4,KK⟩
 obtain⟨l,h1,h2⟩:=key len (eG _)
 refine⟨_,l,rfl,?_,fun b KK=> ?_,rfl⟩
 .have apb:0<len->a.spot=none:=fun h0=>by
   have h3:=(h2 0 (l.getD 0 (l[0]'J)) (by rw[eE,ef J];rfl)).1
   have h4:=(World.cells?_some h3).2.2 0 hpos
   rw[QF]at h4
   have h5:a.add 0=a\/a.spot=none:=by
    unfold Addr.add
    split
    .rename_i hs;exact .inl (by cases a;simp)
    rename_i hs;exact .inr (by cases hq:a.spot with
     |none=>rfl
     |some _=>simp_all)
   have hcs:((cells (l.getD 0 (l[0]'J)))[0]?)≠none:=by
    rw[Ne,List.getElem?_eq_none_iff,hsz];omega
   rcases h5 with h5|h5
   .rw[h5,h5]at h4
    unfold World.cell? at h4
    split at h4
    .split at h4
     .exact absurd h4.symm hcs
     rename_i hns;cases h6:a.spot with
     |none=>rfl
     |some _=>rw[h6]at hns;simp at hns
    exact absurd h4.symm hcs
   exact h5
  have axu:0<len->∀j,a.add j=⟨a.block,a.off+j,none⟩:=fun h0 j=>by
   have:=apb h0
   unfold Addr.add
   cases a;simp_all
  refine⟨⟨some a,cap,by rw[h1],by rw[h1];exact hl,fun h0=> ?_⟩,aiy cells sz hsz l,fun j c hj=> ?_,by rw[h1];omega⟩
  .rw[h1]at h0
   have:=apb h0
   cases a;simp_all [sb,so]
  obtain⟨i,b,r,hi,rfl,hr,hbr⟩:=aaZ cells sz hsz l j c hj
  have axv:0<len:=by have:=(mh.1 hi).1;omega
  have h6:=(World.cells?_some (h2 i b hi).1).2.2 r hr
  rw[axu axv,show(⟨a.block,a.off+i*sz,none⟩:Addr).add r=⟨a.block,a.off+i*sz+r,none⟩by simp[Addr.add]]at h6
  show w.cell? ⟨a.block,a.off+(i*sz+r),none⟩=some c
  rw[<-s0,h6,hbr]
 obtain⟨i,hi⟩:=List.getElem?_of_mem KK
 exact(h2 i b hi).2
end
section
open Go Go.RowKit Go.ChangeShapes Go.WideShapes Go.ChangeAt Go.Deep Go.Proofs.YtlhjdflgjbkpmaaGreatDoor.M
theorem aiz{cs:List Value}(hl:cs.length=8)(h:∀i,i<8->∃a:BitVec 64,cs[i]?=some (U a)):∃e:El,cs=sU e:=by
 have hf:∀i:Nat,∃a:BitVec 64,i<8->cs[i]?=some (U a):=fun i=>by
  by_cases hi:i<8
  .obtain⟨a,ha⟩:=h i hi;exact⟨a,fun _=>ha⟩
  exact⟨0#64,fun h=>absurd h hi⟩
 refine⟨fun i=>(hf i).choose,sY fun j=> ?_⟩
 by_cases hj:j<8
 .rw[(hf j).choose_spec hj];simp[sU,hj]
 rw[mX J,mX (by rw[fy];omega)]
theorem am8(l:List Tx):l.flatMap (fun s=>[Value.string s])=Ir l:=by
 induction l with
 |nil=>rfl
 |cons a l ih=>rw[tH,ih];rfl
structure apc(P:Program)(t ti ta te:TypeId):Prop where
 u:∃f0 f1:Field,P.underlying t=some (.struct #[f0,f1])/\(f0.type=ti/\f0.offset=0)/\(f1.type=ta/\f1.offset=1)
 i:P.underlying ti=some (.int .i64)
 ci:P.cellsOf ti=1
 a:P.underlying ta=some (.array 64 te)
 e:P.underlying te=some (.int .u64)
 ce:P.cellsOf te=1
 ca:P.cellsOf ta=64
 z:P.cellsOf t=65
structure apd(P:Program)(t tk ts tx tr ti ta te:TypeId):Prop where
 r:apc P tr ti ta te
 u:∃f0 f1 f2:Field,P.underlying t=some (.struct #[f0,f1,f2])/\(f0.type=tk/\f0.offset=0)/\(f1.type=ts/\f1.offset=1)/\(f2.type=tr/\f2.offset=2)
 k:P.underlying tk=some (.int .i64)
 ck:P.cellsOf tk=1
 s:P.underlying ts=some (.slice tx)
 cs:P.cellsOf ts=1
 x:P.underlying tx=some .string
 cx:P.cellsOf tx=1
 z:P.cellsOf t=67
structure ape(P:Program)(t tb I7 tf tk ts tx tr ti ta te:TypeId):Prop where
 f:apd P tf tk ts tx tr ti ta te
 u:∃f0 f1:Field,P.underlying t=some (.struct #[f0,f1])/\(f0.type=tb/\f0.offset=0)/\(f1.type=I7/\f1.offset=1)
 b:P.underlying tb=some .bool
 cb:P.cellsOf tb=1
 fs:P.underlying I7=some (.slice tf)
 cfs:P.cellsOf I7=1
 z:P.cellsOf t=2
section
variable{H:Type}{enc:TypeId×Value->H}{P:Program}{w:World}{base:Nat}{sp:Nat->Bool}{held:Bool}{fuel:Nat}{cs:List Value}{x:DataW H×List MemPlace}{t tb I7 tf tk ts tx tr ti ta te:TypeId}
theorem MF{n:Nat}(ht:P.underlying t=some (.array n te))(he:P.underlying te=some (.int .u64))(hc:P.cellsOf te=1)(hz:P.cellsOf t=n)(h:DataW.trod enc P w base sp held fuel t cs=some x):
  cs.length=n/\∀i,i<n->∃a:BitVec 64,cs[i]?=some (U a):=by
 obtain⟨xs,m,-,-,hl,hn,hel⟩:=DataW.trod_array ht h
 refine⟨by rw[hl,hz],fun i hi=> ?_⟩
 have h1:=hel i hi
 rw[hc,kP,ef J]at h1
 obtain⟨k,h2,-,wf⟩:=sZ he h1
 obtain⟨a,rfl⟩:=aEK wf
 have h3:((cs.drop i).take 1)[0]?=some (U a):=by rw[h2];rfl
 rw[uo,aQ J,A7,Ks]at h3
 exact⟨a,h3⟩
theorem aa0(ht:P.underlying t=some (.array 8 te))(he:P.underlying te=some (.int .u64))(hc:P.cellsOf te=1)(hz:P.cellsOf t=8)(h:DataW.trod enc P w base sp held fuel t cs=some x):∃e:El,cs=sU e/\True:=by
 obtain⟨h1,h2⟩:=MF ht he hc hz h
 obtain⟨e,rfl⟩:=aiz h1 h2
 exact⟨e,rfl,trivial⟩
theorem aiA(T:apc P t ti ta te)(h:DataW.trod enc P w base sp held fuel t cs=some x):∃r:Rl,cs=vG r:=by
 obtain⟨f0,f1,ht,h0,h1⟩:=T.u
 obtain⟨y0,y1,n,-,hl,h2,h3⟩:=trod_struct2 ht h
 rw[h0.1,h0.2,T.ci]at h2
 rw[h1.1,h1.2,T.ca]at h3
 obtain⟨m,h4,-⟩:=sZ T.i h2
 obtain⟨h5,h6⟩:=MF T.a T.e T.ce T.ca h3
 rw[T.z]at hl
 have hf:∀i:Nat,∃a:BitVec 64,i<64->cs[i+1]?=some (U a):=fun i=>by
  by_cases hi:i<64
  .obtain⟨a,ha⟩:=h6 i hi
   rw[uo,aQ hi,A7,Nat.add_comm]at ha
   exact⟨a,fun _=>ha⟩
  exact⟨0#64,fun h=>absurd h hi⟩
 refine⟨⟨m,fun i=>(hf i).choose⟩,sY fun j=> ?_⟩
 match j with
 |0=>
  have h7:((cs.drop 0).take 1)[0]?=some (I m):=by rw[h4];rfl
  rw[uo,aQ J,A7,Ks]at h7
  rw[h7];rfl
 |j+1=>
  by_cases hj:j<64
  .rw[(hf j).choose_spec hj];simp[vG,hj]
  rw[mX J,mX (by rw[oN];omega)]
theorem aiB(T:apd P t tk ts tx tr ti ta te)(h:DataW.trod enc P w base sp held fuel t cs=some x):∃f:pU,cs=rC f/\vH (Kw w) f:=by
 obtain⟨f0,f1,f2,ht,h0,h1,h2⟩:=T.u
 obtain⟨y0,y1,y2,n,-,hl,h3,h4,h5⟩:=trod_struct3 ht h
 rw[h0.1,h0.2,T.ck]at h3
 rw[h1.1,h1.2,T.cs]at h4
 rw[h2.1,h2.2,T.r.z]at h5
 obtain⟨m,e3,-⟩:=sZ T.k h3
 obtain⟨v,l,e4,hs,-,-⟩:=pA (sz:=1) (fun s:Tx=>[Value.string s]) (fun _=>True) (fun _=>rfl) J T.s T.cx (fun _ _ _ hx=>by
  obtain⟨s,e,-⟩:=Ki T.x hx
  exact⟨s,e,trivial⟩) h4
 obtain⟨r,e5⟩:=aiA T.r h5
 rw[am8]at hs
 rw[T.z]at hl
 refine⟨⟨m,v,l,r⟩,?_,⟨hs.slv⟩⟩
 match cs,hl with
 |a::b::c,hl=>
  simp only[eO]at hl
  simp only[Kn,Gm,wS,Kb]at e3 e4 e5
  rw[iP J]at e5
  rw[rC,e5,(List.cons.inj e3).1,(List.cons.inj e4).1]
theorem aiC(T:ape P t tb I7 tf tk ts tx tr ti ta te)(h:DataW.trod enc P w base sp held fuel t cs=some x):∃s:kX,cs=[B s.tuple,s.fv]/\lB (Kw w) s:=by
 obtain⟨f0,f1,ht,h0,h1⟩:=T.u
 obtain⟨y0,y1,n,-,hl,h2,h3⟩:=trod_struct2 ht h
 rw[h0.1,h0.2,T.cb]at h2
 rw[h1.1,h1.2,T.cfs]at h3
 obtain⟨m,e2,-⟩:=DataW.trod_bool T.b h2
 obtain⟨v,l,e3,hs,hok,-⟩:=pA (sz:=67) rC (vH (Kw w)) fJ J T.fs T.f.z (fun _ _ _ hx=>aiB T.f hx) h3
 rw[T.z]at hl
 refine⟨⟨m,v,l⟩,?_,⟨hs.slv,hok⟩⟩
 match cs,hl with
 |[a,b],_=>
  simp at e2 e3
  rw[e2,e3]
end
section
variable{P:Program}{w:World}{r:Reach}{b0:Nat}{t te:TypeId}{v:Value}
end
structure apf(P:Program)(t tx ti:TypeId):Prop where
 u:∃f0 f1 f2:Field,P.underlying t=some (.struct #[f0,f1,f2])/\(f0.type=tx/\f0.offset=0)/\(f1.type=ti/\f1.offset=1)/\(f2.type=ti/\f2.offset=2)
 x:P.underlying tx=some .string
 cx:P.cellsOf tx=1
 i:P.underlying ti=some (.int .i64)
 ci:P.cellsOf ti=1
 z:P.cellsOf t=3
structure aLd(P:Program)(t ti:TypeId):Prop where
 u:∃f0 f1:Field,P.underlying t=some (.struct #[f0,f1])/\(f0.type=ti/\f0.offset=0)/\(f1.type=ti/\f1.offset=1)
 i:P.underlying ti=some (.int .i64)
 ci:P.cellsOf ti=1
 z:P.cellsOf t=2
structure apg(P:Program)(t tsh tb I7 tf tk ts tx tr ti ta te:TypeId):Prop where
 s:ape P tsh tb I7 tf tk ts tx tr ti ta te
 u:∃f0 f1:Field,P.underlying t=some (.struct #[f0,f1])/\(f0.type=tx/\f0.offset=0)/\(f1.type=tsh/\f1.offset=1)
 z:P.cellsOf t=3
structure aph(P:Program)(t tls tvs tv tl tsh tb I7 tf tk ts tx tr ti ta te:TypeId):Prop where
 l:apg P tl tsh tb I7 tf tk ts tx tr ti ta te
 v:apf P tv tx ti
 u:∃f0 f1:Field,P.underlying t=some (.struct #[f0,f1])/\(f0.type=tls/\f0.offset=0)/\(f1.type=tvs/\f1.offset=1)
 ls:P.underlying tls=some (.slice tl)
 vs:P.underlying tvs=some (.slice tv)
 cls:P.cellsOf tls=1
 cvs:P.cellsOf tvs=1
 z:P.cellsOf t=2
section
variable{H:Type}{enc:TypeId×Value->H}{P:Program}{w:World}{base:Nat}{sp:Nat->Bool}{held:Bool}{fuel:Nat}{cs:List Value}{x:DataW H×List MemPlace}{t tls tvs tv tl tsh tb I7 tf tk ts tx tr ti ta te:TypeId}
theorem aiD(T:apf P t tx ti)(h:DataW.trod enc P w base sp held fuel t cs=some x):∃v:vI,cs=Tc v/\True:=by
 obtain⟨f0,f1,f2,ht,h0,h1,h2⟩:=T.u
 obtain⟨y0,y1,y2,n,-,hl,h3,h4,h5⟩:=trod_struct3 ht h
 rw[h0.1,h0.2,T.cx]at h3
 rw[h1.1,h1.2,T.ci]at h4
 rw[h2.1,h2.2,T.ci]at h5
 obtain⟨a,e3,-⟩:=Ki T.x h3
 obtain⟨b,e4,-⟩:=sZ T.i h4
 obtain⟨c,e5,-⟩:=sZ T.i h5
 rw[T.z]at hl
 match cs,hl with
 |[u,v,z],_=>
  simp at e3 e4 e5
  exact⟨⟨a,b,c⟩,by rw[e3,e4,e5];rfl,trivial⟩
theorem aiE(T:apg P t tsh tb I7 tf tk ts tx tr ti ta te)(h:DataW.trod enc P w base sp held fuel t cs=some x):∃l:C2,cs=LI l/\lB (Kw w) l.Aa:=by
 obtain⟨f0,f1,ht,h0,h1⟩:=T.u
 obtain⟨y0,y1,n,-,hl,h3,h4⟩:=trod_struct2 ht h
 rw[h0.1,h0.2,T.s.f.cx]at h3
 rw[h1.1,h1.2,T.s.z]at h4
 obtain⟨a,e3,-⟩:=Ki T.s.f.x h3
 obtain⟨s,e4,hs⟩:=aiC T.s h4
 rw[T.z]at hl
 refine⟨⟨a,s⟩,?_,hs⟩
 match cs,hl with
 |[u,v,z],_=>
  simp at e3 e4
  rw[e3,e4.1,e4.2];rfl
theorem aiF(T:aph P t tls tvs tv tl tsh tb I7 tf tk ts tx tr ti ta te)(h:DataW.trod enc P w base sp held fuel t cs=some x):∃s:lM,cs=[s.lv,s.vv]/\Eu (Kw w) s:=by
 obtain⟨f0,f1,ht,h0,h1⟩:=T.u
 obtain⟨y0,y1,n,-,hl,h3,h4⟩:=trod_struct2 ht h
 rw[h0.1,h0.2,T.cls]at h3
 rw[h1.1,h1.2,T.cvs]at h4
 obtain⟨v,l,e3,hs,hok,-⟩:=pA (sz:=3) LI (fun l=>lB (Kw w) l.Aa) sC J T.ls T.l.z (fun _ _ _ hx=>aiE T.l hx) h3
 obtain⟨v2,l2,e4,hs2,-,-⟩:=pA (sz:=3) Tc (fun _=>True) xU J T.vs T.v.z (fun _ _ _ hx=>aiD T.v hx) h4
 rw[T.z]at hl
 refine⟨⟨v,l,v2,l2⟩,?_,⟨hs.slv,hs2.slv,hok⟩⟩
 match cs,hl with
 |[a,b],_=>
  simp at e3 e4
  rw[e3,e4]
end
structure YJ(P:Program)(t ti te tu:TypeId):Prop where
 u:∃f0 f1:Field,P.underlying t=some (.struct #[f0,f1])/\(f0.type=ti/\f0.offset=0)/\(f1.type=te/\f1.offset=1)
 i:P.underlying ti=some (.int .i64)
 ci:P.cellsOf ti=1
 e:P.underlying te=some (.array 8 tu)
 hu:P.underlying tu=some (.int .u64)
 cu:P.cellsOf tu=1
 ce:P.cellsOf te=8
 z:P.cellsOf t=9
structure aa1(P:Program)(t ta tx ti te tu:TypeId):Prop where
 a:YJ P ta ti te tu
 u:∃f0 f1:Field,P.underlying t=some (.struct #[f0,f1])/\(f0.type=tx/\f0.offset=0)/\(f1.type=ta/\f1.offset=1)
 x:P.underlying tx=some .string
 cx:P.cellsOf tx=1
 z:P.cellsOf t=10
structure api(P:Program)(t I7 tf ta tx ti te tu:TypeId):Prop where
 f:aa1 P tf ta tx ti te tu
 u:∃f0 f1:Field,P.underlying t=some (.struct #[f0,f1])/\(f0.type=I7/\f0.offset=0)/\(f1.type=ti/\f1.offset=1)
 fs:P.underlying I7=some (.slice tf)
 cfs:P.cellsOf I7=1
 z:P.cellsOf t=2
structure apj(P:Program)(t ti te tu:TypeId):Prop where
 u:∃f0 f1 f2:Field,P.underlying t=some (.struct #[f0,f1,f2])/\(f0.type=ti/\f0.offset=0)/\(f1.type=ti/\f1.offset=1)/\(f2.type=te/\f2.offset=2)
 z:P.cellsOf t=10
structure apk(P:Program)(t tcs tn tr I7 tf ta tx ti te tu:TypeId):Prop where
 r:api P tr I7 tf ta tx ti te tu
 n:apj P tn ti te tu
 u:∃f0 f1 f2 f3 f4 f5 f6 f7:Field,P.underlying t=some (.struct #[f0,f1,f2,f3,f4,f5,f6,f7])/\(f0.type=ti/\f0.offset=0)/\(f1.type=ti/\f1.offset=1)/\(f2.type=tcs/\f2.offset=2)/\(f3.type=ta/\f3.offset=3)/\(f4.type=tr/\f4.offset=12)/\(f5.type=tr/\f5.offset=14)/\(f6.type=ti/\f6.offset=16)/\(f7.type=tx/\f7.offset=17)
 cs:P.underlying tcs=some (.slice tn)
 ccs:P.cellsOf tcs=1
 z:P.cellsOf t=18
structure aiG(P:Program)(t tas tss ana anb anc ane anf ang anh ani anj aa2 aa3 aa4 aa5 aa6 aiH tcs tn tr I7 tf ta tx ti te tu:TypeId):Prop where
 a:apk P aiH tcs tn tr I7 tf ta tx ti te tu
 s:aph P tss ana anb anc ane anf ang anh ani anj aa2 aa3 aa4 aa5 aa6 tu
 u:∃f0 f1:Field,P.underlying t=some (.struct #[f0,f1])/\(f0.type=tss/\f0.offset=0)/\(f1.type=tas/\f1.offset=2)
 Im:P.underlying tas=some (.slice aiH)
 cas:P.cellsOf tas=1
 z:P.cellsOf t=3
section
variable{H:Type}{enc:TypeId×Value->H}{P:Program}{w:World}{base:Nat}{sp:Nat->Bool}{held:Bool}{fuel:Nat}{cs:List Value}{x:DataW H×List MemPlace}{t tas aiH tcs tn tr I7 tf ta tx ti te tu tss ana anb anc ane anf ang anh ani anj aa2 aa3 aa4 aa5 aa6:TypeId}
theorem PK(T:YJ P t ti te tu)(h:DataW.trod enc P w base sp held fuel t cs=some x):∃a:ix,cs=jd a/\True:=by
 obtain⟨f0,f1,ht,h0,h1⟩:=T.u
 obtain⟨y0,y1,n,-,hl,h3,h4⟩:=trod_struct2 ht h
 rw[h0.1,h0.2,T.ci]at h3
 rw[h1.1,h1.2,T.ce]at h4
 obtain⟨b,e3,-⟩:=sZ T.i h3
 obtain⟨c,e4,-⟩:=aa0 T.e T.hu T.cu T.ce h4
 rw[T.z]at hl
 match cs,hl with
 |u::cs,hl=>
  simp at e3 hl
  refine⟨⟨b,c⟩,?_,trivial⟩
  rw[Kb,Kn,iP J]at e4
  rw[e3,e4];rfl
theorem YK(T:aa1 P t ta tx ti te tu)(h:DataW.trod enc P w base sp held fuel t cs=some x):∃a:kT,cs=tj a/\True:=by
 obtain⟨f0,f1,ht,h0,h1⟩:=T.u
 obtain⟨y0,y1,n,-,hl,h3,h4⟩:=trod_struct2 ht h
 rw[h0.1,h0.2,T.cx]at h3
 rw[h1.1,h1.2,T.a.z]at h4
 obtain⟨b,e3,-⟩:=Ki T.x h3
 obtain⟨c,e4,-⟩:=PK T.a h4
 rw[T.z]at hl
 match cs,hl with
 |u::cs,hl=>
  simp at e3 hl
  refine⟨⟨b,c⟩,?_,trivial⟩
  rw[Kb,Kn,iP J]at e4
  rw[e3,e4];rfl
theorem PL(T:api P t I7 tf ta tx ti te tu)(h:DataW.trod enc P w base sp held fuel t cs=some x):∃r:Ax,cs=Rm r/\XZ (Kw w) r:=by
 obtain⟨f0,f1,ht,h0,h1⟩:=T.u
 obtain⟨y0,y1,n,-,hl,h3,h4⟩:=trod_struct2 ht h
 rw[h0.1,h0.2,T.cfs]at h3
 rw[h1.1,h1.2,T.f.a.ci]at h4
 obtain⟨v,l,e3,hs,-,-⟩:=pA (sz:=10) tj (fun _=>True) rG J T.fs T.f.z (fun _ _ _ hx=>YK T.f hx) h3
 obtain⟨b,e4,-⟩:=sZ T.f.a.i h4
 rw[T.z]at hl
 refine⟨⟨v,l,b⟩,?_,⟨hs.slv⟩⟩
 match cs,hl with
 |[a,c],_=>
  simp at e3 e4
  rw[e3,e4];rfl
theorem aiI(A:YJ P ta ti te tu)(T:apj P t ti te tu)(h:DataW.trod enc P w base sp held fuel t cs=some x):∃a:dK,cs=kg a/\True:=by
 obtain⟨f0,f1,f2,ht,h0,h1,h2⟩:=T.u
 obtain⟨y0,y1,y2,n,-,hl,h3,h4,h5⟩:=trod_struct3 ht h
 rw[h0.1,h0.2,A.ci]at h3
 rw[h1.1,h1.2,A.ci]at h4
 rw[h2.1,h2.2,A.ce]at h5
 obtain⟨a,e3,-⟩:=sZ A.i h3
 obtain⟨b,e4,-⟩:=sZ A.i h4
 obtain⟨c,e5,-⟩:=aa0 A.e A.hu A.cu A.ce h5
 rw[T.z]at hl
 match cs,hl with
 |u::v::cs,hl=>
  simp at e3 e4 hl
  refine⟨⟨a,b,c⟩,?_,trivial⟩
  rw[Kb,Kb,Kn,iP J]at e5
  rw[e3,e4,e5];rfl
theorem aiJ(T:apk P t tcs tn tr I7 tf ta tx ti te tu)(h:DataW.trod enc P w base sp held fuel t cs=some x):∃a:ia,cs=Ay a/\IY (Kw w) a:=by
 obtain⟨f0,f1,f2,f3,f4,f5,f6,f7,ht,h0,h1,h2,h3,h4,h5,h6,h7⟩:=T.u
 obtain⟨xs,n,hfu,rfl,hl,hlen,hf⟩:=DataW.trod_struct ht h
 have g0:=hf 0 f0 O
 have g1:=hf 1 f1 O
 have g2:=hf 2 f2 O
 have g3:=hf 3 f3 O
 have g4:=hf 4 f4 O
 have g5:=hf 5 f5 O
 have g6:=hf 6 f6 O
 have g7:=hf 7 f7 O
 match xs,hlen with
 |[y0,y1,y2,y3,y4,y5,y6,y7],_=>
  simp only[List.getElem?_cons_zero,List.getElem?_cons_succ]at g0 g1 g2 g3 g4 g5 g6 g7
  rw[h0.1,h0.2,T.r.f.a.ci]at g0
  rw[h1.1,h1.2,T.r.f.a.ci]at g1
  rw[h2.1,h2.2,T.ccs]at g2
  rw[h3.1,h3.2,T.r.f.a.z]at g3
  rw[h4.1,h4.2,T.r.z]at g4
  rw[h5.1,h5.2,T.r.z]at g5
  rw[h6.1,h6.2,T.r.f.a.ci]at g6
  rw[h7.1,h7.2,T.r.f.cx]at g7
  obtain⟨op,e0,-⟩:=sZ T.r.f.a.i g0
  obtain⟨aT,e1,-⟩:=sZ T.r.f.a.i g1
  obtain⟨cv,code,e2,hc,-,-⟩:=pA (sz:=10) kg (fun _=>True) gK J T.cs T.n.z (fun _ _ _ hx=>aiI T.r.f.a T.n hx) g2
  obtain⟨to,e3,-⟩:=PK T.r.f.a g3
  obtain⟨a,e4,ha⟩:=PL T.r g4
  obtain⟨b,e5,hb⟩:=PL T.r g5
  obtain⟨var,e6,-⟩:=sZ T.r.f.a.i g6
  obtain⟨field,e7,-⟩:=Ki T.r.f.x g7
  rw[T.z]at hl
  refine⟨⟨op,aT,cv,code,to,a,b,var,field⟩,?_,⟨hc.slv,ha,hb⟩⟩
  match cs,hl with
  |[u0,u1,u2,v0,v1,v2,v3,v4,v5,v6,v7,v8,a0,a1,b0,b1,z0,z1],_=>
   simp[Rm]at e0 e1 e2 e3 e4 e5 e6 e7
   rw[e0,e1,e2,e4.1,e4.2,e5.1,e5.2,e6,e7]
   show _=I op::I aT::cv::(jd to++_)
   rw[<-e3];rfl
theorem ac9(T:aiG P t tas tss ana anb anc ane anf ang anh ani anj aa2 aa3 aa4 aa5 aa6 aiH tcs tn tr I7 tf ta tx ti te tu)(h:DataW.trod enc P w base sp held fuel t cs=some x):∃p:pM,cs=Iv p/\xW (Kw w) p:=by
 obtain⟨f0,f1,ht,h0,h1⟩:=T.u
 obtain⟨y0,y1,n,-,hl,h3,h4⟩:=trod_struct2 ht h
 rw[h0.1,h0.2,T.s.z]at h3
 rw[h1.1,h1.2,T.cas]at h4
 obtain⟨s,e3,hs⟩:=aiF T.s h3
 obtain⟨v,l,e4,ha,hok,-⟩:=pA (sz:=18) Ay (fun x=>IY (Kw w) x) qv J T.Im T.a.z (fun _ _ _ hx=>aiJ T.a hx) h4
 rw[T.z]at hl
 refine⟨⟨s,v,l⟩,?_,⟨hs,ha.slv,hok⟩⟩
 match cs,hl with
 |[a,b,c],_=>
  simp at e3 e4
  rw[e3.1,e3.2,e4];rfl
theorem ada{r:Reach}{b0:Nat}{v:Value}{d:DataW H}{ps:List MemPlace}(T:aiG P t tas tss ana anb anc ane anf ang anh ani anj aa2 aa3 aa4 aa5 aa6 aiH tcs tn tr I7 tf ta tx ti te tu)(hval:Value.okWide P w r b0 t v)(hd:DataW.Trod enc P w base sp held t v d ps):∃p:pM,v= .agg (Iv p).toArray/\xW (Kw w) p:=by
 obtain⟨f0,f1,ht,-⟩:=T.u
 obtain⟨cs,rfl,-⟩:=okWide_struct ht hval
 obtain⟨fuel,h⟩:=hd
 obtain⟨s,h1,h2⟩:=ac9 T h
 refine⟨s,?_,h2⟩
 congr 1
 exact QJ h1
end
end
end Go.Proofs.YtlhjdflgjbkpmaaGreatDoor.E

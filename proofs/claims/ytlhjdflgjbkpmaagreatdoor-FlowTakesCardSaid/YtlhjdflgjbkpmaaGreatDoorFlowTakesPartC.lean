/- Part 3 of the proof of FlowTakes: its plain laws and the walks of its functions. -/
import Derived.Test.YtlhjdflgjbkpmaaGreatDoorFlowTakesPartB
set_option linter.all false
namespace Go.Proofs.YtlhjdflgjbkpmaaGreatDoor.E
section
open Go Go.RowKit Go.Proofs.YtlhjdflgjbkpmaaGreatDoor.M
theorem agB{K:Vu}{p:kL}(h:kO K p):∀u∈(zY p).toArray,u.oneCell'=true:=by
 intro u hu
 simp only[zY,JG,cT,FW,AP]at hu
 rcases hu with rfl|rfl
 .rfl
 exact(k9 h.aT).1
theorem aqj(x:oP):((U0 x).drop 5).take 8=sC x.low:=by
 show(sC x.low).take 8=_
 exact iD (by rw[fw];exact eI _)
def shL(an:List oP)(k:Int):Sh:=(an.getD k.toNat oF).p.sh
def ofB(aS:List Int)(v x:Int):Bool:=decide (0<=v/\v<aS.length/\aS.getD v.toNat 0=x)
def Aa(an:List oP)(aS:List Int)(k:Int)(x:dI):Bool:=(!decide (x.op=1)||ofB aS x.n k)&&(!decide (x.op=2)||cf (shL an k) x.c)
def C4(an:List oP)(aS:List Int)(k:Int)(t:gZ):Bool:=if t.var<0 then cf (shL an k) t.c else ofB aS t.var k
def sU(an:List oP)(aS:List Int)(k:Int)(l:List dI)(t:gZ):Bool:=decide (0<=k/\k<an.length)&&fP l&&(l.all (Aa an aS k)&&C4 an aS k t)
section
variable{an:List oP}{aS:List Int}{k q:Int}{l:List dI}{t:gZ}{x:dI}
theorem LK(h:¬(0<=k/\k<an.length)):sU an aS k l t=false:=by grind[sU]
theorem agD(h:fP l=false):sU an aS k l t=false:=by grind[sU]
theorem TQ(h0:0<=q)(h1:q<l.length)(h:Aa an aS k (l.getD q.toNat cg)=false):sU an aS k l t=false:=by grind[Aa,dG,sU]
theorem LL(h1:0<=k/\k<an.length)(h2:fP l=true)(h3:¬q<l.length)(hg:∀j:Int,0<=j->j<q->Aa an aS k (l.getD j.toNat cg)=true):sU an aS k l t=C4 an aS k t:=by grind[Aa,List.all_eq_true,List.mem_iff_getElem,Int.toNat_natCast,getD_eq,sU]
theorem agE(h:x.op=1)(h2:¬(0<=x.n/\x.n<aS.length/\aS.getD x.n.toNat 0=k)):Aa an aS k x=false:=by grind[Aa,ofB]
theorem agF(h:x.op=2)(h2:cf (shL an k) x.c=false):Aa an aS k x=false:=by grind[Aa]
theorem Bv(h1:¬x.op=1\/(0<=x.n/\x.n<aS.length/\aS.getD x.n.toNat 0=k))(h2:¬x.op=2\/cf (shL an k) x.c=true):Aa an aS k x=true:=by grind[ofB,cf,shL,Aa]
theorem ak1(h:t.var<0):C4 an aS k t=cf (shL an k) t.c:=aR h
theorem ak2(h:¬t.var<0):C4 an aS k t=decide (0<=t.var/\t.var<aS.length/\aS.getD t.var.toNat 0=k):=aP h
end
theorem LM{α:Type}{l:List α}{a d:α}{i:Nat}:(l++[a]).getD i d=if i<l.length then l.getD i d else if i=l.length then a else d:=by grind
theorem m5{α:Type}{l:List α}{a d:α}{i:Nat}(h:i<l.length):(l++[a]).getD i d=l.getD i d:=by grind
theorem rH{α:Type}{l:List α}{a d:α}{i:Nat}(h:i=l.length):(l++[a]).getD i d=a:=by grind
def pK(s:NP)(l:Int)(e:El):NP:={s with aS:=s.aS++[l],ai:=s.ai++[e],aX:=s.aX++[0],us:=s.us++[[]],cs:=QG s.cs}
def D9(i:Int)(u:List (List Int))(v:Int):List (List Int):=u.set v.toNat (u.getD v.toNat []++[i])
theorem oH{i:Int}:∀{l:List Int} {u:List (List Int)},(l.foldl (D9 i) u).length=u.length
 |[],u=>rfl
 |v::l,u=>by rw[nW,oH];simp[D9]
theorem Bw{i:Int}:∀{l:List Int} {u:List (List Int)} {k:Nat},l.Nodup->(∀v∈l,0<=v/\v<u.length)->(l.foldl (D9 i) u).getD k []=u.getD k []++if(k:Int)∈l then[i]else[]
 |[],u,k,_,_=>by simp
 |v::l,u,k,hn,hl=>by
  obtain⟨n1,n2⟩:=mM.1 hn
  have h0:=hl v aA
  rw[nW,Bw n2 fun x hx=>by have:=hl x (fq _ hx);simp only[D9,mD];exact this]
  unfold D9
  rw[ep,tO]
  by_cases c:v.toNat=k
  .have e:(k:Int)=v:=J
   rw[aR c,aR J,e,aP n1,aR aA,lU,c];rfl
  have e:¬(k:Int)=v:=J
  rw[aP c,<-ep]
  congr 1
  simp only[cT,e,false_or]
def Ab(s:NP)(q:de):NP:={s with qs:=s.qs++[q],us:=q.vars.foldl (D9 s.qs.length) s.us}
theorem agG{cs:List (List Nat)}(h:0<cs.length):(Bl (QG cs) ((cs.length:Int)-1)).1=cs:=by
 unfold Bl QG
 rw[aP (by simp only[eE];omega),show((bg cs++[(bg cs).length])::cs).length-1-(max 0 ((cs.length:Int)-1)).toNat=1 by simp only[eE];omega]
 rfl
theorem agH{f:Value}{s:NP}{l:Int}{e:El}(h1:s.aS.length=s.ai.length)(h2:s.aX.length=s.ai.length)(h3:s.us.length=s.ai.length)(h4:0<s.cs.length):iz [(f,.var s.ai.length ((s.cs.length:Int)-1))] s (pK s l e):=by
 refine iz.one ?_ ⟨by simp[pK];omega,by simp[pK],by simp[pK];omega,by simp[pK];omega⟩
 simp only[uG,pK]
 rw[agG h4,tR,show(s.aS++[l]).take s.ai.length=s.aS by rw[<-h1,tR],show(s.aX++[(0:BitVec 64)]).take s.ai.length=s.aX by rw[<-h2,tR],show(s.us++[([]:List Int)]).take s.ai.length=s.us by rw[<-h3,tR]]
theorem Hp.aBN{w0 w:World}{A B U R L:List a8}{x:a8}(h:Hp w0 w (x::(A++(B++((U++R)++L))))):Hp w0 w (A++((U++[x])++(R++(B++L)))):=by
 refine h.perm ((Dw (l₁:=A)).symm.trans (tL A ?_))
 have h1:(B++((U++R)++L)).Perm (U++(R++(B++L))):=by
  rw[<-dg U R]
  exact vh _ _ _
 refine(h1.cons x).trans ?_
 rw[dg]
 exact Dw.symm
theorem agI{us:List jx}{u:List (List Int)}(h:o5 us=u):o5 (us++[cP])=u++[[]]:=by grind[o5,cP]
theorem LN(l:List dI):∀u∈l.flatMap jW,u.oneCell'=true:=by grind[xo]
theorem abR{an:List oP}{aS:List Int}{k:Int}{l:List dI}{t:gZ}(h:sU an aS k l t=true):∀v∈dc l,0<=v/\v<aS.length:=by grind[rF,sU,Aa,ofB]
theorem TR(l:List dI):(dc l).Nodup:=(LD l).imp fun h=>by omega
theorem He:∀{l:List Int} {u:List (List Int)},(l.foldl E8 u).length=u.length
 |[],u=>rfl
 |v::l,u=>by rw[nW,He];simp[E8]
theorem OP:∀{l:List Int} {u:List (List Int)} {k:Nat},l.Nodup->(∀v∈l,0<=v/\v<u.length)->(l.foldl E8 u).getD k []=if(k:Int)∈l then(u.getD k []).dropLast else u.getD k []
 |[],u,k,_,_=>by simp
 |v::l,u,k,hn,hl=>by
  obtain⟨n1,n2⟩:=mM.1 hn
  have h0:=hl v aA
  rw[nW,OP n2 fun x hx=>by have:=hl x (fq _ hx);simp only[E8,mD];exact this]
  have e0:(E8 u v).getD k []=if v.toNat=k then(u.getD k []).dropLast else u.getD k []:=by
   unfold E8
   rw[ep,tO]
   by_cases c:v.toNat=k
   .rw[aR c,aR J,aR c,c];rfl
   rw[aP c,aP c,<-ep]
  rw[e0]
  by_cases c:v.toNat=k
  .have e:(k:Int)=v:=J
   rw[aR c,e,aP n1,aR aA]
  have e:¬(k:Int)=v:=J
  rw[aP c]
  simp only[cT,e,false_or]
theorem agJ{i:Int}{l:List Int}{u:List (List Int)}(hn:l.Nodup)(hl:∀v∈l,0<=v/\v<u.length):l.foldl E8 (l.foldl (D9 i) u)=u:=by
 apply sF
 intro k
 by_cases c:k<u.length
 .have h1:=OP (k:=k) (u:=l.foldl (D9 i) u) hn fun v hv=>by rw[oH];exact hl v hv
  rw[Bw hn hl]at h1
  have lk:k<(l.foldl E8 (l.foldl (D9 i) u)).length:=by rw[He,oH];exact c
  rw[getD_eq lk,getD_eq c]at h1
  rw[dO lk,dO c,h1]
  by_cases q:(k:Int)∈l
  .rw[aR q,aR q,List.dropLast_concat]
  rw[aP q,aP q,lU]
 rw[mJ (by rw[He,oH];omega),mJ J]
theorem agK{f:Value}{s:NP}{q:de}(hn:q.vars.Nodup)(hl:∀v∈q.vars,0<=v/\v<s.us.length):iz [(f,.add s.qs.length q)] s (Ab s q):=by
 refine iz.one ?_ ⟨by simp[Ab],hn,fun v hv=> ?_⟩
 .simp only[uG,Ab]
  rw[tR,agJ hn hl]
 have h0:=hl v hv
 refine⟨h0.1,by simp only[Ab];rw[oH];exact h0.2,?_⟩
 simp only[Ab]
 rw[Bw hn hl,aR (by rw[fF h0.1];exact hv)]
 simp
theorem ak3{i:Int}{l:List Int}{u:List (List Int)}{k b:Nat}(hn:l.Nodup)(hl:∀v∈l,0<=v/\v<u.length)(h:(u.getD k []).length<=b):((l.foldl (D9 i) u).getD k []).length<=b+1:=by grind[Bw]
theorem Hp.aBO{w0 w:World}{A B U Q R L:List a8}(h:Hp w0 w (A++(B++(U++(Q++(R++L)))))):Hp w0 w (A++(U++(R++(B++(Q++L))))):=by
 refine h.perm (tL A ?_)
 refine(vh B U _).trans (tL U ?_)
 rw[<-dg,<-dg B Q L]
 exact vh _ _ _
structure lN(S:Sys)(Q:Nat->sD)(y:Nat->BitVec 64)(N:Nat)(M:Qm)(v:Va)(ws:Nat->BitVec 64)(rep:Nat->Nat)(P:Nat->Prop):Prop where
 ok:∀i,i<N->s8 S (Q i)/\M (y i) (Q i)
 all:∀a q,M a q->∃i,i<N/\q=Q i
 ZC:abH M
 low:Bp S (fun q=>∃i,i<N/\q=Q i) v
 why:D6 S M v ws
 ring:∀i k,i<S.n->k<S.n->rep i=rep k->S.sh i=S.sh k/\qK (v i) (v k)/\ws i=ws k/\pC S (M (ws i)) fun j=>j<S.n/\rep j=rep i
 hold:∀i,i<N->¬P i->eO (Q i) v
section
variable{S:Sys}{Q:Nat->sD}{y:Nat->BitVec 64}{N:Nat}{M:Qm}{v:Va}{ws:Nat->BitVec 64}{rep:Nat->Nat}{P P':Nat->Prop}{i k:Nat}{W:BitVec 64}
theorem pC.more{Q Q':sD->Prop}{C:Nat->Prop}(h:pC S Q C)(hq:∀q,Q q->Q' q):pC S Q' C:=fun u hu=>h u (hu.less hq)
theorem lN.agL(h:lN S Q y N M v ws rep P)(hp:∀i,i<N->P i->P' i):lN S Q y N M v ws rep P':=⟨h.ok,h.all,h.ZC,h.low,h.why,h.ring,fun i hi hn=>h.hold i hi fun q=>hn (hp i hi q)⟩
theorem lN.look(h:lN S Q y N M v ws rep P)(hh:eO (Q i) v):lN S Q y N M v ws rep fun j=>P j/\j≠i:=⟨h.ok,h.all,h.ZC,h.low,h.why,h.ring,fun j hj hn=>by
 by_cases e:j=i
 .subst e;exact hh
 exact h.hold j hj fun q=>hn ⟨q,e⟩⟩
theorem lN.raise(h:lN S Q y N M v ws rep P)(hi:i<N)(hk:(Q i).to=some k)(hW1:dS (ws k) W=true)(hW2:dS (Nj (y i) ws (Q i).vars) W=true)
  (hP:∀j,j<N->j≠i->P j->P' j) (hU:∀j,j<N->∀x,x∈(Q j).vars->rep x=rep k->¬qK (v x) (fh (Q i).sh (v k) ((Q i).ev v))->P' j):
  lN S Q y N M (qf v (fun j=>j<S.n/\rep j=rep k) (fh (Q i).sh (v k) ((Q i).ev v))) (D7 ws (fun j=>j<S.n/\rep j=rep k) W) rep P':=by
 obtain⟨ho,hy⟩:=h.ok i hi
 obtain⟨k1,k2⟩:=ho.to k hk
 have hmem:(fun q=>∃i,i<N/\q=Q i) (Q i):=⟨i,hi,rfl⟩
 have hr:=h.ring k k k1 k1 O
 have hl:=h.low.lub hmem ho hk
 have hRQ:pC S (fun q=>∃i,i<N/\q=Q i) fun j=>j<S.n/\rep j=rep k:=hr.2.2.2.more fun q hq=>h.all _ q hq
 have hsh:∀j,(j<S.n/\rep j=rep k)->S.sh j=S.sh k:=fun j hj=>(h.ring j k hj.1 k1 hj.2).1
 have abD:=h.low.ring hRQ (fun j hj=>hj.1) (k:=k) ⟨k1,rfl⟩ hsh hl.1 hl.2
 have aqk:=h.why.raise h.ZC h.low.fit ho hk hy hr.2.2.2 ⟨k1,rfl⟩ hW1 hW2
 have hup:∀j,j<S.n->cK (v j) (qf v (fun j=>j<S.n/\rep j=rep k) (fh (Q i).sh (v k) ((Q i).ev v)) j)=true:=fun j hj=>by
  unfold qf
  by_cases c:j<S.n/\rep j=rep k
  .rw[aR c]
   have e:=(h.ring j k hj k1 c.2).2.1
   have fk:=h.low.fit k k1
   rw[k2]at fk
   exact eP (kC e) (WB fk (ho.fit v h.low.fit)).1
  rw[aP c];exact jy _
 refine⟨h.ok,h.all,h.ZC,abD,aqk,fun a b ha hb hab=> ?_,fun j hj hn=> ?_⟩
 .have hra:=h.ring a b ha hb hab
  unfold qf D7
  by_cases c:a<S.n/\rep a=rep k
  .have c2:b<S.n/\rep b=rep k:=⟨hb,hab▸c.2⟩
   rw[aR c,aR c2,aR c,aR c2]
   refine⟨hra.1,fun _ _=>rfl,rfl,?_⟩
   have e:(fun j=>j<S.n/\rep j=rep a)=fun j=>j<S.n/\rep j=rep k:=by rw[c.2]
   rw[e]
   exact hr.2.2.2.more fun q hq=>h.ZC _ _ _ hW1 hq
  have c2:¬(b<S.n/\rep b=rep k):=fun q=>c ⟨ha,hab.trans q.2⟩
  rw[aP c,aP c2,aP c,aP c2]
  exact hra
 have oj:=(h.ok j hj).1
 have hs:∀x,x∈(Q j).vars->cK (qf v (fun j=>j<S.n/\rep j=rep k) (fh (Q i).sh (v k) ((Q i).ev v)) x) (v x)=true:=fun x hx=>by
  unfold qf
  by_cases c:x<S.n/\rep x=rep k
  .rw[aR c]
   by_cases e:qK (v x) (fh (Q i).sh (v k) ((Q i).ev v))
   .exact kC fun q hq=>(e q hq).symm
   exact absurd (hU j hj x hx c.2 e) hn
  rw[aP c];exact jy _
 have hev:cK ((Q j).ev (qf v (fun j=>j<S.n/\rep j=rep k) (fh (Q i).sh (v k) ((Q i).ev v)))) ((Q j).ev v)=true:=oj.OG _ _ abD.fit h.low.fit hs
 by_cases e:j=i
 .subst e
  unfold eO sD.rhs
  rw[hk]
  have ek:qf v (fun j=>j<S.n/\rep j=rep k) (fh (Q j).sh (v k) ((Q j).ev v)) k=fh (Q j).sh (v k) ((Q j).ev v):=aR ⟨k1,rfl⟩
  show cK _ (qf v _ _ k)=true
  rw[ek]
  have fk:=h.low.fit k k1
  rw[k2]at fk
  exact eP hev (WB fk (ho.fit v h.low.fit)).2
 have hold:=h.hold j hj fun q=>hn (hP j hj e q)
 unfold eO sD.rhs at hold⊢
 cases ht:(Q j).to with
 |none=>rw[ht]at hold;exact eP hev hold
 |some x=>
  rw[ht]at hold
  exact eP hev (eP hold (hup x (oj.to x ht).1))
theorem lN.merge{C:Nat->Prop}[DecidablePred C]{e:El}{TS:Nat->Nat}(h:lN S Q y N M v ws rep P)(hC:∀j,C j->j<S.n/\dS (ws j) W=true)(hsh:∀a b,C a->C b->S.sh a=S.sh b)(hr:pC S (M W) C)(hk:C k)(he:cf (S.sh k) e=true)
  (hlo:∀u,tC S (M W) u->cK e (u k)=true) (hup:∀j,C j->cK (v j) e=true) (h2:∀a b,a<S.n->b<S.n->TS a=TS b->C a/\C b\/¬C a/\¬C b/\rep a=rep b)
  (hP:∀j,j<N->P j->P' j) (hU:∀j,j<N->∀x,x∈(Q j).vars->C x->¬qK (v x) e->P' j):lN S Q y N M (qf v C e) (D7 ws C W) TS P':=by
 have abD:=h.low.ring (hr.more fun q hq=>h.all _ q hq) (fun j hj=>(hC j hj).1) hk (fun j hj=>hsh j k hj hk) he fun u hu=>hlo u (hu.less fun q hq=>h.all _ q hq)
 have aqk:D6 S M (qf v C e) (D7 ws C W):=h.why.ring h.ZC hr hC fun u hu i hi=>eP (hlo u hu) (kC (hr u hu k i hk hi))
 have hle:∀j,cK (v j) (qf v C e j)=true:=fun j=>by
  unfold qf
  by_cases c:C j
  .rw[aR c];exact hup j c
  rw[aP c];exact jy _
 refine⟨h.ok,h.all,h.ZC,abD,aqk,fun a b ha hb hab=> ?_,fun j hj hn=> ?_⟩
 .unfold qf D7
  rcases h2 a b ha hb hab with⟨c1,c2⟩|⟨c1,c2,c3⟩
  .rw[aR c1,aR c2,aR c1,aR c2]
   refine⟨hsh a b c1 c2,fun _ _=>rfl,rfl,fun u hu i j hi hj=> ?_⟩
   have ci:C i:=(h2 i a hi.1 ha hi.2).elim (fun q=>q.1) fun q=>absurd c1 q.2.1
   have cj:C j:=(h2 j a hj.1 ha hj.2).elim (fun q=>q.1) fun q=>absurd c1 q.2.1
   exact hr u hu i j ci cj
  rw[aP c1,aP c2,aP c1,aP c2]
  obtain⟨r1,r2,r3,r4⟩:=h.ring a b ha hb c3
  refine⟨r1,r2,r3,fun u hu i j hi hj=> ?_⟩
  have ci:rep i=rep a:=(h2 i a hi.1 ha hi.2).elim (fun q=>absurd q.2 c1) fun q=>q.2.2
  have cj:rep j=rep a:=(h2 j a hj.1 ha hj.2).elim (fun q=>absurd q.2 c1) fun q=>q.2.2
  exact r4 u hu i j ⟨hi.1,ci⟩ ⟨hj.1,cj⟩
 have oj:=(h.ok j hj).1
 have hs:∀x,x∈(Q j).vars->cK (qf v C e x) (v x)=true:=fun x hx=>by
  unfold qf
  by_cases c:C x
  .rw[aR c]
   by_cases q:qK (v x) e
   .exact kC fun i hi=>(q i hi).symm
   exact absurd (hU j hj x hx c q) hn
  rw[aP c];exact jy _
 have hev:=oj.OG _ _ abD.fit h.low.fit hs
 have hold:=h.hold j hj fun q=>hn (hP j hj q)
 unfold eO sD.rhs at hold⊢
 cases ht:(Q j).to with
 |none=>rw[ht]at hold;exact eP hev hold
 |some x=>rw[ht]at hold;exact eP hev (eP hold (hle x))
theorem lN.more(h:lN S Q y N M v ws rep P){M':Qm}(ho:s8 S (Q N))(hy:M' (y N) (Q N))(hM:abH M')(h1:∀a q,M a q->M' a q)(h2:∀a q,M' a q->∃i,i<N+1/\q=Q i)(hs:D6 S M v ws)(hN:P' N)(hp:∀i,i<N->P i->P' i):lN S Q y (N+1) M' v ws rep P':=by
 refine⟨fun i hi=> ?_,h2,hM,h.low.more fun q ⟨i,hi,e⟩=>⟨i,J,e⟩,fun k hk u hu=>hs k hk u (hu.less fun q hq=>h1 _ q hq),fun i k hi hk e=> ?_,fun i hi hn=> ?_⟩
 .by_cases e:i=N
  .subst e;exact⟨ho,hy⟩
  exact⟨(h.ok i J).1,h1 _ _ (h.ok i J).2⟩
 .obtain⟨a,b,c,d⟩:=h.ring i k hi hk e
  exact⟨a,b,c,d.more fun q hq=>h1 _ q hq⟩
 by_cases e:i=N
 .subst e;exact absurd hN hn
 exact h.hold i J fun q=>hn (hp i J q)
theorem lN.start(hM:∀a q,¬M a q)(hs:∀i,i<S.n->qL (S.sh i)=true)(hv:∀i,i<S.n->v i=gQ (S.sh i) eM):lN S Q y 0 M v ws id P:=
 ⟨fun i hi=>J,fun a q h=>absurd h (hM a q),fun a b q _ h=>absurd h (hM a q),Zu hs hv,fun k hk u hu=>by rw[hv k hk];exact(N7 (hs k hk)).2 _ (hu.fit k hk),
  fun i k hi hk e=>by have:i=k:=e;subst this;exact⟨rfl,fun _ _=>rfl,rfl,fun u hu a b ha hb=>by have e1:a=i:=ha.2;have e2:b=i:=hb.2;rw[e1,e2];exact fun _ _=>rfl⟩,fun i hi=>J⟩
theorem lN.done(h:lN S Q y N M v ws rep fun _=>False):sS S (fun q=>∃i,i<N/\q=Q i) v/\∀i,i<N->eO (Q i) v:=
 ⟨⟨h.low,fun q ⟨i,hi,e⟩ _=>e▸h.hold i hi id⟩,fun i hi=>h.hold i hi id⟩
theorem lN.stuck(h:lN S Q y N M v ws rep P)(hi:i<N)(hk:(Q i).to=none)(hf:¬eO (Q i) v):(∀u,tC S (fun q=>∃i,i<N/\q=Q i) u->¬eO (Q i) u)/\∀u,tC S (M (Nj (y i) ws (Q i).vars)) u->¬eO (Q i) u:=
 ⟨h.low.auT (h.ok i hi).1 hk hf,h.why.stuck h.ZC h.low.fit (h.ok i hi).1 hk hf⟩
end
theorem ak4{E:Nat->Nat->Prop}{u:Va}{a b:Nat}(hE:∀x y,E x y->cK (u x) (u y)=true)(h:jr E a b):cK (u a) (u b)=true:=by
 induction h with
 |refl=>exact jy _
 |step _ e ih=>exact eP ih (hE _ _ e)
section
variable{S:Sys}{Q:sD->Prop}
structure Ea(S:Sys)(q:sD)(x y:Nat):Prop where
 to:q.to=some y
 ev:∀u,o6 S u->qK (q.ev u) (u x)
theorem agM{C:Nat->Prop}(h:∀i k,C i->C k->jr (fun a b=>(∃q,Q q/\Ea S q a b)\/∃D,D a/\D b/\pC S Q D) i k):pC S Q C:=pC.of fun u hu i k hi hk=>ak4 (fun x y e=>by
 rcases e with⟨q,hq,hp⟩|⟨D,hx,hy,hD⟩
 .have h1:=hu.hold q hq (by rw[hp.to];simp)
  unfold eO sD.rhs at h1
  rw[hp.to]at h1
  exact eP (kC fun i hi=>(hp.ev u hu.fit i hi).symm) h1
 exact kC (hD u hu x y hx hy)) (h i k hi hk)
theorem Xp{q:sD}{x y:Nat}{v:Va}(hp:Ea S q x y)(hv:o6 S v)(he:qK (v x) (v y)):eO q v:=by
 unfold eO sD.rhs
 rw[hp.to]
 exact eP (kC (hp.ev v hv)) (kC he)
theorem LO{sh:Sh}{n:Nat}{x:dI}{to:gZ}(h1:x.op=1)(h0:0<=x.n/\x.n<n)(h2:0<=to.var):Ea S (Bq n sh [x] to) x.n.toNat to.var.toNat:=by
 refine⟨by unfold Bq;simp;omega,fun u hu=> ?_⟩
 have hr:fP [x]=true:=by
  unfold fP iV
  simp[vG,h1]
 have hs:gS sh ((List.range n).map u) [x] (([x]:List dI).length:Nat)=some ([]++[((List.range n).map u).getD x.n.toNat dh]):=
  akb (s:=sh) (v:=(List.range n).map u) (l:=[x]) (st:=[]) (k:=0) J aA O h1 ⟨h0.1,by simpa using h0.2⟩
 show qK (fJ sh [x] ((List.range n).map u)).1 (u x.n.toNat)
 rw[Qt hr (k:=(([x]:List dI).length:Nat)) J J hs]
 simp only[dZ,List.getD_cons_zero]
 rw[pD J]
 exact fun _ _=>rfl
end
def jS(an:List oP)(aS:List Int)(n:Nat):Sys:=⟨n,fun i=>(an.getD (aS.getD i 0).toNat oF).p.sh⟩
def xQ(an:List oP)(q:de):Sh:=(an.getD q.aS.toNat oF).p.sh
def s9(an:List oP)(n:Nat)(q:de):sD:=Bq n (xQ an q) q.code q.to
def vQ(ai:List El):Va:=fun i=>ai.getD i dh
def wQ(ws:List (BitVec 64)):Nat->BitVec 64:=fun i=>ws.getD i 0
def M8(an:List oP)(n:Nat)(qs:List de):Qm:=fun a q=>∃i,i<qs.length/\q=s9 an n (qs.getD i cI)/\dS (qs.getD i cI).why a=true
def TU(an:List oP)(aS:List Int)(n:Nat)(qs:List de):Prop:=∀q∈qs,Xf (jS an aS n) (xQ an q) q.code q.to/\q.vars=dc q.code
def wJ(qs:List de)(k:Nat):List Int:=((List.range qs.length).filter fun i=>decide ((k:Int)∈(qs.getD i cI).vars)).map fun i:Nat=>(i:Int)
abbrev QV(an:List oP)(n:Nat)(qs:List de):Nat->Nat:=Ty (qs.map (s9 an n))
def muN(an:List oP)(aS:List Int)(n:Nat)(qs:List de)(c:xx):Nat:=c.wl.length+(og (jS an aS n) (QV an n qs) (vQ c.ai) n).toNat
section
variable{S:Sys}{v:Va}{e:El}{C D:Nat->Prop}
theorem LP[DecidablePred C][DecidablePred D](h:∀i,C i↔D i):qf v C e=qf v D e:=by grind[qf]
theorem LQ{ws:Nat->BitVec 64}{W:BitVec 64}[DecidablePred C][DecidablePred D](h:∀i,C i↔D i):D7 ws C W=D7 ws D W:=by grind[D7]
theorem aql{ai:List El}{k:Nat}(h:k<ai.length):vQ (ai.set k e)=E5 (vQ ai) k e:=by grind[vQ,E5]
theorem agN{ai:List El}{ks:List Int}(h:∀k∈ks,0<=k/\k<ai.length):vQ (fX ai ks e)=qf (vQ ai) (fun i=>(i:Int)∈ks) e:=by
 funext i;show(fX ai ks e).getD i dh=if(i:Int)∈ks then e else ai.getD i dh
 by_cases c:i<ai.length
 .exact rE c fun k hk=>(h k hk).1
 rw[ep,mJ (by rw[iy];omega),aP fun q=>by have:=h _ q;omega,ep,mJ J]
theorem agO{ws:List (BitVec 64)}{W:BitVec 64}{ks:List Int}(h:∀k∈ks,0<=k/\k<ws.length):wQ (fX ws ks W)=D7 (wQ ws) (fun i=>(i:Int)∈ks) W:=by grind[wQ,fX,D7,rE,iy]
theorem agP{ai:List El}{n:Nat}(h:ai.length=n):(List.range n).map (vQ ai)=ai:=by
 apply sF
 intro i
 rw[ph]
 by_cases c:i<n
 .rw[xV c,pT,dO J]
  unfold vQ;rw[getD_eq J]
 rw[mJ J2,mJ J];rfl
theorem agQ{p:List Int×List Bool}{i j:Int}(h:j∈p.1):j∈(oh p i).1:=by grind[oh]
theorem Fe:∀{l:List Int} {p:List Int×List Bool} {j:Int},j∈p.1->j∈(qA p l).1
 |[],p,j,h=>h
 |i::l,p,j,h=>Fe (l:=l) (p:=oh p i) (agQ h)
theorem QW:∀{l:List Int} {wl:List Int} {wi:List Bool} {j:Int},tD wl wi->(∀i∈l,0<=i/\i<wi.length)->j∈l->j∈(qA (wl,wi) l).1
 |i::l,wl,wi,j,h,hl,hj=>by
  show j∈(qA (oh (wl,wi) i) l).1
  by_cases e:j=i
  .subst e
   refine Fe ?_
   unfold oh
   by_cases c:wi.getD j.toNat false=true
   .rw[aR c];exact(h.mem j).2 ⟨hl j aA,c⟩
   rw[aP c];simp
  exact QW (wl:=(oh (wl,wi) i).1) (wi:=(oh (wl,wi) i).2) (h.put (hl i aA)) (fun k hk=>by rw[LI];exact hl k (fq _ hk)) ((cT.1 hj).resolve_left e)
theorem agR{ai:List El}{us:List jx}{p:List Int×List Bool}{k j:Int}(h:j∈p.1):j∈(lm ai us p k e).1:=by grind[lm,Fe]
theorem Jk{us:List jx}:∀{ks:List Int} {ai:List El} {p:List Int×List Bool} {j:Int},j∈p.1->j∈(wH ai us p ks e).2.1
 |[],ai,p,j,h=>h
 |k::ks,ai,p,j,h=>Jk (ks:=ks) (ai:=ai.set k.toNat e) (p:=lm ai us p k e) (agR h)
theorem Xq{us:List jx}{b:Nat}(hu:∀k:Nat,k<us.length->∀i∈(us.getD k cP).l,0<=i/\i<(b:Int)){k:Nat}{j:Int}(hj:j∈(us.getD k cP).l):∀{ks:List Int} {ai:List El} {wl:List Int} {wi:List Bool},tD wl wi->wi.length=b->(∀k∈ks,0<=k/\k<us.length)->ai.length=us.length->(k:Int)∈ks->¬qK (ai.getD k dh) e->j∈(wH ai us (wl,wi) ks e).2.1
 |a::ks,ai,wl,wi,h,hb,hk,hv,hm,hne=>by
  have ha:=hk a aA
  show j∈(wH (ai.set a.toNat e) us (lm ai us (wl,wi) a e) ks e).2.1
  by_cases q:(k:Int)=a
  .refine Jk ?_
   unfold lm
   rw[<-q,dW,aP hne]
   exact QW h (fun i hi=>by have:=hu k J i hi;omega) hj
  have h1:tD (lm ai us (wl,wi) a e).1 (lm ai us (wl,wi) a e).2:=by
   unfold lm;split
   .exact h
   exact h.qA fun i hi=>by have:=hu a.toNat J i hi;omega
  refine Xq hu hj (ks:=ks) (ai:=ai.set a.toNat e) (wl:=(lm ai us (wl,wi) a e).1) (wi:=(lm ai us (wl,wi) a e).2) h1 (LJ.trans hb) (fun x hx=>hk x (fq _ hx)) (by simpa using hv) ((cT.1 hm).resolve_left q) ?_
  rw[ep,tO,aP J,<-ep];exact hne
theorem agS{us:List jx}{U:Nat->Nat}(hU:∀k,k<S.n->(us.getD k cP).l.length<=U k):∀{ks:List Int} {ai:List El} {p:List Int×List Bool},ai.length=S.n->o6 S (vQ ai)->
  (∀k∈ks,(0<=k/\k<S.n)/\cf (S.sh k.toNat) e=true/\cK (ai.getD k.toNat dh) e=true)->((wH ai us p ks e).2.1.length:Int)+og S U (vQ (wH ai us p ks e).1) S.n<=p.1.length+og S U (vQ ai) S.n
 |[],ai,p,_,_,_=>kY _
 |k::ks,ai,p,hl,hv,hk=>by
  obtain⟨k1,k2,k3⟩:=hk k aA
  have es:=aql (e:=e) (ai:=ai) (k:=k.toNat) J
  have fv:o6 S (vQ (ai.set k.toNat e)):=by
   rw[es];intro i hi;unfold E5
   by_cases c:i=k.toNat
   .rw[aR c,c];exact k2
   rw[aP c];exact hv i hi
  have ih:=agS hU (ks:=ks) (ai:=ai.set k.toNat e) (p:=lm ai us p k e) (by simpa using hl) fv fun x hx=>by
   obtain⟨a,b,c⟩:=hk x (fq _ hx)
   refine⟨a,b,?_⟩
   rw[ep,tO]
   by_cases q:k.toNat=x.toNat
   .rw[aR q,aR J];exact jy _
   rw[aP q,<-ep];exact c
  show((wH (ai.set k.toNat e) us (lm ai us p k e) ks e).2.1.length:Int)+og S U (vQ (wH (ai.set k.toNat e) us (lm ai us p k e) ks e).1) S.n<=_
  refine JR ih ?_
  rw[es]
  unfold lm
  have hkn:k.toNat<S.n:=J
  by_cases c:qK (ai.getD k.toNat dh) e
  .rw[aR c,QM,aR hkn]
   have h8:(S.sh k.toNat).aT.length<=8:=by
    have:qL (S.sh k.toNat)=true:=by
     have:=k2;unfold cf at this;simp only[cm]at this;exact this.1
    exact(yw this).1.2
   have:l6 (S.sh k.toNat) (vQ ai k.toNat)=l6 (S.sh k.toNat) e:=SJ h8 c
   rw[this];omega
  rw[aP c]
  have h1:=OH (U:=U) hv hkn k2 (show cK (vQ ai k.toNat) e=true from k3) (fun q=>c (afr q))
  have h2:=E7 (l:=(us.getD k.toNat cP).l) (p:=p)
  have h3:=hU k.toNat hkn
  omega
end
theorem QX(ws:List (BitVec 64)):∀(l:List Int) (y:BitVec 64),orW y ws l=Nj y (wQ ws) (l.map Int.toNat)
 |[],y=>rfl
 |a::l,y=>QX ws l (y|||ws.getD a.toNat 0)
structure Nk(us:List jx)(qs:List de)(n:Nat):Prop where
 len:us.length=n
 is:∀k,k<n->(us.getD k cP).l=wJ qs k
theorem Bx{qs:List de}{k:Nat}{i:Int}:i∈wJ qs k↔(0<=i/\i<qs.length)/\(k:Int)∈(qs.getD i.toNat cI).vars:=by grind[wJ]
theorem agT{k:Nat}:∀{l:List Nat},k∈l->1<=QR k l
 |a::l,h=>by
  unfold QR
  rcases cT.1 h with e|h
  .rw[aR e];omega
  have:=agT h;omega
theorem agU{an:List oP}{n:Nat}{qs:List de}(hv:∀q∈qs,q.vars=dc q.code)(k:Nat):(wJ qs k).length<=QV an n qs k:=by
 have key:∀(qs:List de),(∀q∈qs,q.vars=dc q.code)->(qs.filter fun q=>decide ((k:Int)∈q.vars)).length<=QV an n qs k:=by
  intro qs
  induction qs with
  |nil=>intro _;exact eI _
  |cons q qs ih=>
   intro h
   have h1:=ih fun p hp=>h p (fq _ hp)
   show _<=QR k (s9 an n q).vars+QV an n qs k
   rw[AE]
   split
   .rename_i c
    have:k∈(s9 an n q).vars:=by
     refine fI.2 ⟨(k:Int),?_,dW k⟩
     have:=h q aA
     rw[<-this];simpa using c
    have:=agT this
    rw[eE];omega
   omega
 have e:(wJ qs k).length=(qs.filter fun q=>decide ((k:Int)∈q.vars)).length:=by
  unfold wJ
  rw[fx]
  have aBP:∀(l:List Nat) (m:List de),l.map (fun i=>qs.getD i cI)=m->(l.filter fun i=>decide ((k:Int)∈(qs.getD i cI).vars)).length=(m.filter fun q=>decide ((k:Int)∈q.vars)).length:=fun l m h=>by
   subst h
   rw[List.filter_map,fx];rfl
  refine aBP _ _ ?_
  apply sF
  intro i
  rw[ph]
  by_cases c:i<qs.length
  .rw[xV c,pT,getD_eq c,dO c]
  rw[mJ J2,mJ J];rfl
 rw[e];exact key qs hv
def Ac(cl:List Nat):Prop:=∀i,i<cl.length->bV cl i<=i/\bV cl (bV cl i)=bV cl i
structure Xr(an:List oP)(aS:List Int)(qs:List de)(rep:Nat->Nat)(n:Nat)(X:Nat->Prop)(c:xx):Prop where
 ck:OL qs.length n n c
 si:lN (jS an aS n) (fun i=>s9 an n (qs.getD i cI)) (fun i=>(qs.getD i cI).why) qs.length (M8 an n qs) (vQ c.ai) (wQ c.aX) rep fun i=>(i:Int)∈c.wl\/X i
section
variable{us:List jx}{an:List oP}{aS:List Int}{qs:List de}{cl:List Nat}{n:Nat}{ai:List El}{aX:List (BitVec 64)}{wl:List Int}{wi:List Bool}{x:Int}{wy:BitVec 64}{q:de}{rep:Nat->Nat}{X:Nat->Prop}{c:xx}
theorem Nk.hu(h:Nk us qs n):∀k:Nat,k<us.length->∀i∈(us.getD k cP).l,0<=i/\i<(qs.length:Int):=by grind[Nk,cP,Bx]
theorem ank(hl:ai.length=n):(s9 an n q).ev (vQ ai)=lkE (xQ an q) q ai:=by
 show(fJ _ _ ((List.range n).map (vQ ai))).1=_
 rw[agP hl];rfl
theorem aqm:(s9 an n q).rhs (vQ ai)=if q.to.var<0 then q.to.c else ai.getD q.to.var.toNat dh:=by grind[sD.rhs,s9,Bq,vQ]
theorem anl:(s9 an n q).to=if q.to.var<0 then none else some q.to.var.toNat:=rfl
theorem QY(hl:ai.length=n):eO (s9 an n q) (vQ ai)↔cK (lkE (xQ an q) q ai) (if q.to.var<0 then q.to.c else ai.getD q.to.var.toNat dh)=true:=by
 unfold eO;rw[ank hl,aqm]
theorem Ff(hp:DH q=true):∃y,q.code=[y]/\y.op=1/\0<=q.to.var:=by
 simp only[DH,cm,dP]at hp
 obtain⟨⟨h1,h2⟩,h3⟩:=hp
 match hc:q.code,h1 with
 |[y],_=>rw[hc]at h2;exact⟨y,rfl,h2,h3⟩
theorem C1(hf:Xf (jS an aS n) (xQ an q) q.code q.to)(hv:q.vars=dc q.code)(hp:DH q=true):(0<=wY q/\wY q<n)/\(0<=q.to.var/\q.to.var<n)/\Ea (jS an aS n) (s9 an n q) (wY q).toNat q.to.var.toNat/\(jS an aS n).sh (wY q).toNat=(jS an aS n).sh q.to.var.toNat:=by
 obtain⟨y,hy,ho,h0⟩:=Ff hp
 have h1:=hf.var y (by rw[hy];simp) ho
 have h2:=hf.to1 h0
 have hn:(jS an aS n).n=n:=rfl
 have e:wY q=y.n:=by unfold wY;rw[hv,hy];unfold dc;simp[ho,h1.1,sr]
 rw[e]
 refine⟨⟨h1.1,J⟩,⟨h0,J⟩,?_,by rw[h1.2.2,h2.2]⟩
 unfold s9
 rw[hy]
 exact LO ho ⟨h1.1,J⟩ h0
theorem Fg(hv:q.vars=dc q.code):(s9 an n q).vars=q.vars.map Int.toNat:=by rw[hv];rfl
theorem Xr.look(hq:TU an aS n qs)(hu:Nk us qs n)(n8:cl.length=n)(h:Xr an aS qs (bV cl) n (fun _=>False) ⟨ai,aX,x::wl,wi⟩){r:LkO}(hr:mE cl us (xQ an (qs.getD x.toNat cI)) (qs.getD x.toNat cI) ai aX wl (wi.set x.toNat false) wy=r)(hok:r.ok=true):
  Xr an aS qs (bV cl) n (fun _=>False) ⟨r.ai,r.aX,r.wl,r.wi⟩/\muN an aS n qs ⟨r.ai,r.aX,r.wl,r.wi⟩<muN an aS n qs ⟨ai,aX,x::wl,wi⟩:=by
 have hn:(jS an aS n).n=n:=rfl
 obtain⟨hx,ck⟩:=h.ck.take
 have ckr:=agx (cl:=cl) (us:=us) (sh:=xQ an (qs.getD x.toNat cI)) (q:=qs.getD x.toNat cI) (wy:=wy) hu.hu (by rw[n8,hu.len]) ck
 rw[hr]at ckr
 have WD:x.toNat<qs.length:=J
 have hm:=dG (d:=cI) hx.1 hx.2
 obtain⟨hf,hvs⟩:=hq _ hm
 generalize hqq:qs.getD x.toNat cI=q at*
 have lv:ai.length=n:=h.ck.lv
 have ly:aX.length=n:=h.ck.ly
 have nd:=mM.1 h.ck.wq.nd
 have hsi:=h.si
 simp only at hsi
 have yes:eO (s9 an n q) (vQ ai)->lN (jS an aS n) (fun i=>s9 an n (qs.getD i cI)) (fun i=>(qs.getD i cI).why) qs.length (M8 an n qs) (vQ ai) (wQ aX) (bV cl) (fun i=>(i:Int)∈wl\/False)/\muN an aS n qs ⟨ai,aX,wl,wi.set x.toNat false⟩<muN an aS n qs ⟨ai,aX,x::wl,wi⟩:=fun hh=>by
  have h1:=hsi.look (i:=x.toNat) (by show eO (s9 an n (qs.getD x.toNat cI)) _;rw[hqq];exact hh)
  refine⟨h1.agL fun i hi ⟨hp,hne⟩=> ?_,?_⟩
  .rcases hp with hp|hp
   .rcases cT.1 hp with e|e
    .exact absurd J hne
    exact .inl e
   exact hp.elim
  unfold muN;simp only[eE];omega
 unfold mE at hr
 by_cases c1:skQ cl q=true
 .rw[aR c1]at hr;subst hr
  simp only[skQ,cm,dP]at c1
  obtain⟨p1,p2,p3,p4⟩:=C1 hf hvs c1.1
  have e:=c1.2
  rw[l7 J,l7 J]at e
  have:=(hsi.ring _ _ J J (Int.ofNat.inj e)).2.1
  have:=yes (Xp p3 hsi.low.fit this)
  exact⟨⟨ckr,this.1⟩,this.2⟩
 rw[aP c1]at hr
 by_cases c2:q.to.var<0
 .rw[aR c2]at hr
  by_cases c3:cK (lkE (xQ an q) q ai) q.to.c=true
  .rw[aR c3]at hr;subst hr
   have:=yes ((QY lv).2 (by rw[aR c2];exact c3))
   exact⟨⟨ckr,this.1⟩,this.2⟩
  rw[aP c3]at hr;subst hr;cases hok
 rw[aP c2]at hr
 by_cases c3:cK (lkE (xQ an q) q ai) (ai.getD q.to.var.toNat dh)=true
 .rw[aR c3]at hr;subst hr
  have:=yes ((QY lv).2 (by rw[aP c2];exact c3))
  exact⟨⟨ckr,this.1⟩,this.2⟩
 rw[aP c3]at hr;subst hr
 have hto:=hf.to1 J
 have hk:(s9 an n q).to=some q.to.var.toNat:=by rw[anl,aP c2]
 have kn:q.to.var.toNat<n:=J
 have hks:∀k∈bG cl q.to.var,0<=k/\k<(n:Int):=fun k hk=>by have:=lM hk;omega
 have hCi:∀i:Nat,(i:Int)∈bG cl q.to.var↔i<n/\bV cl i=bV cl q.to.var.toNat:=fun i=>by
  rw[G8,dW]
  exact⟨fun⟨a,b,c,d⟩=>⟨J,d⟩,fun⟨a,b⟩=>⟨J,J,J,b⟩⟩
 have eJ:fh (s9 an n q).sh (vQ ai q.to.var.toNat) ((s9 an n q).ev (vQ ai))=lkJ (xQ an q) q ai:=by rw[ank lv];rfl
 have hq2:s9 an n (qs.getD x.toNat cI)=s9 an n q:=by rw[hqq]
 have h1:=hsi.raise (i:=x.toNat) (k:=q.to.var.toNat) (W:=aX.getD q.to.var.toNat 0|||orW q.why aX q.vars) (P':=fun i=>(i:Int)∈(wH ai us (wl,wi.set x.toNat false) (bG cl q.to.var) (lkJ (xQ an q) q ai)).2.1\/False) WD (by show(s9 an n (qs.getD x.toNat cI)).to=_;rw[hqq];exact hk) (Gq _ _)
  (by show dS (Nj (qs.getD x.toNat cI).why (wQ aX) (s9 an n (qs.getD x.toNat cI)).vars) _=true;rw[hqq,Fg hvs,<-QX];exact EN _ _)
  (fun j hj hne hp=>by
   rcases hp with hp|hp
   .rcases cT.1 hp with e|e
    .exact absurd J hne
    exact .inl (Jk e)
   exact hp.elim)
  (fun j hj y hy hr hne=>by
   simp only[hqq]at hy hne
   rw[eJ]at hne
   have hjm:=hq _ (dG (d:=cI) (l:=qs) (k:=(j:Int)) J J)
   rw[dW]at hjm
   rw[Fg hjm.2]at hy
   obtain⟨z,hz,rfl⟩:=fI.1 hy
   have hz0:0<=z/\z<n:=by
    have:=hz
    rw[hjm.2]at this
    obtain⟨a,ha,ho,h0,rfl⟩:=rF.1 this
    have:=hjm.1.var a ha ho
    omega
   refine .inl (Xq hu.hu (k:=z.toNat) (j:=(j:Int)) ?_ ck.wq ck.li (fun k hk=>by have:=hks k hk;have:=hu.len;omega) (by rw[hu.len];exact lv) ?_ hne)
   .rw[hu.is _ J]
    refine Bx.2 ⟨J,?_⟩
    rw[dW,fF hz0.1];exact hz
   exact(hCi _).2 ⟨J,hr⟩)
 simp only[hqq]at h1
 rw[eJ]at h1
 have e1:vQ (lkR cl us (xQ an q) q ai aX wl (wi.set x.toNat false) wy).ai=qf (vQ ai) (fun i=>i<n/\bV cl i=bV cl q.to.var.toNat) (lkJ (xQ an q) q ai):=by
  unfold lkR;simp only[xu]
  rw[agN (by rw[lv];exact hks)]
  exact LP hCi
 have e2:wQ (lkR cl us (xQ an q) q ai aX wl (wi.set x.toNat false) wy).aX=D7 (wQ aX) (fun i=>i<n/\bV cl i=bV cl q.to.var.toNat) (aX.getD q.to.var.toNat 0|||orW q.why aX q.vars):=by
  unfold lkR;simp only
  rw[agO (by rw[ly];exact hks)]
  exact LQ hCi
 refine⟨⟨ckr,?_⟩,?_⟩
 .simp only;rw[e1,e2];exact h1
 have fv:=hsi.low.fit
 have io:=(hsi.ok x.toNat WD).1
 simp only[hqq]at io
 have fk:cf (xQ an q) (vQ ai q.to.var.toNat)=true:=by rw[<-hto.2];exact fv _ J
 have fj:cf (xQ an q) (lkJ (xQ an q) q ai)=true:=by rw[<-eJ];exact GJ fk (io.fit _ fv)
 have up:cK (vQ ai q.to.var.toNat) (lkJ (xQ an q) q ai)=true:=by rw[<-eJ];exact(WB fk (io.fit _ fv)).1
 have h2:=agS (S:=jS an aS n) (us:=us) (U:=QV an n qs) (e:=lkJ (xQ an q) q ai) (ks:=bG cl q.to.var) (ai:=ai) (p:=(wl,wi.set x.toNat false)) (fun k hk=>by rw[hu.is k hk];exact agU (fun q hq'=>(hq q hq').2) k) lv fv fun k hk=>by
  have hc:=lM hk
  have TV:=hsi.ring k.toNat q.to.var.toNat J J hc.2.2.2
  refine⟨by have:=hks k hk;omega,by rw[TV.1,hto.2];exact fj,eP (kC TV.2.1) up⟩
 have h3:=Ji (U:=QV an n qs) fv n (eI _)
 have h4:0<=og (jS an aS n) (QV an n qs) (qf (vQ ai) (fun i=>i<n/\bV cl i=bV cl q.to.var.toNat) (lkJ (xQ an q) q ai)) n:=Ji (U:=QV an n qs) h1.low.fit n (eI _)
 rw[<-e1]at h4
 rw[hn]at h2
 unfold muN
 simp only[eE]
 have e3:(lkR cl us (xQ an q) q ai aX wl (wi.set x.toNat false) wy).ai=(wH ai us (wl,wi.set x.toNat false) (bG cl q.to.var) (lkJ (xQ an q) q ai)).1:=rfl
 have e4:(lkR cl us (xQ an q) q ai aX wl (wi.set x.toNat false) wy).wl=(wH ai us (wl,wi.set x.toNat false) (bG cl q.to.var) (lkJ (xQ an q) q ai)).2.1:=rfl
 rw[e3]at h4⊢
 rw[e4]
 simp only at h2
 omega
end
section
variable{cl:List Nat}{x y a b:Nat}
theorem ak5:GU x y a=GU x y b↔a=b\/((a=x\/a=y)/\(b=x\/b=y)):=by grind[GU,wz]
theorem Ac.join(h:Ac cl)(ha:a<cl.length)(hb:b<cl.length):Ac (gT cl (bV cl a) (bV cl b)):=by grind[Ac,gT,bV,G4,GU,yG,j4,wz,kB]
theorem abS{cs:List (List Nat)}{i j:Int}(hi:0<=i/\i<(bg cs).length)(hj:0<=j/\j<(bg cs).length)(ha:a<(bg cs).length)(hb:b<(bg cs).length):
 bV (bg (iK cs i j).1) a=bV (bg (iK cs i j).1) b↔bV (bg cs) a=bV (bg cs) b\/((bV (bg cs) a=bV (bg cs) i.toNat\/bV (bg cs) a=bV (bg cs) j.toNat)/\(bV (bg cs) b=bV (bg cs) i.toNat\/bV (bg cs) b=bV (bg cs) j.toNat)):=by grind[G3,bg,G5,bV,gT,yG,ak5,Lv]
theorem agW{cs:List (List Nat)}{i j:Int}(hi:0<=i/\i<(bg cs).length)(hj:0<=j/\j<(bg cs).length)(h:Ac (bg cs)):Ac (bg (iK cs i j).1):=by
 by_cases q:G3 (bg cs).length (bg cs) i j
 .rw[G5 q];exact h.join J J
 rw[Lv q];exact h
def C5(cl:List Nat)(ks:List Int)(n k a b:Nat):Prop:=a<n/\b<n/\(bV cl a=bV cl b\/(a<k/\(b:Int)=ks.getD a 0)\/(b<k/\(a:Int)=ks.getD b 0))
structure MgK(cl ji:List Nat)(ks:List Int)(n k:Nat):Prop where
 ok:Ac ji
 more:∀a b,a<n->b<n->bV cl a=bV cl b->bV ji a=bV ji b
 af7:∀v,v<k->bV ji v=bV ji (ks.getD v 0).toNat
 way:∀a b,a<n->b<n->bV ji a=bV ji b->jr (C5 cl ks n k) a b
theorem agX{cs:List (List Nat)}{ks:List Int}{n:Nat}(h:Ac (bg cs))(hl:(bg cs).length=n)(hk:∀v,v<n->0<=ks.getD v 0/\ks.getD v 0<n):∀k,k<=n->MgK (bg cs) (bg (rO cs ks k)) ks n k
 |0,_=>⟨h,fun a b _ _ q=>q,fun v hv=>J,fun a b ha hb q=> .one ⟨ha,hb,.inl q⟩⟩
 |k+1,hn=>by
  have ih:=agX h hl hk k J
  have e:=E9 (cs:=cs) (ks:=ks) (k:=(k:Int)) J
  rw[show((k:Int)+1).toNat=k+1 by omega,show((k:Int)).toNat=k by omega]at e
  have l2:(bg (rO cs ks k)).length=n:=by rw[vM];exact hl
  have hkk:=hk k J
  have iff:=fun a b (ha:a<n) (hb:b<n)=>abS (cs:=rO cs ks k) (i:=(k:Int)) (j:=ks.getD k 0) (a:=a) (b:=b) J J J J
  rw[dW]at iff
  rw[e]
  have st:∀a b,jr (C5 (bg cs) ks n k) a b->jr (C5 (bg cs) ks n (k+1)) a b:=fun a b w=>w.mono fun x y ⟨h1,h2,h3⟩=>⟨h1,h2,by
   rcases h3 with q|q|q
   .exact .inl q
   .exact .inr (.inl ⟨J,q.2⟩)
   exact .inr (.inr ⟨J,q.2⟩)⟩
  refine⟨agW J J ih.ok,fun a b ha hb q=>(iff a b ha hb).2 (.inl (ih.more a b ha hb q)),fun v hv=> ?_,fun a b ha hb q=> ?_⟩
  .by_cases c:v=k
   .subst c;exact(iff v _ J J).2 (.inr ⟨.inl O,.inr O⟩)
   have:=hk v J
   exact(iff v _ J J).2 (.inl (ih.af7 v J))
  have jk:jr (C5 (bg cs) ks n (k+1)) k (ks.getD k 0).toNat:= .one ⟨J,J,.inr (.inl ⟨J,J⟩)⟩
  have kj:jr (C5 (bg cs) ks n (k+1)) (ks.getD k 0).toNat k:= .one ⟨J,J,.inr (.inr ⟨J,J⟩)⟩
  have kn:k<n:=J
  have jn:(ks.getD k 0).toNat<n:=J
  rcases(iff a b ha hb).1 q with q|⟨q,r⟩
  .exact st _ _ (ih.way a b ha hb q)
  have w1:jr (C5 (bg cs) ks n (k+1)) a k:=by
   rcases q with q|q
   .exact st _ _ (ih.way a k ha kn q)
   exact(st _ _ (ih.way a _ ha jn q)).trans kj
  have w2:jr (C5 (bg cs) ks n (k+1)) k b:=by
   rcases r with q|q
   .exact st _ _ (ih.way k b kn hb q.symm)
   exact jk.trans (st _ _ (ih.way _ b jn hb q.symm))
  exact w1.trans w2
theorem vN{α:Type}{p q:α->Bool}:∀{l:List α},(∀x∈l,p x=true->q x=true)->(l.filter p).length<=(l.filter q).length/\((l.filter p).length=(l.filter q).length->∀x∈l,q x=true->p x=true)
 |[],_=>⟨eI _,fun _ x hx=>by cases hx⟩
 |a::l,h=>by
  obtain⟨h1,h2⟩:=vN (l:=l) (p:=p) (q:=q) fun x hx=>h x (fq _ hx)
  rw[AE,AE]
  by_cases c:p a=true
  .rw[aR c,aR (h a aA c)]
   simp only[eE]
   refine⟨J,fun e x hx hq=> ?_⟩
   rcases cT.1 hx with r|r
   .rw[r];exact c
   exact h2 J x r hq
  rw[aP c]
  by_cases d:q a=true
  .rw[aR d];simp only[eE]
   exact⟨J,fun e=>J⟩
  rw[aP d]
  refine⟨h1,fun e x hx hq=> ?_⟩
  rcases cT.1 hx with r|r
  .rw[r]at hq;exact absurd hq d
  exact h2 e x r hq
theorem Xs{cl ji:List Nat}(h:Ac cl)(h':Ac ji)(hl:ji.length=cl.length)(hm:∀a b,a<cl.length->b<cl.length->bV cl a=bV cl b->bV ji a=bV ji b)(he:leads ji=leads cl):∀a,a<cl.length->bV ji a=bV cl a:=fun a ha=>by
 unfold leads at he
 rw[hl]at he
 have h1:=vN (l:=List.range cl.length) (p:=fun i=>bV ji i==i) (q:=fun i=>bV cl i==i) fun x hx hp=>by
  rw[AM]at hp⊢
  have hx:=pn.1 hx
  have c1:=h x hx
  have c2:=hm x (bV cl x) hx J c1.2.symm
  have c3:=h' (bV cl x) J
  omega
 have ha1:=h a ha
 have h2:=h1.2 he (bV cl a) (pn.2 J) (by rw[AM];exact ha1.2)
 rw[AM]at h2
 rw[hm a (bV cl a) ha J ha1.2.symm,h2]
end
theorem QZ{o:List (BitVec 64)}{k:Nat}{y:BitVec 64}(hk:k<o.length):(∀i,dS (o.getD i 0) ((o.set k (o.getD k 0|||y)).getD i 0)=true)/\dS y ((o.set k (o.getD k 0|||y)).getD k 0)=true:=by grind[Gq,rZ,EN]
theorem ZD{α:Type}{f:List (BitVec 64)->α->List (BitVec 64)}{n:Nat}(hl:∀o a,(f o a).length=o.length)(l:List α)(hm:∀o:List (BitVec 64),o.length=n->∀a∈l,∀i,dS (o.getD i 0) ((f o a).getD i 0)=true):∀o:List (BitVec 64),o.length=n->(∀i,dS (o.getD i 0) ((l.foldl f o).getD i 0)=true)/\∀a∈l,∀y k,(∀o:List (BitVec 64),o.length=n->dS y ((f o a).getD k 0)=true)->dS y ((l.foldl f o).getD k 0)=true:=by
 induction l with
 |nil=>intro o _;exact⟨fun i=>rZ _,fun a ha=>by cases ha⟩
 |cons b l ih=>
  intro o ho
  have h1:=ih (fun o h a ha=>hm o h a (fq _ ha)) (f o b) ((hl o b).trans ho)
  refine⟨fun i=>lf (hm o ho b aA i) (h1.1 i),fun a ha y k hy=> ?_⟩
  rcases cT.1 ha with e|ha
  .subst e;exact lf (hy o ho) (h1.1 k)
  exact h1.2 a ha y k hy
theorem ak6{cl:List Nat}{ws:List (BitVec 64)}{n:Nat}{qs:List de}(h:Ac cl)(hl:cl.length=n)(hp:TA n qs):
  (∀v,v<n->dS (ws.getD v 0) ((Br cl ws n qs).getD (bV cl v) 0)=true)/\∀q∈qs,DH q=true->wY q≠q.to.var->bV cl (wY q).toNat=bV cl q.to.var.toNat->dS q.why ((Br cl ws n qs).getD (bV cl q.to.var.toNat) 0)=true:=by
 have fr:∀v:Nat,v<n->(eW cl (v:Int)).toNat=bV cl v/\bV cl v<n:=fun v hv=>by
  rw[l7 J,dW,dW]
  have:=h v J
  exact⟨rfl,J⟩
 have hto:∀q∈qs,Im cl q=true->(eW cl q.to.var).toNat=bV cl q.to.var.toNat/\bV cl q.to.var.toNat<n:=fun q hq hi=>by
  simp only[Im,cm,dP]at hi
  have h1:=hp q hq hi.1.1
  have h2:=(Ff hi.1.1)
  obtain⟨_,_,_,h0⟩:=h2
  have:=fr q.to.var.toNat J
  rwa[fF h0]at this
 have ra:(TB cl ws n).length=n:=by unfold TB;rw[Cw (LH cl ws)];simp
 have hA:=ZD (n:=n) (f:=LG cl ws) (LH cl ws) (List.range n) (fun o ho v hv i=>by
  have hv:=pn.1 hv
  unfold LG;rw[(fr v hv).1];exact(QZ (by rw[ho];exact(fr v hv).2)).1 i) (List.replicate n 0) aA
 have hB:=ZD (n:=n) (f:=Iy cl) (TC cl) qs (fun o ho q hq i=>by
  unfold Iy
  by_cases c:Im cl q=true
  .rw[aR c,(hto q hq c).1];exact(QZ (by rw[ho];exact(hto q hq c).2)).1 i
  rw[aP c];exact rZ _) (TB cl ws n) ra
 refine⟨fun v hv=> ?_,fun q hq h1 h2 h3=> ?_⟩
 .have:=hA.2 v (pn.2 hv) (ws.getD v 0) (bV cl v) fun o ho=>by
   unfold LG;rw[(fr v hv).1];exact(QZ (by rw[ho];exact(fr v hv).2)).2
  exact lf this (hB.1 _)
 refine hB.2 q hq q.why _ fun o ho=> ?_
 have hv:=hp q hq h1
 have ci:Im cl q=true:=by
  simp only[Im,cm,dP]
  obtain⟨_,_,_,h0⟩:=Ff h1
  refine⟨⟨h1,?_⟩,h2⟩
  rw[l7 J,l7 J,h3]
 unfold Iy
 rw[aR ci,(hto q hq ci).1];exact(QZ (by rw[ho];exact(hto q hq ci).2)).2
theorem OQ{n:Nat}:∀{qs:List de} {g:List (List Int)} {a:Nat} {x:Int},(∀q∈qs,DH q=true->0<=wY q)->x∈(qs.foldl grQ g).getD a []->x∈g.getD a []\/∃q∈qs,DH q=true/\wY q=a/\q.to.var=x
 |[],g,a,x,_,h=> .inl h
 |q::qs,g,a,x,hp,h=>by
  rcases OQ (n:=n) (qs:=qs) (g:=grQ g q) (fun p hp'=>hp p (fq _ hp')) h with h|⟨p,h1,h2⟩
  .unfold grQ at h
   by_cases c:DH q=true
   .rw[aR c]at h
    rw[ep,tO]at h
    by_cases e:(wY q).toNat=a
    .rw[aR e]at h
     split at h
     .rcases eF.1 h with h|h
      .rw[e]at h;exact .inl h
      have:=hp q aA c
      exact .inr ⟨q,aA,c,J,(fG.1 h).symm⟩
     .cases h
    rw[aP e,<-ep]at h;exact .inl h
   rw[aP c]at h;exact .inl h
  exact .inr ⟨p,fq _ h1,h2⟩
theorem au0{n:Nat}{qs:List de}{a b:Nat}(hp:∀q∈qs,DH q=true->0<=wY q)(h:uE (bX n qs) a b):∃q∈qs,DH q=true/\wY q=a/\q.to.var=b:=by
 obtain⟨_,_,i,hi,e⟩:=h
 have hm:(b:Int)∈(bX n qs).getD a []:=by rw[<-e,getD_eq hi];exact pS hi
 rcases OQ (n:=n) hp hm with q|q
 .rw[ep,Vg]at q
  split at q<;>cases q
 exact q
theorem aqn(E:Nat->Nat->Prop)(k:Nat):∃o,OfK E k o:=by
 have key:∀m j:Nat,j<=m->sq E k j->∃o,OfK E k o:=by
  intro m
  induction m with
  |zero=>intro j hj h;exact⟨j,⟨j,rfl,h⟩,fun i _=>J⟩
  |succ m ih=>
   intro j hj h
   by_cases c:∃i,i<j/\sq E k i
   .obtain⟨i,hi,h2⟩:=c;exact ih i J h2
   exact⟨j,⟨j,rfl,h⟩,fun i hi=>by
    refine Jv fun q=>c ⟨i,J,hi⟩⟩
 exact key k k (eI _) ⟨.refl _,.refl _⟩
theorem sq.trans{E:Nat->Nat->Prop}{a b c:Nat}(h:sq E a b)(h2:sq E b c):sq E a c:=⟨h.1.trans h2.1,h2.2.trans h.2⟩
theorem Q0{gl:List (List Int)}{v:Nat}(h:v<gl.length):OfK (uE gl) v ((oe gl).getD v 0):=by grind[aqn,uE,oe,agh]
theorem agY{gl:List (List Int)}{v u:Nat}(h:v<gl.length)(hu:u<gl.length)(hb:sq (uE gl) v u):(oe gl).getD v 0=(oe gl).getD u 0:=by
 have h1:=Q0 h;have h2:=Q0 hu
 obtain⟨j,e,hj⟩:=h2.is
 exact h1.same ⟨⟨j,e,sq.trans hb hj⟩,fun i hi=>h2.low i (sq.trans ⟨hb.2,hb.1⟩ hi)⟩
theorem ak7{gl:List (List Int)}{a b:Nat}(h:jr (uE gl) a b)(ha:a<gl.length):b<gl.length:=by grind[jr,uE]
theorem agZ{E E':Nat->Nat->Prop}{a b:Nat}(hE:∀y c,E y c->sq E a y->sq E a c->E' y c)(h:jr E a b)(hb:jr E b a):jr E' a b:=by
 induction h with
 |refl=>exact .refl _
 |step h e ih=>
  have hy:jr E _ a:=(jr.one e).trans hb
  exact(ih hy).step (hE _ _ e ⟨h,hy⟩ ⟨h.step e,hb⟩)
theorem lN.ag0{S:Sys}{Q:Nat->sD}{y:Nat->BitVec 64}{N:Nat}{M:Qm}{v:Va}{ws:Nat->BitVec 64}{rep TS:Nat->Nat}{P:Nat->Prop}(h:lN S Q y N M v ws rep P)(hr:∀i k,i<S.n->k<S.n->TS i=TS k->rep i=rep k):lN S Q y N M v ws TS P:=
 ⟨h.ok,h.all,h.ZC,h.low,h.why,fun i k hi hk e=>by
  obtain⟨a,b,c,d⟩:=h.ring i k hi hk (hr i k hi hk e)
  exact⟨a,b,c,fun u hu p q hp hq=>d u hu p q ⟨hp.1,hr _ _ hp.1 hi hp.2⟩ ⟨hq.1,hr _ _ hq.1 hi hq.2⟩⟩,h.hold⟩
theorem ZE{sh:Sh}{ai:List El}:∀{ks:List Int} {e:El},cf sh e=true->(∀k∈ks,cf sh (ai.getD k.toNat dh)=true)->cf sh (uI sh ai e ks)=true/\cK e (uI sh ai e ks)=true/\(∀k∈ks,cK (ai.getD k.toNat dh) (uI sh ai e ks)=true)/\∀u,cf sh u=true->cK e u=true->(∀k∈ks,cK (ai.getD k.toNat dh) u=true)->cK (uI sh ai e ks) u=true
 |[],e,he,_=>⟨he,jy _,(fun k hk=>by cases hk),fun u _ h _=>h⟩
 |a::ks,e,he,hk=>by
  have fa:=hk a aA
  have key:cf sh (if qK (ai.getD a.toNat dh) e then e else fh sh e (ai.getD a.toNat dh))=true/\cK e (if qK (ai.getD a.toNat dh) e then e else fh sh e (ai.getD a.toNat dh))=true/\cK (ai.getD a.toNat dh) (if qK (ai.getD a.toNat dh) e then e else fh sh e (ai.getD a.toNat dh))=true/\∀u,cf sh u=true->cK e u=true->cK (ai.getD a.toNat dh) u=true->cK (if qK (ai.getD a.toNat dh) e then e else fh sh e (ai.getD a.toNat dh)) u=true:=by
   by_cases c:qK (ai.getD a.toNat dh) e
   .rw[aR c];exact⟨he,jy _,kC c,fun u _ h _=>h⟩
   rw[aP c];exact⟨GJ he fa,(WB he fa).1,(WB he fa).2,fun u fu h1 h2=>YM he fa fu h1 h2⟩
  obtain⟨k1,k2,k3,k4⟩:=key
  obtain⟨h1,h2,h3,h4⟩:=ZE (ks:=ks) k1 fun k h=>hk k (fq _ h)
  refine⟨h1,eP k2 h2,fun k h=> ?_,fun u fu hu Cp=>h4 u fu (k4 u fu hu (Cp a aA)) fun k h=>Cp k (fq _ h)⟩
  rcases cT.1 h with q|q
  .subst q;exact eP k3 h2
  exact h3 k q
theorem TW{p:Nat->Bool}{v m:Nat}(hv:p v=true)(hlo:∀j,j<v->p j=false):∃t,(List.range (v+(m+1))).filter p=v::t:=by
 rw[VN,Pv]
 have e:(List.range v).filter p=[]:=List.filter_eq_nil_iff.2 fun j hj=>by rw[hlo j (pn.1 hj)];exact Js
 rw[e,dZ,Vj,kV,AE,aR (by simpa using hv)]
 exact⟨_,rfl⟩
theorem TY{cl:List Nat}{v:Nat}(h:Ac cl)(hv:v<cl.length)(he:bV cl v=v):∃t,bG cl v=(v:Int)::t:=by
 obtain⟨t,ht⟩:=TW (p:=fun k=>bV cl v==bV cl k) (v:=v) (m:=cl.length-v-1) aA fun j hj=>by
  have:=h j J
  rw[beq_eq_false_iff_ne];omega
 unfold bG yJ
 rw[aR ⟨J,J⟩]
 rw[show v+(cl.length-v-1+1)=cl.length by omega]at ht
 rw[dW,ht]
 exact⟨_,rfl⟩
theorem ZF{cl:List Nat}{n:Nat}{p:Nat->Bool}{q:Nat->Bool}:∀{l:List Nat},(∀x∈l,¬(p x=true/\q x=true))->(l.filter p).length+(l.filter q).length<=(l.filter fun x=>p x||q x).length
 |[],_=>eI _
 |a::l,h=>by
  have ih:=ZF (cl:=cl) (n:=n) (l:=l) (p:=p) (q:=q) fun x hx=>h x (fq _ hx)
  have ha:=h a aA
  rw[AE,AE,AE]
  by_cases c1:p a=true<;>by_cases c2:q a=true
  .exact absurd ⟨c1,c2⟩ ha
  .rw[aR c1,aP c2,aR (by simp[c1])];simp only[eE];omega
  .rw[aP c1,aR c2,aR (by simp[c2])];simp only[eE];omega
  rw[aP c1,aP c2,aP (by simp[c1,c2])];exact ih
theorem ann{cl:List Nat}(h:Ac cl):∀k,Zy cl k<=((List.range cl.length).filter fun j=>decide (bV cl j<k)).length
 |0=>mo _
 |k+1=>by
  have ih:=ann h k
  have h1:=ZF (cl:=cl) (n:=0) (l:=List.range cl.length) (p:=fun j=>decide (bV cl j<k)) (q:=fun j=>bV cl k==bV cl j&&decide (bV cl k=k)) fun x _ ⟨a,b⟩=>by
   simp only[dP,cm,AM]at a b;omega
  have h2:=(vN (l:=List.range cl.length) (p:=fun x=>decide (bV cl x<k)||(bV cl k==bV cl x&&decide (bV cl k=k))) (q:=fun j=>decide (bV cl j<k+1)) fun x _ q=>by
   simp only[dP,cm,oR,AM]at q⊢;omega).1
  show Zy cl k+_<=_
  have h3:(if eW cl (k:Int)=(k:Int)then(bG cl (k:Int)).length-1 else 0)<=((List.range cl.length).filter fun j=>bV cl k==bV cl j&&decide (bV cl k=k)).length:=by
   by_cases c:eW cl (k:Int)=(k:Int)
   .rw[aR c]
    by_cases r:0<=(k:Int)/\(k:Int)<cl.length
    .rw[l7 r,dW]at c
     have e:bV cl k=k:=J
     unfold bG yJ
     rw[aR r,fx,dW]
     have:=(vN (l:=List.range cl.length) (p:=fun j=>bV cl k==bV cl j) (q:=fun j=>bV cl k==bV cl j&&decide (bV cl k=k)) fun x _ q=>by rw[cm,dP];exact⟨q,e⟩).1
     omega
    rw[GY r]at c;omega
   rw[aP c];exact mo _
  omega
theorem ak8{cl:List Nat}(h:Ac cl)(k:Nat):Zy cl k<=cl.length:=by grind[ann,bV]
def LR(cl ji:List Nat)(k a:Nat):Nat:=if bV ji a<k then 2*bV ji a else 2*bV cl a+1
structure CoA(an:List oP)(aS:List Int)(qs:List de)(cl ji:List Nat)(n:Nat)(X:Nat->Prop)(w0:List (BitVec 64))(k:Nat)(c:xx):Prop where
 j:Xr an aS qs (LR cl ji k) n X c
 ws:∀j,j<n->k<=bV ji j->c.aX.getD j 0=w0.getD j 0
section
variable{us:List jx}{an:List oP}{aS:List Int}{qs:List de}{cl ji:List Nat}{n k:Nat}{X:Nat->Prop}{c:xx}{w0 rs:List (BitVec 64)}
structure RgN(an:List oP)(aS:List Int)(qs:List de)(ji:List Nat)(n:Nat)(w0 rs:List (BitVec 64)):Prop where
 ok:Ac ji
 len:ji.length=n
 ring:∀v,v<n->bV ji v=v->pC (jS an aS n) (M8 an n qs (rs.getD v 0)) fun j=>j<n/\bV ji j=v
 sh:∀a b,a<n->b<n->bV ji a=bV ji b->(jS an aS n).sh a=(jS an aS n).sh b
 ws:∀v,v<n->dS (w0.getD v 0) (rs.getD (bV ji v) 0)=true
theorem CoA.step(hq:TU an aS n qs)(hu:Nk us qs n)(hr:RgN an aS qs ji n w0 rs)(h:CoA an aS qs cl ji n X w0 k c)(hk:k<n):CoA an aS qs cl ji n X w0 (k+1) (co1 ji us an aS rs c k):=by
 have hn:(jS an aS n).n=n:=rfl
 have hi:=hr.len
 have ck:=agv (cl:=ji) (us:=us) (an:=an) (aS:=aS) (rs:=rs) (s:=c) (v:=k) hu.hu (by rw[hi,hu.len]) h.j.ck
 have lv:=h.j.ck.lv
 have ly:=h.j.ck.ly
 have si:=h.j.si
 have no:(∀a b,a<n->b<n->LR cl ji (k+1) a=LR cl ji (k+1) b->LR cl ji k a=LR cl ji k b)->co1 ji us an aS rs c k=c->CoA an aS qs cl ji n X w0 (k+1) (co1 ji us an aS rs c k):=fun hf e=>by
  rw[e];exact⟨⟨h.j.ck,si.ag0 hf⟩,fun j hj hjk=>h.ws j hj J⟩
 by_cases c1:bV ji k=k
 .obtain⟨t,ht⟩:=TY hr.ok J c1
  have hCi:∀i:Nat,(i:Int)∈bG ji (k:Int)↔i<n/\bV ji i=k:=fun i=>by
   rw[G8,dW,dW,c1]
   exact⟨fun⟨a,b,c,d⟩=>⟨J,d⟩,fun⟨a,b⟩=>⟨J,J,J,b⟩⟩
  have fk:eW ji (k:Int)=k:=by rw[l7 J,dW,c1]
  by_cases c2:(bG ji (k:Int)).length≠1
  .have hks:∀j∈bG ji (k:Int),0<=j/\j<(n:Int):=fun j hj=>by have:=lM hj;omega
   have e0:co1 ji us an aS rs c k=_:=Zz (k:=(k:Int)) J fk c2
   simp only[dW]at e0
   have hfit:∀j:Nat,j<n->bV ji j=k->cf ((jS an aS n).sh k) (c.ai.getD j dh)=true:=fun j hj e=>by
    rw[<-hr.sh j k hj hk (by rw[e,c1])];exact si.low.fit j hj
   have hdr:∀j∈(bG ji (k:Int)).drop 1,0<=j/\j.toNat<n/\bV ji j.toNat=k:=fun j hj=>by
    have hm:=xa hj
    have:=hks j hm
    have:=(hCi j.toNat).1 (by rw[fF J];exact hm)
    exact⟨J,this⟩
   obtain⟨e1,e2,e3,e4⟩:=ZE (sh:=(jS an aS n).sh k) (ai:=c.ai) (ks:=(bG ji (k:Int)).drop 1) (e:=c.ai.getD k dh) (hfit k hk c1) fun j hj=>hfit _ (hdr j hj).2.1 (hdr j hj).2.2
   have eq:uI (an.getD (aS.getD k 0).toNat oF).p.sh c.ai (c.ai.getD k dh) ((bG ji (k:Int)).drop 1)=uI ((jS an aS n).sh k) c.ai (c.ai.getD k dh) ((bG ji (k:Int)).drop 1):=rfl
   rw[eq]at e0
   generalize hE:uI ((jS an aS n).sh k) c.ai (c.ai.getD k dh) ((bG ji (k:Int)).drop 1)=e at*
   have hwC:∀j,j<n/\bV ji j=k->dS (wQ c.aX j) (rs.getD k 0)=true:=fun j hj=>by
    have:=hr.ws j hj.1
    rw[hj.2]at this
    show dS (c.aX.getD j 0) _=true
    rw[h.ws j hj.1 J];exact this
   have TV:=hr.ring k hk c1
   have h1:=si.merge (C:=fun j=>j<n/\bV ji j=k) (e:=e) (W:=rs.getD k 0) (k:=k) (TS:=LR cl ji (k+1)) (P':=fun i=>(i:Int)∈(wH c.ai us (c.wl,c.wi) (bG ji (k:Int)) e).2.1\/X i)
    (fun j hj=>⟨J,hwC j hj⟩) (fun a b ha hb=>hr.sh a b ha.1 hb.1 (by rw[ha.2,hb.2])) TV ⟨hk,c1⟩ e1
    (fun u hu2=>by
     have hle:∀j,j<n/\bV ji j=k->cK (c.ai.getD j dh) (u k)=true:=fun j hj=>eP (si.why j J u (hu2.less fun q hq=>si.ZC _ _ _ (hwC j hj) hq)) (kC (TV u hu2 j k hj ⟨hk,c1⟩))
     exact e4 _ (hu2.fit k J) (hle k ⟨hk,c1⟩) fun j hj=>hle _ (hdr j hj).2)
    (fun j hj=>by
     have:=(hCi j).2 hj
     rw[ht]at this
     rcases cT.1 this with q|q
     .have:j=k:=J
      subst this;exact e2
     have:=e3 (j:Int) (by rw[ht];exact q)
     rwa[dW]at this)
    (fun a b ha hb hab=>by
     unfold LR at hab⊢
     by_cases ca:bV ji a<k+1<;>by_cases cb:bV ji b<k+1
     .rw[aR ca,aR cb]at hab
      by_cases q:bV ji a=k
      .exact .inl ⟨⟨J,q⟩,⟨J,J⟩⟩
      refine .inr ⟨fun x=>q x.2,fun x=>q J,?_⟩
      rw[aR J,aR J];omega
     .rw[aR ca,aP cb]at hab;omega
     .rw[aP ca,aR cb]at hab;omega
     rw[aP ca,aP cb]at hab
     refine .inr ⟨fun x=>J,fun x=>J,?_⟩
     rw[aP J,aP J];omega)
    (fun j hj hp=>hp.elim (fun q=> .inl (Jk q)) .inr)
    (fun j hj y hy hc hne=>by
     have hjm:=hq _ (dG (d:=cI) (l:=qs) (k:=(j:Int)) J J)
     rw[dW]at hjm
     rw[Fg hjm.2]at hy
     obtain⟨z,hz,rfl⟩:=fI.1 hy
     have hz0:0<=z:=by
      have:=hz
      rw[hjm.2]at this
      obtain⟨a,ha,ho,h0,rfl⟩:=rF.1 this
      exact h0
     refine .inl (Xq hu.hu (k:=z.toNat) (j:=(j:Int)) ?_ h.j.ck.wq h.j.ck.li (fun k hk=>by have:=hks k hk;have:=hu.len;omega) (by rw[hu.len];exact lv) ((hCi _).2 hc) hne)
     rw[hu.is _ J]
     refine Bx.2 ⟨J,?_⟩
     rw[dW,fF hz0];exact hz)
   refine⟨⟨ck,?_⟩,fun j hj hjk=> ?_⟩
   .rw[e0]
    simp only[xu]
    rw[agN (by rw[lv];exact hks),agO (by rw[ly];exact hks),LP hCi,LQ hCi]
    exact h1
   rw[e0]
   simp only
   rw[rE J fun q hq=>(hks q hq).1,aP fun q=>by have:=(hCi j).1 q;omega]
   exact h.ws j hj J
  have c2:(bG ji (k:Int)).length=1:=Jv c2
  refine no (fun a b ha hb hab=> ?_) (QT (k:=(k:Int)) J fun q=>q.2 c2)
  have one:∀a,a<n->bV ji a=k->a=k:=fun a ha e=>by
   have:=(hCi a).2 ⟨ha,e⟩
   rw[ht]at this c2
   have:t=[]:=by cases t with
    |nil=>rfl
    |cons _ _=>simp at c2
   subst this
   have:=fG.1 ‹(a:Int)∈[(k:Int)]›
   omega
  unfold LR at hab⊢
  by_cases ca:bV ji a<k+1<;>by_cases cb:bV ji b<k+1
  .rw[aR ca,aR cb]at hab
   by_cases q:bV ji a=k
   .have:=one a ha q;have:=one b hb J;subst this;subst a;rfl
   rw[aR J,aR J];omega
  .rw[aR ca,aP cb]at hab;omega
  .rw[aP ca,aR cb]at hab;omega
  rw[aP ca,aP cb]at hab
  rw[aP J,aP J];omega
 refine no (fun a b ha hb hab=> ?_) (QT (k:=(k:Int)) J fun q=>c1 (by have:=q.1;rw[l7 J,dW]at this;omega))
 have one:∀a,a<n->bV ji a≠k:=fun a ha e=>c1 (by have:=(hr.ok a J).2;rw[e]at this;exact this)
 have:=one a ha;have:=one b hb
 unfold LR at hab⊢
 by_cases ca:bV ji a<k+1<;>by_cases cb:bV ji b<k+1
 .rw[aR ca,aR cb]at hab
  rw[aR J,aR J];omega
 .rw[aR ca,aP cb]at hab;omega
 .rw[aP ca,aR cb]at hab;omega
 rw[aP ca,aP cb]at hab
 rw[aP J,aP J];omega
theorem CoA.all(hq:TU an aS n qs)(hu:Nk us qs n)(hr:RgN an aS qs ji n w0 rs)(h:CoA an aS qs cl ji n X w0 0 c):∀k,k<=n->CoA an aS qs cl ji n X w0 k (coA ji us an aS rs c k)
 |0,_=>h
 |k+1,hk=>by
  have e:=Bs (cl:=ji) (us:=us) (an:=an) (aS:=aS) (rs:=rs) (s:=c) (k:=(k:Int)) J
  rw[show((k:Int)+1).toNat=k+1 by omega,dW]at e
  rw[e];exact(CoA.all hq hu hr h k J).step hq hu hr J
theorem TU.pl(h:TU an aS n qs):TA n qs:=fun q hq hp=>by
 obtain⟨h1,h2⟩:=h q hq
 obtain⟨a,b,_,_⟩:=C1 h1 h2 hp
 refine⟨?_,a,b.2⟩
 obtain⟨y,hy,ho,h0⟩:=Ff hp
 have:=h1.var y (by rw[hy];simp) ho
 rw[h2,hy];unfold dc;simp[ho,this.1,sr]
theorem ak9{cs:List (List Nat)}{ai:List El}{aX:List (BitVec 64)}{P:Nat->Prop}(hq:TU an aS n qs)(hc:Ac (bg cs))(hl:(bg cs).length=n)
  (si:lN (jS an aS n) (fun i=>s9 an n (qs.getD i cI)) (fun i=>(qs.getD i cI).why) qs.length (M8 an n qs) (vQ ai) (wQ aX) (bV (bg cs)) P):
  MgK (bg cs) (bg (rO cs (oe (bX n qs)) n)) (oe (bX n qs)) n n/\RgN an aS qs (bg (rO cs (oe (bX n qs)) n)) n aX (Br (bg (rO cs (oe (bX n qs)) n)) aX n qs):=by
 have gl:(bX n qs).length=n:=D8 n qs
 have hp:=hq.pl
 have hpv:∀q∈qs,DH q=true->0<=wY q:=fun q h1 h2=>(hp q h1 h2).2.1.1
 have oin:∀v,v<n->0<=(oe (bX n qs)).getD v 0/\(oe (bX n qs)).getD v 0<n:=fun v hv=>by
  obtain⟨j,e,hj⟩:=(Q0 (gl:=bX n qs) (v:=v) J).is
  have:=ak7 hj.1 J
  omega
 have mg:=agX hc hl oin n (eI _)
 have l2:(bg (rO cs (oe (bX n qs)) n)).length=n:=by rw[vM];exact hl
 have hR:=ak6 (ws:=aX) mg.ok l2 hp
 refine⟨mg,?_⟩
 generalize bg (rO cs (oe (bX n qs)) n)=ji at*
 have both:∀a b,a<n->b<n->sq (uE (bX n qs)) a b->bV ji a=bV ji b:=fun a b ha hb h=>by
  rw[mg.af7 a ha,mg.af7 b hb,agY J J h]
 have arc:∀a b,uE (bX n qs) a b->∃q∈qs,DH q=true/\wY q=a/\q.to.var=b:=fun a b h=>au0 hpv h
 have ash:∀a b,uE (bX n qs) a b->(jS an aS n).sh a=(jS an aS n).sh b:=fun a b h=>by
  obtain⟨q,h1,h2,h3,h4⟩:=arc a b h
  have:=(C1 (hq q h1).1 (hq q h1).2 h2).2.2.2
  rwa[h3,h4,dW,dW]at this
 have wsh:∀a b,jr (uE (bX n qs)) a b->(jS an aS n).sh a=(jS an aS n).sh b:=fun a b h=>by
  induction h with
  |refl=>rfl
  |step _ e ih=>exact ih.trans (ash _ _ e)
 have ZG:∀a b:Nat,a<n->(b:Int)=(oe (bX n qs)).getD a 0->sq (uE (bX n qs)) a b:=fun a b ha e=>by
  obtain⟨j,ej,hj⟩:=(Q0 (gl:=bX n qs) (v:=a) J).is
  have:b=j:=J
  subst this;exact hj
 refine⟨mg.ok,l2,fun v hv hvv=> ?_,fun a b ha hb e=> ?_,hR.1⟩
 .have aBT:∀(z:Nat) (Q:sD->Prop),pC (jS an aS n) Q fun j=>j=z:=fun z Q u hu i k hi hk=>by
   rw[hi,hk];exact fun _ _=>rfl
  refine agM fun i k hi hk=> ?_
  have w:=mg.way i k hi.1 hk.1 (by rw[hi.2,hk.2])
  have step:∀a b,C5 (bg cs) (oe (bX n qs)) n n a b->bV ji a=v->jr (fun a b=>(∃q,M8 an n qs ((Br ji aX n qs).getD v 0) q/\Ea (jS an aS n) q a b)\/∃D:Nat->Prop,D a/\D b/\pC (jS an aS n) (M8 an n qs ((Br ji aX n qs).getD v 0)) D) a b/\bV ji b=v:=by
   have kn:∀a b,a<n->b<n->sq (uE (bX n qs)) a b->bV ji a=v->jr (fun a b=>(∃q,M8 an n qs ((Br ji aX n qs).getD v 0) q/\Ea (jS an aS n) q a b)\/∃D:Nat->Prop,D a/\D b/\pC (jS an aS n) (M8 an n qs ((Br ji aX n qs).getD v 0)) D) a b:=fun a b ha hb hab hav=>
    agZ (E:=uE (bX n qs)) (fun y c e hy hc'=>by
     by_cases q:y=c
     .subst q;exact .inr ⟨fun j=>j=y,rfl,rfl,aBT y _⟩
     obtain⟨q2,h1,h2,h3,h4⟩:=arc y c e
     have yn:y<n:=by have:=e.1;omega
     have cn:c<n:=by have:=e.2.1;omega
     have cy:bV ji y=v:=by rw[<-both a y ha yn hy];exact hav
     have cc:bV ji c=v:=by rw[<-both a c ha cn hc'];exact hav
     have hw:=hR.2 q2 h1 h2 J (by rw[h3,h4,dW,dW,cy,cc])
     rw[h4,dW,cc]at hw
     have hpq:=(C1 (hq q2 h1).1 (hq q2 h1).2 h2).2.2.1
     rw[h3,h4,dW,dW]at hpq
     obtain⟨i,hi,ei⟩:=qR h1
     exact .inl ⟨_,⟨i,hi,by rw[getD_eq hi,ei],by rw[getD_eq hi,ei];exact hw⟩,hpq⟩) hab.1 hab.2
   rintro a b ⟨ha,hb,hs|⟨_,hs⟩|⟨_,hs⟩⟩ hav
   .have e2:=mg.more a b ha hb hs
    refine⟨.one (.inr ⟨fun j=>j<n/\bV (bg cs) j=bV (bg cs) a,⟨ha,rfl⟩,⟨hb,hs.symm⟩,?_⟩),by rw[<-e2];exact hav⟩
    have:=(si.ring a a ha ha O).2.2.2
    have hs2:=hR.1 a ha
    rw[hav]at hs2
    exact this.more fun q hq=>si.ZC _ _ _ hs2 hq
   .have U2:=ZG a b ha hs
    exact⟨kn a b ha hb U2 hav,by rw[<-both a b ha hb U2];exact hav⟩
   have U2:=ZG b a hb hs
   have hb3:sq (uE (bX n qs)) a b:=⟨U2.2,U2.1⟩
   exact⟨kn a b ha hb hb3 hav,by rw[<-both a b ha hb hb3];exact hav⟩
  have key:∀b,jr (C5 (bg cs) (oe (bX n qs)) n n) i b->jr (fun a b=>(∃q,M8 an n qs ((Br ji aX n qs).getD v 0) q/\Ea (jS an aS n) q a b)\/∃D:Nat->Prop,D a/\D b/\pC (jS an aS n) (M8 an n qs ((Br ji aX n qs).getD v 0)) D) i b/\bV ji b=v:=fun b wb=>by
   induction wb with
   |refl=>exact⟨.refl _,hi.2⟩
   |step _ e ih=>obtain⟨s1,s2⟩:=step _ _ e ih.2;exact⟨ih.1.trans s1,s2⟩
  exact(key k w).1
 have w:=mg.way a b ha hb e
 induction w with
 |refl=>rfl
 |step w1 e1 ih=>
  obtain⟨h1,h2,h3⟩:=e1
  have e3:∀x y,x<n->y<n->C5 (bg cs) (oe (bX n qs)) n n x y->bV ji x=bV ji y/\(jS an aS n).sh x=(jS an aS n).sh y:=fun x y hx hy hs=>by
   rcases hs.2.2 with q|⟨_,q⟩|⟨_,q⟩
   .exact⟨mg.more x y hx hy q,(si.ring x y hx hy q).1⟩
   .have:=ZG x y hx q
    exact⟨both x y hx hy this,wsh _ _ this.1⟩
   have:=ZG y x hy q
   exact⟨(both y x hy hx this).symm,wsh _ _ this.2⟩
  have:=e3 _ _ h1 h2 ⟨h1,h2,h3⟩
  exact(ih h1 (by rw[this.1];exact e)).trans this.2
end
structure xz(s:NP):Prop where
 ok:Fa s
 fit:TU s.an s.aS s.ai.length s.qs
 us:s.us=(List.range s.ai.length).map (wJ s.qs)
 cl:Ac (bg s.cs)
 si:lN (jS s.an s.aS s.ai.length) (fun i=>s9 s.an s.ai.length (s.qs.getD i cI)) (fun i=>(s.qs.getD i cI).why) s.qs.length (M8 s.an s.ai.length s.qs) (vQ s.ai) (wQ s.aX) (bV (bg s.cs)) fun i=>s.sn<=i
def muM(s:NP):Nat:=s.qs.length+((s.qs.map fun q=>fY (xQ s.an q)*q.vars.length).sum).toNat
theorem Nk.of{us:List jx}{qs:List de}{n:Nat}(h:o5 us=(List.range n).map (wJ qs)):Nk us qs n:=by
 have hl:us.length=n:=by have:=aJ List.length h;rwa[fQ,fx,Py]at this
 refine⟨hl,fun k hk=> ?_⟩
 rw[<-Bu,h,ep,ph,xV hk];rfl
noncomputable abbrev om(us:List jx)(s:NP):CoO:=rG s.cs us s.an s.aS s.qs s.sn s.ai.length ⟨s.ai,s.aX,[],List.replicate s.qs.length false⟩
abbrev JN(s:NP)(cl:List Nat):xx->Prop:=Xr s.an s.aS s.qs (bV cl) s.ai.length fun _=>False
theorem Q1{s:NP}(h:xz s){us:List jx}(wI:o5 us=s.us):Xr s.an s.aS s.qs (bV (bg (om us s).cs)) s.ai.length (fun i=>s.sn<=(i:Int)) (om us s).s/\Ac (bg (om us s).cs)/\(bg (om us s).cs).length=s.ai.length/\(om us s).j<=s.ai.length:=by
 have hu:=Nk.of (wI.trans h.us)
 have h0:OL s.qs.length s.ai.length s.ai.length ⟨s.ai,s.aX,[],List.replicate s.qs.length false⟩:=⟨rfl,h.ok.RQ,aA,G9 _⟩
 have j0:Xr s.an s.aS s.qs (bV (bg s.cs)) s.ai.length (fun i=>s.sn<=(i:Int)) ⟨s.ai,s.aX,[],List.replicate s.qs.length false⟩:=⟨h0,h.si.agL fun i _ q=> .inr q⟩
 unfold om rG
 split
 .obtain⟨mg,rg⟩:=ak9 h.fit h.cl h.ok.n8 h.si
  simp only
  split
  .rename_i hle
   have e:=Xs h.cl mg.ok (by rw[vM]) (fun a b ha hb=>mg.more a b (by have:=h.ok.n8;omega) (by have:=h.ok.n8;omega)) hle
   have n8:=h.ok.n8
   refine⟨⟨j0.ck,j0.si.ag0 fun i k hi hk q=> ?_⟩,mg.ok,rg.len,mo _⟩
   have hi':i<s.ai.length:=hi;have hk':k<s.ai.length:=hk
   rw[e i J,e k J]at q;exact q
  have n8:=h.ok.n8
  have c0:CoA s.an s.aS s.qs (bg s.cs) (bg (rO s.cs (oe (bX s.ai.length s.qs)) s.ai.length)) s.ai.length (fun i=>s.sn<=(i:Int)) s.aX 0 ⟨s.ai,s.aX,[],List.replicate s.qs.length false⟩:=⟨⟨j0.ck,j0.si.ag0 fun i k hi hk q=>by
   unfold LR at q
   rw[aP J,aP J]at q;omega⟩,fun j _ _=>rfl⟩
  have ca:=CoA.all h.fit hu rg c0 s.ai.length (eI _)
  refine⟨⟨ca.j.ck,ca.j.si.ag0 fun i k hi hk q=> ?_⟩,mg.ok,rg.len,by have:=ak8 mg.ok s.ai.length;rw[rg.len]at this;exact this⟩
  have hi':i<s.ai.length:=hi;have hk':k<s.ai.length:=hk
  have h1:=mg.ok i (by rw[rg.len];exact hi');have h2:=mg.ok k (by rw[rg.len];exact hk')
  unfold LR
  rw[aR J,aR J,q]
 exact⟨j0,h.cl,h.ok.n8,mo _⟩
theorem TZ{s:NP}(h:xz s){us:List jx}(wI:o5 us=s.us):JN s (bg (om us s).cs) (TL (om us s).s s.sn s.qs.length)/\muN s.an s.aS s.ai.length s.qs (TL (om us s).s s.sn s.qs.length)<=muM s:=by
 obtain⟨j,_,_,_⟩:=Q1 h wI
 have ck:=aqh (c:=(om us s).s) j.ck (sn:=s.sn) h.ok.UZ.1
 have hup:∀i∈upI s.sn ((s.qs.length:Int)-s.sn).toNat,0<=i/\i<((om us s).s.wi.length:Int):=fun i hi=>by
  obtain⟨x,hx,rfl⟩:=fI.1 hi
  have:=pn.1 hx
  have:=j.ck.li
  have:=h.ok.UZ
  omega
 have hs:=h.ok.UZ
 refine⟨⟨ck,j.si.agL fun i hi hp=> .inl ?_⟩,?_⟩
 .rcases hp with q|q
  .exact Fe q
  refine QW j.ck.wq hup ?_
  exact fI.2 ⟨((i:Int)-s.sn).toNat,pn.2 J,J⟩
 have h1:=ck.wq.len
 have h2:=ck.li
 have h3:og (jS s.an s.aS s.ai.length) (QV s.an s.ai.length s.qs) (vQ (om us s).s.ai) s.ai.length<=((s.qs.map (s9 s.an s.ai.length)).map fun q=>fY q.sh*q.vars.length).sum:=Tz fun q hq x hx=>by
  obtain⟨p,hp,rfl⟩:=fI.1 hq
  exact agl (h.fit p hp).1 hx
 rw[JQ]at h3
 have e:s.qs.map ((fun q:sD=>fY q.sh*(q.vars.length:Int))∘s9 s.an s.ai.length)=s.qs.map fun q=>fY (xQ s.an q)*(q.vars.length:Int):=FT fun q hq=>by
  show fY (xQ s.an q)*((s9 s.an s.ai.length q).vars.length:Int)=_
  rw[Fg (h.fit q hq).2,fx]
 rw[e]at h3
 unfold muN muM
 show(TL (om us s).s s.sn s.qs.length).wl.length+(og _ _ (vQ (om us s).s.ai) _).toNat<=_
 omega
theorem H6{sh:Sh}{l:List dI}{v v':List El}(h:∀x∈l,x.op=1->0<=x.n/\x.n<v.length/\x.n<v'.length/\v.getD x.n.toNat dh=v'.getD x.n.toNat dh):fJ sh l v=fJ sh l v':=by
 have hs:∀(m:List dI),(∀x∈m,x∈l)->∀o,m.foldl (zE sh v) o=m.foldl (zE sh v') o:=by
  intro m
  induction m with
  |nil=>intros;rfl
  |cons x m ih=>
   intro hm o
   have e:zE sh v o x=zE sh v' o x:=by
    unfold zE
    by_cases c:x.op=1
    .obtain⟨h0,h1,h2,h3⟩:=h x (hm x aA) c
     simp only[c,tU,aR (show 0<=x.n/\x.n<v.length from⟨h0,h1⟩),aR (show 0<=x.n/\x.n<v'.length from⟨h0,h2⟩),h3]
    simp only[c,ww]
   rw[nW,nW,e]
   exact ih (fun y hy=>hm y (fq _ hy)) _
 have e:gS sh v l l.length=gS sh v' l l.length:=hs _ (fun x hx=>AA hx) _
 unfold fJ
 rw[e]
theorem LS{sh:Sh}{code:List dI}{to:gZ}{n n':Nat}(h:∀x∈code,x.op=1->0<=x.n/\x.n<n)(hn:n<=n'):Bq n' sh code to=Bq n sh code to:=by
 unfold Bq
 congr 1
 funext u
 congr 1
 refine H6 fun x hx ho=> ?_
 obtain⟨h0,h1⟩:=h x hx ho
 refine⟨h0,by simp;omega,by simp;omega,?_⟩
 rw[pD J,pD J]
theorem ag1{an anp:List oP}{aS:List Int}{n n':Nat}{q:de}(h:Xf (jS an aS n) (xQ an q) q.code q.to)(hn:n<=n')(hs:xQ anp q=xQ an q):s9 anp n' q=s9 an n q:=by
 unfold s9
 rw[hs]
 exact LS (fun x hx ho=>by have:=h.var x hx ho;exact⟨this.1,this.2.1⟩) hn
section
variable{S S':Sys}{Q Q':Nat->sD}{y y':Nat->BitVec 64}{N:Nat}{M M':Qm}{v v':Va}{ws ws':Nat->BitVec 64}{rep ag2:Nat->Nat}{P:Nat->Prop}{q:sD}
theorem s8.wide(h:s8 S q)(hn:S.n<=S'.n)(hs:∀i,i<S.n->S'.sh i=S.sh i):s8 S' q:=by
 have hf:∀u,o6 S' u->o6 S u:=fun u hu i hi=>by rw[<-hs i hi];exact hu i J
 exact⟨fun u hu=>h.fit u (hf u hu),fun i hi=>by have:=h.lt i hi;omega,fun u w hu hw hl=>h.OG u w (hf u hu) (hf w hw) hl,fun k hk=>by
  obtain⟨h1,h2⟩:=h.to k hk
  exact⟨J,by rw[hs k h1];exact h2⟩⟩
theorem o6.less{u:Va}(h:o6 S' u)(hn:S.n<=S'.n)(hs:∀i,i<S.n->S'.sh i=S.sh i):o6 S u:=fun i hi=>by rw[<-hs i hi];exact h i J
theorem lN.wide(h:lN S Q y N M v ws rep P)(hn:S.n<=S'.n)(hs:∀i,i<S.n->S'.sh i=S.sh i)(hv:∀i,i<S.n->v' i=v i)(hw:∀i,i<S.n->ws' i=ws i)
  (hb:∀i,S.n<=i->i<S'.n->qL (S'.sh i)=true/\v' i=gQ (S'.sh i) eM) (hr:∀i k,i<S'.n->k<S'.n->ag2 i=ag2 k->i=k\/(i<S.n/\k<S.n/\rep i=rep k)):lN S' Q y N M v' ws' ag2 P:=by
 have aqo:∀(R:sD->Prop) u,tC S' R u->tC S R u:=fun R u hu=>⟨hu.fit.less hn hs,hu.hold⟩
 refine⟨fun i hi=>⟨(h.ok i hi).1.wide hn hs,(h.ok i hi).2⟩,h.all,h.ZC,⟨fun i hi=> ?_,fun u hu i hi=> ?_⟩,fun k hk u hu=> ?_,fun i k hi hk e=> ?_,fun i hi hp=> ?_⟩
 .by_cases c:i<S.n
  .rw[hs i c,hv i c];exact h.low.fit i c
  obtain⟨h1,h2⟩:=hb i J hi
  rw[h2];exact(N7 h1).1
 .by_cases c:i<S.n
  .rw[hv i c];exact h.low.low u (aqo _ u hu) i c
  obtain⟨h1,h2⟩:=hb i J hi
  rw[h2];exact(N7 h1).2 _ (hu.fit i hi)
 .by_cases c:k<S.n
  .rw[hv k c]
   rw[hw k c]at hu
   exact h.why k c u (aqo _ u hu)
  obtain⟨h1,h2⟩:=hb k J hk
  rw[h2];exact(N7 h1).2 _ (hu.fit k hk)
 .have ring:pC S' (M (ws' i)) fun j=>j<S'.n/\ag2 j=ag2 i:=fun u hu a b ha U2=>by
   have h1:=hr a i ha.1 hi ha.2
   have h2:=hr b i U2.1 hi U2.2
   by_cases c:i<S.n
   .rw[hw i c]at hu
    refine(h.ring i i c c O).2.2.2 u (aqo _ u hu) a b ?_ ?_
    .rcases h1 with e1|e1
     .rw[e1];exact⟨c,rfl⟩
     exact⟨e1.1,e1.2.2⟩
    rcases h2 with e1|e1
    .rw[e1];exact⟨c,rfl⟩
    exact⟨e1.1,e1.2.2⟩
   have ea:a=i:=h1.resolve_right fun q=>c q.2.1
   have eb:b=i:=h2.resolve_right fun q=>c q.2.1
   rw[ea,eb];exact fun _ _=>rfl
  rcases hr i k hi hk e with e1|⟨c1,c2,e1⟩
  .subst e1;exact⟨rfl,fun _ _=>rfl,rfl,ring⟩
  obtain⟨r1,r2,r3,_⟩:=h.ring i k c1 c2 e1
  exact⟨by rw[hs i c1,hs k c2];exact r1,by rw[hv i c1,hv k c2];exact r2,by rw[hw i c1,hw k c2];exact r3,ring⟩
 have ho:=(h.ok i hi).1
 have hold:=h.hold i hi hp
 have fv:o6 S v':=fun j hj=>by rw[hv j hj];exact h.low.fit j hj
 have e1:cK ((Q i).ev v') ((Q i).ev v)=true:=ho.OG _ _ fv h.low.fit fun j hj=>by rw[hv j (ho.lt j hj)];exact jy _
 unfold eO sD.rhs at hold⊢
 cases ht:(Q i).to with
 |none=>rw[ht]at hold;exact eP e1 hold
 |some x=>
  rw[ht]at hold
  show cK _ (v' x)=true
  rw[hv x (ho.to x ht).1]
  exact eP e1 hold
theorem lN.congr(h:lN S Q y N M v ws rep P)(hq:∀i,i<N->Q' i=Q i/\y' i=y i):lN S Q' y' N M v ws rep P:=by
 refine⟨fun i hi=>by rw[(hq i hi).1,(hq i hi).2];exact h.ok i hi,fun a q ha=> ?_,h.ZC,⟨h.low.fit,fun u hu=>h.low.low u ⟨hu.fit,fun q ⟨i,hi,e⟩=>hu.hold q ⟨i,hi,by rw[(hq i hi).1];exact e⟩⟩⟩,h.why,h.ring,fun i hi hp=>by rw[(hq i hi).1];exact h.hold i hi hp⟩
 obtain⟨i,hi,e⟩:=h.all a q ha
 exact⟨i,hi,by rw[(hq i hi).1];exact e⟩
end
theorem Fa.var{s:NP}(h:Fa s){l:Int}(hl:0<=l/\l<s.an.length){e:El}(hn:s.ai.length<1000):Fa (pK s l e):=by
 have hln:(bg (QG s.cs)).length=(bg s.cs).length+1:=by
  show((bg s.cs)++[(bg s.cs).length]).length=_
  simp
 have h1:=h.RQ;have h2:=h.M7;have h3:=h.n8;have h4:=h.ON;have h5:=h.hlt
 refine⟨by simp[pK,h1],by simp[pK,h2],by show(bg (QG s.cs)).length=_;rw[hln];simp[pK,h3],by simp[pK];omega,h.UZ,h.hqn,fun q hq=> ?_,by simp[pK,h5],fun k hk=> ?_,fun k hk=> ?_⟩
 .have:=h.hqo q hq
  refine⟨this.aS,this.code,?_,fun hp=> ?_,fun v hv=> ?_⟩
  .have:=this.to;simp[pK];omega
  .have:=this.pl hp;simp[pK];omega
  have:=this.vars v hv;simp[pK];omega
 .show 0<=(s.aS++[l]).getD k 0/\(s.aS++[l]).getD k 0<s.an.length
  rw[LM]
  by_cases c:k<s.aS.length
  .rw[aR c];exact h.hlr k c
  have:k=s.aS.length:=by simp[pK]at hk;omega
  rw[aP c,aR this];exact hl
 show((s.us++[[]]).getD k []).length<=1000/\∀i∈(s.us++[[]]).getD k [],0<=i/\i<(s.qs.length:Int)
 rw[LM]
 by_cases c:k<s.us.length
 .rw[aR c];exact h.wI k c
 rw[aP c]
 split<;>exact⟨aA,fun i hi=>by cases hi⟩
theorem xz.var{s:NP}(h:xz s){l:Int}(hl:0<=l/\l<s.an.length)(hs:qL (s.an.getD l.toNat oF).p.sh=true){e:El}(he:e=gQ (s.an.getD l.toNat oF).p.sh eM)(hn:s.ai.length<1000):xz (pK s l e):=by
 have hok:=h.ok
 have h1:=hok.RQ;have h3:=hok.n8;have h5:=hok.hlt
 have el:(pK s l e).ai.length=s.ai.length+1:=by simp[pK]
 have hsh:∀i,i<s.ai.length->(jS s.an (s.aS++[l]) (s.ai.length+1)).sh i=(jS s.an s.aS s.ai.length).sh i:=fun i hi=>by
  show(s.an.getD ((s.aS++[l]).getD i 0).toNat oF).p.sh=(s.an.getD (s.aS.getD i 0).toNat oF).p.sh
  rw[m5 J]
 have hq:∀i,s9 s.an (s.ai.length+1) (s.qs.getD i cI)=s9 s.an s.ai.length (s.qs.getD i cI):=fun i=>by
  by_cases c:i<s.qs.length
  .have hm:=dG (d:=cI) (l:=s.qs) (k:=(i:Int)) J J
   rw[dW]at hm
   exact ag1 (h.fit _ hm).1 J O
  rw[ep,mJ J]
  exact LS (fun x hx=>by cases hx) J
 have hM:M8 s.an (s.ai.length+1) s.qs=M8 s.an s.ai.length s.qs:=by
  funext a q
  unfold M8
  exact propext ⟨fun⟨i,h1,h2,h3⟩=>⟨i,h1,by rw[<-hq];exact h2,h3⟩,fun⟨i,h1,h2,h3⟩=>⟨i,h1,by rw[hq];exact h2,h3⟩⟩
 refine⟨hok.var hl hn,fun q hq2=> ?_,?_,?_,?_⟩
 .obtain⟨hf,hv⟩:=h.fit q hq2
  rw[el]
  refine⟨⟨hf.right,fun x hx ho=> ?_,hf.con,hf.to0,fun h0=> ?_⟩,hv⟩
  .obtain⟨a,b,c⟩:=hf.var x hx ho
   have b':x.n<(s.ai.length:Int):=b
   exact⟨a,by show x.n<((s.ai.length+1:Nat):Int);omega,(hsh _ J).trans c⟩
  obtain⟨b,c⟩:=hf.to1 h0
  have b':q.to.var<(s.ai.length:Int):=b
  exact⟨by show q.to.var<((s.ai.length+1:Nat):Int);omega,(hsh _ J).trans c⟩
 .rw[el,wj,gp]
  show s.us++[[]]=_
  rw[h.us]
  have:wJ s.qs s.ai.length=[]:=by
   refine Pj.2 fun i hi=> ?_
   obtain⟨h1,h2⟩:=Bx.1 hi
   have:=(hok.hqo _ (dG (d:=cI) (l:=s.qs) h1.1 h1.2)).vars _ h2
   omega
  show _=(List.range s.ai.length).map (wJ s.qs)++[wJ s.qs s.ai.length]
  rw[this]
 .intro i hi
  show bV (bg s.cs++[(bg s.cs).length]) i<=i/\bV (bg s.cs++[(bg s.cs).length]) (bV (bg s.cs++[(bg s.cs).length]) i)=bV (bg s.cs++[(bg s.cs).length]) i
  have hi2:i<(bg s.cs).length+1:=by
   have:(bg (QG s.cs)).length=(bg s.cs).length+1:=by show((bg s.cs)++[(bg s.cs).length]).length=_;simp
   exact this▸hi
  by_cases c:i<(bg s.cs).length
  .have q:=h.cl i c
   have e1:bV (bg s.cs++[(bg s.cs).length]) i=bV (bg s.cs) i:=m5 c
   have e2:bV (bg s.cs++[(bg s.cs).length]) (bV (bg s.cs) i)=bV (bg s.cs) (bV (bg s.cs) i):=m5 J
   rw[e1,e2];exact q
  have e1:bV (bg s.cs++[(bg s.cs).length]) i=i:=(rH J).trans J
  rw[e1,e1];exact⟨eI _,rfl⟩
 rw[el]
 show lN (jS s.an (s.aS++[l]) (s.ai.length+1)) (fun i=>s9 s.an (s.ai.length+1) (s.qs.getD i cI)) (fun i=>(s.qs.getD i cI).why) s.qs.length (M8 s.an (s.ai.length+1) s.qs) (vQ (s.ai++[e])) (wQ (s.aX++[0])) (bV (bg s.cs++[(bg s.cs).length])) fun i=>s.sn<=i
 rw[hM,show(fun i=>s9 s.an (s.ai.length+1) (s.qs.getD i cI))=fun i=>s9 s.an s.ai.length (s.qs.getD i cI)from funext hq]
 refine h.si.wide (S':=jS s.an (s.aS++[l]) (s.ai.length+1)) (Nat.le_succ _) hsh (fun i hi=>m5 hi) (fun i hi=>m5 (by have:i<s.ai.length:=hi;omega)) (fun i h1 h2=> ?_) fun i k hi hk he=> ?_
 .have h1':s.ai.length<=i:=h1
  have h2':i<s.ai.length+1:=h2
  have e1:(jS s.an (s.aS++[l]) (s.ai.length+1)).sh i=(s.an.getD l.toNat oF).p.sh:=by
   show(s.an.getD ((s.aS++[l]).getD i 0).toNat oF).p.sh=_
   rw[rH J]
  rw[e1]
  exact⟨hs,(rH J).trans he⟩
 have hi':i<s.ai.length+1:=hi
 have hk':k<s.ai.length+1:=hk
 have hc:∀j,j<s.ai.length->bV (bg s.cs++[(bg s.cs).length]) j=bV (bg s.cs) j/\bV (bg s.cs) j<=j:=fun j hj=>⟨m5 J,(h.cl j J).1⟩
 have hd:bV (bg s.cs++[(bg s.cs).length]) s.ai.length=s.ai.length:=(rH J).trans J
 by_cases c1:i<s.ai.length<;>by_cases c2:k<s.ai.length
 .rw[(hc i c1).1,(hc k c2).1]at he
  exact .inr ⟨c1,c2,he⟩
 .have:k=s.ai.length:=J
  subst this
  rw[(hc i c1).1,hd]at he
  have:=(hc i c1).2;omega
 .have:i=s.ai.length:=J
  subst this
  rw[(hc k c2).1,hd]at he
  have:=(hc k c2).2;omega
 exact .inl J
theorem abT{qs:List de}{q:de}{k:Nat}:wJ (qs++[q]) k=wJ qs k++if(k:Int)∈q.vars then[(qs.length:Int)]else[]:=by
 unfold wJ
 rw[cV,gI,wj,Pv,gp]
 congr 1
 .congr 1
  refine List.filter_congr fun i hi=> ?_
  rw[m5 (pn.1 hi)]
 rw[AE,rH O]
 by_cases c:(k:Int)∈q.vars
 .rw[aR J2,aR c];rfl
 rw[aP J2,aP c];rfl
structure LU(s:NP)(q:de):Prop where
 aS:0<=q.aS/\q.aS<s.an.length
 code:q.code.length<=1000
 fit:Xf (jS s.an s.aS s.ai.length) (xQ s.an q) q.code q.to
 vars:q.vars=dc q.code
theorem LU.vin{s:NP}{q:de}(h:LU s q):∀v∈q.vars,0<=v/\v<s.ai.length:=fun v hv=>by
 rw[h.vars]at hv
 obtain⟨x,hx,ho,h0,rfl⟩:=rF.1 hv
 have:x.n<(s.ai.length:Int):=(h.fit.var x hx ho).2.1
 exact⟨h0,this⟩
theorem LU.nd{s:NP}{q:de}(h:LU s q):q.vars.Nodup:=by
 rw[h.vars]
 exact(LD q.code).imp fun h=>by omega
theorem LU.qok{s:NP}{q:de}(h:LU s q):QOk s.an.length s.ai.length q:=by
 refine⟨h.aS,h.code,?_,fun hp=> ?_,h.vin⟩
 .by_cases c:q.to.var<0
  .omega
  have:q.to.var<(s.ai.length:Int):=(h.fit.to1 J).1
  exact this
 obtain⟨a,b,_,_⟩:=C1 h.fit h.vars hp
 obtain⟨y,hy,ho,h0⟩:=Ff hp
 have:=h.fit.var y (by rw[hy];simp) ho
 refine⟨?_,a⟩
 rw[h.vars,hy];unfold dc;simp[ho,this.1,sr]
theorem alb{qs:List de}{k:Nat}:(wJ qs k).length<=qs.length/\∀i∈wJ qs k,0<=i/\i<(qs.length:Int):=by grind[Bx,wJ]
theorem ZH{s:NP}{q:de}(hu:s.us=(List.range s.ai.length).map (wJ s.qs))(hf:LU s q):(Ab s q).us=(List.range s.ai.length).map (wJ (s.qs++[q])):=by
 have hl:s.us.length=s.ai.length:=by rw[hu];simp
 apply sF
 intro k
 show(q.vars.foldl (D9 (s.qs.length:Int)) s.us)[k]?=_
 by_cases c:k<s.ai.length
 .have e1:=Bw (i:=(s.qs.length:Int)) (u:=s.us) (k:=k) hf.nd fun v hv=>by have:=hf.vin v hv;omega
  have lk:k<(q.vars.foldl (D9 (s.qs.length:Int)) s.us).length:=by rw[oH];omega
  rw[getD_eq lk]at e1
  rw[dO lk,e1,ph,xV c,pT,abT]
  congr 2
  rw[hu,ep,ph,xV c];rfl
 rw[mJ (by rw[oH];omega),mJ hG]
theorem Fa.add{s:NP}(h:Fa s)(hu:s.us=(List.range s.ai.length).map (wJ s.qs)){q:de}(hf:LU s q)(hn:s.qs.length<1000):Fa (Ab s q):=by
 have h2:=h.M7
 refine⟨h.RQ,by show(q.vars.foldl _ s.us).length=_;rw[oH];exact h2,h.n8,h.ON,?_,by simp[Ab];omega,fun p hp=> ?_,h.hlt,h.hlr,fun k hk=> ?_⟩
 .have:=h.UZ;simp[Ab];omega
 .rcases eF.1 hp with c|c
  .exact h.hqo p c
  rw[fG.1 c];exact hf.qok
 have Cp:k<s.us.length:=by have:k<(q.vars.foldl (D9 (s.qs.length:Int)) s.us).length:=hk;rwa[oH]at this
 rw[ZH hu hf,ep,ph,xV J,pT,FV]
 have:=alb (qs:=s.qs++[q]) (k:=k)
 rw[cV,gI]at this
 exact⟨J,fun i hi=>by have:=this.2 i hi;show 0<=i/\i<((s.qs++[q]).length:Int);rw[cV,gI];exact this⟩
theorem xz.add{s:NP}(h:xz s){q:de}(hf:LU s q)(hn:s.qs.length<1000):xz (Ab s q):=by
 have hu:=ZH h.us hf
 have e0:s9 s.an s.ai.length ((s.qs++[q]).getD s.qs.length cI)=s9 s.an s.ai.length q:=by rw[rH O]
 have e1:∀i,i<s.qs.length->(s.qs++[q]).getD i cI=s.qs.getD i cI:=fun i hi=>m5 hi
 have hsub:∀a p,M8 s.an s.ai.length s.qs a p->M8 s.an s.ai.length (s.qs++[q]) a p:=fun a p ⟨i,hi,h1,h2⟩=>⟨i,by simp;omega,by rw[e1 i hi];exact h1,by rw[e1 i hi];exact h2⟩
 refine⟨h.ok.add h.us hf hn,fun p hp=> ?_,hu,h.cl,?_⟩
 .rcases eF.1 hp with c|c
  .exact h.fit p c
  rw[fG.1 c];exact⟨hf.fit,hf.vars⟩
 show lN (jS s.an s.aS s.ai.length) (fun i=>s9 s.an s.ai.length ((s.qs++[q]).getD i cI)) (fun i=>((s.qs++[q]).getD i cI).why) (s.qs++[q]).length (M8 s.an s.ai.length (s.qs++[q])) (vQ s.ai) (wQ s.aX) (bV (bg s.cs)) fun i=>s.sn<=i
 have hl:(s.qs++[q]).length=s.qs.length+1:=aA
 rw[hl]
 refine lN.more (h.si.congr fun i hi=>⟨by rw[e1 i hi],by rw[e1 i hi]⟩) ?_ ?_ ?_ hsub (fun a p ⟨i,hi,h1,h2⟩=>⟨i,by rw[hl]at hi;exact hi,h1⟩) h.si.why (by have:=h.ok.UZ;omega) fun i hi hp=>hp
 .show s8 _ (s9 s.an s.ai.length ((s.qs++[q]).getD s.qs.length cI))
  rw[e0];exact agj hf.fit
 .show M8 _ _ _ ((s.qs++[q]).getD s.qs.length cI).why (s9 s.an s.ai.length ((s.qs++[q]).getD s.qs.length cI))
  exact⟨s.qs.length,by rw[hl];omega,rfl,rZ _⟩
 exact fun a b p hab ⟨i,hi,h1,h2⟩=>⟨i,hi,h1,lf h2 hab⟩
theorem xz.start{s:NP}(h1:s.aS=[])(h2:s.ai=[])(h3:s.aX=[])(h4:s.us=[])(h5:s.qs=[])(h6:s.sn=0)(h7:s.cs=[[]]):xz s:=by
 obtain⟨an,aS,ai,aX,us,qs,sn,cs,sk,wy,wr⟩:=s
 simp only at h1 h2 h3 h4 h5 h6 h7
 subst h1;subst h2;subst h3;subst h4;subst h5;subst h6;subst h7
 refine⟨⟨rfl,rfl,rfl,aA,aA,aA,(fun q hq=>by cases hq),rfl,(fun k hk=>by cases hk),fun k hk=>by cases hk⟩,(fun q hq=>by cases hq),rfl,(fun i hi=>by cases hi),?_⟩
 have hM:∀a q,¬M8 an 0 [] a q:=fun a q ⟨i,hi,_⟩=>by cases hi
 exact(lN.start (P:=fun i=>(0:Int)<=i) hM (fun i hi=>by cases hi) (fun i hi=>by cases hi)).ag0 fun i k hi=>by cases hi
def Ad(S:Sys)(Q:sD->Prop):Prop:=∃u,o6 S u/\∀q,Q q->eO q u
theorem Ad.sol{S:Sys}{Q:sD->Prop}{u:Va}(h:o6 S u)(hq:∀q,Q q->eO q u):tC S Q u:=⟨h,fun q h1 _=>hq q h1⟩
theorem Ad.less{S:Sys}{Q Q':sD->Prop}(h:Ad S Q')(hq:∀q,Q q->Q' q):Ad S Q:=by
 obtain⟨u,h1,h2⟩:=h
 exact⟨u,h1,fun q M9=>h2 q (hq q M9)⟩
def QN(s:NP):sD->Prop:=fun q=>∃i,i<s.qs.length/\q=s9 s.an s.ai.length (s.qs.getD i cI)
abbrev SN(s:NP):Sys:=jS s.an s.aS s.ai.length
abbrev MN(s:NP):Qm:=M8 s.an s.ai.length s.qs
def aBV(s:NP)(c:xx)(cs:List (List Nat)):NP:=NP.mk s.an s.aS c.ai c.aX s.us s.qs s.qs.length cs s.sk s.wy s.wr
theorem xz.settled{s:NP}(h:xz s){us:List jx}(wI:o5 us=s.us){c:xx}(hj:JN s (bg (om us s).cs) c)(hw:c.wl=[]):
  xz (aBV s c (om us s).cs)/\sS (SN s) (QN s) (vQ c.ai)/\(∀q,QN s q->eO q (vQ c.ai))/\D6 (SN s) (MN s) (vQ c.ai) (wQ c.aX):=by
 obtain⟨_,j1,j2,_⟩:=Q1 h wI
 have si:=hj.si.agL (P':=fun _=>False) fun i hi q=>by
  rcases q with q|q
  .rw[hw]at q;cases q
  exact q
 have hv:c.ai.length=s.ai.length:=hj.ck.lv
 have hy:c.aX.length=s.ai.length:=hj.ck.ly
 have hk:=h.ok
 refine⟨⟨⟨hy.trans hv.symm,hk.M7.trans hv.symm,j2.trans hv.symm,by show c.ai.length<=1000;rw[hv];exact hk.ON,⟨Int.natCast_nonneg _,kY _⟩,hk.hqn,?_,hk.hlt.trans hv.symm,hk.hlr,hk.wI⟩,?_,?_,j1,?_⟩,si.done.1,fun q ⟨i,hi,e⟩=>e▸si.done.2 i hi,si.why⟩
 .show Xl s.an.length c.ai.length s.qs;rw[hv];exact hk.hqo
 .show TU s.an s.aS c.ai.length s.qs;rw[hv];exact h.fit
 .show s.us=(List.range c.ai.length).map (wJ s.qs);rw[hv];exact h.us
 show lN (jS s.an s.aS c.ai.length) (fun i=>s9 s.an c.ai.length (s.qs.getD i cI)) (fun i=>(s.qs.getD i cI).why) s.qs.length (M8 s.an c.ai.length s.qs) (vQ c.ai) (wQ c.aX) (bV (bg (om us s).cs)) fun i=>(s.qs.length:Int)<=i
 rw[hv]
 exact si.agL fun i hi q=>q.elim
theorem xz.stuck{s:NP}(h:xz s){us:List jx}(wI:o5 us=s.us){c:xx}(hj:JN s (bg (om us s).cs) c){wy RR:BitVec 64}(hr:SpR (bg (om us s).cs) us s.an s.qs c false wy RR):¬Ad (SN s) (QN s)/\¬Ad (SN s) (MN s RR):=by
 rcases hr with⟨q,_⟩|⟨_,x,wl,hw,hl,hy⟩
 .cases q
 obtain⟨ai,aX,cwl,wi⟩:=c
 simp only at hw hl hy
 subst hw
 obtain⟨hx,ck⟩:=hj.ck.take
 have WD:x.toNat<s.qs.length:=J
 obtain⟨hf,hvs⟩:=h.fit _ (dG (d:=cI) hx.1 hx.2)
 have lv:ai.length=s.ai.length:=hj.ck.lv
 have si:=hj.si
 simp only at si
 have key:(s.qs.getD x.toNat cI).to.var<0/\¬eO (s9 s.an s.ai.length (s.qs.getD x.toNat cI)) (vQ ai)/\RR=Nj (s.qs.getD x.toNat cI).why (wQ aX) (s9 s.an s.ai.length (s.qs.getD x.toNat cI)).vars:=by
  rw[Fg hvs,<-QX,QY lv]
  generalize s.qs.getD x.toNat cI=q at*
  unfold mE at hl hy
  split at hl
  .cases hl
  rename_i c1
  rw[aP c1]at hy
  split at hl
  .rename_i c2
   rw[aR c2]at hy
   split at hl
   .cases hl
   rename_i c3
   rw[aP c3]at hy
   exact⟨c2,by rw[aR c2];exact c3,hy⟩
  split at hl
  .cases hl
  .cases hl
 obtain⟨k1,k2,k3⟩:=key
 have hto:(s9 s.an s.ai.length (s.qs.getD x.toNat cI)).to=none:=by rw[anl,aR k1]
 obtain⟨s1,s2⟩:=si.stuck WD hto k2
 have hmem:=(si.ok x.toNat WD).2
 rw[<-k3]at s2
 refine⟨fun⟨u,h1,h2⟩=>s1 u (Ad.sol h1 h2) (h2 _ ⟨_,WD,rfl⟩),fun⟨u,h1,h2⟩=>s2 u (Ad.sol h1 h2) (h2 _ ?_)⟩
 rw[k3]
 exact si.ZC _ _ _ (E6 _ _ _).1 hmem
def Eb(s:kx)(v:List El):Va:=fun i=>if(s.vars.getD i eY).kind=1 then v.getD i dh else gQ (jA s (s.vars.getD i eY).aS) eM
def Er(s:kx)(x:fU):sD:=Bq s.vars.length (jA s x.aS) x.code x.to
def QP(s:kx)(l:List fU):sD->Prop:=fun q=>∃x∈l,x.op=8/\q=Er s x
section
variable{s:kx}{l:List fU}{v:List El}{x:fU}
theorem Jl(h:jQ s x=true)(ho:x.op=8):(0<=x.aS/\x.aS<s.an.length)/\codeOk s x.aS x.code=true/\j3 s x.aS x.to=true:=by grind[jQ]
theorem ZI{v kd aS:Int}(h:oZ s v kd aS=true):(0<=v/\v<s.vars.length)/\(s.vars.getD v.toNat eY).kind=kd/\(s.vars.getD v.toNat eY).aS=aS:=by grind[oZ]
theorem alc(h:codeOk s x.aS x.code=true){y:dI}(hy:y∈x.code)(ho:y.op=1):(0<=y.n/\y.n<s.vars.length)/\(s.vars.getD y.n.toNat eY).kind=1:=by
 simp only[codeOk,cm]at h
 have h2:=iq.1 h.1 y hy
 simp only[r7,cm,oR,AB,vi]at h2
 have:=ZI (h2.1.resolve_left fun q=>q ho)
 exact⟨this.1,this.2.1⟩
theorem aqp(h:jQ s x=true)(ho:x.op=8):s8 (jR s) (Er s x):=by
 obtain⟨h1,h2,h3⟩:=Jl h ho
 exact agj (aqc h2 h3)
theorem Xt(h:jQ s x=true)(ho:x.op=8)(hv:v.length=s.vars.length):(Er s x).ev (Eb s v)=(fJ (jA s x.aS) x.code v).1:=by
 obtain⟨h1,h2,h3⟩:=Jl h ho
 show(fJ _ _ ((List.range s.vars.length).map (Eb s v))).1=_
 congr 1
 refine H6 fun y hy hp=> ?_
 obtain⟨⟨a,b⟩,c⟩:=alc h2 hy hp
 refine⟨a,by simp;omega,J,?_⟩
 rw[pD J]
 unfold Eb
 rw[aR c]
theorem ag3(h:jQ s x=true)(ho:x.op=8)(ht:0<=x.to.var):x.to.var<s.vars.length/\(Er s x).to=some x.to.var.toNat/\Eb s v x.to.var.toNat=v.getD x.to.var.toNat dh/\(s.vars.getD x.to.var.toNat eY).kind=1:=by
 obtain⟨h1,h2,h3⟩:=Jl h ho
 rw[j3,aP J]at h3
 obtain⟨a,b,c⟩:=ZI h3
 refine⟨a.2,?_,by unfold Eb;rw[aR b],b⟩
 show(if x.to.var<0 then none else some x.to.var.toNat)=_
 rw[aP J]
theorem aqq(h:jQ s x=true)(ho:x.op=8)(ht:0<=x.to.var)(hv:v.length=s.vars.length):eO (Er s x) (Eb s v)↔cK (fJ (jA s x.aS) x.code v).1 (v.getD x.to.var.toNat dh)=true:=by
 obtain⟨_,h2,h3,_⟩:=ag3 (v:=v) h ho ht
 unfold eO sD.rhs
 rw[Xt h ho hv,h2]
 simp only
 rw[h3]
theorem aqr(h:jQ s x=true)(ho:x.op=8)(ht:x.to.var<0)(hv:v.length=s.vars.length):(Er s x).to=none/\(eO (Er s x) (Eb s v)↔cK (fJ (jA s x.aS) x.code v).1 x.to.c=true):=by
 have h2:(Er s x).to=none:=by
  show(if x.to.var<0 then none else some x.to.var.toNat)=_
  rw[aR ht]
 refine⟨h2,?_⟩
 unfold eO sD.rhs
 rw[Xt h ho hv,h2];exact AV
structure Xu(s:kx)(l:List fU)(v:List El):Prop where
 len:v.length=s.vars.length
 low:Bp (jR s) (QP s l) (Eb s v)
theorem Bz(h:gy s=true):(s.an.length<=16/\s.vars.length<=64)/\(∀x∈s.an,qL x.yz.sh=true)/\∀v∈s.vars,(v.kind=1\/v.kind=2)/\0<=v.aS/\v.aS<s.an.length:=by grind[gy,La,HM]
theorem aqs(h:gy s=true):∀i,i<(jR s).n->qL ((jR s).sh i)=true:=by grind[gy,jR,qL,Bz,eY,getD_eq,jA,dG]
theorem Xu.start(h:gy s=true):Xu s l (aps s.sc).labels:=by
 refine⟨by show(s.vars.map (aa8 s.sc)).length=_;simp,Zu (aqs h) fun i hi=> ?_⟩
 have hi':i<s.vars.length:=hi
 obtain⟨_,h2,h3⟩:=Bz h
 have hv:=h3 (s.vars.getD i eY) (by rw[getD_eq hi'];exact pS hi')
 show Eb s (s.vars.map (aa8 s.sc)) i=gQ (jA s (s.vars.getD i eY).aS) eM
 unfold Eb
 by_cases c:(s.vars.getD i eY).kind=1
 .rw[aR c,ep,ph,dO hi']
  rw[getD_eq hi']at c hv⊢
  show aa8 s.sc s.vars[i]=_
  unfold aa8
  rw[aR ⟨c,hv.2.1,by show _<((s.an.map fun l=>l.yz.sh).length:Int);rw[fx];exact hv.2.2⟩]
  congr 1
  show(s.an.map fun l=>l.yz.sh).getD _ _=(s.an.getD _ mX).yz.sh
  have:(s.vars[i]).aS.toNat<s.an.length:=by have:=hv.2;omega
  rw[ep,ph,dO this,ep,dO this];rfl
 rw[aP c]
def aqt(s:kx)(v:List El):Nat:=(og (jR s) (fun _=>1) (Eb s v) s.vars.length).toNat
theorem ag4{k:Nat}{e:El}(hk:k<v.length)(hc:(s.vars.getD k eY).kind=1):Eb s (v.set k e)=E5 (Eb s v) k e:=by
 funext i
 show(if(s.vars.getD i eY).kind=1 then(v.set k e).getD i dh else gQ (jA s (s.vars.getD i eY).aS) eM)=if i=k then e else if(s.vars.getD i eY).kind=1 then v.getD i dh else gQ (jA s (s.vars.getD i eY).aS) eM
 by_cases c:i=k
 .subst c
  rw[aR hc,aR O,ep,tO,aR O,aR hk];rfl
 rw[aP c]
 by_cases d:(s.vars.getD i eY).kind=1
 .rw[aR d,aR d,ep,tO,aP fun q=>c q.symm,<-ep]
 rw[aP d,aP d]
theorem Xu.raise(h:Xu s l v)(hm:x∈l)(ha:jQ s x=true)(ho:x.op=8)(ht:0<=x.to.var)(hn:¬cK (fJ (jA s x.aS) x.code v).1 (v.getD x.to.var.toNat dh)=true):
  Xu s l (v.set x.to.var.toNat (fh (jA s x.aS) (v.getD x.to.var.toNat dh) (fJ (jA s x.aS) x.code v).1))/\aqt s (v.set x.to.var.toNat (fh (jA s x.aS) (v.getD x.to.var.toNat dh) (fJ (jA s x.aS) x.code v).1))<aqt s v:=by
 obtain⟨t1,t2,t3,t4⟩:=ag3 (v:=v) ha ho ht
 have hk:x.to.var.toNat<v.length:=by have:=h.len;omega
 have io:=aqp ha ho
 have e1:=Xt (v:=v) ha ho h.len
 have es:=ag4 (e:=fh (jA s x.aS) (v.getD x.to.var.toNat dh) (fJ (jA s x.aS) x.code v).1) hk t4
 have hl:=h.low.raise ⟨x,hm,ho,rfl⟩ io t2
 rw[e1,t3]at hl
 have hks:=io.to _ t2
 have fk:=h.low.fit _ hks.1
 rw[hks.2,t3]at fk
 have fe:=io.fit _ h.low.fit
 rw[e1]at fe
 have fj:=GJ fk fe
 have up:=WB fk fe
 have hp:=OH (S:=jR s) (U:=fun _=>1) (v:=Eb s v) (k:=x.to.var.toNat) (e:=fh (jA s x.aS) (v.getD x.to.var.toNat dh) (fJ (jA s x.aS) x.code v).1) h.low.fit hks.1 (by rw[hks.2];exact fj) (by rw[t3];exact up.1) fun q=>hn (by
  rw[t3]at q
  exact eP up.2 (kC q))
 refine⟨⟨by rw[mD];exact h.len,by rw[es];exact hl⟩,?_⟩
 have h0:=Ji (U:=fun _=>1) hl.fit s.vars.length (eI _)
 unfold aqt
 rw[es]
 have Oq:(jR s).n=s.vars.length:=rfl
 have ej:(Er s x).sh=jA s x.aS:=rfl
 rw[ej]at h0
 rw[Oq]at hp
 omega
theorem Xu.done(h:Xu s l v)(ha:∀x∈l,jQ s x=true)(hh:∀x∈l,x.op=8->0<=x.to.var->cK (fJ (jA s x.aS) x.code v).1 (v.getD x.to.var.toNat dh)=true):sS (jR s) (QP s l) (Eb s v):=by
 refine⟨h.low,?_⟩
 rintro q ⟨x,hx,ho,rfl⟩ hq
 by_cases c:0<=x.to.var
 .exact(aqq (ha x hx) ho c h.len).2 (hh x hx ho c)
 exact absurd (aqr (ha x hx) ho J h.len).1 hq
theorem LV{p:mY}(h:lJ p=true):gy p.s=true/\∀x∈p.cz,jQ p.s x=true:=by grind[lJ]
end
structure xA(s:NP):Prop where
 ns:xz s
 lw:∀x∈s.an,qL x.p.sh=true/\x.low=gQ x.p.sh eM
 nv:s.ai.length<=128
 nq:s.qs.length<=64
 wy:s.sk=false->s.wy=0
theorem ZJ{α:Type}{F:α->Int}{b:Int}:∀{l:List α},(∀x∈l,F x<=b)->(l.map F).sum<=b*l.length
 |[],_=>by simp
 |a::l,h=>by
  have h1:=h a aA
  have h2:=ZJ (l:=l) fun x hx=>h x (fq _ hx)
  rw[kV,Dz,eE,show((l.length+1:Nat):Int)=(l.length:Int)+1 by omega,Int.mul_add,Int.mul_one]
  omega
theorem xA.mu{s:NP}(h:xA s):muM s<=4200000:=by
 have hq:∀q∈s.qs,fY (xQ s.an q)*(q.vars.length:Int)<=65536:=fun q hq=>by
  have hl:=h.ns.ok.hqo q hq
  have hs:qL (xQ s.an q)=true:=(h.lw _ (dG hl.aS.1 hl.aS.2)).1
  have h1:0<=fY (xQ s.an q)/\fY (xQ s.an q)<=512:=by
   rw[fY,aR hs];exact ajX hs J J
  have h2:q.vars.length<=s.ai.length:=by
   have hn:(q.vars.map Int.toNat).Nodup:=by
    have e:q.vars.Nodup:=by rw[(h.ns.fit q hq).2];exact TR q.code
    refine List.Pairwise.map _ ?_ (ac7 (S:=fun a b=>a.toNat≠b.toNat) ?_ e)
    .exact fun a b q=>q
    intro a b ha hb hab c
    have:=hl.vars a ha;have:=hl.vars b hb
    exact hab J
   have h3:(q.vars.map Int.toNat).length<=(List.range s.ai.length).length:=hn.length_le_of_subset fun x hx=>by
    obtain⟨a,ha,rfl⟩:=fI.1 hx
    have:=hl.vars a ha
    exact pn.2 J
   simpa using h3
  have h4:=h.nv
  have h5:fY (xQ s.an q)*(q.vars.length:Int)<=512*128:=Int.mul_le_mul h1.2 J J J
  omega
 have h1:=ZJ hq
 have h2:=h.nq
 unfold muM
 omega
structure aqu(s s':NP)(ok:Bool):Prop where
 net:xA s'
 an:s'.an=s.an
 aS:s'.aS=s.aS
 qs:s'.qs=s.qs
 len:s'.ai.length=s.ai.length
 sk:s'.sk= !ok
 wr:s'.wr=s.wr
 yes:ok=true->sS (SN s) (QN s) (vQ s'.ai)/\(∀q,QN s q->eO q (vQ s'.ai))/\D6 (SN s) (MN s) (vQ s'.ai) (wQ s'.aX)
 no:ok=false->s'.ai=s.ai/\s'.aX=s.aX/\¬Ad (SN s) (QN s)/\¬Ad (SN s) (MN s s'.wy)
theorem xz.skw{s:NP}(h:xz s)(b:Bool)(y:BitVec 64):xz {s with sk:=b,wy:=y}:=⟨⟨h.ok.RQ,h.ok.M7,h.ok.n8,h.ok.ON,h.ok.UZ,h.ok.hqn,h.ok.hqo,h.ok.hlt,h.ok.hlr,h.ok.wI⟩,h.fit,h.us,h.cl,h.si⟩
theorem aqv{s:NP}(h:xA s)(hk:s.sk=false){us:List jx}(wI:o5 us=s.us){c:xx}{ok:Bool}{RR:BitVec 64}(hr:SpR (bg (om us s).cs) us s.an s.qs c ok s.wy RR)(hj:JN s (bg (om us s).cs) c):
  aqu s (if ok then(NP.mk s.an s.aS c.ai c.aX s.us s.qs s.qs.length (om us s).cs s.sk s.wy s.wr)else{s with sk:=true,wy:=RR}) ok:=by
 cases ok with
 |true=>
  rcases hr with⟨_,hw,_⟩|⟨q,_⟩
  .obtain⟨h1,h2,h3,h4⟩:=h.ns.settled wI hj hw
   have hv:c.ai.length=s.ai.length:=hj.ck.lv
   exact⟨⟨h1,h.lw,by show c.ai.length<=128;rw[hv];exact h.nv,h.nq,h.wy⟩,rfl,rfl,rfl,hv,hk,rfl,fun _=>⟨h2,h3,h4⟩,fun q=>by cases q⟩
  .cases q
 |false=>
  obtain⟨h1,h2⟩:=h.ns.stuck wI hj hr
  exact⟨⟨h.ns.skw true RR,h.lw,h.nv,h.nq,fun q=>by cases q⟩,rfl,rfl,rfl,rfl,rfl,rfl,fun q=>(by cases q),fun _=>⟨rfl,rfl,h1,h2⟩⟩
theorem abU{s:NP}(h:xA s){us:List jx}(wI:o5 us=s.us):∀cM eo Iz lT x,JN s (bg (om us s).cs) ⟨cM,eo,x::Iz,lT⟩->∀r,mE (bg (om us s).cs) us (xQ s.an (s.qs.getD x.toNat cI)) (s.qs.getD x.toNat cI) cM eo Iz (lT.set x.toNat false) s.wy=r->r.ok=true->JN s (bg (om us s).cs) ⟨r.ai,r.aX,r.wl,r.wi⟩/\muN s.an s.aS s.ai.length s.qs ⟨r.ai,r.aX,r.wl,r.wi⟩<muN s.an s.aS s.ai.length s.qs ⟨cM,eo,x::Iz,lT⟩:=fun cM eo Iz lT x hj r hr hok=>by
 obtain⟨_,_,hl,_⟩:=Q1 h.ns wI
 exact hj.look h.ns.fit (Nk.of (wI.trans h.ns.us)) hl hr hok
theorem xA.var{s:NP}(h:xA s){l:Int}(hl:0<=l/\l<s.an.length)(hn:s.ai.length<128):xA (pK s l (s.an.getD l.toNat oF).low):=by
 have hx:=h.lw _ (dG (d:=oF) hl.1 hl.2)
 exact⟨h.ns.var hl hx.1 hx.2 J,h.lw,by simp[pK];omega,h.nq,h.wy⟩
theorem xA.add{s:NP}(h:xA s){q:de}(hf:LU s q)(hn:s.qs.length<64):xA (Ab s q):=⟨h.ns.add hf J,h.lw,h.nv,by simp[Ab];omega,h.wy⟩
structure qh(p:kx)(s:NP):Prop where
 lt:s.an.map (fun x=>x.p.sh)=p.an.map fun l=>l.yz.sh
 la:s.aS=p.vars.map nn.aS
 nv:s.ai.length=p.vars.length
section
variable{p:kx}{s s':NP}{l:List fU}{x:fU}
theorem qh.sh(h:qh p s)(k:Nat):(s.an.getD k oF).p.sh=(p.an.getD k mX).yz.sh:=by
 have e:=aJ (fun m:List Sh=>m.getD k Cy.sh) h.lt
 simp only[ep,ph]at e⊢
 cases h1:s.an[k]?<;>cases h2:p.an[k]?<;>simp only[h1,h2,Option.map_none,pT,Option.getD_none,FV]at e⊢<;>first|rfl|exact e
theorem qh.len(h:qh p s):s.an.length=p.an.length:=by have:=aJ List.length h.lt;simpa using this
theorem qh.aS(h:qh p s)(i:Nat):s.aS.getD i 0=(p.vars.getD i eY).aS:=by grind[qh,eY]
theorem qh.sys(h:qh p s):SN s=jR p:=by
 show(⟨s.ai.length,fun i=>(s.an.getD (s.aS.getD i 0).toNat oF).p.sh⟩:Sys)=⟨p.vars.length,fun i=>(p.an.getD (p.vars.getD i eY).aS.toNat mX).yz.sh⟩
 rw[h.nv]
 congr 1
 funext i
 rw[h.aS,h.sh]
theorem qh.same(h:qh p s)(h1:s'.an=s.an)(h2:s'.aS=s.aS)(h3:s'.ai.length=s.ai.length):qh p s':=by grind[qh]
theorem qh.of(h:qh p s)(hl:s.aS.length=s.ai.length)(v k:Int):ofB s.aS v k=true↔(0<=v/\v<p.vars.length)/\(p.vars.getD v.toNat eY).aS=k:=by grind[qh,ofB,eY]
theorem qh.fit(h:qh p s)(hl:s.aS.length=s.ai.length)(ha:jQ p x=true)(ho:x.op=8):sU s.an s.aS x.aS x.code x.to=true:=by
 obtain⟨h1,h2,h3⟩:=Jl ha ho
 have e:=h.sh x.aS.toNat
 simp only[codeOk,cm]at h2
 rw[LL (q:=x.code.length) (by rw[h.len];exact h1) h2.2 J fun j a b=> ?_]
 .unfold C4
  unfold j3 at h3
  by_cases c:x.to.var<0
  .rw[aR c]at h3⊢
   show cf (s.an.getD x.aS.toNat oF).p.sh _=true
   rw[e];exact h3
  rw[aP c]at h3⊢
  have:=ZI h3
  exact(h.of hl _ _).2 ⟨this.1,this.2.2⟩
 have hi:=iq.1 h2.1 _ (dG (d:=cg) a b)
 simp only[r7,cm,oR,AB,vi]at hi
 refine Bv ?_ ?_
 .rcases hi.1 with q|q
  .exact .inl q
  have:=ZI q
  have:=(h.of hl _ _).2 ⟨this.1,this.2.2⟩
  simp only[ofB,dP]at this
  exact .inr this
 rcases hi.2 with q|q
 .exact .inl q
 refine .inr ?_
 show cf (s.an.getD x.aS.toNat oF).p.sh _=true
 rw[e];exact q
end
theorem ale{s:NP}(hok:Fa s){k:Int}{l:List dI}{t:gZ}(h:sU s.an s.aS k l t=true)(hl:l.length<=1000)(cv vv:Value)(y:BitVec 64):LU s ⟨k,cv,l,t,y,vv,dc l⟩:=by
 simp only[sU,cm,dP]at h
 obtain⟨⟨h1,h2⟩,h3,h4⟩:=h
 have of_:∀v,ofB s.aS v k=true->0<=v/\v<(s.ai.length:Int)/\(jS s.an s.aS s.ai.length).sh v.toNat=shL s.an k:=fun v hv=>by
  simp only[ofB,dP]at hv
  refine⟨hv.1,by have:=hok.hlt;omega,?_⟩
  show(s.an.getD (s.aS.getD v.toNat 0).toNat oF).p.sh=_
  rw[hv.2.2];rfl
 refine⟨h1,hl,⟨h2,fun x hx ho=> ?_,fun x hx ho=> ?_,fun h0=> ?_,fun h0=> ?_⟩,rfl⟩
 .have hi:=iq.1 h3 x hx
  simp only[Aa,cm,oR,AB,vi]at hi
  exact of_ _ (hi.1.resolve_left fun q=>q ho)
 .have hi:=iq.1 h3 x hx
  simp only[Aa,cm,oR,AB,vi]at hi
  exact hi.2.resolve_left fun q=>q ho
 .rw[C4,aR h0]at h4;exact h4
 have h0':¬t.var<0:=by have:0<=t.var:=h0;omega
 rw[C4,aP h0']at h4
 have:=of_ _ h4
 exact⟨this.2.1,this.2.2⟩
def LW(i:Nat)(x:fU):Int×List dI×gZ×BitVec 64:=(x.aS,x.code,x.to,(1#64)<<<i)
def Hf(q:de):Int×List dI×gZ×BitVec 64:=(q.aS,q.code,q.to,q.why)
def zG(l:List fU)(k:Nat):List (Int×List dI×gZ×BitVec 64):=((List.range k).filter fun i=>decide ((l.getD i iJ).op=8)).map fun i=>LW i (l.getD i iJ)
theorem OR{l:List fU}{k:Nat}:zG l (k+1)=zG l k++if(l.getD k iJ).op=8 then[LW k (l.getD k iJ)]else[]:=by grind[zG,List.range_succ,iJ]
section
variable{p:kx}{s:NP}{l:List fU}{k:Nat}
theorem au2(h:qh p s)(hq:s.qs.map Hf=zG l k)(hk:k<=l.length):QN s=QP p (l.take k):=by
 funext q
 refine propext ⟨fun⟨i,hi,e⟩=> ?_,fun⟨x,hx,ho,e⟩=> ?_⟩
 .have hm:Hf (s.qs.getD i cI)∈zG l k:=by rw[<-hq,getD_eq hi];exact fI.2 ⟨_,pS hi,rfl⟩
  obtain⟨j,hj,e2⟩:=fI.1 hm
  simp only[wk,pn,dP]at hj
  refine⟨l.getD j iJ,?_,hj.2,?_⟩
  .rw[getD_eq J]
   exact FN.2 ⟨j,J,rfl⟩
  rw[e]
  simp only[LW,Hf,VT]at e2
  obtain⟨a,b,c,_⟩:=e2
  unfold s9 xQ Er jA
  rw[h.nv,h.sh,<-a,<-b,<-c]
 obtain⟨j,hj,e1⟩:=FN.1 hx
 have hj2:j<k/\j<l.length:=J
 have hm:LW j x∈zG l k:=fI.2 ⟨j,by simp only[wk,pn,dP];exact⟨hj2.1,by rw[getD_eq hj2.2,e1];exact ho⟩,by rw[getD_eq hj2.2,e1]⟩
 rw[<-hq]at hm
 obtain⟨r,hr,e2⟩:=fI.1 hm
 obtain⟨i,hi,e3⟩:=xU.1 hr
 refine⟨i,hi,?_⟩
 rw[e,getD_eq hi,e3]
 simp only[LW,Hf,VT]at e2
 obtain⟨a,b,c,_⟩:=e2
 unfold s9 xQ Er jA
 rw[h.nv,h.sh,a,b,c]
end
theorem aqw{cs:List (List Nat)}{us S6:List jx}{an:List oP}{aS:List Int}{qs:List de}{sn:Int}{n:Nat}{c:xx}:(rG cs us an aS qs sn n c).cs=(rG cs S6 an aS qs sn n c).cs:=by grind[rG]
def usB(s:NP):List jx:=s.us.map fun l=>⟨.slice none 0 0,l⟩
abbrev JB(s:NP):xx->Prop:=JN s (bg (om (usB s) s).cs)
abbrev muB(s:NP):xx->Nat:=muN s.an s.aS s.ai.length s.qs
theorem ZK{s:NP}{us:List jx}:(om us s).cs=(om (usB s) s).cs:=aqw
theorem au3{s:NP}(h:xA s):∀us:List jx,o5 us=s.us->JB s (TL (om us s).s s.sn s.qs.length)/\muB s (TL (om us s).s s.sn s.qs.length)<=muM s/\∀cM eo Iz lT x,JB s ⟨cM,eo,x::Iz,lT⟩->∀r,mE (bg (om us s).cs) us (s.an.getD (s.qs.getD x.toNat cI).aS.toNat oF).p.sh (s.qs.getD x.toNat cI) cM eo Iz (lT.set x.toNat false) s.wy=r->r.ok=true->JB s ⟨r.ai,r.aX,r.wl,r.wi⟩/\muB s ⟨r.ai,r.aX,r.wl,r.wi⟩<muB s ⟨cM,eo,x::Iz,lT⟩:=fun us wI=>by
 have hs:=TZ h.ns wI
 have hl:=abU h wI
 unfold JB
 rw[<-ZK (us:=us)]
 exact⟨hs.1,hs.2,hl⟩
theorem ag5{s:NP}(h:xA s){us:List jx}(wI:o5 us=s.us){c:xx}{ok:Bool}{RR:BitVec 64}{a:Nat}(hr:SpR (bg (om us s).cs) us s.an s.qs c ok s.wy RR)(ha:a+muB s c<=muB s (TL (om us s).s s.sn s.qs.length)+(if ok then 0 else 1)):a<=muM s:=by
 have hm:=(TZ h.ns wI).2
 rcases hr with⟨e,_⟩|⟨e,x,wl,hw,_⟩
 .subst e;simp only[tU]at ha;unfold muB at ha;omega
 subst e
 have:1<=muB s c:=by unfold muB muN;rw[hw];simp only[eE];omega
 simp only[sZ,ww]at ha
 unfold muB at ha this;omega
theorem Lt{ids:List Nat}{tl OS:List (Nat×Rl)}:∀{d:Wr},d.DP ids tl->d.DP ids (tl++OS)
 | .base p tb,h=>⟨h.1,fun i hi q hq=>dy _ (h.2 i hi q hq)⟩
 | .wrap m d,h=>⟨h.1,Lt h.2⟩
theorem U1.more{T:M6}{K:Vu}{ids:List Nat}{tl OS:List (Nat×Rl)}{x:oP}(h:U1 T K ids tl x):U1 T K ids (tl++OS) x:=⟨h.ops,Lt h.DP,h.sh,h.yz,h.dep⟩
theorem ag6{p:kx}(h:gy p=true):∀l∈p.an,l.yz.aT.length<=1000/\∀f∈l.yz.aT,f.names.length<=1000:=fun l hl=>by
 have hs:=yw ((Bz h).2.1 l hl)
 refine⟨by have:=sN l.yz;omega,fun f hf=> ?_⟩
 have:=(uq (hs.2.2 f.fc (fI.2 ⟨f,hf,rfl⟩))).1.2
 have e:f.fc.names=f.names:=rfl
 rw[e]at this;omega
structure IA(p:kx)(x:Value)(j:Nat)(s:NP):Prop where
 lt:s.an.map (fun x=>x.p.sh)=p.an.map fun l=>l.yz.sh
 la:s.aS=(p.vars.take j).map nn.aS
 nv:s.ai.length=j
 nw:xA s
 qs:s.qs=[]
 sk:s.sk=false
 wr:s.wr=x
structure LX(p:kx)(j:Nat)(ls:List oP):Prop where
 lt:ls.map (fun x=>x.p.sh)=(p.an.take j).map fun l=>l.yz.sh
 lw:∀x∈ls,qL x.p.sh=true/\x.low=gQ x.p.sh eM
def npL(ls:List oP)(x:Value):NP:=NP.mk ls [] [] [] [] [] 0 [[]] false 0 x
theorem LX.len{p:kx}{j:Nat}{ls:List oP}(h:LX p j ls)(hj:j<=p.an.length):ls.length=j:=by
 have:=aJ List.length h.lt
 rw[fx,fx,eD]at this;omega
theorem LX.next{p:kx}{k:Int}{ls:List oP}(h:LX p k.toNat ls)(h0:0<=k)(h1:k<p.an.length){x:oP}(hs:qL (p.an.getD k.toNat mX).yz.sh=true)(hx:x.p.sh=(p.an.getD k.toNat mX).yz.sh)(hw:x.low=gQ (p.an.getD k.toNat mX).yz.sh eM):LX p (k+1).toNat (ls++[x]):=by
 have hk:k.toNat<p.an.length:=J
 refine⟨?_,fun y hy=> ?_⟩
 .rw[show(k+1).toNat=k.toNat+1 by omega,HL hk,gp,gp,h.lt]
  simp only[kV,AL]
  rw[hx,getD_eq hk]
 rcases eF.1 hy with q|q
 .exact h.lw y q
 rw[fG.1 q,hx];exact⟨hs,hw⟩
theorem LX.fin{p:kx}{k:Int}{ls:List oP}{x:Value}(h:LX p k.toNat ls)(h0:0<=k)(h1:¬k<p.an.length):IA p x 0 (npL ls x):=
 ⟨by show ls.map _=_;rw[h.lt,iD J],by simp[npL],rfl,⟨xz.start O O O O O O O,h.lw,by simp[npL],by simp[npL],fun _=>rfl⟩,rfl,rfl,rfl⟩
theorem IA.next{p:kx}{x:Value}{j:Int}{s:NP}(h:IA p x j.toNat s)(h0:0<=j)(h1:j<p.vars.length)(hv:p.vars.length<=64)(hl:0<=(p.vars.getD j.toNat eY).aS/\(p.vars.getD j.toNat eY).aS<s.an.length):IA p x (j+1).toNat (pK s (p.vars.getD j.toNat eY).aS (s.an.getD (p.vars.getD j.toNat eY).aS.toNat oF).low):=by
 have hk:j.toNat<p.vars.length:=J
 have hn:=h.nv
 refine⟨h.lt,?_,by simp[pK];omega,h.nw.var hl J,h.qs,h.sk,h.wr⟩
 rw[show(j+1).toNat=j.toNat+1 by omega,HL hk,gp]
 show s.aS++[_]=_
 rw[h.la,getD_eq hk];rfl
theorem IA.len{p:kx}{x:Value}{j:Nat}{s:NP}(h:IA p x j s):s.an.length=p.an.length:=by have:=aJ List.length h.lt;simpa using this
theorem IA.fin{p:kx}{x:Value}{j:Int}{s:NP}(h:IA p x j.toNat s)(h0:0<=j)(h2:j<=p.vars.length)(h1:¬j<p.vars.length):qh p s:=by
 refine⟨h.lt,?_,by have:=h.nv;omega⟩
 rw[h.la,iD J]
structure au4(s s':NP)(ok:Bool):Prop where
 st:s.sk=true->ok=false/\s'=s
 go:s.sk=false->aqu s s' ok
def tmS(s:NP)(lg:List (Value×lK))(tm:List Int):List Int:=if s.sk then tm else tm++[(lg.length:Int)]
theorem au6{s:NP}{lg:List (Value×lK)}{tm:List Int}(h:s.sk=true):tmS s lg tm=tm:=by unfold tmS;rw[h];rfl
theorem au7{s:NP}{lg:List (Value×lK)}{tm:List Int}(h:s.sk=false):tmS s lg tm=tm++[(lg.length:Int)]:=by unfold tmS;rw[h];rfl
def TmA(ok:Bool)(lg:List (Value×lK))(tm tm':List Int):Prop:=tm'=if ok then tm++[(lg.length:Int)]else tm
structure Q2(s s':NP)(k:Int)(l:List dI)(t:gZ)(y:BitVec 64)(ok:Bool):Prop where
 is:ok=true↔s.sk=false/\sU s.an s.aS k l t=true
 add:ok=true->∃cv vv,s'=Ab s ⟨k,cv,l,t,y,vv,dc l⟩
 same:ok=false->s'=s
theorem Q2.no{s:NP}{k:Int}{l:List dI}{t:gZ}{y:BitVec 64}(h:¬(s.sk=false/\sU s.an s.aS k l t=true)):Q2 s s k l t y false:=by grind[NP,dI,gZ,sU,Q2]
theorem Q2.yes{s:NP}{k:Int}{l:List dI}{t:gZ}{y:BitVec 64}{cv vv:Value}(h:s.sk=false)(h2:sU s.an s.aS k l t=true):Q2 s (Ab s ⟨k,cv,l,t,y,vv,dc l⟩) k l t y true:=⟨⟨fun _=>⟨h,h2⟩,fun _=>rfl⟩,fun _=>⟨_,_,rfl⟩,fun q=>by cases q⟩
structure Xv(s s':NP)(x:fU)(i:Nat)(ok:Bool):Prop where
 ne:x.op≠8->ok=true/\s'=s
 eq:x.op=8->Q2 s s' x.aS x.code x.to (1#64<<<i) ok
def TmX(op:Int)(ok:Bool)(lg:List (Value×lK))(tm tm':List Int):Prop:=if op=8 then TmA ok lg tm tm' else tm'=tm
theorem TmX.no{op:Int}{ok:Bool}{lg:List (Value×lK)}{tm:List Int}(h:op≠8):TmX op ok lg tm tm:=by grind[TmX]
theorem TmX.yes{op:Int}{ok:Bool}{lg:List (Value×lK)}{tm tm':List Int}(h:op=8)(h2:TmA ok lg tm tm'):TmX op ok lg tm tm':=by grind[TmX]
def QPm(p:kx)(l:List fU)(k:Nat)(a:BitVec 64):sD->Prop:=fun q=>∃j,j<k/\(l.getD j iJ).op=8/\q=Er p (l.getD j iJ)/\dS (1#64<<<j) a=true
theorem au9{p:kx}{s:NP}{l:List fU}{k:Nat}(h:qh p s)(hq:s.qs.map Hf=zG l k):MN s=QPm p l k:=by
 have key:∀r:de,∀x:fU,Hf r=LW 0 x\/(∃j,Hf r=LW j x)->s9 s.an s.ai.length r=Er p x:=fun r x e=>by
  have e2:r.aS=x.aS/\r.code=x.code/\r.to=x.to:=by
   rcases e with e|⟨j,e⟩<;>(simp only[LW,Hf,VT]at e;exact⟨e.1,e.2.1,e.2.2.1⟩)
  unfold s9 xQ Er jA
  rw[h.nv,h.sh,e2.1,e2.2.1,e2.2.2]
 funext a q
 refine propext ⟨fun⟨i,hi,e,hs⟩=> ?_,fun⟨j,hj,ho,e,hs⟩=> ?_⟩
 .have hm:Hf (s.qs.getD i cI)∈zG l k:=by rw[<-hq,getD_eq hi];exact fI.2 ⟨_,pS hi,rfl⟩
  obtain⟨j,hj,e2⟩:=fI.1 hm
  simp only[wk,pn,dP]at hj
  refine⟨j,hj.1,hj.2,by rw[e];exact key _ _ (.inr ⟨j,e2.symm⟩),?_⟩
  have e3:=aJ (fun z=>z.2.2.2) e2
  simp only[LW,Hf]at e3
  rw[e3];exact hs
 have hm:LW j (l.getD j iJ)∈zG l k:=fI.2 ⟨j,by simp only[wk,pn,dP];exact⟨hj,ho⟩,rfl⟩
 rw[<-hq]at hm
 obtain⟨r,hr,e2⟩:=fI.1 hm
 obtain⟨i,hi,e3⟩:=xU.1 hr
 refine⟨i,hi,?_,?_⟩
 .rw[e,getD_eq hi,e3];exact(key _ _ (.inr ⟨j,e2⟩)).symm
 rw[getD_eq hi,e3]
 have e4:=aJ (fun z=>z.2.2.2) e2
 simp only[LW,Hf]at e4
 rw[e4];exact hs
structure BA(p:kx)(l:List fU)(k:Nat)(s:NP):Prop where
 np:qh p s
 nw:xA s
 qs:s.qs.map Hf=zG l k
theorem alg{l:List fU}{k:Nat}:(zG l k).length<=k:=by grind[zG]
section
variable{p:kx}{l:List fU}{k:Nat}{s s':NP}{ok:Bool}
theorem BA.start(h1:qh p s)(h2:xA s)(h3:s.qs=[]):BA p l 0 s:=⟨h1,h2,by rw[h3];rfl⟩
theorem BA.add(h:BA p l k s)(hk:k<l.length)(h64:k<64)(ha:∀x∈l,jQ p x=true)(hc:∀x∈l,x.code.length<=1000)(Eu:s.sk=false)(hA:Xv s s' (l.getD k iJ) k ok):ok=true/\BA p l (k+1) s'/\s'.sk=false/\s'.wr=s.wr/\s'.an=s.an:=by
 have hm:l.getD k iJ∈l:=by rw[getD_eq hk];exact pS hk
 by_cases ho:(l.getD k iJ).op=8
 .have hR:=hA.eq ho
  have hfb:=h.np.fit h.nw.ns.ok.hlt (ha _ hm) ho
  have hok:=hR.is.2 ⟨Eu,hfb⟩
  obtain⟨cv,vv,e⟩:=hR.add hok
  have hf:=ale h.nw.ns.ok hfb (hc _ hm) cv vv (1#64<<<k)
  have hq:s.qs.length<=k:=by have:=aJ List.length h.qs;rw[fx]at this;have:=alg (l:=l) (k:=k);omega
  subst e
  refine⟨hok,⟨⟨h.np.lt,h.np.la,h.np.nv⟩,h.nw.add hf J,?_⟩,Eu,rfl,rfl⟩
  show(s.qs++[_]).map Hf=_
  rw[OR,aR ho,gp,h.qs];rfl
 obtain⟨h1,h2⟩:=hA.ne ho
 subst h2
 exact⟨h1,⟨h.np,h.nw,by rw[OR,aP ho,lU];exact h.qs⟩,Eu,rfl,rfl⟩
theorem Xv.stuck{x:fU}{i:Nat}(hA:Xv s s' x i ok)(Eu:s.sk=true):s'=s/\(ok=true↔x.op≠8):=by
 by_cases ho:x.op=8
 .have hR:=hA.eq ho
  have hno:ok=false:=by
   cases ok with
   |false=>rfl
   |true=>have:=(hR.is.1 O).1;rw[Eu]at this;cases this
  exact⟨hR.same hno,⟨fun q=>(by rw[hno]at q;cases q),fun q=>absurd ho q⟩⟩
 obtain⟨h1,h2⟩:=hA.ne ho
 exact⟨h2,⟨fun _=>ho,fun _=>h1⟩⟩
structure aBW(p:kx)(l:List fU)(k:Nat)(s s':NP)(ok:Bool):Prop where
 net:BA p l k s'
 sk:s'.sk= !ok
 is:ok=true↔Ad (jR p) (QP p (l.take k))
 low:ok=true->sS (jR p) (QP p (l.take k)) (vQ s'.ai)
 all:ok=true->∀q,QP p (l.take k) q->eO q (vQ s'.ai)
 why:ok=true->∀i,i<p.vars.length->∀u,tC (jR p) (QPm p l k (s'.aX.getD i 0)) u->cK (s'.ai.getD i dh) (u i)=true
 no:ok=false->¬Ad (jR p) (QPm p l k s'.wy)
 same:ok=false->s'.ai=s.ai
theorem BA.set(h:BA p l k s)(hk:k<=l.length)(hS:aqu s s' ok):aBW p l k s s' ok:=by
 have e1:=h.np.sys
 have e2:=au2 h.np h.qs hk
 have e3:=au9 h.np h.qs
 have hl:BA p l k s':=⟨h.np.same hS.an hS.aS hS.len,hS.net,by rw[hS.qs];exact h.qs⟩
 have hy:ok=true->_:=hS.yes
 have hn:ok=false->_:=hS.no
 rw[e1,e2,e3]at hy hn
 refine⟨hl,hS.sk,⟨fun q=>⟨_,(hy q).1.low.fit,(hy q).2.1⟩,fun q=> ?_⟩,fun q=>(hy q).1,fun q=>(hy q).2.1,fun q i hi u hu=>(hy q).2.2 i hi u hu,fun q=>(hn q).2.2.2,fun q=>(hn q).1⟩
 cases ok with
 |true=>rfl
 |false=>exact absurd q (hn O).2.2.1
end
theorem alh{p:mY}(h:lJ p=true):p.cz.length<=64:=by grind[lJ]
def vO:El:=zX dh 0 1#64
def qj(lv fv nv vv:Value):kx:=⟨lv,[⟨⟨#[107]⟩,⟨false,fv,[⟨1,nv,uZ,Rl.none⟩]⟩⟩],vv,[⟨⟨#[120]⟩,1,0⟩,⟨⟨#[121]⟩,1,0⟩]⟩
def a24(v:Value)(l:List dI)(t:gZ):fU:=⟨8,0,v,l,t,aka,aka,0,o4⟩
def zH(u v w:Value):List fU:=[a24 u [⟨2,0,vO⟩] ⟨0,dh⟩,a24 v [⟨1,0,dh⟩] ⟨1,dh⟩,a24 w [⟨1,1,dh⟩] ⟨-1,dh⟩]
def N_:Value:= .slice none 0 0
theorem aBX(lv fv nv vv av u v w:Value):lJ ⟨qj lv fv nv vv,av,zH u v w⟩=true:=(by decide+kernel:lJ ⟨qj N_ N_ N_ N_,N_,zH N_ N_ N_⟩=true)
def BB(a b:El):Va:=fun i=>if i=0 then a else b
theorem zI{lv fv nv vv:Value}{a b:El}(ha:cf (jA (qj N_ N_ N_ N_) 0) a=true)(hb:cf (jA (qj N_ N_ N_ N_) 0) b=true):o6 (jR (qj lv fv nv vv)) (BB a b):=fun i hi=>by
 have hi':i<2:=hi
 rcases(by omega:i=0\/i=1)with rfl|rfl
 .exact ha
 exact hb
theorem zJ:cf (jA (qj N_ N_ N_ N_) 0) dh=true:=by decide+kernel
theorem zK:cf (jA (qj N_ N_ N_ N_) 0) vO=true:=by decide+kernel
theorem zL(lv fv nv vv u v w:Value):
  (eO (Er (qj lv fv nv vv) ((zH u v w).getD 0 iJ)) (BB vO vO)/\eO (Er (qj lv fv nv vv) ((zH u v w).getD 0 iJ)) (BB vO dh))/\
  (eO (Er (qj lv fv nv vv) ((zH u v w).getD 1 iJ)) (BB vO vO)/\eO (Er (qj lv fv nv vv) ((zH u v w).getD 1 iJ)) (BB dh dh))/\
  (eO (Er (qj lv fv nv vv) ((zH u v w).getD 2 iJ)) (BB dh dh)/\eO (Er (qj lv fv nv vv) ((zH u v w).getD 2 iJ)) (BB vO dh)):=by
 refine⟨⟨?_,?_⟩,⟨?_,?_⟩,?_,?_⟩
 .exact(by decide+kernel:cK (fJ (jA (qj N_ N_ N_ N_) 0) [⟨2,0,vO⟩] [vO,vO]).1 vO=true)
 .exact(by decide+kernel:cK (fJ (jA (qj N_ N_ N_ N_) 0) [⟨2,0,vO⟩] [vO,dh]).1 vO=true)
 .exact(by decide+kernel:cK (fJ (jA (qj N_ N_ N_ N_) 0) [⟨1,0,dh⟩] [vO,vO]).1 vO=true)
 .exact(by decide+kernel:cK (fJ (jA (qj N_ N_ N_ N_) 0) [⟨1,0,dh⟩] [dh,dh]).1 dh=true)
 .exact(by decide+kernel:cK (fJ (jA (qj N_ N_ N_ N_) 0) [⟨1,1,dh⟩] [dh,dh]).1 dh=true)
 exact(by decide+kernel:cK (fJ (jA (qj N_ N_ N_ N_) 0) [⟨1,1,dh⟩] [vO,dh]).1 dh=true)
theorem aqx:cK vO dh=false:=by decide+kernel
section
variable{lv fv nv vv u v w:Value}
theorem ag7{k:Nat}(hk:k<=3){q:sD}:QP (qj lv fv nv vv) ((zH u v w).take k) q↔∃j,j<k/\q=Er (qj lv fv nv vv) ((zH u v w).getD j iJ):=by
 have hl:(zH u v w).length=3:=rfl
 have ho:∀j,j<3->((zH u v w).getD j iJ).op=8:=fun j hj=>by
  rcases(by omega:j=0\/j=1\/j=2)with rfl|rfl|rfl<;>rfl
 constructor
 .rintro⟨x,hx,_,e⟩
  obtain⟨j,hj,e1⟩:=FN.1 hx
  exact⟨j,J,by rw[e,<-e1,getD_eq J]⟩
 rintro⟨j,hj,e⟩
 refine⟨_,?_,ho j J,e⟩
 rw[getD_eq J]
 exact FN.2 ⟨j,J,rfl⟩
theorem avb{k:Nat}(hk:k<=3){a:BitVec 64}{q:sD}(h:QPm (qj lv fv nv vv) (zH u v w) k a q):∃j,j<k/\q=Er (qj lv fv nv vv) ((zH u v w).getD j iJ)/\dS (1#64<<<j) a=true:=by
 obtain⟨j,hj,_,e,hs⟩:=h
 exact⟨j,hj,e,hs⟩
theorem avc{x:Va}(h0:eO (Er (qj lv fv nv vv) ((zH u v w).getD 0 iJ)) x)(h1:eO (Er (qj lv fv nv vv) ((zH u v w).getD 1 iJ)) x)(hx:o6 (jR (qj lv fv nv vv)) x):cK vO (x 1)=true:=by
 have p0:cK vO (x 0)=true:=h0
 have p:=LO (S:=jR (qj lv fv nv vv)) (sh:=jA (qj lv fv nv vv) 0) (n:=2) (x:=⟨1,0,dh⟩) (to:=⟨1,dh⟩) O ⟨ay,ay⟩ ay
 have e:qK ((Er (qj lv fv nv vv) ((zH u v w).getD 1 iJ)).ev x) (x 0):=p.ev x hx
 have p1:cK ((Er (qj lv fv nv vv) ((zH u v w).getD 1 iJ)).ev x) (x 1)=true:=h1
 exact eP p0 (eP (kC fun i hi=>(e i hi).symm) p1)
theorem aqy:Ad (jR (qj lv fv nv vv)) (QP (qj lv fv nv vv) ((zH u v w).take 2)):=by
 have h:=zL lv fv nv vv u v w
 refine⟨BB vO vO,zI zK zK,fun q hq=> ?_⟩
 obtain⟨j,hj,e⟩:=(ag7 J).1 hq
 subst e
 rcases(by omega:j=0\/j=1)with rfl|rfl
 .exact h.1.1
 exact h.2.1.1
theorem ali{x:Va}(hl:sS (jR (qj lv fv nv vv)) (QP (qj lv fv nv vv) ((zH u v w).take 2)) x)(hh:∀q,QP (qj lv fv nv vv) ((zH u v w).take 2) q->eO q x):qK (x 1) vO:=by
 have h:=zL lv fv nv vv u v w
 have hs:tC (jR (qj lv fv nv vv)) (QP (qj lv fv nv vv) ((zH u v w).take 2)) (BB vO vO):=⟨zI zK zK,fun q hq _=>by
  obtain⟨j,hj,e⟩:=(ag7 J).1 hq
  subst e
  rcases(by omega:j=0\/j=1)with rfl|rfl
  .exact h.1.1
  exact h.2.1.1⟩
 exact WC (hl.low.low _ hs 1 (show 1<2 by decide)) (avc (hh _ ((ag7 J).2 ⟨0,J,rfl⟩)) (hh _ ((ag7 J).2 ⟨1,J,rfl⟩)) hl.low.fit)
theorem T0{k:Nat}(hk:k<=3){a:BitVec 64}{x y:El}{i:Nat}(hf:o6 (jR (qj lv fv nv vv)) (BB x y))(hn:¬∀q,QPm (qj lv fv nv vv) (zH u v w) k a q->eO q (BB x y))(hh:∀j,j<k->j≠i->eO (Er (qj lv fv nv vv) ((zH u v w).getD j iJ)) (BB x y)):dS (1#64<<<i) a=true:=by grind[dS,avb]
theorem T1{a:BitVec 64}{i:Nat}(hi:i<64)(h:dS (1#64<<<i) a=true):a.getLsbD i=true:=by
 have:=aJ (fun z:BitVec 64=>z.getLsbD i) (JD h)
 simp only[qS,Pu,BitVec.getLsbD_shiftLeft,Vo,hi,decide_true,po]at this
 simpa using this
theorem avd{a:BitVec 64}(h0:dS (1#64<<<0) a=true)(h1:dS (1#64<<<1) a=true):a&&&3#64=3#64:=by
 have b0:=T1 ay h0
 have b1:=T1 ay h1
 refine BitVec.eq_of_getLsbD_eq fun i hi=> ?_
 rw[qS]
 rcases(by omega:i=0\/i=1\/2<=i)with rfl|rfl|h
 .rw[b0];rfl
 .rw[b1];rfl
 have:(3#64).getLsbD i=false:=by
  rw[Vn,Nat.testBit_lt_two_pow (Vr (by decide:3<2^2) (Vm ay h))];simp
 rw[this,Jt]
theorem aqz{a:BitVec 64}(h0:dS (1#64<<<0) a=true)(h1:dS (1#64<<<1) a=true)(h2:dS (1#64<<<2) a=true):a&&&7#64=7#64:=by
 have b0:=T1 ay h0
 have b1:=T1 ay h1
 have b2:=T1 ay h2
 refine BitVec.eq_of_getLsbD_eq fun i hi=> ?_
 rw[qS]
 rcases(by omega:i=0\/i=1\/i=2\/3<=i)with rfl|rfl|rfl|h
 .rw[b0];rfl
 .rw[b1];rfl
 .rw[b2];rfl
 have:(7#64).getLsbD i=false:=by
  rw[Vn,Nat.testBit_lt_two_pow (Vr (by decide:7<2^3) (Vm ay h))];simp
 rw[this,Jt]
theorem ave{x:Va}{a:BitVec 64}(he:qK (x 1) vO)(hw:∀y,tC (jR (qj lv fv nv vv)) (QPm (qj lv fv nv vv) (zH u v w) 2 a) y->cK (x 1) (y 1)=true):a&&&3#64=3#64:=by
 have h:=zL lv fv nv vv u v w
 have key:∀z:El,cK vO z=false->∀y:El,o6 (jR (qj lv fv nv vv)) (BB y z)->¬∀q,QPm (qj lv fv nv vv) (zH u v w) 2 a q->eO q (BB y z):=fun z hz y hf hq=>by
  have h1:=eP (kC fun i hi=>(he i hi).symm) (hw (BB y z) (Ad.sol hf hq))
  have h2:cK vO z=true:=h1
  rw[hz]at h2;cases h2
 refine avd (T0 (k:=2) (x:=dh) (y:=dh) J (zI zJ zJ) (key _ aqx _ (zI zJ zJ)) fun j hj hne=> ?_) (T0 (k:=2) (x:=vO) (y:=dh) J (zI zK zJ) (key _ aqx _ (zI zK zJ)) fun j hj hne=> ?_)
 .have:j=1:=J
  subst this;exact h.2.1.2
 have:j=0:=J
 subst this;exact h.1.2
theorem avf:¬Ad (jR (qj lv fv nv vv)) (QP (qj lv fv nv vv) ((zH u v w).take 3)):=by
 rintro⟨x,hx,hq⟩
 have g:∀j,j<3->eO (Er (qj lv fv nv vv) ((zH u v w).getD j iJ)) x:=fun j hj=>hq _ ((ag7 J).2 ⟨j,hj,rfl⟩)
 have h1:=avc (g 0 J) (g 1 J) hx
 have p:=LO (S:=jR (qj lv fv nv vv)) (sh:=jA (qj lv fv nv vv) 0) (n:=2) (x:=⟨1,1,dh⟩) (to:=⟨1,dh⟩) O ⟨ay,ay⟩ ay
 have e:qK ((Er (qj lv fv nv vv) ((zH u v w).getD 2 iJ)).ev x) (x 1):=p.ev x hx
 have h2:cK ((Er (qj lv fv nv vv) ((zH u v w).getD 2 iJ)).ev x) dh=true:=g 2 J
 have h3:=eP h1 (eP (kC fun i hi=>(e i hi).symm) h2)
 rw[aqx]at h3;cases h3
theorem alj{a:BitVec 64}(hs:¬Ad (jR (qj lv fv nv vv)) (QPm (qj lv fv nv vv) (zH u v w) 3 a)):a&&&7#64=7#64:=by
 have h:=zL lv fv nv vv u v w
 have key:∀y z:El,o6 (jR (qj lv fv nv vv)) (BB y z)->¬∀q,QPm (qj lv fv nv vv) (zH u v w) 3 a q->eO q (BB y z):=fun y z hf hq=>hs ⟨_,hf,hq⟩
 refine aqz (T0 (k:=3) (x:=dh) (y:=dh) J (zI zJ zJ) (key _ _ (zI zJ zJ)) fun j hj hne=> ?_) (T0 (k:=3) (x:=vO) (y:=dh) J (zI zK zJ) (key _ _ (zI zK zJ)) fun j hj hne=> ?_) (T0 (k:=3) (x:=vO) (y:=vO) J (zI zK zK) (key _ _ (zI zK zK)) fun j hj hne=> ?_)
 .rcases(by omega:j=1\/j=2)with rfl|rfl
  .exact h.2.1.2
  exact h.2.2.1
 .rcases(by omega:j=0\/j=2)with rfl|rfl
  .exact h.1.2
  exact h.2.2.2
 rcases(by omega:j=0\/j=1)with rfl|rfl
 .exact h.1.1
 exact h.2.1.1
end
theorem aBY(u v w:Value):∀x∈zH u v w,x.code.length<=1000:=fun x hx=>by
 simp only[zH,cT,FW,AP]at hx
 rcases hx with rfl|rfl|rfl<;>(show 1<=1000;decide)
theorem aBZ:qL (jA (qj N_ N_ N_ N_) 0)=true:=by decide+kernel
structure T2(p:kx)(l:List fU)(k:Nat)(s:NP):Prop where
 nw:xA s
 wr:s.wr= .nilFunc
 go:s.sk=false->BA p l k s
 st:s.sk=true->¬Ad (jR p) (QP p (l.take k))
section
variable{p:kx}{l:List fU}{k:Nat}{s s':NP}{ok:Bool}
theorem alk{q:sD}(h:QP p (l.take k) q):QP p (l.take (k+1)) q:=by
 obtain⟨x,hx,ho,e⟩:=h
 obtain⟨j,hj,e1⟩:=FN.1 hx
 exact⟨x,FN.2 ⟨j,J,e1⟩,ho,e⟩
theorem T2.start(h:BA p l 0 s)(hs:s.sk=false)(hw:s.wr= .nilFunc):T2 p l 0 s:=⟨h.nw,hw,fun _=>h,fun q=>(by rw[hs]at q;cases q)⟩
theorem T2.add(h:T2 p l k s)(hk:k<l.length)(h64:k<64)(ha:∀x∈l,jQ p x=true)(hc:∀x∈l,x.code.length<=1000)(hA:Xv s s' (l.getD k iJ) k ok):(s.sk=false->ok=true)/\(s.sk=true->ok=decide ((l.getD k iJ).op≠8))/\T2 p l (k+1) s'/\s'.sk=s.sk:=by
 cases Eu:s.sk with
 |false=>
  obtain⟨h1,h2,h3,h4,_⟩:=(h.go Eu).add hk h64 ha hc Eu hA
  exact⟨fun _=>h1,fun q=>(by cases q),⟨h2.nw,h4.trans h.wr,fun _=>h2,fun q=>(by rw[h3]at q;cases q)⟩,h3⟩
 |true=>
  obtain⟨h1,h2⟩:=hA.stuck Eu
  subst h1
  exact⟨fun q=>(by cases q),fun _=>gd.2 (by rw[h2];simp),⟨h.nw,h.wr,fun q=>(by rw[Eu]at q;cases q),fun q hs=>h.st q (hs.less fun _=>alk)⟩,Eu⟩
theorem T2.set(h:T2 p l k s)(hk:k<=l.length)(hQ:au4 s s' ok):T2 p l k s'/\(ok=true↔Ad (jR p) (QP p (l.take k)))/\(ok=true->qh p s'/\sS (jR p) (QP p (l.take k)) (vQ s'.ai)):=by
 cases Eu:s.sk with
 |false=>
  have hP:=(h.go Eu).set hk (hQ.go Eu)
  refine⟨⟨hP.net.nw,(hQ.go Eu).wr.trans h.wr,fun _=>hP.net,fun q=> ?_⟩,hP.is,fun q=>⟨hP.net.np,hP.low q⟩⟩
  rw[hP.sk]at q
  rw[<-hP.is]
  cases ok with
  |true=>cases q
  |false=>exact fun e=>(by cases e)
 |true=>
  obtain⟨h1,h2⟩:=hQ.st Eu
  subst h1;subst h2
  exact⟨h,⟨fun q=>(by cases q),fun q=>absurd q (h.st Eu)⟩,fun q=>(by cases q)⟩
end
theorem alm{K:Vu}{v:Value}{sz n:Nat}{cells:List Value}(h:n7 K v sz n cells)(k:Nat)(hk:k<=n):n7 K (uW v k) sz k (cells.take (k*sz)):=by
 obtain⟨a,cap,hv,hnc,ha⟩:=h.shape
 subst hv
 have e1:sb (.slice a k cap)=sb (.slice a n cap):=by cases a<;>rfl
 have e2:so (.slice a k cap)=so (.slice a n cap):=by cases a<;>rfl
 refine⟨⟨a,cap,rfl,J,fun h0=> ?_⟩,?_,fun j c hc=> ?_,kg hk h.small⟩
 .show a=some ⟨sb (.slice a k cap),so (.slice a k cap),none⟩
  rw[e1,e2];exact ha J
 .rw[eD,h.len]
  exact qI (qH _ hk)
 rw[tM]at hc
 split at hc
 .show N1 K (sb (.slice a k cap)) (so (.slice a k cap)+j) c
  rw[e1,e2];exact h.cell j c hc
 .cases hc
theorem ux.take{K:Vu}{p:mY}(h:ux K p){k:Nat}(hk:k<=p.cz.length):ux K ⟨p.s,uW p.av k,p.cz.take k⟩:=by
 refine⟨h.s,?_,fun x hx=>h.each x (AA hx)⟩
 have:=alm h.cz k hk
 rw[NH qb]at this
 show n7 K (uW p.av k) 18 (p.cz.take k).length _
 rw[eD,qI hk];exact this
def aHd(l:List fU)(a:BitVec 64)(k:Nat):List fU:=((List.range k).filter fun i=>a.getLsbD i).map fun i=>l.getD i iJ
def Fh(v:nn):nn:={v with kind:=1}
def yT(p:kx)(vv:Value):kx:=⟨p.lv,p.an,vv,p.vars.map Fh⟩
theorem ag8{l:List nn}{k:Nat}(hk:k<l.length):(l.map Fh).getD k eY=Fh (l.getD k eY):=by
 rw[ep,ph,getD_eq hk,dO hk];rfl
theorem ag9{p:kx}{s:NP}(h:qh p s)(hl:s.aS.length=s.ai.length)(v k:Int)(vv:Value):oZ (yT p vv) v 1 k=ofB s.aS v k:=by
 rw[gd,h.of hl v k]
 have e:(yT p vv).vars.length=p.vars.length:=fx ..
 simp only[oZ,cm,dP,e]
 constructor
 .rintro⟨⟨h1,h2⟩,h3⟩
  have h4:(yT p vv).vars.getD v.toNat eY=Fh (p.vars.getD v.toNat eY):=ag8 J
  rw[h4]at h3
  exact⟨h1,h3⟩
 rintro⟨h1,h3⟩
 have h4:(yT p vv).vars.getD v.toNat eY=Fh (p.vars.getD v.toNat eY):=ag8 J
 rw[h4]
 exact⟨⟨h1,rfl⟩,h3⟩
theorem aln{p:kx}{s:NP}(h:qh p s)(hl:s.aS.length=s.ai.length)(vv:Value){x:fU}(ho:x.op=8):jQ (yT p vv) x=sU s.an s.aS x.aS x.code x.to:=by
 have e1:jA (yT p vv) x.aS=shL s.an x.aS:=(h.sh x.aS.toNat).symm
 have e2:r7 (yT p vv) x.aS=Aa s.an s.aS x.aS:=by
  funext y;unfold r7 Aa;rw[ag9 h hl,e1]
 have e3:j3 (yT p vv) x.aS x.to=C4 s.an s.aS x.aS x.to:=by
  unfold j3 C4;rw[ag9 h hl,e1]
 have e4:(yT p vv).an.length=s.an.length:=h.len.symm
 unfold jQ sU codeOk
 rw[aP (show¬x.op=10 by omega),aP (show¬x.op=9 by omega),aR ho,e2,e3,e4]
 by_cases c:0<=x.aS/\x.aS<s.an.length
 .rw[aR c,gq c,po]
  cases x.code.all (Aa s.an s.aS x.aS)<;>cases fP x.code<;>cases C4 s.an s.aS x.aS x.to<;>rfl
 rw[aP c,gm c];rfl
theorem abW{p:kx}(h:gy p=true)(vv:Value):gy (yT p vv)=true:=by
 simp only[gy,cm,dP,iq]at h⊢
 obtain⟨⟨⟨h1,h2⟩,h3⟩,h4⟩:=h
 have e:(yT p vv).vars.length=p.vars.length:=fx ..
 refine⟨⟨⟨by rw[e];exact h1,h2⟩,fun v hv=> ?_⟩,?_⟩
 .obtain⟨u,hu,rfl⟩:=fI.1 hv
  have:=h3 u hu
  simp only[HM,cm,dP]at this⊢
  exact⟨this.1,.inl O,this.2.2⟩
 have e2:n9 (yT p vv)=n9 p:=by
  show p.an.map zZ.name++(p.vars.map Fh).map nn.name=_
  rw[JQ];rfl
 rw[e2];exact h4
theorem aha{p:kx}{s:NP}(hr:gy p=true)(h:qh p s)(hl:s.aS.length=s.ai.length)(vv av:Value){x:fU}(ho:x.op=8):lJ ⟨yT p vv,av,[x]⟩=sU s.an s.aS x.aS x.code x.to:=by
 unfold lJ
 rw[abW hr,List.all_cons,List.all_nil,aln h hl vv ho]
 simp
def C6(l:List nn)(k:Nat):List nn:=(l.take k).map Fh++l.drop k
theorem alo{l:List nn}{k:Nat}:(C6 l k).length=l.length:=by
 unfold C6
 rw[cV,fx,eD,vk];omega
theorem alp{l:List nn}{k:Nat}(h:l.length<=k):C6 l k=l.map Fh:=by
 unfold C6
 rw[iD h,List.drop_eq_nil_of_le h,lU]
theorem alq{l:List nn}{k:Nat}(h:k<l.length):(C6 l k).getD k eY=l.getD k eY:=by
 unfold C6
 rw[ep,Az hG,xW,getD_eq h]
 simp
 rw[show k+(k-min k l.length)=k by omega,dO h];rfl
theorem ahb{l:List nn}{k:Nat}(h:k<l.length):C6 l (k+1)=(C6 l k).set k (Fh (l.getD k eY)):=by
 unfold C6
 have e:((l.take k).map Fh).length=k:=by simp;omega
 rw[Vl _ _ J,e,JO,Ju h,ij,HL h,gp,dg,getD_eq h];rfl
theorem alr{ok:Bool}{lg:List (Value×lK)}{tm tm':List Int}(h:TmA ok lg tm tm'):(decide ((tm'.length:Int)=(tm.length:Int))== !ok)=true:=by
 unfold TmA at h;subst h;cases ok<;>simp;omega
theorem abX(l:List nn):∀u∈l.flatMap Io,u.oneCell'=true:=fun u hu=>by
 rw[List.mem_flatMap]at hu
 obtain⟨f,hf,hu⟩:=hu
 simp[Io]at hu
 rcases hu with rfl|rfl|rfl<;>rfl
structure aHe(K:Vu)(l:List zZ):Prop where
 each:∀a∈l,kO K a.yz
def scN:kx:=⟨.slice none 0 0,[],.slice none 0 0,[]⟩
theorem avg(K:Vu):xm K scN:=⟨n7.nil _ _,n7.nil _ _,fun l hl=>by cases hl⟩
theorem aqA{K:Vu}{p:kx}{v:Value}(h:xm K p)(hv:n7 K v 3 p.vars.length ((p.vars.map Fh).flatMap Io)):xm K (yT p v):=⟨h.an,by show n7 K v 3 (p.vars.map Fh).length _;rw[fx];exact hv,h.each⟩
end
end Go.Proofs.YtlhjdflgjbkpmaaGreatDoor.E
namespace Go.Proofs.YtlhjdflgjbkpmaaGreatDoor.M
section
open Go
structure ahc(r:Rl)(cl:List Nat):Prop where
 n:pts r=cl.length
 sym:∀i j:Int,bE r i j=true->bE r j i=true
 avh:∀i j:Int,bE r i j=true->bV cl i.toNat=bV cl j.toNat
 lead:∀i:Nat,i<cl.length->bE (iG r) i (bV cl i)=true
theorem ZL{r:Rl}(hs:∀i j:Int,bE r i j=true->bE r j i=true){i j:Int}(h:bE (iG r) i j=true):bE (iG r) j i=true:=by
 have h1:=(jc h).1
 rw[yg]at h1
 exact Cd h (fun y=>bE (iG r) y i=true) (fun x y hx hy=>mh (EF (hs _ _ hy)) hx) (xf h1)
theorem ahd{r q:Rl}(hp:pts q=pts r)(hm:∀i j:Int,bE r i j=true->bE q i j=true){i j:Int}(h:bE (iG r) i j=true):bE (iG q) i j=true:=by
 have h1:=(jc h).1
 rw[yg]at h1
 exact Cd h (fun y=>bE (iG q) i y=true) (fun x y hx hy=>mh hx (EF (hm _ _ hy))) (xf (by rw[hp];exact h1))
section
variable{r:Rl}{cl:List Nat}{nd:List pB}
theorem ahc.same(h:ahc r cl){i j:Nat}(hi:i<cl.length)(hj:j<cl.length):bV cl i=bV cl j↔bE (iG r) i j=true:=by
 constructor
 .intro e
  have h1:=h.lead i hi;have h2:=h.lead j hj
  rw[e]at h1
  exact mh h1 (ZL h.sym h2)
 intro hc
 have:=Cd hc (fun y=>bV cl i=bV cl y.toNat) (fun x y hx hy=>hx.trans (h.avh _ _ hy)) aA
 simpa using this
theorem ahc.join(h:ahc r cl)(hf:Fo nd cl){q:Rl}{x y:Nat}(hx:x<cl.length)(hy:y<cl.length)(hp:pts q=pts r)(hq:∀i j:Int,bE q i j=true↔bE r i j=true\/(i=x/\j=y)\/(i=y/\j=x)):ahc q (gT cl (bV cl x) (bV cl y)):=by
 have hm:∀i j:Int,bE r i j=true->bE q i j=true:=fun i j e=>(hq i j).2 (.inl e)
 have hs:∀i j:Int,bE q i j=true->bE q j i=true:=fun i j e=>by
  rcases(hq i j).1 e with e|e|e
  .exact hm _ _ (h.sym _ _ e)
  .exact(hq j i).2 (.inr (.inr ⟨e.2,e.1⟩))
  exact(hq j i).2 (.inr (.inl ⟨e.2,e.1⟩))
 have hlen:(gT cl (bV cl x) (bV cl y)).length=cl.length:=by simp[gT]
 have hlc:∀i,i<cl.length->bV cl i<cl.length:=fun i hi=>by have:=(hf.lc i (by rw[<-hf.len];exact hi)).1;omega
 have gc:∀i,i<cl.length->bV (gT cl (bV cl x) (bV cl y)) i=GU (bV cl x) (bV cl y) (bV cl i):=fun i hi=>yG hi
 have xy:bE (iG q) x y=true:=EF ((hq x y).2 (.inr (.inl ⟨rfl,rfl⟩)))
 have cs:∀{i j:Int},bE (iG q) i j=true->bE (iG q) j i=true:=fun e=>ZL hs e
 have lq:∀i:Nat,i<cl.length->bE (iG q) i (bV cl i)=true:=fun i hi=>ahd hp hm (h.lead i hi)
 have cxy:bE (iG q) (bV cl x) (bV cl y)=true:=mh (cs (lq x hx)) (mh xy (lq y hy))
 refine⟨by rw[hp,h.n,hlen],hs,fun i j e=> ?_,fun i hi=> ?_⟩
 .have hb:=jc e
  rw[hp,h.n]at hb
  rw[gc _ J,gc _ J]
  rcases(hq i j).1 e with e|e|e
  .rw[h.avh _ _ e]
  .rw[e.1,e.2,dW,dW,j4 (.inl O),j4 (.inr O)]
  rw[e.1,e.2,dW,dW,j4 (.inl O),j4 (.inr O)]
 rw[hlen]at hi
 rw[gc i hi]
 by_cases c:bV cl i=bV cl x\/bV cl i=bV cl y
 .rw[j4 c]
  have h1:=lq i hi
  rcases c with c|c<;>rw[c]at h1<;>rcases wz (bV cl x) (bV cl y)with e|e<;>rw[e]
  .exact h1
  .exact mh h1 cxy
  .exact mh h1 (cs cxy)
  exact h1
 rw[kB c];exact lq i hi
end
end
end Go.Proofs.YtlhjdflgjbkpmaaGreatDoor.M
namespace Go.Proofs.YtlhjdflgjbkpmaaGreatDoor.E
section
open Go Go.RowKit Go.Proofs.YtlhjdflgjbkpmaaGreatDoor.M
section
variable{P:Program}{n:Nat}{l:List Oper}{S:World->Prop}{k:K}{xs:List (Nat×K)}{r:K}{σ:Env}{w:World}{fuel i d:Nat}{listed:Array Bool}{op:Op}{ty:TypeId}{pos:String}{bH:Array Edge}{g:Option (Nat×Bool)}{v:Value}{dst:Option Tmp}
theorem V{ops:Array Oper}{rest:List Oper}{w':World}(hr:(execOp (ev σ) ⟨some d,op,ty,pos,bH,none⟩).run P w= .ok (.value v) w')(hk:RL P n ops k rest (k7 σ d v) w')(hd:Nat.blt d n=true:=by rfl):RL P n ops k (⟨some d,op,ty,pos,bH,none⟩::rest) σ w:=n5 hd hr hk
abbrev Pn(b o:Nat):Value:= .pointer (some ⟨b,o,none⟩)
theorem mV{x:Operand}(v:Value)(hx:ev σ x=v):(execOp (ev σ) ⟨dst,.move x,ty,pos,bH,g⟩).run P w= .ok (.value v) w:=run_move hx
theorem aV{x:Operand}(v:Value)(hx:ev σ x=v):(execOp (ev σ) ⟨dst,.assign x,ty,pos,bH,g⟩).run P w= .ok (.value v) w:=run_assign hx
theorem AT(i:Nat)(hi:l[i]?=some ⟨some d,op,ty,pos,bH,none⟩)(hS:S w)(hy:∀w,S w->(execOp (ev σ) ⟨some d,op,ty,pos,bH,none⟩).run P w= .ok (.value v) w)
 (h:AN P n l S k fuel (listed.setIfInBounds i true) (k7 σ d v) w) (hd:Nat.blt d n=true:=by rfl) (hs:Region.noSelect l.toArray=true:=by kernel_rfl) (hf:Region.free .any l.toArray listed i=true:=by kernel_rfl)
 (hr:(Region.ready .any l.toArray listed).contains i=true:=by kernel_rfl):AN P n l S k (fuel+1) listed σ w:=by grind[adM]
theorem AG(i:Nat){j dj:Nat}{want:Bool}(hi:l[i]?=some ⟨some d,op,ty,pos,bH,some (j,want)⟩)(hj:(l[j]?).bind (·.dst)=some dj)(hb:σ dj= .bool want)
 (hS:S w) (hy:∀w,S w->(execOp (ev σ) ⟨some d,op,ty,pos,bH,some (j,want)⟩).run P w= .ok (.value v) w)
 (h:AN P n l S k fuel (listed.setIfInBounds i true) (k7 σ d v) w) (hd:Nat.blt d n=true:=by rfl) (hs:Region.noSelect l.toArray=true:=by kernel_rfl) (hf:Region.free .any l.toArray listed i=true:=by kernel_rfl)
 (hr:(Region.ready .any l.toArray listed).contains i=true:=by kernel_rfl):AN P n l S k (fuel+1) listed σ w:=by grind[aoR]
theorem BQ(i:Nat){j dj:Nat}{want:Bool}(hi:l[i]?=some ⟨some d,op,ty,pos,bH,some (j,want)⟩)(hj:(l[j]?).bind (·.dst)=some dj)(hb:σ dj= .bool want)
 (hS:S w) (hy:∀{w},(execOp (ev σ) ⟨some d,op,ty,pos,bH,some (j,want)⟩).run P w= .ok (.value v) w)
 (h:AN P n l S k fuel (listed.setIfInBounds i true) (k7 σ d v) w) (hd:Nat.blt d n=true:=by rfl) (hs:Region.noSelect l.toArray=true:=by kernel_rfl) (hf:Region.free .any l.toArray listed i=true:=by kernel_rfl)
 (hr:(Region.ready .any l.toArray listed).contains i=true:=by kernel_rfl):AN P n l S k (fuel+1) listed σ w:=AG i hi hj hb hS (fun w _=>hy) h hd hs hf hr
theorem AK(i:Nat){j dj:Nat}{b want:Bool}(hi:l[i]?=some ⟨some d,op,ty,pos,bH,some (j,want)⟩)(hj:(l[j]?).bind (·.dst)=some dj)(hb:σ dj= .bool b)(hS:S w)
 (h:AN P n l S k fuel (listed.setIfInBounds i true) (k7 σ d undef) w) (hne:(b==want)=false:=by rfl) (hd:Nat.blt d n=true:=by rfl) (hs:Region.noSelect l.toArray=true:=by kernel_rfl) (hf:Region.free .any l.toArray listed i=true:=by kernel_rfl)
 (hr:(Region.ready .any l.toArray listed).contains i=true:=by kernel_rfl):AN P n l S k (fuel+1) listed σ w:=by grind[atA]
theorem AU(i:Nat){j dj:Nat}{want:Bool}(hi:l[i]?=some ⟨some d,op,ty,pos,bH,some (j,want)⟩)(hj:(l[j]?).bind (·.dst)=some dj)(hu:σ dj=undef)(hS:S w)
 (h:AN P n l S k fuel (listed.setIfInBounds i true) (k7 σ d undef) w) (hd:Nat.blt d n=true:=by rfl) (hs:Region.noSelect l.toArray=true:=by kernel_rfl) (hf:Region.free .any l.toArray listed i=true:=by kernel_rfl)
 (hr:(Region.ready .any l.toArray listed).contains i=true:=by kernel_rfl):AN P n l S k (fuel+1) listed σ w:=by grind[atB]
theorem AD(h:k σ w)(hr:Region.ready .any l.toArray listed=[]:=by kernel_rfl):AN P n l S k fuel listed σ w:=atz hr h
theorem A1(i:Nat)(h:AO P n l S k fuel listed σ w i)(hr:Region.ready .any l.toArray listed=[i]:=by kernel_rfl):AN P n l S k (fuel+1) listed σ w:=atC i hr h
theorem SR{id:Nat}{y:Code}(h:RL P n l.toArray (fun σ w=>CW P n y k xs r σ w) l σ w):CW P n (.seq (.region id l.toArray false) y) k xs r σ w:=ah (au h)
theorem fA{x:Operand}{s i m b o:Nat}{fs:Array Field}{f:Field}(hu:P.underlying s=some (.struct fs))(off:Nat)(hf:fs[i]?=some f)(hs:∀w,(sizeOf f.type).run P w= .ok m w)(hx:ev σ x= .pointer (some ⟨b,o,none⟩))(ho:f.offset=off:=by rfl)(hn:m≠0:=by decide):
 (execOp (ev σ) ⟨dst,.fieldAddr s x i,ty,pos,bH,g⟩).run P w= .ok (.value (.pointer (some ⟨b,o+off,none⟩))) w:=Nb hu hf ho hs hn hx
end
theorem sQ{α:Type}{a:α}{l l':List α}(h:l.Sublist l'):l.Sublist (a::l'):= .cons _ h
theorem sP{α:Type}{a:α}{l l':List α}(h:l.Sublist l'):(a::l).Sublist (a::l'):= .cons_cons _ h
theorem sR{α:Type}{l:List α}:l.Sublist l:= .refl _
theorem sA{α:Type}{l l' m:List α}(h:l.Sublist l'):l.Sublist (m++l'):=by grind
theorem z0{α:Type}{a b:α}{l:List α}:(a::l).set 0 b=b::l:=rfl
theorem z1{α:Type}{a b:α}{l:List α}{i:Nat}:(a::l).set (i+1) b=a::l.set i b:=rfl
theorem mT{α:Type}{a b:α}{l:List α}(h:a∈l):a∈b::l:=fq _ h
section
variable{ws:List Nat}{σ σ':Env}{d d1 d2 d3:Nat}{v v1 v2 v3:Value}
theorem Fr.u1(h:Fr ws σ σ')(hd:ws.contains d=true:=by rfl):Fr ws σ (k7 σ' d v):=h.u hd
theorem Fr.u4(h:Fr ws σ σ')(hd:ws.contains d=true:=by rfl)(h1:ws.contains d1=true:=by rfl)(h2:ws.contains d2=true:=by rfl)(h3:ws.contains d3=true:=by rfl):Fr ws σ (k7 (k7 (k7 (k7 σ' d v) d1 v1) d2 v2) d3 v3):=by grind[Fr,k7]
end
section
variable{P:Program}{n:Nat}{l:List Oper}{S:World->Prop}{k:K}{xs:List (Nat×K)}{r:K}{σ σ':Env}{w:World}{fuel i d:Nat}{listed:Array Bool}{op:Op}{ty:TypeId}{pos:String}{bH:Array Edge}{g:Option (Nat×Bool)}{v:Value}{dst:Option Tmp}{ops:Array Oper}{rest:List Oper}{x:Operand}
theorem va{v:Value}(hx:ev σ x=v)(hk:RL P n ops k rest (k7 σ d v) w)(hd:Nat.blt d n=true:=by rfl):RL P n ops k (⟨some d,.assign x,ty,pos,bH,none⟩::rest) σ w:=n5 hd (run_assign hx) hk
theorem aG{v:Value}(hx:ev σ x=v)(hk:RL P n ops k rest (k7 σ d v) w)(hd:Nat.blt d n=true:=by rfl):RL P n ops k (⟨some d,.move x,ty,pos,bH,none⟩::rest) σ w:=n5 hd (run_move hx) hk
theorem aI{a:Int}(hx:ev σ x=I a)(hk:RL P n ops k rest (k7 σ d (I a)) w)(hd:Nat.blt d n=true:=by rfl):RL P n ops k (⟨some d,.assign x,ty,pos,bH,none⟩::rest) σ w:=va hx hk hd
theorem aB{a:Bool}(hx:ev σ x=B a)(hk:RL P n ops k rest (k7 σ d (B a)) w)(hd:Nat.blt d n=true:=by rfl):RL P n ops k (⟨some d,.assign x,ty,pos,bH,none⟩::rest) σ w:=va hx hk hd
theorem aU{a:BitVec 64}(hx:ev σ x=U a)(hk:RL P n ops k rest (k7 σ d (U a)) w)(hd:Nat.blt d n=true:=by rfl):RL P n ops k (⟨some d,.assign x,ty,pos,bH,none⟩::rest) σ w:=va hx hk hd
theorem mI{a:Int}(hx:ev σ x=I a)(hk:RL P n ops k rest (k7 σ d (I a)) w)(hd:Nat.blt d n=true:=by rfl):RL P n ops k (⟨some d,.move x,ty,pos,bH,none⟩::rest) σ w:=aG hx hk hd
theorem mB{a:Bool}(hx:ev σ x=B a)(hk:RL P n ops k rest (k7 σ d (B a)) w)(hd:Nat.blt d n=true:=by rfl):RL P n ops k (⟨some d,.move x,ty,pos,bH,none⟩::rest) σ w:=aG hx hk hd
theorem mU{a:BitVec 64}(hx:ev σ x=U a)(hk:RL P n ops k rest (k7 σ d (U a)) w)(hd:Nat.blt d n=true:=by rfl):RL P n ops k (⟨some d,.move x,ty,pos,bH,none⟩::rest) σ w:=aG hx hk hd
theorem AQ(i:Nat)(hi:l[i]?=some ⟨some d,op,ty,pos,bH,none⟩)(hS:S w)(hy:∀{w},(execOp (ev σ) ⟨some d,op,ty,pos,bH,none⟩).run P w= .ok (.value v) w)
 (h:AN P n l S k fuel (listed.setIfInBounds i true) (k7 σ d v) w) (hd:Nat.blt d n=true:=by rfl) (hs:Region.noSelect l.toArray=true:=by kernel_rfl) (hf:Region.free .any l.toArray listed i=true:=by kernel_rfl)
 (hr:(Region.ready .any l.toArray listed).contains i=true:=by kernel_rfl):AN P n l S k (fuel+1) listed σ w:=by grind[adM]
theorem Fr.w1{ws:List Nat}{v1:Value}(h:Fr ws σ σ')(i:Nat)(h1:σ i=v1:=by conv=>lhs;whnf)(c1:ws.contains i=false:=by rfl):σ' i=v1:=(h i c1).trans h1
theorem Fr.t1{ws:List Nat}{v1:Value}(h:Fr ws σ σ')(i:Nat)(h1:σ i=v1)(c1:ws.contains i=false:=by rfl):σ' i=v1:=(h i c1).trans h1
theorem Fr.w2{ws:List Nat}{v1 v2:Value}(h:Fr ws σ σ')(i j:Nat)(h1:σ i=v1:=by conv=>lhs;whnf)(h2:σ j=v2:=by conv=>lhs;whnf)(c1:ws.contains i=false:=by rfl)(c2:ws.contains j=false:=by rfl):σ' i=v1/\σ' j=v2:=⟨(h i c1).trans h1,(h j c2).trans h2⟩
theorem Fr.t2{ws:List Nat}{v1 v2:Value}(h:Fr ws σ σ')(i:Nat)(h1:σ i=v1)(j:Nat)(h2:σ j=v2)(c1:ws.contains i=false:=by rfl)(c2:ws.contains j=false:=by rfl):σ' i=v1/\σ' j=v2:=⟨(h i c1).trans h1,(h j c2).trans h2⟩
theorem Fr.w3{ws:List Nat}{v1 v2 v3:Value}(h:Fr ws σ σ')(i j k:Nat)(h1:σ i=v1:=by conv=>lhs;whnf)(h2:σ j=v2:=by conv=>lhs;whnf)(h3:σ k=v3:=by conv=>lhs;whnf)(c1:ws.contains i=false:=by rfl)(c2:ws.contains j=false:=by rfl)(c3:ws.contains k=false:=by rfl):σ' i=v1/\σ' j=v2/\σ' k=v3:=⟨(h i c1).trans h1,(h j c2).trans h2,(h k c3).trans h3⟩
theorem Fr.t3{ws:List Nat}{v1 v2 v3:Value}(h:Fr ws σ σ')(i:Nat)(h1:σ i=v1)(j:Nat)(h2:σ j=v2)(k:Nat)(h3:σ k=v3)(c1:ws.contains i=false:=by rfl)(c2:ws.contains j=false:=by rfl)(c3:ws.contains k=false:=by rfl):σ' i=v1/\σ' j=v2/\σ' k=v3:=⟨(h i c1).trans h1,(h j c2).trans h2,(h k c3).trans h3⟩
theorem Fr.w4{ws:List Nat}{v1 v2 v3 v4:Value}(h:Fr ws σ σ')(i j k l:Nat)(h1:σ i=v1:=by conv=>lhs;whnf)(h2:σ j=v2:=by conv=>lhs;whnf)(h3:σ k=v3:=by conv=>lhs;whnf)(h4:σ l=v4:=by conv=>lhs;whnf)(c1:ws.contains i=false:=by rfl)(c2:ws.contains j=false:=by rfl)(c3:ws.contains k=false:=by rfl)(c4:ws.contains l=false:=by rfl):σ' i=v1/\σ' j=v2/\σ' k=v3/\σ' l=v4:=⟨(h i c1).trans h1,(h j c2).trans h2,(h k c3).trans h3,(h l c4).trans h4⟩
theorem Fr.t4{ws:List Nat}{v1 v2 v3 v4:Value}(h:Fr ws σ σ')(i:Nat)(h1:σ i=v1)(j:Nat)(h2:σ j=v2)(k:Nat)(h3:σ k=v3)(l:Nat)(h4:σ l=v4)(c1:ws.contains i=false:=by rfl)(c2:ws.contains j=false:=by rfl)(c3:ws.contains k=false:=by rfl)(c4:ws.contains l=false:=by rfl):σ' i=v1/\σ' j=v2/\σ' k=v3/\σ' l=v4:=⟨(h i c1).trans h1,(h j c2).trans h2,(h k c3).trans h3,(h l c4).trans h4⟩
theorem Fr.w5{ws:List Nat}{v1 v2 v3 v4 v5:Value}(h:Fr ws σ σ')(i j k l m:Nat)(h1:σ i=v1:=by conv=>lhs;whnf)(h2:σ j=v2:=by conv=>lhs;whnf)(h3:σ k=v3:=by conv=>lhs;whnf)(h4:σ l=v4:=by conv=>lhs;whnf)(h5:σ m=v5:=by conv=>lhs;whnf)(c1:ws.contains i=false:=by rfl)(c2:ws.contains j=false:=by rfl)(c3:ws.contains k=false:=by rfl)(c4:ws.contains l=false:=by rfl)(c5:ws.contains m=false:=by rfl):σ' i=v1/\σ' j=v2/\σ' k=v3/\σ' l=v4/\σ' m=v5:=⟨(h i c1).trans h1,(h j c2).trans h2,(h k c3).trans h3,(h l c4).trans h4,(h m c5).trans h5⟩
theorem Fr.t5{ws:List Nat}{v1 v2 v3 v4 v5:Value}(h:Fr ws σ σ')(i:Nat)(h1:σ i=v1)(j:Nat)(h2:σ j=v2)(k:Nat)(h3:σ k=v3)(l:Nat)(h4:σ l=v4)(m:Nat)(h5:σ m=v5)(c1:ws.contains i=false:=by rfl)(c2:ws.contains j=false:=by rfl)(c3:ws.contains k=false:=by rfl)(c4:ws.contains l=false:=by rfl)(c5:ws.contains m=false:=by rfl):σ' i=v1/\σ' j=v2/\σ' k=v3/\σ' l=v4/\σ' m=v5:=⟨(h i c1).trans h1,(h j c2).trans h2,(h k c3).trans h3,(h l c4).trans h4,(h m c5).trans h5⟩
theorem Fr.w6{ws:List Nat}{v1 v2 v3 v4 v5 v6:Value}(h:Fr ws σ σ')(i j k l m o:Nat)(h1:σ i=v1:=by conv=>lhs;whnf)(h2:σ j=v2:=by conv=>lhs;whnf)(h3:σ k=v3:=by conv=>lhs;whnf)(h4:σ l=v4:=by conv=>lhs;whnf)(h5:σ m=v5:=by conv=>lhs;whnf)(h6:σ o=v6:=by conv=>lhs;whnf)(c1:ws.contains i=false:=by rfl)(c2:ws.contains j=false:=by rfl)(c3:ws.contains k=false:=by rfl)(c4:ws.contains l=false:=by rfl)(c5:ws.contains m=false:=by rfl)(c6:ws.contains o=false:=by rfl):σ' i=v1/\σ' j=v2/\σ' k=v3/\σ' l=v4/\σ' m=v5/\σ' o=v6:=⟨(h i c1).trans h1,(h j c2).trans h2,(h k c3).trans h3,(h l c4).trans h4,(h m c5).trans h5,(h o c6).trans h6⟩
theorem Fr.ii{ws:List Nat}(h:Fr ws σ σ')(i:Nat){a:Int}(hc:ws.contains i=false)(hv:σ i=E.I a):σ' i=E.I a:=(h i hc).trans hv
theorem Fr.bb{ws:List Nat}(h:Fr ws σ σ')(i:Nat){a:Bool}(hc:ws.contains i=false)(hv:σ i=E.B a):σ' i=E.B a:=(h i hc).trans hv
theorem Fr.ss{ws:List Nat}(h:Fr ws σ σ')(i:Nat){a:ByteArray}(hc:ws.contains i=false)(hv:σ i= .string a):σ' i= .string a:=(h i hc).trans hv
theorem Fr.vv{ws:List Nat}(h:Fr ws σ σ')(i:Nat){a:Value}(hc:ws.contains i=false)(hv:σ i=a):σ' i=a:=(h i hc).trans hv
end
def rg:Nat->Nat->List Nat->List Nat
 |_,0,l=>l
 |a,n+1,l=>a::rg (a+1) n l
theorem ot:(∀(k:IntKind) (n:Int),(Value.int k n).cells.toList=[Value.int k n])/\(∀b:Bool,(Value.bool b).cells.toList=[Value.bool b])/\(∀b:ByteArray,(Value.string b).cells.toList=[Value.string b])/\(∀a:Option Addr,(Value.pointer a).cells.toList=[Value.pointer a])/\(∀(a:Option Addr) (n c:Nat),(Value.slice a n c).cells.toList=[Value.slice a n c])/\(∀l:List Value,(Value.agg l.toArray).cells.toList=l)/\(∀(f:Value->List Value) (a:Value) (l:List Value),(a::l).flatMap f=f a++l.flatMap f)/\(∀f:Value->List Value,([]:List Value).flatMap f=[])/\(∀l:List Value,[]++l=l)/\(∀l:List Value,l++[]=l)/\(∀(a:Value) (l m:List Value),a::l++m=a::(l++m)):=by simp_all[clI,clB,clS,clP,clL,clA]
theorem z2{α:Type}:(∀(a b:α) (l:List α),(a::l).set 0 b=b::l)/\(∀(a b:α) (l:List α) (i:Nat),(a::l).set (i+1) b=a::l.set i b):=⟨fun _ _ _=>rfl,fun _ _ _ _=>rfl⟩
def pull{α:Type}:Nat->List α->List α
 |0,l=>l
 |n+1,a::l=>match pull n l with
  |b::m=>b::a::m
  |[]=>[a]
 |_,[]=>[]
def gF{α:Type}:List Nat->List α->List α
 |[],l=>l
 |n::ns,l=>match pull n l with
  |b::m=>b::gF ns m
  |[]=>[]
theorem ahe{α:Type}:∀(n:Nat) (l:List α),l.Perm (pull n l)
 |0,_=> .refl _
 |n+1,[]=> .refl _
 |n+1,a::l=>by
  have h:=ahe n l
  rw[pull]
  revert h;cases pull n l with
  |nil=>exact fun h=>h.cons a
  |cons b m=>exact fun h=>(h.cons a).trans (.swap _ _ _)
theorem ZM{α:Type}:∀(ns:List Nat) (l:List α),l.Perm (gF ns l)
 |[],_=> .refl _
 |n::ns,l=>by
  have h:=ahe n l
  rw[gF]
  revert h;cases pull n l with
  |nil=>exact fun h=>h
  |cons b m=>exact fun h=>h.trans ((ZM ns m).cons b)
theorem Hp.pj{w0 w:World}{L:List a8}(h:Hp w0 w L)(ns:List Nat):Hp w0 w (gF ns L):=h.perm (ZM ns L)
theorem Hp.pk{w0 w:World}{L L':List a8}(h:Hp w0 w L)(ns:List Nat)(e:gF ns L=L':=by conv=>lhs;simp only[gF,pull]):Hp w0 w L':=e▸h.pj ns
section
variable{P:Program}{n:Nat}{ops:Array Oper}{k:K}{rest l:List Oper}{σ:Env}{w0 w:World}{L:List a8}{op:Op}{ty t e:TypeId}{pos:String}{bH:Array Edge}{d:Nat}{v:Value}{x:Operand}{fn:Func}{q:Value->World->Prop}
 {b off:Nat} {c:Array Value} {fr:Nat×Nat} {td:TypeDesc} {fuel:Nat} {listed:Array Bool}
theorem en{f:FuncId}{c:Code}{args:Array Value}(hf:P.funcs[f]?=some fn)(hb:fn.body=some c)(hn:fn.ntmps=n)(h:CW P n c (Out P fn q) [] (Out P fn q) (entry args) w)(ha:Nat.ble args.size n=true:=by rfl):Calls P f args w (jF q):=enter hf hb hn ha h
theorem eH{f:FuncId}{c:Code}{args:Array Value}(hf:P.funcs[f]?=some fn)(hb:fn.body=some c)(hn:fn.ntmps=n)(h:Hp w w []->CW P n c (Out P fn q) [] (Out P fn q) (entry args) w)(ha:Nat.ble args.size n=true:=by rfl):Calls P f args w (jF q):=enter hf hb hn ha (h (Hp.start w))
theorem ou{o:Obj}(hH:Hp w0 w L)(hr:(execOp (ev σ) ⟨some d,op,ty,pos,bH,none⟩).run P w= .ok (.value (.pointer (some ⟨w.heap.size,0,none⟩))) (w.alloc o))
 (hk:∀b w',Hp w0 w' (.blk b o::L)->RL P n ops k rest (k7 σ d (.pointer (some ⟨b,0,none⟩))) w') (hd:Nat.blt d n=true:=by rfl):RL P n ops k (⟨some d,op,ty,pos,bH,none⟩::rest) σ w:=Wg hd hH (f:=fun b=> .pointer (some ⟨b,0,none⟩)) hr hk
theorem gX(hH:Hp w0 w L){v:Value}(hx:ev σ x=v)
 (hk:∀b w',Hp w0 w' (.blk b (.cells v.cells e)::L)->RL P n ops k rest (k7 σ d (.pointer (some ⟨b,0,none⟩))) w') (hd:Nat.blt d n=true:=by rfl):RL P n ops k (⟨some d,.box e x,ty,pos,bH,none⟩::rest) σ w:=ou hH (IT hx) hk hd
theorem vP(a m:Nat){o:Obj}(hH:Hp w0 w L)(hr:(execOp (ev σ) ⟨some d,op,ty,pos,bH,none⟩).run P w= .ok (.value (.slice (some ⟨w.heap.size,0,none⟩) a m)) (w.alloc o))
 (hk:∀b w',Hp w0 w' (.blk b o::L)->RL P n ops k rest (k7 σ d (.slice (some ⟨b,0,none⟩) a m)) w') (hd:Nat.blt d n=true:=by rfl):RL P n ops k (⟨some d,op,ty,pos,bH,none⟩::rest) σ w:=Wg hd hH (f:=fun b=> .slice (some ⟨b,0,none⟩) a m) hr hk
theorem lV(hu:P.underlying t=some td)(hH:Hp w0 w L)(i:Nat)(hx:ev σ x= .pointer (some ⟨b,off,none⟩))(hi:L[i]?=some (.blk b (.cells c e fr)))(hc:c[off]?=some v)
 (hk:RL P n ops k rest (k7 σ d v) w) (hr:td.isRow=false:=by rfl) (hd:Nat.blt d n=true:=by rfl):RL P n ops k (⟨some d,.load t x,ty,pos,bH,none⟩::rest) σ w:=n5 hd (az hu hr hx (hH.cell hi hc)) hk
theorem lI{a:Int}(hu:P.underlying t=some td)(hH:Hp w0 w L)(i:Nat)(hx:ev σ x= .pointer (some ⟨b,off,none⟩))(hi:L[i]?=some (.blk b (.cells c e fr)))(hc:c[off]?=some (I a))
 (hk:RL P n ops k rest (k7 σ d (I a)) w) (hr:td.isRow=false:=by rfl) (hd:Nat.blt d n=true:=by rfl):RL P n ops k (⟨some d,.load t x,ty,pos,bH,none⟩::rest) σ w:=n5 hd (az hu hr hx (hH.cell hi hc)) hk
theorem lP{p q:Nat}(hu:P.underlying t=some td)(hH:Hp w0 w L)(i:Nat)(hx:ev σ x= .pointer (some ⟨b,off,none⟩))(hi:L[i]?=some (.blk b (.cells c e fr)))(hc:c[off]?=some (Pn p q))
 (hk:RL P n ops k rest (k7 σ d (Pn p q)) w) (hr:td.isRow=false:=by rfl) (hd:Nat.blt d n=true:=by rfl):RL P n ops k (⟨some d,.load t x,ty,pos,bH,none⟩::rest) σ w:=n5 hd (az hu hr hx (hH.cell hi hc)) hk
theorem tV(i:Nat)(hi:l[i]?=some ⟨some d,.load t x,ty,pos,bH,none⟩)(hS:Hp w0 w L)(hu:P.underlying t=some td)(j:Nat)(hx:ev σ x= .pointer (some ⟨b,off,none⟩))(hj:L[j]?=some (.blk b (.cells c e fr)))(hc:c[off]?=some v)
 (h:AN P n l (fun w=>Hp w0 w L) k fuel (listed.setIfInBounds i true) (k7 σ d v) w) (ht:td.isRow=false:=by rfl) (hd:Nat.blt d n=true:=by rfl) (hs:Region.noSelect l.toArray=true:=by kernel_rfl) (hf:Region.free .any l.toArray listed i=true:=by kernel_rfl)
 (hr:(Region.ready .any l.toArray listed).contains i=true:=by kernel_rfl):AN P n l (fun w=>Hp w0 w L) k (fuel+1) listed σ w:=adM i hi hd hs hf hr hS (fun w hS=>az hu ht hx (hS.cell hj hc)) h
theorem tI{a:Int}(i:Nat)(hi:l[i]?=some ⟨some d,.load t x,ty,pos,bH,none⟩)(hS:Hp w0 w L)(hu:P.underlying t=some td)(j:Nat)(hx:ev σ x= .pointer (some ⟨b,off,none⟩))(hj:L[j]?=some (.blk b (.cells c e fr)))(hc:c[off]?=some (I a))
 (h:AN P n l (fun w=>Hp w0 w L) k fuel (listed.setIfInBounds i true) (k7 σ d (I a)) w) (ht:td.isRow=false:=by rfl) (hd:Nat.blt d n=true:=by rfl) (hs:Region.noSelect l.toArray=true:=by kernel_rfl) (hf:Region.free .any l.toArray listed i=true:=by kernel_rfl)
 (hr:(Region.ready .any l.toArray listed).contains i=true:=by kernel_rfl):AN P n l (fun w=>Hp w0 w L) k (fuel+1) listed σ w:=tV i hi hS hu j hx hj hc h ht hd hs hf hr
theorem tP{p q:Nat}(i:Nat)(hi:l[i]?=some ⟨some d,.load t x,ty,pos,bH,none⟩)(hS:Hp w0 w L)(hu:P.underlying t=some td)(j:Nat)(hx:ev σ x= .pointer (some ⟨b,off,none⟩))(hj:L[j]?=some (.blk b (.cells c e fr)))(hc:c[off]?=some (Pn p q))
 (h:AN P n l (fun w=>Hp w0 w L) k fuel (listed.setIfInBounds i true) (k7 σ d (Pn p q)) w) (ht:td.isRow=false:=by rfl) (hd:Nat.blt d n=true:=by rfl) (hs:Region.noSelect l.toArray=true:=by kernel_rfl) (hf:Region.free .any l.toArray listed i=true:=by kernel_rfl)
 (hr:(Region.ready .any l.toArray listed).contains i=true:=by kernel_rfl):AN P n l (fun w=>Hp w0 w L) k (fuel+1) listed σ w:=tV i hi hS hu j hx hj hc h ht hd hs hf hr
theorem oB{t:Nat}{a b:Bool}(h:fn.results=#[.tmp t])(he:a=b)(hH:Hp w0 w L)(hs:σ t=B a:=by rfl):Out P fn (fun u w'=>u=B b/\Below w0.heap.size w0 w') σ w:=Ez h (hs.trans (aJ B he)) hH.below
theorem oI{t:Nat}{a b:Int}(h:fn.results=#[.tmp t])(he:a=b)(hH:Hp w0 w L)(hs:σ t=I a:=by rfl):Out P fn (fun u w'=>u=I b/\Below w0.heap.size w0 w') σ w:=Ez h (hs.trans (aJ I he)) hH.below
theorem oU{t:Nat}{a b:BitVec 64}(h:fn.results=#[.tmp t])(he:a=b)(hH:Hp w0 w L)(hs:σ t=U a:=by rfl):Out P fn (fun u w'=>u=U b/\Below w0.heap.size w0 w') σ w:=Ez h (hs.trans (aJ U he)) hH.below
end
end
section
open Go Go.RowKit Go.ChangeShapes Go.WideShapes Go.ChangeAt
theorem C7{H:Type}{enc:TypeId×Value->H}{P:Program}(hl:laidOutB P=true){W W':World}(hb:Below W.heap.size W W'):
  ∀{ts:List TypeId} {vs:List Value} {ds:List (DataW H)} {p:List MemPlace},(ts.all fun t=>P.readableRec t&&decide (t<P.types.size))=true->(∀x∈p,x.block<W.heap.size)->
   DataW.TrodAll enc P W 0 (fun _=>true) true ts vs ds p->DataW.TrodAll enc P W' 0 (fun b=>decide (b<W.heap.size)) true ts vs ds p
 |[],_,_,_,_,_,h=>by
  obtain⟨rfl,rfl,rfl⟩:=trodAll_nil h
  exact trodAll_mk0
 |t::ts,_,_,_,hr,hlt,h=>by
  obtain⟨v,LY,d,ds1,a,b,rfl,rfl,rfl,h1,h2⟩:=trodAll_cons h
  simp only[List.all_cons,cm,dP]at hr
  exact trodAll_cons_mk (Below.trod hl hr.1.1 hr.1.2 h1 hb fun x hx=>hlt x pY) (C7 hl hb (by simpa using hr.2) (fun x hx=>hlt x pY) h2)
theorem ahf{H:Type}{enc:TypeId×Value->H}{P:Program}{f:FuncId}{fn:Func}{s:ChangeSpec}{W:World}{args:Array Value}{ds gs:List (DataW H)}{before:List MemPlace}{rt:TypeId}
  (hl:laidOutB P=true) (hro:(fn.params.toList.all fun t=>P.readableRec t&&decide (t<P.types.size))=true) (hrt:fn.resultTypes=#[rt]) (avi:P.underlying rt=some .bool) (hvars:s.vars=[])
  (hres:(s.fn H (ds++gs)).results=[.lit (.bool true)]) (hargs:(s.fn H (ds++gs)).args=ds) (hvs:(s.fn H (ds++gs)).vars=[])
  (hW:DataW.Whole enc P fn.params.toList s.vars false W args.toList ds gs before)
  (hc:Calls P f args W (Pure (B true) W)):
  Calls P f args W fun e W'=>∃v,e= .returned v/\s.post enc P fn false true false false W args v W':=by
 refine hc.mono fun e W' hr=> ?_
 cases e with
 |panicked c=>exact hr.elim
 |outgrown=>exact hr.elim
 |returned v=>
  obtain⟨rfl,hb⟩:=hr
  have hW':=hW
  obtain⟨p,q,hA,hV,rfl,_⟩:=hW
  have hlt:∀x∈p,x.block<W.heap.size:=fun x hx=>by simpa using hW'.lt x pY
  refine⟨_,rfl,ds,gs,_,[],p,[],hW',?_,?_,?_,hb.frame _,fun h=>n4⟩
  .rw[hres,hrt]
   exact trodAll_cons_mk (shut_bool avi _) trodAll_mk0
  .rw[hargs]
   exact C7 hl hb hro hlt hA
  rw[hvs,hvars];rfl
theorem aB0{n:Int}(h:(Lit.int .u64 n).wf=true):∃a:BitVec 64,n=(a.toNat:Int):=by
 simp[Lit.wf,IntKind.min,IntKind.max,IntKind.signed,IntKind.bits]at h
 refine⟨BitVec.ofInt 64 n,?_⟩
 rw[Pt];omega
end
section
open Go Go.RowKit Go.ChangeShapes Go.WideShapes Go.ChangeAt Go.Proofs.YtlhjdflgjbkpmaaGreatDoor.M
theorem ZN{α:Type}(cells:α->List Value)(sz:Nat)(hsz:∀a,(cells a).length=sz):∀(l:List α) (j:Nat) (c:Value),(l.flatMap cells)[j]?=some c->∃i a r,l[i]?=some a/\j=i*sz+r/\r<sz/\(cells a)[r]?=some c
 |[],j,c,h=>by simp at h
 |a::l,j,c,h=>by
  rw[s0]at h
  by_cases hj:j<sz
  .rw[xS (by rw[hsz];exact hj)]at h
   exact⟨0,a,j,rfl,J,hj,h⟩
  rw[Az (by rw[hsz];omega),hsz]at h
  obtain⟨i,b,r,h1,h2,h3,h4⟩:=ZN cells sz hsz l _ c h
  exact⟨i+1,b,r,DL,by rw[kE];omega,h3,h4⟩
theorem ahg{α:Type}(cells:α->List Value)(sz:Nat)(hsz:∀a,(cells a).length=sz)(l:List α):(l.flatMap cells).length=l.length*sz:=by
 induction l with
 |nil=>simp
 |cons a l ih=>rw[s0,cV,hsz,ih,eE,kE];omega
theorem o8{α H:Type}{enc:TypeId×Value->H}{P:Program}{w:World}{base:Nat}{sp:Nat->Bool}{held:Bool}{t e:TypeId}{zx:List Value}{x:DataW H×List MemPlace}{fuel sz:Nat}(cells:α->List Value)(ok:α->Prop)
  (hsz:∀a,(cells a).length=sz) (hpos:0<sz) (ht:P.underlying t=some (.slice e)) (hc:P.cellsOf e=sz)
  (hE:∀fuel cs x,DataW.trod enc P w base sp held fuel e cs=some x->∃a,cs=cells a/\ok a) (h:DataW.trod enc P w base sp held fuel t zx=some x):
  ∃(v:Value) (l:List α),zx=[v]/\Sl w v sz l.length (l.flatMap cells)/\(∀a∈l,ok a)/\v.cells=#[v]:=by
 rcases DataW.trod_slice ht h with⟨h1,-⟩|⟨a,len,cap,elems,rest,n,_,rfl,-,hb,hl,hm,hlen,hel,-,-⟩
 .exact⟨_,[],h1,Sl.nil w sz,fun a ha=>by simp at ha,rfl⟩
 have key:∀k,k<=len->∃l:List α,l.length=k/\∀i b,l[i]?=some b->w.cells? base (a.add (i*sz)) sz=some (cells b)/\ok b:=fun k=>by
  induction k with
  |zero=>exact fun _=>⟨[],rfl,fun i b hi=>by simp at hi⟩
  |succ k ih=>
   intro hk
   obtain⟨l,h1,h2⟩:=ih J
   have h3:=hel k J
   rw[dO (by omega:k<elems.length),Option.bind_eq_some_iff,hc]at h3
   obtain⟨cs,h4,h5⟩:=h3
   obtain⟨b,rfl,U2⟩:=hE _ _ _ h5
   refine⟨l++[b],by simp[h1],fun i c hi=> ?_⟩
   by_cases hik:i<k
   .rw[xS J]at hi;exact h2 i c hi
   have:i=k:=by
    have:=(mC.1 hi).1
    simp[h1]at this;omega
   subst this
   rw[Az J,h1]at hi
   simp at hi;subst hi;exact⟨h4,U2⟩
 obtain⟨l,h1,h2⟩:=key len (eI _)
 refine⟨_,l,rfl,?_,fun b U2=> ?_,rfl⟩
 .have anr:0<len->a.spot=none:=fun h0=>by
   have h3:=(h2 0 (l.getD 0 (l[0]'J)) (by rw[ep,dO J];rfl)).1
   have h4:=(World.cells?_some h3).2.2 0 hpos
   rw[PK]at h4
   have h5:a.add 0=a\/a.spot=none:=by
    unfold Addr.add
    split
    .rename_i hs;exact .inl (by cases a;simp)
    rename_i hs;exact .inr (by cases hq:a.spot with
     |none=>rfl
     |some _=>simp_all)
   have hcs:((cells (l.getD 0 (l[0]'J)))[0]?)≠none:=by
    rw[Ne,List.getElem?_eq_none_iff,hsz];omega
   rcases h5 with h5|h5
   .rw[h5,h5]at h4
    unfold World.cell? at h4
    split at h4
    .split at h4
     .exact absurd h4.symm hcs
     rename_i hns;cases h6:a.spot with
     |none=>rfl
     |some _=>rw[h6]at hns;simp at hns
    exact absurd h4.symm hcs
   exact h5
  have avk:0<len->∀j,a.add j=⟨a.block,a.off+j,none⟩:=fun h0 j=>by
   have:=anr h0
   unfold Addr.add
   cases a;simp_all
  refine⟨⟨some a,cap,by rw[h1],by rw[h1];exact hl,fun h0=> ?_⟩,ahg cells sz hsz l,fun j c hj=> ?_,by rw[h1];omega⟩
  .rw[h1]at h0
   have:=anr h0
   cases a;simp_all [sb,so]
  obtain⟨i,b,r,hi,rfl,hr,hbr⟩:=ZN cells sz hsz l j c hj
  have avl:0<len:=by have:=(mC.1 hi).1;omega
  have h6:=(World.cells?_some (h2 i b hi).1).2.2 r hr
  rw[avk avl,show(⟨a.block,a.off+i*sz,none⟩:Addr).add r=⟨a.block,a.off+i*sz+r,none⟩by simp[Addr.add]]at h6
  show w.cell? ⟨a.block,a.off+(i*sz+r),none⟩=some c
  rw[<-xZ,h6,hbr]
 obtain⟨i,hi⟩:=List.getElem?_of_mem U2
 exact(h2 i b hi).2
end
section
open Go Go.RowKit Go.ChangeShapes Go.WideShapes Go.ChangeAt Go.Deep Go.Proofs.YtlhjdflgjbkpmaaGreatDoor.M
theorem ahh{cs:List Value}(hl:cs.length=8)(h:∀i,i<8->∃a:BitVec 64,cs[i]?=some (U a)):∃e:El,cs=sC e:=by
 have hf:∀i:Nat,∃a:BitVec 64,i<8->cs[i]?=some (U a):=fun i=>by
  by_cases hi:i<8
  .obtain⟨a,ha⟩:=h i hi;exact⟨a,fun _=>ha⟩
  exact⟨0#64,fun h=>absurd h hi⟩
 refine⟨fun i=>(hf i).choose,sF fun j=> ?_⟩
 by_cases hj:j<8
 .rw[(hf j).choose_spec hj];simp[sC,hj]
 rw[mJ J,mJ (by rw[fw];omega)]
theorem als(l:List Tx):l.flatMap (fun s=>[Value.string s])=HS l:=by
 induction l with
 |nil=>rfl
 |cons a l ih=>rw[s0,ih];rfl
structure ans(P:Program)(t ti ta te:TypeId):Prop where
 u:∃f0 f1:Field,P.underlying t=some (.struct #[f0,f1])/\(f0.type=ti/\f0.offset=0)/\(f1.type=ta/\f1.offset=1)
 i:P.underlying ti=some (.int .i64)
 ci:P.cellsOf ti=1
 a:P.underlying ta=some (.array 64 te)
 e:P.underlying te=some (.int .u64)
 ce:P.cellsOf te=1
 ca:P.cellsOf ta=64
 z:P.cellsOf t=65
structure ant(P:Program)(t tk ts tx tr ti ta te:TypeId):Prop where
 r:ans P tr ti ta te
 u:∃f0 f1 f2:Field,P.underlying t=some (.struct #[f0,f1,f2])/\(f0.type=tk/\f0.offset=0)/\(f1.type=ts/\f1.offset=1)/\(f2.type=tr/\f2.offset=2)
 k:P.underlying tk=some (.int .i64)
 ck:P.cellsOf tk=1
 s:P.underlying ts=some (.slice tx)
 cs:P.cellsOf ts=1
 x:P.underlying tx=some .string
 cx:P.cellsOf tx=1
 z:P.cellsOf t=67
structure anu(P:Program)(t tb H7 tf tk ts tx tr ti ta te:TypeId):Prop where
 f:ant P tf tk ts tx tr ti ta te
 u:∃f0 f1:Field,P.underlying t=some (.struct #[f0,f1])/\(f0.type=tb/\f0.offset=0)/\(f1.type=H7/\f1.offset=1)
 b:P.underlying tb=some .bool
 cb:P.cellsOf tb=1
 fs:P.underlying H7=some (.slice tf)
 cfs:P.cellsOf H7=1
 z:P.cellsOf t=2
section
variable{H:Type}{enc:TypeId×Value->H}{P:Program}{w:World}{base:Nat}{sp:Nat->Bool}{held:Bool}{fuel:Nat}{cs:List Value}{x:DataW H×List MemPlace}{t tb H7 tf tk ts tx tr ti ta te:TypeId}
theorem LZ{n:Nat}(ht:P.underlying t=some (.array n te))(he:P.underlying te=some (.int .u64))(hc:P.cellsOf te=1)(hz:P.cellsOf t=n)(h:DataW.trod enc P w base sp held fuel t cs=some x):
  cs.length=n/\∀i,i<n->∃a:BitVec 64,cs[i]?=some (U a):=by
 obtain⟨xs,m,-,-,hl,hn,hel⟩:=DataW.trod_array ht h
 refine⟨by rw[hl,hz],fun i hi=> ?_⟩
 have h1:=hel i hi
 rw[hc,kX,dO J]at h1
 obtain⟨k,h2,-,wf⟩:=sG he h1
 obtain⟨a,rfl⟩:=aB0 wf
 have h3:((cs.drop i).take 1)[0]?=some (U a):=by rw[h2];rfl
 rw[tM,aR J,xW,JP]at h3
 exact⟨a,h3⟩
theorem ZO(ht:P.underlying t=some (.array 8 te))(he:P.underlying te=some (.int .u64))(hc:P.cellsOf te=1)(hz:P.cellsOf t=8)(h:DataW.trod enc P w base sp held fuel t cs=some x):∃e:El,cs=sC e/\True:=by
 obtain⟨h1,h2⟩:=LZ ht he hc hz h
 obtain⟨e,rfl⟩:=ahh h1 h2
 exact⟨e,rfl,trivial⟩
theorem ahi(T:ans P t ti ta te)(h:DataW.trod enc P w base sp held fuel t cs=some x):∃r:Rl,cs=uX r:=by
 obtain⟨f0,f1,ht,h0,h1⟩:=T.u
 obtain⟨y0,y1,n,-,hl,h2,h3⟩:=trod_struct2 ht h
 rw[h0.1,h0.2,T.ci]at h2
 rw[h1.1,h1.2,T.ca]at h3
 obtain⟨m,h4,-⟩:=sG T.i h2
 obtain⟨h5,h6⟩:=LZ T.a T.e T.ce T.ca h3
 rw[T.z]at hl
 have hf:∀i:Nat,∃a:BitVec 64,i<64->cs[i+1]?=some (U a):=fun i=>by
  by_cases hi:i<64
  .obtain⟨a,ha⟩:=h6 i hi
   rw[tM,aR hi,xW,Nat.add_comm]at ha
   exact⟨a,fun _=>ha⟩
  exact⟨0#64,fun h=>absurd h hi⟩
 refine⟨⟨m,fun i=>(hf i).choose⟩,sF fun j=> ?_⟩
 match j with
 |0=>
  have h7:((cs.drop 0).take 1)[0]?=some (I m):=by rw[h4];rfl
  rw[tM,aR J,xW,JP]at h7
  rw[h7];rfl
 |j+1=>
  by_cases hj:j<64
  .rw[(hf j).choose_spec hj];simp[uX,hj]
  rw[mJ J,mJ (by rw[ox];omega)]
theorem ahj(T:ant P t tk ts tx tr ti ta te)(h:DataW.trod enc P w base sp held fuel t cs=some x):∃f:pI,cs=rj f/\uY (Kw w) f:=by
 obtain⟨f0,f1,f2,ht,h0,h1,h2⟩:=T.u
 obtain⟨y0,y1,y2,n,-,hl,h3,h4,h5⟩:=trod_struct3 ht h
 rw[h0.1,h0.2,T.ck]at h3
 rw[h1.1,h1.2,T.cs]at h4
 rw[h2.1,h2.2,T.r.z]at h5
 obtain⟨m,e3,-⟩:=sG T.k h3
 obtain⟨v,l,e4,hs,-,-⟩:=o8 (sz:=1) (fun s:Tx=>[Value.string s]) (fun _=>True) (fun _=>rfl) J T.s T.cx (fun _ _ _ hx=>by
  obtain⟨s,e,-⟩:=JE T.x hx
  exact⟨s,e,trivial⟩) h4
 obtain⟨r,e5⟩:=ahi T.r h5
 rw[als]at hs
 rw[T.z]at hl
 refine⟨⟨m,v,l,r⟩,?_,⟨hs.slv⟩⟩
 match cs,hl with
 |a::b::c,hl=>
  simp only[eE]at hl
  simp only[JJ,FM,we,Jy]at e3 e4 e5
  rw[iD J]at e5
  rw[rj,e5,(List.cons.inj e3).1,(List.cons.inj e4).1]
theorem ahk(T:anu P t tb H7 tf tk ts tx tr ti ta te)(h:DataW.trod enc P w base sp held fuel t cs=some x):∃s:kL,cs=[B s.tuple,s.fv]/\kO (Kw w) s:=by
 obtain⟨f0,f1,ht,h0,h1⟩:=T.u
 obtain⟨y0,y1,n,-,hl,h2,h3⟩:=trod_struct2 ht h
 rw[h0.1,h0.2,T.cb]at h2
 rw[h1.1,h1.2,T.cfs]at h3
 obtain⟨m,e2,-⟩:=DataW.trod_bool T.b h2
 obtain⟨v,l,e3,hs,hok,-⟩:=o8 (sz:=67) rj (uY (Kw w)) fB J T.fs T.f.z (fun _ _ _ hx=>ahj T.f hx) h3
 rw[T.z]at hl
 refine⟨⟨m,v,l⟩,?_,⟨hs.slv,hok⟩⟩
 match cs,hl with
 |[a,b],_=>
  simp at e2 e3
  rw[e2,e3]
end
section
variable{P:Program}{w:World}{r:Reach}{b0:Nat}{t te:TypeId}{v:Value}
end
structure anv(P:Program)(t tx ti:TypeId):Prop where
 u:∃f0 f1 f2:Field,P.underlying t=some (.struct #[f0,f1,f2])/\(f0.type=tx/\f0.offset=0)/\(f1.type=ti/\f1.offset=1)/\(f2.type=ti/\f2.offset=2)
 x:P.underlying tx=some .string
 cx:P.cellsOf tx=1
 i:P.underlying ti=some (.int .i64)
 ci:P.cellsOf ti=1
 z:P.cellsOf t=3
structure aHh(P:Program)(t ti:TypeId):Prop where
 u:∃f0 f1:Field,P.underlying t=some (.struct #[f0,f1])/\(f0.type=ti/\f0.offset=0)/\(f1.type=ti/\f1.offset=1)
 i:P.underlying ti=some (.int .i64)
 ci:P.cellsOf ti=1
 z:P.cellsOf t=2
structure anw(P:Program)(t tsh tb H7 tf tk ts tx tr ti ta te:TypeId):Prop where
 s:anu P tsh tb H7 tf tk ts tx tr ti ta te
 u:∃f0 f1:Field,P.underlying t=some (.struct #[f0,f1])/\(f0.type=tx/\f0.offset=0)/\(f1.type=tsh/\f1.offset=1)
 z:P.cellsOf t=3
structure anx(P:Program)(t tls tvs tv tl tsh tb H7 tf tk ts tx tr ti ta te:TypeId):Prop where
 l:anw P tl tsh tb H7 tf tk ts tx tr ti ta te
 v:anv P tv tx ti
 u:∃f0 f1:Field,P.underlying t=some (.struct #[f0,f1])/\(f0.type=tls/\f0.offset=0)/\(f1.type=tvs/\f1.offset=1)
 ls:P.underlying tls=some (.slice tl)
 vs:P.underlying tvs=some (.slice tv)
 cls:P.cellsOf tls=1
 cvs:P.cellsOf tvs=1
 z:P.cellsOf t=2
section
variable{H:Type}{enc:TypeId×Value->H}{P:Program}{w:World}{base:Nat}{sp:Nat->Bool}{held:Bool}{fuel:Nat}{cs:List Value}{x:DataW H×List MemPlace}{t tls tvs tv tl tsh tb H7 tf tk ts tx tr ti ta te:TypeId}
theorem ahl(T:anv P t tx ti)(h:DataW.trod enc P w base sp held fuel t cs=some x):∃v:nn,cs=Io v/\True:=by
 obtain⟨f0,f1,f2,ht,h0,h1,h2⟩:=T.u
 obtain⟨y0,y1,y2,n,-,hl,h3,h4,h5⟩:=trod_struct3 ht h
 rw[h0.1,h0.2,T.cx]at h3
 rw[h1.1,h1.2,T.ci]at h4
 rw[h2.1,h2.2,T.ci]at h5
 obtain⟨a,e3,-⟩:=JE T.x h3
 obtain⟨b,e4,-⟩:=sG T.i h4
 obtain⟨c,e5,-⟩:=sG T.i h5
 rw[T.z]at hl
 match cs,hl with
 |[u,v,z],_=>
  simp at e3 e4 e5
  exact⟨⟨a,b,c⟩,by rw[e3,e4,e5];rfl,trivial⟩
theorem ahm(T:anw P t tsh tb H7 tf tk ts tx tr ti ta te)(h:DataW.trod enc P w base sp held fuel t cs=some x):∃l:zZ,cs=K2 l/\kO (Kw w) l.yz:=by
 obtain⟨f0,f1,ht,h0,h1⟩:=T.u
 obtain⟨y0,y1,n,-,hl,h3,h4⟩:=trod_struct2 ht h
 rw[h0.1,h0.2,T.s.f.cx]at h3
 rw[h1.1,h1.2,T.s.z]at h4
 obtain⟨a,e3,-⟩:=JE T.s.f.x h3
 obtain⟨s,e4,hs⟩:=ahk T.s h4
 rw[T.z]at hl
 refine⟨⟨a,s⟩,?_,hs⟩
 match cs,hl with
 |[u,v,z],_=>
  simp at e3 e4
  rw[e3,e4.1,e4.2];rfl
theorem ahn(T:anx P t tls tvs tv tl tsh tb H7 tf tk ts tx tr ti ta te)(h:DataW.trod enc P w base sp held fuel t cs=some x):∃s:kx,cs=[s.lv,s.vv]/\xm (Kw w) s:=by
 obtain⟨f0,f1,ht,h0,h1⟩:=T.u
 obtain⟨y0,y1,n,-,hl,h3,h4⟩:=trod_struct2 ht h
 rw[h0.1,h0.2,T.cls]at h3
 rw[h1.1,h1.2,T.cvs]at h4
 obtain⟨v,l,e3,hs,hok,-⟩:=o8 (sz:=3) K2 (fun l=>kO (Kw w) l.yz) r6 J T.ls T.l.z (fun _ _ _ hx=>ahm T.l hx) h3
 obtain⟨v2,l2,e4,hs2,-,-⟩:=o8 (sz:=3) Io (fun _=>True) uu J T.vs T.v.z (fun _ _ _ hx=>ahl T.v hx) h4
 rw[T.z]at hl
 refine⟨⟨v,l,v2,l2⟩,?_,⟨hs.slv,hs2.slv,hok⟩⟩
 match cs,hl with
 |[a,b],_=>
  simp at e3 e4
  rw[e3,e4]
end
structure Xw(P:Program)(t ti te tu:TypeId):Prop where
 u:∃f0 f1:Field,P.underlying t=some (.struct #[f0,f1])/\(f0.type=ti/\f0.offset=0)/\(f1.type=te/\f1.offset=1)
 i:P.underlying ti=some (.int .i64)
 ci:P.cellsOf ti=1
 e:P.underlying te=some (.array 8 tu)
 hu:P.underlying tu=some (.int .u64)
 cu:P.cellsOf tu=1
 ce:P.cellsOf te=8
 z:P.cellsOf t=9
structure ZP(P:Program)(t ta tx ti te tu:TypeId):Prop where
 a:Xw P ta ti te tu
 u:∃f0 f1:Field,P.underlying t=some (.struct #[f0,f1])/\(f0.type=tx/\f0.offset=0)/\(f1.type=ta/\f1.offset=1)
 x:P.underlying tx=some .string
 cx:P.cellsOf tx=1
 z:P.cellsOf t=10
structure anz(P:Program)(t H7 tf ta tx ti te tu:TypeId):Prop where
 f:ZP P tf ta tx ti te tu
 u:∃f0 f1:Field,P.underlying t=some (.struct #[f0,f1])/\(f0.type=H7/\f0.offset=0)/\(f1.type=ti/\f1.offset=1)
 fs:P.underlying H7=some (.slice tf)
 cfs:P.cellsOf H7=1
 z:P.cellsOf t=2
structure anA(P:Program)(t ti te tu:TypeId):Prop where
 u:∃f0 f1 f2:Field,P.underlying t=some (.struct #[f0,f1,f2])/\(f0.type=ti/\f0.offset=0)/\(f1.type=ti/\f1.offset=1)/\(f2.type=te/\f2.offset=2)
 z:P.cellsOf t=10
structure ZQ(P:Program)(t tcs tn tr H7 tf ta tx ti te tu:TypeId):Prop where
 r:anz P tr H7 tf ta tx ti te tu
 n:anA P tn ti te tu
 u:∃f0 f1 f2 f3 f4 f5 f6 f7:Field,P.underlying t=some (.struct #[f0,f1,f2,f3,f4,f5,f6,f7])/\(f0.type=ti/\f0.offset=0)/\(f1.type=ti/\f1.offset=1)/\(f2.type=tcs/\f2.offset=2)/\(f3.type=ta/\f3.offset=3)/\(f4.type=tr/\f4.offset=12)/\(f5.type=tr/\f5.offset=14)/\(f6.type=ti/\f6.offset=16)/\(f7.type=tx/\f7.offset=17)
 cs:P.underlying tcs=some (.slice tn)
 ccs:P.cellsOf tcs=1
 z:P.cellsOf t=18
structure aho(P:Program)(t tas tss alu alv alw alx aly alz alA alB alC ZR ZS ZT ZU ZV ahp tcs tn tr H7 tf ta tx ti te tu:TypeId):Prop where
 a:ZQ P ahp tcs tn tr H7 tf ta tx ti te tu
 s:anx P tss alu alv alw alx aly alz alA alB alC ZR ZS ZT ZU ZV tu
 u:∃f0 f1:Field,P.underlying t=some (.struct #[f0,f1])/\(f0.type=tss/\f0.offset=0)/\(f1.type=tas/\f1.offset=2)
 HO:P.underlying tas=some (.slice ahp)
 cas:P.cellsOf tas=1
 z:P.cellsOf t=3
section
variable{H:Type}{enc:TypeId×Value->H}{P:Program}{w:World}{base:Nat}{sp:Nat->Bool}{held:Bool}{fuel:Nat}{cs:List Value}{x:DataW H×List MemPlace}{t tas ahp tcs tn tr H7 tf ta tx ti te tu tss alu alv alw alx aly alz alA alB alC ZR ZS ZT ZU ZV:TypeId}
theorem OT(T:Xw P t ti te tu)(h:DataW.trod enc P w base sp held fuel t cs=some x):∃a:gZ,cs=iS a/\True:=by
 obtain⟨f0,f1,ht,h0,h1⟩:=T.u
 obtain⟨y0,y1,n,-,hl,h3,h4⟩:=trod_struct2 ht h
 rw[h0.1,h0.2,T.ci]at h3
 rw[h1.1,h1.2,T.ce]at h4
 obtain⟨b,e3,-⟩:=sG T.i h3
 obtain⟨c,e4,-⟩:=ZO T.e T.hu T.cu T.ce h4
 rw[T.z]at hl
 match cs,hl with
 |u::cs,hl=>
  simp at e3 hl
  refine⟨⟨b,c⟩,?_,trivial⟩
  rw[Jy,JJ,iD J]at e4
  rw[e3,e4];rfl
theorem Xx(T:ZP P t ta tx ti te tu)(h:DataW.trod enc P w base sp held fuel t cs=some x):∃a:kJ,cs=sO a/\True:=by
 obtain⟨f0,f1,ht,h0,h1⟩:=T.u
 obtain⟨y0,y1,n,-,hl,h3,h4⟩:=trod_struct2 ht h
 rw[h0.1,h0.2,T.cx]at h3
 rw[h1.1,h1.2,T.a.z]at h4
 obtain⟨b,e3,-⟩:=JE T.x h3
 obtain⟨c,e4,-⟩:=OT T.a h4
 rw[T.z]at hl
 match cs,hl with
 |u::cs,hl=>
  simp at e3 hl
  refine⟨⟨b,c⟩,?_,trivial⟩
  rw[Jy,JJ,iD J]at e4
  rw[e3,e4];rfl
theorem OU(T:anz P t H7 tf ta tx ti te tu)(h:DataW.trod enc P w base sp held fuel t cs=some x):∃r:z6,cs=Qq r/\WN (Kw w) r:=by
 obtain⟨f0,f1,ht,h0,h1⟩:=T.u
 obtain⟨y0,y1,n,-,hl,h3,h4⟩:=trod_struct2 ht h
 rw[h0.1,h0.2,T.cfs]at h3
 rw[h1.1,h1.2,T.f.a.ci]at h4
 obtain⟨v,l,e3,hs,-,-⟩:=o8 (sz:=10) sO (fun _=>True) ry J T.fs T.f.z (fun _ _ _ hx=>Xx T.f hx) h3
 obtain⟨b,e4,-⟩:=sG T.f.a.i h4
 rw[T.z]at hl
 refine⟨⟨v,l,b⟩,?_,⟨hs.slv⟩⟩
 match cs,hl with
 |[a,c],_=>
  simp at e3 e4
  rw[e3,e4];rfl
theorem ahq(A:Xw P ta ti te tu)(T:anA P t ti te tu)(h:DataW.trod enc P w base sp held fuel t cs=some x):∃a:dI,cs=jW a/\True:=by
 obtain⟨f0,f1,f2,ht,h0,h1,h2⟩:=T.u
 obtain⟨y0,y1,y2,n,-,hl,h3,h4,h5⟩:=trod_struct3 ht h
 rw[h0.1,h0.2,A.ci]at h3
 rw[h1.1,h1.2,A.ci]at h4
 rw[h2.1,h2.2,A.ce]at h5
 obtain⟨a,e3,-⟩:=sG A.i h3
 obtain⟨b,e4,-⟩:=sG A.i h4
 obtain⟨c,e5,-⟩:=ZO A.e A.hu A.cu A.ce h5
 rw[T.z]at hl
 match cs,hl with
 |u::v::cs,hl=>
  simp at e3 e4 hl
  refine⟨⟨a,b,c⟩,?_,trivial⟩
  rw[Jy,Jy,JJ,iD J]at e5
  rw[e3,e4,e5];rfl
theorem T3(T:ZQ P t tcs tn tr H7 tf ta tx ti te tu)(h:DataW.trod enc P w base sp held fuel t cs=some x):∃a:fU,cs=u3 a/\GO (Kw w) a:=by
 obtain⟨f0,f1,f2,f3,f4,f5,f6,f7,ht,h0,h1,h2,h3,h4,h5,h6,h7⟩:=T.u
 obtain⟨xs,n,hfu,rfl,hl,hlen,hf⟩:=DataW.trod_struct ht h
 have g0:=hf 0 f0 O
 have g1:=hf 1 f1 O
 have g2:=hf 2 f2 O
 have g3:=hf 3 f3 O
 have g4:=hf 4 f4 O
 have g5:=hf 5 f5 O
 have g6:=hf 6 f6 O
 have g7:=hf 7 f7 O
 match xs,hlen with
 |[y0,y1,y2,y3,y4,y5,y6,y7],_=>
  simp only[List.getElem?_cons_zero,List.getElem?_cons_succ]at g0 g1 g2 g3 g4 g5 g6 g7
  rw[h0.1,h0.2,T.r.f.a.ci]at g0
  rw[h1.1,h1.2,T.r.f.a.ci]at g1
  rw[h2.1,h2.2,T.ccs]at g2
  rw[h3.1,h3.2,T.r.f.a.z]at g3
  rw[h4.1,h4.2,T.r.z]at g4
  rw[h5.1,h5.2,T.r.z]at g5
  rw[h6.1,h6.2,T.r.f.a.ci]at g6
  rw[h7.1,h7.2,T.r.f.cx]at g7
  obtain⟨op,e0,-⟩:=sG T.r.f.a.i g0
  obtain⟨aS,e1,-⟩:=sG T.r.f.a.i g1
  obtain⟨cv,code,e2,hc,-,-⟩:=o8 (sz:=10) jW (fun _=>True) gE J T.cs T.n.z (fun _ _ _ hx=>ahq T.r.f.a T.n hx) g2
  obtain⟨to,e3,-⟩:=OT T.r.f.a g3
  obtain⟨a,e4,ha⟩:=OU T.r g4
  obtain⟨b,e5,hb⟩:=OU T.r g5
  obtain⟨var,e6,-⟩:=sG T.r.f.a.i g6
  obtain⟨field,e7,-⟩:=JE T.r.f.x g7
  rw[T.z]at hl
  refine⟨⟨op,aS,cv,code,to,a,b,var,field⟩,?_,⟨hc.slv,ha,hb⟩⟩
  match cs,hl with
  |[u0,u1,u2,v0,v1,v2,v3,v4,v5,v6,v7,v8,a0,a1,b0,b1,z0,z1],_=>
   simp[Qq]at e0 e1 e2 e3 e4 e5 e6 e7
   rw[e0,e1,e2,e4.1,e4.2,e5.1,e5.2,e6,e7]
   show _=I op::I aS::cv::(iS to++_)
   rw[<-e3];rfl
theorem abY(T:aho P t tas tss alu alv alw alx aly alz alA alB alC ZR ZS ZT ZU ZV ahp tcs tn tr H7 tf ta tx ti te tu)(h:DataW.trod enc P w base sp held fuel t cs=some x):∃p:mY,cs=CY p/\ux (Kw w) p:=by
 obtain⟨f0,f1,ht,h0,h1⟩:=T.u
 obtain⟨y0,y1,n,-,hl,h3,h4⟩:=trod_struct2 ht h
 rw[h0.1,h0.2,T.s.z]at h3
 rw[h1.1,h1.2,T.cas]at h4
 obtain⟨s,e3,hs⟩:=ahn T.s h3
 obtain⟨v,l,e4,ha,hok,-⟩:=o8 (sz:=18) u3 (fun x=>GO (Kw w) x) qb J T.HO T.a.z (fun _ _ _ hx=>T3 T.a hx) h4
 rw[T.z]at hl
 refine⟨⟨s,v,l⟩,?_,⟨hs,ha.slv,hok⟩⟩
 match cs,hl with
 |[a,b,c],_=>
  simp at e3 e4
  rw[e3.1,e3.2,e4];rfl
theorem ahr{r:Reach}{b0:Nat}{v:Value}{d:DataW H}{ps:List MemPlace}(T:ZQ P t tcs tn tr H7 tf ta tx ti te tu)(hval:Value.okWide P w r b0 t v)(hd:DataW.Trod enc P w base sp held t v d ps):∃a:fU,v= .agg (u3 a).toArray/\GO (Kw w) a:=by
 obtain⟨f0,f1,f2,f3,f4,f5,f6,f7,ht,-⟩:=T.u
 obtain⟨cs,rfl,-⟩:=okWide_struct ht hval
 obtain⟨fuel,h⟩:=hd
 obtain⟨s,h1,h2⟩:=T3 T h
 refine⟨s,?_,h2⟩
 congr 1
 exact JU h1
theorem abZ{r:Reach}{b0:Nat}{v:Value}{d:DataW H}{ps:List MemPlace}(T:aho P t tas tss alu alv alw alx aly alz alA alB alC ZR ZS ZT ZU ZV ahp tcs tn tr H7 tf ta tx ti te tu)(hval:Value.okWide P w r b0 t v)(hd:DataW.Trod enc P w base sp held t v d ps):∃p:mY,v= .agg (CY p).toArray/\ux (Kw w) p:=by
 obtain⟨f0,f1,ht,-⟩:=T.u
 obtain⟨cs,rfl,-⟩:=okWide_struct ht hval
 obtain⟨fuel,h⟩:=hd
 obtain⟨s,h1,h2⟩:=abY T h
 refine⟨s,?_,h2⟩
 congr 1
 exact JU h1
end
end
end Go.Proofs.YtlhjdflgjbkpmaaGreatDoor.E

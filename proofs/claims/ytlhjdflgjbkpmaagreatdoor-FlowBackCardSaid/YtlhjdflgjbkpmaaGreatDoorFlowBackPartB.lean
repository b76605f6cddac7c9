/- Part 2 of the proof of FlowBack: its plain laws and the walks of its functions. -/
import Derived.Test.YtlhjdflgjbkpmaaGreatDoorFlowBackPartA
set_option linter.all false
namespace Go.Proofs.YtlhjdflgjbkpmaaGreatDoor.E
section
open Go Go.RowKit Go.Proofs.YtlhjdflgjbkpmaaGreatDoor.M
def aKI(l:List C2)(i:Int):C2:=if 0<=i/\i<l.length then l.getD i.toNat nj else nj
theorem uO.or{K:Vu}{l:List Wb}(h:uO K l)(k:Nat):pw K (l.getD k vr0).v 9 (l.getD k vr0).l.length ((l.getD k vr0).l.flatMap ago):=by
 by_cases hk:k<l.length
 .have:=h.at (k:=(k:Int)) J J
  simpa using this
 rw[eE,mX J];exact pw.nil _ _
section
variable{s:lM}{v:vI}{e:El}{l:List ju}{a:NS}{k:Int}
abbrev shG(s:lM)(v:vI):Sh:=(s.an.getD v.aT.toNat nj).Aa.sh
abbrev okG(s:lM)(a:NS)(k:Int):Bool:=okV s.sc (s.vars.getD k.toNat gD) (a.labels.getD k.toNat dy) (a.rows.getD k.toNat vr0).l
end
section
variable{a b:NS}{k j:Int}
end
def aDV(l:List Wb):Nat:=(l.map fun r=>r.l.length).sum
def aww(v:ju):Bool:=decide (40<v.name.size)
def aDW(r:Wb):Bool:=r.l.any aww
def aOH(a:NS):Bool:=decide (100<a.labels.length\/100<a.rows.length)||a.rows.any aDW||decide (200<(aDV a.rows:Int))
def aDX(b:Tx)(l:List Tx)(k:Int):Tx:=wv b (l.take k.toNat)
def szJ(b:Tx)(l:List Tx):Nat:=(l.map fun x=>x.size+b.size).sum
section
variable{s:lM}{a:NS}{k:Int}
end
section
variable{P m:Tx}{sh:Sh}{l:List ju}{q:Int}
end
abbrev VS(s:lM)(a:NS):List Tx:=aoB s.sc a.Im s.vars.length
section
variable{s:lM}{a:NS}{k:Int}
end
abbrev aOI(p:El×Bool):Value:= .tuple #[.agg (jg p.1),B p.2]
theorem Hg{a b:As}{k:Int}(h0:0<=k)(h1:k<a.rows.length)(h2:k<b.rows.length):((a.rows.zip b.rows).take k.toNat).map (fun p=>O5 p.1 p.2)++[O5 (a.rows.getD k.toNat []) (b.rows.getD k.toNat [])]=((a.rows.zip b.rows).take (k+1).toNat).map fun p=>O5 p.1 p.2:=(agp (F:=fun p:List ju×List ju=>O5 p.1 p.2) h0 h1 h2).symm
section
variable{P:Program}{σ:Env}{w:World}{dst:Option Tmp}{ty t e:TypeId}{pos:String}{bJ:Array Edge}{g:Option (Nat×Bool)}{x:Operand}
theorem rF{a:El}{ie:TypeInfo}{z:Value}(hu:P.underlying t=some (.slice e))(hie:P.info? e=some ie)(hz:ie.zero=some z)(hsz:ie.size=8)(hx:ev σ x= .agg (jg a)):
  (execOp (ev σ) ⟨dst,.buildSlice t 1 #[(0,x)],ty,pos,bJ,g⟩).run P w= .ok (.value (.slice (some ⟨w.heap.size,0,none⟩) 1 1)) (w.alloc (.cells ([a].flatMap sU).toArray e)):=
 nh (ps:=[(0,x)]) (l:=[a]) fy hu hie hz hsz O aD aD (by rw[hG]at hx;simp[hx])
theorem aci{v:Value}{ie:TypeInfo}{z:Value}(h1:v.cells=#[v])(hu:P.underlying t=some (.slice e))(hie:P.info? e=some ie)(hz:ie.zero=some z)(hsz:ie.size=1)(hx:ev σ x=v):
  (execOp (ev σ) ⟨dst,.buildSlice t 1 #[(0,x)],ty,pos,bJ,g⟩).run P w= .ok (.value (.slice (some ⟨w.heap.size,0,none⟩) 1 1)) (w.alloc (.cells ([v]:List Value).toArray e)):=by
 have:=ct (P:=P) (σ:=σ) (w:=w) (dst:=dst) (ty:=ty) (pos:=pos) (bJ:=bJ) (g:=g) (ps:=[(0,x)]) (vs:=[v]) (sz:=1) hu hie hz hsz O az az qg (by simp[h1])
 simpa[h1]using this
end
section
variable{a b:NS}{ls:List El}{gr:List Wb}{v0 v1:Value}{k j:Int}
theorem JE(h1:ls=((a.labels.zip b.labels).take k.toNat).map fun p=>qZ p.1 p.2)(h2:gr.map Wb.l=((a.Im.rows.zip b.Im.rows).take j.toNat).map fun p=>O5 p.1 p.2)(hk:¬(k<a.labels.length/\k<b.labels.length))(hj:¬(j<a.rows.length/\j<b.rows.length)):
  (⟨v0,ls,v1,gr⟩:NS).Im=awr a.Im b.Im:=by
 show(⟨ls,gr.map Wb.l⟩:As)=_
 rw[h1,h2,aab hk,aab (by rw[It,It];exact hj)];rfl
end
section
variable{s:lM}{ls:List El}{v0 v1:Value}{k:Int}
theorem uO.aru(K:Vu)(n:Nat):uO K (List.replicate n vr0):=⟨fun r hr=>by rw[(List.mem_replicate.1 hr).2];exact pw.nil _ _⟩
end
theorem Oz{α:Type}{cl:α->List Value}{sz:Nat}(ni:∀a,(cl a).length=sz)(l:List α)(k:Nat):(l.flatMap cl).take (k*sz)=(l.take k).flatMap cl:=by
 by_cases h:k<=l.length
 .conv=>lhs;rw[<-Gq k l,DT]
  exact List.take_left' (by rw[fh ni,eo,qW h])
 rw[iP (by rw[fh ni];exact qV _ J),iP J]
theorem acj{α:Type}{cl:α->List Value}{sz:Nat}(ni:∀a,(cl a).length=sz)(l:List α)(k:Nat)(h:k<=l.length):(l.flatMap cl).drop (k*sz)=(l.drop k).flatMap cl:=by
 conv=>lhs;rw[<-Gq k l,DT]
 exact List.drop_left' (by rw[fh ni,eo,qW h])
def lsK(s:lM)(k:Int):List El:=(s.vars.take k.toNat).map (ach s.sc)++List.replicate (s.vars.length-k.toNat) dy
section
variable{s:lM}{k:Int}
end
section
variable{l:List ju}{f:Tx}{e:El}{k:Int}
end
def vJ:List Tx:=[⟨#[108,111]⟩,⟨#[104,105]⟩]
def aDY:Sh:=⟨false,[⟨1,vJ,Rl.none⟩]⟩
def exS:Sc:=⟨[aDY],[⟨⟨#[120]⟩,1,0⟩,⟨⟨#[114]⟩,2,0⟩]⟩
def exA:As:=⟨[Av dy 0 1#64,dy],[[],[⟨⟨#[102]⟩,dy⟩]]⟩
section
variable{P:Program}{σ:Env}{w:World}{dst:Option Tmp}{ty t e:TypeId}{pos:String}{bJ:Array Edge}{g:Option (Nat×Bool)}{x y:Operand}
end
def aoC(l:List ju)(f:Tx):Nat:=if O4 l f<0 then spot l f else(O4 l f).toNat
def wTo(l:List ju)(f:Tx)(e:El)(k:Int)(d:Bool):List ju:=(aoz l f e).take (k.toNat+if d&& !(acg l f).2 then 1 else 0)
def wIs(l:List ju)(f:Tx)(k:Int)(d:Bool):Prop:=(d=true->(aoC l f:Int)<k)/\(d=false->k<=(aoC l f:Int))
section
variable{l m:List ju}{f:Tx}{e:El}{k:Int}{d:Bool}
theorem k1(h0:0<=k):(k+1).toNat=k.toNat+1:=J
end
def LQ(l:C2):Bool:=iw l.name&&qY l.Aa.sh
def KG(n:Nat)(v:vI):Bool:=iw v.name&&decide ((v.kind=1\/v.kind=2)/\0<=v.aT/\v.aT<n)
def qu(s:lM):List Tx:=s.an.map C2.name++s.vars.map vI.name
def iJ(s:lM):Bool:=decide (s.an.length<=16/\s.vars.length<=64)&&s.an.all LQ&&s.vars.all (KG s.an.length)&&decide (xQ (qu s)<0)
section
variable{s:lM}
theorem O6(h:¬(s.an.length<=16/\s.vars.length<=64)):iJ s=false:=by grind[iJ]
theorem ack{k:Int}(h0:0<=k)(h1:k<s.an.length)(h:LQ (s.an.getD k.toNat nj)=false):iJ s=false:=by grind[iJ,LL]
theorem xV{k:Int}(h0:0<=k)(h1:k<s.vars.length)(h:KG s.an.length (s.vars.getD k.toNat gD)=false):iJ s=false:=by grind[iJ,LL]
theorem acm{k j:Int}(h:s.an.length<=16/\s.vars.length<=64)(hk:¬k<s.an.length)(hl:∀i:Int,0<=i->i<k->LQ (s.an.getD i.toNat nj)=true)(hj:¬j<s.vars.length)(hv:∀i:Int,0<=i->i<j->KG s.an.length (s.vars.getD i.toNat gD)=true):
 iJ s=decide (xQ (qu s)<0):=by rw[iJ,gB h,Fs hk hl,Fs hj hv];rfl
theorem XY{k:Int}(h0:0<=k)(h1:k<(qu s).length)(h:iw ((qu s).getD k.toNat pu)=false):iJ s=false:=by
 cases hc:iJ s with
 |false=>rfl
 |true=>
  rw[iJ,cH,cH,cH,iC,iC]at hc
  have hm:=ld (fB (d:=pu) h0 h1)
  rw[qu,eP,fU,fU]at hm
  rcases hm with⟨a,ha,e⟩|⟨a,ha,e⟩
  .have:=hc.1.1.2 a ha
   rw[LQ,cH,e]at this
   have h2:=this.1
   rw[qu]at h;rw[h]at h2;cases h2
  have:=hc.1.2 a ha
  rw[KG,cH,e]at this
  have h2:=this.1
  rw[qu]at h;rw[h]at h2;cases h2
theorem acn{k j i:Int}(k1:k<=s.an.length)(j1:j<=s.vars.length)(h:s.an.length<=16/\s.vars.length<=64)(hk:¬k<s.an.length)(hl:∀i:Int,0<=i->i<k->qY (s.an.getD i.toNat nj).Aa.sh=true)(hj:¬j<s.vars.length)(hv:∀i:Int,0<=i->i<j->((s.vars.getD i.toNat gD).kind=1\/(s.vars.getD i.toNat gD).kind=2)/\0<=(s.vars.getD i.toNat gD).aT/\(s.vars.getD i.toNat gD).aT<s.an.length)
  (hi:¬i<(qu s).length) (hn:∀x:Int,0<=x->x<i->iw ((qu s).getD x.toNat pu)=true):iJ s=decide (xQ (qu s)<0):=by
 have hall:∀t∈qu s,iw t=true:=fun t ht=>by
  obtain⟨x,hx,rfl⟩:=sX ht
  have:=hn x J J
  rw[eE,dN,ef hx]at this
  simpa using this
 refine acm h hk (fun x x0 x1=> ?_) hj fun x x0 x1=> ?_
 .rw[LQ,hl x x0 x1,W5]
  refine hall _ (dx _ (List.mem_map_of_mem (ld (fB (d:=nj) x0 J))))
 rw[KG,gB (hv x x0 x1),W5]
 refine hall _ (bt _ (List.mem_map_of_mem (ld (fB (d:=gD) x0 J))))
theorem T7{k:Int}(h0:0<=k)(h1:k<s.an.length):(s.an.take (k+1).toNat).map C2.name=(s.an.take k.toNat).map C2.name++[(s.an.getD k.toNat nj).name]:=by
 have h2:k.toNat<s.an.length:=J
 rw[show(k+1).toNat=k.toNat+1 by omega,yB,gA,eE,ef h2];rfl
theorem Iu{k:Int}(h0:0<=k)(h1:k<s.vars.length):(s.vars.take (k+1).toNat).map vI.name=(s.vars.take k.toNat).map vI.name++[(s.vars.getD k.toNat gD).name]:=by
 have h2:k.toNat<s.vars.length:=J
 rw[show(k+1).toNat=k.toNat+1 by omega,yB,gA,eE,ef h2];rfl
end
end
end Go.Proofs.YtlhjdflgjbkpmaaGreatDoor.E
namespace Go.Proofs.YtlhjdflgjbkpmaaGreatDoor.M
section
open Go
structure dK where
 op:Int
 n:Int
 c:El
structure ix where
 var:Int
 c:El
structure kT where
 name:Tx
 at_:ix
def cA:dK:=⟨0,0,dy⟩
def ags:ix:=⟨0,dy⟩
def mJ:kT:=⟨pu,ags⟩
end
end Go.Proofs.YtlhjdflgjbkpmaaGreatDoor.M
namespace Go.Proofs.YtlhjdflgjbkpmaaGreatDoor.E
section
open Go Go.RowKit Go.Proofs.YtlhjdflgjbkpmaaGreatDoor.M
def kg(x:dK):List Value:=I x.op::I x.n::sU x.c
theorem gK(x:dK):(kg x).length=10:=by simp[kg,fy]
def jd(a:ix):List Value:=I a.var::sU a.c
theorem CN(a:ix):(jd a).length=9:=by simp[jd,fy]
def tj(f:kT):List Value:=S f.name::jd f.at_
theorem rG(f:kT):(tj f).length=10:=by simp[tj,CN]
structure Ax where
 fv:Value
 fields:List kT
 tail:Int
def alR:Ax:=⟨.slice none 0 0,[],0⟩
def Rm(r:Ax):List Value:=[r.fv,I r.tail]
structure ia where
 op:Int
 aT:Int
 cv:Value
 code:List dK
 to:ix
 a:Ax
 b:Ax
 var:Int
 field:Tx
def gz:ia:=⟨0,0,.slice none 0 0,[],ags,alR,alR,0,pu⟩
def Ay(x:ia):List Value:=I x.op::I x.aT::x.cv::(jd x.to++[x.a.fv,I x.a.tail,x.b.fv,I x.b.tail,I x.var,S x.field])
theorem qv(x:ia):(Ay x).length=18:=by simp[Ay,CN]
structure pM where
 s:lM
 av:Value
 bE:List ia
def Iv(p:pM):List Value:=[p.s.lv,p.s.vv,p.av]
structure XZ(K:Vu)(r:Ax):Prop where
 fields:pw K r.fv 10 r.fields.length (r.fields.flatMap tj)
structure IY(K:Vu)(x:ia):Prop where
 code:pw K x.cv 10 x.code.length (x.code.flatMap kg)
 a:XZ K x.a
 b:XZ K x.b
structure xW(K:Vu)(p:pM):Prop where
 s:Eu K p.s
 bE:pw K p.av 18 p.bE.length (p.bE.flatMap Ay)
 each:∀x∈p.bE,IY K x
theorem XZ.mono{K K':Vu}{r:Ax}(h:XZ K r)(hl:Le K K'):XZ K' r:=⟨h.fields.mono hl⟩
theorem IY.mono{K K':Vu}{x:ia}(h:IY K x)(hl:Le K K'):IY K' x:=⟨h.code.mono hl,h.a.mono hl,h.b.mono hl⟩
theorem xW.mono{K K':Vu}{p:pM}(h:xW K p)(hl:Le K K'):xW K' p:=⟨h.s.mono hl,h.bE.mono hl,fun x hx=>(h.each x hx).mono hl⟩
theorem xW.at{K:Vu}{p:pM}(h:xW K p){k:Int}(h0:0<=k)(h1:k<p.bE.length):IY K (p.bE.getD k.toNat gz):=h.each _ (ld (fB (d:=gz) h0 h1))
theorem aad(e:El):(sU e).take 8=sU e:=by grind[fy]
theorem Fu(x:dK):((kg x).toArray.toList.drop 2).take 8=sU x.c:=aad x.c
theorem T8(x:ix):((jd x).toArray.toList.drop 1).take 8=sU x.c:=aad x.c
theorem O7(x:kT):∀(j:Nat) (c:Value),(jd x.at_)[j]?=some c->(tj x)[1+j]?=some c:=by grind[kT,jd,tj]
theorem aae(x:ia):((Ay x).toArray.toList.drop 3).take (jd x.to).length=jd x.to:=uv ..
theorem T9(x:ia):(Ay x).toArray.toList.drop 12=[x.a.fv,I x.a.tail,x.b.fv,I x.b.tail,I x.var,S x.field]:=by
 show(jd x.to++[x.a.fv,I x.a.tail,x.b.fv,I x.b.tail,I x.var,S x.field]).drop 9=_
 rw[show(9:Nat)=(jd x.to).length by rw[CN]];exact D3 ..
theorem arv(x:ia):((Ay x).toArray.toList.drop 12).take (Rm x.a).length=Rm x.a:=by rw[T9];rfl
theorem arw(x:ia):((Ay x).toArray.toList.drop 14).take (Rm x.b).length=Rm x.b:=by
 rw[show(14:Nat)=12+2 by omega,<-Qy,T9];rfl
theorem Fv(p:pM):((Iv p).toArray.toList.drop 0).take (C3 p.s).length=C3 p.s:=rfl
theorem xX(x:dK):∀u∈(kg x).toArray,u.oneCell'=true:=by
 intro u hu;simp[kg]at hu
 rcases hu with rfl|rfl|hu
 .rfl
 .rfl
 exact wx x.c u hu
theorem Hu(x:ix):∀u∈(jd x).toArray,u.oneCell'=true:=by
 intro u hu;simp[jd]at hu
 rcases hu with rfl|hu
 .rfl
 exact wx x.c u hu
theorem LR(x:kT):∀u∈(tj x).toArray,u.oneCell'=true:=by
 intro u hu;simp[tj]at hu
 rcases hu with rfl|hu
 .rfl
 exact Hu x.at_ u qf
theorem agt{K:Vu}{x:ia}(h:IY K x):∀u∈(Ay x).toArray,u.oneCell'=true:=by
 intro u hu;simp[Ay]at hu
 rcases hu with rfl|rfl|rfl|hu|rfl|rfl|rfl|rfl|rfl|rfl
 .rfl
 .rfl
 .exact(nZ h.code).1
 .exact Hu x.to u qf
 .exact(nZ h.a.fields).1
 .rfl
 .exact(nZ h.b.fields).1
 .rfl
 .rfl
 rfl
section
variable{P:Program}{σ:Env}{w:World}{dst:Option Tmp}{ty t e:TypeId}{pos:String}{bJ:Array Edge}{g:Option (Nat×Bool)}{x:Operand}{b o:Nat}{fr:Nat×Nat}
theorem rH{d:TypeDesc}{cs:Array Value}{el:El}(hu:P.underlying t=some d)(hd:d.isRow=true)(hi:(P.info? t).map (·.size)=some 8)(hx:ev σ x= .pointer (some ⟨b,o,none⟩))(hg:w.heap[b]?=some (.cells cs e fr))(hc:(cs.toList.drop o).take 8=sU el):
 (execOp (ev σ) ⟨dst,.load t x,ty,pos,bJ,g⟩).run P w= .ok (.value (.agg (jg el))) w:=by grind[hG,iI,sU,fy]
theorem aco{α:Type}{cl:α->List Value}{sz:Nat}{v:Value}{l:List α}{k:Int}{d:TypeDesc}{dv:α}{off:Nat}{el:El}(hsz:∀a,(cl a).length=sz)(hS:Sl w v sz l.length (l.flatMap cl))(hu:P.underlying t=some d)(hd:d.isRow=true)(hi:(P.info? t).map (·.size)=some 8)
  (hx:ev σ x= .pointer (some ⟨sb v,so v+k.toNat*sz+off,none⟩)) (hk:0<=k/\k<l.length) (hc:((cl (l.getD k.toNat dv)).drop off).take 8=sU el):(execOp (ev σ) ⟨dst,.load t x,ty,pos,bJ,g⟩).run P w= .ok (.value (.agg (jg el))) w:=by
 rw[hG]
 exact oO (dv:=dv) (off:=off) (cs:=sU el) hsz hS hu hd (by rw[fy];exact hi) hx hk (aga (by rw[fy];exact hc))
end
end
end Go.Proofs.YtlhjdflgjbkpmaaGreatDoor.E
namespace Go.Proofs.YtlhjdflgjbkpmaaGreatDoor.M
section
open Go
def wz(d:Option Int)(x:dK):Option Int:=d.bind fun k=>if x.op=1\/x.op=2 then some (k+1)else if x.op=3\/x.op=4 then(if x.n<1\/k<x.n then none else some (k-x.n+1))else none
def jh(l:List dK)(k:Int):Option Int:=(l.take k.toNat).foldl wz (some 0)
def fX(l:List dK):Bool:=decide (jh l l.length=some 1)
theorem Hv{α β:Type}{f:β->α->β}{b:β}{l:List α}{d:α}{k:Int}(h0:0<=k)(h1:k<l.length):(l.take (k+1).toNat).foldl f b=f ((l.take k.toNat).foldl f b) (l.getD k.toNat d):=by
 have h2:k.toNat<l.length:=J
 rw[show(k+1).toNat=k.toNat+1 by omega,yB,wU,eE,ef h2]
 rfl
theorem jK{l:List dK}{k:Int}(h0:0<=k)(h1:k<l.length):jh l (k+1)=wz (jh l k) (l.getD k.toNat cA):=Hv h0 h1
theorem acp(l:List dK):l.foldl wz none=none:=by
 induction l with
 |nil=>rfl
 |cons a l ih=>rw[r5];exact ih
theorem Ua{l:List dK}{k:Int}(hk:0<=k)(h:jh l k=none):jh l l.length=none:=by grind[jh,Int.toNat_natCast,List.take_length,List.take_append_drop,acp]
theorem CO(l:List dK):jh l 0=some 0:=rfl
theorem Ro{l:List dK}{k d:Int}(h0:0<=k)(h1:k<=l.length)(h:jh l k=some d):0<=d/\d<=k:=by
 have key:∀n:Nat,∀d:Int,(n:Int)<=l.length->jh l n=some d->0<=d/\d<=n:=fun n=>by
  induction n with
  |zero=>intro d _ h;have e:(some (0:Int))=some d:=(CO l).symm.trans h;injection e;omega
  |succ n ih=>
   intro d hn h
   rw[show((n+1:Nat):Int)=(n:Int)+1 by omega,jK J J]at h
   cases hc:jh l n with
   |none=>rw[hc]at h;cases h
   |some q=>
    have:=ih q J hc
    rw[hc]at h
    unfold wz at h
    simp only[Qs]at h
    split at h
    .injection h;omega
    split at h
    .split at h
     .cases h
     injection h;omega
    .cases h
 have:=key k.toNat d J (by rw[show((k.toNat:Nat):Int)=k by omega];exact h)
 omega
theorem Du{l:List dK}{k d:Int}(h0:0<=k)(h1:k<l.length)(h:jh l k=some d)(hs:wz (some d) (l.getD k.toNat cA)=none):fX l=false:=
 gF (by rw[Ua (k:=k+1) J (by rw[jK h0 h1,h,hs])];exact fun e=>by cases e)
theorem X0{l:List dK}{k d:Int}(hk:k<=l.length)(h1:¬k<l.length)(h:jh l k=some d):fX l=decide (d=1):=by grind[fX]
theorem yY{x:dK}{d:Int}(h:x.op=1\/x.op=2):wz (some d) x=some (d+1):=by simp[wz,h]
theorem LS{x:dK}{d:Int}(h:x.op=3\/x.op=4)(h1:1<=x.n)(h2:x.n<=d):wz (some d) x=some (d-x.n+1):=by grind[wz]
theorem yZ{x:dK}{d:Int}(h:x.op=3\/x.op=4)(h1:x.n<1\/d<x.n):wz (some d) x=none:=by grind[wz]
theorem Rp{x:dK}{d:Int}(h:¬(x.op=1\/x.op=2))(h1:¬(x.op=3\/x.op=4)):wz (some d) x=none:=by
 simp[wz,h,h1]
def qw(f:El->El->El):List El->El
 |[]=>dy
 |[e]=>e
 |a::b::l=>f a (qw f (b::l))
theorem X3{f:El->El->El}{l:List El}(h:l≠[]):qw f (l.drop (l.length-1))=l.getD (l.length-1) dy:=by
 have h2:l.length-1<l.length:=by have:=List.length_pos_iff.2 h;omega
 rw[Qg h2,J9 J,eE,ef h2];rfl
theorem X4{f:El->El->El}{l:List El}{i:Nat}(h:i+1<l.length):qw f (l.drop i)=f (l.getD i dy) (qw f (l.drop (i+1))):=by
 rw[Qg (by omega:i<l.length),Qg h,eE,ef J]
 rfl
def LU(s:Sh)(op:Int)(a b:El):El:=if op=3 then fC s a b else qZ a b
def Ab(s:Sh)(v:List El)(o:Option (List El))(x:dK):Option (List El):=o.bind fun st=>
 if x.op=1 then(if 0<=x.n/\x.n<v.length then some (st++[v.getD x.n.toNat dy])else none)
 else if x.op=2 then some (st++[x.c])
 else some (st.take (st.length-x.n.toNat)++[qw (LU s x.op) (st.drop (st.length-x.n.toNat))])
def ic(s:Sh)(v:List El)(l:List dK)(k:Int):Option (List El):=(l.take k.toNat).foldl (Ab s v) (some [])
def fP(s:Sh)(l:List dK)(v:List El):El×Bool:=if fX l then(match ic s v l l.length with|some st=>(st.getD 0 dy,true)|none=>(dy,false))else(dy,false)
theorem y8{s:Sh}{v:List El}{l:List dK}{k:Int}(h0:0<=k)(h1:k<l.length):ic s v l (k+1)=Ab s v (ic s v l k) (l.getD k.toNat cA):=Hv h0 h1
theorem X5(s:Sh)(v:List El)(l:List dK):l.foldl (Ab s v) none=none:=by
 induction l with
 |nil=>rfl
 |cons a l ih=>rw[r5];exact ih
theorem acq{s:Sh}{v:List El}{l:List dK}{k:Int}(h:ic s v l k=none):ic s v l l.length=none:=by grind[ic,Int.toNat_natCast,List.take_length,List.take_append_drop,X5]
theorem X6{l:List dK}(h:fX l=true){k:Int}(hk:0<=k):∃d,jh l k=some d:=by
 cases hc:jh l k with
 |some d=>exact⟨d,rfl⟩
 |none=>rw[fX,Ua hk hc]at h;simp at h
theorem aaf{l:List dK}(h:fX l=true){k d:Int}(h0:0<=k)(h1:k<l.length)(hd:jh l k=some d):
  ((l.getD k.toNat cA).op=1\/(l.getD k.toNat cA).op=2)/\jh l (k+1)=some (d+1)\/(((l.getD k.toNat cA).op=3\/(l.getD k.toNat cA).op=4)/\1<=(l.getD k.toNat cA).n/\(l.getD k.toNat cA).n<=d)/\jh l (k+1)=some (d-(l.getD k.toNat cA).n+1):=by
 obtain⟨q,hq⟩:=X6 h (k:=k+1) J
 have hn:=jK h0 h1
 rw[hd,hq]at hn
 by_cases c:(l.getD k.toNat cA).op=1\/(l.getD k.toNat cA).op=2
 .left;exact⟨c,by rw[hq,hn,yY c]⟩
 by_cases c2:(l.getD k.toNat cA).op=3\/(l.getD k.toNat cA).op=4
 .by_cases c3:(l.getD k.toNat cA).n<1\/d<(l.getD k.toNat cA).n
  .rw[yZ c2 c3]at hn;cases hn
  right;exact⟨⟨c2,J,J⟩,by rw[hq,hn,LS c2 J J]⟩
 rw[Rp c c2]at hn;cases hn
theorem awx{s:Sh}{l:List dK}{v:List El}(h:fX l=false):fP s l v=(dy,false):=by rw[fP,h];rfl
theorem aag{s:Sh}{l:List dK}{v st:List El}{k:Int}(h0:0<=k)(h1:k<l.length)(hs:ic s v l k=some st)(ho:(l.getD k.toNat cA).op=1)(hv:(l.getD k.toNat cA).n<0\/v.length<=(l.getD k.toNat cA).n):fP s l v=(dy,false):=by
 have e:ic s v l (k+1)=none:=by
  have h3:¬(0<=(l.getD k.toNat cA).n/\(l.getD k.toNat cA).n<v.length):=J
  rw[y8 h0 h1,hs];generalize l.getD k.toNat cA=x at*;simp[Ab,ho,h3]
 rw[fP,acq e];cases fX l<;>rfl
theorem Rq{s:Sh}{l:List dK}{v st:List El}{k:Int}(hr:fX l=true)(hk:k<=l.length)(h1:¬k<l.length)(hs:ic s v l k=some st):fP s l v=(st.getD 0 dy,true):=by grind[fP]
theorem alS{s:Sh}{l:List dK}{v st:List El}{k:Int}(h0:0<=k)(h1:k<l.length)(hs:ic s v l k=some st)(ho:(l.getD k.toNat cA).op=1)(hv:0<=(l.getD k.toNat cA).n/\(l.getD k.toNat cA).n<v.length):ic s v l (k+1)=some (st++[v.getD (l.getD k.toNat cA).n.toNat dy]):=by grind[y8,cA,Ab]
theorem arx{s:Sh}{l:List dK}{v st:List El}{k:Int}(h0:0<=k)(h1:k<l.length)(hs:ic s v l k=some st)(ho:(l.getD k.toNat cA).op=2):ic s v l (k+1)=some (st++[(l.getD k.toNat cA).c]):=by grind[y8,cA,Ab]
theorem ary{s:Sh}{l:List dK}{v st:List El}{k:Int}(h0:0<=k)(h1:k<l.length)(hs:ic s v l k=some st)(h2:¬(l.getD k.toNat cA).op=1)(h3:¬(l.getD k.toNat cA).op=2):ic s v l (k+1)=some (st.take (st.length-(l.getD k.toNat cA).n.toNat)++[qw (LU s (l.getD k.toNat cA).op) (st.drop (st.length-(l.getD k.toNat cA).n.toNat))]):=by grind[y8,cA,Ab]
theorem aah{s:Sh}{l:List dK}{v st:List El}{k q:Int}(h0:0<=k)(h1:k<l.length)(hs:ic s v l k=some st)(h2:¬(l.getD k.toNat cA).op=1)(h3:¬(l.getD k.toNat cA).op=2)(hq:q=(st.length:Int)-(l.getD k.toNat cA).n)(hn:0<=(l.getD k.toNat cA).n):
  ic s v l (k+1)=some (st.take q.toNat++[qw (LU s (l.getD k.toNat cA).op) (st.drop q.toNat)]):=by
 rw[ary h0 h1 hs h2 h3,show st.length-(l.getD k.toNat cA).n.toNat=q.toNat by omega]
theorem aai{f:El->El->El}{l:List El}{k:Int}(h0:0<=k)(h1:k+1<l.length):qw f (l.drop k.toNat)=f (l.getD k.toNat dy) (qw f (l.drop (k+1).toNat)):=by grind[X4]
theorem awy{s:Sh}{op:Int}{a b:El}(h:op=3):fC s a b=LU s op a b:=by rw[LU,aQ h]
theorem awz{s:Sh}{op:Int}{a b:El}(h:¬op=3):qZ a b=LU s op a b:=by rw[LU,aP h]
theorem uy{l:List dK}(h:fX l=true){k d:Int}(h0:0<=k)(h1:k<l.length)(hd:jh l k=some d)(h2:¬(l.getD k.toNat cA).op=1)(h3:¬(l.getD k.toNat cA).op=2):
  1<=(l.getD k.toNat cA).n/\(l.getD k.toNat cA).n<=d/\jh l (k+1)=some (d-(l.getD k.toNat cA).n+1):=by
 rcases aaf h h0 h1 hd with⟨ho,_⟩|⟨⟨_,a,b⟩,c⟩
 .omega
 exact⟨a,b,c⟩
theorem Td{l:List dK}(h:fX l=true){k d:Int}(hk:k<=l.length)(h1:¬k<l.length)(hd:jh l k=some d):d=1:=by grind[X0]
end
end Go.Proofs.YtlhjdflgjbkpmaaGreatDoor.M
namespace Go.Proofs.YtlhjdflgjbkpmaaGreatDoor.E
section
open Go Go.RowKit Go.Proofs.YtlhjdflgjbkpmaaGreatDoor.M
def qj(s:lM)(v kd aT:Int):Bool:=decide (0<=v/\v<s.vars.length)&&decide ((s.vars.getD v.toNat gD).kind=kd)&&decide ((s.vars.getD v.toNat gD).aT=aT)
def j4(s:lM)(aT:Int):Sh:=(s.an.getD aT.toNat nj).Aa.sh
def lF(s:lM)(aT:Int)(a:ix):Bool:=if a.var<0 then cz (j4 s aT) a.c else qj s a.var 1 aT
def qx(s:lM)(aT:Int)(f:kT):Bool:=iw f.name&&lF s aT f.at_
def Rr(r:Ax):List Tx:=r.fields.map kT.name
def uP(s:lM)(aT:Int)(r:Ax):Bool:=decide (r.fields.length<=16)&&(decide (r.tail<0)||qj s r.tail 2 aT)&&r.fields.all (qx s aT)&&decide (xQ (Rr r)<0)
def uQ(s:lM)(aT:Int)(x:dK):Bool:=(!decide (x.op=1)||qj s x.n 1 aT)&&(!decide (x.op=2)||cz (j4 s aT) x.c)
def codeOk(s:lM)(aT:Int)(l:List dK):Bool:=l.all (uQ s aT)&&fX l
def j5(s:lM)(a:ia):Bool:=
 if a.op=10 then qj s a.var 2 a.aT&&iw a.field
 else if 0<=a.aT/\a.aT<s.an.length then(if a.op=9 then uP s a.aT a.a&&uP s a.aT a.b else if a.op=8 then codeOk s a.aT a.code&&lF s a.aT a.to else false)
 else false
def nn(p:pM):Bool:=iJ p.s&&decide (p.bE.length<=64)&&p.bE.all (j5 p.s)
section
variable{s:lM}{v kd aT:Int}{a:ia}{r:Ax}{l:List dK}{k:Int}
theorem Ub(h:¬(0<=v/\v<s.vars.length)):qj s v kd aT=false:=by grind[qj]
theorem agu(h:¬(s.vars.getD v.toNat gD).kind=kd):qj s v kd aT=false:=by grind[qj]
theorem agv(h:0<=v/\v<s.vars.length)(h2:(s.vars.getD v.toNat gD).kind=kd):qj s v kd aT=decide ((s.vars.getD v.toNat gD).aT=aT):=by grind[qj]
theorem atom_1{x:ix}(h:x.var<0):lF s aT x=cz (j4 s aT) x.c:=aQ h
theorem arz{x:ix}(h:¬x.var<0):lF s aT x=qj s x.var 1 aT:=aP h
theorem alT(h:¬r.fields.length<=16):uP s aT r=false:=by grind[uP]
theorem alU(h1:¬r.tail<0)(h:qj s r.tail 2 aT=false):uP s aT r=false:=by grind[uP]
theorem JP(h0:0<=k)(h1:k<r.fields.length)(h:qx s aT (r.fields.getD k.toNat mJ)=false):uP s aT r=false:=by grind[uP,LL]
theorem aaj(h:r.fields.length<=16)(h1:r.tail<0\/qj s r.tail 2 aT=true)(hk:¬k<r.fields.length)(hg:∀j:Int,0<=j->j<k->qx s aT (r.fields.getD j.toNat mJ)=true):uP s aT r=decide (xQ (Rr r)<0):=by
 rw[uP,gB h,Fs hk hg]
 rcases h1 with h1|h1
 .rw[gB h1];rfl
 rw[h1];simp
theorem O8{f:kT}(h:iw f.name=false):qx s aT f=false:=by rw[qx,h];rfl
theorem O9{f:kT}(h:lF s aT f.at_=false):qx s aT f=false:=by grind[qx]
theorem Pa{f:kT}(h:iw f.name=true)(h2:lF s aT f.at_=true):qx s aT f=true:=by rw[qx,h,h2];rfl
theorem Iw(h0:0<=k)(h1:k<r.fields.length):(r.fields.take (k+1).toNat).map kT.name=(r.fields.take k.toNat).map kT.name++[(r.fields.getD k.toNat mJ).name]:=by
 have h2:k.toNat<r.fields.length:=J
 rw[show(k+1).toNat=k.toNat+1 by omega,yB,gA,eE,ef h2];rfl
theorem Uc{m:List Tx}{x:Tx}{k:Int}(h:(m.length:Int)=k):(Ir m++[S x])[k.toNat*1]?=some (S x):=by grind
theorem alV{x:dK}(h:x.op=1)(h2:qj s x.n 1 aT=false):uQ s aT x=false:=by grind[uQ]
theorem aak{x:dK}(h:x.op=2)(h2:cz (j4 s aT) x.c=false):uQ s aT x=false:=by grind[uQ]
theorem JQ{x:dK}(h:¬x.op=1\/qj s x.n 1 aT=true)(h2:¬x.op=2\/cz (j4 s aT) x.c=true):uQ s aT x=true:=by grind[uQ]
theorem LV(h0:0<=k)(h1:k<l.length)(h:uQ s aT (l.getD k.toNat cA)=false):codeOk s aT l=false:=by grind[codeOk,LL]
theorem agw(h:fX l=false):codeOk s aT l=false:=by grind[codeOk]
theorem agx(hk:¬k<l.length)(hg:∀j:Int,0<=j->j<k->uQ s aT (l.getD j.toNat cA)=true):codeOk s aT l=fX l:=by rw[codeOk,Fs hk hg];rfl
theorem acr(hk:¬k<l.length)(hg:∀j:Int,0<=j->j<k->uQ s aT (l.getD j.toNat cA)=true)(h:fX l=true):codeOk s aT l=true:=by rw[agx hk hg,h]
theorem agy(h:a.op=10):j5 s a=(qj s a.var 2 a.aT&&iw a.field):=aQ h
theorem agz(h:¬a.op=10)(h2:¬(0<=a.aT/\a.aT<s.an.length)):j5 s a=false:=by grind[j5]
theorem aoD(h:a.op=9)(h2:0<=a.aT/\a.aT<s.an.length):j5 s a=(uP s a.aT a.a&&uP s a.aT a.b):=by grind[j5]
theorem Pb(h:a.op=8)(h2:0<=a.aT/\a.aT<s.an.length):j5 s a=(codeOk s a.aT a.code&&lF s a.aT a.to):=by grind[j5]
theorem awA(h:¬a.op=10)(h1:¬a.op=9)(h2:¬a.op=8):j5 s a=false:=by grind[j5]
end
section
variable{p:pM}{k:Int}
theorem agA(h:iJ p.s=false):nn p=false:=by rw[nn,h];rfl
theorem agB(h:¬p.bE.length<=64):nn p=false:=by grind[nn]
theorem agC(h0:0<=k)(h1:k<p.bE.length)(h:j5 p.s (p.bE.getD k.toNat gz)=false):nn p=false:=by grind[nn,LL]
theorem agD(h:iJ p.s=true)(h2:p.bE.length<=64)(hk:¬k<p.bE.length)(hg:∀j:Int,0<=j->j<k->j5 p.s (p.bE.getD j.toNat gz)=true):nn p=true:=by rw[nn,h,gB h2,Fs hk hg];rfl
end
def aal(a:As)(t:ix):El×Bool:=if t.var<0 then(t.c,true)else if t.var<a.labels.length then(a.labels.getD t.var.toNat dy,true)else(dy,false)
def aDZ(a:As)(f:kT):ju:=⟨f.name,(aal a f.at_).1⟩
def aoE(a:As)(t:Ax):List ju:=if 0<=t.tail then a.rows.getD t.tail.toNat []else[]
def awB(a:As)(t:Ax):List ju:=aoE a t++t.fields.map (aDZ a)
def awC(a:As)(t:Ax):Bool:=decide (t.tail<a.rows.length)&&t.fields.all fun f=>(aal a f.at_).2
def arA(l:List ju):List Tx:=l.map ju.name
def aD0(l:List ju):List ju:=l.foldl (fun m v=>aoz m v.name v.el) []
def aoF(l:List ju):Bool:=decide (arA l).Nodup
def IZ(a:As)(t:Ax):List ju×Bool:=if(awC a t&&aoF (awB a t))=true then(aD0 (awB a t),true)else([],false)
def aam(out:List Tx)(x:Tx):Int:=sv (fun k=> !T5 (out.getD k.toNat pu) x) out.length
def aD1(out:List Tx)(x:Tx):List Tx:=if aam out x<0 then out++[x]else if out.getD (aam out x).toNat pu=x then out else out.take (aam out x).toNat++x::out.drop (aam out x).toNat
def aKJ(l:List Tx):List Tx:=l.foldl aD1 []
def Ix(kv:List (Tx×El))(f:Tx):El×Bool:=match kv.find? (fun p=>decide (p.1=f))with
 |none=>(dy,false)
 |some p=>(p.2,true)
def aOJ(kv:List (Tx×El))(f:Tx)(e:El):List (Tx×El):=if(Ix kv f).2 then kv.map fun p=>if p.1=f then(f,e)else p else kv++[(f,e)]
def alW(s:lM)(a:As)(x:ia):Bool:=
 if x.op=10 then(if 0<=x.var/\x.var<a.rows.length then !(acg (a.rows.getD x.var.toNat []) x.field).2 else false)
 else if x.op=9 then(IZ a x.a).2&&(IZ a x.b).2&&aoA (IZ a x.a).1 (IZ a x.b).1
 else if x.op=8/\0<=x.aT/\x.aT<s.an.length then(fP (j4 s x.aT) x.code a.labels).2&&(aal a x.to).2&&cR (fP (j4 s x.aT) x.code a.labels).1 (aal a x.to).1
 else false
def X7(s:lM)(a:As)(l:List ia):Int:=sv (fun i=> !alW s a (l.getD i.toNat gz)) l.length
def aOK(s:lM)(a:As)(l:List ia):Bool:=Rk s.sc a&&decide (X7 s a l<0)
section
variable{s:lM}{a:As}{x:ia}{l:List ia}
end
section
variable{s:lM}{a m:As}{aT:Int}{l:List dK}
theorem agE{sh:Sh}{op:Int}{a b:El}(fa:cz sh a=true)(fb:cz sh b=true):cz sh (LU sh op a b)=true:=by grind[LU,Hq,ara]
theorem y9{sh:Sh}{op:Int}{l:List El}(h:l≠[])(hf:∀e∈l,cz sh e=true):cz sh (qw (LU sh op) l)=true:=by
 induction l with
 |nil=>exact absurd O h
 |cons e l ih=>
  cases l with
  |nil=>exact hf e az
  |cons b l=>
   have:=ih az fun x hx=>hf x (fw _ hx)
   show cz sh (LU sh op e (qw (LU sh op) (b::l)))=true
   exact agE (hf e az) this
theorem meet_mono{a b c d:El}(h:cR a b=true)(h2:cR c d=true):cR (qZ a c) (qZ b d)=true:=by grind[awa,LP,arb]
theorem join_mono{sh:Sh}{a b c d:El}(fa:cz sh a=true)(fb:cz sh b=true)(fc:cz sh c=true)(fd:cz sh d=true)(h:cR a b=true)(h2:cR c d=true):cR (fC sh a c) (fC sh b d)=true:=by grind[ZZ,Hq,LP,XO]
theorem agF{sh:Sh}{op:Int}{a b c d:El}(fa:cz sh a=true)(fb:cz sh b=true)(fc:cz sh c=true)(fd:cz sh d=true)(h:cR a b=true)(h2:cR c d=true):cR (LU sh op a c) (LU sh op b d)=true:=by grind[LU,join_mono,meet_mono]
def tY:List El->List El->Prop
 |[],[]=>True
 |a::l,b::m=>cR a b=true/\tY l m
 |_,_=>False
theorem tY.len:∀{l m:List El},tY l m->l.length=m.length
 |[],[],_=>rfl
 |_::_,_::_,h=>by simp[tY.len h.2]
 |[],_::_,h=>h.elim
 |_::_,[],h=>h.elim
theorem tY.app:∀{l m l' m':List El},tY l m->tY l' m'->tY (l++l') (m++m')
 |[],[],_,_,_,h=>h
 |_::_,_::_,_,_,h,h'=>⟨h.1,tY.app h.2 h'⟩
 |[],_::_,_,_,h,_=>h.elim
 |_::_,[],_,_,h,_=>h.elim
theorem tY.take:∀{l m:List El} (n:Nat),tY l m->tY (l.take n) (m.take n)
 |[],[],n,_=>by simp[tY]
 |_::_,_::_,0,h=>by simp[tY]
 |_::_,_::_,n+1,h=>⟨h.1,tY.take n h.2⟩
 |[],_::_,_,h=>h.elim
 |_::_,[],_,h=>h.elim
theorem tY.drop:∀{l m:List El} (n:Nat),tY l m->tY (l.drop n) (m.drop n)
 |[],[],n,_=>by simp[tY]
 |_::_,_::_,0,h=>h
 |_::_,_::_,n+1,h=>tY.drop n h.2
 |[],_::_,_,h=>h.elim
 |_::_,[],_,h=>h.elim
theorem tY.n4:∀{l m:List El},tY l m->cR (l.getD 0 dy) (m.getD 0 dy)=true
 |[],[],_=>jJ _
 |_::_,_::_,h=>h.1
 |[],_::_,h=>h.elim
 |_::_,[],h=>h.elim
theorem LW{sh:Sh}{op:Int}:∀{l m:List El},tY l m->(∀e∈l,cz sh e=true)->(∀e∈m,cz sh e=true)->cR (qw (LU sh op) l) (qw (LU sh op) m)=true
 |[],[],_,_,_=>jJ _
 |[a],[b],h,_,_=>h.1
 |a::a'::l,b::b'::m,h,hf,hg=>by
  have ih:=LW (sh:=sh) (op:=op) (l:=a'::l) (m:=b'::m) h.2 (fun x hx=>hf x (fw _ hx)) (fun x hx=>hg x (fw _ hx))
  have f1:=y9 (sh:=sh) (op:=op) (l:=a'::l) az fun x hx=>hf x (fw _ hx)
  have f2:=y9 (sh:=sh) (op:=op) (l:=b'::m) az fun x hx=>hg x (fw _ hx)
  exact agF (hf a az) (hg b az) f1 f2 h.1 ih
 |[],_::_,h,_,_=>h.elim
 |_::_,[],h,_,_=>h.elim
 |[_],_::_::_,h,_,_=>h.2.elim
 |_::_::_,[_],h,_,_=>h.2.elim
end
section
variable{s:lM}{a b:As}{aT:Int}{T U:Ax}
theorem agG{a b:El}(h:qL a b):qL b a:=fun i hi=>(h i hi).symm
end
def sD:Value->Nat->Value
 | .slice a _ _,n=> .slice a n n
 |v,_=>v
theorem Sl.sD{w:World}{v:Value}{sz m n:Nat}{cells:List Value}(h:Sl w v sz m cells)(hn:n<=m):Sl w (sD v n) sz n (cells.take (n*sz)):=by
 obtain⟨a,cap,rfl,hc,ha⟩:=h.shape
 refine⟨⟨a,n,rfl,eG _,fun hp=> ?_⟩,?_,fun j c hj=> ?_,jP hn h.small⟩
 .have:=ha J
  cases a with
  |none=>cases this
  |some a=>exact this
 .rw[eo,h.len];exact qW (qV _ hn)
 have hlt:j<n*sz:=by
  have:=(mh.1 hj).1
  rw[eo]at this;omega
 rw[uo,aQ hlt]at hj
 have:=h.cell j c hj
 cases a<;>exact this
theorem LX{w:World}{v:Value}{sz m n:Nat}{cells:List Value}(h:Sl w v sz m cells):∃a,E.sD v n= .slice a n n:=by
 obtain⟨a,cap,rfl,_,_⟩:=h.shape
 exact⟨a,rfl⟩
theorem set_perm{α:Type}{x:α}:∀{l:List α} {i:Nat},i<l.length->(l.set i x).Perm (x::l.eraseIdx i)
 |a::l,0,_=>Qz _
 |a::l,i+1,h=>(List.Perm.cons a (set_perm (l:=l) (i:=i) uz)).trans (List.Perm.swap _ _ _)
 |[],_,h=>absurd h az
theorem Hp.swap{w0 w:World}{L:List a8}{x:a8}{i:Nat}(h:Hp w0 w (x::L))(hi:i<L.length):Hp w0 w (L.set i x):=
 (h.sub (List.Sublist.cons_cons _ (List.eraseIdx_sublist _ _))).perm (set_perm hi).symm
section
variable{P:Program}{n:Nat}{ops:Array Oper}{k:K}{rest:List Oper}{σ:Env}{w0 w:World}{L L' V9:List a8}{ty:TypeId}{pos:String}{bJ:Array Edge}{d:Nat}{x y:Operand}{dst:Option Tmp}{g:Option (Nat×Bool)}
theorem uR{t e:TypeId}{lo hi:Operand}{v:Value}{sz m:Nat}{q:Int}{cells:List Value}(hS:Sl w v sz m cells)(hu:P.underlying t=some (.slice e))(hs:∀w,(sizeOf e).run P w= .ok sz w)(hx:ev σ x=v)(hlo:ev σ lo=I q)(hhi:ev σ hi=I q)(h:0<=q/\q<=m):
  (execOp (ev σ) ⟨dst,.slice t x none (some lo) (some hi),ty,pos,bJ,g⟩).run P w= .ok (.value (sD v q.toNat)) w:=by
 obtain⟨a,cap,rfl,hcap,ha⟩:=hS.shape
 have h1:0<=q/\q<=(cap:Int):=J
 have h2:0<=q/\q<=((q.toNat:Nat):Int):=J
 have h3:(Instr.slice t (.slice a m cap) none (some (I q)) (some (I q))).run P w= .ok (.slice a q.toNat q.toNat) w:=by
  have e0:Option.map (fun x:Addr=>x.add 0) a=a:=by cases a<;>simp[Addr.add]
  have h5:q<=max q 0:=J
  simp[Instr.slice,Instr.sliceBounds,Instr.sliceBound,jr hu,asIntOf,h1,h2,hs,e0,h5]
 have h4:(Instr.sliceAt t (.slice a m cap) none (some (I q)) (some (I q))).run P w= .ok (.slice a q.toNat q.toNat) w:=by
  simp[Instr.sliceAt,jr hu,h3]
 simp[execOp,hx,hlo,hhi,h4,sD]
theorem LY{base:Nat}{t ty e:TypeId}{i:TypeInfo}{z:Value}{size bytes:Nat}(ht:P.underlying t=some (.slice e))(hi:P.info? e=some i)(hz:i.zero=some z)
  (hsize:i.size=size) (hby:i.bytes=bytes) (hzs:z.cells.size=size) {v:Value} {n:Nat} {xs:List Value} (hv:∃a,v= .slice a n n) (hX:Sl w v size n xs) {y:Value} {m:Nat} {news:List Value} (hS:Sl w y size m news)
  (hm:0<m) (h63:n+m<=maxLen) (hbytes:(n+m)*bytes<=140737488355328):
  ∃v' w',(Builtin.append_ #[t,t] ty #[v,y]).run P w= .ok v' w'/\w'.ownsRow w.heap.size e size v' (n+m) (xs++news)/\Below w.heap.size w w':=by
 subst hsize
 subst hby
 obtain⟨a,rfl⟩:=hv
 obtain⟨b,c,hy,hmc,hb⟩:=hS.shape
 have hb':=hb hm
 have hyy:y= .slice (some ⟨sb y,so y,none⟩) m c:=by rw[<-hb'];exact hy
 have hnews:∀j u,news[j]?=some u->w.cell? ((⟨sb y,so y,none⟩:Addr).add j)=some u:=fun j u hu=>by rw[Gw];exact hS.cell j u hu
 have hlen:(xs++news).length=(n+m)*i.size:=by rw[cV,hX.len,hS.len,kO]
 have hsmall:n+m<=9223372036854775807:=by simp only[maxLen]at h63;omega
 have grown:∀(old:Nat),old<n+m->
   (w.drew.alloc (.cells (xs.toArray++news.toArray++Builtin.zeroCells z.cells (grownCap w (n+m) old e-(n+m))) e)).ownsRow w.heap.size e i.size
    (.slice (some ⟨w.heap.size,0,none⟩) (n+m) (grownCap w (n+m) old e)) (n+m) (xs++news)/\
   Below w.heap.size w (w.drew.alloc (.cells (xs.toArray++news.toArray++Builtin.zeroCells z.cells (grownCap w (n+m) old e-(n+m))) e)):=by
  intro old ho
  have hge:=grownCap_ge w (n+m) old e
  have hcm:grownCap w (n+m) old e<=maxLen:=grownCap_le_maxLen w (n+m) old e h63
  refine⟨⟨hlen,.inr ⟨w.heap.size,_,_,rfl,eG _,heap_alloc_new w.drew _,hge,hcm,?_,?_⟩⟩,⟨rfl,rfl,rfl,az,fun k hk=>heap_alloc_old w.drew _ hk⟩⟩
  .simp only[Array.size_append,ur,size_zeroCells,hzs,hX.len,hS.len,<-kO]
   congr 1
   omega
  simp only[Array.toList_append,dg]
  rw[<-dg,<-hlen]
  exact uv
 rw[hyy]
 cases a with
 |none=>
  have hn:n=0:=by
   rcases Qq n with h|h
   .exact h
   obtain⟨a',c',e1,_,h2⟩:=hX.shape
   injection e1 with e1
   rw[<-e1]at h2;cases h2 h
  subst hn
  have hx:xs=[]:=E3 (by simpa using hX.len)
  subst hx
  have hr:=run_append_nil (P:=P) w t ty e i z ht hi hz ⟨sb y,so y,none⟩ m c news hS.len hnews J J aeG
  have hgr:=grown 0 J
  simp only[fg,er,Array.empty_append]at hgr⊢
  exact⟨_,_,hr,hgr.1,hgr.2⟩
 |some a=>
  have holds:∀j u,xs[j]?=some u->w.cell? (a.add j)=some u:=fun j u hu=>by
   have hj:j<n*i.size:=by have:=(mh.1 hu).1;rw[hX.len]at this;exact this
   have hn:0<n:=by
    rcases Qq n with h|h
    .subst h;simp at hj
    exact h
   obtain⟨a',c',e1,_,h2⟩:=hX.shape
   injection e1 with e1
   have h3:=h2 hn
   rw[<-e1]at h3
   have h4:a=⟨sb (.slice (some a) n n),so (.slice (some a) n n),none⟩:=by injection h3
   rw[h4,Gw];exact hX.cell j u hu
  have hr:=run_append_grow (P:=P) w t ty e i z ht hi hz a n n xs hX.len holds ⟨sb y,so y,none⟩ m c news hS.len hnews J J (growslice_fits J hbytes)
  have hgr:=grown n J
  exact⟨_,_,hr,hgr.1,hgr.2⟩
theorem aD2{t e:TypeId}{i:Nat}{ie:TypeInfo}{z:Value}{size bytes:Nat}{v u:Value}{m m' q:Nat}{xs news:List Value}(hd:Nat.blt d n=true)(hH:Hp w0 w L)(hL:L[i]?=some (.row v e size m xs))(hq:q<=m)(hS:Sl w u size m' news)
  (hx:ev σ x=sD v q) (hy:ev σ y=u) (ht:P.underlying t=some (.slice e)) (hi:P.info? e=some ie) (hz:ie.zero=some z)
  (hsize:ie.size=size) (hby:ie.bytes=bytes) (hzs:z.cells.size=size) (hm:0<m')
  (hbytes:(q+m')*bytes<=140737488355328) (h63:q+m'<=maxLen)
  (hk:∀v' w',Hp w0 w' (L.set i (.row v' e size (q+m') (xs.take (q*size)++news)))->RL P n ops k rest (k7 σ d v') w'):
  RL P n ops k (⟨some d,.call {callee:= .builtin .append,args:=#[x,y],argTypes:=#[t,t]},ty,pos,bJ,none⟩::rest) σ w:=by
 have hX:=hH.sl hL
 obtain⟨v',w',hr,h2,h3⟩:=LY (P:=P) (base:=0) (ty:=ty) ht hi hz hsize hby hzs (LX hX) (hX.sD hq) hS hm h63 hbytes
 exact ox hd (rW hx hy hr) (hk v' w' ((hH.CD h3 h2).swap (mh.1 hL).1))
variable{l:List Oper}{fuel i:Nat}{listed:Array Bool}
theorem Rs{t e:TypeId}{j:Nat}{ie:TypeInfo}{z:Value}{size bytes:Nat}{v u:Value}{m m' q:Nat}{xs news:List Value}(hi:l[i]?=some ⟨some d,.call {callee:= .builtin .append,args:=#[x,y],argTypes:=#[t,t]},ty,pos,bJ,g⟩)
  (hg:∀a,Is n σ a->Region.wanted ⟨some d,.call {callee:= .builtin .append,args:=#[x,y],argTypes:=#[t,t]},ty,pos,bJ,g⟩ (yielded l.toArray a.tmps)=true) (hd:Nat.blt d n=true) (hH:Hp w0 w V9) (hL:V9[j]?=some (.row v e size m xs)) (hq:q<=m)
  (hs:∀v',L'.Sublist (V9.set j (.row v' e size (q+m') (xs.take (q*size)++news)))) (hS:Sl w u size m' news)
  (hx:ev σ x=sD v q) (hy:ev σ y=u) (ht:P.underlying t=some (.slice e)) (hie:P.info? e=some ie) (hz:ie.zero=some z)
  (hsize:ie.size=size) (hby:ie.bytes=bytes) (hzs:z.cells.size=size) (hm:0<m')
  (hbytes:(q+m')*bytes<=140737488355328) (h63:q+m'<=maxLen)
  (hk:∀v' w',Hp w0 w' (V9.set j (.row v' e size (q+m') (xs.take (q*size)++news)))->AN P n l (fun w=>Hp w0 w L') k fuel (listed.setIfInBounds i true) (k7 σ d v') w'):AO P n l (fun w=>Hp w0 w L') k fuel listed σ w i:=by
 have hX:=hH.sl hL
 obtain⟨v',w',hr,h2,h3⟩:=LY (P:=P) (base:=0) (ty:=ty) ht hie hz hsize hby hzs (LX hX) (hX.sD hq) hS hm h63 hbytes
 have hH':=(hH.CD h3 h2).swap (i:=j) (mh.1 hL).1
 exact Bu hi hg hd (rW hx hy hr) (hH'.sub (hs v')) (hk v' w' hH')
end
section
variable{P:Program}{n:Nat}{ops:Array Oper}{k:K}{rest l:List Oper}{σ:Env}{w0 w:World}{L:List a8}{op:Op}{ty t e et:TypeId}{pos:String}{bJ:Array Edge}{d:Nat}{x y:Operand}{g:Option (Nat×Bool)}{v u:Value}{sz m i o:Nat}{xs:List Value}{dst:Option Tmp}
theorem Fw(hH:Hp w0 w L)(hi:L[i]?=some (.row v e sz m xs))(hm:0<m)(hx:ev σ x= .pointer (some ⟨sb v,so v+o,none⟩))(hy:ev σ y=u)(hv:u.cells=#[u])(h1:u.oneCell'=true)(hs:(P.info? t).map (·.size)=some 1)(ho:o+1<=m*sz):
  ∃w',(execOp (ev σ) ⟨dst,.store t x y,ty,pos,bJ,g⟩).run P w= .ok .skip w'/\Hp w0 w' (L.set i (.row v e sz m (rE xs o [u]))):=by
 obtain⟨gb,cap,rfl,hnc,cur,hg,hc,ht,hk⟩:=hH.JO hi hm
 have hcm:m*sz<=cap*sz:=qV _ hnc
 have hx':ev σ x= .pointer (some ⟨gb,o,none⟩):=by rw[hx];simp only[sb,so,fg]
 have hr:=bL (P:=P) (dst:=dst) (ty:=ty) (pos:=pos) (bJ:=bJ) (g:=g) hs hx' hy hv h1 hg J
 have e1:(cur.setIfInBounds o u).toList=cur.toList.take o++[u]++cur.toList.drop (o+1):=by
  simp[Wj,show o<cur.size by omega]
 have h2:=hk (cur.setIfInBounds o u) az
 rw[e1,show cur.toList.take o++[u]++cur.toList.drop (o+1)=cur.toList.take o++[u]++cur.toList.drop (o+[u].length)from O,Ft (by simpa using ho) QY,ht]at h2
 exact⟨_,hr,h2⟩
theorem za(hH:Hp w0 w L)(hi:L[i]?=some (.row v e sz m xs))(hm:0<m)(hx:ev σ x= .pointer (some ⟨sb v,so v+o,none⟩))(hy:ev σ y=u)(hv:u.cells=#[u])(h1:u.oneCell'=true)(hs:(P.info? t).map (·.size)=some 1)(ho:o+1<=m*sz)
  (hk:∀w',Hp w0 w' (L.set i (.row v e sz m (rE xs o [u])))->RL P n ops k rest σ w'):RL P n ops k (⟨none,.store t x y,ty,pos,bJ,none⟩::rest) σ w:=by
 obtain⟨w',hr,h2⟩:=Fw (dst:=none) (ty:=ty) (pos:=pos) (bJ:=bJ) (g:=none) hH hi hm hx hy hv h1 hs ho
 exact KL hr (hk w' h2)
variable{fuel j:Nat}{listed:Array Bool}{L':List a8}
theorem arB(hj:l[j]?=some ⟨none,.store t x y,ty,pos,bJ,g⟩)(hg:∀a,Is n σ a->Region.wanted ⟨none,.store t x y,ty,pos,bJ,g⟩ (yielded l.toArray a.tmps)=true)(hH:Hp w0 w L)(hi:L[i]?=some (.row v e sz m xs))(hsub:∀ys,L'.Sublist (L.set i (.row v e sz m ys)))(hm:0<m)
  (hx:ev σ x= .pointer (some ⟨sb v,so v+o,none⟩)) (hy:ev σ y=u) (hv:u.cells=#[u]) (h1:u.oneCell'=true) (hs:(P.info? t).map (·.size)=some 1) (ho:o+1<=m*sz)
  (hk:∀w',Hp w0 w' (L.set i (.row v e sz m (rE xs o [u])))->AN P n l (fun w=>Hp w0 w L') k fuel (listed.setIfInBounds j true) σ w'):AO P n l (fun w=>Hp w0 w L') k fuel listed σ w j:=by
 obtain⟨w',hr,h2⟩:=Fw (dst:=none) (ty:=ty) (pos:=pos) (bJ:=bJ) (g:=g) hH hi hm hx hy hv h1 hs ho
 exact KW hj hg hr (h2.sub (hsub _)) (hk w' h2)
end
section
variable{P:Program}{σ:Env}{w:World}{ty:TypeId}{pos:String}{bJ:Array Edge}{dst:Option Tmp}{g:Option (Nat×Bool)}{x:Operand}
end
theorem Sl.frE{α:Type}{cl:α->List Value}{sz:Nat}{w:World}{v:Value}{l:List α}(hsz:∀a,(cl a).length=sz)(h:Sl w v sz l.length (l.flatMap cl))(o:Nat)(ho:o<=l.length):Sl w (om v sz o) sz (l.drop o).length ((l.drop o).flatMap cl):=by
 have:=h.fr o ho
 rw[acj hsz _ _ ho]at this
 rw[xJ];exact this
section
variable{w0 w:World}{L:List a8}
theorem Rt{B:Nat}{a:World}(h:Below B a w){b:Nat}(hb:B<=b)(o:Obj):Below B a {w with heap:=w.heap.setIfInBounds b o}:=
 h.trans ⟨rfl,rfl,rfl,az,fun k hk=>by
  show(w.heap.setIfInBounds b o)[k]?=_
  rw[Dk,aP J]⟩
theorem Hp.setObj{i b:Nat}{o:Obj}(h:Hp w0 w L)(hi:L[i]?=some (.blk b o))(o':Obj):Hp w0 {w with heap:=w.heap.setIfInBounds b o'} (L.set i (.blk b o')):=by
 have hx:=h.ok _ (ld hi)
 have hil:=(mh.1 hi).1
 have hb:=(A6.1 hx.2).1
 refine⟨Rt h.below hx.1 o',fun y hy=> ?_,Bs hi O h.KU⟩
 obtain⟨j,hj,Eg⟩:=yz.1 hy
 rw[yC]at Eg
 split at Eg
 .subst Eg
  refine⟨hx.1,?_⟩
  show(w.heap.setIfInBounds b o')[b]?=_
  rw[Dk,aQ O,aQ hb]
 rename_i hne
 have hjL:j<L.length:=by simpa using hj
 have hyL:y∈L:=Eg▸p6 hjL
 refine a8.CC (h.ok y hyL) fun bb hf=> ?_
 have IV:b≠bb:=fun IV=>by
  subst IV
  have hp:=J7.1 h.KU
  have hLi:L[i]= .blk b o:=(mh.1 hi).2
  rcases WC hne with hlt|hgt
  .rcases hp i j hil hjL hlt with h0|h0
   .rw[hLi]at h0;cases h0
   rw[hLi,Eg,hf]at h0;exact h0 O
  rcases hp j i hjL hil hgt with h0|h0
  .rw[Eg,hf]at h0;cases h0
  rw[hLi,Eg,hf]at h0;exact h0 O
 show(w.heap.setIfInBounds b o')[bb]?=_
 rw[Dk,aP IV]
end
structure Ud(es:Array MapEntry)(clock:Nat)(kv:List (Tx×El)):Prop where
 at_:es.toList.map (fun e=>(e.key,e.val))=kv.map fun p=>(S p.1,Value.agg (jg p.2))
 born:(es.toList.map (·.born)).Nodup
 old:∀x∈es.toList,x.born<clock
 arC:(kv.map Prod.fst).Nodup
theorem awD{a b:Tx}(h:S a=S b):a=b:=by injection h
section
variable{es:Array MapEntry}{clock:Nat}{kv:List (Tx×El)}
theorem Ud.get(h:Ud es clock kv){j:Nat}{e:MapEntry}(he:es.toList[j]?=some e):∃p,kv[j]?=some p/\e.key=S p.1/\e.val= .agg (jg p.2):=by
 have:=aK (·[j]?) h.at_
 simp only[p5,he,p7]at this
 cases hk:kv[j]? with
 |none=>rw[hk]at this;cases this
 |some p=>rw[hk]at this;injection this with q;injection q with q1 q2;exact⟨p,rfl,q1,q2⟩
theorem Ud.size(h:Ud es clock kv):es.size=kv.length:=by
 have:=aK List.length h.at_
 simpa using this
theorem Ud.keys(h:Ud es clock kv):∀x∈es.toList,MapKept.IsKey .string x.key:=fun x hx=>by
 obtain⟨j,hj⟩:=Wu.1 hx
 obtain⟨p,_,hk,_⟩:=h.get hj
 rw[hk];trivial
theorem agH{f:Tx}{e:El}(h:(kv.map Prod.fst).Nodup)(hm:(f,e)∈kv):Ix kv f=(e,true):=by grind[Ix,List.find?_eq_none,List.mem_of_find?_eq_some,List.getElem_of_mem,Nat.lt_trichotomy,List.pairwise_iff_getElem]
theorem alX{f:Tx}(h:∀p∈kv,p.1≠f):Ix kv f=(dy,false):=by grind[Ix]
theorem Ud.find(h:Ud es clock kv)(f:Tx):(Instr.findNow .string (S f) es.toList 0=some none/\Ix kv f=(dy,false)/\∀p∈kv,p.1≠f)\/
  ∃j e el,Instr.findNow .string (S f) es.toList 0=some (some (j,.agg (jg el)))/\es.toList[j]?=some e/\e.key=S f/\kv[j]?=some (f,el)/\Ix kv f=(el,true):=by
 rcases MapKept.findNow_spec (d:= .string) (k:=S f) trivial es.toList 0 h.keys with⟨h1,h2⟩|⟨j,e,h1,h2,h3⟩
 .have hno:∀p∈kv,p.1≠f:=fun p hp q=>by
   obtain⟨j,hj⟩:=Wu.1 hp
   have hlt:j<es.toList.length:=by
    have:=(mh.1 hj).1
    have e:=h.size
    simp;omega
   obtain⟨p',hp',hk,_⟩:=h.get (ef hlt)
   rw[hj]at hp';injection hp' with hp';subst hp'
   exact h2 _ (p6 hlt) (by rw[hk,q])
  exact .inl ⟨h1,alX hno,hno⟩
 obtain⟨p,hp,hk,hv⟩:=h.get h2
 have hf:p.1=f:=awD (hk.symm.trans h3)
 have hp':kv[j]?=some (f,p.2):=by rw[hp,<-hf]
 exact .inr ⟨j,e,p.2,by rw[h1,hv,fg],h2,h3,hp',agH h.arC (ld hp')⟩
end
section
variable{P:Program}{n:Nat}{ops:Array Oper}{k:K}{rest:List Oper}{σ:Env}{w0 w:World}{L:List a8}{ty:TypeId}{pos:String}{bJ:Array Edge}{d:Nat}{dst:Option Tmp}{g:Option (Nat×Bool)}{x y z:Operand}{t kt et:TypeId}{es:Array MapEntry}{clock b:Nat}{kv:List (Tx×El)}{f:Tx}
theorem aD3{i bi since c0:Nat}{seen:Array Nat}(hd:Nat.blt d n=true)(hH:Hp w0 w L)(hi:L[i]?=some (.blk bi (.mapIter (some b) since seen c0)))(hb:w.heap[b]?=some (.map es clock))(hold:∀x∈es.toList,x.born<since)(hsc:since<=c0)(hx:ev σ x= .pointer (some ⟨bi,0,none⟩))
  (h1:(leftOf es seen).size=0->RL P n ops k rest (k7 σ d (.tuple #[B false])) w)
  (h2:∀e∈(leftOf es seen).toList,∀w',Hp w0 w' (L.set i (.blk bi (.mapIter (some b) since (seen.push e.born) clock)))->RL P n ops k rest (k7 σ d (.tuple #[B true,e.key,e.val])) w'):
  RL P n ops k (⟨some d,.next x false,ty,pos,bJ,none⟩::rest) σ w:=by
 have hbi:=hH.blk hi
 have key:((leftOf es seen).size=0/\(Instr.next (.pointer (some ⟨bi,0,none⟩)) false ty).run P w= .ok (.tuple #[.bool false]) w)\/
   ∃e∈(leftOf es seen).toList,∃w1:World,(w1=w\/w1=w.drew)/\(Instr.next (.pointer (some ⟨bi,0,none⟩)) false ty).run P w= .ok (.tuple #[.bool true,e.key,e.val]) {w1 with heap:=w1.heap.setIfInBounds bi (.mapIter (some b) since (seen.push e.born) clock)}:=by
  simp only[Instr.next,getObj,o9,Sem.run,hbi,hb,Result.andThen,next_test_false seen es since c0 hold hsc,rZ,xd]
  unfold leftOf
  have hmem:∀x∈(Array.filter (fun e=> !seen.contains e.born) es).toList,x.born<since:=fun x hx=>hold x (by simp at hx⊢;exact hx.1)
  generalize Array.filter (fun e=> !seen.contains e.born) es=Q at hmem⊢
  have e1:Q.filter (fun x=>decide (x.born<since))=Q:=Array.filter_eq_self.2 (fun x hx=>by simpa using hmem x (by simpa using hx))
  have e2:Q.filter (fun x=>decide (x.born>=since))=#[]:=by
   rw[Array.filter_eq_empty_iff]
   intro x hx
   have:=hmem x (by simpa using hx)
   simp
   omega
  simp only[e1,e2,Array.append_empty]
  by_cases h0:Q.size=0
  .left
   have:Q=#[]:=aeb h0
   subst this
   refine⟨rfl,?_⟩
   simp[choose,Sem.run,Question.forced]
  right
  have hne:Q.isEmpty=false:=by simp[Array.isEmpty,h0]
  simp only[hne,rZ,xd,Array.empty_append,Array.size_map]
  have hch:∃(j:Nat) (w1:World),j<Q.size/\(w1=w\/w1=w.drew)/\(choose (Question.mapNext Q.size)).run P w= .ok j w1:=by
   by_cases hf:Q.size<=1
   .exact⟨0,w,J,.inl O,by simp[choose,Sem.run,Question.forced,hf]⟩
   exact⟨_,w.drew,Nat.mod_lt _ J,.inr O,by
    simp only[choose,Sem.run,Question.forced,ep,hf,xd,Question.cut]
    rfl⟩
  obtain⟨j,w1,hj,hal,hrun⟩:=hch
  refine⟨Q[j],az,w1,hal,?_⟩
  have V8:w1.heap[bi]?=some (.mapIter (some b) since seen c0):=by rcases hal with rfl|rfl<;>exact hbi
  simp only[hrun,Array.getElem?_map,aeh hj,p7,o9,Result.andThen]
  simp[setObj,Sem.run,V8]
 rcases key with⟨h0,hr⟩|⟨e,he,w1,hw,hr⟩
 .exact ox hd (by simp[execOp,hx,hr,Result.andThen]) (h1 h0)
 refine ox (w':={w1 with heap:=w1.heap.setIfInBounds bi (.mapIter (some b) since (seen.push e.born) clock)}) hd (by simp[execOp,hx,hr,Result.andThen]) (h2 e he _ (Hp.setObj (o:= .mapIter (some b) since seen c0) ?_ hi _))
 rcases hw with rfl|rfl
 .exact hH
 exact hH.drew
end
def awE(v:ju):Tx×El:=(v.name,v.el)
def GSt(its:List ju)(g o:Bool)(kv:List (Tx×El)):Prop:=o=(g&&aoF its)/\(o=true->kv=its.map awE)
def aOL(a:As)(t:Ax):List ju:=if t.tail<a.rows.length then aoE a t else[]
section
variable{P:Program}{n:Nat}{ops:Array Oper}{k:K}{rest:List Oper}{σ:Env}{w0 w:World}{L:List a8}{ty:TypeId}{pos:String}{bJ:Array Edge}{d:Nat}{dst:Option Tmp}{g:Option (Nat×Bool)}{x:Operand}{es:Array MapEntry}{clock b:Nat}{kv:List (Tx×El)}
def Seen(es:Array MapEntry)(kv:List (Tx×El))(seen:Array Nat)(ns:List Tx):Prop:=
 (∀t∈ns,t∈kv.map Prod.fst)/\(∀e∈es.toList,seen.contains e.born=true->∃t∈ns,e.key=S t)/\ns.length+(leftOf es seen).size<=es.size
end
section
variable{P:Program}{σ:Env}{w:World}{ty t u:TypeId}{pos:String}{bJ:Array Edge}{dst:Option Tmp}{g:Option (Nat×Bool)}{x y:Operand}{a b:Tx}
end
def aD4(ns:List Tx)(kv:List (Tx×El))(k:Int):List ju:=(ns.take k.toNat).map fun n=>⟨n,(Ix kv n).1⟩
section
variable{a:NS}{r:Ax}{k:Int}{m:List ju}
end
structure aKL(a:NS):Prop where
 rl:∀x∈a.rows,x.l.length<=1000
 rn:∀x∈a.rows,∀v∈x.l,v.name.size<=1000
structure agL(x:ia):Prop where
 c:x.code.length<=1000
 fa:x.a.fields.length<=1000
 fb:x.b.fields.length<=1000
 na:∀f∈x.a.fields,f.name.size<=1000
 nb:∀f∈x.b.fields,f.name.size<=1000
def wA(x:ia):Bool:=decide (200<x.code.length\/40<x.a.fields.length\/40<x.b.fields.length\/40<x.field.size)||(x.a.fields++x.b.fields).any fun f=>decide (40<f.name.size)
def N4(p:pM):Bool:=uN p.s||decide (80<p.bE.length)||p.bE.any wA
theorem alY{x:ia}(h:wA x=false):agL x:=by grind[ia,wA,agL]
theorem alZ{p:pM}(h:N4 p=false):uN p.s=false/\p.bE.length<=80/\∀x∈p.bE,agL x:=by grind[N4,alY]
theorem LZ(l:List kT):∀u∈l.flatMap tj,u.oneCell'=true:=by grind[LR]
theorem pH{s:lM}{a:As}{l:List ia}{k:Int}(h0:0<=k)(h1:k<l.length)(h:alW s a (l.getD k.toNat gz)=false)(hg:∀j:Int,0<=j->j<k->alW s a (l.getD j.toNat gz)=true):X7 s a l=k:=
 uK h0 h1 (by rw[h];rfl) fun j a b=>by rw[hg j a b];rfl
theorem sq{s:lM}{a:As}{l:List ia}{k:Int}(hk:¬k<l.length)(hg:∀j:Int,0<=j->j<k->alW s a (l.getD j.toNat gz)=true):X7 s a l= -1:=
 Fi fun j a b=>by rw[hg j a J];rfl
theorem CP{x:ia}(h:200<x.code.length\/40<x.a.fields.length\/40<x.b.fields.length\/40<x.field.size):wA x=true:=by grind[wA]
theorem acs{x:ia}{m:List kT}{k:Int}(hm:m=x.a.fields++x.b.fields)(h0:0<=k)(h1:k<m.length)(h:40<(m.getD k.toNat mJ).name.size):wA x=true:=by grind[wA,Fq,mJ]
theorem al0{x:ia}{m:List kT}{k:Int}(hm:m=x.a.fields++x.b.fields)(h:¬(200<x.code.length\/40<x.a.fields.length\/40<x.b.fields.length\/40<x.field.size))(h1:¬k<m.length)(h2:∀j:Int,0<=j->j<k->decide (40<(m.getD j.toNat mJ).name.size)=false):wA x=false:=by
 rw[wA,<-hm,gF h,Rh (d:=mJ) h1 h2];rfl
theorem Pc{p:pM}(h:uN p.s=true\/80<p.bE.length):N4 p=true:=by grind[N4]
theorem acu{p:pM}{k:Int}(h0:0<=k)(h1:k<p.bE.length)(h:wA (p.bE.getD k.toNat gz)=true):N4 p=true:=by grind[N4,Fq,gz]
theorem agM{p:pM}{k:Int}(h:uN p.s=false)(h2:¬80<p.bE.length)(h1:¬k<p.bE.length)(h3:∀j:Int,0<=j->j<k->wA (p.bE.getD j.toNat gz)=false):N4 p=false:=by
 rw[N4,h,gF h2,Rh (d:=gz) h1 h3];rfl
end
end Go.Proofs.YtlhjdflgjbkpmaaGreatDoor.E
namespace Go.Proofs.YtlhjdflgjbkpmaaGreatDoor.M
section
open Go
structure pN where
 up:Nat
 size:Nat
 next:Nat
 least:Nat
def Ew:pN:=⟨0,0,0,0⟩
def Wk(f:Nat->Nat):Nat->List Nat->Nat->Prop
 |v,[],y=>v=y
 |v,z::l,y=>v=z/\Wk f (f z) l y
theorem Wk.app{f:Nat->Nat}{l m:List Nat}{v z y:Nat}:Wk f v (l++z::m) y↔Wk f v l z/\Wk f (f z) m y:=by
 induction l generalizing v with
 |nil=>exact Bj
 |cons a l ih=>simp only[fH,Wk,ih,and_assoc]
theorem Wk.congr{f g:Nat->Nat}{l:List Nat}{v y:Nat}(h:Wk f v l y)(he:∀x∈l,g x=f x):Wk g v l y:=by
 induction l generalizing v with
 |nil=>exact h
 |cons a l ih=>exact⟨h.1,by rw[he a az];exact ih h.2 fun x hx=>he x (fw _ hx)⟩
def Ring(f:Nat->Nat)(i:Nat)(t:List Nat):Prop:=Wk f (f i) t i/\(i::t).Nodup
theorem Ring.rot{f:Nat->Nat}{i j:Nat}{t:List Nat}(h:Ring f i t)(hj:j∈i::t):∃u,Ring f j u/\∀k,k∈j::u↔k∈i::t:=by
 rcases cZ.1 hj with rfl|hj
 .exact⟨t,h,fun _=>Bj⟩
 obtain⟨l,m,rfl⟩:=WE hj
 have h1:=Wk.app.1 h.1
 refine⟨m++i::l,⟨Wk.app.2 ⟨h1.2,h1.1⟩,?_⟩,fun k=>by simp only[cZ,eP];constructor<;>(intro q;rcases q with q|q|q|q<;>simp[q])⟩
 have h2:=h.2
 have e:j::(m++i::l)=(j::m)++(i::l):=rfl
 have e2:i::(l++j::m)=(i::l)++(j::m):=rfl
 rw[e2]at h2
 rw[e]
 exact(sW.nodup_iff).1 h2
theorem Ring.join{f g:Nat->Nat}{a b:Nat}{la lb:List Nat}(ha:Ring f a la)(hb:Ring f b lb)(hd:∀x∈a::la,x∉b::lb)(ga:g a=f b)(gb:g b=f a)(ho:∀x,x≠a->x≠b->g x=f x):Ring g a (lb++b::la):=by
 have na:a∉la:=(mZ.1 ha.2).1
 have nb:b∉lb:=(mZ.1 hb.2).1
 have a1:a∉b::lb:=hd a az
 refine⟨Wk.app.2 ⟨?_,?_⟩,?_⟩
 .rw[ga]
  exact hb.1.congr fun x hx=>ho x (fun e=>a1 (by rw[<-e];exact fw _ hx)) fun e=>nb (by rw[<-e];exact hx)
 .rw[gb]
  exact ha.1.congr fun x hx=>ho x (fun e=>na (by rw[<-e];exact hx)) fun e=>hd x (fw _ hx) (by rw[e];simp)
 rw[mZ]
 constructor
 .intro h
  rcases eP.1 h with q|q
  .exact a1 (fw _ q)
  rcases cZ.1 q with q|q
  .exact a1 (by rw[q];simp)
  exact na q
 rw[List.nodup_append]
 refine⟨(mZ.1 hb.2).2,mZ.2 ⟨fun q=>hd b (fw _ q) az,(mZ.1 ha.2).2⟩,fun x hx y hy e=> ?_⟩
 subst e
 rcases cZ.1 hy with q|q
 .exact nb (by rw[<-q];exact hx)
 exact hd x (fw _ q) (fw _ hx)
theorem Ring.keep{f g:Nat->Nat}{i:Nat}{t:List Nat}(h:Ring f i t)(he:∀x∈i::t,g x=f x):Ring g i t:=
 ⟨by rw[he i az];exact h.1.congr fun x hx=>he x (fw _ hx),h.2⟩
def rI(nd:List pN)(i:Nat):Nat:=(nd.getD i Ew).up
def kr(nd:List pN)(i:Nat):Nat:=(nd.getD i Ew).size
def sE(nd:List pN)(i:Nat):Nat:=(nd.getD i Ew).next
def pZ(nd:List pN)(i:Nat):Nat:=(nd.getD i Ew).least
def cg(cl:List Nat)(i:Nat):Nat:=cl.getD i 0
structure Fo(nd:List pN)(cl:List Nat):Prop where
 len:cl.length=nd.length
 up:∀i,i<nd.length->rI nd i<nd.length
 sz:∀i,i<nd.length->rI nd i≠i->kr nd i<kr nd (rI nd i)
 sn:∀i,i<nd.length->kr nd i<=nd.length
 si:∀i,i<nd.length->rI nd i=i->kr nd i=cl.count (cg cl i)
 uc:∀i,i<nd.length->cg cl (rI nd i)=cg cl i
 one:∀i j,i<nd.length->j<nd.length->rI nd i=i->rI nd j=j->cg cl i=cg cl j->i=j
 le:∀i,i<nd.length->rI nd i=i->pZ nd i=cg cl i
 lc:∀i,i<nd.length->cg cl i<=i/\cg cl (cg cl i)=cg cl i
 ring:∀i,i<nd.length->∃t,Ring (sE nd) i t/\∀k,k∈i::t↔k<nd.length/\cg cl k=cg cl i
theorem Fo.nil:Fo [] []:=⟨rfl,fun i h=>ow,fun i h=>ow,fun i h=>ow,fun i h=>ow,fun i h=>ow,fun i j h=>ow,fun i h=>ow,fun i h=>ow,fun i h=>ow⟩
def qM(n:Nat):pN:=⟨n,1,n,n⟩
section
variable{nd:List pN}{cl:List Nat}{α:Type}{d x:α}{l:List α}{i:Nat}
theorem agN(h:i<l.length):(l++[x]).getD i d=l.getD i d:=by grind
theorem agO:(l++[x]).getD l.length d=x:=az
theorem Fo.add(h:Fo nd cl):Fo (nd++[qM nd.length]) (cl++[nd.length]):=by
 have hl:=h.len
 have gu:∀i,i<nd.length->(nd++[qM nd.length]).getD i Ew=nd.getD i Ew:=fun i hi=>agN hi
 have gn:(nd++[qM nd.length]).getD nd.length Ew=qM nd.length:=agO
 have gc:∀i,i<nd.length->cg (cl++[nd.length]) i=cg cl i:=fun i hi=>agN J
 have gcn:cg (cl++[nd.length]) nd.length=nd.length:=by unfold cg;rw[<-hl];exact agO
 have cs:∀i,i<(nd++[qM nd.length]).length->i<nd.length\/i=nd.length:=fun i hi=>by rw[cV,gk]at hi;omega
 have ln:(nd++[qM nd.length]).length=nd.length+1:=az
 have clt:∀i,i<nd.length->cg cl i<nd.length:=fun i hi=>by have:=(h.lc i hi).1;omega
 have aD5:cl.count nd.length=0:=by
  rw[List.count_eq_zero];intro hm
  obtain⟨k,hk,e⟩:=sX hm
  have:=clt k J
  unfold cg at this
  rw[eE,ef hk,Qw,e]at this
  omega
 refine⟨by simp[hl],fun i hi=> ?_,fun i hi=> ?_,fun i hi=> ?_,fun i hi hu=> ?_,fun i hi=> ?_,fun i j hi hj hu hv hc=> ?_,fun i hi hu=> ?_,fun i hi=> ?_,fun i hi=> ?_⟩
 .rw[ln];unfold rI;rcases cs i hi with q|rfl
  .rw[gu i q];have:=h.up i q;unfold rI at this;omega
  rw[gn];show nd.length<_;omega
 .unfold rI kr;rcases cs i hi with q|rfl
  .have hu:=h.up i q
   unfold rI at hu
   rw[gu i q,gu _ hu];exact h.sz i q
  rw[gn];intro hh;exact absurd O hh
 .rw[ln];unfold kr;rcases cs i hi with q|rfl
  .rw[gu i q];have:=h.sn i q;unfold kr at this;omega
  rw[gn];show 1<=_;omega
 .unfold kr;unfold rI at hu;rcases cs i hi with q|rfl
  .rw[gu i q]at hu⊢;rw[gc i q,WN]
   have:=h.si i q hu;unfold kr at this
   rw[this,List.count_singleton]
   have:=clt i q
   rw[aP iF];omega
  rw[gn,gcn,WN,aD5,List.count_singleton,aQ az];rfl
 .unfold rI;rcases cs i hi with q|rfl
  .have hu:=h.up i q
   have:=h.uc i q
   unfold rI at hu this
   rw[gu i q,gc i q,gc _ hu];exact this
  rw[gn];rfl
 .unfold rI at hu hv;rcases cs i hi with q|rfl<;>rcases cs j hj with r|rfl
  .rw[gu _ q]at hu;rw[gu _ r]at hv;rw[gc _ q,gc _ r]at hc;exact h.one i j q r hu hv hc
  .rw[gc _ q,gcn]at hc;have:=clt i q;omega
  .rw[gc _ r,gcn]at hc;have:=clt j r;omega
  rfl
 .unfold pZ;unfold rI at hu;rcases cs i hi with q|rfl
  .rw[gu _ q]at hu⊢;rw[gc _ q];exact h.le i q hu
  rw[gn,gcn];rfl
 .rcases cs i hi with q|rfl
  .rw[gc _ q,gc _ (clt i q)];exact h.lc i q
  rw[gcn,gcn];exact⟨eG _,rfl⟩
 rcases cs i hi with q|rfl
 .obtain⟨t,ht,hm⟩:=h.ring i q
  refine⟨t,ht.keep fun x hx=> ?_,fun k=> ?_⟩
  .unfold sE;rw[gu x ((hm x).1 hx).1]
  rw[hm k,ln,gc i q]
  constructor
  .rintro⟨a,b⟩;exact⟨J,by rw[gc k a];exact b⟩
  rintro⟨a,b⟩
  rcases cs k (by rw[ln];exact a)with r|rfl
  .exact⟨r,by rw[<-gc k r];exact b⟩
  rw[gcn]at b;have:=clt i q;omega
 refine⟨[],⟨by show sE _ _=_;unfold sE;rw[gn];rfl,az⟩,fun k=> ?_⟩
 rw[fZ,ln,gcn]
 constructor
 .rintro rfl;exact⟨J,gcn⟩
 rintro⟨a,b⟩
 rcases cs k (by rw[ln];exact a)with r|rfl
 .rw[gc k r]at b;have:=clt k r;omega
 rfl
theorem kK{j:Nat}:(l.set i x).getD j d=if j=i/\i<l.length then x else l.getD j d:=by grind
end
def oP(nd:List pN)(a b:Nat):List pN:=(nd.set b ⟨a,kr nd b,sE nd a,pZ nd b⟩).set a ⟨rI nd a,kr nd a+kr nd b,sE nd b,min (pZ nd a) (pZ nd b)⟩
def Hw(x y c:Nat):Nat:=if c=x\/c=y then min x y else c
def ig(cl:List Nat)(x y:Nat):List Nat:=cl.map (Hw x y)
theorem kx{x y c:Nat}(h:c=x\/c=y):Hw x y c=min x y:=aQ h
theorem kL{x y c:Nat}(h:¬(c=x\/c=y)):Hw x y c=c:=aP h
theorem xf(x y:Nat):min x y=x\/min x y=y:=J
theorem acv{x y v:Nat}(h:¬(v=x\/v=y))(cl:List Nat):(ig cl x y).count v=cl.count v:=by
 induction cl with
 |nil=>rfl
 |cons c l ih=>
  show(Hw x y c::ig l x y).count v=_
  rw[D1,D1,ih]
  by_cases hc:c=x\/c=y
  .rw[kx hc,aP aeM,aP iF]
  rw[kL hc]
theorem Ue{x y:Nat}(h:x≠y)(cl:List Nat):(ig cl x y).count (min x y)=cl.count x+cl.count y:=by
 induction cl with
 |nil=>rfl
 |cons c l ih=>
  show(Hw x y c::ig l x y).count _=_
  rw[D1,D1,D1,ih]
  by_cases hc:c=x\/c=y
  .rw[kx hc,aQ az]
   rcases hc with rfl|rfl
   .rw[aQ az,aP iF];omega
   rw[aP iF,aQ az];omega
  rw[kL hc,aP aeM,aP iF,aP iF]
  omega
theorem acw{x y:Nat}(h:x≠y)(cl:List Nat):cl.count x+cl.count y<=cl.length:=by
 rw[<-Ue h]
 have:=List.count_le_length (a:=min x y) (l:=ig cl x y)
 rwa[show(ig cl x y).length=cl.length by simp[ig]]at this
section
variable{nd:List pN}{cl:List Nat}{a b:Nat}
theorem uS:(oP nd a b).length=nd.length:=by simp[oP]
theorem al2(hb:b<nd.length)(ha:a<nd.length)(hab:a≠b)(hu:rI nd a=a)(i:Nat):rI (oP nd a b) i=if i=b then a else rI nd i:=by grind[rI,oP,kK]
theorem al3(hb:b<nd.length)(ha:a<nd.length)(i:Nat):kr (oP nd a b) i=if i=a then kr nd a+kr nd b else kr nd i:=by grind[kr,oP,kK]
theorem al4(hb:b<nd.length)(ha:a<nd.length)(i:Nat):pZ (oP nd a b) i=if i=a then min (pZ nd a) (pZ nd b)else pZ nd i:=by grind[pZ,oP,kK]
theorem al5(hb:b<nd.length)(ha:a<nd.length)(i:Nat):sE (oP nd a b) i=if i=a then sE nd b else if i=b then sE nd a else sE nd i:=by grind[sE,oP,kK]
theorem zc{x y:Nat}{i:Nat}(hi:i<cl.length):cg (ig cl x y) i=Hw x y (cg cl i):=by grind[cg,ig]
theorem Fo.join(h:Fo nd cl)(ha:a<nd.length)(hb:b<nd.length)(hab:a≠b)(ua:rI nd a=a)(ub:rI nd b=b):Fo (oP nd a b) (ig cl (cg cl a) (cg cl b)):=by
 have hl:=h.len
 have hxy:cg cl a≠cg cl b:=fun e=>hab (h.one a b ha hb ua ub e)
 generalize hx:cg cl a=x at*
 generalize hy:cg cl b=y at*
 have gc:∀i,i<nd.length->cg (ig cl x y) i=Hw x y (cg cl i):=fun i hi=>zc J
 have gu:=al2 hb ha hab ua
 have gs:=al3 hb ha (a:=a)
 have gl:=al4 hb ha (a:=a)
 have gn:=al5 hb ha (a:=a)
 have sa:=h.si a ha ua;have sb:=h.si b hb ub
 rw[hx]at sa;rw[hy]at sb
 have root:∀i,i<nd.length->rI (oP nd a b) i=i->i≠b/\rI nd i=i:=fun i hi q=>by
  rw[gu]at q
  by_cases e:i=b
  .rw[aQ e]at q;exact absurd (q.trans e) hab
  rw[aP e]at q;exact⟨e,q⟩
 have isx:∀i,i<nd.length->rI nd i=i->i≠b->(cg cl i=x\/cg cl i=y)->i=a:=fun i hi q e hc=>by
  rcases hc with hc|hc
  .exact h.one i a hi ha q ua (hc.trans hx.symm)
  exact absurd (h.one i b hi hb q ub (hc.trans hy.symm)) e
 have clx:=h.lc a ha;have cly:=h.lc b hb
 rw[hx]at clx;rw[hy]at cly
 have pa:1<=kr nd a:=by
  rw[sa]
  have:x∈cl:=by
   rw[<-hx];unfold cg
   rw[eE,ef J,Qw];exact p6 J
  have:=List.count_pos_iff.2 this
  omega
 refine⟨by simp[ig,uS,hl],fun i hi=> ?_,fun i hi=> ?_,fun i hi=> ?_,fun i hi hu=> ?_,fun i hi=> ?_,fun i j hi hj hu hv hc=> ?_,fun i hi hu=> ?_,fun i hi=> ?_,fun i hi=> ?_⟩<;>rw[uS]at hi
 .rw[uS,gu];split
  .exact ha
  exact h.up i hi
 .rw[gu,gs i]
  by_cases e:i=b
  .rw[aQ e,gs a,aQ O,aP J,e];intro _;omega
  rw[aP e,gs (rI nd i)];intro q
  have e2:i≠a:=fun r=>q (by rw[r];exact ua)
  rw[aP e2]
  have:=h.sz i hi q
  split
  .rename_i r;rw[r]at this;omega
  exact this
 .rw[uS,gs i];split
  .have:=acw hxy cl;omega
  exact h.sn i hi
 .obtain⟨e,q⟩:=root i hi hu
  rw[gs i,gc i hi]
  by_cases e2:i=a
  .rw[aQ e2,e2,hx,kx (.inl O),Ue hxy,sa,sb]
  rw[aP e2]
  have hc:¬(cg cl i=x\/cg cl i=y):=fun r=>e2 (isx i hi q e r)
  rw[kL hc,acv hc];exact h.si i hi q
 .rw[gu i];split
  .rename_i e;rw[gc a ha,gc i hi,e,hx,hy,kx (.inl O),kx (.inr O)]
  rw[gc _ (h.up i hi),gc i hi,h.uc i hi]
 .rw[uS]at hj
  obtain⟨e1,q1⟩:=root i hi hu
  obtain⟨e2,q2⟩:=root j hj hv
  rw[gc i hi,gc j hj]at hc
  by_cases c1:cg cl i=x\/cg cl i=y
  .rw[kx c1]at hc
   have c2:cg cl j=x\/cg cl j=y:=by
    refine J8 fun r=> ?_
    rw[kL r]at hc
    exact r (by rw[<-hc];exact xf x y)
   rw[isx i hi q1 e1 c1,isx j hj q2 e2 c2]
  rw[kL c1]at hc
  have c2:¬(cg cl j=x\/cg cl j=y):=fun r=>by
   rw[kx r]at hc
   exact c1 (by rw[hc];exact xf x y)
  rw[kL c2]at hc
  exact h.one i j hi hj q1 q2 hc
 .obtain⟨e,q⟩:=root i hi hu
  rw[gl i,gc i hi]
  by_cases e2:i=a
  .rw[aQ e2,e2,hx,kx (.inl O),h.le a ha ua,h.le b hb ub,hx,hy]
  rw[aP e2]
  have hc:¬(cg cl i=x\/cg cl i=y):=fun r=>e2 (isx i hi q e r)
  rw[kL hc];exact h.le i hi q
 .have hi2:=h.lc i hi
  rw[gc i hi]
  by_cases c1:cg cl i=x\/cg cl i=y
  .rw[kx c1]
   refine⟨by rcases c1 with r|r<;>omega,?_⟩
   rw[gc _ J]
   refine kx ?_
   rcases xf x y with r|r<;>rw[r]
   .exact .inl clx.2
   exact .inr cly.2
  rw[kL c1]
  refine⟨hi2.1,?_⟩
  rw[gc _ J,hi2.2,kL c1]
 by_cases c1:cg cl i=x\/cg cl i=y
 .obtain⟨la,ra,ma⟩:=h.ring a ha
  obtain⟨lb,rb,mb⟩:=h.ring b hb
  rw[hx]at ma;rw[hy]at mb
  have hj:Ring (sE (oP nd a b)) a (lb++b::la):=ra.join rb (fun k hk CQ=>hxy (((ma k).1 hk).2.symm.trans ((mb k).1 CQ).2)) (by rw[gn,aQ O]) (by rw[gn,aP (Bl hab),aQ O]) fun k k1 k2=>by rw[gn,aP k1,aP k2]
  have mm:∀k,k∈a::(lb++b::la)↔k<nd.length/\(cg cl k=x\/cg cl k=y):=fun k=>by
   have m1:=ma k;have m2:=mb k
   simp only[cZ,eP]at m1 m2⊢
   constructor
   .rintro(q|q|q|q)
    .have:=m1.1 (.inl q);exact⟨this.1,.inl this.2⟩
    .have:=m2.1 (.inr q);exact⟨this.1,.inr this.2⟩
    .have:=m2.1 (.inl q);exact⟨this.1,.inr this.2⟩
    have:=m1.1 (.inr q);exact⟨this.1,.inl this.2⟩
   rintro⟨q,r|r⟩
   .rcases m1.2 ⟨q,r⟩with s|s
    .exact .inl s
    exact .inr (.inr (.inr s))
   rcases m2.2 ⟨q,r⟩with s|s
   .exact .inr (.inr (.inl s))
   exact .inr (.inl s)
  obtain⟨u,hu,mu⟩:=hj.rot ((mm i).2 ⟨hi,c1⟩)
  refine⟨u,hu,fun k=> ?_⟩
  rw[mu,mm,uS,gc i hi,kx c1]
  constructor
  .rintro⟨q,r⟩;exact⟨q,by rw[gc k q,kx r]⟩
  rintro⟨q,r⟩
  refine⟨q,J8 fun s=> ?_⟩
  rw[gc k q,kL s]at r
  exact s (by rw[r];exact xf x y)
 obtain⟨t,ht,mt⟩:=h.ring i hi
 have out:∀k∈i::t,¬(cg cl k=x\/cg cl k=y):=fun k hk=>by rw[((mt k).1 hk).2];exact c1
 refine⟨t,ht.keep fun k hk=> ?_,fun k=> ?_⟩
 .have:=out k hk
  rw[gn,aP (fun e=>this (.inl (by rw[e];exact hx))),aP (fun e=>this (.inr (by rw[e];exact hy)))]
 rw[mt k,uS,gc i hi,kL c1]
 constructor
 .rintro⟨q,r⟩;exact⟨q,by rw[gc k q,r,kL c1]⟩
 rintro⟨q,r⟩
 refine⟨q,?_⟩
 rw[gc k q]at r
 by_cases c2:cg cl k=x\/cg cl k=y
 .rw[kx c2]at r;exact absurd (by rw[<-r];exact xf x y) c1
 rw[kL c2]at r;exact r
end
inductive jo
 |add (n:Nat)
 |set (i:Nat) (was:BitVec 64)
def Ru(W:List (BitVec 64)):jo->List (BitVec 64)
 | .add n=>W.take n
 | .set i was=>W.set i was
def X8(W:List (BitVec 64))(us:List jo):List (BitVec 64):=us.foldr (fun u w=>Ru w u) W
def je(W:List (BitVec 64))(us:List jo)(t:Nat):List (BitVec 64):=X8 W (us.drop t)
def okR:Nat->List jo->Prop
 |_,[]=>True
 |L,.add n::r=>n<=L/\okR n r
 |L,.set i _::r=>i<L/\okR L r
def L3(L:Nat)(us:List jo):Prop:=okR L us.reverse
section
variable{W:List (BitVec 64)}{us:List jo}{u:jo}{t k:Nat}
theorem CR:je W us us.length=W:=by simp[je,X8]
theorem Ey(h:t<=us.length):je W (us++[u]) t=je (Ru W u) us t:=by grind[je,X8]
theorem L4(h:t<=us.length):(us++[u]).take t=us.take t:=by grind
theorem L5(h:k<us.length):je W us k=Ru (je W us (k+1)) us[k]:=by
 rw[je,je,Qg h];rfl
theorem sF:L3 W.length (us++[u])↔(match u with| .add n=>n<=W.length/\L3 n us| .set i _=>i<W.length/\L3 W.length us):=by
 unfold L3;rw[List.reverse_append];cases u<;>exact Bj
theorem agP(h:L3 W.length (us++[u])):L3 (Ru W u).length us:=by grind[L3,Ru,sF]
end
def Hx(W:List (BitVec 64))(us:List jo)(i:Nat)(b:BitVec 64):List jo:=if W.getD i 0=b then us else us++[.set i (W.getD i 0)]
theorem L6{W:List (BitVec 64)}{i:Nat}{b:BitVec 64}(h:W.getD i 0=b):W.set i b=W:=by
 apply WT az
 intro j h1 h2
 rw[yC]
 split
 .rename_i e;subst e
  rw[<-h,eE,ef h2];rfl
 rfl
theorem agQ{W:List (BitVec 64)}{us:List jo}{i t:Nat}{b:BitVec 64}(hi:i<W.length)(h:t<=us.length):je (W.set i b) (Hx W us i b) t=je W us t/\(Hx W us i b).take t=us.take t/\t<=(Hx W us i b).length:=by
 unfold Hx
 split
 .rename_i e;rw[L6 e];exact⟨rfl,rfl,h⟩
 refine⟨?_,L4 h,by rw[cV];omega⟩
 rw[Ey h]
 congr 1
 show(W.set i b).set i (W.getD i 0)=W
 rw[List.set_set];exact L6 O
theorem al6{W:List (BitVec 64)}{us:List jo}{i:Nat}{b:BitVec 64}(hi:i<W.length)(h:L3 W.length us):L3 (W.set i b).length (Hx W us i b):=by grind[Hx,sF]
def EZ(d:pN):List (BitVec 64):=[BitVec.ofNat 64 d.up,BitVec.ofNat 64 d.size,BitVec.ofNat 64 d.next,BitVec.ofNat 64 d.least]
def bD(nd:List pN):List (BitVec 64):=nd.flatMap EZ
theorem gW(nd:List pN):(bD nd).length=4*nd.length:=by
 induction nd with
 |nil=>rfl
 |cons d l ih=>show(EZ d++bD l).length=_;rw[cV,ih,eO];show 4+_=_;omega
theorem pG(nd:List pN)(d:pN):bD (nd++[d])=bD nd++EZ d:=by simp[bD]
theorem ze(nd:List pN){i k:Nat}(hi:i<nd.length)(hk:k<4):(bD nd).getD (4*i+k) 0=(EZ (nd.getD i Ew)).getD k 0:=by
 induction nd generalizing i with
 |nil=>cases hi
 |cons d l ih=>
  show(EZ d++bD l).getD _ _=_
  cases i with
  |zero=>
   rw[eE,wP (by show _<4;omega),<-eE]
   simp
  |succ i=>
   rw[eE,DV (by show 4<=_;omega),show 4*(i+1)+k-(EZ d).length=4*i+k by show 4*(i+1)+k-4=_;omega,<-eE,ih uA]
   rfl
theorem zf(nd:List pN){i k:Nat}{b:BitVec 64}{d':pN}(hi:i<nd.length)(hk:k<4)(h:(EZ (nd.getD i Ew)).set k b=EZ d'):(bD nd).set (4*i+k) b=bD (nd.set i d'):=by
 induction nd generalizing i with
 |nil=>cases hi
 |cons d l ih=>
  cases i with
  |zero=>
   show(EZ d++bD l).set _ _=EZ d'++bD l
   rw[List.set_append_left _ _ (by show _<4;omega),<-h]
   simp
  |succ i=>
   show(EZ d++bD l).set _ _=EZ d++bD (l.set i d')
   rw[List.set_append_right _ _ (by show 4<=_;omega),show 4*(i+1)+k-(EZ d).length=4*i+k by show 4*(i+1)+k-4=_;omega,ih uA uz]
def leads(cl:List Nat):Nat:=((List.range cl.length).filter fun i=>cg cl i==i).length
def C4(cl:List Nat):List Nat:=cl.foldl (fun m c=>if c∈m then m else m++[c]) []
theorem JR{l m:List Nat}(hn:l.Nodup)(h:∀x∈l,x∈m):l.length<=m.length:=by
 induction l generalizing m with
 |nil=>simp
 |cons a l ih=>
  have ha:=h a az
  have Pd:=mZ.1 hn
  have:=ih (m:=m.erase a) Pd.2 fun x hx=>by
   refine(List.mem_erase_of_ne (fun e=>Pd.1 (by rw[<-e];exact hx))).2 (h x (fw _ hx))
  rw[Wo ha]at this
  have:=Qj ha
  rw[eO];omega
theorem Uf{l m:List Nat}(hn:l.Nodup)(hm:m.Nodup)(h:∀x,x∈l↔x∈m):l.length=m.length:=
 Nat.le_antisymm (JR hn fun x=>(h x).1) (JR hm fun x=>(h x).2)
theorem agR(cl:List Nat):(C4 cl).Nodup/\∀x,x∈C4 cl↔x∈cl:=by
 have key:∀r:List Nat,(C4 r.reverse).Nodup/\∀x,x∈C4 r.reverse↔x∈r.reverse:=by
  intro r
  induction r with
  |nil=>exact⟨List.nodup_nil,fun x=>Bj⟩
  |cons c r ih=>
   rw[List.reverse_cons]
   have e:C4 (r.reverse++[c])=if c∈C4 r.reverse then C4 r.reverse else C4 r.reverse++[c]:=by unfold C4;rw[wU];rfl
   rw[e]
   split
   .rename_i h
    refine⟨ih.1,fun x=> ?_⟩
    rw[ih.2,eP,fZ]
    constructor
    .exact fun q=> .inl q
    rintro(q|rfl)
    .exact q
    exact(ih.2 _).1 h
   rename_i h
   refine⟨?_,fun x=>by rw[eP,eP,ih.2]⟩
   rw[List.nodup_append]
   exact⟨ih.1,az,fun a ha b hb e=>h (by rw[<-fZ.1 hb,<-e];exact ha)⟩
 have:=key cl.reverse
 rwa[List.reverse_reverse]at this
section
variable{nd:List pN}{cl:List Nat}{a b:Nat}
theorem agS(h:Fo nd cl)(x:Nat):x∈cl↔x<cl.length/\cg cl x=x:=by
 constructor
 .intro hx
  obtain⟨k,hk,e⟩:=sX hx
  have e2:cg cl k=x:=by unfold cg;rw[eE,ef hk];exact e
  have:=h.lc k (by rw[<-h.len];exact hk)
  rw[e2]at this
  exact⟨J,this.2⟩
 rintro⟨h1,h2⟩
 rw[<-h2];unfold cg
 rw[eE,ef h1];exact p6 h1
theorem Fx(cl:List Nat)(x:Nat):x∈((List.range cl.length).filter fun i=>cg cl i==i)↔x<cl.length/\cg cl x=x:=az
theorem Ez(cl:List Nat):((List.range cl.length).filter fun i=>cg cl i==i).Nodup:=List.nodup_range.filter _
theorem Ug(h:Fo nd cl):(C4 cl).length=leads cl:=by grind[Fo,C4,leads,Uf,agR,Ez,Fx,agS]
theorem Pe(h:Fo nd cl):leads (cl++[nd.length])=leads cl+1:=by
 rw[<-Ug h.add,<-Ug h]
 have e:C4 (cl++[nd.length])=if nd.length∈C4 cl then C4 cl else C4 cl++[nd.length]:=by unfold C4;rw[wU];rfl
 rw[e,aP]
 .simp
 intro q
 have:=((agS h _).1 (((agR cl).2 _).1 q)).1
 have:=h.len;omega
theorem X9(h:Fo nd cl)(ha:a<nd.length)(hb:b<nd.length)(hab:a≠b)(ua:rI nd a=a)(ub:rI nd b=b):leads (ig cl (cg cl a) (cg cl b))+1=leads cl:=by
 have hj:=h.join ha hb hab ua ub
 have hl:=h.len
 have hxy:cg cl a≠cg cl b:=fun e=>hab (h.one a b ha hb ua ub e)
 have clx:=h.lc a ha;have cly:=h.lc b hb
 generalize hx:cg cl a=x at*
 generalize hy:cg cl b=y at*
 have jl:(ig cl x y).length=cl.length:=by simp[ig]
 have e:((List.range cl.length).filter fun i=>cg cl i==i).length=(max x y::((List.range (ig cl x y).length).filter fun i=>cg (ig cl x y) i==i)).length:=by
  refine Uf (Ez cl) (mZ.2 ⟨fun q=> ?_,Ez _⟩) fun k=> ?_
  .have q2:=(Fx _ _).1 q
   rw[zc J]at q2
   have e:cg cl (max x y)=max x y:=by rcases(by omega:max x y=x\/max x y=y)with r|r<;>rw[r];exact clx.2;exact cly.2
   rw[e,kx J]at q2
   omega
  rw[Fx,cZ,Fx,jl]
  constructor
  .rintro⟨k1,k2⟩
   by_cases c:k=max x y
   .exact .inl c
   refine .inr ⟨k1,?_⟩
   rw[zc k1,k2]
   by_cases c1:k=x\/k=y
   .rw[kx c1];omega
   exact kL c1
  rintro(rfl|⟨k1,k2⟩)
  .rcases(by omega:max x y=x\/max x y=y)with r|r<;>rw[r]
   .exact⟨J,clx.2⟩
   exact⟨J,cly.2⟩
  refine⟨k1,?_⟩
  rw[zc k1]at k2
  by_cases c1:cg cl k=x\/cg cl k=y
  .rw[kx c1]at k2
   rcases xf x y with r|r<;>rw[r]at k2<;>rw[<-k2]
   .exact clx.2
   exact cly.2
  rwa[kL c1]at k2
 unfold leads
 rw[e,eO]
theorem Hy{f:Nat->Nat}{i at_:Nat}{t out m:List Nat}(h:Ring f i t)(e:i::t=out++at_::m):(m=[]/\f at_=i)\/∃z m',m=z::m'/\f at_=z/\z≠i:=by
 have key:Wk f (f at_) m i:=by
  cases out with
  |nil=>simp only[er,Km]at e;rw[<-e.1,<-e.2];exact h.1
  |cons o out=>
   simp only[fH,Km]at e
   have:=h.1;rw[e.2]at this
   exact(Wk.app.1 this).2
 cases m with
 |nil=>exact .inl ⟨rfl,key⟩
 |cons z m'=>
  refine .inr ⟨z,m',rfl,key.1,fun q=> ?_⟩
  have hn:=h.2
  cases out with
  |nil=>
   simp only[er,Km]at e
   rw[e.2,q]at hn;exact(mZ.1 hn).1 az
  |cons o out=>
   simp only[fH,Km]at e
   rw[e.2,q]at hn;exact(mZ.1 hn).1 az
end
def Fy(cl c2:List Nat):Prop:=(cl.length=c2.length+1/\leads cl=leads c2+1)\/(cl.length=c2.length/\leads cl+1=leads c2)
def Hs:List (BitVec 64)->List jo->List Nat->List (List Nat)->Prop
 |W,us,[],[cl]=>us=[]/\cl=[]/\W=[]
 |W,us,t::ts,cl::c2::cs=>(∃nd,W=bD nd/\Fo nd cl)/\t<=us.length/\Fy cl c2/\Hs (je W us t) (us.take t) ts (c2::cs)
 |_,_,_,_=>False
section
variable{W:List (BitVec 64)}{us:List jo}{t:Nat}{ts:List Nat}{cl c2:List Nat}{cs:List (List Nat)}{nd:List pN}
theorem Hs.ne(h:Hs W us ts []):False:=by cases ts<;>exact h
theorem Hs.now(h:Hs W us ts (cl::cs)):∃nd,W=bD nd/\Fo nd cl:=by
 cases ts with
 |nil=>
  cases cs with
  |nil=>obtain⟨_,rfl,rfl⟩:=h;exact⟨[],rfl,Fo.nil⟩
  |cons c cs=>exact h.elim
 |cons t ts=>
  cases cs with
  |nil=>exact h.elim
  |cons c cs=>exact h.1
theorem Hs.len(h:Hs W us ts cs):cs.length=ts.length+1:=by
 induction ts generalizing W us cs with
 |nil=>
  cases cs with
  |nil=>exact h.elim
  |cons c cs=>cases cs with
   |nil=>rfl
   |cons c2 cs=>exact h.elim
 |cons t ts ih=>
  cases cs with
  |nil=>exact h.elim
  |cons c cs=>cases cs with
   |nil=>exact h.elim
   |cons c2 cs=>have:=ih h.2.2.2;simp only[eO]at this⊢;omega
theorem Hs.start:Hs [] [] [] [[]]:=⟨rfl,rfl,rfl⟩
theorem Hs.more{W':List (BitVec 64)}{N5:List jo}{nd':List pN}{jz:List Nat}(h:Hs W us ts (cl::cs))(hw:W'=bD nd')(hf:Fo nd' jz)(hs:Fy jz cl)(h1:je W' N5 us.length=W)(h2:N5.take us.length=us)(h3:us.length<=N5.length):Hs W' N5 (us.length::ts) (jz::cl::cs):=
 ⟨⟨nd',hw,hf⟩,h3,hs,by rw[h1,h2];exact h⟩
theorem Hs.back(h:Hs W us (t::ts) (cl::c2::cs)):Hs (je W us t) (us.take t) ts (c2::cs):=h.2.2.2
theorem Hs.le(h:Hs W us (t::ts) (cl::c2::cs)):t<=us.length:=h.2.1
theorem Hs.cnt(h:Hs W us (t::ts) (cl::c2::cs)):Fy cl c2:=h.2.2.1
end
theorem Uh{W:List (BitVec 64)}{us:List jo}(h:L3 W.length us){t:Nat}(ht:t<=us.length):L3 (je W us t).length (us.take t):=by
 have key:∀d,∀t,t+d=us.length->L3 (je W us t).length (us.take t):=by
  intro d
  induction d with
  |zero=>intro t e;rw[show t=us.length by omega,CR,Kl];exact h
  |succ d ih=>
   intro t e
   have h2:=ih (t+1) J
   have ht:t<us.length:=J
   rw[yB,ef ht]at h2
   rw[L5 ht]
   exact agP h2
 exact key (us.length-t) t J
def N6(us:List jo)(n:Nat):List jo:=us++[.add n]++[.add (n+1)]++[.add (n+2)]++[.add (n+3)]
theorem al7{W:List (BitVec 64)}{us:List jo}{a b c d:BitVec 64}:je (W++[a]++[b]++[c]++[d]) (N6 us W.length) us.length=W/\(N6 us W.length).take us.length=us/\us.length<=(N6 us W.length).length:=by grind[N6,Ey,CR,Ru]
theorem al8{W:List (BitVec 64)}{us:List jo}{a b c d:BitVec 64}(h:L3 W.length us):L3 (W++[a]++[b]++[c]++[d]).length (N6 us W.length):=by
 unfold N6
 rw[sF];refine⟨az,?_⟩
 have e1:(W++[a]++[b]++[c]).length=W.length+3:=az
 have e2:(W++[a]++[b]).length=W.length+2:=az
 have e3:(W++[a]).length=W.length+1:=az
 rw[<-e1,sF];refine⟨az,?_⟩
 rw[<-e2,sF];refine⟨az,?_⟩
 rw[<-e3,sF];exact⟨az,h⟩
def fl(cl:List Nat)(i:Int):Int:=if 0<=i/\i<cl.length then(cg cl i.toNat:Int)else-1
def aD7(cs:List (List Nat))(cl:List Nat)(i j:Int):List (List Nat)×Bool:=
 if fl cl i<0\/fl cl j<0\/fl cl i=fl cl j then(cl::cs,false)else(ig cl (fl cl i).toNat (fl cl j).toNat::cl::cs,true)
theorem mw{cl:List Nat}{i:Int}(h:0<=i/\i<cl.length):fl cl i=(cg cl i.toNat:Int):=aQ h
theorem Hz{cl:List Nat}{i:Int}(h:¬(0<=i/\i<cl.length)):fl cl i= -1:=aP h
theorem Rv{nd:List pN}{cl:List Nat}(h:Fo nd cl){i k:Nat}(hi:i<nd.length)(hc:cg cl i=cg cl k):rI nd i<nd.length/\cg cl (rI nd i)=cg cl k/\(rI nd i≠i->nd.length-kr nd (rI nd i)<nd.length-kr nd i):=by grind[pN,Fo,cg,rI,kr]
theorem Pf{nd:List pN}{cl:List Nat}(h:Fo nd cl){i j a b:Nat}(ha:a<nd.length)(hb:b<nd.length)(ua:rI nd a=a)(ub:rI nd b=b)(ca:cg cl a=cg cl i)(cb:cg cl b=cg cl j):a=b↔cg cl i=cg cl j:=by grind[pN,Fo,rI,cg]
def zg(cl:List Nat)(i:Nat):List Nat:=(List.range cl.length).filter fun k=>cg cl i==cg cl k
theorem Pg{cl:List Nat}{i k:Nat}:k∈zg cl i↔k<cl.length/\cg cl k=cg cl i:=by grind[zg]
theorem acy{l m:List Int}(hl:l.Pairwise (· <·))(hm:m.Pairwise (· <·))(h:∀x,x∈l↔x∈m):l=m:=by
 induction l generalizing m with
 |nil=>cases m with
  |nil=>rfl
  |cons b m=>have:=(h b).2 az;cases this
 |cons a l ih=>
  cases m with
  |nil=>have:=(h a).1 az;cases this
  |cons b m=>
   have pa:=lQ.1 hl;have pb:=lQ.1 hm
   have hab:a=b:=by
    rcases cZ.1 ((h a).1 az)with q|q
    .exact q
    rcases cZ.1 ((h b).2 az)with r|r
    .exact r.symm
    have:=pb.1 a q;have:=pa.1 b r;omega
   subst hab
   congr 1
   refine ih pa.2 pb.2 fun x=> ?_
   have:=h x
   simp only[cZ]at this
   constructor
   .intro q
    rcases this.1 (.inr q)with r|r
    .have:=pa.1 x q;omega
    exact r
   intro q
   rcases this.2 (.inr q)with r|r
   .have:=pb.1 x q;omega
   exact r
theorem Rw{nd:List pN}{cl:List Nat}(h:Fo nd cl){i:Nat}(hi:i<nd.length){t:List Nat}(ht:Ring (sE nd) i t)(hm:∀k,k∈i::t↔k<nd.length/\cg cl k=cg cl i){zs:List Int}(hp:zs.Perm ((i::t).map Int.ofNat))(hs:zs.Pairwise (· <=·)):zs=(zg cl i).map Int.ofNat:=by
 have hn:((i::t).map Int.ofNat).Nodup:=by
  unfold List.Nodup
  rw[Gt]
  exact ht.2.imp fun q e=>q (by exact Int.ofNat.inj e)
 refine acy ?_ ?_ fun x=> ?_
 .have hz:zs.Nodup:=hp.nodup_iff.2 hn
  have:=List.Pairwise.and hs hz
  exact this.imp fun q=>by omega
 .unfold zg
  rw[Gt]
  exact(Ws.filter _).imp fun q=>by simpa using q
 rw[hp.mem_iff,fU,fU]
 constructor
 .rintro⟨k,hk,rfl⟩;exact⟨k,Pg.2 (by rw[h.len];exact(hm k).1 hk),rfl⟩
 rintro⟨k,hk,rfl⟩;exact⟨k,(hm k).2 (by rw[<-h.len];exact Pg.1 hk),rfl⟩
structure lS(W:List (BitVec 64))(us:List jo)(W':List (BitVec 64))(N5:List jo):Prop where
 le:us.length<=N5.length
 und:∀t,t<=us.length->je W' N5 t=je W us t/\N5.take t=us.take t
 ok:L3 W.length us->L3 W'.length N5
section
variable{W W' W2:List (BitVec 64)}{us N5 us2:List jo}{i:Nat}{b:BitVec 64}
theorem lS.refl:lS W us W us:=by grind[lS]
theorem lS.trans(h:lS W us W' N5)(h2:lS W' N5 W2 us2):lS W us W2 us2:=
 ⟨jP h.le h2.le,fun t ht=>by
  have a:=h.und t ht;have c:=h2.und t (jP ht h.le)
  exact⟨c.1.trans a.1,c.2.trans a.2⟩,fun q=>h2.ok (h.ok q)⟩
theorem lS.set(hi:i<W.length):lS W us (W.set i b) (Hx W us i b):=by grind[lS,Hx,agQ,al6]
theorem lS.add:lS W us (W++[b]) (us++[.add W.length]):=
 ⟨az,fun t ht=>⟨by rw[Ey ht];show je ((W++[b]).take W.length) us t=_;rw[uv],L4 ht⟩,fun h=>by rw[sF];exact⟨az,h⟩⟩
theorem lS.back(h:lS W us W' N5):je W' N5 us.length=W/\N5.take us.length=us:=by grind[lS,je,CR]
end
def ko(nd:List pN)(i x:Nat):List pN:=nd.set i {nd.getD i Ew with up:=x}
def mK(nd:List pN)(i x:Nat):List pN:=nd.set i {nd.getD i Ew with size:=x}
def uT(nd:List pN)(i x:Nat):List pN:=nd.set i {nd.getD i Ew with next:=x}
def qN(nd:List pN)(i x:Nat):List pN:=nd.set i {nd.getD i Ew with least:=x}
section
variable{nd:List pN}{cl:List Nat}{i x a b:Nat}
theorem awG(h:i<nd.length):(bD nd).set (4*i+0) (BitVec.ofNat 64 x)=bD (ko nd i x):=zf nd h J O
theorem awH(h:i<nd.length):(bD nd).set (4*i+1) (BitVec.ofNat 64 x)=bD (mK nd i x):=zf nd h J O
theorem awI(h:i<nd.length):(bD nd).set (4*i+2) (BitVec.ofNat 64 x)=bD (uT nd i x):=zf nd h J O
theorem awJ(h:i<nd.length):(bD nd).set (4*i+3) (BitVec.ofNat 64 x)=bD (qN nd i x):=zf nd h J O
theorem awK(h:i<nd.length):(bD nd).getD (4*i+0) 0=BitVec.ofNat 64 (rI nd i):=ze nd h J
theorem awL(h:i<nd.length):(bD nd).getD (4*i+1) 0=BitVec.ofNat 64 (kr nd i):=ze nd h J
theorem aoG(h:i<nd.length):(bD nd).getD (4*i+2) 0=BitVec.ofNat 64 (sE nd i):=ze nd h J
theorem aoH(h:i<nd.length):(bD nd).getD (4*i+3) 0=BitVec.ofNat 64 (pZ nd i):=ze nd h J
theorem Ph{n:Nat}(h:n<9223372036854775808):(BitVec.ofNat 64 n).toInt=(n:Int):=by grind[BitVec.toInt_eq_toNat_cond,BitVec.toNat_ofNat,Nat.mod_eq_of_lt]
theorem CS(n:Nat):BitVec.ofInt 64 (n:Int)=BitVec.ofNat 64 n:=az
theorem arE{l m:List pN}(hl:l.length=m.length)(h:∀i,i<l.length->l.getD i Ew=m.getD i Ew):l=m:=by grind[List.ext_getElem,List.getElem?_eq_getElem]
theorem agT(ha:a<nd.length)(hb:b<nd.length)(hab:a≠b):uT (uT (qN (mK (ko nd b a) a (kr nd a+kr nd b)) a (min (pZ nd a) (pZ nd b))) a (sE nd b)) b (sE nd a)=oP nd a b:=by
 have hba:¬b=a:=fun e=>hab e.symm
 refine arE (by simp[uT,qN,mK,ko,oP]) fun i hi=> ?_
 have hi':i<nd.length:=by simpa[uT,qN,mK,ko]using hi
 unfold uT qN mK ko oP
 simp only[kK,mM,ha,hb,and_true]
 by_cases h1:i=a
 .subst h1;simp[hab,rI]
 by_cases h2:i=b
 .subst h2;simp[h1,hba,kr,pZ]
 simp[h1,h2]
theorem Ya(cl:List Nat)(x y:Nat):ig cl x y=ig cl y x:=by grind[ig,List.map_congr_left,Hw]
theorem Fo.szb(h:Fo nd cl)(hi:i<nd.length):rI nd i<nd.length/\kr nd i<=nd.length/\∃t,Ring (sE nd) i t/\sE nd i<nd.length:=by
 refine⟨h.up i hi,h.sn i hi,?_⟩
 obtain⟨t,ht,hm⟩:=h.ring i hi
 refine⟨t,ht,?_⟩
 have h1:=ht.1
 cases t with
 |nil=>have:sE nd i=i:=h1;omega
 |cons z t=>have:sE nd i=z:=h1.1;rw[this];exact((hm z).1 az).1
theorem Fo.al9(h:Fo nd cl):∀d i,i<nd.length->nd.length-kr nd i<=d->∃r,r<nd.length/\rI nd r=r/\cg cl r=cg cl i:=by
 intro d
 induction d with
 |zero=>
  intro i hi hd
  refine⟨i,hi,J8 fun q=> ?_,rfl⟩
  have:=h.sz i hi q;have:=h.sn _ (h.up i hi);omega
 |succ d ih=>
  intro i hi hd
  by_cases q:rI nd i=i
  .exact⟨i,hi,q,rfl⟩
  have h1:=h.sz i hi q;have h2:=h.sn _ (h.up i hi)
  obtain⟨r,r1,r2,r3⟩:=ih (rI nd i) (h.up i hi) J
  exact⟨r,r1,r2,r3.trans (h.uc i hi)⟩
open Classical in
noncomputable def oo(nd:List pN)(cl:List Nat)(i:Nat):Nat:=if h:∃r,r<nd.length/\rI nd r=r/\cg cl r=cg cl i then h.choose else 0
theorem oM(h:Fo nd cl)(hi:i<nd.length):oo nd cl i<nd.length/\rI nd (oo nd cl i)=oo nd cl i/\cg cl (oo nd cl i)=cg cl i:=by
 have he:=h.al9 _ i hi (eG _)
 rw[oo,dif_pos he];exact he.choose_spec
theorem agU(h:Fo nd cl)(hi:i<nd.length){r:Nat}(h1:r<nd.length)(h2:rI nd r=r)(h3:cg cl r=cg cl i):r=oo nd cl i:=by
 obtain⟨a,b,c⟩:=oM h hi
 exact h.one _ _ h1 a h2 b (h3.trans c.symm)
theorem ama(h:Fo nd cl){j:Int}(h0:0<=j)(h1:j<nd.length):(pZ nd (oo nd cl j.toNat):Int)=fl cl j:=by grind[Fo,pZ,oo,fl,oM,mw]
theorem acz(h:Fo nd cl){j:Int}(h0:¬(0<=j/\j<nd.length)):(-1:Int)=fl cl j:=by grind[Fo,fl,Hz]
theorem Rx(h:Fo nd cl)(hn:nd.length<=1000000){j:Nat}(hj:j<nd.length)(k:Int)(v:Nat)(hk:0<=k/\k<4)(hv:(bD nd).getD (4*j+k.toNat) 0=BitVec.ofNat 64 v)(hs:v<=nd.length):((bD nd).getD (4*(j:Int)+k).toNat 0).toInt=(v:Int):=by grind[Ph]
theorem amb(h:Fo nd cl)(hn:nd.length<=1000000){j:Nat}(hj:j<nd.length):((bD nd).getD (4*(j:Int)+0).toNat 0).toInt=(rI nd j:Int):=
 Rx h hn hj 0 _ ⟨J,J⟩ (awK hj) (by have:=h.up j hj;omega)
theorem aan(h:Fo nd cl)(hn:nd.length<=1000000){j:Nat}(hj:j<nd.length):((bD nd).getD (4*(j:Int)+2).toNat 0).toInt=(sE nd j:Int):=
 Rx h hn hj 2 _ ⟨J,J⟩ (aoG hj) (by obtain⟨_,_,t,_,q⟩:=h.szb hj;omega)
theorem amc(h:Fo nd cl)(hn:nd.length<=1000000){j:Nat}(hj:j<nd.length)(hu:rI nd j=j):((bD nd).getD (4*(j:Int)+3).toNat 0).toInt=(pZ nd j:Int):=
 Rx h hn hj 3 _ ⟨J,J⟩ (aoH hj) (by rw[h.le j hj hu];have:=(h.lc j hj).1;omega)
theorem acA(h:Fo nd cl)(hn:nd.length<=1000000){j:Int}(h0:0<=j/\j<nd.length):((bD nd).getD (4*((oo nd cl j.toNat:Nat):Int)+3).toNat 0).toInt=fl cl j:=by grind[oM,amc,ama]
theorem Ui{n:Nat}{l:List Nat}(hd:l.Nodup)(h:∀k∈l,k<n):l.length<=n:=by
 have:=JR hd (m:=List.range n) fun x hx=>oL.2 (h x hx)
 rwa[Qr]at this
theorem zh{t o m:List Nat}{i:Int}{a:Nat}(ht:Ring (sE nd) i.toNat t)(hmt:∀k,k∈i.toNat::t↔k<nd.length/\cg cl k=cg cl i.toNat)(he:i.toNat::t=o++a::m)(hne:sE nd a≠i.toNat):
 i.toNat::t=(o++[a])++sE nd a::m.tail/\sE nd a<nd.length/\(o++[a]).length+1<=(i.toNat::t).length/\m.tail.length<m.length:=by grind[Hy,sE]
def bK(cl:List Nat)(i:Int):List Int:=if 0<=i/\i<cl.length then(zg cl i.toNat).map Int.ofNat else[]
theorem Pj(h:Fo nd cl){i:Int}(hi:¬(0<=i/\i<nd.length)):bK cl i=[]:=by grind[Fo,bK]
theorem L7(h:Fo nd cl){i:Int}(hi:0<=i/\i<nd.length){t o m:List Nat}{a:Nat}(ht:Ring (sE nd) i.toNat t)(hmt:∀k,k∈i.toNat::t↔k<nd.length/\cg cl k=cg cl i.toNat)(he:i.toNat::t=o++a::m)(hx:sE nd a=i.toNat):
  (((o++[a]).map Int.ofNat).mergeSort fun x y=>decide (x<=y))=bK cl i:=by
 have hm:m=[]:=by
  rcases Hy ht he with⟨q,_⟩|⟨z,m',_,q,q2⟩
  .exact q
  exact absurd (q.symm.trans hx) q2
 subst hm
 rw[bK,aQ (by have:=h.len;omega)]
 refine Rw h J ht hmt ?_ ?_
 .rw[he];exact List.mergeSort_perm _ _
 have:=List.pairwise_mergeSort (le:=fun x y:Int=>decide (x<=y)) (fun a b c h1 h2=>by simp at*;omega) (fun a b=>by simp;omega) ((o++[a]).map Int.ofNat)
 exact this.imp fun q=>by simpa using q
end
theorem Uj{nd:List pN}{i x j:Nat}:kr (ko nd i x) j=kr nd j:=by grind[kr,ko,kK]
theorem Uk{nd:List pN}{i x j:Nat}:sE (ko nd i x) j=sE nd j:=by grind[sE,ko,kK]
theorem Ul{nd:List pN}{i x j:Nat}:pZ (ko nd i x) j=pZ nd j:=by grind[pZ,ko,kK]
theorem Um{nd:List pN}{i x j:Nat}:sE (mK nd i x) j=sE nd j:=by grind[sE,mK,kK]
theorem Un{nd:List pN}{i x j:Nat}:pZ (mK nd i x) j=pZ nd j:=by grind[pZ,mK,kK]
theorem Uo{nd:List pN}{i x j:Nat}:sE (qN nd i x) j=sE nd j:=by grind[sE,qN,kK]
theorem Ry{nd:List pN}{j:Nat}{k:Int}{v:Nat}(hk:0<=k/\k<4)(hv:(bD nd).getD (4*j+k.toNat) 0=BitVec.ofNat 64 v)(hs:v<=1000000):((bD nd).getD (4*(j:Int)+k).toNat 0).toInt=(v:Int):=by grind[Ph]
theorem agW{nd:List pN}{i x:Nat}(h:i<nd.length):(bD nd).set (4*(i:Int)+0).toNat (BitVec.ofInt 64 (x:Int))=bD (ko nd i x):=by
 rw[show(4*(i:Int)+0).toNat=4*i+0 by omega,CS];exact awG h
theorem agX{nd:List pN}{i x:Nat}(h:i<nd.length):(bD nd).set (4*(i:Int)+1).toNat (BitVec.ofInt 64 (x:Int))=bD (mK nd i x):=by
 rw[show(4*(i:Int)+1).toNat=4*i+1 by omega,CS];exact awH h
theorem RA{nd:List pN}{i x:Nat}(h:i<nd.length):(bD nd).set (4*(i:Int)+2).toNat (BitVec.ofInt 64 (x:Int))=bD (uT nd i x):=by
 rw[show(4*(i:Int)+2).toNat=4*i+2 by omega,CS];exact awI h
theorem agY{nd:List pN}{i x:Nat}(h:i<nd.length):(bD nd).set (4*(i:Int)+3).toNat (BitVec.ofInt 64 (x:Int))=bD (qN nd i x):=by
 rw[show(4*(i:Int)+3).toNat=4*i+3 by omega,CS];exact awJ h
end
end Go.Proofs.YtlhjdflgjbkpmaaGreatDoor.M
namespace Go.Proofs.YtlhjdflgjbkpmaaGreatDoor.E
section
open Go Go.RowKit Go.Proofs.YtlhjdflgjbkpmaaGreatDoor.M
def Up(c:Option (Nat×Array Value))(v:Value)(e:TypeId)(sz n:Nat)(xs:List Value):a8:=
 match c with
 |none=> .row v e sz n xs
 |some (b,cur)=> .blk b (.cells cur e (0,0))
def cOk(c:Option (Nat×Array Value))(v:Value)(sz n:Nat)(xs:List Value):Prop:=
 match c with
 |none=>True
 |some (b,cur)=>v= .slice (some ⟨b,0,none⟩) n n/\xs.length=n*sz/\cur.toList.take (n*sz)=xs/\n<=maxLen
section
variable{w0 w:World}{L:List a8}{c:Option (Nat×Array Value)}{v:Value}{e:TypeId}{sz n m i:Nat}{xs:List Value}
theorem Hp.wB{x x':a8}(h:Hp w0 w L)(hi:L[i]?=some x)(hf:x'.rq=x.rq)(hok:x'.ok w0.heap.size w):Hp w0 w (L.set i x'):=
 ⟨h.below,fun y hy=>(List.mem_or_eq_of_mem_set hy).elim (h.ok y) fun q=>q▸hok,Bs hi hf h.KU⟩
theorem Hp.slC(h:Hp w0 w L)(hi:L[i]?=some (Up c v e sz n xs))(hk:cOk c v sz n xs):Sl w v sz n xs:=by
 cases c with
 |none=>exact h.sl hi
 |some bc=>
  obtain⟨b,cur⟩:=bc
  obtain⟨rfl,h2,h3,h4⟩:=hk
  refine⟨⟨_,n,rfl,eG _,fun _=>rfl⟩,h2,fun j u hu=> ?_,h4⟩
  simp only[sb,so,fg]
  rw[xa w _ _ cur e (0,0) (h.blk hi)]
  rw[<-h3,uo]at hu
  split at hu
  .simpa using hu
  .cases hu
theorem Hp.aD9(h:Hp w0 w L)(hi:L[i]?=some (Up c v e sz n xs))(hk:cOk c v sz n xs)(hm:m<=n):∃c',cOk c' (sD v m) sz m (xs.take (m*sz))/\Hp w0 w (L.set i (Up c' (sD v m) e sz m (xs.take (m*sz)))):=by
 have hle:m*sz<=n*sz:=qV _ hm
 cases c with
 |none=>
  have hr:w.ownsRow w0.heap.size e sz v n xs:=h.get hi
  obtain⟨h1,h2⟩:=hr
  rcases h2 with⟨rfl,rfl⟩|⟨gb,cap,cur,rfl,hb,hg,hn,hc,hs,ht⟩
  .have:m=0:=J
   subst this
   refine⟨none,trivial,h.wB hi O ?_⟩
   exact⟨az,.inl ⟨rfl,rfl⟩⟩
  refine⟨some (gb,cur),⟨rfl,?_,?_,J⟩,h.wB hi O ⟨hb,hg⟩⟩
  .rw[eo,h1];omega
  rw[<-ht,Ba];congr 1;omega
 |some bc=>
  obtain⟨b,cur⟩:=bc
  obtain⟨rfl,h2,h3,h4⟩:=hk
  refine⟨some (b,cur),⟨rfl,?_,?_,J⟩,h.wB hi O (h.get hi)⟩
  .rw[eo,h2];omega
  rw[<-h3,Ba];congr 1;omega
variable{P:Program}{σ:Env}{ty t:TypeId}{pos:String}{bJ:Array Edge}{dst:Option Tmp}{g:Option (Nat×Bool)}{x y:Operand}{u:Value}{o:Nat}
theorem amd(h:Hp w0 w L)(hi:L[i]?=some (Up c v e sz n xs))(hk:cOk c v sz n xs)(hn:0<n)(hx:ev σ x= .pointer (some ⟨sb v,so v+o,none⟩))(hy:ev σ y=u)(hv:u.cells=#[u])(h1:u.oneCell'=true)(hs:(P.info? t).map (·.size)=some 1)(ho:o+1<=n*sz):
  ∃c' w',(execOp (ev σ) ⟨dst,.store t x y,ty,pos,bJ,g⟩).run P w= .ok .skip w'/\cOk c' v sz n (rE xs o [u])/\Hp w0 w' (L.set i (Up c' v e sz n (rE xs o [u]))):=by
 cases c with
 |none=>
  obtain⟨w',hr,h2⟩:=Fw (dst:=dst) (ty:=ty) (pos:=pos) (bJ:=bJ) (g:=g) h hi hn hx hy hv h1 hs ho
  exact⟨none,w',hr,trivial,h2⟩
 |some bc=>
  obtain⟨b,cur⟩:=bc
  obtain⟨rfl,h2,h3,h4⟩:=hk
  have hl:n*sz<=cur.size:=by
   have:=aK List.length h3
   rw[eo,h2,DU]at this;omega
  have hx':ev σ x= .pointer (some ⟨b,o,none⟩):=by rw[hx];simp only[sb,so,fg]
  have hr:=bL (P:=P) (dst:=dst) (ty:=ty) (pos:=pos) (bJ:=bJ) (g:=g) hs hx' hy hv h1 (h.blk hi) J
  have e1:(cur.setIfInBounds o u).toList=cur.toList.take o++[u]++cur.toList.drop (o+1):=by
   simp[Wj,show o<cur.size by omega]
  refine⟨some (b,cur.setIfInBounds o u),_,hr,⟨rfl,?_,?_,h4⟩,h.set hi⟩
  .rw[rE];simp only[cV,eo,xJ,gk,h2];omega
  rw[e1,show cur.toList.take o++[u]++cur.toList.drop (o+1)=cur.toList.take o++[u]++cur.toList.drop (o+[u].length)from O,Ft (by simpa using ho) QY,h3]
theorem Uq{ie:TypeInfo}{z:Value}{size bytes:Nat}{m':Nat}{news:List Value}{ats:TypeId}(h:Hp w0 w L)(hi:L[i]?=some (Up c v e size n xs))(hk:cOk c v size n xs)(hS:Sl w u size m' news)
  (hx:ev σ x=v) (hy:ev σ y=u) (ht:P.underlying t=some (.slice e)) (hie:P.info? e=some ie) (hz:ie.zero=some z)
  (hsize:ie.size=size) (hby:ie.bytes=bytes) (hzs:z.cells.size=size) (hsz:0<size) (h1:∀u∈news,u.oneCell'=true) (hm:0<m')
  (hbytes:(n+m')*bytes<=140737488355328) (h63:n+m'<=maxLen):
  ∃v' w',(execOp (ev σ) ⟨dst,.call {callee:= .builtin .append,args:=#[x,y],argTypes:=#[t,t]},ty,pos,bJ,g⟩).run P w= .ok (.value v') w'/\Hp w0 w' (L.set i (.row v' e size (n+m') (xs++news))):=by
 cases c with
 |none=>
  obtain⟨v',w',hr,h2,h3,h4⟩:=r7 (P:=P) (ty:=ty) ht hie hz hsize hby hzs hsz (h.get hi) hS h1 h63 hbytes h.size
  exact⟨v',w',rW hx hy hr,h.xM hi h2 h3 h4⟩
 |some bc=>
  have hX:=h.slC hi hk
  have hsh:∃a,v= .slice a n n:=by
   obtain⟨b,cur⟩:=bc
   exact⟨_,hk.1⟩
  obtain⟨v',w',hr,h2,h3⟩:=LY (P:=P) (base:=0) (ty:=ty) ht hie hz hsize hby hzs hsh hX hS hm h63 hbytes
  exact⟨v',w',rW hx hy hr,(h.CD h3 h2).swap (mh.1 hi).1⟩
end
section
variable{P:Program}{σ:Env}{w:World}{t te ty u:TypeId}{pos:String}{bJ:Array Edge}{dst:Option Tmp}{g:Option (Nat×Bool)}{x y:Operand}{a:Addr}
theorem EA(d:Nat)(ht:P.underlying t=some (.pointer te)):(Op.equalIn (d+1) t (.pointer (some a)) (.pointer none)).run P w= .ok false w:=by
 simp[Op.equalIn,jr ht]
theorem Yb(d:Nat)(ht:P.underlying t=some (.pointer te)):(Op.equalIn (d+1) t (.pointer none) (.pointer none)).run P w= .ok true w:=by
 simp[Op.equalIn,jr ht]
theorem jf(ht:P.underlying t=some (.pointer te))(hx:ev σ x= .pointer (some a))(hy:ev σ y= .pointer none):
  (execOp (ev σ) ⟨dst,.binOp .eql t x y u,ty,pos,bJ,g⟩).run P w= .ok (.value (.bool false)) w:=by
 have h:(binOp .eql t (.pointer (some a)) (.pointer none)).run P w= .ok (.bool false) w:=by
  simp only[binOp];simp[Op.equal,Op.maxDepth,EA 9999 ht]
 have he:(eqGuard .eql t x y (.pointer (some a)) (.pointer none))=pure ():=rfl
 simp only[execOp,hx,hy,he];simp[h]
end
theorem Sl.atU{w:World}{v:Value}{W:List (BitVec 64)}(h:Sl w v 1 W.length (W.map U)){i:Int}(h0:0<=i)(h1:i<W.length):w.cell? ⟨sb v,so v+i.toNat*1,none⟩=some (U (W.getD i.toNat 0)):=by
 refine h.cell _ _ ?_
 rw[kP,p5,ef J,eE,ef J];rfl
def cE(c:Option (Nat×Array Value))(v:Value)(e:TypeId)(xs:List Value):a8:=Up c v e 1 xs.length xs
def cO(c:Option (Nat×Array Value))(v:Value)(xs:List Value):Prop:=cOk c v 1 xs.length xs
section
variable{P:Program}{n:Nat}{k:K}{l:List Oper}{σ:Env}{w0 w:World}{L L':List a8}{ty t e:TypeId}{pos:String}{bJ:Array Edge}{d:Nat}{x y:Operand}{g:Option (Nat×Bool)}{v u:Value}{c:Option (Nat×Array Value)}{xs:List Value}{i m fuel j:Nat}{listed:Array Bool}{W:List (BitVec 64)}{y0:Value}
theorem Hp.Az(h:Hp w0 w L)(hi:L[i]?=some (cE c v e xs))(hk:cO c v xs):Sl w v 1 xs.length xs:=h.slC hi hk
theorem Fz{o:Nat}{b:BitVec 64}:(W.map U).set o (U b)=(W.set o b).map U:=List.map_set.symm
theorem Hp.acB{b:Nat}{o:Obj}(h:Hp w0 w L)(hm:a8.blk b o∈L):w.heap[b]?=some o:=(h.ok _ hm).2
theorem Hp.gP{b off:Nat}{cs:Array Value}{te:TypeId}{fr:Nat×Nat}(h:Hp w0 w L)(hm:a8.blk b (.cells cs te fr)∈L)(hc:cs[off]?=some v):w.cell? ⟨b,off,none⟩=some v:=by
 rw[xa w b off cs te fr (h.acB hm)];exact hc
theorem Hp.xY(h:Hp w0 w L)(hi:L[i]?=some (cE c v e (W.map U)))(hk:cO c v (W.map U)):Sl w v 1 W.length (W.map U):=by
 have:=h.Az hi hk
 rwa[gj]at this
theorem Hp.arG(h:Hp w0 w L)(hi:L[i]?=some (cE c v e xs))(hk:cO c v xs)(hm:m<=xs.length):∃c',cO c' (sD v m) (xs.take m)/\Hp w0 w (L.set i (cE c' (sD v m) e (xs.take m))):=by
 obtain⟨c',h1,h2⟩:=h.aD9 hi hk hm
 have e:(xs.take m).length=m:=by rw[eo];omega
 rw[kP]at h1 h2
 exact⟨c',by unfold cO;rw[e];exact h1,by unfold cE;rw[e];exact h2⟩
theorem BI{o:Nat}(ho:o<xs.length):rE xs o [u]=xs.set o u:=by grind[rE,List.set_eq_take_append_cons_drop]
theorem agZ(hj:l[j]?=some ⟨none,.store t x y,ty,pos,bJ,g⟩)(hg:∀a,Is n σ a->Region.wanted ⟨none,.store t x y,ty,pos,bJ,g⟩ (yielded l.toArray a.tmps)=true)(hH:Hp w0 w L)(hi:L[i]?=some (cE c v e xs))(hk:cO c v xs)(hsub:∀c' ys,L'.Sublist (L.set i (cE c' v e ys))){o:Nat}(ho:o<xs.length)
  (hx:ev σ x= .pointer (some ⟨sb v,so v+o*1,none⟩)) (hy:ev σ y=u) (hv:u.cells=#[u]) (h1:u.oneCell'=true) (hs:(P.info? t).map (·.size)=some 1)
  (hn:∀c' w',cO c' v (xs.set o u)->Hp w0 w' (L.set i (cE c' v e (xs.set o u)))->AN P n l (fun w=>Hp w0 w L') k fuel (listed.setIfInBounds j true) σ w'):AO P n l (fun w=>Hp w0 w L') k fuel listed σ w j:=by
 obtain⟨c',w',hr,h2,h3⟩:=amd (dst:=none) (ty:=ty) (pos:=pos) (bJ:=bJ) (g:=g) hH hi hk J (o:=o) (by rw[hx,kP]) hy hv h1 hs J
 rw[BI ho]at h2 h3
 have e1:(xs.set o u).length=xs.length:=mM
 refine KW hj hg hr ((show Hp w0 w' (L.set i (cE c' v e (xs.set o u)))by unfold cE;rw[e1];exact h3).sub (hsub _ _)) (hn c' w' (by unfold cO;rw[e1];exact h2) (by unfold cE;rw[e1];exact h3))
theorem BJ{ie:TypeInfo}{z:Value}{bytes:Nat}(hi:l[j]?=some ⟨some d,.call {callee:= .builtin .append,args:=#[x,y],argTypes:=#[t,t]},ty,pos,bJ,g⟩)
  (hg:∀a,Is n σ a->Region.wanted ⟨some d,.call {callee:= .builtin .append,args:=#[x,y],argTypes:=#[t,t]},ty,pos,bJ,g⟩ (yielded l.toArray a.tmps)=true) (hd:Nat.blt d n=true) (hH:Hp w0 w L) (hL:L[i]?=some (cE c v e xs)) (hk:cO c v xs)
  (hs:∀v' ys,L'.Sublist (L.set i (cE none v' e ys))) (hS:Sl w u 1 1 [y0])
  (hx:ev σ x=v) (hy:ev σ y=u) (ht:P.underlying t=some (.slice e)) (hie:P.info? e=some ie) (hz:ie.zero=some z)
  (hsize:ie.size=1) (hby:ie.bytes=bytes) (hzs:z.cells.size=1) (h1:y0.oneCell'=true)
  (hbytes:(xs.length+1)*bytes<=140737488355328) (h63:xs.length+1<=maxLen)
  (hn:∀v' w',Hp w0 w' (L.set i (cE none v' e (xs++[y0])))->AN P n l (fun w=>Hp w0 w L') k fuel (listed.setIfInBounds j true) (k7 σ d v') w'):AO P n l (fun w=>Hp w0 w L') k fuel listed σ w j:=by
 obtain⟨v',w',hr,h2⟩:=Uq (P:=P) (ty:=ty) (dst:=some d) (pos:=pos) (bJ:=bJ) (g:=g) (ats:=t) hH hL hk hS hx hy ht hie hz hsize hby hzs J (fun u hu=>by rw[fZ.1 hu];exact h1) J hbytes h63
 have h3:Hp w0 w' (L.set i (cE none v' e (xs++[y0]))):=by unfold cE;rw[cV,gk];exact h2
 exact Bu hi hg hd hr (h3.sub (hs _ _)) (hn v' w' h3)
end
theorem Pk{W:List (BitVec 64)}{b:BitVec 64}:W.map U++[U b]=(W++[b]).map U:=az
theorem uk{ul:List (Value×jo)}{x:Value}(u:jo):ul.map Prod.fst++[x]=(ul++[(x,u)]).map Prod.fst:=az
structure UT where
 fA:FuncId
 fS:FuncId
 tc:TypeId
 ti:TypeId
 tu:TypeId
 o:Nat
def oQ(T:UT)(F:Nat)(L:List a8)(x:Value×jo):Prop:=
 match x.2 with
 | .add n=>∃b1 b2,x.1= .func (.func T.fA) #[] #[.pointer (some ⟨b1,0,none⟩),.pointer (some ⟨b2,0,none⟩)]/\a8.blk b1 (.cells #[.pointer (some ⟨F,T.o,none⟩)] T.tc (0,0))∈L/\a8.blk b2 (.cells #[I n] T.ti (0,0))∈L
 | .set i b=>∃b1 b2 b3,x.1= .func (.func T.fS) #[] #[.pointer (some ⟨b1,0,none⟩),.pointer (some ⟨b2,0,none⟩),.pointer (some ⟨b3,0,none⟩)]/\a8.blk b1 (.cells #[U b] T.tu (0,0))∈L/\a8.blk b2 (.cells #[.pointer (some ⟨F,T.o,none⟩)] T.tc (0,0))∈L/\a8.blk b3 (.cells #[I i] T.ti (0,0))∈L
theorem oQ.mono{T:UT}{F:Nat}{L L':List a8}{x:Value×jo}(h:oQ T F L x)(hs:∀e∈L,e∈L'):oQ T F L' x:=by
 obtain⟨v,u⟩:=x
 cases u with
 |add n=>obtain⟨b1,b2,h1,h2,h3⟩:=h;exact⟨b1,b2,h1,hs _ h2,hs _ h3⟩
 |set i b=>obtain⟨b1,b2,b3,h1,h2,h3,h4⟩:=h;exact⟨b1,b2,b3,h1,hs _ h2,hs _ h3,hs _ h4⟩
theorem ame{ul:List (Value×jo)}{j k:Int}(h0:0<=j/\j<k)(h1:k<=ul.length):((ul.take k.toNat).map Prod.fst)[j.toNat*1]?=some ((ul.getD j.toNat (.tuple #[],.add 0)).1):=by grind
theorem ag0{ul:List (Value×jo)}{k:Int}(h0:0<k)(h1:(k-1).toNat<ul.length):(ul.getD (k-1).toNat (.tuple #[],.add 0)).1=(ul[(k-1).toNat]).1:=by
 rw[eE,ef h1];rfl
theorem arH{W:List (BitVec 64)}{ul:List (Value×jo)}{k:Int}(h0:0<k)(h1:(k-1).toNat<ul.length):Ru (je W (ul.map Prod.snd) k.toNat) (ul[(k-1).toNat]).2=je W (ul.map Prod.snd) (k-1).toNat:=by
 rw[L5 (W:=W) (us:=ul.map Prod.snd) (k:=(k-1).toNat) Ee,List.getElem_map,show(k-1).toNat+1=k.toNat by omega]
theorem arI{W:List (BitVec 64)}{ul:List (Value×jo)}{k:Int}(h:L3 W.length (ul.map Prod.snd))(h1:(k-1).toNat<ul.length)(h0:0<k):match(ul[(k-1).toNat]).2 with| .add n=>n<=(je W (ul.map Prod.snd) k.toNat).length| .set i _=>i<(je W (ul.map Prod.snd) k.toNat).length:=by
 have h2:=Uh h (t:=k.toNat) (by rw[gj];omega)
 have e:(ul.map Prod.snd).take k.toNat=(ul.map Prod.snd).take (k-1).toNat++[(ul[(k-1).toNat]).2]:=by
  rw[show k.toNat=(k-1).toNat+1 by omega,yB,p5,ef h1];rfl
 rw[e,sF]at h2
 generalize(ul[(k-1).toNat]).2=u at h2⊢
 cases u with
 |add n=>exact h2.1
 |set i b=>exact h2.1
section
variable{P:Program}{n:Nat}{k:K}{xs:List (Nat×K)}{r:K}{σ:Env}{w:World}
theorem Yc{c:Code}(h:CW P n c k xs r σ w):CW P n (.scope c) k xs r σ w:=fun a ha=>wp_scope_straight (yF (fun e a' w' hq=>by cases e<;>exact hq) (h a ha))
theorem Yd{l:Nat}(h:k σ w):CW P n (.label l) k xs r σ w:=fun a ha=>wp_label ⟨σ,ha,h⟩
end
theorem Hp.lN{w0 w:World}{A R B L:List a8}(h:Hp w0 w (A++(B++(R++L)))):Hp w0 w (A++(R++(B++L))):=by
 refine h.perm (um A ?_)
 rw[<-dg,<-dg]
 exact List.Perm.append_right L sW
def arJ(n:Nat)(k:Int):Int:=if k=1 then 1 else n
theorem Ye{n:Nat}{k:Int}(h0:0<=k)(h1:k<4):([I n,I 1,I n,I n]:List Value)[k.toNat*1]?=some (I (arJ n k)):=by
 rcases(by omega:k=0\/k=1\/k=2\/k=3)with rfl|rfl|rfl|rfl<;>rfl
theorem Jq{n:Nat}{k:Int}(h0:0<=k)(h1:k<4):(EZ (qM n)).take (k+1).toNat=(EZ (qM n)).take k.toNat++[BitVec.ofInt 64 (arJ n k)]:=by
 rcases(by omega:k=0\/k=1\/k=2\/k=3)with rfl|rfl|rfl|rfl<;>simp[EZ,qM,arJ]
def L8(m:Nat)(k:Int):List jo:=(List.range k.toNat).map fun j=>jo.add (m+j)
theorem HA{m:Nat}{k:Int}(h0:0<=k):L8 m (k+1)=L8 m k++[jo.add (m+k.toNat)]:=by
 rw[L8,show(k+1).toNat=k.toNat+1 by omega,wV,gA];rfl
theorem Yf{m:Nat}{us:List jo}:us++L8 m 4=N6 us m:=by simp[L8,N6,List.range,List.range.loop]
theorem oR{a b c:List (Value×jo)}{T:UT}{F:Nat}{B C:List a8}(h1:b.take a.length=a)(h2:c.take b.length=b)(hab:∀x∈b.drop a.length,oQ T F B x)(hbc:∀x∈c.drop b.length,oQ T F C x):c.take a.length=a/\∀x∈c.drop a.length,oQ T F (C++B) x:=by
 have hl:a.length<=b.length:=by
  have:=aK List.length h1;rw[eo]at this;omega
 constructor
 .rw[show c.take a.length=(c.take b.length).take a.length by rw[Ba,qW hl],h2,h1]
 intro x hx
 have e:c=b++c.drop b.length:=by conv=>lhs;rw[<-Gq b.length c,h2]
 rw[e,J4 hl]at hx
 rcases eP.1 hx with q|q
 .exact(hab x q).mono fun e he=>bt _ he
 exact(hbc x q).mono fun e he=>dx _ he
end
end Go.Proofs.YtlhjdflgjbkpmaaGreatDoor.E
namespace Go.Proofs.YtlhjdflgjbkpmaaGreatDoor.M
section
open Go
theorem acC(r:Rl)(w:BitVec 64):(∃k:Int,eL r w=(k,true)/\0<=k/\k<pts r/\bS r k=w)\/eL r w=(0,false):=by grind[Rl,eL,pts,bS,m9]
theorem aew(r:Rl)(i j:Int):(iO r i j).2=true->0<=(iO r i j).1/\(iO r i j).1<pts r:=by grind[m9,nc,iz,pts,iO,z7]
def Dv(r:Rl)(w:BitVec 64):Int:=if(eL r w).2=true then(eL r w).1 else-1
theorem arK{r:Rl}{w:BitVec 64}{k:Int}(h0:0<=k)(hk:k<pts r)(h:bS r k=w)(hf:∀j:Int,0<=j->j<k->bS r j≠w):Dv r w=k:=by
 rw[Dv,CI h0 hk h hf];rfl
theorem awM{r:Rl}{w:BitVec 64}{k:Int}(hk:¬k<pts r)(hf:∀j:Int,0<=j->j<k->bS r j≠w):Dv r w= -1:=by
 rw[Dv,Fg hk hf];rfl
theorem Dw(r:Rl)(w:BitVec 64):(0<=Dv r w/\Dv r w<pts r/\bS r (Dv r w)=w/\eL r w=(Dv r w,true))\/(Dv r w= -1/\(eL r w).2=false):=by grind[Dv,acC]
def Iy(r:Rl)(i j:Int):BitVec 64:=if(iO r (Dv r (bS r i)) (Dv r (bS r j))).2=true then bS r (iO r (Dv r (bS r i)) (Dv r (bS r j))).1 else bS r i|||bS r j
theorem acD{r:Rl}{i j:Int}(h:(iO r (Dv r (bS r i)) (Dv r (bS r j))).2=true):Iy r i j=bS r (iO r (Dv r (bS r i)) (Dv r (bS r j))).1:=aQ h
theorem ag1{r:Rl}{i j:Int}(h:(iO r (Dv r (bS r i)) (Dv r (bS r j))).2=false):Iy r i j=bS r i|||bS r j:=aP (by rw[h];exact J5)
theorem Pm{r:Rl}{a b:BitVec 64}(h:Dv r a<0\/Dv r b<0):a|||b=jE r a b:=by
 rcases h with h|h
 .rcases Dw r a with q|q
  .omega
  exact(OI q.2).symm
 rcases Dw r b with q|q
 .omega
 exact(OJ q.2).symm
theorem ag2{r:Rl}{a b:BitVec 64}(h:¬(Dv r a<0\/Dv r b<0)):Iy r (Dv r a) (Dv r b)=jE r a b:=by grind[Dw,Iy,jE]
def nr(r:Rl)(k:Nat):List (BitVec 64):=(List.range k).map fun(i:Nat)=>bS r (i:Int)
theorem zi{r:Rl}{k:Nat}:(nr r k).length=k:=by simp[nr]
theorem acE{r:Rl}{k:Nat}{i:Int}(h:0<=i/\i<k):(nr r k).getD i.toNat 0=bS r i:=by grind[nr]
theorem Tb{r:Rl}{k:Int}(h:0<=k):nr r (k+1).toNat=nr r k.toNat++[bS r k]:=by
 rw[nr,show(k+1).toNat=k.toNat+1 by omega,wV,gA,Kf,fN h];rfl
def zj(r:Rl)(i:Int)(n k:Nat):List (BitVec 64):=(List.range n).map fun(j:Nat)=>if j<k then Iy r i (j:Int)else 0
theorem Bq{r:Rl}{i:Int}{n k:Nat}:(zj r i n k).length=n:=by simp[zj]
theorem acF{r:Rl}{i:Int}{n:Nat}:List.replicate n (0#64)=zj r i n 0:=by
 apply WT (by simp[zj])
 intro j h1 h2
 simp[zj]
theorem Ur{r:Rl}{i:Int}{n:Nat}{k:Int}{x:BitVec 64}(h:0<=k/\k<n)(hx:x=Iy r i k):(zj r i n k.toNat).set k.toNat x=zj r i n (k+1).toNat:=by grind[List.ext_getElem,zj,List.length_set,Bq,Int.toNat_of_nonneg]
theorem acG{r:Rl}{i:Int}{n:Nat}{k:Int}{x y:BitVec 64}(h:0<=k/\k<n)(hx:y=Iy r i k):((zj r i n k.toNat).set k.toNat x).set k.toNat y=zj r i n (k+1).toNat:=by simp_all[Ur]
theorem amf{r:Rl}{i:Int}{n:Nat}{j:Int}(h:0<=j/\j<n):(zj r i n n).getD j.toNat 0=Iy r i j:=by grind[zj]
end
end Go.Proofs.YtlhjdflgjbkpmaaGreatDoor.M
namespace Go.Proofs.YtlhjdflgjbkpmaaGreatDoor.E
section
open Go Go.RowKit Go.Proofs.YtlhjdflgjbkpmaaGreatDoor.M
def kZ(r:Rl)(d s:Int)(vw vj:Value):List Value:=vG r++[.int .u32 d,.int .i32 s,.int .u32 0,vw,vj]
section
variable{r:Rl}{d s:Int}{vw vj v:Value}
theorem aem:(kZ r d s vw vj).length=70:=by simp[kZ,oN]
theorem awN:(kZ r d s vw vj).toArray[0]?=some (I r.n):=by simp[kZ,vG]
theorem RB{k:Nat}(hk:k<5):(kZ r d s vw vj).toArray[65+k]?=([.int .u32 d,.int .i32 s,.int .u32 0,vw,vj]:List Value)[k]?:=by grind[kZ,oN]
theorem aao:(kZ r d s vw vj).toArray[65]?=some (.int .u32 d):=RB (k:=0) J
theorem aoI:(kZ r d s vw vj).toArray[66]?=some (.int .i32 s):=RB (k:=1) J
theorem Dx:(kZ r d s vw vj).toArray[68]?=some vw:=RB (k:=3) J
theorem aoJ:(kZ r d s vw vj).toArray[69]?=some vj:=RB (k:=4) J
theorem JS{k:Nat}:(kZ r d s vw vj).toArray.setIfInBounds (65+k) v=(vG r++([.int .u32 d,.int .i32 s,.int .u32 0,vw,vj]:List Value).set k v).toArray:=by simp_all[kZ,oN]
theorem FA:(kZ r d s vw vj).toArray.setIfInBounds 68 v=(kZ r d s v vj).toArray:=JS (k:=3)
theorem ag3:(kZ r d s vw vj).toArray.setIfInBounds 69 v=(kZ r d s vw v).toArray:=JS (k:=4)
theorem ag4{e:Int}:(kZ r d s vw vj).toArray.setIfInBounds 65 (.int .u32 e)=(kZ r e s vw vj).toArray:=JS (k:=0)
theorem Us{e:Int}:(kZ r d s vw vj).toArray.setIfInBounds 66 (.int .i32 e)=(kZ r d e vw vj).toArray:=JS (k:=1)
theorem amg:((kZ r d s vw vj).toArray.toList.drop 0).take (vG r).length=vG r:=by simp[kZ]
end
structure RC where
 v:Value
 l:List (BitVec 64)
def ru0:RC:=⟨.slice none 0 0,[]⟩
theorem arM{rs:List RC}{k:Int}(h:0<=k/\k<rs.length):(rs.map RC.v)[k.toNat*1]?=some (rs.getD k.toNat ru0).v:=by grind
def EB(r:Rl)(n k:Nat):List (List (BitVec 64)):=(List.range k).map fun(i:Nat)=>zj r (i:Int) n n
theorem Yg{r:Rl}{n:Nat}{k:Int}(h:0<=k):EB r n (k+1).toNat=EB r n k.toNat++[zj r k n n]:=by
 rw[EB,show(k+1).toNat=k.toNat+1 by omega,wV,gA,Kf,fN h];rfl
structure HB(K:Vu)(r:Rl)(vw vj:Value)(rs:List RC):Prop where
 words:pw K vw 1 (nr r (pts r).toNat).length ((nr r (pts r).toNat).map U)
 ag5:pw K vj 1 rs.length (rs.map RC.v)
 each:∀x∈rs,pw K x.v 1 x.l.length (x.l.map U)
 rs:rs.map RC.l=EB r (pts r).toNat (pts r).toNat
section
variable{K K':Vu}{r:Rl}{vw vj:Value}{rs:List RC}
theorem HB.mono(h:HB K r vw vj rs)(hl:Le K K'):HB K' r vw vj rs:=⟨h.words.mono hl,h.ag5.mono hl,fun x hx=>(h.each x hx).mono hl,h.rs⟩
theorem HB.len(h:HB K r vw vj rs):rs.length=(pts r).toNat:=by
 have:=aK List.length h.rs
 simpa[EB]using this
theorem HB.row(h:HB K r vw vj rs){i:Int}(hi:0<=i/\i<pts r):(rs.getD i.toNat ru0).l=zj r i (pts r).toNat (pts r).toNat/\pw K (rs.getD i.toNat ru0).v 1 (rs.getD i.toNat ru0).l.length ((rs.getD i.toNat ru0).l.map U):=by
 have hl:=h.len
 have hm:i.toNat<rs.length:=J
 have e:rs.getD i.toNat ru0=rs[i.toNat]:=by rw[eE,ef hm];rfl
 rw[e]
 refine⟨?_,h.each _ (p6 hm)⟩
 have h2:(rs.map RC.l)[i.toNat]?=some (zj r i (pts r).toNat (pts r).toNat):=by
  rw[h.rs,EB,p5,yA J,p7,fN hi.1]
 rw[p5,ef hm]at h2
 simpa using h2
end
section
variable{P:Program}{σ:Env}{w0 w:World}{L:List a8}{dst:Option Tmp}{ty t:TypeId}{pos:String}{bJ:Array Edge}{g:Option (Nat×Bool)}{x y:Operand}{v u:Value}{i b o m:Nat}{xs:List Value}{r:Rl}
theorem Hp.setCell{c:Array Value}{e:TypeId}(h:Hp w0 w L)(hi:L[i]?=some (.blk b (.cells c e (0,0)))):Hp w0 (w.setCell ⟨b,o,none⟩ v) (L.set i (.blk b (.cells (c.setIfInBounds o v) e (0,0)))):=by
 have e1:w.setCell ⟨b,o,none⟩ v=w.setRow b (c.setIfInBounds o v):=by
  unfold World.setCell World.setRow
  congr 1
  have hg:=h.blk hi
  have hlt:b<w.heap.size:=(A6.1 hg).1
  have hv:w.heap[b]= .cells c e (0,0):=(A6.1 hg).2
  apply Array.ext az
  intro k h1 h2
  rw[Array.getElem_modify,Array.getElem_modify]
  by_cases q:b=k
  .subst q;simp[hv]
  rw[aP q,aP q]
 rw[e1];exact h.set hi
theorem Hp.fz{c:Array Value}{e:TypeId}(h:Hp w0 w L)(hi:L[i]?=some (.blk b (.cells c e (0,0)))):w.frozen? ⟨b,o,none⟩=false:=by
 have hg:=h.blk hi
 unfold World.frozen?
 simp only[hg]
 simp
theorem HC{d:TypeDesc}{a s:Int}{vw vj:Value}{fr:Nat×Nat}{e:TypeId}(hu:P.underlying t=some d)(hd:d.isRow=true)(hi:(P.info? t).map (·.size)=some 65)(hx:ev σ x= .pointer (some ⟨b,0,none⟩))(hg:w.heap[b]?=some (.cells (kZ r a s vw vj).toArray e fr)):
 (execOp (ev σ) ⟨dst,.load t x,ty,pos,bJ,g⟩).run P w= .ok (.value (.agg (dM r))) w:=by grind[iR,iI,vG,oN,amg]
theorem rJ{n:Nat}{k:Int}(h:Sl w v 1 (nr r n).length ((nr r n).map U))(hk:0<=k/\k<n):w.cell? ⟨sb v,so v+k.toNat*1,none⟩=some (U (bS r k)):=by
 rw[<-acE hk]
 refine h.cell _ _ ?_
 rw[kP,p5,eE,ef (by rw[zi];omega)];rfl
theorem mk_zero{i:Int}{n:Nat}:(List.replicate n (0#64)).flatMap (fun x:BitVec 64=>[U x])=(zj r i n 0).map U:=by
 rw[<-acF]
 induction n with
 |zero=>rfl
 |succ n ih=>rw[List.replicate_succ,tH,lf,ih];rfl
end
def KN:Vu:=fun _ _=>False
theorem KN.le{K:Vu}:Le KN K:=fun _ _ h=>h.elim
def TbZ(TT:TypeId)(r:Rl)(b:Nat)(Z:List a8):Prop:=
 Z=[.blk b (.cells (kZ r 0 0 (.slice none 0 0) (.slice none 0 0)).toArray TT (0,0))]\/
 ∃(v1 v2:Value) (rs:List RC) (Zr:List a8),Z= .blk b (.cells (kZ r 1 0 v1 v2).toArray TT (0,0))::Zr/\HB (Kz KN Zr) r v1 v2 rs
theorem ag6{K:Vu}{Zr z:List a8}{rs:List RC}{v:Value}{n:Nat}{l:List (BitVec 64)}(h:∀x∈rs,pw (Kz K Zr) x.v 1 x.l.length (x.l.map U))(hv:pw (Kz K z) v 1 n (l.map U))(hn:n=l.length:=by first|rfl|(rw[Bq])):∀x∈rs++[RC.mk v l],pw (Kz K (z++Zr)) x.v 1 x.l.length (x.l.map U):=fun x hx=>by
 rcases eP.1 hx with q|q
 .exact(h x q).mono (Le.zz fun e he=>bt _ he)
 rw[fZ.1 q];subst hn;exact hv.mono (Le.zz fun e he=>dx _ he)
theorem Hp.rK{w0 w:World}{A Zf R:List a8}(h:Hp w0 w (A++(Zf++R))):Hp w0 w (Zf++(A++R)):=h.perm (by
 rw[<-dg,<-dg]
 exact sW.append_right R)
theorem ag7{P:Program}{σ:Env}{w:World}{dst:Option Tmp}{ty:TypeId}{pos:String}{bJ:Array Edge}{g:Option (Nat×Bool)}{x:Operand}{fn:Fn}{v:Value}(hx:ev σ x=v):
  (execOp (ev σ) ⟨dst,.makeFunc fn #[x] #[],ty,pos,bJ,g⟩).run P w= .ok (.value (.func fn #[v] #[])) w:=by
 simp[execOp,hx,Instr.makeFunc]
theorem aoK(r:Rl)(w:BitVec 64): -1<=Dv r w/\(Dv r w<0\/Dv r w<pts r):=by grind[Dw]
abbrev I0:=Nat->Option (Nat×Rl)
def ag8(o:Option (Nat×Rl)):Value:= .pointer (o.map fun p=>⟨p.1,0,none⟩)
def Ut(tb:I0):List Value:=(List.range 8).map fun i=>ag8 (tb i)
theorem amh(tb:I0):(Ut tb).length=8:=by simp[Ut]
def tb0:I0:=fun _=>none
def Uu(tb:I0)(k:Nat)(p:Nat×Rl):I0:=fun i=>if i=k then some p else tb i
theorem arO(tb:I0){k:Nat}(h:k<8):(Ut tb).toArray[0+k*1]?=some (ag8 (tb k)):=by grind[Ut]
theorem ami(tb:I0){k:Nat}{p:Nat×Rl}:(Ut tb).toArray.setIfInBounds (0+k*1) (.pointer (some ⟨p.1,0,none⟩))=(Ut (Uu tb k p)).toArray:=by
 rw[fg,kP,iZ]
 congr 1
 apply WT (by simp[Ut])
 intro j h1 h2
 rw[yC]
 simp only[Ut,List.getElem_map,List.getElem_range,Uu]
 by_cases e:k=j
 .subst e;rw[aQ O,aQ O];rfl
 rw[aP e,aP (fun q=>e q.symm)]
def oz(tb:I0)(a c:El):El:=fun i=>match tb i with
 |some p=>jE p.2 (a i) (c i)
 |none=>a i|||c i
def vK(TT:TypeId):List (Nat×Rl)->List a8->Prop
 |[],Z=>Z=[]
 |p::tl,Z=>∃z Y,Z=z++Y/\TbZ TT p.2 p.1 z/\vK TT tl Y
theorem vK.one{TT:TypeId}{b:Nat}{r:Rl}{z:List a8}(h:TbZ TT r b z):vK TT [(b,r)] z:=⟨z,[],az,h,rfl⟩
theorem vK.app{TT:TypeId}{tl tm:List (Nat×Rl)}{Z Y:List a8}(h:vK TT tl Z)(k:vK TT tm Y):vK TT (tl++tm) (Z++Y):=by
 induction tl generalizing Z with
 |nil=>have e:Z=[]:=h;subst e;exact k
 |cons p tl ih=>
  obtain⟨z,X,rfl,h1,h2⟩:=h
  exact⟨z,X++Y,az,h1,ih h2⟩
theorem vK.pick{TT:TypeId}{tl:List (Nat×Rl)}{Z:List a8}{b:Nat}{r:Rl}(h:vK TT tl Z)(hm:(b,r)∈tl):∃z Y,TbZ TT r b z/\Z.Perm (z++Y)/\∀z',TbZ TT r b z'->∃Z',vK TT tl Z'/\(z'++Y).Perm Z':=by
 induction tl generalizing Z with
 |nil=>cases hm
 |cons p tl ih=>
  obtain⟨z,X,rfl,h1,h2⟩:=h
  rcases cZ.1 hm with e|hm
  .subst e
   exact⟨z,X,h1,Qz _,fun z' hz'=>⟨z'++X,⟨z',X,rfl,hz',h2⟩,Qz _⟩⟩
  obtain⟨z1,Y,k1,k2,k3⟩:=ih h2 hm
  refine⟨z1,z++Y,k1,?_,fun z' hz'=> ?_⟩
  .refine(um z k2).trans ?_
   rw[<-dg,<-dg]
   exact sW.append_right Y
  obtain⟨Z',q1,k5⟩:=k3 z' hz'
  refine⟨z++Z',⟨z,Z',rfl,h1,q1⟩,?_⟩
  refine List.Perm.trans ?_ (um z k5)
  rw[<-dg,<-dg]
  exact sW.append_right Y
theorem uU{w:World}{b off:Nat}{cs:Array Value}{te:TypeId}{fr:Nat×Nat}{v:Value}(h:w.heap[b]?=some (.cells cs te fr))(hc:cs[off]?=some v):w.cell? ⟨b,off,none⟩=some v:=by
 rw[xa w b off cs te fr h];exact hc
theorem arP(tb:I0){k:Int}(h:0<=k/\k<8):(Ut tb).toArray[k.toNat]?=some (ag8 (tb k.toNat)):=by grind[arO]
theorem Po{P:Program}{σ:Env}{w:World}{dst:Option Tmp}{t te ty u:TypeId}{pos:String}{bJ:Array Edge}{g:Option (Nat×Bool)}{x y:Operand}{o:Option (Nat×Rl)}(ht:P.underlying t=some (.pointer te))(hx:ev σ x=ag8 o)(hy:ev σ y= .pointer none):
  (execOp (ev σ) ⟨dst,.binOp .neq t x y u,ty,pos,bJ,g⟩).run P w= .ok (.value (.bool o.isSome)) w:=by
 cases o with
 |none=>
  have h:(binOp .neq t (.pointer none) (.pointer none)).run P w= .ok (.bool false) w:=by
   simp only[binOp];simp[Op.equal,Op.maxDepth,Yb 9999 ht]
  have he:(eqGuard .neq t x y (.pointer none) (.pointer none))=pure ():=rfl
  have hx':ev σ x= .pointer none:=hx
  simp only[execOp,hx',hy,he];simp[h]
 |some p=>
  have h:(binOp .neq t (.pointer (some ⟨p.1,0,none⟩)) (.pointer none)).run P w= .ok (.bool true) w:=by
   simp only[binOp];simp[Op.equal,Op.maxDepth,EA 9999 ht]
  have he:(eqGuard .neq t x y (.pointer (some ⟨p.1,0,none⟩)) (.pointer none))=pure ():=rfl
  have hx':ev σ x= .pointer (some ⟨p.1,0,none⟩):=hx
  simp only[execOp,hx',hy,he];simp[h]
theorem Hp.awO{w0 w:World}{A Zt R z Y:List a8}(h:Hp w0 w (A++(Zt++R)))(hp:Zt.Perm (z++Y)):Hp w0 w (z++(Y++(A++R))):=by
 refine h.rK.perm ?_
 rw[<-dg z]
 exact hp.append_right _
theorem Hp.aoL{w0 w:World}{A Z' R z Y:List a8}(h:Hp w0 w (z++(Y++(A++R))))(hp:(z++Y).Perm Z'):Hp w0 w (A++(Z'++R)):=by
 refine h.perm ?_
 rw[<-dg z]
 refine(hp.append_right _).trans ?_
 rw[<-dg,<-dg]
 exact sW.append_right R
theorem arQ{tb:I0}{a c:El}{k:Int}{e:El}{b:Nat}{r:Rl}(hr:e=sx (oz tb a c) a k)(h0:0<=k)(hp:tb k.toNat=some (b,r)):Av e k.toNat (jE r (e k.toNat) (c k.toNat))=sx (oz tb a c) a (k+1):=by
 subst hr
 refine CM h0 ?_
 have e1:sx (oz tb a c) a k k.toNat=a k.toNat:=aP J
 rw[e1];simp only[oz,hp]
theorem awP{tb:I0}{a c:El}{k:Int}{e:El}(hr:e=sx (oz tb a c) a k)(h0:0<=k)(hp:(tb k.toNat).isSome=false):Av e k.toNat (e k.toNat|||c k.toNat)=sx (oz tb a c) a (k+1):=by
 subst hr
 refine CM h0 ?_
 have e1:sx (oz tb a c) a k k.toNat=a k.toNat:=aP J
 have hp':tb k.toNat=none:=by cases h:tb k.toNat with
  |none=>rfl
  |some p=>rw[h]at hp;cases hp
 rw[e1];simp only[oz,hp']
theorem ag9(tb:I0){k b:Nat}(r:Rl):(Ut tb).toArray.setIfInBounds (0+k*1) (.pointer (some ⟨b,0,none⟩))=(Ut (Uu tb k (b,r))).toArray:=ami (p:=(b,r)) tb
def HD(s:Sh)(k:Int)(tb:I0):Prop:=∀i:Nat,i<8->if(i:Int)<k/\(i:Int)<s.aY.length/\(s.aY.getD i vE).kind=4 then∃b,tb i=some (b,(s.aY.getD i vE).rel)else tb i=none
theorem HD.start(s:Sh):HD s 0 tb0:=by grind[Sh,HD,tb0]
theorem HD.put{s:Sh}{k:Int}{tb:I0}{b:Nat}{r:Rl}(h:HD s k tb)(h0:0<=k)(h1:k<s.aY.length)(h2:(s.aY.getD k.toNat vE).kind=4)(hr:(s.aY.getD k.toNat vE).rel=r):HD s (k+1) (Uu tb k.toNat (b,r)):=fun i hi=>by
 have:=h i hi
 unfold Uu
 by_cases e:i=k.toNat
 .subst e
  rw[aQ ⟨J,J,h2⟩,aQ O,hr];exact⟨b,rfl⟩
 rw[aP e]
 by_cases q:(i:Int)<k/\(i:Int)<s.aY.length/\(s.aY.getD i vE).kind=4
 .rw[aQ q]at this;rw[aQ ⟨J,q.2⟩];exact this
 rw[aP q]at this;rw[aP fun w=>q ⟨J,w.2⟩];exact this
theorem HD.skip{s:Sh}{k:Int}{tb:I0}(h:HD s k tb)(h0:0<=k)(h2:¬(k<8/\(s.aY.getD k.toNat vE).kind=4)):HD s (k+1) tb:=fun i hi=>by
 have:=h i hi
 by_cases e:i=k.toNat
 .subst e
  rw[aP J]at this
  rw[aP fun w=>h2 ⟨J,w.2.2⟩];exact this
 by_cases q:(i:Int)<k/\(i:Int)<s.aY.length/\(s.aY.getD i vE).kind=4
 .rw[aQ q]at this;rw[aQ ⟨J,q.2⟩];exact this
 rw[aP q]at this;rw[aP fun w=>q ⟨J,w.2⟩];exact this
def aha(s:Sh)(tb:I0):Prop:=∀i:Nat,i<8->if(i:Int)<s.aY.length/\(s.aY.getD i vE).kind=4 then∃b,tb i=some (b,(s.aY.getD i vE).rel)else tb i=none
theorem HD.all{s:Sh}{k:Int}{tb:I0}(h:HD s k tb)(hk:¬k<s.aY.length):aha s tb:=fun i hi=>by
 have:=h i hi
 by_cases q:(i:Int)<s.aY.length/\(s.aY.getD i vE).kind=4
 .rw[aQ q];rw[aQ ⟨J,q⟩]at this;exact this
 rw[aP q];rw[aP fun w=>q w.2]at this;exact this
theorem acH{s:Sh}{tb:I0}(h:aha s tb)(a c:El):qL (oz tb a c) (fC s a c):=fun i hi=>by
 have:=h i hi
 unfold oz fC TO
 by_cases q:(i:Int)<s.aY.length/\(s.aY.getD i vE).kind=4
 .rw[aQ q]at this⊢
  obtain⟨b,e⟩:=this;simp only[e]
 rw[aP q]at this⊢
 simp only[this]
theorem amj{tb:I0}{tl:List (Nat×Rl)}{k:Nat}{q:Nat×Rl}(h:∀i,i<8->∀p,tb i=some p->p∈tl):∀i,i<8->∀p,Uu tb k q i=some p->p∈q::tl:=by grind[Uu]
theorem vK.cons{TT:TypeId}{tl:List (Nat×Rl)}{Z:List a8}{b:Nat}{r:Rl}(h:vK TT tl Z):vK TT ((b,r)::tl) ([.blk b (.cells (kZ r 0 0 (.slice none 0 0) (.slice none 0 0)).toArray TT (0,0))]++Z):=⟨_,_,rfl,.inl O,h⟩
structure Cn where
 e:Int
 l:Int
 j:Int
def cn0:Cn:=⟨0,0,0⟩
def Cn.ok(c:Cn):Prop:=(0<=c.e/\c.e<=1000000000000)/\(0<=c.l/\c.l<=1000000000000)/\(0<=c.j/\c.j<=1000000000000)
inductive Kd
 |e
 |l
 |j
def Kd.up(c:Cn):Kd->Cn
 | .e=>⟨c.e+1,c.l,c.j⟩
 | .l=>⟨c.e,c.l+1,c.j⟩
 | .j=>⟨c.e,c.l,c.j+1⟩
inductive Wr
 |base (p:kX) (tb:I0)
 |wrap (m:Nat) (d:Wr)
structure NT where
 ofE:FuncId
 leq:FuncId
 jn:FuncId
 w1:FuncId
 w2:FuncId
 w3:FuncId
 w4:FuncId
 tsh:TypeId
 t8:TypeId
 tfn:TypeId
 tm:TypeId
 aEb:TypeId
 awQ:TypeId
 tt:TypeId
 fr:List a8
abbrev pt(b:Nat):Value:= .pointer (some ⟨b,0,none⟩)
abbrev jF(f:FuncId)(cs:Array Value):Value:= .func (.func f) #[] cs
def AA(T:NT)(K:Vu):Wr->Value->Value->Value->Prop
 | .base p tb,e,l,j=>∃B1 B2,e=jF T.ofE #[pt B1]/\l=jF T.leq #[]/\j=jF T.jn #[pt B2]/\K B1 (.cells (rD p) T.tsh (0,0))/\lB K p/\K B2 (.cells (Ut tb).toArray T.t8 (0,0))
 | .wrap m d,e,l,j=>∃b2 b3 b5 e' l' j',e=jF T.w2 #[pt b5,pt b3]/\l=jF T.w3 #[pt b5,pt b3]/\j=jF T.w4 #[pt b5,pt b3]/\K b5 (.cells #[jF T.w1 #[pt b2]] T.tfn (0,0))/\K b2 (.cells #[pt m] T.tm (0,0))/\K b3 (.cells #[e',l',j'] T.aEb (0,0))/\AA T K d e' l' j'
theorem AA.mono{T:NT}{K K':Vu}(hl:Le K K'){d:Wr}:∀{e l j:Value},AA T K d e l j->AA T K' d e l j:=by
 induction d with
 |base p tb=>rintro e l j ⟨B1,B2,h1,h2,h3,h4,h5,h6⟩;exact⟨B1,B2,h1,h2,h3,hl _ _ h4,h5.mono hl,hl _ _ h6⟩
 |wrap m d ih=>rintro e l j ⟨b2,b3,b5,e',l',j',h1,h2,h3,h4,h5,h6,h7⟩;exact⟨b2,b3,b5,e',l',j',h1,h2,h3,hl _ _ h4,hl _ _ h5,hl _ _ h6,ih h7⟩
theorem AA.one{T:NT}{K:Vu}{d:Wr}{e l j:Value}(h:AA T K d e l j):∃f g k a b c,e=jF f a/\l=jF g b/\j=jF k c:=by
 cases d with
 |base p tb=>obtain⟨B1,B2,h1,h2,h3,-⟩:=h;exact⟨_,_,_,_,_,_,h1,h2,h3⟩
 |wrap m d=>obtain⟨b2,b3,b5,e',l',j',h1,h2,h3,-⟩:=h;exact⟨_,_,_,_,_,_,h1,h2,h3⟩
def Wr.sh:Wr->kX
 | .base p _=>p
 | .wrap _ d=>d.sh
def Wr.tb:Wr->I0
 | .base _ tb=>tb
 | .wrap _ d=>d.tb
def Wr.Ek(ids:List Nat)(tl:List (Nat×Rl)):Wr->Prop
 | .base p tb=>aha p.sh tb/\∀i,i<8->∀q,tb i=some q->q∈tl
 | .wrap m d=>m∈ids/\d.Ek ids tl
abbrev Ct:=Nat->Cn
def vM(f:Ct)(m:Nat)(c:Cn):Ct:=fun i=>if i=m then c else f i
def jv(k:Kd)(m:Nat)(f:Ct):Ct:=vM f m (k.up (f m))
def Wr.tick(k:Kd):Wr->Ct->Ct
 | .base _ _,f=>f
 | .wrap m d,f=>d.tick k (jv k m f)
def rL(T:NT)(m:Nat)(c:Cn):a8:= .blk m (.cells #[B true,I c.e,I c.l,I c.j] T.awQ (0,0))
def kA(T:NT)(ids:List Nat)(f:Ct)(tl:List (Nat×Rl))(Z:List a8):Prop:=∃Zt,vK T.tt tl Zt/\Z=(ids.map (fun m=>rL T m (f m))++T.fr)++Zt
theorem kA.pick{T:NT}{ids:List Nat}{f:Ct}{tl:List (Nat×Rl)}{Z R:List a8}{m:Nat}{w0 w:World}(h:kA T ids f tl Z)(hm:m∈ids)(hH:Hp w0 w (Z++R)):
  ∃Y,Z.Perm ([rL T m (f m)]++Y)/\∀c,∃Z',kA T ids (vM f m c) tl Z'/\([rL T m c]++Y).Perm Z':=by
 obtain⟨Zt,h1,rfl⟩:=h
 obtain⟨pre,post,rfl⟩:=WE hm
 have aoM:∀q∈pre++post,q≠m:=by
  have e:((pre++m::post).map (fun i=>rL T i (f i))++T.fr++Zt++R).Perm (rL T m (f m)::((pre++post).map (fun i=>rL T i (f i))++T.fr++Zt++R)):=by
   simp only[gA,lf,dg,fH]
   exact D0
  have h2:=(hH.perm e).KU
  intro q hq hqe
  have h3:=(lQ.1 h2).1 (rL T q (f q)) (dx _ (dx _ (dx _ (fU.2 ⟨q,hq,rfl⟩))))
  rcases h3 with h3|h3
  .cases h3
  exact h3 (by show some m=some q;rw[hqe])
 have same:∀(c:Cn) (l:List Nat),(∀q∈l,q≠m)->(l.map fun i=>rL T i (vM f m c i))=l.map fun i=>rL T i (f i):=fun c l hl=>by
  apply Gs
  intro q hq
  unfold vM;rw[aP (hl q hq)]
 refine⟨(pre++post).map (fun i=>rL T i (f i))++T.fr++Zt,?_,fun c=>⟨_,⟨Zt,h1,rfl⟩,?_⟩⟩
 .simp only[gA,lf,dg,fH,er]
  exact D0
 have e1:=same c pre fun q hq=>aoM q (dx _ hq)
 have e2:=same c post fun q hq=>aoM q (bt _ hq)
 have e3:vM f m c m=c:=aQ O
 simp only[gA,lf,e1,e2,e3,dg,fH,er]
 exact D0.symm
def zk(P:Program)(v:Value)(args:List Value)(w:World)(Q:Ending->World->Prop):Prop:=
 ∃(f:FuncId) (cs:List Value),v=jF f cs.toArray/\(∀args w,(callFunc f args).run P w= .ok (.enter f args) w)/\Calls P f (args++cs).toArray w Q
theorem zk.mono{P:Program}{v:Value}{args:List Value}{w:World}{Q Q':Ending->World->Prop}(h:zk P v args w Q)(hq:∀e w',Q e w'->Q' e w'):zk P v args w Q':=by
 obtain⟨f,cs,h1,h2,h3⟩:=h;exact⟨f,cs,h1,h2,h3.mono hq⟩
theorem Hp.oq{w0 w:World}{A Zf R:List a8}(h:Hp w0 w (Zf++(A++R))):Hp w0 w (A++(Zf++R)):=h.perm (by
 rw[<-dg,<-dg]
 exact sW.append_right R)
section
variable{P:Program}{σ:Env}{w w':World}{dst:Option Tmp}{t ty u:TypeId}{pos:String}{bJ:Array Edge}{g:Option (Nat×Bool)}{x y x1 x2:Operand}{v v1 v2:Value}{f:FuncId}{ats:Array TypeId}
theorem acI{Im:List Operand}{vs:List Value}(hf:(callFunc f vs.toArray).run P w= .ok (.value v) w')(h:Im.map (ev σ)=vs):(execOp (ev σ) ⟨dst,.call {callee:= .value (.func f),args:=Im.toArray,argTypes:=ats},ty,pos,bJ,g⟩).run P w= .ok (.value v) w':=by
 subst h
 have hf':(callFunc f (Im.map (ev σ)).toArray).run P w= .ok (.value v) w':=hf
 simp[execOp,resolve,ev,Deferred.ofValue,invoke]at hf'⊢
 rw[hf']
theorem Yh(hf:(callFunc f #[v1,v2]).run P w= .ok (.value v) w')(h1:ev σ x1=v1)(h2:ev σ x2=v2):(execOp (ev σ) ⟨dst,.call {callee:= .value (.func f),args:=#[x1,x2],argTypes:=ats},ty,pos,bJ,g⟩).run P w= .ok (.value v) w':=by grind[acI]
theorem aml{a:Int}(h: -9223372036854775808<=a+1/\a+1<=9223372036854775807):(Op.intArith .add .i64 a 1).run P w= .ok (.int .i64 (a+1)) w:=by
 simp[Op.intArith,Cz h]
theorem Pp{fn:Fn}{a c:Array Value}(d:Nat){ps rs:Array TypeId}{vr:Bool}(ht:P.underlying t=some (.func ps rs vr)):(Op.equalIn (d+1) t (.func fn a c) .nilFunc).run P w= .ok false w:=by
 simp[Op.equalIn,jr ht]
theorem Uv{fn:Fn}{a c:Array Value}{ps rs:Array TypeId}{vr:Bool}(ht:P.underlying t=some (.func ps rs vr))(hx:ev σ x= .func fn a c)(hy:ev σ y= .nilFunc):
  (execOp (ev σ) ⟨dst,.binOp .eql t x y u,ty,pos,bJ,g⟩).run P w= .ok (.value (.bool false)) w:=by
 have h:(binOp .eql t (.func fn a c) .nilFunc).run P w= .ok (.bool false) w:=by
  simp only[binOp];simp[Op.equal,Op.maxDepth,Pp 9999 ht]
 have he:(eqGuard .eql t x y (.func fn a c) .nilFunc)=pure ():=rfl
 simp only[execOp,hx,hy,he];simp[h]
theorem Uw{fn:Fn}{a c:Array Value}{ps rs:Array TypeId}{vr:Bool}(ht:P.underlying t=some (.func ps rs vr))(hx:ev σ x= .func fn a c)(hy:ev σ y= .nilFunc):
  (execOp (ev σ) ⟨dst,.binOp .neq t x y u,ty,pos,bJ,g⟩).run P w= .ok (.value (.bool true)) w:=by
 have h:(binOp .neq t (.func fn a c) .nilFunc).run P w= .ok (.bool true) w:=by
  simp only[binOp];simp[Op.equal,Op.maxDepth,Pp 9999 ht]
 have he:(eqGuard .neq t x y (.func fn a c) .nilFunc)=pure ():=rfl
 simp only[execOp,hx,hy,he];simp[h]
end
structure zl where
 kind:Int
 lv:Value
 l:List dK
 vv:Value
 v:List El
 a:El
 b:El
def amm:zl:=⟨0,.slice none 0 0,[],.slice none 0 0,[],dy,dy⟩
def aOP(x:zl):List Value:=I x.kind::x.lv::x.vv::(sU x.a++sU x.b)
structure ahb(K:Vu)(x:zl):Prop where
 ins:pw K x.lv 10 x.l.length (x.l.flatMap kg)
 ai:pw K x.vv 8 x.v.length (x.v.flatMap sU)
theorem ahb.mono{K K':Vu}{x:zl}(h:ahb K x)(hl:Le K K'):ahb K' x:=⟨h.ins.mono hl,h.ai.mono hl⟩
def Ux(K:Vu)(l:List zl):Prop:=∀x∈l,ahb K x
theorem Ux.mono{K K':Vu}{l:List zl}(h:Ux K l)(hl:Le K K'):Ux K' l:=fun x hx=>(h x hx).mono hl
theorem Ux.at{K:Vu}{l:List zl}(h:Ux K l){k:Int}(h0:0<=k)(h1:k<l.length):ahb K (l.getD k.toNat amm):=h _ (ld (fB (d:=amm) h0 h1))
def aOQ(g:El×Bool):List Value:=sU g.1++[B g.2]
def aOR(d:Wr)(x:zl):El×Bool:=if x.kind=1 then(dy,cR x.a x.b)else if x.kind=2 then(oz d.tb x.a x.b,false)else fP d.sh.sh x.l x.v
def aOS(s:Sh)(x:zl):El×Bool:=if x.kind=1 then(dy,cR x.a x.b)else if x.kind=2 then(fC s x.a x.b,false)else fP s x.l x.v
def ahc(x:zl):Kd:=if x.kind=1 then .l else if x.kind=2 then .j else .e
def EC(n:Nat)(f:Ct):Prop:=∀m,(0<=(f m).e/\(f m).e<=n)/\(0<=(f m).l/\(f m).l<=n)/\(0<=(f m).j/\(f m).j<=n)
theorem EC.ok{n:Nat}{f:Ct}(h:EC n f)(hn:n<=1000000000000)(m:Nat):(f m).ok:=by
 obtain⟨⟨a,b⟩,⟨c,d⟩,e,g⟩:=h m
 exact⟨⟨a,J⟩,⟨c,J⟩,e,J⟩
theorem EC.tick{n:Nat}{f:Ct}(h:EC n f)(k:Kd)(m:Nat):EC (n+1) (jv k m f):=fun i=>by
 obtain⟨⟨a,b⟩,⟨c,d⟩,e,g⟩:=h i
 obtain⟨⟨a',b'⟩,⟨c',d'⟩,e',g'⟩:=h m
 unfold jv vM
 by_cases q:i=m
 .rw[aQ q]
  cases k<;>simp only[Kd.up]<;>omega
 rw[aP q];omega
def Wr.dep:Wr->Nat
 | .base _ _=>0
 | .wrap _ d=>d.dep+1
theorem EC.aap{d:Wr}(k:Kd):∀{n:Nat} {f:Ct},EC n f->EC (n+d.dep) (d.tick k f):=by
 induction d with
 |base p tb=>exact fun h=>h
 |wrap m d ih=>
  intro n f h
  have:=ih (h.tick k m)
  rw[Nat.add_right_comm]at this;exact this
theorem zk.get{P:Program}{f:FuncId}{cs:List Value}{args:List Value}{w:World}{Q:Ending->World->Prop}(h:zk P (jF f cs.toArray) args w Q):Calls P f (args++cs).toArray w Q:=by
 obtain⟨g,ds,h1,-,h3⟩:=h
 injection h1 with e1 e2 e3
 injection e1 with e1
 have e4:cs=ds:=by simpa using aK Array.toList e3
 subst e1 e4;exact h3
def arR(P:Program)(v:Value):Prop:=∃(f:FuncId) (cs:List Value),v=jF f cs.toArray/\∀args w,(callFunc f args).run P w= .ok (.enter f args) w
def aEc(x:zl):Bool:=decide (60<x.l.length)||decide (100<x.v.length)
def aEd(l:List zl):Bool:=decide (60<l.length)||l.any aEc
def kdN(x:zl):Int:=if x.kind=1\/x.kind=2 then x.kind else 0
def Yi(l:List zl)(q:Int):Nat:=l.countP fun x=>decide (kdN x=q)
def ct0:Ct:=fun _=>cn0
theorem kA.nil{T:NT}:kA T [] ct0 [] (([]++T.fr)++[]):=⟨[],rfl,rfl⟩
theorem kA.add{T:NT}{ids:List Nat}{tl:List (Nat×Rl)}{Z:List a8}{m:Nat}(h:kA T ids ct0 tl Z):kA T (m::ids) ct0 tl ([rL T m cn0]++Z):=by
 obtain⟨Zt,h1,rfl⟩:=h;exact⟨Zt,h1,rfl⟩
theorem kA.app{T:NT}{ids:List Nat}{f:Ct}{tl tm:List (Nat×Rl)}{Z Zt:List a8}(h:kA T ids f tl Z)(ht:vK T.tt tm Zt):kA T ids f (tl++tm) (Z++Zt):=by
 obtain⟨Zs,h1,rfl⟩:=h;exact⟨Zs++Zt,h1.app ht,by rw[dg]⟩
theorem kA.blk{T:NT}{ids:List Nat}{f:Ct}{tl:List (Nat×Rl)}{Z L:List a8}{m:Nat}{w0 w:World}(h:kA T ids f tl Z)(hm:m∈ids)(hH:Hp w0 w L)(hs:∀x,x∈Z->x∈L):
  w.heap[m]?=some (.cells #[B true,I (f m).e,I (f m).l,I (f m).j] T.awQ (0,0)):=by
 obtain⟨Zt,h1,rfl⟩:=h
 exact(hH.ok _ (hs _ (dx _ (dx _ (fU.2 ⟨m,hm,rfl⟩))))).2
theorem Hp.aoN{w0 w:World}{Zt Zq A Zf R:List a8}(h:Hp w0 w ((Zt++Zq)++(A++(Zf++R)))):Hp w0 w (A++((Zf++Zt)++(Zq++R))):=h.perm (by
 rw[dg,dg]
 refine((um Zt (we Zq A _)).trans (we Zt A _)).trans (um A ?_)
 refine(um Zt (we Zq Zf R)).trans (we Zt Zf _))
theorem Wr.L9{d:Wr}{ids ids':List Nat}{tl tl':List (Nat×Rl)}(h:d.Ek ids tl)(h1:∀x,x∈ids->x∈ids')(h2:∀x,x∈tl->x∈tl'):d.Ek ids' tl':=by
 induction d with
 |base p tb=>exact⟨h.1,fun i hi q hq=>h2 _ (h.2 i hi q hq)⟩
 |wrap m d ih=>exact⟨h1 _ h.1,ih h.2⟩
theorem EC.zero:EC 0 ct0:=fun m=>by simp[ct0,cn0]
theorem EC.clear{n:Nat}{f:Ct}(h:EC n f)(m:Nat):EC n (vM f m cn0):=fun i=>by
 unfold vM
 by_cases q:i=m
 .rw[aQ q];simp[cn0]
 rw[aP q];exact h i
theorem EC.mono{n k:Nat}{f:Ct}(h:EC n f)(hk:n<=k):EC k f:=fun m=>by
 obtain⟨⟨a,b⟩,⟨c,d⟩,e,g⟩:=h m
 exact⟨⟨a,J⟩,⟨c,J⟩,e,J⟩
def aEf:List Tx:=[⟨#[97]⟩,⟨#[98]⟩]
def exT:Sh:=⟨false,[⟨2,aEf,Rl.none⟩]⟩
def aOT:El:=Av dy 0 1#64
def aOU:El:=Av dy 0 2#64
def aOV:El:=Av dy 0 3#64
theorem Hp.swz{w0 w:World}{A z Zf R:List a8}(h:Hp w0 w (A++(z++(Zf++R)))):Hp w0 w (A++(Zf++(z++R))):=h.perm (um A (by
 rw[<-dg,<-dg]
 exact sW.append_right R))
def FB(c:Cn)(l:List zl):Prop:=c.e=Yi l 0/\c.l=Yi l 1/\c.j=Yi l 2
theorem FB.nil:FB cn0 []:=⟨rfl,rfl,rfl⟩
theorem FB.tick{f:Ct}{m:Nat}{l:List zl}{x:zl}(h:FB (f m) l):FB ((jv (ahc x) m f) m) (l++[x]):=by
 obtain⟨h1,h2,h3⟩:=h
 have e:jv (ahc x) m f m=(ahc x).up (f m):=by unfold jv vM;rw[aQ O]
 have c:∀q,Yi (l++[x]) q=Yi l q+if kdN x=q then 1 else 0:=fun q=>by
  rw[Yi,List.countP_append];simp[Yi,List.countP_cons]
 rw[e]
 unfold FB
 rw[c,c,c]
 unfold ahc kdN
 by_cases a:x.kind=1
 .simp[a,Kd.up,h1,h2,h3]
 by_cases b:x.kind=2
 .simp[b,Kd.up,h1,h2,h3]
 simp[a,b,Kd.up,h1,h2,h3]
theorem ahd{l:List zl}{k fr:Int}(h0:0<=fr)(h1:fr<=k)(h2:k<l.length):(l.take (k+1).toNat).drop fr.toNat=(l.take k.toNat).drop fr.toNat++[l.getD k.toNat amm]:=by grind[List.take_append_getElem,List.length_take,List.getElem?_eq_getElem]
theorem FB.next{f:Ct}{m:Nat}{l:List zl}{k fr:Int}(h:FB (f m) ((l.take k.toNat).drop fr.toNat))(h0:0<=fr)(h1:fr<=k)(h2:k<l.length):FB ((jv (ahc (l.getD k.toNat amm)) m f) m) ((l.take (k+1).toNat).drop fr.toNat):=by
 rw[ahd h0 h1 h2];exact h.tick
def Pq(a b c:Nat)(f:Ct)(k:Int):Prop:=(f a).e=(f b).e/\(f a).l=(f b).l/\(f a).j=(f b).j/\(f c).e=2*(f a).e/\(f c).l=2*(f a).l/\(f c).j=2*(f a).j/\(f a).e+(f a).l+(f a).j=k
theorem Pq.zero{a b c:Nat}:Pq a b c ct0 0:=⟨rfl,rfl,rfl,rfl,rfl,rfl,rfl⟩
theorem Pq.next{a b c:Nat}{f:Ct}{k:Int}(h:Pq a b c f k)(hn:[c,b,a].Nodup)(q:Kd):Pq a b c (jv q c (jv q c (jv q b (jv q a f)))) (k+1):=by
 simp only[mZ,cZ,List.not_mem_nil,Bg,not_or]at hn
 obtain⟨⟨h1,h2⟩,h3,-⟩:=hn
 obtain⟨e1,e2,e3,e4,e5,e6,e7⟩:=h
 have fa:jv q c (jv q c (jv q b (jv q a f))) a=q.up (f a):=by simp[jv,vM,h2,h3,Bl h2,Bl h3]
 have fb:jv q c (jv q c (jv q b (jv q a f))) b=q.up (f b):=by simp[jv,vM,h1,h3,Bl h1,Bl h3]
 have fc:jv q c (jv q c (jv q b (jv q a f))) c=q.up (q.up (f c)):=by simp[jv,vM,h1,h2,Bl h1,Bl h2]
 unfold Pq
 rw[fa,fb,fc]
 cases q<;>simp only[Kd.up]<;>omega
def RD(o:Oper):List Nat:=(o.after.toList.filter fun e=>Region.binds .any e).map (·.on)
def amo(l:List Oper):Nat->List Nat->Bool
 |0,_=>true
 |i+1,s=>s.contains i&&amo l i (s++((l[i]?).map RD).getD [])
def awR(l:List Oper)(z:Oper):Bool:=
 (l.zipIdx.all fun p=>(RD p.1).all (Nat.blt · p.2)&&(p.1.guard.map fun g=>Nat.blt g.1 l.length).getD true)&&(RD z).all (Nat.blt · l.length)&&amo l l.length (RD z)
section
variable{P:Program}{n:Nat}{l:List Oper}{z:Oper}{k:K}{listed:Array Bool}
theorem amp{o:Oper}{j:Nat}:j∈RD o↔∃e∈o.after,Region.binds .any e=true/\e.on=j:=by grind[RD]
theorem rdy{md:List Oper}{j:Nat}:j∈Region.ready .any md.toArray listed↔listed.getD j true=false/\∃o,md[j]?=some o/\∀i∈RD o,listed.getD i false=true:=by
 rw[mem_ready]
 simp only[Gp,amp]
 refine and_congr Bj (exists_congr fun o=>and_congr Bj ⟨fun h i ⟨e,h1,h2,h3⟩=>h3▸h e h1 h2,fun h e h1 h2=>h e.on ⟨e,h1,h2,rfl⟩⟩)
def FC(l:List Oper)(listed:Array Bool):Prop:=listed.size=l.length/\∀j o,l[j]?=some o->listed.getD j false=true->∀i∈RD o,listed.getD i false=true
theorem aaq(hc:FC l listed):∀(i:Nat) (s:List Nat),amo l i s=true->(∀j∈s,listed.getD j false=true)->∀j,j<i->listed.getD j false=true
 |0,_,_,_,j,hj=>by omega
 |i+1,s,h,hs,j,hj=>by
  simp only[amo,cH,List.contains_iff_mem]at h
  have hi:=hs i h.1
  by_cases e:j=i
  .subst e;exact hi
  refine aaq hc i _ h.2 (fun q hq=> ?_) j J
  rcases eP.1 hq with hq|hq
  .exact hs q hq
  .cases ho:l[i]? with
   |none=>rw[ho]at hq;simp at hq
   |some o=>rw[ho]at hq;exact hc.2 i o ho hi q hq
theorem kK{a:Array Bool}{i j:Nat}{d:Bool}:(a.setIfInBounds i true).getD j d=if i=j/\j<a.size then true else a.getD j d:=by
 rw[wc,Dk,wc]
 by_cases e:i=j
 .subst e
  rw[aQ O]
  by_cases h:i<a.size
  .rw[aQ h,aQ ⟨rfl,h⟩];rfl
  rw[aP h,aP fun q=>h q.2,Qh J]
 rw[aP e,aP fun q=>e q.1]
theorem mD{a:Array Bool}{b d:Bool}{j:Nat}:(a.push b).getD j d=if j=a.size then b else a.getD j d:=by
 rw[wc,Wy,wc]
 split<;>rfl
theorem Yj{o:Oper}{a:Act}{k':K}{F F':Act->World->Prop}{w:World}(hF:∀a w,F a w->F' a w)(h:o.wp P a w F (qX n k')):o.wp P a w F' (qX n k):=by
 unfold Oper.wp at*
 generalize(execOp a.eval o).run P w=r at*
 cases r with
 |ok x w'=>
  cases x<;>simp only[Oper.upon]at h⊢
  case value=>exact hF _ _ h
  case skip=>exact hF _ _ h
  case defer=>exact hF _ _ h
  case enter=>
   refine Calls.mono h fun e w'' he=> ?_
   cases e with
   |returned v=>exact hF _ _ he
   |panicked c=>exact he
   |outgrown=>exact he
  case row=>exact Rows.mono h fun _ _ he=>hF _ _ he
 |halt x w'=>cases x<;>simp only[Oper.upon]at h⊢<;>exact h
theorem ez{id:Nat}{ops:List Oper}{xs:List (Nat×K)}{r:K}{σ:Env}{w0 w:World}{L L0:List a8}(hm:P.follows .mixedOrders=true)(hz:ops=ops.dropLast++[z])(hc:awR ops.dropLast z=true)(hH:Hp w0 w L)(hs:L0.Sublist L)
  (h:∀w',Hp w0 w' L->AN P n ops.dropLast (fun w=>Hp w0 w L0) (fun σ w=>RL P n ops.toArray k [z] σ w) ops.dropLast.length (Array.replicate ops.dropLast.length false) σ w'):CW P n (.region id ops.toArray true) k xs r σ w:=by
 intro a ha
 refine yF (fun e a' w' hq=> ?_) (W3 (id:=id) (Q:=qX n k) hm ?_)
 .cases e with
  |normal=>exact hq
  |exit id=>exact hq.elim
  |ret=>exact hq.elim
  |goto l=>exact hq.elim
  |panic c=>exact hq.elim
  |outgrown=>exact hq.elim
 have h1:=W4 _ _ _ _ (h _ hH.drew a ha)
 generalize hl:ops.dropLast=l at*
 simp only[awR,cH,iC]at hc
 obtain⟨⟨c1,c2⟩,c3⟩:=hc
 have gl:∀{j o},l[j]?=some o->(∀i∈RD o,i<j)/\∀g,o.guard=some g->g.1<l.length:=fun{j o} ho=>by
  have hmem:(o,j)∈l.zipIdx:=by
   rw[Wu];exact⟨j,by simp[ho]⟩
  have:=c1 _ hmem
  refine⟨fun i hi=>by simpa using this.1 i hi,fun g hg=> ?_⟩
  have h2:=this.2
  rw[hg]at h2
  simpa using h2
 have get:∀{j},j<l.length->ops[j]?=l[j]?:=fun{j} hj=>by rw[hz,wP hj]
 have arS:ops[l.length]?=some z:=by rw[hz,DV (eG _),QE];rfl
 have hlen:ops.length=l.length+1:=by rw[hz];simp
 have key:∀(fuel:Nat) (gf:Array Bool) (a:Act) (w:World),FC l gf->wpAny P .any l.toArray (qX n fun σ w=>RL P n ops.toArray k [z] σ w) fuel gf a w->wpAny P .any ops.toArray (qX n k) (fuel+1) (gf.push false) a w:=by
  intro fuel
  have last:∀(fuel:Nat) (gf:Array Bool) (a:Act) (w:World),FC l gf->(∀j,j<l.length->gf.getD j false=true)->qX n (fun σ w=>RL P n ops.toArray k [z] σ w) .normal a w->wpAny P .any ops.toArray (qX n k) (fuel+1) (gf.push false) a w:=by
   intro fuel gf a w ni hall hr
   have hsz:=ni.1
   refine⟨fun he=> ?_,fun i hi=> ?_⟩
   .have:l.length∈Region.ready .any ops.toArray (gf.push false):=by
     rw[rdy]
     refine⟨by rw[mD,hsz,aQ O],z,arS,fun i hi=> ?_⟩
     have hi2:i<l.length:=by simpa using c2 i hi
     rw[mD,aP J]
     exact hall i hi2
    rw[he]at this;cases this
   rw[rdy]at hi
   obtain⟨h0,o,ho,_⟩:=hi
   have hio:i=l.length:=by
    by_cases e:i=l.length
    .exact e
    have hlt:i<ops.length:=(mh.1 ho).1
    have aEg:i<l.length:=J
    rw[mD,aP J]at h0
    have h3:=hall i aEg
    rw[wc]at h0 h3
    cases hq:gf[i]? with
    |none=>rw[hq]at h3;cases h3
    |some b=>rw[hq]at h0 h3;cases b<;>simp_all
   subst hio
   obtain⟨σ',hi',hrl⟩:=hr
   have:=hrl a hi'
   unfold wpOp
   rw[Gp,arS]
   simp only[wpList]at this
   show(if Region.wanted z (yielded ops.toArray a.tmps)=true then _ else _)
   have done:∀a w,qX n k .normal a w->wpAny P .any ops.toArray (qX n k) fuel ((gf.push false).setIfInBounds l.length true) a w:=fun a w hq=>by
    have he:Region.ready .any ops.toArray ((gf.push false).setIfInBounds l.length true)=[]:=by
     rw[Qd]
     intro j hj
     rw[rdy]at hj
     obtain⟨h0,o,ho,_⟩:=hj
     have hlt:j<ops.length:=(mh.1 ho).1
     rw[kK,mD]at h0
     by_cases e:l.length=j
     .rw[aQ ⟨e,by rw[Array.size_push];omega⟩]at h0;cases h0
     rw[aP fun q=>e q.1,aP J]at h0
     have h3:=hall j J
     rw[wc]at h0 h3
     cases hq:gf[j]? with
     |none=>rw[hq]at h3;cases h3
     |some b=>rw[hq]at h0 h3;cases b<;>simp_all
    cases fuel with
    |zero=>exact⟨he,hq⟩
    |succ f=>exact⟨fun _=>hq,fun i hi=>by rw[he]at hi;cases hi⟩
   split
   .rename_i hw
    rw[aQ hw]at this
    refine this.imp (fun q=>Oper.wp_mono (fun a w h=>done a w h) q) fun q=>q
   rename_i hw
   rw[aP hw]at this
   exact done _ _ this
  have fin:∀(gf:Array Bool),FC l gf->Region.ready .any l.toArray gf=[]->∀j,j<l.length->gf.getD j false=true:=by
   intro gf ni he j
   induction j using Nat.strongRecOn with
   |_ j ih=>
    intro hj
    cases hq:gf.getD j false with
    |true=>rfl
    |false=>
     have hmem:j∈Region.ready .any l.toArray gf:=by
      rw[rdy]
      refine⟨?_,l[j],ef hj,fun i hi=> ?_⟩
      .rw[wc,aeh (by rw[ni.1];exact hj)]at hq⊢;exact hq
      have:=(gl (ef hj)).1 i hi
      exact ih i this J
     rw[he]at hmem;cases hmem
  induction fuel with
  |zero=>intro gf a w ni hw;exact last 0 gf a w ni (fin gf ni hw.1) hw.2
  |succ fuel ih=>
   intro gf a w ni hw
   have hsz:=ni.1
   by_cases he:Region.ready .any l.toArray gf=[]
   .exact last _ gf a w ni (fin gf ni he) (hw.1 he)
   refine⟨fun hn=> ?_,fun i hi=> ?_⟩
   .refine absurd (Qd.2 fun j hj=> ?_) he
    have:j∈Region.ready .any ops.toArray (gf.push false):=by
     rw[rdy]at hj⊢
     obtain⟨h0,o,ho,hall⟩:=hj
     have hj2:j<l.length:=(mh.1 ho).1
     refine⟨by rw[mD,aP J];exact h0,o,by rw[get hj2];exact ho,fun i hi=> ?_⟩
     have:=(gl ho).1 i hi
     rw[mD,aP J];exact hall i hi
    rw[hn]at this;cases this
   rw[rdy]at hi
   obtain⟨h0,o,ho,hall⟩:=hi
   have hlt:i<ops.length:=(mh.1 ho).1
   by_cases e:i=l.length
   ·
    exfalso
    subst e
    rw[arS]at ho
    injection ho with ho
    subst ho
    have awS:∀j,j<l.length->gf.getD j false=true:=aaq ni l.length _ c3 fun j hj=>by
     have h3:=hall j hj
     have hj2:j<l.length:=by simpa using c2 j hj
     rw[mD,aP J]at h3;exact h3
    refine he (Qd.2 fun j hj=> ?_)
    rw[rdy]at hj
    obtain⟨g0,o,go,_⟩:=hj
    have hj2:j<l.length:=(mh.1 go).1
    have h3:=awS j hj2
    rw[wc]at g0 h3
    cases hq:gf[j]? with
    |none=>rw[hq]at h3;cases h3
    |some b=>rw[hq]at g0 h3;cases b<;>simp_all
   have hi2:i<l.length:=J
   rw[get hi2]at ho
   have hrd:i∈Region.ready .any l.toArray gf:=by
    rw[rdy]
    refine⟨by rw[mD,aP J]at h0;exact h0,o,ho,fun j hj=> ?_⟩
    have:=(gl ho).1 j hj
    have h3:=hall j hj
    rw[mD,aP J]at h3;exact h3
   have hop:=hw.2 i hrd
   have amq:FC l (gf.setIfInBounds i true):=by
    refine⟨by rw[Wp];exact hsz,fun j p hp hj q hq=> ?_⟩
    rw[kK]at hj⊢
    by_cases e2:i=q/\q<gf.size
    .rw[aQ e2]
    rw[aP e2]
    by_cases e3:i=j
    .subst e3
     rw[ho]at hp;injection hp with hp;subst hp
     have:=(gl ho).1 q hq
     have h3:=hall q hq
     rw[mD,aP J]at h3;exact h3
    rw[aP fun c=>e3 c.1]at hj
    exact ni.2 j p hp hj q hq
   have aoP:(gf.push false).setIfInBounds i true=(gf.setIfInBounds i true).push false:=by
    apply WD
    intro j
    rw[Dk,Wy,Wy,Dk,Wp,Array.size_push]
    by_cases e2:i=j
    .subst e2;rw[aQ O,aQ J,aP J,aQ O,aQ J]
    rw[aP e2,aP e2]
   have hgd:Region.wanted o (yielded ops.toArray a.tmps)=Region.wanted o (yielded l.toArray a.tmps):=by
    unfold Region.wanted
    cases hg:o.guard with
    |none=>rfl
    |some g=>
     obtain⟨gi,gw⟩:=g
     have:=(gl ho).2 _ hg
     simp only[yielded,Gp]
     rw[get this]
   unfold wpOp at hop⊢
   rw[Gp]at hop⊢
   rw[get hi2]
   rw[ho]at hop⊢
   simp only[hgd]at*
   split
   .rename_i hwn
    rw[aQ hwn]at hop
    rcases hop with hop|hop
    .refine .inl (Yj (fun a w hq=> ?_) hop)
     rw[aoP];exact ih _ a w amq hq
    exact .inr ⟨hop.1,hop.2⟩
   rename_i hwn
   rw[aP hwn]at hop
   rw[aoP];exact ih _ _ w amq hop
 have awT:=key l.length (Array.replicate l.length false) a _ ⟨az,fun j o _ hj=>by
  rw[wc,aei]at hj
  split at hj<;>cases hj⟩ h1
 rw[show(Array.replicate l.length false).push false=Array.replicate (l.length+1) false by rw[<-Array.replicate_succ],<-hlen]at awT
 simpa using awT
end
end
end Go.Proofs.YtlhjdflgjbkpmaaGreatDoor.E
namespace Go.Proofs.YtlhjdflgjbkpmaaGreatDoor.M
section
open Go
def HE(n:Nat)(cl:List Nat)(i j:Int):Prop:=(0<=i/\i<n)/\(0<=j/\j<n)/\cg cl i.toNat≠cg cl j.toNat
structure UnP(nd:List pN)(cl:List Nat)(i j:Int)(a b:Nat):Prop where
 ok:HE nd.length cl i j
 ha:a<nd.length
 hb:b<nd.length
 ab:a≠b
 ua:rI nd a=a
 ub:rI nd b=b
 c:cg cl a=cg cl i.toNat/\cg cl b=cg cl j.toNat\/cg cl a=cg cl j.toNat/\cg cl b=cg cl i.toNat
section
variable{nd:List pN}{cl:List Nat}{i j:Int}{a b:Nat}
theorem Uy(h:Fo nd cl)(hi:0<=i/\i<nd.length)(hj:0<=j/\j<nd.length)(hne:((oo nd cl i.toNat:Nat):Int)≠(oo nd cl j.toNat:Nat)):UnP nd cl i j (oo nd cl i.toNat) (oo nd cl j.toNat):=by
 obtain⟨a1,a2,a3⟩:=oM h (i:=i.toNat) J
 obtain⟨b1,b2,b3⟩:=oM h (i:=j.toNat) J
 have hab:oo nd cl i.toNat≠oo nd cl j.toNat:=fun e=>hne (aK _ e)
 exact⟨⟨hi,hj,fun e=>hab ((Pf h a1 b1 a2 b2 a3 b3).2 e)⟩,a1,b1,hab,a2,b2,.inl ⟨a3,b3⟩⟩
theorem UnP.swap(h:UnP nd cl i j a b):UnP nd cl i j b a:=by grind[UnP]
theorem arT(h:¬(0<=i/\i<nd.length)):¬HE nd.length cl i j:=fun q=>h q.1
theorem arU(h:¬(0<=j/\j<nd.length)):¬HE nd.length cl i j:=fun q=>h q.2.1
theorem arV(h:Fo nd cl)(hi:0<=i/\i<nd.length)(hj:0<=j/\j<nd.length)(e:((oo nd cl i.toNat:Nat):Int)=(oo nd cl j.toNat:Nat)):¬HE nd.length cl i j:=fun q=>q.2.2 (by
 obtain⟨a1,a2,a3⟩:=oM h (i:=i.toNat) J
 obtain⟨b1,b2,b3⟩:=oM h (i:=j.toNat) J
 exact(Pf h a1 b1 a2 b2 a3 b3).1 J)
theorem aoR{v:Nat}(h:a<nd.length)(e:kr nd a=v)(hv:v<=1000000):((bD nd).getD (4*(a:Int)+1).toNat 0).toInt=(v:Int):=Ry ⟨J,J⟩ ((awL h).trans (by rw[e])) hv
theorem aoS{v:Nat}(h:a<nd.length)(e:sE nd a=v)(hv:v<=1000000):((bD nd).getD (4*(a:Int)+2).toNat 0).toInt=(v:Int):=Ry ⟨J,J⟩ ((aoG h).trans (by rw[e])) hv
theorem aoT{v:Nat}(h:a<nd.length)(e:pZ nd a=v)(hv:v<=1000000):((bD nd).getD (4*(a:Int)+3).toNat 0).toInt=(v:Int):=Ry ⟨J,J⟩ ((aoH h).trans (by rw[e])) hv
theorem Fo.small(h:Fo nd cl)(ha:a<nd.length):kr nd a<=nd.length/\sE nd a<=nd.length:=⟨h.sn a ha,by obtain⟨_,_,t,_,q⟩:=h.szb ha;omega⟩
theorem Fo.ahe(h:Fo nd cl)(ha:a<nd.length)(hu:rI nd a=a):pZ nd a<=nd.length:=by grind[Fo,rI,pZ]
theorem awU(h:Fo nd cl)(p:UnP nd cl i j a b):Fo (oP nd a b) (ig cl (cg cl i.toNat) (cg cl j.toNat))/\leads (ig cl (cg cl i.toNat) (cg cl j.toNat))+1=leads cl:=by
 have h1:=h.join p.ha p.hb p.ab p.ua p.ub
 have h2:=X9 h p.ha p.hb p.ab p.ua p.ub
 rcases p.c with⟨e1,e2⟩|⟨e1,e2⟩
 .rw[e1,e2]at h1 h2;exact⟨h1,h2⟩
 rw[e1,e2,Ya]at h1 h2;exact⟨h1,h2⟩
theorem HF{x y:Nat}:(ig cl x y).length=cl.length:=by simp[ig]
end
theorem arW{W:List (BitVec 64)}{us:List jo}{tn:List Nat}{cs:List (List Nat)}(h:Hs W us tn cs)(hk:0<tn.length):∃t tn2 cl c2 cs2,tn=t::tn2/\cs=cl::c2::cs2:=by
 cases tn with
 |nil=>simp at hk
 |cons t tn2=>
  cases cs with
  |nil=>exact h.elim
  |cons cl cs=>
   cases cs with
   |nil=>exact h.elim
   |cons c2 cs2=>exact⟨t,tn2,cl,c2,cs2,rfl,rfl⟩
def I1(tn:List Nat):List Int:=tn.reverse.map Int.ofNat
theorem wC(tn:List Nat):(I1 tn).length=tn.length:=by simp[I1]
theorem FD(t:Nat)(tn:List Nat):I1 (t::tn)=I1 tn++[(t:Int)]:=by simp[I1]
theorem arX{t:Nat}{tn:List Nat}{k:Int}(h:k=(tn.length:Int)):((I1 (t::tn)).map E.I)[k.toNat*1]?=some (E.I t):=by grind[FD,wC]
theorem Uz{t:Nat}{tn:List Nat}:((I1 (t::tn)).map E.I).take (tn.length*1)=(I1 tn).map E.I:=by grind[FD,wC]
theorem amr{W:List (BitVec 64)}{us:List jo}{t:Nat}{tn:List Nat}{cl c2:List Nat}{cs:List (List Nat)}(h:Hs W us (t::tn) (cl::c2::cs)):∃nd nd2,W=bD nd/\Fo nd cl/\je W us t=bD nd2/\Fo nd2 c2/\Hs (bD nd2) (us.take t) tn (c2::cs):=by
 obtain⟨nd,h1,h2⟩:=h.now
 obtain⟨nd2,h3,h4⟩:=h.back.now
 have:=h.back
 rw[h3]at this
 exact⟨nd,nd2,h1,h2,h3,h4,this⟩
theorem Ma(cl:List Nat):leads cl<=cl.length:=by grind[leads,cg]
theorem Hs.Yk{W:List (BitVec 64)}{us:List jo}{tn:List Nat}{cs:List (List Nat)}{cl:List Nat}(h:Hs W us tn (cl::cs)):cl.length<=tn.length:=by
 induction tn generalizing W us cl cs with
 |nil=>
  cases cs with
  |nil=>obtain⟨_,rfl,_⟩:=h;simp
  |cons c cs=>exact h.elim
 |cons t tn ih=>
  cases cs with
  |nil=>exact h.elim
  |cons c2 cs=>
   have h1:=ih h.back
   have h2:=h.cnt
   unfold Fy at h2
   simp only[eO];omega
structure FE(ul lK:List (Value×jo))(tn Iz:List Nat)(cs ED:List (List Nat))(W1:List (BitVec 64)):Prop where
 hs:Hs W1 (lK.map Prod.snd) Iz ED
 ok:L3 W1.length (lK.map Prod.snd)
 sub:∀x∈lK,x∈ul
 le:lK.length<=ul.length
 cs:ED=cs.drop (tn.length-Iz.length)
 tn:Iz.length<=tn.length
section
variable{ul lK:List (Value×jo)}{tn Iz:List Nat}{cs ED:List (List Nat)}{W1:List (BitVec 64)}
theorem FE.start(h:Hs W1 (ul.map Prod.snd) tn cs)(hok:L3 W1.length (ul.map Prod.snd)):FE ul ul tn tn cs cs W1:=by grind[Hs,L3,FE]
theorem FE.next{t:Nat}{cl c2:List Nat}{cs2:List (List Nat)}{nd2:List pN}(h:FE ul lK tn (t::Iz) cs (cl::c2::cs2) W1)(e:je W1 (lK.map Prod.snd) t=bD nd2):FE ul (lK.take t) tn Iz cs (c2::cs2) (bD nd2):=by
 have ht:=h.hs.le
 rw[gj]at ht
 have hb:=h.hs.back
 rw[e,<-wY]at hb
 have ho:=Uh h.ok (t:=t) (by rw[gj];exact ht)
 rw[e,<-wY]at ho
 have hn:=h.tn
 rw[eO]at hn
 refine⟨hb,ho,fun x hx=>h.sub x (uu hx),by rw[eo];have:=h.le;omega,?_,J⟩
 have hc:=h.cs
 rw[eO]at hc
 rw[show tn.length-Iz.length=tn.length-(Iz.length+1)+1 by omega,<-Qy,<-hc];rfl
end
end
end Go.Proofs.YtlhjdflgjbkpmaaGreatDoor.M
namespace Go.Proofs.YtlhjdflgjbkpmaaGreatDoor.E
section
open Go Go.RowKit Go.Proofs.YtlhjdflgjbkpmaaGreatDoor.M
theorem Hp.ams{w0 w:World}{L:List a8}{v:Value}{e:TypeId}{sz n m i:Nat}{xs:List Value}(h:Hp w0 w L)(hi:L[i]?=some (.row v e sz n xs))(hm:m<=n):Hp w0 w (L.set i (.row (kS v m) e sz m (xs.take (m*sz)))):=by
 have hr:w.ownsRow w0.heap.size e sz v n xs:=h.get hi
 obtain⟨h1,h2⟩:=hr
 have hle:m*sz<=n*sz:=qV _ hm
 rcases h2 with⟨rfl,rfl⟩|⟨gb,cap,cur,rfl,hb,hg,hn,hc,hs,ht⟩
 .have:m=0:=J
  subst this
  refine h.wB hi O ⟨az,.inl ⟨rfl,rfl⟩⟩
 refine h.wB hi O ⟨by rw[eo,h1];omega,.inr ⟨gb,cap,cur,rfl,hb,hg,J,hc,hs,?_⟩⟩
 rw[<-ht,Ba];congr 1;omega
end
end Go.Proofs.YtlhjdflgjbkpmaaGreatDoor.E
namespace Go.Proofs.YtlhjdflgjbkpmaaGreatDoor.M
section
open Go
def bk(cs:List (List Nat)):List Nat:=cs.headD []
def RE(cs:List (List Nat)):List (List Nat):=(bk cs++[(bk cs).length])::cs
def iT(cs:List (List Nat))(i j:Int):List (List Nat)×Bool:=
 if fl (bk cs) i<0\/fl (bk cs) j<0\/fl (bk cs) i=fl (bk cs) j then(cs,false)
 else(ig (bk cs) (fl (bk cs) i).toNat (fl (bk cs) j).toNat::cs,true)
def Ac(cs:List (List Nat))(m:Int):List (List Nat)×Bool:=
 if(cs.length:Int)-1<m then(cs,false)else(cs.drop (cs.length-1-(max 0 m).toNat),true)
theorem acJ{cl:List Nat}{i:Int}:fl cl i<0↔¬(0<=i/\i<cl.length):=by grind[fl]
theorem HG{cs:List (List Nat)}{i j:Int}(h:HE (bk cs).length (bk cs) i j):iT cs i j=(ig (bk cs) (cg (bk cs) i.toNat) (cg (bk cs) j.toNat)::cs,true):=by grind[HE,bk,iT,ig,cg,mw]
theorem Mb{cs:List (List Nat)}{i j:Int}(h:¬HE (bk cs).length (bk cs) i j):iT cs i j=(cs,false):=by grind[HE,bk,iT,mw,acJ]
end
end Go.Proofs.YtlhjdflgjbkpmaaGreatDoor.M
namespace Go.Proofs.YtlhjdflgjbkpmaaGreatDoor.E
section
open Go Go.RowKit Go.Proofs.YtlhjdflgjbkpmaaGreatDoor.M
structure FTy where
 ut:UT
 tf:TypeId
 tu:TypeId
 tfn:TypeId
 ti:TypeId
structure FoI(T:FTy)(F m:Nat)(cs:List (List Nat))(vW vU vT:Value)(cW cU:Option (Nat×Array Value))(W:List (BitVec 64))(ul:List (Value×jo))(tn:List Nat)(Lb:List a8):Prop where
 hW:cO cW vW (W.map U)
 hU:cO cU vU (ul.map Prod.fst)
 hs:Hs W (ul.map Prod.snd) tn cs
 ok:L3 W.length (ul.map Prod.snd)
 un:∀x∈ul,oQ T.ut F Lb x
 lu:ul.length<=5*m
 lt:tn.length<=m
def foL(T:FTy)(F:Nat)(cs:List (List Nat))(vW vU vT:Value)(cW cU:Option (Nat×Array Value))(W:List (BitVec 64))(ul:List (Value×jo))(tn:List Nat)(Lb:List a8):List a8:=
 .blk F (.cells #[vW,vU,vT,I ((leads (bk cs):Nat):Int)] T.tf (0,0))::cE cW vW T.tu (W.map U)::cE cU vU T.tfn (ul.map Prod.fst):: .row vT T.ti 1 tn.length ((I1 tn).map I)::Lb
def FoZ(T:FTy)(F m:Nat)(cs:List (List Nat))(Z:List a8):Prop:=
 ∃(vW vU vT:Value) (cW cU:Option (Nat×Array Value)) (W:List (BitVec 64)) (ul:List (Value×jo)) (tn:List Nat) (Lb:List a8),Z=foL T F cs vW vU vT cW cU W ul tn Lb/\FoI T F m cs vW vU vT cW cU W ul tn Lb
theorem FoZ.more{T:FTy}{F m m':Nat}{cs:List (List Nat)}{Z:List a8}(h:FoZ T F m cs Z)(hm:m<=m'):FoZ T F m' cs Z:=by
 obtain⟨vW,vU,vT,cW,cU,W,ul,tn,Lb,e,i⟩:=h
 exact⟨vW,vU,vT,cW,cU,W,ul,tn,Lb,e,i.hW,i.hU,i.hs,i.ok,i.un,by have:=i.lu;omega,by have:=i.lt;omega⟩
theorem FoI.now{T:FTy}{F m:Nat}{cs:List (List Nat)}{vW vU vT:Value}{cW cU:Option (Nat×Array Value)}{W:List (BitVec 64)}{ul:List (Value×jo)}{tn:List Nat}{Lb:List a8}(h:FoI T F m cs vW vU vT cW cU W ul tn Lb):
  ∃nd cl zX,cs=cl::zX/\W=bD nd/\Fo nd cl/\nd.length=cl.length/\cl.length<=m/\tn.length+1=cs.length/\leads cl<=m:=by
 cases cs with
 |nil=>exact h.hs.ne.elim
 |cons cl zX=>
  obtain⟨nd,h1,h2⟩:=h.hs.now
  have h3:=h.hs.Yk;have h4:=h.lt;have h5:=Ma cl;have h6:=h.hs.len
  exact⟨nd,cl,zX,rfl,h1,h2,h2.len.symm,J,J,J⟩
theorem FoZ.new{T:FTy}{F:Nat}:FoZ T F 0 [[]] [.blk F (.cells #[.slice none 0 0,.slice none 0 0,.slice none 0 0,I 0] T.tf (0,0)),.row (.slice none 0 0) T.tu 1 0 [],.row (.slice none 0 0) T.tfn 1 0 [],.row (.slice none 0 0) T.ti 1 0 []]:=by
 refine⟨.slice none 0 0,.slice none 0 0,.slice none 0 0,none,none,[],[],[],[],rfl,trivial,trivial,Hs.start,trivial,fun x hx=>(by cases hx),az,az⟩
section
variable{α:Type}{f:α->Value}{cl:α->List Value}{l:List α}{a:α}
theorem ahg{k:Nat}(hk:k<l.length):rE (l.map f) (k*1) [f a]=(l.set k a).map f:=by simp_all[BI]
theorem HH{sz:Nat}(hsz:∀a,(cl a).length=sz):∀{l:List α} {k:Nat},k<l.length->rE (l.flatMap cl) (k*sz) (cl a)=(l.set k a).flatMap cl
 |[],k,h=>by simp at h
 |b::l,0,h=>by
  simp only[rE,QF,wS,er,fg,tH,fO,hsz]
  rw[J4 (by rw[hsz];exact eG _),J9 (by rw[hsz];exact eG _),er]
 |b::l,k+1,h=>by
  have ih:=HH hsz (l:=l) (k:=k) uz
  have hb:=hsz b
  simp only[rE,hsz,tH,gU]at ih⊢
  rw[<-ih,show(k+1)*sz=(cl b).length+k*sz by rw[hb,kO];omega,Wl,show(cl b).length+k*sz+sz=(cl b).length+(k*sz+sz)by omega,List.drop_length_add_append,dg,dg,dg]
theorem Pr{sz:Nat}(hsz:∀a,(cl a).length=sz):∀{l:List α} {m:Nat},m<=l.length->(l.flatMap cl).take (m*sz)=(l.take m).flatMap cl
 |l,0,h=>by simp
 |[],m+1,h=>by simp at h
 |b::l,m+1,h=>by
  have ih:=Pr hsz (l:=l) (m:=m) uz
  have hb:=hsz b
  rw[tH,Gm,tH,<-ih,show(m+1)*sz=(cl b).length+m*sz by rw[hb,kO];omega,Wl]
end
section
variable{P:Program}{n:Nat}{ops:Array Oper}{k:K}{rest lo:List Oper}{σ:Env}{w0 w:World}{L L':List a8}{ty t e:TypeId}{pos:String}{bJ:Array Edge}{d:Nat}{x y:Operand}{g:Option (Nat×Bool)}{v u:Value}{sz m i fuel j:Nat}{q:Int}{dst:Option Tmp}{listed:Array Bool}
variable{α:Type}{f:α->Value}{cl:α->List Value}{l:List α}{a:α}
abbrev jq(f:α->Value)(v:Value)(e:TypeId)(l:List α):a8:= .row v e 1 l.length (l.map f)
abbrev uV(cl:α->List Value)(sz:Nat)(v:Value)(e:TypeId)(l:List α):a8:= .row v e sz l.length (l.flatMap cl)
theorem aas(hH:Hp w0 w L)(hi:L[i]?=some (jq f v e l))(hk:0<=q/\q<l.length)(hx:ev σ x= .pointer (some ⟨sb v,so v+q.toNat*1,none⟩))(hy:ev σ y=f a)(hv:(f a).cells=#[f a])(h1:(f a).oneCell'=true)(hs:(P.info? t).map (·.size)=some 1):
  ∃w',(execOp (ev σ) ⟨dst,.store t x y,ty,pos,bJ,g⟩).run P w= .ok .skip w'/\Hp w0 w' (L.set i (jq f v e (l.set q.toNat a))):=by
 obtain⟨w',hr,h2⟩:=Fw (dst:=dst) (ty:=ty) (pos:=pos) (bJ:=bJ) (g:=g) hH hi J hx hy hv h1 hs J
 rw[ahg J]at h2
 exact⟨w',hr,by unfold jq;rw[mM];exact h2⟩
theorem px(hH:Hp w0 w L)(hi:L[i]?=some (jq f v e l))(hk:0<=q/\q<l.length)(hx:ev σ x= .pointer (some ⟨sb v,so v+q.toNat*1,none⟩))(hy:ev σ y=f a)(hv:(f a).cells=#[f a])(h1:(f a).oneCell'=true)(hs:(P.info? t).map (·.size)=some 1)
  (hn:∀w',Hp w0 w' (L.set i (jq f v e (l.set q.toNat a)))->RL P n ops k rest σ w'):RL P n ops k (⟨none,.store t x y,ty,pos,bJ,none⟩::rest) σ w:=by
 obtain⟨w',hr,h2⟩:=aas (dst:=none) (ty:=ty) (pos:=pos) (bJ:=bJ) (g:=none) hH hi hk hx hy hv h1 hs
 exact KL hr (hn w' h2)
theorem Yl(hj:lo[j]?=some ⟨none,.store t x y,ty,pos,bJ,g⟩)(hg:∀a,Is n σ a->Region.wanted ⟨none,.store t x y,ty,pos,bJ,g⟩ (yielded lo.toArray a.tmps)=true)(hH:Hp w0 w L)(hi:L[i]?=some (jq f v e l))(hsub:∀r,L'.Sublist (L.set i r))(hk:0<=q/\q<l.length)
  (hx:ev σ x= .pointer (some ⟨sb v,so v+q.toNat*1,none⟩)) (hy:ev σ y=f a) (hv:(f a).cells=#[f a]) (h1:(f a).oneCell'=true) (hs:(P.info? t).map (·.size)=some 1)
  (hn:∀w',Hp w0 w' (L.set i (jq f v e (l.set q.toNat a)))->AN P n lo (fun w=>Hp w0 w L') k fuel (listed.setIfInBounds j true) σ w'):AO P n lo (fun w=>Hp w0 w L') k fuel listed σ w j:=by
 obtain⟨w',hr,h2⟩:=aas (dst:=none) (ty:=ty) (pos:=pos) (bJ:=bJ) (g:=g) hH hi hk hx hy hv h1 hs
 exact KW hj hg hr (h2.sub (hsub _)) (hn w' h2)
theorem aat(hsz:∀a,(cl a).length=sz)(hpos:0<sz)(hH:Hp w0 w L)(hi:L[i]?=some (uV cl sz v e l))(hk:0<=q/\q<l.length)(hx:ev σ x= .pointer (some ⟨sb v,so v+q.toNat*sz,none⟩))(hy:ev σ y= .agg (cl a).toArray)(h1:∀u∈cl a,u.oneCell'=true)(hs:(P.info? t).map (·.size)=some sz):
  ∃w',(execOp (ev σ) ⟨dst,.store t x y,ty,pos,bJ,g⟩).run P w= .ok .skip w'/\Hp w0 w' (L.set i (uV cl sz v e (l.set q.toNat a))):=by
 obtain⟨w',hr,h2⟩:=arn (dst:=dst) (ty:=ty) (pos:=pos) (bJ:=bJ) (g:=g) hH hi J hx hy h1 (by rw[hsz];exact hs) (by
  rw[hsz]
  have:(q.toNat+1)*sz<=l.length*sz:=qV _ J
  rw[kO]at this;omega)
 rw[HH hsz J]at h2
 exact⟨w',hr,by unfold uV;rw[mM];exact h2⟩
theorem aEh(hsz:∀a,(cl a).length=sz)(hpos:0<sz)(hH:Hp w0 w L)(hi:L[i]?=some (uV cl sz v e l))(hk:0<=q/\q<l.length)(hx:ev σ x= .pointer (some ⟨sb v,so v+q.toNat*sz,none⟩))(hy:ev σ y= .agg (cl a).toArray)(h1:∀u∈cl a,u.oneCell'=true)(hs:(P.info? t).map (·.size)=some sz)
  (hn:∀w',Hp w0 w' (L.set i (uV cl sz v e (l.set q.toNat a)))->RL P n ops k rest σ w'):RL P n ops k (⟨none,.store t x y,ty,pos,bJ,none⟩::rest) σ w:=by
 obtain⟨w',hr,h2⟩:=aat (dst:=none) (ty:=ty) (pos:=pos) (bJ:=bJ) (g:=none) hsz hpos hH hi hk hx hy h1 hs
 exact KL hr (hn w' h2)
theorem Ym(hj:lo[j]?=some ⟨none,.store t x y,ty,pos,bJ,g⟩)(hg:∀a,Is n σ a->Region.wanted ⟨none,.store t x y,ty,pos,bJ,g⟩ (yielded lo.toArray a.tmps)=true)(hsz:∀a,(cl a).length=sz)(hpos:0<sz)(hH:Hp w0 w L)(hi:L[i]?=some (uV cl sz v e l))(hsub:∀r,L'.Sublist (L.set i r))(hk:0<=q/\q<l.length)
  (hx:ev σ x= .pointer (some ⟨sb v,so v+q.toNat*sz,none⟩)) (hy:ev σ y= .agg (cl a).toArray) (h1:∀u∈cl a,u.oneCell'=true) (hs:(P.info? t).map (·.size)=some sz)
  (hn:∀w',Hp w0 w' (L.set i (uV cl sz v e (l.set q.toNat a)))->AN P n lo (fun w=>Hp w0 w L') k fuel (listed.setIfInBounds j true) σ w'):AO P n lo (fun w=>Hp w0 w L') k fuel listed σ w j:=by
 obtain⟨w',hr,h2⟩:=aat (dst:=none) (ty:=ty) (pos:=pos) (bJ:=bJ) (g:=g) hsz hpos hH hi hk hx hy h1 hs
 exact KW hj hg hr (h2.sub (hsub _)) (hn w' h2)
theorem amt{off:Nat}{b:α}(hsz:∀a,(cl a).length=sz)(hH:Hp w0 w L)(hi:L[i]?=some (uV cl sz v e l))(hk:0<=q/\q<l.length)(hx:ev σ x= .pointer (some ⟨sb v,so v+q.toNat*sz+off,none⟩))(hy:ev σ y=u)(hv:u.cells=#[u])(h1:u.oneCell'=true)(hs:(P.info? t).map (·.size)=some 1)
  (ho:off<sz) (hb:cl b=(cl (l.getD q.toNat a)).set off u):
  ∃w',(execOp (ev σ) ⟨dst,.store t x y,ty,pos,bJ,g⟩).run P w= .ok .skip w'/\Hp w0 w' (L.set i (uV cl sz v e (l.set q.toNat b))):=by
 have hle:(q.toNat+1)*sz<=l.length*sz:=qV _ J
 rw[kO]at hle
 obtain⟨w',hr,h2⟩:=Fw (dst:=dst) (ty:=ty) (pos:=pos) (bJ:=bJ) (g:=g) (o:=q.toNat*sz+off) hH hi J (by rw[hx,s0]) hy hv h1 hs J
 have e1:rE (l.flatMap cl) (q.toNat*sz+off) [u]=rE (l.flatMap cl) (q.toNat*sz) (cl b):=by
  rw[BI (by rw[fh hsz];omega)]
  apply sY
  intro p
  have hg:=fun j c h=>flat_get hsz l q.toNat (l.getD q.toNat a) (fB hk.1 hk.2) j c h
  rw[uq,fh hsz]
  have lb:=hsz b
  unfold rE
  by_cases h1:p<q.toNat*sz
  .rw[aP J,dg,wP (by rw[eo,fh hsz];omega),uo,aQ h1]
  by_cases h2:p<q.toNat*sz+sz
  .rw[dg,DV (by rw[eo,fh hsz];omega),eo,fh hsz,qW J,wP J,hb,uq,hsz]
   by_cases h3:q.toNat*sz+off=p
   .rw[aQ h3,aQ J,aQ J,aQ J]
   rw[aP h3,aP J]
   have hl:p-q.toNat*sz<(cl (l.getD q.toNat a)).length:=by rw[hsz];omega
   have:=hg (p-q.toNat*sz) _ (ef hl)
   rw[show q.toNat*sz+(p-q.toNat*sz)=p by omega]at this
   rw[this,ef hl]
  rw[aP J,DV (by simp only[cV,eo,fh hsz,lb];omega),A7]
  congr 1
  simp only[cV,eo,fh hsz,lb];omega
 rw[e1,HH hsz J]at h2
 exact⟨w',hr,by unfold uV;rw[mM];exact h2⟩
theorem arY{off:Nat}{b:α}(hsz:∀a,(cl a).length=sz)(hH:Hp w0 w L)(hi:L[i]?=some (uV cl sz v e l))(hk:0<=q/\q<l.length)(hx:ev σ x= .pointer (some ⟨sb v,so v+q.toNat*sz+off,none⟩))(hy:ev σ y=u)(hv:u.cells=#[u])(h1:u.oneCell'=true)(hs:(P.info? t).map (·.size)=some 1)
  (ho:off<sz) (hb:cl b=(cl (l.getD q.toNat a)).set off u) (hn:∀w',Hp w0 w' (L.set i (uV cl sz v e (l.set q.toNat b)))->RL P n ops k rest σ w'):RL P n ops k (⟨none,.store t x y,ty,pos,bJ,none⟩::rest) σ w:=by
 obtain⟨w',hr,h2⟩:=amt (dst:=none) (ty:=ty) (pos:=pos) (bJ:=bJ) (g:=none) (a:=a) hsz hH hi hk hx hy hv h1 hs ho hb
 exact KL hr (hn w' h2)
theorem arZ{ie:TypeInfo}{z:Value}{bytes:Nat}(hd:Nat.blt d n=true)(hH:Hp w0 w L)(hL:L[i]?=some (jq f v e l))(hS:Sl w u 1 1 [f a])(hx:ev σ x=v)(hy:ev σ y=u)(ht:P.underlying t=some (.slice e))(hie:P.info? e=some ie)(hz:ie.zero=some z)
  (hsize:ie.size=1) (hby:ie.bytes=bytes) (hzs:z.cells.size=1) (h1:(f a).oneCell'=true) (hb:l.length+1<=700000000000) (IV:bytes<=200)
  (hn:∀v' w',Hp w0 w' (L.set i (jq f v' e (l++[a])))->RL P n ops k rest (k7 σ d v') w'):RL P n ops k (⟨some d,.call {callee:= .builtin .append,args:=#[x,y],argTypes:=#[t,t]},ty,pos,bJ,none⟩::rest) σ w:=by
 refine jX hd hH hL hS hx hy ht hie hz hsize hby hzs J (fun u hu=>by rw[fZ.1 hu];exact h1) (jP (wX hb IV) aD) jU fun v' w' h=>hn v' w' ?_
 unfold jq;rw[cV,gA];exact h
theorem RF{ie:TypeInfo}{z:Value}{bytes:Nat}(hj:lo[j]?=some ⟨some d,.call {callee:= .builtin .append,args:=#[x,y],argTypes:=#[t,t]},ty,pos,bJ,g⟩)(hg:∀a,Is n σ a->Region.wanted ⟨some d,.call {callee:= .builtin .append,args:=#[x,y],argTypes:=#[t,t]},ty,pos,bJ,g⟩ (yielded lo.toArray a.tmps)=true)
  (hd:Nat.blt d n=true) (hH:Hp w0 w L) (hL:L[i]?=some (jq f v e l)) (hsub:∀r,L'.Sublist (L.set i r)) (hS:Sl w u 1 1 [f a]) (hx:ev σ x=v) (hy:ev σ y=u) (ht:P.underlying t=some (.slice e)) (hie:P.info? e=some ie) (hz:ie.zero=some z)
  (hsize:ie.size=1) (hby:ie.bytes=bytes) (hzs:z.cells.size=1) (h1:(f a).oneCell'=true) (hb:l.length+1<=700000000000) (IV:bytes<=200)
  (hn:∀v' w',Hp w0 w' (L.set i (jq f v' e (l++[a])))->AN P n lo (fun w=>Hp w0 w L') k fuel (listed.setIfInBounds j true) (k7 σ d v') w'):AO P n lo (fun w=>Hp w0 w L') k fuel listed σ w j:=by
 refine lA hj hg hd hH hL (fun _=>hsub _) hS hx hy ht hie hz hsize hby hzs J (fun u hu=>by rw[fZ.1 hu];exact h1) (jP (wX hb IV) aD) jU fun v' w' h=>hn v' w' ?_
 unfold jq;rw[cV,gA];exact h
theorem ar0{ie:TypeInfo}{z:Value}{bytes:Nat}(hsz:∀a,(cl a).length=sz)(hpos:0<sz)(hd:Nat.blt d n=true)(hH:Hp w0 w L)(hL:L[i]?=some (uV cl sz v e l))(hS:Sl w u sz [a].length ([a].flatMap cl))(hx:ev σ x=v)(hy:ev σ y=u)(ht:P.underlying t=some (.slice e))(hie:P.info? e=some ie)(hz:ie.zero=some z)
  (hsize:ie.size=sz) (hby:ie.bytes=bytes) (hzs:z.cells.size=sz) (h1:∀u∈cl a,u.oneCell'=true) (hb:l.length+1<=700000000000) (IV:bytes<=200)
  (hn:∀v' w',Hp w0 w' (L.set i (uV cl sz v' e (l++[a])))->RL P n ops k rest (k7 σ d v') w'):RL P n ops k (⟨some d,.call {callee:= .builtin .append,args:=#[x,y],argTypes:=#[t,t]},ty,pos,bJ,none⟩::rest) σ w:=by
 refine jX hd hH hL hS hx hy ht hie hz hsize hby hzs hpos (fun u hu=>h1 u qf) (jP (wX hb IV) aD) (by simp only[maxLen,gk];omega) fun v' w' h=>hn v' w' ?_
 unfold uV;rw[cV,DT];exact h
theorem RG{ie:TypeInfo}{z:Value}{bytes:Nat}(hj:lo[j]?=some ⟨some d,.call {callee:= .builtin .append,args:=#[x,y],argTypes:=#[t,t]},ty,pos,bJ,g⟩)(hg:∀a,Is n σ a->Region.wanted ⟨some d,.call {callee:= .builtin .append,args:=#[x,y],argTypes:=#[t,t]},ty,pos,bJ,g⟩ (yielded lo.toArray a.tmps)=true)
  (hsz:∀a,(cl a).length=sz) (hpos:0<sz) (hd:Nat.blt d n=true) (hH:Hp w0 w L) (hL:L[i]?=some (uV cl sz v e l)) (hsub:∀r,L'.Sublist (L.set i r)) (hS:Sl w u sz [a].length ([a].flatMap cl)) (hx:ev σ x=v) (hy:ev σ y=u) (ht:P.underlying t=some (.slice e)) (hie:P.info? e=some ie) (hz:ie.zero=some z)
  (hsize:ie.size=sz) (hby:ie.bytes=bytes) (hzs:z.cells.size=sz) (h1:∀u∈cl a,u.oneCell'=true) (hb:l.length+1<=700000000000) (IV:bytes<=200)
  (hn:∀v' w',Hp w0 w' (L.set i (uV cl sz v' e (l++[a])))->AN P n lo (fun w=>Hp w0 w L') k fuel (listed.setIfInBounds j true) (k7 σ d v') w'):AO P n lo (fun w=>Hp w0 w L') k fuel listed σ w j:=by
 refine lA hj hg hd hH hL (fun _=>hsub _) hS hx hy ht hie hz hsize hby hzs hpos (fun u hu=>h1 u qf) (jP (wX hb IV) aD) (by simp only[maxLen,gk];omega) fun v' w' h=>hn v' w' ?_
 unfold uV;rw[cV,DT];exact h
theorem ar1{ie:TypeInfo}{z:Value}{bytes:Nat}{c:Option (Nat×Array Value)}(hd:Nat.blt d n=true)(hH:Hp w0 w L)(hL:L[i]?=some (cE c v e (l.map f)))(hk:cO c v (l.map f))(hS:Sl w u 1 1 [f a])(hx:ev σ x=v)(hy:ev σ y=u)(ht:P.underlying t=some (.slice e))(hie:P.info? e=some ie)(hz:ie.zero=some z)
  (hsize:ie.size=1) (hby:ie.bytes=bytes) (hzs:z.cells.size=1) (h1:(f a).oneCell'=true) (hb:l.length+1<=700000000000) (IV:bytes<=200)
  (hn:∀v' w',Hp w0 w' (L.set i (cE none v' e ((l++[a]).map f)))->RL P n ops k rest (k7 σ d v') w'):RL P n ops k (⟨some d,.call {callee:= .builtin .append,args:=#[x,y],argTypes:=#[t,t]},ty,pos,bJ,none⟩::rest) σ w:=by
 have hll:(l.map f).length=l.length:=gj ..
 obtain⟨v',w',hr,h2⟩:=Uq (P:=P) (ty:=ty) (dst:=some d) (pos:=pos) (bJ:=bJ) (g:=none) (ats:=t) hH hL hk hS hx hy ht hie hz hsize hby hzs J (fun u hu=>by rw[fZ.1 hu];exact h1) J (by rw[hll];exact jP (wX hb IV) aD) (by rw[hll];simp only[maxLen];omega)
 refine ox hd hr (hn v' w' ?_)
 unfold cE Up;rw[gA,cV];exact h2
theorem ke{dv:α}{q:Int}(h:0<=q/\q<l.length):(l.map f)[q.toNat*1]?=some (f (l.getD q.toNat dv)):=by grind
theorem Hp.acK(h:Hp w0 w L)(hi:L[i]?=some (jq f v e l))(hm:m<=l.length):Hp w0 w (L.set i (jq f (kS v m) e (l.take m))):=by
 have:=h.ams hi hm
 unfold jq;rw[eo,qW hm,wY]
 rwa[kP]at this
theorem Hp.ahh(hsz:∀a,(cl a).length=sz)(h:Hp w0 w L)(hi:L[i]?=some (uV cl sz v e l))(hm:m<=l.length):Hp w0 w (L.set i (uV cl sz (kS v m) e (l.take m))):=by
 have:=h.ams hi hm
 unfold uV;rw[eo,qW hm,<-Pr hsz hm];exact this
end
theorem ahi{s1 s2:List Int}{a k:Int}(h:(s1++a::s2).getD k.toNat 0≠a)(h0:(s1.length:Int)<=k):(s1.length:Int)<k:=by grind
theorem ar2{s1 s2:List Int}{a k:Int}(hn:a∉s2)(h:(s1++a::s2).getD k.toNat 0=a)(h0:(s1.length:Int)<=k)(h1:k<=s1.length+s2.length):k=s1.length:=by grind
theorem dc{α:Type}{l:List α}{d:α}{k:Int}(h0:0<=k)(h1:k<l.length):l.getD k.toNat d∈l:=by grind
theorem ar3{p:Nat->Prop}{k:Int}(h0:0<=k)(h:∀q:Nat,q<k.toNat->p q)(hk:p k.toNat):∀q:Nat,q<(k+1).toNat->p q:=by grind
theorem CT{w:World}{v:Value}{s1 s2:List Int}{a k:Int}(hk:k=s1.length)(h:Sl w v 1 ((s1++a::s2).map I).length ((s1++a::s2).map I)):Sl w (om v 1 k.toNat) 1 (a::s2).length ((a::s2).map I):=by
 have:=Sl.fr h s1.length az
 subst hk
 rw[dN]
 rw[show((s1++a::s2).map I).length-s1.length=(a::s2).length by simp,kP,gA,J4 az,J9 az,er]at this
 exact this
theorem acL{P:Program}{σ:Env}{w:World}{t te ty u:TypeId}{pos:String}{bJ:Array Edge}{dst:Option Tmp}{g:Option (Nat×Bool)}{x y:Operand}{a:Addr}(ht:P.underlying t=some (.pointer te))(hx:ev σ x= .pointer (some a))(hy:ev σ y= .pointer none):
  (execOp (ev σ) ⟨dst,.binOp .neq t x y u,ty,pos,bJ,g⟩).run P w= .ok (.value (.bool true)) w:=by
 have h:(binOp .neq t (.pointer (some a)) (.pointer none)).run P w= .ok (.bool true) w:=by
  simp only[binOp];simp[Op.equal,Op.maxDepth,EA 9999 ht]
 have he:(eqGuard .neq t x y (.pointer (some a)) (.pointer none))=pure ():=rfl
 simp only[execOp,hx,hy,he];simp[h]
theorem UA{P:Program}{σ:Env}{w:World}{ty:TypeId}{pos:String}{bJ:Array Edge}{dst:Option Tmp}{g:Option (Nat×Bool)}{x1 x2 x3 x4:Operand}{v1 v2 v3 v4:Value}{fn:Fn}(h1:ev σ x1=v1)(h2:ev σ x2=v2)(h3:ev σ x3=v3)(h4:ev σ x4=v4):(execOp (ev σ) ⟨dst,.makeFunc fn #[] #[x1,x2,x3,x4],ty,pos,bJ,g⟩).run P w= .ok (.value (.func fn #[] #[v1,v2,v3,v4])) w:=by simp_all[tS]
structure iW where
 v:Value
 l:List Int
def cD:iW:=⟨.slice none 0 0,[]⟩
def GrV(K:Vu)(v:Value)(g:List iW):Prop:=pw K v 1 g.length (g.map iW.v)/\∀x∈g,pw K x.v 1 x.l.length (x.l.map I)
theorem GrV.mono{K K':Vu}{v:Value}{g:List iW}(h:GrV K v g)(hl:Le K K'):GrV K' v g:=⟨h.1.mono hl,fun x hx=>(h.2 x hx).mono hl⟩
theorem GrV.row{K:Vu}{v:Value}{g:List iW}(h:GrV K v g){k:Int}(h0:0<=k)(h1:k<g.length):pw K (g.getD k.toNat cD).v 1 (g.getD k.toNat cD).l.length ((g.getD k.toNat cD).l.map I):=h.2 _ (dc h0 h1)
theorem GrV.at{K:Vu}{v:Value}{g:List iW}(h:GrV K v g){k:Int}(h0:0<=k/\k<g.length):(g.map iW.v)[k.toNat*1]?=some (g.getD k.toNat cD).v:=ke h0
def mO(g:List iW):List (List Int):=g.map iW.l
theorem zm{g:List iW}{k:Nat}:(mO g).getD k []=(g.getD k cD).l:=by grind[iW,mO,cD]
theorem eM{g:List iW}:(mO g).length=g.length:=gj ..
def dr(t:TypeId)(x:iW):a8:= .row x.v t 1 x.l.length (x.l.map I)
theorem Hp.Ps{w0 w:World}{L:List a8}{t:TypeId}{x:iW}(h:Hp w0 w L)(hm:dr t x∈L):Sl w x.v 1 x.l.length (x.l.map I):=Sl.KV (h.ok _ hm)
theorem Hp.aru{w0 w:World}{L:List a8}(t:TypeId)(h:Hp w0 w L):∀n:Nat,Hp w0 w ((List.replicate n cD).map (dr t)++L)
 |0=>h
 |n+1=>(h.aru t n).fD t 1
section
variable{P:Program}{n:Nat}{ops:Array Oper}{k:K}{rest lo:List Oper}{σ:Env}{w0 w:World}{A R L':List a8}{ty t e tE:TypeId}{pos:String}{bJ:Array Edge}{d:Nat}{x y:Operand}{g:Option (Nat×Bool)}{v u:Value}{fuel j:Nat}{q:Int}{dst:Option Tmp}{listed:Array Bool}{gs:List iW}{a:Int}
theorem Mc(hq:0<=q/\q<gs.length):(A++(gs.map (dr tE)++R))[A.length+q.toNat]?=some (dr tE (gs.getD q.toNat cD)):=by grind
theorem aau{x:iW}(hq:0<=q/\q<gs.length):(A++(gs.map (dr tE)++R)).set (A.length+q.toNat) (dr tE x)=A++((gs.set q.toNat x).map (dr tE)++R):=jV
theorem Hp.ar4(h:Hp w0 w (A++(gs.map (dr tE)++R)))(hq:0<=q/\q<gs.length):Sl w (gs.getD q.toNat cD).v 1 (gs.getD q.toNat cD).l.length ((gs.getD q.toNat cD).l.map I):=h.sl (Mc hq)
theorem Hp.hdr(h:Hp w0 w (A++(gs.map (dr tE)++R)))(hq:0<=q/\q<gs.length):(gs.getD q.toNat cD).v.cells=#[(gs.getD q.toNat cD).v]/\(gs.getD q.toNat cD).v.oneCell'=true:=aS (h.get (Mc hq))
theorem Hp.ar5{r:iW}(h:Hp w0 w (A++((gs.set q.toNat r).map (dr tE)++R)))(hq:0<=q/\q<gs.length):r.v.cells=#[r.v]/\r.v.oneCell'=true:=by
 have h1:=h.hdr (q:=q) (by rw[mM];exact hq)
 have e:(gs.set q.toNat r).getD q.toNat cD=r:=by rw[eE,uq,aQ O,aQ J];rfl
 rwa[e]at h1
theorem aav{ie:TypeInfo}{z:Value}{bytes:Nat}(hH:Hp w0 w (A++(gs.map (dr tE)++R)))(hq:0<=q/\q<gs.length)(hS:Sl w u 1 1 [I a])(hx:ev σ x=(gs.getD q.toNat cD).v)(hy:ev σ y=u)(ht:P.underlying t=some (.slice tE))(hie:P.info? tE=some ie)(hz:ie.zero=some z)
  (hsize:ie.size=1) (hby:ie.bytes=bytes) (hzs:z.cells.size=1) (hb:(gs.getD q.toNat cD).l.length+1<=700000000000) (IV:bytes<=200):
  ∃v' w',(execOp (ev σ) ⟨dst,.call {callee:= .builtin .append,args:=#[x,y],argTypes:=#[t,t]},ty,pos,bJ,g⟩).run P w= .ok (.value v') w'/\Hp w0 w' (A++((gs.set q.toNat ⟨v',(gs.getD q.toNat cD).l++[a]⟩).map (dr tE)++R)):=by
 obtain⟨v',w',hr,h2,h3,h4⟩:=r7 (P:=P) (ty:=ty) ht hie hz hsize hby hzs J (hH.get (Mc hq)) hS (fun u hu=>by rw[fZ.1 hu];rfl) jU (jP (wX hb IV) aD) hH.size
 have h5:=hH.xM (Mc hq) h2 h3 h4
 refine⟨v',w',rW hx hy hr,?_⟩
 rw[<-aau hq]
 unfold dr;rw[cV,gA];exact h5
theorem aEi{ie:TypeInfo}{z:Value}{bytes:Nat}(hd:Nat.blt d n=true)(hH:Hp w0 w (A++(gs.map (dr tE)++R)))(hq:0<=q/\q<gs.length)(hS:Sl w u 1 1 [I a])(hx:ev σ x=(gs.getD q.toNat cD).v)(hy:ev σ y=u)(ht:P.underlying t=some (.slice tE))(hie:P.info? tE=some ie)(hz:ie.zero=some z)
  (hsize:ie.size=1) (hby:ie.bytes=bytes) (hzs:z.cells.size=1) (hb:(gs.getD q.toNat cD).l.length+1<=700000000000) (IV:bytes<=200)
  (hn:∀v' w',Hp w0 w' (A++((gs.set q.toNat ⟨v',(gs.getD q.toNat cD).l++[a]⟩).map (dr tE)++R))->RL P n ops k rest (k7 σ d v') w'):RL P n ops k (⟨some d,.call {callee:= .builtin .append,args:=#[x,y],argTypes:=#[t,t]},ty,pos,bJ,none⟩::rest) σ w:=by
 obtain⟨v',w',hr,h2⟩:=aav (P:=P) (ty:=ty) (dst:=some d) (pos:=pos) (bJ:=bJ) (g:=none) hH hq hS hx hy ht hie hz hsize hby hzs hb IV
 exact ox hd hr (hn v' w' h2)
theorem ahk{ie:TypeInfo}{z:Value}{bytes:Nat}(hj:lo[j]?=some ⟨some d,.call {callee:= .builtin .append,args:=#[x,y],argTypes:=#[t,t]},ty,pos,bJ,g⟩)(hg:∀a,Is n σ a->Region.wanted ⟨some d,.call {callee:= .builtin .append,args:=#[x,y],argTypes:=#[t,t]},ty,pos,bJ,g⟩ (yielded lo.toArray a.tmps)=true)
  (hd:Nat.blt d n=true) (hH:Hp w0 w (A++(gs.map (dr tE)++R))) (hsub:∀Y,L'.Sublist (A++(Y++R))) (hq:0<=q/\q<gs.length) (hS:Sl w u 1 1 [I a]) (hx:ev σ x=(gs.getD q.toNat cD).v) (hy:ev σ y=u) (ht:P.underlying t=some (.slice tE)) (hie:P.info? tE=some ie) (hz:ie.zero=some z)
  (hsize:ie.size=1) (hby:ie.bytes=bytes) (hzs:z.cells.size=1) (hb:(gs.getD q.toNat cD).l.length+1<=700000000000) (IV:bytes<=200)
  (hn:∀v' w',Hp w0 w' (A++((gs.set q.toNat ⟨v',(gs.getD q.toNat cD).l++[a]⟩).map (dr tE)++R))->AN P n lo (fun w=>Hp w0 w L') k fuel (listed.setIfInBounds j true) (k7 σ d v') w'):AO P n lo (fun w=>Hp w0 w L') k fuel listed σ w j:=by
 obtain⟨v',w',hr,h2⟩:=aav (P:=P) (ty:=ty) (dst:=some d) (pos:=pos) (bJ:=bJ) (g:=g) hH hq hS hx hy ht hie hz hsize hby hzs hb IV
 exact Bu hj hg hd hr (h2.sub (hsub _)) (hn v' w' h2)
theorem Hp.av0{m:Nat}(h:Hp w0 w (A++(gs.map (dr tE)++R)))(hq:0<=q/\q<gs.length)(hm:m<=(gs.getD q.toNat cD).l.length):Hp w0 w (A++((gs.set q.toNat ⟨kS (gs.getD q.toNat cD).v m,(gs.getD q.toNat cD).l.take m⟩).map (dr tE)++R)):=by
 have:=h.acK (Mc hq) hm
 rw[<-aau hq];exact this
end
structure Mk where
 i:Nat
 d:Nat
 op:Op
 ty:TypeId
 pos:String
 bJ:Array Edge
 f:Nat->Value
 o:Obj
abbrev Mk.q(p:Mk):Oper:=⟨some p.d,p.op,p.ty,p.pos,p.bJ,none⟩
def ahl(l:List Oper):Nat->Array Bool->List Nat->Bool
 |0,_,is=>is.isEmpty
 |m+1,a,is=>(Region.ready .any l.toArray a==is)&&is.all fun i=>ahl l m (a.setIfInBounds i true) (is.erase i)
def ldM(a:Array Bool)(ps:List Mk):Array Bool:=ps.foldl (fun a p=>a.setIfInBounds p.i true) a
def C5(σ:Env)(β:Nat->Nat)(ps:List Mk):Env:=ps.foldl (fun σ p=>k7 σ p.d (p.f (β p.d))) σ
abbrev UB(β:Nat->Nat)(p:Mk):a8:= .blk (β p.d) p.o
theorem RH{a:Array Bool}:∀{ps:List Mk} {a:Array Bool} {j:Nat},(ldM a ps)[j]?=if j∈ps.map Mk.i/\j<a.size then some true else a[j]?
 |[],a,j=>by simp[ldM]
 |p::ps,a,j=>by
  show(ldM (a.setIfInBounds p.i true) ps)[j]?=_
  rw[RH (a:=a),Wp,Dk]
  by_cases h:j<a.size
  .by_cases h1:j∈ps.map Mk.i
   .rw[aQ ⟨h1,h⟩,aQ ⟨by simp[h1],h⟩]
   rw[aP fun q=>h1 q.1]
   by_cases h2:p.i=j
   .subst h2;rw[aQ O,aQ h,aQ ⟨az,h⟩]
   rw[aP h2,aP fun q=>by
    have:=q.1
    rw[lf,cZ]at this
    exact this.elim (fun e=>h2 e.symm) h1]
  have e1:(if j∈ps.map Mk.i/\j<a.size then some true else(if p.i=j then(if p.i<a.size then some true else none)else a[j]?))=a[j]?:=by
   rw[aP fun q=>h q.2]
   by_cases h2:p.i=j
   .subst h2;rw[aQ O,aP h,Qh J]
   rw[aP h2]
  have e2:(if j∈(p::ps).map Mk.i/\j<a.size then some true else a[j]?)=a[j]?:=aP fun q=>h q.2
  exact e1.trans e2.symm
theorem ahm{a:Array Bool}{ps qs:List Mk}(h:ps.Perm qs):ldM a ps=ldM a qs:=by
 apply WD
 intro j
 rw[RH (a:=a),RH (a:=a)]
 have:j∈ps.map Mk.i↔j∈qs.map Mk.i:=(h.map Mk.i).mem_iff
 by_cases c:j∈ps.map Mk.i
 .simp[c,this.1 c]
 rw[aP fun q=>c q.1,aP fun q=>c (this.2 q.1)]
theorem BK{σ:Env}{β:Nat->Nat}:∀{ps:List Mk} {σ:Env} {s:Nat},s∉ps.map Mk.d->C5 σ β ps s=σ s
 |[],σ,s,_=>rfl
 |p::ps,σ,s,h=>by
  rw[lf,cZ,not_or]at h
  show C5 (k7 σ p.d (p.f (β p.d))) β ps s=_
  rw[BK (σ:=σ) h.2,Xq _ _ h.1]
theorem aaw{β:Nat->Nat}(ps:List Mk):∀(σ:Env) (p:Mk),(ps.map Mk.d).Nodup->p∈ps->C5 σ β ps p.d=p.f (β p.d):=by
 induction ps with
 |nil=>intro σ p _ h;cases h
 |cons q ps ih=>
  intro σ p hn h
  rw[lf,mZ]at hn
  show C5 (k7 σ q.d (q.f (β q.d))) β ps p.d=_
  rcases cZ.1 h with e|e
  .rw[e,BK (σ:=σ) hn.1,aqO]
  exact ih _ p hn.2 e
theorem acM{σ:Env}{β:Nat->Nat}{ps qs:List Mk}(h:ps.Perm qs)(hn:(ps.map Mk.d).Nodup):C5 σ β ps=C5 σ β qs:=by
 funext s
 have hm:s∈ps.map Mk.d↔s∈qs.map Mk.d:=(h.map Mk.d).mem_iff
 have Pd:(qs.map Mk.d).Nodup:=(h.map Mk.d).nodup_iff.1 hn
 by_cases c:s∈ps.map Mk.d
 .obtain⟨p,h1,rfl⟩:=fU.1 c
  rw[aaw ps σ p hn h1,aaw qs σ p Pd (h.mem_iff.1 h1)]
 rw[BK (σ:=σ) c,BK (σ:=σ) fun q=>c (hm.2 q)]
theorem Md{σ:Env}{β γ:Nat->Nat}:∀{ps:List Mk} {σ:Env},(∀p∈ps,β p.d=γ p.d)->C5 σ β ps=C5 σ γ ps
 |[],σ,_=>rfl
 |p::ps,σ,h=>by
  show C5 (k7 σ p.d (p.f (β p.d))) β ps=C5 (k7 σ p.d (p.f (γ p.d))) γ ps
  rw[h p az,Md (σ:=σ) fun q hq=>h q (by simp[hq])]
theorem acN{σ:Env}{β:Nat->Nat}{ps:List Mk}{p:Mk}:C5 σ β (ps++[p])=k7 (C5 σ β ps) p.d (p.f (β p.d)):=by simp[C5]
theorem UC{a:Array Bool}{ps:List Mk}{p:Mk}:ldM a (ps++[p])=(ldM a ps).setIfInBounds p.i true:=by simp[ldM]
def allM{α:Type}(q:α->Prop):List α->Prop
 |[]=>True
 |a::l=>q a/\allM q l
theorem allM.mem{α:Type}{q:α->Prop}:∀{l:List α},allM q l->∀a∈l,q a
 |[],_,a,h=>by cases h
 |b::l,h,a,hm=>(cZ.1 hm).elim (fun e=>e▸h.1) fun e=>h.2.mem a e
theorem awX{P:Program}{n:Nat}{l:List Oper}{k:K}{σ:Env}{w0 w:World}{L L':List a8}{fuel:Nat}{listed:Array Bool}(ps:List Mk)
  (hl:∀p∈ps,l[p.i]?=some p.q/\Nat.blt p.d n=true) (hr:∀p∈ps,∀σ' w,(∀s,s∉ps.map Mk.d->σ' s=σ s)->(execOp (ev σ') p.q).run P w= .ok (.value (p.f w.heap.size)) (w.alloc p.o))
  (hd:(ps.map Mk.d).Nodup) (hi:(ps.map Mk.i).Nodup) (hc:ahl l ps.length listed (ps.map Mk.i)=true) (hH:Hp w0 w L') (hs:L.Sublist L')
  (h:∀β w',Hp w0 w' (ps.map (UB β)++L')->AN P n l (fun w=>Hp w0 w L) k fuel (ldM listed ps) (C5 σ β ps) w'):AN P n l (fun w=>Hp w0 w L) k (fuel+ps.length) listed σ w:=by
 have key:∀(m:Nat) (dn pd:List Mk) (β:Nat->Nat) (w:World),pd.length=m->(dn++pd).Perm ps->ahl l m (ldM listed dn) (pd.map Mk.i)=true->Hp w0 w (dn.map (UB β)++L')->
   AN P n l (fun w=>Hp w0 w L) k (fuel+m) (ldM listed dn) (C5 σ β dn) w:=by
  intro m
  induction m with
  |zero=>
   intro dn pd β w hm hp _ hh
   have e:pd=[]:=E3 hm
   subst e
   rw[kV]at hp
   have hn:(dn.map Mk.d).Nodup:=(hp.map Mk.d).nodup_iff.2 hd
   rw[ahm hp,acM hp hn]
   exact h β w (hh.perm ((hp.map _).append_right _))
  |succ m ih=>
   intro dn pd β w hm hp hck hh
   simp only[ahl,cH,xb,iC]at hck
   obtain⟨c1,c2⟩:=hck
   refine aeZ (pd.map Mk.i) c1 (by cases pd with|nil=>simp at hm|cons p pd=>rfl) fun i hii=> ?_
   obtain⟨p,hpm,rfl⟩:=fU.1 hii
   obtain⟨a,b,rfl⟩:=WE hpm
   have hps:p∈ps:=hp.mem_iff.1 az
   have hnd:=(hp.map Mk.d).nodup_iff.2 hd
   have hni:=(hp.map Mk.i).nodup_iff.2 hi
   have hpd:p.d∉dn.map Mk.d:=fun q=>by
    rw[gA]at hnd
    exact(DY.1 hnd).2.2 _ q p.d az O
   have hpa:p.i∉a.map Mk.i:=fun q=>by
    rw[gA,gA]at hni
    exact(DY.1 (DY.1 hni).2.1).2.2 _ q p.i az O
   have e1:((a++p::b).map Mk.i).erase p.i=(a++b).map Mk.i:=by
    rw[gA,lf,List.erase_append_right _ hpa,List.erase_cons_head,gA]
   have hp2:((dn++[p])++(a++b)).Perm ps:=List.Perm.trans (by
    rw[dg]
    exact um dn (by simpa using(D0 (a:=p) (l₁:=a) (l₂:=b)).symm)) hp
   refine Bu (hl p hps).1 aH (hl p hps).2 (hr p hps _ w fun s Wc=>BK (σ:=σ) fun q=>Wc ?_) ?_ ?_
   .obtain⟨x,hx,e⟩:=fU.1 q
    exact e▸fU.2 ⟨x,hp.mem_iff.1 qg,rfl⟩
   .exact(hh.alloc p.o).sub ((List.Sublist.trans hs (Wm _ _)).cons _)
   let γ:Nat->Nat:=fun s=>if s=p.d then w.heap.size else β s
   have hγ:∀q∈dn,β q.d=γ q.d:=fun q hq=>(aP fun e=>hpd (by rw[<-e];exact fU.2 ⟨q,hq,rfl⟩)).symm
   have g1:γ p.d=w.heap.size:=aQ O
   have:=ih (dn++[p]) (a++b) γ (w.alloc p.o) (by simp at hm⊢;omega) hp2 (by rw[UC,<-e1];exact c2 _ hii) (by
    refine(hh.alloc p.o).perm ?_
    rw[gA,Kf,UB,g1,dg]
    have e2:dn.map (UB β)=dn.map (UB γ):=Gs fun q hq=>by unfold UB;rw[hγ q hq]
    rw[e2]
    exact D0.symm)
   rw[UC,acN,g1,<-Md (σ:=σ) hγ]at this
   exact this
 exact key ps.length [] ps (fun _=>0) w O (Qz _) hc hH
theorem awY{P:Program}{n:Nat}{l:List Oper}{k:K}{σ:Env}{w0 w:World}{L L':List a8}{fuel:Nat}{listed:Array Bool}(ds is:List Nat)(ps:List Mk)(e1:ps.map Mk.d=ds)(e2:ps.map Mk.i=is)
  (hl:allM (fun p=>l[p.i]?=some p.q/\Nat.blt p.d n=true) ps) (hr:allM (fun p=>∀σ' w,(∀s,ds.contains s=false->σ' s=σ s)->(execOp (ev σ') p.q).run P w= .ok (.value (p.f w.heap.size)) (w.alloc p.o)) ps)
  (hd:ds.Nodup) (hi:is.Nodup) (hc:ahl l ps.length listed is=true) (hH:Hp w0 w L') (hs:L.Sublist L')
  (h:∀β w',Hp w0 w' (ps.map (UB β)++L')->AN P n l (fun w=>Hp w0 w L) k fuel (ldM listed ps) (C5 σ β ps) w'):AN P n l (fun w=>Hp w0 w L) k (fuel+ps.length) listed σ w:=
 awX ps hl.mem (fun p hp σ' w q=>hr.mem p hp σ' w fun s hs=>q s (by rw[e1];intro c;rw[List.contains_iff_mem.2 c]at hs;cases hs)) (e1▸hd) (e2▸hi) (e2▸hc) hH hs h
section
variable{P:Program}{σ:Env}{w w0:World}{L:List a8}{dst:Option Tmp}{ty t e:TypeId}{pos:String}{bJ:Array Edge}{g:Option (Nat×Bool)}{x y:Operand}{α:Type}{f:α->Value}{cl:α->List Value}{sz i b:Nat}{l:List α}
theorem UD:∀{l:List α},l.flatMap (fun a=>[f a])=l.map f
 |[]=>rfl
 |a::l=>by rw[tH,UD,lf];rfl
theorem zn{ie:TypeInfo}{z:Value}{z0:α}{n:Nat}(hu:P.underlying t=some (.slice e))(hie:P.info? e=some ie)(hz:ie.zero=some z)(hzc:z.cells=#[f z0])(hs:ie.size=1)
  (hx:ev σ x= .int .i64 n) (hy:ev σ y= .int .i64 n) (hb:ie.bytes<=1000) (hn:n<=1000000000):
  (execOp (ev σ) ⟨dst,.makeSlice t x y,ty,pos,bJ,g⟩).run P w= .ok (.value (.slice (some ⟨w.heap.size,0,none⟩) n n)) (w.alloc (.cells ((List.replicate n z0).map f).toArray e)):=by
 have:=O3 (P:=P) (w:=w) (dst:=dst) (ty:=ty) (pos:=pos) (bJ:=bJ) (g:=g) (cl:=fun a=>[f a]) (sz:=1) (z0:=z0) (fun _=>rfl) aD hu hie hz hzc hs hx hy (jP (wX hb hn) aD) (by unfold maxLen;omega)
 rwa[UD]at this
theorem Hp.IZ{n:Nat}(h:Hp w0 w L)(hi:L[i]?=some (.blk b (.cells (l.map f).toArray e (0,0))))(hl:l.length=n)(hn:n<=1000000000):Hp w0 w (L.set i (jq f (.slice (some ⟨b,0,none⟩) n n) e l)):=by
 subst hl
 have hx:=h.get hi
 refine h.wB hi O ⟨az,.inr ⟨b,l.length,(l.map f).toArray,rfl,hx.1,hx.2,eG _,by unfold maxLen;omega,az,?_⟩⟩
 rw[kP,<-gj (f:=f)];exact Kl
end
end
end Go.Proofs.YtlhjdflgjbkpmaaGreatDoor.E
namespace Go.Proofs.YtlhjdflgjbkpmaaGreatDoor.M
section
open Go
inductive jG(E:Nat->Nat->Prop):Nat->Nat->Prop
 |refl (a:Nat):jG E a a
 |step {a b c:Nat} (h:jG E a b) (e:E b c):jG E a c
theorem jG.one{E:Nat->Nat->Prop}{a b:Nat}(e:E a b):jG E a b:= .step (.refl a) e
theorem jG.trans{E:Nat->Nat->Prop}{a b c:Nat}(h:jG E a b)(h2:jG E b c):jG E a c:=by
 induction h2 with
 |refl=>exact h
 |step _ e ih=>exact ih.step e
theorem jG.mono{E E':Nat->Nat->Prop}{a b:Nat}(h:jG E a b)(hE:∀x y,E x y->E' x y):jG E' a b:=by
 induction h with
 |refl=>exact .refl _
 |step _ e ih=>exact ih.step (hE _ _ e)
abbrev SZ:=List (Nat×List Nat)
def eZ(F:SZ):List Nat:=F.flatMap fun x=>x.2++[x.1]
structure E0(R:Nat->Nat->Prop)(ord low:Nat->Int)(F:SZ):Prop where
 Me:(eZ F).Pairwise fun a b=>ord b<ord a
 lo:∀k,k∈eZ F->low k<=ord k/\∃m,m∈eZ F/\ord m=low k/\R k m
 seg:∀x,x∈F->∀k,k∈x.2->R x.1 k/\low x.1<=low k/\low k<ord k
 way:F.Pairwise fun x y=>R y.1 x.1
def ny(f:Nat->Int)(k:Nat)(v:Int):Nat->Int:=fun i=>if i=k then v else f i
section
variable{R:Nat->Nat->Prop}{ord low:Nat->Int}{F:SZ}{a p:Nat}{sg sp:List Nat}{t:Int}
theorem gq:eZ ((a,sg)::F)=sg++a::eZ F:=by simp[eZ]
theorem CU:a∈eZ ((a,sg)::F):=by rw[gq];simp
theorem iU{x:Nat×List Nat}(h:x∈F):x.1∈eZ F:=by grind[eZ]
theorem JT{x:Nat×List Nat}{k:Nat}(h:x∈F)(hk:k∈x.2):k∈eZ F:=by grind[eZ]
theorem E0.nil:E0 R ord low []:=⟨List.Pairwise.nil,(fun k h=>by simp[eZ]at h),(fun x h=>ow),List.Pairwise.nil⟩
theorem E0.below(h:E0 R ord low ((a,sg)::F)):(∀k,k∈eZ F->ord k<ord a)/\∀k,k∈sg->ord a<ord k:=by grind[E0,eZ,gq]
theorem E0.aho(h:E0 R ord low ((a,sg)::F))(ht:∀x y z,R x y->R y z->R x z)(he:low a=ord a):∀k,k∈sg->R a k/\R k a:=by
 have hs:=h.seg _ (tG ..)
 have key:∀n:Nat,∀k,k∈sg->(ord k-ord a).toNat<=n->R k a:=fun n=>by
  induction n with
  |zero=>intro k hk hn;have:=h.below.2 k hk;omega
  |succ n ih=>
   intro k hk hn
   obtain⟨h1,h2,h3⟩:=hs k hk
   obtain⟨-,m,hm,e,hr⟩:=h.lo k (JT (tG ..) hk)
   rw[gq]at hm
   rcases eP.1 hm with q|q
   .exact ht _ _ _ hr (ih m q (by have:=h.below.2 m q;have:low a<=low k:=h2;omega))
   rcases cZ.1 q with q|q
   .subst q;exact hr
   have:=h.below.1 m q
   have:low a<=low k:=h2
   omega
 exact fun k hk=>⟨(hs k hk).1,key _ k hk (eG _)⟩
theorem E0.enter(h:E0 R ord low F)(hn:a∉eZ F)(ht:∀k,k∈eZ F->ord k<t)(hr:R a a)(hw:∀x,x∈F->R x.1 a):E0 R (ny ord a t) (ny low a t) ((a,[])::F):=by
 have ne:∀k,k∈eZ F->k≠a:=fun k hk e=>hn (e▸hk)
 have so:∀k,k∈eZ F->ny ord a t k=ord k:=fun k hk=>aP (ne k hk)
 have sl:∀k,k∈eZ F->ny low a t k=low k:=fun k hk=>aP (ne k hk)
 have ea:ny ord a t a=t:=aQ O
 have la:ny low a t a=t:=aQ O
 refine⟨?_,fun k hk=> ?_,fun x hx k hk=> ?_,lQ.2 ⟨fun x hx=>hw x hx,h.way⟩⟩
 .rw[gq,er]
  refine lQ.2 ⟨fun k hk=>by rw[ea,so k hk];exact ht k hk,?_⟩
  exact h.Me.imp_of_mem fun{x y} hx hy q=>by rw[so x hx,so y hy];exact q
 .rw[gq,er]at hk
  rcases cZ.1 hk with q|q
  .subst q;exact⟨by rw[ea,la];exact lm _,_,CU,by rw[ea,la],hr⟩
  obtain⟨h1,m,h2,h3,h4⟩:=h.lo k q
  refine⟨by rw[so k q,sl k q];exact h1,m,by rw[gq];simp[h2],by rw[so m h2,sl k q];exact h3,h4⟩
 rcases cZ.1 hx with q|q
 .subst q;cases hk
 have k1:=JT q hk
 have k2:=iU q
 rw[so k k1,sl k k1,sl _ k2];exact h.seg x q k hk
theorem E0.arc(h:E0 R ord low ((a,sg)::F)){m:Nat}(hm:m∈eZ ((a,sg)::F))(hr:R a m):E0 R ord (ny low a (min (low a) (ord m))) ((a,sg)::F):=by
 have la:ny low a (min (low a) (ord m)) a=min (low a) (ord m):=aQ O
 have sl:∀k,k≠a->ny low a (min (low a) (ord m)) k=low k:=fun k hk=>aP hk
 have hb:=h.below
 refine⟨h.Me,fun k hk=> ?_,fun x hx k hk=> ?_,h.way⟩
 .obtain⟨h1,j,h2,h3,h4⟩:=h.lo k hk
  by_cases e:k=a
  .subst e
   rw[la]
   refine⟨J,?_⟩
   by_cases c:low k<=ord m
   .exact⟨j,h2,by rw[WX c];exact h3,h4⟩
   exact⟨m,hm,by rw[Int.min_eq_right J],hr⟩
  rw[sl k e];exact⟨h1,j,h2,h3,h4⟩
 obtain⟨h1,h2,h3⟩:=h.seg x hx k hk
 have hka:k≠a:=fun e=>by
  subst e
  rcases cZ.1 hx with q|q
  .subst q;have:=hb.2 k hk;omega
  have:=hb.1 k (JT q hk);omega
 rw[sl k hka]
 refine⟨h1,?_,h3⟩
 by_cases e:x.1=a
 .rw[e,la];rw[e]at h2;omega
 rw[sl _ e];exact h2
theorem E0.UE(h:E0 R ord low ((a,sg)::(p,sp)::F))(ht:∀x y z,R x y->R y z->R x z)(hlt:low a<ord a):E0 R ord (ny low p (min (low p) (low a))) ((p,sg++a::sp)::F):=by
 have e0:eZ ((p,sg++a::sp)::F)=eZ ((a,sg)::(p,sp)::F):=by simp[eZ]
 have hrp:R p a:=(lQ.1 h.way).1 (p,sp) az
 have hb:=h.below
 have hp:p∈eZ ((a,sg)::(p,sp)::F):=iU (x:=(p,sp)) az
 have hpa:p≠a:=fun e=>by have:=hb.1 p (iU (x:=(p,sp)) az);rw[e]at this;omega
 have lp:ny low p (min (low p) (low a)) p=min (low p) (low a):=aQ O
 have sl:∀k,k≠p->ny low p (min (low p) (low a)) k=low k:=fun k hk=>aP hk
 have hs:=h.Me
 have hsp:((eZ ((p,sp)::F))).Pairwise fun a b=>ord b<ord a:=by
  rw[gq]at hs;exact(lQ.1 (DY.1 hs).2.1).2
 have hbp:(∀k,k∈eZ F->ord k<ord p)/\∀k,k∈sp->ord p<ord k:=by
  rw[gq]at hsp
  obtain⟨h2,h3,h4⟩:=DY.1 hsp
  exact⟨fun k hk=>(lQ.1 h3).1 k hk,fun k hk=>h4 k hk p az⟩
 refine⟨by rw[e0];exact hs,fun k hk=> ?_,fun x hx k hk=> ?_,?_⟩
 .rw[e0]at hk⊢
  obtain⟨h1,j,h2,h3,h4⟩:=h.lo k hk
  by_cases e:k=p
  .subst e
   rw[lp]
   refine⟨J,?_⟩
   by_cases c:low k<=low a
   .exact⟨j,h2,by rw[WX c];exact h3,h4⟩
   obtain⟨-,i,i2,i3,i4⟩:=h.lo a CU
   exact⟨i,i2,by rw[Int.min_eq_right J];exact i3,ht _ _ _ hrp i4⟩
  rw[sl k e];exact⟨h1,j,h2,h3,h4⟩
 .rcases cZ.1 hx with q|q
  .subst q
   have hmem:k∈sg\/k=a\/k∈sp:=by simpa using hk
   rcases hmem with q|q|q
   .obtain⟨h1,h2,h3⟩:=h.seg (a,sg) az k q
    have hkp:k≠p:=fun e=>by
     have:=hb.2 k q;have:=hb.1 p (iU (x:=(p,sp)) az);rw[e]at*;omega
    rw[lp,sl k hkp]
    have:low a<=low k:=h2
    exact⟨ht _ _ _ hrp h1,J,h3⟩
   .subst q;rw[lp,sl k hpa.symm];exact⟨hrp,J,hlt⟩
   obtain⟨h1,h2,h3⟩:=h.seg (p,sp) az k q
   have hkp:k≠p:=fun e=>by have:=hbp.2 k q;rw[e]at this;omega
   rw[lp,sl k hkp]
   have:low p<=low k:=h2
   exact⟨h1,J,h3⟩
  obtain⟨h1,h2,h3⟩:=h.seg x (by simp[q]) k hk
  have hkp:k≠p:=fun e=>by have:=hbp.1 k (JT q hk);rw[e]at this;omega
  have hxp:x.1≠p:=fun e=>by have:=hbp.1 x.1 (iU q);rw[e]at this;omega
  rw[sl k hkp,sl _ hxp];exact⟨h1,h2,h3⟩
 obtain⟨-,h2⟩:=lQ.1 h.way
 exact lQ.2 ⟨fun x hx=>(lQ.1 h2).1 x hx,(lQ.1 h2).2⟩
theorem E0.close(h:E0 R ord low ((a,sg)::F)):E0 R ord low F:=by
 have hs:=h.Me
 rw[gq]at hs
 have hb:=h.below
 refine⟨(lQ.1 (DY.1 hs).2.1).2,fun k hk=> ?_,fun x hx=>h.seg x qg,(lQ.1 h.way).2⟩
 obtain⟨h1,m,h2,h3,h4⟩:=h.lo k (by rw[gq];simp[hk])
 refine⟨h1,m,?_,h3,h4⟩
 rw[gq]at h2
 have hka:=hb.1 k hk
 rcases eP.1 h2 with q|q
 .have:=hb.2 m q;omega
 rcases cZ.1 q with q|q
 .subst q;omega
 exact q
theorem E0.root(h:E0 R ord low [(a,sg)]):low a=ord a:=by grind[E0,CU,gq,eZ]
end
def IA(F:SZ)(p c:Nat):Prop:=∃F1 sc sp F2,F=F1++(c,sc)::(p,sp)::F2
structure N7(E seen:Nat->Nat->Prop)(shut:Nat->Prop)(ord low:Nat->Int)(F:SZ):Prop where
 out:∀k,k∈eZ F->¬shut k
 Pt:∀k,shut k->∀j,E k j->shut j
 Yn:∀x,x∈F->∀k,k∈x.2->∀j,E k j->seen k j
 led:∀k,k∈eZ F->∀j,seen k j->shut j\/j∈eZ F/\(low k<=ord j\/IA F k j)
section
variable{E seen:Nat->Nat->Prop}{shut:Nat->Prop}{R:Nat->Nat->Prop}{ord low:Nat->Int}{F:SZ}{a p j:Nat}{sg sp:List Nat}{t:Int}
theorem N7.nil(h:∀k,shut k->∀j,E k j->shut j):N7 E seen shut ord low []:=by grind[N7,eZ]
theorem IA.mem(h:IA F p j):∃x,x∈F/\x.1=p:=by
 obtain⟨F1,sc,sp,F2,rfl⟩:=h;exact⟨(p,sp),az,rfl⟩
theorem E0.top(h:E0 R ord low ((a,sg)::F)){k:Nat}(hk:k∈sg\/k=a):¬IA ((a,sg)::F) k j:=by
 rintro⟨F1,sc,sp,F2,e⟩
 have hb:=h.below
 have hm:(k,sp)∈F:=by
  cases F1 with
  |nil=>simp at e;rw[e.2];simp
  |cons b F1=>simp at e;rw[e.2];simp
 have h1:=hb.1 k (iU (x:=(k,sp)) hm)
 rcases hk with q|q
 .have:=hb.2 k q;omega
 subst q;omega
theorem N7.close(h:N7 E seen shut ord low ((a,sg)::F))(hi:E0 R ord low ((a,sg)::F))(he:low a=ord a)(ha:∀j,E a j->seen a j):N7 E seen (fun k=>shut k\/k=a\/k∈sg) ord low F:=by
 have hb:=hi.below
 have mem:∀k,k∈eZ ((a,sg)::F)↔k∈sg\/k=a\/k∈eZ F:=fun k=>by rw[gq];simp
 refine⟨fun k hk=> ?_,fun k hk j hj=> ?_,fun x hx=>h.Yn x qg,fun k hk j hj=> ?_⟩
 .rintro(q|q|q)
  .exact h.out k ((mem k).2 (.inr (.inr hk))) q
  .subst q;have:=hb.1 k hk;omega
  have:=hb.1 k hk;have:=hb.2 k q;omega
 .rcases hk with q|q
  .exact .inl (h.Pt k q j hj)
  have CQ:k∈eZ ((a,sg)::F):=(mem k).2 (q.elim (fun e=> .inr (.inl e)) .inl)
  have Wc:seen k j:=by
   rcases q with q|q
   .subst q;exact ha j hj
   exact h.Yn (a,sg) az k q j hj
  have acO:ord a<=low k:=by
   rcases q with q|q
   .subst q;omega
   have:=(hi.seg (a,sg) az k q).2.1;have:low a<=low k:=this;omega
  rcases h.led k CQ j Wc with c|⟨c,d⟩
  .exact .inl c
  rcases d with d|d
  .rcases(mem j).1 c with e|e|e
   .exact .inr (.inr e)
   .exact .inr (.inl e)
   have:=hb.1 j e;omega
  exact absurd d (hi.top (q.elim .inr .inl))
 rcases h.led k ((mem k).2 (.inr (.inr hk))) j hj with c|⟨c,d⟩
 .exact .inl (.inl c)
 rcases(mem j).1 c with e|e|e
 .exact .inl (.inr (.inr e))
 .exact .inl (.inr (.inl e))
 refine .inr ⟨e,d.imp id fun q=> ?_⟩
 obtain⟨F1,sc,sp,F2,e1⟩:=q
 cases F1 with
 |nil=>simp at e1;rw[e1.1.1]at hb;have:=hb.1 j e;omega
 |cons b F1=>simp at e1;exact⟨F1,sc,sp,F2,e1.2⟩
theorem N7.UE(h:N7 E seen shut ord low ((a,sg)::(p,sp)::F))(hi:E0 R ord low ((a,sg)::(p,sp)::F))(ha:∀j,E a j->seen a j):N7 E seen shut ord (ny low p (min (low p) (low a))) ((p,sg++a::sp)::F):=by
 have e0:eZ ((p,sg++a::sp)::F)=eZ ((a,sg)::(p,sp)::F):=by simp[eZ]
 have le:∀k,ny low p (min (low p) (low a)) k<=low k:=fun k=>by
  unfold ny;split
  .subst_vars;omega
  exact lm _
 have lp:ny low p (min (low p) (low a)) p<=low a:=by unfold ny;rw[aQ O];omega
 refine⟨fun k hk=>h.out k (e0▸hk),h.Pt,fun x hx k hk j hj=> ?_,fun k hk j hj=> ?_⟩
 .rcases cZ.1 hx with q|q
  .subst q
   have hm:k∈sg\/k=a\/k∈sp:=by simpa using hk
   rcases hm with q|q|q
   .exact h.Yn (a,sg) az k q j hj
   .subst q;exact ha j hj
   exact h.Yn (p,sp) az k q j hj
  exact h.Yn x (by simp[q]) k hk j hj
 rw[e0]at hk⊢
 rcases h.led k hk j hj with c|⟨c,d⟩
 .exact .inl c
 refine .inr ⟨c,?_⟩
 rcases d with d|⟨F1,sc,s2,F2,e1⟩
 .exact .inl (Kt (le k) d)
 .cases F1 with
  |nil=>
   simp at e1
   obtain⟨⟨rfl,rfl⟩,⟨rfl,rfl⟩,rfl⟩:=e1
   exact .inl (Kt lp (hi.lo a CU).1)
  |cons b F1=>
   simp at e1
   cases F1 with
   |nil=>
    simp at e1
    obtain⟨-,⟨rfl,rfl⟩,rfl⟩:=e1
    exact .inr ⟨[],_,_,_,rfl⟩
   |cons b2 F1=>
    simp at e1
    obtain⟨-,-,rfl⟩:=e1
    exact .inr ⟨(p,sg++a::sp)::F1,_,_,_,rfl⟩
end
section
variable{E seen seen':Nat->Nat->Prop}{shut:Nat->Prop}{R:Nat->Nat->Prop}{ord low:Nat->Int}{F:SZ}{a p j:Nat}{sg sp:List Nat}{t:Int}
theorem IA.cons{x:Nat×List Nat}(h:IA F p j):IA (x::F) p j:=by grind[IA]
theorem N7.enter(h:N7 E seen shut ord low F)(hn:a∉eZ F)(hs:¬shut a)(hno:∀j,¬seen a j)(h1:∀k j,seen k j->seen' k j)(h2:∀k j,seen' k j->seen k j\/j=a/\∃sp F0,F=(k,sp)::F0):N7 E seen' shut (ny ord a t) (ny low a t) ((a,[])::F):=by
 have ne:∀k,k∈eZ F->k≠a:=fun k hk e=>hn (e▸hk)
 have mem:∀k,k∈eZ ((a,[])::F)↔k=a\/k∈eZ F:=fun k=>by rw[gq];simp
 refine⟨fun k hk=> ?_,h.Pt,fun x hx k hk j hj=> ?_,fun k hk j hj=> ?_⟩
 .rcases(mem k).1 hk with q|q
  .subst q;exact hs
  exact h.out k q
 .rcases cZ.1 hx with q|q
  .subst q;cases hk
  exact h1 _ _ (h.Yn x q k hk j hj)
 rcases h2 k j hj with q|⟨rfl,sp,F0,rfl⟩
 .rcases(mem k).1 hk with e|e
  .subst e;exact absurd q (hno j)
  rcases h.led k e j q with c|⟨c,d⟩
  .exact .inl c
  refine .inr ⟨(mem j).2 (.inr c),d.imp (fun d=> ?_) fun d=>d.cons⟩
  unfold ny;rw[aP (ne k e),aP (ne j c)];exact d
 exact .inr ⟨(mem j).2 (.inl O),.inr ⟨[],_,_,_,rfl⟩⟩
theorem N7.look{v:Int}(h:N7 E seen shut ord low ((a,sg)::F))(hv:v<=low a)(h1:∀k i,seen k i->seen' k i)(h2:∀k i,seen' k i->seen k i\/k=a/\i=j)(hj:shut j\/j∈eZ ((a,sg)::F)/\v<=ord j):N7 E seen' shut ord (ny low a v) ((a,sg)::F):=by
 have la:ny low a v a=v:=aQ O
 have le:∀k,ny low a v k<=low k:=fun k=>by
  unfold ny;split
  .subst_vars;exact hv
  exact lm _
 refine⟨h.out,h.Pt,fun x hx k hk i hi=>h1 _ _ (h.Yn x hx k hk i hi),fun k hk i hi=> ?_⟩
 rcases h2 k i hi with q|⟨rfl,rfl⟩
 .exact(h.led k hk i q).imp id fun⟨c,d⟩=>⟨c,d.imp (fun d=>Kt (le k) d) id⟩
 exact hj.imp id fun⟨c,d⟩=>⟨c,.inl (by rw[la];exact d)⟩
end
section
variable{E seen:Nat->Nat->Prop}{shut:Nat->Prop}{ord low:Nat->Int}{F:SZ}{a:Nat}{sg:List Nat}
theorem jG.stay{C:Nat->Prop}(hC:∀k,C k->∀j,E k j->C j){x y:Nat}(h:jG E x y)(hx:C x):C y:=by
 induction h with
 |refl=>exact hx
 |step _ e ih=>exact hC _ (ih) _ e
theorem N7.whole(h:N7 E seen shut ord low ((a,sg)::F))(hi:E0 (jG E) ord low ((a,sg)::F))(he:low a=ord a)(ha:∀j,E a j->seen a j){k y:Nat}(hk:k=a\/k∈sg)(h1:jG E k y)(h2:jG E y k):y=a\/y∈sg:=by
 have hc:=h.close hi he ha
 rcases h1.stay hc.Pt (.inr hk)with q|q
 .have hm:k∈eZ ((a,sg)::F):=by
   rw[gq]
   rcases hk with e|e
   .subst e;simp
   simp[e]
  exact absurd (h2.stay h.Pt q) (h.out k hm)
 exact q
theorem N7.iff(h:N7 E seen shut ord low ((a,sg)::F))(hi:E0 (jG E) ord low ((a,sg)::F))(he:low a=ord a)(ha:∀j,E a j->seen a j){k y:Nat}(hk:k=a\/k∈sg):(jG E k y/\jG E y k)↔(y=a\/y∈sg):=by
 refine⟨fun q=>h.whole hi he ha hk q.1 q.2,fun q=> ?_⟩
 have key:∀z,z=a\/z∈sg->jG E a z/\jG E z a:=fun z hz=>by
  rcases hz with e|e
  .subst e;exact⟨.refl _,.refl _⟩
  exact hi.aho (fun _ _ _=>jG.trans) he z e
 exact⟨(key k hk).2.trans (key y q).1,(key y q).2.trans (key k hk).1⟩
end
structure C6 where
 node:Int
 next:Int
def n4(l:List Int):Nat->Int:=fun k=>l.getD k 0
def NI(l:List Nat):List Int:=l.map fun(k:Nat)=>(k:Int)
def uW(gl:List (List Int))(a b:Nat):Prop:=a<gl.length/\b<gl.length/\∃i,i<(gl.getD a []).length/\(gl.getD a []).getD i 0=(b:Int)
def tO(gl:List (List Int))(nx:Nat->Nat)(a b:Nat):Prop:=a<gl.length/\b<gl.length/\∃i,i<nx a/\i<(gl.getD a []).length/\(gl.getD a []).getD i 0=(b:Int)
def Ad(od:List Int)(F:SZ)(k:Nat):Prop:=k<od.length/\n4 od k≠0/\k∉eZ F
def sG(E:Nat->Nat->Prop)(a b:Nat):Prop:=jG E a b/\jG E b a
structure OfK(E:Nat->Nat->Prop)(k:Nat)(o:Int):Prop where
 is:∃j:Nat,o=j/\sG E k j
 low:∀j:Nat,sG E k j->o<=j
def oS(F:SZ)(nx:Nat->Nat):List C6:=F.reverse.map fun x=>⟨x.1,nx x.1⟩
structure qK(gl:List (List Int))(od lo:List Int)(on:List Bool)(tm:Int)(kH:List Int)(F:SZ)(nx:Nat->Nat):Prop where
 S0:od.length=gl.length
 llo:lo.length=gl.length
 lon:on.length=gl.length
 lof:kH.length=gl.length
 onI:∀k,k<gl.length->(on.getD k false=true↔k∈eZ F)
 lt:∀k,k∈eZ F->k<gl.length/\0<n4 od k
 odI:∀k,0<=n4 od k/\n4 od k<=tm
 cnt:tm+od.count 0=gl.length
 S1:E0 (jG (uW gl)) (n4 od) (n4 lo) F
 kne:N7 (uW gl) (tO gl nx) (Ad od F) (n4 od) (n4 lo) F
 nx0:∀k,n4 od k=0->nx k=0
 fin:∀k,Ad od F k->OfK (uW gl) k (n4 kH k)
theorem zo{l:List Int}{k:Nat}{v:Int}(h:k<l.length):n4 (l.set k v)=ny (n4 l) k v:=by grind[n4,ny]
theorem aax:∀{l:List Int} {k:Nat} {v:Int},k<l.length->l.getD k 0=0->v≠0->(l.set k v).count 0+1=l.count 0
 |[],k,v,h,_,_=>by simp at h
 |a::l,0,v,_,h2,h3=>by
  have:a=0:=h2
  subst this
  rw[fO,List.count_cons_self,List.count_cons_of_ne (by simpa using h3)]
 |a::l,k+1,v,h1,h2,h3=>by
  have ih:=aax (l:=l) (k:=k) (v:=v) Ee h2 h3
  rw[gU,D1,D1];omega
theorem acQ{f:Nat->Int}{k:Nat}{v:Int}(h:f k=v):ny f k v=f:=by grind[ny]
section
variable{gl:List (List Int)}{od lo:List Int}{on:List Bool}{tm:Int}{kH:List Int}{F:SZ}{nx:Nat->Nat}{a b p:Nat}{sg sp:List Nat}
def pV(nx:Nat->Nat)(p:Nat):Nat->Nat:=fun i=>if i=p then nx i+1 else nx i
theorem CV{k j:Nat}(h:tO gl nx k j):tO gl (pV nx p) k j:=by grind[tO,pV]
theorem FF{k j:Nat}(h:tO gl (pV nx p) k j):tO gl nx k j\/k=p/\(gl.getD p []).getD (nx p) 0=(j:Int):=by grind[tO,pV]
theorem qK.room(h:qK gl od lo on tm kH F nx):0<=tm/\tm<=gl.length:=by grind[qK,kH]
theorem qK.skip(h:qK gl od lo on tm kH ((p,sp)::F) nx)(hk:¬∃j,j<gl.length/\(gl.getD p []).getD (nx p) 0=((j:Nat):Int)):qK gl od lo on tm kH ((p,sp)::F) (pV nx p):=by
 have hs:tO gl (pV nx p)=tO gl nx:=by
  funext k j;apply propext
  refine⟨fun q=> ?_,CV⟩
  rcases FF q with q2|⟨rfl,q2⟩
  .exact q2
  exact absurd ⟨j,q.2.1,q2⟩ hk
 have hp:=h.lt p (iU (x:=(p,sp)) az)
 exact⟨h.S0,h.llo,h.lon,h.lof,h.onI,h.lt,h.odI,h.cnt,h.S1,by rw[hs];exact h.kne,fun k CQ=>by unfold pV;rw[aP (fun e=>by rw[e]at CQ;omega)];exact h.nx0 k CQ,h.fin⟩
theorem qK.aw0(h:qK gl od lo on tm kH ((p,sp)::F) nx)(hl:nx p<(gl.getD p []).length)(hb:b<gl.length)(hk:(gl.getD p []).getD (nx p) 0=(b:Int)):uW gl p b:=by grind[qK,kH,uW,iU]
theorem RI(h:qK gl od lo on tm kH ((p,sp)::F) nx)(k:Nat)(hk:n4 od k=0):pV nx p k=0:=by
 have hp:=h.lt p (iU (x:=(p,sp)) az)
 unfold pV;rw[aP (fun e=>by rw[e]at hk;omega)];exact h.nx0 k hk
theorem qK.arc(h:qK gl od lo on tm kH ((p,sp)::F) nx)(hl:nx p<(gl.getD p []).length)(hb:b<gl.length)(hk:(gl.getD p []).getD (nx p) 0=(b:Int))(hon:on.getD b false=true):
  qK gl od (lo.set p (min (n4 lo p) (n4 od b))) on tm kH ((p,sp)::F) (pV nx p):=by
 have hm:=(h.onI b hb).1 hon
 have hp:=h.lt p (iU (x:=(p,sp)) az)
 have e1:=zo (l:=lo) (k:=p) (v:=min (n4 lo p) (n4 od b)) QW
 refine⟨h.S0,by rw[mM];exact h.llo,h.lon,h.lof,h.onI,h.lt,h.odI,h.cnt,by rw[e1];exact h.S1.arc hm (.one (h.aw0 hl hb hk)),?_,RI h,h.fin⟩
 rw[e1]
 exact h.kne.look (j:=b) J (fun k i=>CV) (fun k i q=>(FF q).imp id fun⟨q1,q2⟩=>⟨q1,J⟩) (.inr ⟨hm,J⟩)
theorem qK.shut(h:qK gl od lo on tm kH ((p,sp)::F) nx)(hl:nx p<(gl.getD p []).length)(hb:b<gl.length)(hk:(gl.getD p []).getD (nx p) 0=(b:Int))(h0:n4 od b≠0)(hon:¬on.getD b false=true):
  qK gl od lo on tm kH ((p,sp)::F) (pV nx p):=by
 have hm:b∉eZ ((p,sp)::F):=fun q=>hon ((h.onI b hb).2 q)
 refine⟨h.S0,h.llo,h.lon,h.lof,h.onI,h.lt,h.odI,h.cnt,h.S1,?_,RI h,h.fin⟩
 have:=h.kne.look (seen':=tO gl (pV nx p)) (j:=b) (v:=n4 lo p) (lm _) (fun k i=>CV) (fun k i q=>(FF q).imp id fun⟨q1,q2⟩=>⟨q1,J⟩) (.inl ⟨by rw[h.S0];exact hb,h0,hm⟩)
 rwa[acQ O]at this
theorem qK.aw1{nx':Nat->Nat}(h:qK gl od lo on tm kH F nx)(ha:a<gl.length)(h0:n4 od a=0)(hn:∀k,n4 od k=0->nx' k=0)(h1:∀k j,tO gl nx k j->tO gl nx' k j)(h2:∀k j,tO gl nx' k j->tO gl nx k j\/j=a/\∃sp F0,F=(k,sp)::F0)(hw:∀x,x∈F->jG (uW gl) x.1 a):
  qK gl (od.set a (tm+1)) (lo.set a (tm+1)) (on.set a true) (tm+1) kH ((a,[])::F) nx':=by
 have hr:=h.room
 have hna:a∉eZ F:=fun q=>by have:=(h.lt a q).2;omega
 have ne:∀k,k∈eZ F->k≠a:=fun k hk e=>hna (e▸hk)
 have mem:∀k,k∈eZ ((a,[])::F)↔k=a\/k∈eZ F:=fun k=>by rw[gq];simp
 have e1:=zo (l:=od) (k:=a) (v:=tm+1) (by rw[h.S0];exact ha)
 have e2:=zo (l:=lo) (k:=a) (v:=tm+1) (by rw[h.llo];exact ha)
 have es:Ad (od.set a (tm+1)) ((a,[])::F)=Ad od F:=by
  funext k;apply propext
  unfold Ad
  rw[mM,e1,mem]
  unfold ny
  by_cases e:k=a
  .subst e;rw[aQ O];exact⟨fun q=>absurd (.inl O) q.2.2,fun q=>absurd h0 q.2.1⟩
  rw[aP e];exact⟨fun q=>⟨q.1,q.2.1,fun c=>q.2.2 (.inr c)⟩,fun q=>⟨q.1,q.2.1,fun c=>c.elim e q.2.2⟩⟩
 refine⟨by rw[mM];exact h.S0,by rw[mM];exact h.llo,by rw[mM];exact h.lon,h.lof,fun k hk=> ?_,fun k hk=> ?_,fun k=> ?_,?_,?_,?_,fun k hk=> ?_,?_⟩
 .rw[mem,eE,uq]
  by_cases e:a=k
  .subst e;rw[aQ O,aQ (by rw[h.lon];exact ha)];simp
  rw[aP e,<-eE,h.onI k hk];exact⟨.inr,fun q=>q.elim (fun c=>absurd c.symm e) id⟩
 .rw[e1];unfold ny
  rcases(mem k).1 hk with e|q
  .subst e;rw[aQ O];exact⟨ha,J⟩
  rw[aP (ne k q)];exact h.lt k q
 .rw[e1];unfold ny;have:=h.odI k;split<;>omega
 .have:=aax (l:=od) (k:=a) (v:=tm+1) (by rw[h.S0];exact ha) h0 J
  have:=h.cnt;omega
 .rw[e1,e2];exact h.S1.enter hna (fun k hk=>by have:=(h.odI k).2;omega) (.refl a) hw
 .rw[e1,e2,es];exact h.kne.enter hna (fun q=>q.2.1 h0) (fun j q=>by obtain⟨_,_,i,hi,_⟩:=q;have:=h.nx0 a h0;omega) h1 h2
 .rw[e1]at hk;unfold ny at hk
  by_cases e:k=a
  .rw[aQ e]at hk;omega
  rw[aP e]at hk;exact hn k hk
 rw[es];exact h.fin
theorem qK.first(h:qK gl od lo on tm kH [] nx)(ha:a<gl.length)(h0:n4 od a=0):qK gl (od.set a (tm+1)) (lo.set a (tm+1)) (on.set a true) (tm+1) kH [(a,[])] nx:=
 h.aw1 ha h0 h.nx0 (fun _ _ q=>q) (fun _ _ q=> .inl q) fun x hx=>by cases hx
theorem qK.enter(h:qK gl od lo on tm kH ((p,sp)::F) nx)(hl:nx p<(gl.getD p []).length)(hk:(gl.getD p []).getD (nx p) 0=(a:Int))(ha:a<gl.length)(h0:n4 od a=0):
  qK gl (od.set a (tm+1)) (lo.set a (tm+1)) (on.set a true) (tm+1) kH ((a,[])::(p,sp)::F) (pV nx p):=
 h.aw1 ha h0 (RI h) (fun k j=>CV) (fun k j q=>(FF q).imp id fun⟨q1,q2⟩=>⟨J,by subst q1;exact⟨_,_,rfl⟩⟩) fun x hx=>by
  have e:=h.aw0 hl ha hk
  rcases cZ.1 hx with q|q
  .subst q;exact .one e
  exact((lQ.1 h.S1.way).1 x q).trans (.one e)
theorem qK.all(h:qK gl od lo on tm kH ((a,sg)::F) nx)(hd:¬nx a<(gl.getD a []).length):∀j,uW gl a j->tO gl nx a j:=by grind[qK,kH,uW,tO]
theorem qK.UE(h:qK gl od lo on tm kH ((a,sg)::(p,sp)::F) nx)(hd:¬nx a<(gl.getD a []).length)(hne:n4 lo a≠n4 od a):
  qK gl od (lo.set p (min (n4 lo p) (n4 lo a))) on tm kH ((p,sg++a::sp)::F) nx:=by
 have e0:eZ ((p,sg++a::sp)::F)=eZ ((a,sg)::(p,sp)::F):=by simp[eZ]
 have hp:=h.lt p (iU (x:=(p,sp)) az)
 have e1:=zo (l:=lo) (k:=p) (v:=min (n4 lo p) (n4 lo a)) QW
 have hlo:=(h.S1.lo a CU).1
 have es:Ad od ((p,sg++a::sp)::F)=Ad od ((a,sg)::(p,sp)::F):=by unfold Ad;rw[e0]
 refine⟨h.S0,by rw[mM];exact h.llo,h.lon,h.lof,by rw[e0];exact h.onI,by rw[e0];exact h.lt,h.odI,h.cnt,?_,?_,h.nx0,by rw[es];exact h.fin⟩
 .rw[e1];exact h.S1.UE (fun _ _ _=>jG.trans) J
 rw[e1,es];exact h.kne.UE h.S1 (h.all hd)
theorem qK.close{on':List Bool}{of':List Int}(h:qK gl od lo on tm kH ((a,sg)::F) nx)(hd:¬nx a<(gl.getD a []).length)(he:n4 lo a=n4 od a)
  (l1:on'.length=gl.length) (l2:of'.length=gl.length) {m:Int} (hm:∃j,(j=a\/j∈sg)/\m=((j:Nat):Int)) (N8:∀j,(j=a\/j∈sg)->m<=((j:Nat):Int))
  (ho:∀k,k<gl.length->on'.getD k false=if k=a\/k∈sg then false else on.getD k false) (hf:∀k,k<gl.length->n4 of' k=if k=a\/k∈sg then m else n4 kH k):qK gl od lo on' tm of' F nx:=by
 have hb:=h.S1.below
 have mem:∀k,k∈eZ ((a,sg)::F)↔k∈sg\/k=a\/k∈eZ F:=fun k=>by rw[gq];simp
 have ex:∀k,k∈eZ F->¬(k=a\/k∈sg):=fun k hk q=>by
  have:=hb.1 k hk
  rcases q with q|q
  .subst q;omega
  have:=hb.2 k q;omega
 have es:Ad od F=fun k=>Ad od ((a,sg)::F) k\/k=a\/k∈sg:=by
  funext k;apply propext
  unfold Ad
  rw[mem]
  constructor
  .intro⟨h1,h2,h3⟩
   by_cases e:k=a\/k∈sg
   .exact .inr e
   exact .inl ⟨h1,h2,fun q=>q.elim (fun q=>e (.inr q)) fun q=>q.elim (fun q=>e (.inl q)) h3⟩
  rintro(⟨h1,h2,h3⟩|q)
  .exact⟨h1,h2,fun q=>h3 (.inr (.inr q))⟩
  have hl:=h.lt k ((mem k).2 (q.elim (fun q=> .inr (.inl q)) .inl))
  exact⟨by rw[h.S0];exact hl.1,by have:=hl.2;omega,fun q2=>ex k q2 q⟩
 refine⟨h.S0,h.llo,l1,l2,fun k hk=> ?_,fun k hk=>h.lt k ((mem k).2 (.inr (.inr hk))),h.odI,h.cnt,h.S1.close,by rw[es];exact h.kne.close h.S1 he (h.all hd),h.nx0,fun k hk=> ?_⟩
 .rw[ho k hk]
  by_cases e:k=a\/k∈sg
  .rw[aQ e];exact⟨fun q=>by simp at q,fun q=>absurd e (ex k q)⟩
  rw[aP e,h.onI k hk,mem];exact⟨fun q=>q.elim (fun q=>absurd (.inr q) e) fun q=>q.elim (fun q=>absurd (.inl q) e) id,fun q=> .inr (.inr q)⟩
 rw[es]at hk
 rcases hk with q|q
 .have hl:k<gl.length:=by rw[<-h.S0];exact q.1
  have e:¬(k=a\/k∈sg):=fun c=>q.2.2 ((mem k).2 (c.elim (fun q=> .inr (.inl q)) .inl))
  rw[hf k hl,aP e];exact h.fin k q
 have hl:=(h.lt k ((mem k).2 (q.elim (fun q=> .inr (.inl q)) .inl))).1
 rw[hf k hl,aQ q]
 have hi:=fun y=>h.kne.iff h.S1 he (h.all hd) (k:=k) (y:=y) q
 obtain⟨j,hj,ej⟩:=hm
 exact⟨⟨j,ej,(hi j).2 hj⟩,fun y hy=>N8 y ((hi y).1 hy)⟩
theorem qK.root(h:qK gl od lo on tm kH [(a,sg)] nx):n4 lo a=n4 od a:=h.S1.root
theorem qK.keep(h:qK gl od lo on tm kH ((a,sg)::(p,sp)::F) nx)(he:n4 lo a=n4 od a):lo.set p (min (n4 lo p) (n4 lo a))=lo:=by
 have h1:=(h.S1.lo p (iU (x:=(p,sp)) az)).1
 have h2:=h.S1.below.1 p (iU (x:=(p,sp)) az)
 have hp:=h.lt p (iU (x:=(p,sp)) az)
 apply sY
 intro i
 rw[uq]
 by_cases e:p=i
 .subst e
  rw[aQ O,aQ QW,WX J]
  unfold n4;rw[eE,ef QW];rfl
 rw[aP e]
end
def fY{α:Type}(l:List α)(ks:List Int)(v:α):List α:=ks.foldl (fun l k=>l.set k.toNat v) l
theorem iK{α:Type}{v:α}:∀{ks:List Int} {l:List α},(fY l ks v).length=l.length
 |[],l=>rfl
 |k::ks,l=>by
  show(fY (l.set k.toNat v) ks v).length=_
  rw[iK,mM]
theorem rM{α:Type}{v d:α}{i:Nat}:∀{ks:List Int} {l:List α},i<l.length->(∀k∈ks,0<=k)->(fY l ks v).getD i d=if(i:Int)∈ks then v else l.getD i d
 |[],l,_,_=>by simp[fY]
 |k::ks,l,hi,hk=>by
  have h0:=hk k az
  show(fY (l.set k.toNat v) ks v).getD i d=_
  rw[rM (by rw[mM];exact hi) fun q hq=>hk q (by simp[hq])]
  by_cases c:(i:Int)∈ks
  .rw[aQ c,aQ (by simp[c])]
  rw[aP c,eE,uq]
  by_cases e:k.toNat=i
  .rw[aQ e,aQ J,aQ iF];rfl
  rw[aP e,<-eE,aP (by simp[c];omega)]
theorem BL{α:Type}{v:α}{l:List α}{ks:List Int}{k:Int}(h0:0<=k)(h1:k<ks.length):fY l (ks.take (k+1).toNat) v=(fY l (ks.take k.toNat) v).set (ks.getD k.toNat 0).toNat v:=by
 have hk:k.toNat<ks.length:=J
 unfold fY
 rw[show(k+1).toNat=k.toNat+1 by omega,DS hk,eE,ef hk,wU]
 rfl
def BM(m:Int)(ks:List Int):Int:=ks.foldl min m
theorem acR{m:Int}{ks:List Int}{k:Int}(h0:0<=k)(h1:k<ks.length):BM m (ks.take (k+1).toNat)=min (BM m (ks.take k.toNat)) (ks.getD k.toNat 0):=by
 have hk:k.toNat<ks.length:=J
 unfold BM
 rw[show(k+1).toNat=k.toNat+1 by omega,DS hk,eE,ef hk,wU]
 rfl
theorem aay:∀{ks:List Int} {m:Int},(BM m ks=m\/BM m ks∈ks)/\BM m ks<=m/\∀k∈ks,BM m ks<=k
 |[],m=>⟨.inl O,lm _,fun k h=>ow⟩
 |a::ks,m=>by
  obtain⟨h1,h2,h3⟩:=aay (ks:=ks) (m:=min m a)
  have e:BM m (a::ks)=BM (min m a) ks:=rfl
  rw[e]
  refine⟨?_,J,fun k hk=> ?_⟩
  .rcases h1 with q|q
   .by_cases c:m<=a
    .exact .inl J
    exact .inr (by rw[cZ];exact .inl J)
   exact .inr (by simp[q])
  rcases cZ.1 hk with q|q
  .subst q;omega
  exact h3 k q
theorem ahq{l:List Nat}{k:Nat}:(k:Int)∈NI l↔k∈l:=by grind[NI]
theorem aaz{l:List Nat}{x:Int}(h:x∈NI l):∃k,k∈l/\x=((k:Nat):Int):=by grind[NI]
section
variable{gl:List (List Int)}{od lo:List Int}{on:List Bool}{tm:Int}{kH:List Int}{F:SZ}{nx:Nat->Nat}{a b p:Nat}{sg sp:List Nat}
theorem qK.aw3{ks:List Int}(h:qK gl od lo on tm kH ((a,sg)::F) nx)(hd:¬nx a<(gl.getD a []).length)(he:n4 lo a=n4 od a)(hks:ks=(a:Int)::NI sg.reverse):
  qK gl od lo (fY on ks false) tm (fY kH ks (BM a ks)) F nx:=by
 have hin:∀x,x∈ks->∃j,(j=a\/j∈sg)/\x=((j:Nat):Int):=fun x hx=>by
  rw[hks]at hx
  rcases cZ.1 hx with q|q
  .exact⟨a,.inl O,q⟩
  obtain⟨k,hk,e⟩:=aaz q;exact⟨k,.inr (by simpa using hk),e⟩
 have hmem:∀k:Nat,(k:Int)∈ks↔(k=a\/k∈sg):=fun k=>by
  rw[hks,cZ,ahq,List.mem_reverse]
  exact or_congr J Bj
 have hpos:∀x,x∈ks->0<=x:=fun x hx=>by obtain⟨j,_,e⟩:=hin x hx;omega
 obtain⟨m1,m2,m3⟩:=aay (ks:=ks) (m:=a)
 refine h.close hd he (by rw[iK];exact h.lon) (by rw[iK];exact h.lof) (m:=BM a ks) ?_ (fun j hj=>m3 _ ((hmem j).2 hj)) (fun k hk=> ?_) fun k hk=> ?_
 .rcases m1 with q|q
  .exact⟨a,.inl O,q⟩
  exact hin _ q
 .rw[rM (by rw[h.lon];exact hk) hpos]
  by_cases c:(k:Int)∈ks
  .rw[aQ c,aQ ((hmem k).1 c)]
  rw[aP c,aP fun q=>c ((hmem k).2 q)]
 show(fY kH ks (BM a ks)).getD k 0=_
 rw[rM (by rw[h.lof];exact hk) hpos]
 by_cases c:(k:Int)∈ks
 .rw[aQ c,aQ ((hmem k).1 c)]
 rw[aP c,aP fun q=>c ((hmem k).2 q)];rfl
theorem aaA:NI (eZ ((a,sg)::F)).reverse=NI (eZ F).reverse++(a:Int)::NI sg.reverse:=by
 rw[gq];simp[NI]
theorem qK.arC(h:qK gl od lo on tm kH ((a,sg)::F) nx):(a:Int)∉NI sg.reverse:=fun q=>by
 have:=h.S1.below.2 a (by simpa using ahq.1 q);omega
theorem uX:oS ((a,sg)::F) nx=oS F nx++[⟨a,nx a⟩]:=by simp[oS]
theorem nV:(oS F nx).length=F.length:=by simp[oS]
theorem ahr(h:qK gl od lo on tm kH ((a,sg)::F) nx):(oS ((a,sg)::F) nx).set F.length ⟨a,(nx a:Int)+1⟩=oS ((a,sg)::F) (pV nx a):=by
 have e:oS F (pV nx a)=oS F nx:=by
  unfold oS
  apply Gs
  intro x hx
  have hx':x∈F:=by simpa using hx
  have:=h.S1.below.1 x.1 (iU hx')
  unfold pV;rw[aP (fun e=>by rw[e]at this;omega)]
 rw[uX,uX,e,<-nV (F:=F) (nx:=nx),List.set_append_right _ _ (eG _),QE]
 unfold pV;rw[aQ O];rfl
theorem RJ:(oS ((a,sg)::F) nx).getD F.length ⟨0,0⟩=⟨a,nx a⟩:=by grind[uX,nV]
theorem UF:(oS ((a,sg)::F) nx).take F.length=oS F nx:=by grind[uX,nV]
end
end
end Go.Proofs.YtlhjdflgjbkpmaaGreatDoor.M
namespace Go.Proofs.YtlhjdflgjbkpmaaGreatDoor.E
section
open Go Go.RowKit Go.Proofs.YtlhjdflgjbkpmaaGreatDoor.M
def I2:C6:=⟨0,0⟩
def FG(x:C6):List Value:=[I x.node,I x.next]
theorem my(x:C6):(FG x).length=2:=rfl
theorem ahs{x:C6}:∀u∈FG x,u.oneCell'=true:=fun u hu=>by
 simp only[FG,cZ,Gu,Bg]at hu
 rcases hu with rfl|rfl<;>rfl
end
end Go.Proofs.YtlhjdflgjbkpmaaGreatDoor.E
namespace Go.Proofs.YtlhjdflgjbkpmaaGreatDoor.M
section
open Go
section
variable{gl:List (List Int)}{od lo:List Int}{on:List Bool}{tm:Int}{kH:List Int}{F:SZ}{nx:Nat->Nat}{a b p:Nat}{sg sp:List Nat}
theorem ar9(h:((oS F nx).length:Int)>0):∃a sg F0,F=(a,sg)::F0:=by
 cases F with
 |nil=>simp[oS]at h
 |cons x F0=>exact⟨x.1,x.2,F0,rfl⟩
theorem aht:NI (eZ F).reverse++[(a:Int)]=NI (eZ ((a,[])::F)).reverse:=by rw[aaA];rfl
theorem ahu(h:nx a=0):oS F nx++[⟨a,0⟩]=oS ((a,[])::F) nx:=by rw[uX,h];rfl
theorem ahv:NI (eZ ((a,sg)::(p,sp)::F)).reverse=NI (eZ ((p,sg++a::sp)::F)).reverse:=by grind[eZ]
theorem ahw:oS ((p,sp)::F) nx=oS ((p,sg++a::sp)::F) nx:=by rw[uX,uX]
theorem qK.Ek(h:qK gl od lo on tm kH ((a,sg)::F) nx):a<gl.length:=(h.lt a CU).1
theorem aaB(h:qK gl od lo on tm kH F nx):(eZ F).length<=gl.length:=by
 have hn:(eZ F).Nodup:=h.S1.Me.imp fun q e=>by rw[e]at q;omega
 have:=JR hn (m:=List.range gl.length) fun k hk=>oL.2 (h.lt k hk).1
 rwa[Qr]at this
theorem amu(h:qK gl od lo on tm kH F nx):F.length<=(eZ F).length:=by
 clear h
 induction F with
 |nil=>simp
 |cons x F ih=>rw[show x=(x.1,x.2)from O,gq];simp;omega
theorem aw4(h:(F.length:Int)>0):∃p sp F1,F=(p,sp)::F1:=by
 cases F with
 |nil=>simp at h
 |cons x F1=>exact⟨x.1,x.2,F1,rfl⟩
end
theorem OfK.same{E:Nat->Nat->Prop}{k:Nat}{o p:Int}(h:OfK E k o)(h2:OfK E k p):o=p:=by grind[OfK]
open Classical in
noncomputable def ofK(E:Nat->Nat->Prop)(k:Nat):Int:=if h:∃o,OfK E k o then Classical.choose h else 0
theorem ahx{E:Nat->Nat->Prop}{k:Nat}{o:Int}(h:OfK E k o):ofK E k=o:=by
 unfold ofK
 rw[dif_pos ⟨o,h⟩]
 exact(Classical.choose_spec (⟨o,h⟩:∃o,OfK E k o)).same h
noncomputable def oA(gl:List (List Int)):List Int:=(List.range gl.length).map (ofK (uW gl))
section
variable{gl:List (List Int)}{od lo:List Int}{on:List Bool}{tm:Int}{kH:List Int}{nx:Nat->Nat}
theorem qK.done(h:qK gl od lo on tm kH [] nx)(ha:∀k,k<gl.length->n4 od k≠0):kH=oA gl:=by
 apply sY
 intro k
 unfold oA
 rw[p5]
 by_cases c:k<gl.length
 .rw[yA c,ef (by rw[h.lof];exact c)]
  have:=h.fin k ⟨by rw[h.S0];exact c,ha k c,by simp[eZ]⟩
  rw[p7,ahx this]
  unfold n4;rw[eE,ef (by rw[h.lof];exact c)];rfl
 rw[mX (by rw[h.lof];omega),mX KI];rfl
theorem amv:(oA gl).length=gl.length:=by simp[oA]
theorem aaC{n k:Nat}:n4 (List.replicate n 0) k=0:=by grind[n4]
theorem qK.start{n:Nat}(h:gl.length=n):qK gl (List.replicate n 0) (List.replicate n 0) (List.replicate n false) 0 (List.replicate n 0) [] (fun _=>0):=by
 have hs:∀k,¬Ad (List.replicate n 0) [] k:=fun k q=>q.2.1 aaC
 refine⟨by simp[h],by simp[h],by simp[h],by simp[h],fun k hk=> ?_,fun k hk=>by simp[eZ]at hk,fun k=>by rw[aaC];omega,by simp[h],E0.nil,N7.nil fun k q=>absurd q (hs k),fun _ _=>rfl,fun k q=>absurd q (hs k)⟩
 rw[eE,Wq]
 simp[eZ]
 split<;>rfl
end
end
end Go.Proofs.YtlhjdflgjbkpmaaGreatDoor.M
namespace Go.Proofs.YtlhjdflgjbkpmaaGreatDoor.E
section
open Go Go.RowKit Go.Proofs.YtlhjdflgjbkpmaaGreatDoor.M
structure vF(T:FTy)(F m:Nat)(cs:List (List Nat))(vW vU:Value)(cW cU:Option (Nat×Array Value))(W:List (BitVec 64))(ul:List (Value×jo))(ts:List Int)(cn:Int)(L:List a8):Prop where
 fo:∃tn,ts=I1 tn/\FoI T F m cs vW vU vW cW cU W ul tn L
 cn:cn=((leads (bk cs):Nat):Int)
section
variable{T:FTy}{F m m':Nat}{cs:List (List Nat)}{vW vU:Value}{cW cU:Option (Nat×Array Value)}{W:List (BitVec 64)}{ul:List (Value×jo)}{ts:List Int}{cn:Int}{L L':List a8}
theorem vF.mono(h:vF T F m cs vW vU cW cU W ul ts cn L)(hs:∀e∈L,e∈L'):vF T F m cs vW vU cW cU W ul ts cn L':=by
 obtain⟨tn,e,i⟩:=h.fo
 exact⟨⟨tn,e,i.hW,i.hU,i.hs,i.ok,fun x hx=>(i.un x hx).mono hs,i.lu,i.lt⟩,h.cn⟩
theorem vF.more(h:vF T F m cs vW vU cW cU W ul ts cn L)(hm:m<=m'):vF T F m' cs vW vU cW cU W ul ts cn L:=by
 obtain⟨tn,e,i⟩:=h.fo
 exact⟨⟨tn,e,i.hW,i.hU,i.hs,i.ok,i.un,by have:=i.lu;omega,by have:=i.lt;omega⟩,h.cn⟩
theorem vF.hW(h:vF T F m cs vW vU cW cU W ul ts cn L):cO cW vW (W.map U):=by obtain⟨tn,e,i⟩:=h.fo;exact i.hW
theorem vF.hU(h:vF T F m cs vW vU cW cU W ul ts cn L):cO cU vU (ul.map Prod.fst):=by obtain⟨tn,e,i⟩:=h.fo;exact i.hU
theorem vF.now(h:vF T F m cs vW vU cW cU W ul ts cn L):∃nd cl zX,cs=cl::zX/\W=bD nd/\Fo nd cl/\nd.length=cl.length/\cl.length<=m/\ts.length+1=cs.length/\leads cl<=m:=by
 obtain⟨tn,rfl,i⟩:=h.fo
 obtain⟨nd,cl,zX,h1,h2,h3,h4,h5,h6,h7⟩:=i.now
 exact⟨nd,cl,zX,h1,h2,h3,h4,h5,by rw[wC];exact h6,h7⟩
theorem vF.ne(h:vF T F m cs vW vU cW cU W ul ts cn L):0<cs.length:=by obtain⟨nd,cl,zX,e,_⟩:=h.now;subst e;simp
end
def qE(c:Option (Nat×Array Value))(v:Value)(e:TypeId)(xs:List Value):a8:=
 match c with
 |none=> .row v e 1 xs.length xs
 |some (b,cur)=> .blk b (.cells cur e (0,0))
def qO(c:Option (Nat×Array Value))(v:Value)(xs:List Value):Prop:=
 match c with
 |none=>True
 |some (b,cur)=>∃o cap,v= .slice (some ⟨b,o,none⟩) xs.length cap/\xs.length<=cap/\o+cap<=cur.size/\(cur.toList.drop o).take xs.length=xs/\cap<=maxLen
theorem aaD{b o k cap:Nat}:om (.slice (some ⟨b,o,none⟩) (k+1) cap) 1 1= .slice (some ⟨b,if cap=1 then o else o+1,none⟩) k (cap-1):=by grind[om,BG]
section
variable{P:Program}{σ:Env}{w0 w:World}{L:List a8}{c:Option (Nat×Array Value)}{v u x0:Value}{e t ty:TypeId}{xs news:List Value}{i m:Nat}{pos:String}{bJ:Array Edge}{dst:Option Tmp}{g:Option (Nat×Bool)}{x y:Operand}
theorem Hp.slQ(h:Hp w0 w L)(hi:L[i]?=some (qE c v e xs))(hk:qO c v xs):Sl w v 1 xs.length xs:=by
 cases c with
 |none=>exact h.sl hi
 |some bc=>
  obtain⟨b,cur⟩:=bc
  obtain⟨o,cap,rfl,h1,h2,h3,h4⟩:=hk
  refine⟨⟨_,cap,rfl,h1,fun _=>rfl⟩,J,fun j u hu=> ?_,J⟩
  simp only[sb,so]
  rw[xa w _ _ cur e (0,0) (h.blk hi)]
  rw[<-h3,uo]at hu
  split at hu
  .rw[A7]at hu;simpa using hu
  .cases hu
theorem Hp.aw5(h:Hp w0 w L)(hi:L[i]?=some (qE c v e (x0::xs)))(hk:qO c v (x0::xs)):∃c',qO c' (om v 1 1) xs/\Hp w0 w (L.set i (qE c' (om v 1 1) e xs)):=by
 cases c with
 |none=>
  have hr:w.ownsRow w0.heap.size e 1 v (x0::xs).length (x0::xs):=h.get hi
  obtain⟨h1,h2⟩:=hr
  rcases h2 with⟨rfl,q⟩|⟨gb,cap,cur,rfl,hb,hg,hn,hc,hs,ht⟩
  .simp at q
  rw[eO]at hn
  rw[kP]at hs ht
  refine⟨some (gb,cur),⟨if cap=1 then 0 else 0+1,cap-1,aaD,J,by split<;>omega,?_,J⟩,h.wB hi O ⟨hb,hg⟩⟩
  rw[eO]at ht
  by_cases q:cap=1
  .have e0:xs.length=0:=J
   rw[e0,wS];exact(E3 e0).symm
  rw[aP q]
  cases ni:cur.toList with
  |nil=>rw[ni]at ht;simp at ht
  |cons a l=>
   rw[ni]at ht
   simp at ht⊢
   exact ht.2
 |some bc=>
  obtain⟨b,cur⟩:=bc
  obtain⟨o,cap,rfl,h1,h2,h3,h4⟩:=hk
  rw[eO]at h1
  refine⟨some (b,cur),⟨if cap=1 then o else o+1,cap-1,aaD,J,by split<;>omega,?_,J⟩,h.wB hi O (h.get hi)⟩
  rw[eO]at h3
  by_cases q:cap=1
  .have e0:xs.length=0:=J
   rw[e0,wS];exact(E3 e0).symm
  rw[aP q,<-Qy]
  cases ni:cur.toList.drop o with
  |nil=>rw[ni]at h3;simp at h3
  |cons a l=>
   rw[ni]at h3
   simp at h3⊢
   exact h3.2
theorem amw{ie:TypeInfo}{z:Value}{bytes:Nat}(h:Hp w0 w L)(hi:L[i]?=some (qE c v e xs))(hk:qO c v xs)(hS:Sl w u 1 1 [x0])
  (hx:ev σ x=v) (hy:ev σ y=u) (ht:P.underlying t=some (.slice e)) (hie:P.info? e=some ie) (hz:ie.zero=some z)
  (hsize:ie.size=1) (hby:ie.bytes=bytes) (hzs:z.cells.size=1) (h1:x0.oneCell'=true) (hb:xs.length+1<=1000000000) (IV:bytes<=1000):
  ∃v' c' w',(execOp (ev σ) ⟨dst,.call {callee:= .builtin .append,args:=#[x,y],argTypes:=#[t,t]},ty,pos,bJ,g⟩).run P w= .ok (.value v') w'/\qO c' v' (xs++[x0])/\Hp w0 w' (L.set i (qE c' v' e (xs++[x0]))):=by
 have hbytes:(xs.length+1)*bytes<=140737488355328:=jP (wX hb IV) aD
 have h63:xs.length+1<=maxLen:=by simp only[maxLen];omega
 have hone:∀q∈[x0],q.oneCell'=true:=fun q hq=>by rw[fZ.1 hq];exact h1
 cases c with
 |none=>
  obtain⟨v',w',hr,h2,h3,h4⟩:=r7 (P:=P) (ty:=ty) ht hie hz hsize hby hzs J (h.get hi) hS hone h63 hbytes h.size
  refine⟨v',none,w',rW hx hy hr,trivial,?_⟩
  have:=h.xM hi h2 h3 h4
  unfold qE;rw[cV];exact this
 |some bc=>
  have hX:=h.slQ hi hk
  obtain⟨b,cur⟩:=bc
  obtain⟨o,cap,rfl,k1,k2,k3,k4⟩:=hk
  obtain⟨a,T4,hu,huc,hua⟩:=hS.shape
  have aEo:=hua J
  generalize hB:sb u=B at*
  generalize hO:so u=Ozz at*
  subst aEo
  have hnews:∀j q,[x0][j]?=some q->w.cell? ((⟨B,Ozz,none⟩:Addr).add j)=some q:=fun j q hq=>by
   have:=hS.cell j q hq
   rw[hB,hO]at this
   rw[BG];exact this
  subst hu
  by_cases room:xs.length+1<=cap
  .have hg:=h.blk hi
   have hf:=run_firstCells_some (P:=P) w 1 1 _ 1 T4 [x0] O hnews
   have hst:=WI P b (o+xs.length*1) e [x0] 0 cur w hg iF hone
   simp only[Ks]at hst
   have hr:(Builtin.append_ #[t,t] ty #[.slice (some ⟨b,o,none⟩) xs.length cap,.slice (some ⟨B,Ozz,none⟩) 1 T4]).run P w= .ok (.slice (some ⟨b,o,none⟩) (xs.length+1) cap) (w.setRow b (cur.toList.take (o+xs.length*1)++[x0]++cur.toList.drop (o+xs.length*1+[x0].length)).toArray):=by
    simp only[kP]at hst⊢
    simp[Builtin.append_,jr ht,sizeOf,typeInfo,hie,hsize,Builtin.lenOf,room,hf,Addr.add_lit,hst]
   refine⟨_,some (b,(cur.toList.take (o+xs.length*1)++[x0]++cur.toList.drop (o+xs.length*1+[x0].length)).toArray),_,rW hx hy hr,⟨o,cap,by rw[cV,gk],by simpa using room,?_,?_,k4⟩,h.set hi⟩
   .simp only[ur,cV,eo,xJ,gk,DU];omega
   have hl:cur.toList.length=cur.size:=DU
   have e1:((cur.toList.take (o+xs.length*1)++[x0]++cur.toList.drop (o+xs.length*1+[x0].length)).drop o)=(cur.toList.drop o).take xs.length++([x0]++cur.toList.drop (o+xs.length*1+[x0].length)):=by
    rw[dg,J4 (by rw[eo];omega),List.drop_take]
    congr 2;omega
   show List.take (xs++[x0]).length (List.drop o (cur.toList.take (o+xs.length*1)++[x0]++cur.toList.drop (o+xs.length*1+[x0].length)))=_
   rw[e1,k3,cV,Wl]
   rfl
  have holds:∀j q,xs[j]?=some q->w.cell? ((⟨b,o,none⟩:Addr).add j)=some q:=fun j q hq=>by
   rw[BG]
   have:=hX.cell j q hq
   simpa[sb,so]using this
  obtain⟨v',w',hr,h2,h3⟩:=run_append_arg_grows (P:=P) (w:=w) t ty e ie z 1 bytes ht hie hz hsize hby hzs J ⟨b,o,none⟩ xs.length cap xs J holds _ 1 T4 [x0] O hnews J h63 hbytes
  refine⟨v',none,w',rW hx hy hr,trivial,?_⟩
  have aEp:Below w.heap.size w w':=(Below.refl w.heap.size w).grown h3 (eG _) (fun k hk=>by cases hk)
  have:=(h.CD aEp h2).swap (mh.1 hi).1
  unfold qE;rw[cV];exact this
variable{n d:Nat}{ops:Array Oper}{k:K}{rest:List Oper}
theorem asa{ie:TypeInfo}{z:Value}{bytes:Nat}{α:Type}{f:α->Value}{l:List α}{a:α}(hd:Nat.blt d n=true)(h:Hp w0 w L)(hi:L[i]?=some (qE c v e (l.map f)))(hk:qO c v (l.map f))(hS:Sl w u 1 1 [f a])
  (hx:ev σ x=v) (hy:ev σ y=u) (ht:P.underlying t=some (.slice e)) (hie:P.info? e=some ie) (hz:ie.zero=some z)
  (hsize:ie.size=1) (hby:ie.bytes=bytes) (hzs:z.cells.size=1) (h1:(f a).oneCell'=true) (hb:l.length+1<=1000000000) (IV:bytes<=1000)
  (hn:∀v' c' w',qO c' v' ((l++[a]).map f)->Hp w0 w' (L.set i (qE c' v' e ((l++[a]).map f)))->RL P n ops k rest (k7 σ d v') w'):RL P n ops k (⟨some d,.call {callee:= .builtin .append,args:=#[x,y],argTypes:=#[t,t]},ty,pos,bJ,none⟩::rest) σ w:=by
 obtain⟨v',c',w',hr,h2,h3⟩:=amw (P:=P) (ty:=ty) (dst:=some d) (pos:=pos) (bJ:=bJ) (g:=none) h hi hk hS hx hy ht hie hz hsize hby hzs h1 (by rw[gj];exact hb) IV
 rw[<-Kf (f:=f),<-gA]at h2 h3
 exact ox hd hr (hn v' c' w' h2 h3)
end
abbrev Va:=Nat->El
structure sH where
 sh:Sh
 ev:Va->El
 to:Option Nat
 c:El
 vars:List Nat
structure Sys where
 n:Nat
 sh:Nat->Sh
def py(S:Sys)(u:Va):Prop:=∀i,i<S.n->cz (S.sh i) (u i)=true
def LeV(S:Sys)(u v:Va):Prop:=∀i,i<S.n->cR (u i) (v i)=true
structure tQ(S:Sys)(q:sH):Prop where
 fit:∀u,py S u->cz q.sh (q.ev u)=true
 lt:∀i,i∈q.vars->i<S.n
 Pu:∀u v,py S u->py S v->(∀i,i∈q.vars->cR (u i) (v i)=true)->cR (q.ev u) (q.ev v)=true
 to:∀k,q.to=some k->k<S.n/\S.sh k=q.sh
def sH.rhs(q:sH)(u:Va):El:=match q.to with
 |some k=>u k
 |none=>q.c
def eW(q:sH)(u:Va):Prop:=cR (q.ev u) (q.rhs u)=true
structure tZ(S:Sys)(Q:sH->Prop)(u:Va):Prop where
 fit:py S u
 hold:∀q,Q q->q.to≠none->eW q u
def FH(v:Va)(k:Nat)(e:El):Va:=fun i=>if i=k then e else v i
structure BN(S:Sys)(Q:sH->Prop)(v:Va):Prop where
 fit:py S v
 low:∀u,tZ S Q u->LeV S v u
structure rN(S:Sys)(Q:sH->Prop)(v:Va):Prop where
 low:BN S Q v
 sol:∀q,Q q->q.to≠none->eW q v
theorem tQ.mono{S:Sys}{q:sH}(h:tQ S q)(u v:Va)(hu:py S u)(hv:py S v)(hl:LeV S u v):cR (q.ev u) (q.ev v)=true:=h.Pu u v hu hv fun i hi=>hl i (h.lt i hi)
section
variable{S:Sys}{Q Q':sH->Prop}{u v w:Va}{q:sH}{k:Nat}{e:El}
theorem eX{a b c:El}(h:cR a b=true)(h2:cR b c=true):cR a c=true:=by grind[o6,lD]
theorem kM{a b:El}(h:qL a b):cR a b=true:=o6.2 fun i hi=>by rw[h i hi];exact sy _
theorem rN.is(h:rN S Q v):tZ S Q v:=⟨h.low.fit,h.sol⟩
theorem rN.same(h:rN S Q v)(h2:rN S Q w):∀i,i<S.n->qL (v i) (w i):=fun i hi=>XP (h.low.low w h2.is i hi) (h2.low.low v h.is i hi)
theorem aaE(hs:∀i,i<S.n->qY (S.sh i)=true)(hv:∀i,i<S.n->v i=gZ (S.sh i) eU):BN S Q v:=
 ⟨fun i hi=>by rw[hv i hi];exact(OW (hs i hi)).1,fun u hu i hi=>by rw[hv i hi];exact(OW (hs i hi)).2 _ (hu.fit i hi)⟩
theorem BN.raise(h:BN S Q v)(hq:Q q)(ho:tQ S q)(hk:q.to=some k):BN S Q (FH v k (fC q.sh (v k) (q.ev v))):=by
 obtain⟨k1,k2⟩:=ho.to k hk
 have fk:=h.fit k k1
 rw[k2]at fk
 refine⟨fun i hi=> ?_,fun u hu i hi=> ?_⟩
 .unfold FH
  by_cases e:i=k
  .rw[aQ e,e,k2];exact Hq fk (ho.fit v h.fit)
  rw[aP e];exact h.fit i hi
 unfold FH
 by_cases e:i=k
 .rw[aQ e,e]
  have h1:=h.low u hu
  have h2:=hu.hold q hq (by rw[hk];simp)
  unfold eW sH.rhs at h2
  rw[hk]at h2
  have fu:=hu.fit k k1
  rw[k2]at fu
  exact ZZ fk (ho.fit v h.fit) fu (h1 k k1) (eX (ho.mono v u h.fit hu.fit h1) h2)
 rw[aP e];exact h.low u hu i hi
theorem BN.more(h:BN S Q v)(hq:∀q,Q q->Q' q):BN S Q' v:=⟨h.fit,fun u hu=>h.low u ⟨hu.fit,fun q h1 h2=>hu.hold q (hq q h1) h2⟩⟩
theorem BN.aw7(h:BN S Q v)(ho:tQ S q)(hk:q.to=none)(hf:¬eW q v):∀u,tZ S Q u->¬eW q u:=fun u hu hh=>hf (by
 unfold eW sH.rhs at hh⊢
 rw[hk]at hh⊢
 exact eX (ho.mono v u h.fit hu.fit (h.low u hu)) hh)
def pO(S:Sys)(Q:sH->Prop)(C:Nat->Prop):Prop:=∀u,tZ S Q u->∀i k,C i->C k->qL (u i) (u k)
def qy(v:Va)(C:Nat->Prop)[DecidablePred C](e:El):Va:=fun i=>if C i then e else v i
theorem BN.ring{C:Nat->Prop}[DecidablePred C](h:BN S Q v)(hC:pO S Q C)(hin:∀i,C i->i<S.n)(hk:C k)(hsh:∀i,C i->S.sh i=S.sh k)(he:cz (S.sh k) e=true)(hl:∀u,tZ S Q u->cR e (u k)=true):BN S Q (qy v C e):=by
 refine⟨fun i hi=> ?_,fun u hu i hi=> ?_⟩
 .unfold qy
  by_cases c:C i
  .rw[aQ c,hsh i c];exact he
  rw[aP c];exact h.fit i hi
 unfold qy
 by_cases c:C i
 .rw[aQ c];exact eX (hl u hu) (kM (hC u hu k i hk c))
 rw[aP c];exact h.low u hu i hi
theorem BN.lub(h:BN S Q v)(hq:Q q)(ho:tQ S q)(hk:q.to=some k):cz (S.sh k) (fC q.sh (v k) (q.ev v))=true/\∀u,tZ S Q u->cR (fC q.sh (v k) (q.ev v)) (u k)=true:=by
 have h1:=h.raise hq ho hk
 have k1:=(ho.to k hk).1
 have e:FH v k (fC q.sh (v k) (q.ev v)) k=fC q.sh (v k) (q.ev v):=aQ O
 refine⟨?_,fun u hu=> ?_⟩
 .have:=h1.fit k k1;rwa[e]at this
 have:=h1.low u hu k k1;rwa[e]at this
theorem pO.of{C:Nat->Prop}(hC:∀u,tZ S Q u->∀i k,C i->C k->cR (u i) (u k)=true):pO S Q C:=fun u hu i k hi hk=>XP (hC u hu i k hi hk) (hC u hu k i hk hi)
abbrev Qm:=BitVec 64->sH->Prop
def acS(M:Qm):Prop:=∀a b q,dV a b=true->M a q->M b q
def EE(S:Sys)(M:Qm)(v:Va)(ws:Nat->BitVec 64):Prop:=∀k,k<S.n->∀u,tZ S (M (ws k)) u->cR (v k) (u k)=true
def N9(y:BitVec 64)(ws:Nat->BitVec 64)(l:List Nat):BitVec 64:=l.foldl (fun a i=>a|||ws i) y
theorem FI:∀(l:List Nat) (y:BitVec 64) (ws:Nat->BitVec 64),dV y (N9 y ws l)=true/\∀i∈l,dV (ws i) (N9 y ws l)=true
 |[],y,ws=>⟨sy _,fun i hi=>by cases hi⟩
 |a::l,y,ws=>by
  obtain⟨h1,h2⟩:=FI l (y|||ws a) ws
  refine⟨lD (G2 _ _) h1,fun i hi=> ?_⟩
  rcases cZ.1 hi with e|hi
  .rw[e];exact lD (Fm _ _) h1
  exact h2 i hi
theorem tZ.less{Q Q':sH->Prop}(h:tZ S Q' u)(hq:∀q,Q q->Q' q):tZ S Q u:=⟨h.fit,fun q h1 h2=>h.hold q (hq q h1) h2⟩
section
variable{M:Qm}{ws:Nat->BitVec 64}{y:BitVec 64}
theorem EE.ev(h:EE S M v ws)(hM:acS M)(hv:py S v)(ho:tQ S q){W:BitVec 64}(hW:dV (N9 y ws q.vars) W=true)(hu:tZ S (M W) u):cR (q.ev v) (q.ev u)=true:=
 ho.Pu v u hv hu.fit fun i hi=>h i (ho.lt i hi) u (hu.less fun q hq=>hM _ _ _ (lD ((FI _ y ws).2 i hi) hW) hq)
theorem EE.stuck(h:EE S M v ws)(hM:acS M)(hv:py S v)(ho:tQ S q)(hk:q.to=none)(hf:¬eW q v):∀u,tZ S (M (N9 y ws q.vars)) u->¬eW q u:=fun u hu hh=>hf (by
 unfold eW sH.rhs at hh⊢
 rw[hk]at hh⊢
 exact eX (h.ev hM hv ho (sy _) hu) hh)
def EF(ws:Nat->BitVec 64)(C:Nat->Prop)[DecidablePred C](W:BitVec 64):Nat->BitVec 64:=fun i=>if C i then W else ws i
theorem EE.raise{C:Nat->Prop}[DecidablePred C](h:EE S M v ws)(hM:acS M)(hv:py S v)(ho:tQ S q)(hk:q.to=some k)(hy:M y q)(hC:pO S (M (ws k)) C)(hck:C k){W:BitVec 64}(hW1:dV (ws k) W=true)(hW2:dV (N9 y ws q.vars) W=true):
  EE S M (qy v C (fC q.sh (v k) (q.ev v))) (EF ws C W):=fun i hi u hu=>by
 unfold EF at hu
 unfold qy
 by_cases c:C i
 .rw[aQ c]at hu⊢
  obtain⟨k1,k2⟩:=ho.to k hk
  have hu1:tZ S (M (ws k)) u:=hu.less fun q hq=>hM _ _ _ hW1 hq
  have h1:=h.ev hM hv ho hW2 hu
  have h2:=hu.hold q (hM _ _ _ (lD (FI q.vars y ws).1 hW2) hy) (by rw[hk];simp)
  unfold eW sH.rhs at h2
  rw[hk]at h2
  have fv:=hv k k1;have fu:=hu.fit k k1
  rw[k2]at fv fu
  exact eX (ZZ fv (ho.fit v hv) fu (h k k1 u hu1) (eX h1 h2)) (kM (hC u hu1 k i hck c))
 rw[aP c]at hu⊢;exact h i hi u hu
theorem EE.ring{C:Nat->Prop}[DecidablePred C](h:EE S M v ws)(hM:acS M){W:BitVec 64}(hC:pO S (M W) C)(hW:∀i,C i->i<S.n/\dV (ws i) W=true)(he:∀u,tZ S (M W) u->∀i,C i->cR e (u i)=true):EE S M (qy v C e) (EF ws C W):=fun i hi u hu=>by
 unfold EF at hu
 unfold qy
 by_cases c:C i
 .rw[aQ c]at hu⊢;exact he u hu i c
 rw[aP c]at hu⊢;exact h i hi u hu
end
def zq(H r:Int)(U:Nat):Int:=(H-r)*U
def oC(S:Sys)(U:Nat->Nat)(v:Va):Nat->Int
 |0=>0
 |n+1=>oC S U v n+zq (gd (S.sh n)) (mv (S.sh n) (v n)) (U n)
theorem JU{U:Nat->Nat}(hv:py S v):∀n,n<=S.n->0<=oC S U v n
 |0,_=>lm _
 |n+1,hn=>by
  have h1:=JU (U:=U) hv n J
  have h2:=afZ (hv n J)
  have h3:0<=zq (gd (S.sh n)) (mv (S.sh n) (v n)) (U n):=Int.mul_nonneg J J
  show 0<=oC S U v n+_
  omega
theorem RK{U:Nat->Nat}:∀n,oC S U (FH v k e) n=oC S U v n+(if k<n then zq (gd (S.sh k)) (mv (S.sh k) e) (U k)-zq (gd (S.sh k)) (mv (S.sh k) (v k)) (U k)else 0)
 |0=>by simp[oC]
 |n+1=>by
  have ih:=RK (U:=U) n
  show oC S U (FH v k e) n+zq (gd (S.sh n)) (mv (S.sh n) (FH v k e n)) (U n)=oC S U v n+zq (gd (S.sh n)) (mv (S.sh n) (v n)) (U n)+_
  rw[ih]
  by_cases h:n=k
  .subst h
   have e1:FH v n e n=e:=aQ O
   rw[e1,aP J,aQ J];omega
  have e1:FH v k e n=v n:=aP h
  rw[e1]
  by_cases h2:k<n
  .rw[aQ h2,aQ J];omega
  rw[aP h2,aP J];omega
theorem Pv{U:Nat->Nat}(hv:py S v)(hk:k<S.n)(he:cz (S.sh k) e=true)(hl:cR (v k) e=true)(hne:¬qL e (v k)):oC S U (FH v k e) S.n+U k<=oC S U v S.n:=by
 rw[RK,aQ hk]
 have h1:=af0 (hv k hk) he hl hne
 have h2:zq (gd (S.sh k)) (mv (S.sh k) e) (U k)+U k<=zq (gd (S.sh k)) (mv (S.sh k) (v k)) (U k):=by
  unfold zq
  have:(gd (S.sh k)-mv (S.sh k) e+1)*(U k:Int)<=(gd (S.sh k)-mv (S.sh k) (v k))*(U k:Int):=Int.mul_le_mul_of_nonneg_right J J
  rw[Int.add_mul,Int.one_mul]at this
  exact this
 omega
theorem RM{U U':Nat->Nat}:∀n,oC S (fun k=>U k+U' k) v n=oC S U v n+oC S U' v n
 |0=>rfl
 |n+1=>by
  have ih:=RM (U:=U) (U':=U') n
  show oC S (fun k=>U k+U' k) v n+zq _ _ (U n+U' n)=oC S U v n+zq _ _ (U n)+(oC S U' v n+zq _ _ (U' n))
  rw[ih]
  unfold zq
  rw[show((U n+U' n:Nat):Int)=(U n:Int)+(U' n:Int)by omega,Int.mul_add]
  omega
theorem Mf:∀n,oC S (fun _=>0) v n=0
 |0=>rfl
 |n+1=>by
  show oC S (fun _=>0) v n+zq _ _ 0=0
  rw[Mf n];simp[zq]
theorem aaF{x:Nat}:∀n,oC S (fun k=>if k=x then 1 else 0) v n=if x<n then gd (S.sh x)-mv (S.sh x) (v x)else 0
 |0=>by simp[oC]
 |n+1=>by
  show oC S (fun k=>if k=x then 1 else 0) v n+zq _ _ (if n=x then 1 else 0)=_
  rw[aaF n]
  by_cases h:n=x
  .subst h;rw[aQ O,aP J,aQ J];simp[zq]
  rw[aP h]
  by_cases h2:x<n
  .rw[aQ h2,aQ J];simp[zq]
  rw[aP h2,aP J];simp[zq]
def RN(k:Nat):List Nat->Nat
 |[]=>0
 |x::l=>(if k=x then 1 else 0)+RN k l
theorem UG{H:Int}:∀{l:List Nat},(∀x,x∈l->x<S.n/\gd (S.sh x)<=H)->oC S (fun k=>RN k l) v S.n<=H*l.length
 |[],_=>by
  show oC S (fun _=>0) v S.n<=_
  rw[Mf];simp
 |x::l,h=>by
  have ih:=UG (l:=l) (H:=H) fun y hy=>h y (fw _ hy)
  have e:(fun k=>RN k (x::l))=fun k=>(if k=x then 1 else 0)+RN k l:=rfl
  rw[e,RM,aaF,aQ (h x az).1]
  have h1:=(h x az).2
  have h2:=afY (S.sh x) (v x)
  rw[eO,show((l.length+1:Nat):Int)=(l.length:Int)+1 by omega,Int.mul_add,Int.mul_one]
  omega
def UH(l:List sH)(k:Nat):Nat:=match l with
 |[]=>0
 |q::l=>RN k q.vars+UH l k
theorem UI:∀{l:List sH},(∀q,q∈l->∀x,x∈q.vars->x<S.n/\S.sh x=q.sh)->oC S (UH l) v S.n<=(l.map fun q=>gd q.sh*q.vars.length).sum
 |[],_=>by
  show oC S (fun _=>0) v S.n<=_
  rw[Mf];simp
 |q::l,h=>by
  have ih:=UI (l:=l) fun p hp=>h p (fw _ hp)
  have e:UH (q::l)=fun k=>RN k q.vars+UH l k:=rfl
  rw[e,RM,lf,D4]
  have:=UG (S:=S) (v:=v) (l:=q.vars) (H:=gd q.sh) fun x hx=>⟨(h q az x hx).1,by rw[(h q az x hx).2];exact lm _⟩
  omega
end
section
variable{sh:Sh}{l:List dK}{us vs:List El}
def ahy(sh:Sh)(l:List dK)(us vs:List El):Prop:=∀x,x∈l->(x.op=1->0<=x.n/\x.n<us.length/\cz sh (us.getD x.n.toNat dy)=true/\cz sh (vs.getD x.n.toNat dy)=true/\cR (us.getD x.n.toNat dy) (vs.getD x.n.toNat dy)=true)/\(x.op=2->cz sh x.c=true)
theorem Mg(hr:fX l=true)(hl:us.length=vs.length)(hi:ahy sh l us vs):
  (fP sh l us).2=true/\(fP sh l vs).2=true/\cz sh (fP sh l us).1=true/\cR (fP sh l us).1 (fP sh l vs).1=true:=by
 have key:∀n:Nat,n<=l.length->∃st su,ic sh us l n=some st/\ic sh vs l n=some su/\jh l n=some st.length/\tY st su/\(∀e∈st,cz sh e=true)/\∀e∈su,cz sh e=true:=by
  intro n
  induction n with
  |zero=>intro _;exact⟨[],[],rfl,rfl,rfl,trivial,(fun e he=>by cases he),fun e he=>by cases he⟩
  |succ n ih=>
   intro hn
   obtain⟨st,su,h1,h2,h3,h4,h5,h6⟩:=ih J
   have hx:=(ld (fB (d:=cA) (l:=l) (i:=(n:Int)) J J))
   rw[show((n+1:Nat):Int)=(n:Int)+1 by omega]
   have hlen:=h4.len
   rcases aaf hr (k:=(n:Int)) J J h3 with⟨ho,hd⟩|⟨⟨ho,hn1,Pd⟩,hd⟩
   .rcases ho with ho|ho
    .obtain⟨hx1,hx2,fm,fa,hle⟩:=(hi _ hx).1 ho
     refine⟨_,_,alS J J h1 ho ⟨hx1,hx2⟩,alS J J h2 ho ⟨hx1,J⟩,by rw[hd];simp,h4.app ⟨hle,trivial⟩,fun e he=> ?_,fun e he=> ?_⟩
     .rcases eP.1 he with q|q
      .exact h5 e q
      rw[fZ.1 q];exact fm
     rcases eP.1 he with q|q
     .exact h6 e q
     rw[fZ.1 q];exact fa
    have hk:=(hi _ hx).2 ho
    refine⟨_,_,arx J J h1 ho,arx J J h2 ho,by rw[hd];simp,h4.app ⟨jJ _,trivial⟩,fun e he=> ?_,fun e he=> ?_⟩
    .rcases eP.1 he with q|q
     .exact h5 e q
     rw[fZ.1 q];exact hk
    rcases eP.1 he with q|q
    .exact h6 e q
    rw[fZ.1 q];exact hk
   generalize hg:l.getD (n:Int).toNat cA=x at*
   have e1:=ary (s:=sh) (v:=us) (l:=l) (st:=st) (k:=(n:Int)) J J h1 Q0 Q0
   have e2:=ary (s:=sh) (v:=vs) (l:=l) (st:=su) (k:=(n:Int)) J J h2 Q0 Q0
   rw[hg]at e1 e2
   have d1:st.drop (st.length-x.n.toNat)≠[]:=fun q=>by
    have:=aK List.length q
    rw[xJ,D2]at this;omega
   have g1:∀e∈st.drop (st.length-x.n.toNat),cz sh e=true:=fun e he=>h5 e (xK he)
   have g2:∀e∈su.drop (su.length-x.n.toNat),cz sh e=true:=fun e he=>h6 e (xK he)
   have hld:=h4.drop (st.length-x.n.toNat)
   have hlt:=h4.take (st.length-x.n.toNat)
   rw[hlen]at hld hlt
   rw[<-hlen]at hld hlt
   have d2:su.drop (su.length-x.n.toNat)≠[]:=fun q=>by
    have:=aK List.length q
    rw[xJ,D2]at this;omega
   refine⟨_,_,e1,e2,?_,?_,fun e he=> ?_,fun e he=> ?_⟩
   .rw[hd,cV,eo,gk];congr 1;omega
   .rw[<-hlen]
    refine hlt.app ⟨LW hld g1 (by rw[<-hlen]at g2;exact g2),trivial⟩
   .rcases eP.1 he with q|q
    .exact h5 e (uu q)
    rw[fZ.1 q];exact y9 d1 g1
   rcases eP.1 he with q|q
   .exact h6 e (uu q)
   rw[fZ.1 q];exact y9 d2 g2
 obtain⟨st,su,h1,h2,h3,h4,h5,_⟩:=key l.length (eG _)
 rw[Rq hr J J h1,Rq hr J J h2]
 have l1:=Td hr (k:=(l.length:Int)) J J h3
 have n1:st≠[]:=fun q=>by rw[q]at l1;simp at l1
 refine⟨rfl,rfl,?_,h4.n4⟩
 cases st with
 |nil=>exact absurd O n1
 |cons a st=>exact h5 a az
end
def sI:List Int->Int->List Int
 |[],n=>[n]
 |a::l,n=>if a<n then a::sI l n else if a=n then a::l else n::a::l
def dw(l:List dK):List Int:=l.foldl (fun o x=>if x.op=1/\0<=x.n then sI o x.n else o) []
theorem Mh{i n:Int}:∀{l:List Int},i∈sI l n↔i∈l\/i=n
 |[]=>by simp[sI]
 |a::l=>by
  unfold sI
  split
  .rw[cZ,Mh,cZ,or_assoc]
  split
  .rename_i h;subst h;simp only[cZ];constructor
   .intro h;exact .inl h
   rintro(h|h)
   .exact h
   exact .inl h
  simp only[cZ];constructor
  .rintro(h|h|h)
   .exact .inr h
   .exact .inl (.inl h)
   exact .inl (.inr h)
  rintro((h|h)|h)
  .exact .inr (.inl h)
  .exact .inr (.inr h)
  exact .inl h
theorem Px{n:Int}:∀{l:List Int},l.Pairwise (· <·)->(sI l n).Pairwise (· <·)
 |[],_=>by simp[sI]
 |a::l,h=>by
  obtain⟨h1,h2⟩:=lQ.1 h
  unfold sI
  split
  .refine lQ.2 ⟨fun x hx=> ?_,Px h2⟩
   rcases Mh.1 hx with q|q
   .exact h1 x q
   omega
  split
  .exact h
  refine lQ.2 ⟨fun x hx=> ?_,h⟩
  rcases cZ.1 hx with q|q
  .omega
  have:=h1 x q;omega
theorem Py(l:List dK):∀o:List Int,(∀i,i∈l.foldl (fun o x=>if x.op=1/\0<=x.n then sI o x.n else o) o↔i∈o\/∃x∈l,x.op=1/\0<=x.n/\x.n=i)/\(o.Pairwise (· <·)->(l.foldl (fun o x=>if x.op=1/\0<=x.n then sI o x.n else o) o).Pairwise (· <·)):=by
 induction l with
 |nil=>intro o;exact⟨fun i=>az,fun h=>h⟩
 |cons a l ih=>
  intro o
  rw[r5]
  by_cases c:a.op=1/\0<=a.n
  .rw[aQ c]
   obtain⟨h1,h2⟩:=ih (sI o a.n)
   refine⟨fun i=> ?_,fun h=>h2 (Px h)⟩
   rw[h1,Mh]
   constructor
   .rintro((h|h)|⟨x,hx,h⟩)
    .exact .inl h
    .exact .inr ⟨a,az,c.1,c.2,h.symm⟩
    exact .inr ⟨x,qg,h⟩
   rintro(h|⟨x,hx,h⟩)
   .exact .inl (.inl h)
   rcases cZ.1 hx with e|hx
   .subst e;exact .inl (.inr h.2.2.symm)
   exact .inr ⟨x,hx,h⟩
  rw[aP c]
  obtain⟨h1,h2⟩:=ih o
  refine⟨fun i=> ?_,h2⟩
  rw[h1]
  constructor
  .rintro(h|⟨x,hx,h⟩)
   .exact .inl h
   exact .inr ⟨x,qg,h⟩
  rintro(h|⟨x,hx,h⟩)
  .exact .inl h
  rcases cZ.1 hx with e|hx
  .subst e;exact absurd ⟨h.1,h.2.1⟩ c
  exact .inr ⟨x,hx,h⟩
theorem rO{l:List dK}{i:Int}:i∈dw l↔∃x∈l,x.op=1/\0<=x.n/\x.n=i:=by simp_all[dw,Py]
theorem Mi(l:List dK):(dw l).Pairwise (· <·):=(Py l []).2 List.Pairwise.nil
def BO(n:Nat)(sh:Sh)(code:List dK)(to:ix):sH:=⟨sh,fun u=>(fP sh code ((List.range n).map u)).1,if to.var<0 then none else some to.var.toNat,to.c,(dw code).map Int.toNat⟩
structure Yo(S:Sys)(sh:Sh)(code:List dK)(to:ix):Prop where
 right:fX code=true
 var:∀x,x∈code->x.op=1->0<=x.n/\x.n<S.n/\S.sh x.n.toNat=sh
 con:∀x,x∈code->x.op=2->cz sh x.c=true
 to0:to.var<0->cz sh to.c=true
 to1:0<=to.var->to.var<S.n/\S.sh to.var.toNat=sh
theorem pP{n:Nat}{u:Va}{i:Nat}(h:i<n):((List.range n).map u).getD i dy=u i:=by grind
theorem ahz{S:Sys}{sh:Sh}{code:List dK}{to:ix}(h:Yo S sh code to):tQ S (BO S.n sh code to):=by
 have key:∀u v:Va,py S u->py S v->(∀i,i∈(dw code).map Int.toNat->cR (u i) (v i)=true)->ahy sh code ((List.range S.n).map u) ((List.range S.n).map v):=fun u v hu hv hl x hx=>by
  refine⟨fun ho=> ?_,h.con x hx⟩
  obtain⟨h0,h1,h2⟩:=h.var x hx ho
  rw[pP J,pP J]
  have f1:=hu x.n.toNat J;have f2:=hv x.n.toNat J
  rw[h2]at f1 f2
  exact⟨h0,Ee,f1,f2,hl _ (fU.2 ⟨x.n,rO.2 ⟨x,hx,ho,h0,rfl⟩,rfl⟩)⟩
 refine⟨fun u hu=> ?_,fun i hi=> ?_,fun u v hu hv hl=> ?_,fun k hk=> ?_⟩
 .exact(Mg h.right az (key u u hu hu fun _ _=>jJ _)).2.2.1
 .obtain⟨j,hj,rfl⟩:=fU.1 hi
  obtain⟨x,hx,ho,h0,rfl⟩:=rO.1 hj
  have:=(h.var x hx ho).2.1;omega
 .exact(Mg h.right az (key u v hu hv hl)).2.2.2
 unfold BO at hk
 by_cases c:to.var<0
 .simp[c]at hk
 simp[c]at hk
 subst hk
 have:=h.to1 J
 exact⟨J,this.2⟩
theorem zu:∀{m:List Int} {i:Nat} {n:Int},i<=m.length->(∀j:Nat,j<i->m.getD j 0<n)->(i<m.length->n<m.getD i 0)->sI m n=m.take i++n::m.drop i
 |[],i,n,h,_,_=>by simp at h;subst h;rfl
 |a::m,0,n,_,_,h3=>by
  have:=h3 az
  have:n<a:=this
  unfold sI
  rw[aP J,aP J];rfl
 |a::m,i+1,n,h,h2,h3=>by
  have h0:a<n:=h2 0 J
  have ih:=zu (m:=m) (i:=i) (n:=n) uz (fun j hj=>h2 (j+1) J) (fun hi=>h3 uA)
  unfold sI
  rw[aQ h0,ih];rfl
theorem ahA:∀{m:List Int} {i:Nat} {n:Int},i<m.length->(∀j:Nat,j<i->m.getD j 0<n)->m.getD i 0=n->sI m n=m
 |[],i,n,h,_,_=>by simp at h
 |a::m,0,n,_,_,h3=>by
  have:a=n:=h3
  unfold sI
  rw[aP J,aQ this]
 |a::m,i+1,n,h,h2,h3=>by
  have h0:a<n:=h2 0 J
  have ih:=ahA (m:=m) (i:=i) (n:=n) uz (fun j hj=>h2 (j+1) J) h3
  unfold sI
  rw[aQ h0,ih]
theorem ji{l:List dK}{k:Int}(h0:0<=k)(h1:k<l.length):dw (l.take (k+1).toNat)=if(l.getD k.toNat cA).op=1/\0<=(l.getD k.toNat cA).n then sI (dw (l.take k.toNat)) (l.getD k.toNat cA).n else dw (l.take k.toNat):=by grind[dw,Hv]
theorem Pz(l:List dK):(dw l).length<=l.length:=by
 have key:∀(l:List dK) (o:List Int),(l.foldl (fun o x=>if x.op=1/\0<=x.n then sI o x.n else o) o).length<=o.length+l.length:=fun l=>by
  induction l with
  |nil=>intro o;simp
  |cons a l ih=>
   intro o
   have hi:∀(o:List Int) (n:Int),(sI o n).length<=o.length+1:=fun o n=>by
    induction o with
    |nil=>simp[sI]
    |cons b o io=>
     unfold sI
     split
     .simp only[eO];omega
     split
     .simp
     simp
   rw[r5]
   refine jP (ih _) ?_
   have:(if a.op=1/\0<=a.n then sI o a.n else o).length<=o.length+1:=by
    split
    .exact hi o a.n
    omega
   simp only[eO];omega
 simpa[dw]using key l []
theorem aen{m:List Int}{x z:Int}{p:Int}(h0:0<=p)(h1:p<=m.length):
  rE (rE (m.map I++[I z]) ((p+1).toNat*1) (((m.map I++[I z]).drop (p.toNat*1)).take ((m.length-p.toNat)*1))) (p.toNat*1) [I x]=(m.take p.toNat++x::m.drop p.toNat).map I:=by
 have hl:(m.map I).length=m.length:=az
 have hq:p.toNat<=m.length:=J
 simp only[kP,show(p+1).toNat=p.toNat+1 by omega]
 generalize p.toNat=q at*
 have e1:((m.map I++[I z]).drop q).take (m.length-q)=(m.drop q).map I:=by
  rw[J4 J,Qe KH,iP KH]
  simp[W6]
 have l1:((m.drop q).map I).length=m.length-q:=az
 rw[e1]
 have e2:rE (m.map I++[I z]) (q+1) ((m.drop q).map I)=(m.map I++[I z]).take (q+1)++(m.drop q).map I:=by
  have e0:(m.map I++[I z]).drop (q+1+(m.length-q))=[]:=J9 (by rw[cV,hl,gk];omega)
  rw[rE,l1,e0,kV]
 have l2:((m.map I++[I z]).take (q+1)).length=q+1:=by rw[eo];simp;omega
 rw[e2,rE,Qe J,Ba,qW J,Qe (by rw[hl];omega)]
 rw[gk,List.drop_append,l2,QE,Kn,J9 (by rw[l2];exact eG _),er]
 simp[wY,W6]
theorem sJ{m:List Int}{z:Int}{u:Value}(hu:u∈m.map I++[I z]):u.oneCell'=true:=by
 rcases eP.1 hu with h|h
 .obtain⟨x,_,rfl⟩:=fU.1 h;rfl
 rw[fZ.1 h];rfl
theorem ahB{S:Sys}{sh:Sh}{code:List dK}{to:ix}(h:Yo S sh code to){x:Nat}(hx:x∈(BO S.n sh code to).vars):x<S.n/\S.sh x=sh:=by
 obtain⟨j,hj,rfl⟩:=fU.1 hx
 obtain⟨y,hy,ho,h0,rfl⟩:=rO.1 hj
 have:=h.var y hy ho
 exact⟨J,this.2.2⟩
def j6(s:lM):Sys:=⟨s.vars.length,fun i=>j4 s (s.vars.getD i gD).aT⟩
theorem asd{s:lM}{aT:Int}{code:List dK}{to:ix}(hc:codeOk s aT code=true)(ha:lF s aT to=true):Yo (j6 s) (j4 s aT) code to:=by
 simp only[codeOk,cH]at hc
 obtain⟨hi,hr⟩:=hc
 have kd:∀v kd:Int,qj s v kd aT=true->(0<=v/\v<s.vars.length)/\(s.vars.getD v.toNat gD).aT=aT:=fun v kd h=>by
  simp only[qj,cH,ep]at h
  exact⟨h.1.1,h.2⟩
 refine⟨hr,fun x hx ho=> ?_,fun x hx ho=> ?_,fun h0=> ?_,fun h0=> ?_⟩
 .have hx2:=iC.1 hi x hx
  simp only[uQ,cH,ou,A8,wg]at hx2
  obtain⟨h1,h2⟩:=kd _ _ (hx2.1.resolve_left fun q=>q ho)
  exact⟨h1.1,h1.2,by show j4 s _=_;rw[h2]⟩
 .have hx2:=iC.1 hi x hx
  simp only[uQ,cH,ou,A8,wg]at hx2
  exact hx2.2.resolve_left fun q=>q ho
 .rw[lF,aQ h0]at ha;exact ha
 rw[lF,aP J]at ha
 obtain⟨h1,h2⟩:=kd _ _ ha
 exact⟨h1.2,by show j4 s _=_;rw[h2]⟩
structure oJ where
 p:kX
 e:Value
 l:Value
 j:Value
 d:Wr
 low:El
def We(x:oJ):List Value:=Aw x.p++([x.e,x.l,x.j]++sU x.low)
theorem o7(x:oJ):(We x).length=13:=by simp[We,Aw,fy]
structure de where
 aT:Int
 cv:Value
 code:List dK
 to:ix
 why:BitVec 64
 vv:Value
 vars:List Int
def oT(x:de):List Value:=I x.aT::x.cv::(jd x.to++[U x.why,x.vv])
theorem nM(x:de):(oT x).length=13:=by simp[oT,CN]
structure zv(K:Vu)(x:de):Prop where
 code:pw K x.cv 10 x.code.length (x.code.flatMap kg)
 vars:pw K x.vv 1 x.vars.length (x.vars.map I)
theorem zv.mono{K K':Vu}{x:de}(h:zv K x)(hl:Le K K'):zv K' x:=⟨h.code.mono hl,h.vars.mono hl⟩
def cQ:de:=⟨0,.slice none 0 0,[],ags,0,.slice none 0 0,[]⟩
def oK:oJ:=⟨C1,.nilFunc,.nilFunc,.nilFunc,.base C1 tb0,dy⟩
theorem sK{K:Vu}{x:de}(h:zv K x):∀u∈(oT x).toArray,u.oneCell'=true:=by
 intro u hu
 simp only[oT,Kk,cZ,eP,Gu,Bg]at hu
 rcases hu with rfl|rfl|hu|rfl|rfl
 .rfl
 .exact(Ri h.code).1
 .exact Hu x.to u qf
 .rfl
 exact(Ri h.vars).1
inductive jj
 |aT (i:Nat)
 |var (i:Nat) (m:Int)
 |add (i:Nat) (q:de)
 |raise (v:Int) (was:El) (had:BitVec 64)
 |merge (m:Int)
 |seen (was:Int)
 |stuck
structure NTy where
 fL:FuncId
 fV:FuncId
 fA:FuncId
 fR:FuncId
 fM:FuncId
 fS:FuncId
 fE:FuncId
 tn:TypeId
 ti:TypeId
 te:TypeId
 tu:TypeId
 tq:TypeId
def ku(T:NTy)(n:Nat)(L:List a8)(x:Value×jj):Prop:=
 match x.2 with
 | .aT i=>∃b1 b2,x.1=jF T.fL #[pt b1,pt b2]/\a8.blk b1 (.cells #[pt n] T.tn (0,0))∈L/\a8.blk b2 (.cells #[I i] T.ti (0,0))∈L
 | .var i m=>∃b1 b2 b3,x.1=jF T.fV #[pt b1,pt b2,pt b3]/\a8.blk b1 (.cells #[pt n] T.tn (0,0))∈L/\a8.blk b2 (.cells #[I i] T.ti (0,0))∈L/\a8.blk b3 (.cells #[I m] T.ti (0,0))∈L
 | .add i q=>∃b1 b2 b3,x.1=jF T.fA #[pt b1,pt b2,pt b3]/\a8.blk b1 (.cells #[pt n] T.tn (0,0))∈L/\a8.blk b2 (.cells #[I i] T.ti (0,0))∈L/\a8.blk b3 (.cells (oT q).toArray T.tq (0,0))∈L
 | .raise v was had=>∃b1 b2 b3 b4,x.1=jF T.fR #[pt b1,pt b2,pt b3,pt b4]/\a8.blk b1 (.cells (jg was) T.te (0,0))∈L/\a8.blk b2 (.cells #[U had] T.tu (0,0))∈L/\a8.blk b3 (.cells #[pt n] T.tn (0,0))∈L/\a8.blk b4 (.cells #[I v] T.ti (0,0))∈L
 | .merge m=>∃b1 b2,x.1=jF T.fM #[pt b1,pt b2]/\a8.blk b1 (.cells #[pt n] T.tn (0,0))∈L/\a8.blk b2 (.cells #[I m] T.ti (0,0))∈L
 | .seen was=>∃b1 b2,x.1=jF T.fS #[pt b1,pt b2]/\a8.blk b1 (.cells #[I was] T.ti (0,0))∈L/\a8.blk b2 (.cells #[pt n] T.tn (0,0))∈L
 | .stuck=>∃b1,x.1=jF T.fE #[pt b1]/\a8.blk b1 (.cells #[pt n] T.tn (0,0))∈L
theorem ku.mono{T:NTy}{n:Nat}{L L':List a8}{x:Value×jj}(h:ku T n L x)(hs:∀e∈L,e∈L'):ku T n L' x:=by
 obtain⟨v,c⟩:=x
 cases c with
 |aT i=>obtain⟨b1,b2,h0,h1,h2⟩:=h;exact⟨b1,b2,h0,hs _ h1,hs _ h2⟩
 |var i m=>obtain⟨b1,b2,b3,h0,h1,h2,h3⟩:=h;exact⟨b1,b2,b3,h0,hs _ h1,hs _ h2,hs _ h3⟩
 |add i q=>obtain⟨b1,b2,b3,h0,h1,h2,h3⟩:=h;exact⟨b1,b2,b3,h0,hs _ h1,hs _ h2,hs _ h3⟩
 |raise v was had=>obtain⟨b1,b2,b3,b4,h0,h1,h2,h3,h4⟩:=h;exact⟨b1,b2,b3,b4,h0,hs _ h1,hs _ h2,hs _ h3,hs _ h4⟩
 |merge m=>obtain⟨b1,b2,h0,h1,h2⟩:=h;exact⟨b1,b2,h0,hs _ h1,hs _ h2⟩
 |seen was=>obtain⟨b1,b2,h0,h1,h2⟩:=h;exact⟨b1,b2,h0,hs _ h1,hs _ h2⟩
 |stuck=>obtain⟨b1,h0,h1⟩:=h;exact⟨b1,h0,hs _ h1⟩
theorem getD_eq{α:Type}{l:List α}{d:α}{k:Nat}(h:k<l.length):l.getD k d=l[k]:=by grind
theorem mE{α β:Type}{f:β->α->β}{b:β}{l:List α}{d:α}{k:Int}(h0:0<=k)(h1:k<l.length):(l.take (k+1).toNat).foldl f b=f ((l.take k.toNat).foldl f b) (l.getD k.toNat d):=by
 have hk:k.toNat<l.length:=J
 rw[show(k+1).toNat=k.toNat+1 by omega,DS hk,getD_eq hk,wU]
 rfl
theorem ahC{α:Type}{l:List α}{d:α}{p:α->Bool}{k:Int}(h0:0<=k)(h1:k<l.length)(hp:p (l.getD k.toNat d)=true):l.any p=true:=by grind
theorem amy{α:Type}{l:List α}{d:α}{p:α->Bool}(h:∀j,j<l.length->p (l.getD j d)=false):l.any p=false:=by
 rw[WM]
 intro x hx
 obtain⟨j,hj,rfl⟩:=yz.1 hx
 have:=h j hj
 rw[getD_eq hj]at this;rw[this];exact J5
def Eb(q:de):Bool:=decide (q.code.length=1)&&decide ((q.code.getD 0 cA).op=1)&&decide (0<=q.to.var)
def orW(y:BitVec 64)(ws:List (BitVec 64))(l:List Int):BitVec 64:=l.foldl (fun a v=>a|||ws.getD v.toNat 0) y
theorem ahE{y:BitVec 64}{ws:List (BitVec 64)}{l:List Int}{k:Int}(h0:0<=k)(h1:k<l.length):orW y ws (l.take (k+1).toNat)=orW y ws (l.take k.toNat)|||ws.getD (l.getD k.toNat 0).toNat 0:=by
 have hk:k.toNat<l.length:=J
 rw[show(k+1).toNat=k.toNat+1 by omega,DS hk,getD_eq hk]
 unfold orW
 rw[wU]
 rfl
def Yp(K:Vu)(qs:List de):Prop:=∀q∈qs,zv K q
theorem Yp.mono{K K':Vu}{qs:List de}(h:Yp K qs)(hl:Le K K'):Yp K' qs:=fun q hq=>(h q hq).mono hl
theorem Yp.at{K:Vu}{qs:List de}(h:Yp K qs){k:Int}(h0:0<=k)(h1:k<qs.length):zv K (qs.getD k.toNat cQ):=h _ (dc h0 h1)
def xG(q:de):Int:=q.vars.getD 0 0
def grQ(g:List (List Int))(q:de):List (List Int):=if Eb q=true then g.set (xG q).toNat (g.getD (xG q).toNat []++[q.to.var])else g
def cr(n:Nat)(qs:List de):List (List Int):=qs.foldl grQ (List.replicate n [])
theorem amz{g:List (List Int)}{q:de}:(grQ g q).length=g.length:=by grind[grQ]
theorem EG(n:Nat)(qs:List de):(cr n qs).length=n:=by
 have key:∀(qs:List de) (g:List (List Int)),(qs.foldl grQ g).length=g.length:=fun qs=>by
  induction qs with
  |nil=>intro g;rfl
  |cons q qs ih=>intro g;rw[r5,ih,amz]
 unfold cr;rw[key];simp
theorem RO{gs:List iW}{k:Nat}{x:iW}:mO (gs.set k x)=(mO gs).set k x.l:=by simp_all[mO]
theorem Mj{n:Nat}{qs:List de}{k:Int}(h0:0<=k)(h1:k<qs.length):cr n (qs.take (k+1).toNat)=grQ (cr n (qs.take k.toNat)) (qs.getD k.toNat cQ):=mE h0 h1
theorem ahF{gs:List iW}{i b:Nat}{x:iW}(h:∀y∈gs,y.l.length<=b)(hx:x.l.length<=b+1):∀y∈gs.set i x,y.l.length<=b+1:=by grind
def UJ(n:Nat)(qs:List de):Prop:=∀q∈qs,Eb q=true->0<q.vars.length/\(0<=xG q/\xG q<n)/\q.to.var<n
theorem UJ.at{n:Nat}{qs:List de}(h:UJ n qs){k:Int}(h0:0<=k)(h1:k<qs.length)(hp:Eb (qs.getD k.toNat cQ)=true):0<(qs.getD k.toNat cQ).vars.length/\(0<=xG (qs.getD k.toNat cQ)/\xG (qs.getD k.toNat cQ)<n)/\(qs.getD k.toNat cQ).to.var<n:=h _ (dc h0 h1) hp
def Ml(cl:List Nat)(ws:List (BitVec 64))(o:List (BitVec 64))(v:Nat):List (BitVec 64):=o.set (fl cl v).toNat (o.getD (fl cl v).toNat 0|||ws.getD v 0)
def IU(cl:List Nat)(q:de):Bool:=Eb q&&decide (fl cl (xG q)=fl cl q.to.var)&&decide (xG q≠q.to.var)
def I3(cl:List Nat)(o:List (BitVec 64))(q:de):List (BitVec 64):=if IU cl q=true then o.set (fl cl q.to.var).toNat (o.getD (fl cl q.to.var).toNat 0|||q.why)else o
def UK(cl:List Nat)(ws:List (BitVec 64))(n:Nat):List (BitVec 64):=(List.range n).foldl (Ml cl ws) (List.replicate n 0)
def BP(cl:List Nat)(ws:List (BitVec 64))(n:Nat)(qs:List de):List (BitVec 64):=qs.foldl (I3 cl) (UK cl ws n)
theorem CX{α:Type}{f:List (BitVec 64)->α->List (BitVec 64)}(hf:∀o a,(f o a).length=o.length):∀(l:List α) (o:List (BitVec 64)),(l.foldl f o).length=o.length
 |[],o=>rfl
 |a::l,o=>by rw[r5,CX hf,hf]
theorem acT{cl:List Nat}{ws:List (BitVec 64)}{n:Nat}{k:Int}(h0:0<=k):((List.range (k+1).toNat).foldl (Ml cl ws) (List.replicate n 0))=Ml cl ws ((List.range k.toNat).foldl (Ml cl ws) (List.replicate n 0)) k.toNat:=by
 rw[show(k+1).toNat=k.toNat+1 by omega,wV,wU];rfl
theorem Mm(cl:List Nat)(ws o:List (BitVec 64))(v:Nat):(Ml cl ws o v).length=o.length:=by simp[Ml]
theorem UL(cl:List Nat)(o:List (BitVec 64))(q:de):(I3 cl o q).length=o.length:=by grind[I3]
theorem ahG{cl:List Nat}{nd:List pN}{v:Int}(h:Fo nd cl)(hv:0<=v/\v<cl.length):0<=fl cl v/\fl cl v<cl.length:=by grind[pN,Fo,fl,mw]
theorem vF.find{T:FTy}{F m:Nat}{cs:List (List Nat)}{vW vU:Value}{cW cU:Option (Nat×Array Value)}{W:List (BitVec 64)}{ul:List (Value×jo)}{ts:List Int}{cn:Int}{L:List a8}{n:Nat}(h:vF T F m cs vW vU cW cU W ul ts cn L)(hl:(bk cs).length=n)(v:Int)(hv:0<=v/\v<n):0<=fl (bk cs) v/\fl (bk cs) v<n:=by
 obtain⟨nd,cl,zX,rfl,-,h2,-⟩:=h.now
 subst hl
 exact ahG (cl:=cl) h2 hv
def oD(p:List Int×List Bool)(i:Int):List Int×List Bool:=if p.2.getD i.toNat false=true then p else(p.1++[i],p.2.set i.toNat true)
def qP(p:List Int×List Bool)(l:List Int):List Int×List Bool:=l.foldl oD p
theorem PA{p:List Int×List Bool}{l:List Int}{k:Int}(h0:0<=k)(h1:k<l.length):qP p (l.take (k+1).toNat)=oD (qP p (l.take k.toNat)) (l.getD k.toNat 0):=mE h0 h1
theorem aaG{wl:List Int}{wi:List Bool}{i:Int}(h:(!wi.getD i.toNat false)=true):oD (wl,wi) i=(wl++[i],wi.set i.toNat true):=by grind[oD]
theorem UM{wl:List Int}{wi:List Bool}{i:Int}(h:(!wi.getD i.toNat false)=false):oD (wl,wi) i=(wl,wi):=by grind[oD]
theorem Mn(p:List Int×List Bool)(i:Int):(oD p i).2.length=p.2.length:=by grind[oD]
theorem xZ:∀{l:List Int} {p:List Int×List Bool},(qP p l).2.length=p.2.length
 |[],p=>rfl
 |i::l,p=>by
  show(qP (oD p i) l).2.length=_
  rw[xZ,Mn]
theorem amA(p:List Int×List Bool)(i:Int):(oD p i).1.length<=p.1.length+1:=by grind[oD]
theorem FJ:∀{l:List Int} {p:List Int×List Bool},(qP p l).1.length<=p.1.length+l.length
 |[],p=>by simp[qP]
 |i::l,p=>by
  have h1:=FJ (l:=l) (p:=oD p i)
  have h2:=amA p i
  show(qP (oD p i) l).1.length<=_
  rw[eO];omega
def lG(ai:List El)(us:List iW)(p:List Int×List Bool)(v:Int)(e:El):List Int×List Bool:=if qL (ai.getD v.toNat dy) e then p else qP p (us.getD v.toNat cD).l
theorem Hp.aw9{w0 w:World}{R:List a8}{t:TypeId}(K:Vu):∀{gs:List iW} {A:List a8},Hp w0 w (A++(gs.map (dr t)++R))->∃Z,Hp w0 w (A++(Z++R))/\∀x∈gs,pw (Kz K Z) x.v 1 x.l.length (x.l.map I)
 |[],A,h=>⟨[],h,fun x hx=>by cases hx⟩
 |x::gs,A,h=>by
  have h1:Hp w0 w (dr t x::(A++(gs.map (dr t)++R))):=h.perm az
  obtain⟨Z1,h2,h3,_⟩:=h1.XJ K
  have h4:Hp w0 w ((Z1++A)++(gs.map (dr t)++R)):=by rw[dg];exact h2
  obtain⟨Z,h5,h6⟩:=Hp.aw9 K h4
  refine⟨Z1++Z,h5.perm ?_,fun y hy=> ?_⟩
  .rw[dg,dg]
   exact we _ _ _
  rcases cZ.1 hy with e|hy
  .subst e;exact h3.mono (Le.zz fun a ha=>dx _ ha)
  exact(h6 y hy).mono (Le.zz fun a ha=>bt _ ha)
theorem Hp.aEr{w0 w:World}{R:List a8}{t t2:TypeId}{v:Value}{gs:List iW}(K:Vu)(h:Hp w0 w (jq iW.v v t2 gs::(gs.map (dr t)++R))):∃Z,Hp w0 w (Z++R)/\GrV (Kz K Z) v gs:=by
 obtain⟨Z,h1,h2⟩:=Hp.aw9 K (A:=[jq iW.v v t2 gs]) h
 obtain⟨Z2,h3,h4,_⟩:=Hp.XJ (L:=Z++R) h1 K
 exact⟨Z2++Z,by rw[dg];exact h3,h4.mono (Le.zz fun a ha=>dx _ ha),fun x hx=>(h2 x hx).mono (Le.zz fun a ha=>bt _ ha)⟩
structure NP where
 an:List oJ
 aT:List Int
 ai:List El
 aX:List (BitVec 64)
 us:List (List Int)
 qs:List de
 sn:Int
 cs:List (List Nat)
 sk:Bool
 wy:BitVec 64
 wr:Value
def uY(u:List (List Int))(v:Int):List (List Int):=u.set v.toNat (u.getD v.toNat []).dropLast
def sL:jj->NP->NP
 | .aT i,s=>{s with an:=s.an.take i}
 | .var i m,s=>{s with aT:=s.aT.take i,ai:=s.ai.take i,aX:=s.aX.take i,us:=s.us.take i,cs:=(Ac s.cs m).1}
 | .add i q,s=>{s with qs:=s.qs.take i,us:=q.vars.foldl uY s.us}
 | .raise v was had,s=>{s with ai:=s.ai.set v.toNat was,aX:=s.aX.set v.toNat had}
 | .merge m,s=>{s with cs:=(Ac s.cs m).1}
 | .seen was,s=>{s with sn:=was}
 | .stuck,s=>{s with sk:=false,wy:=0}
def okN:jj->NP->Prop
 | .aT i,s=>i<=s.an.length
 | .var i m,s=>i<=s.aT.length/\i<=s.ai.length/\i<=s.aX.length/\i<=s.us.length
 | .add i q,s=>i<=s.qs.length/\q.vars.Nodup/\∀v∈q.vars,0<=v/\v<s.us.length/\s.us.getD v.toNat []≠[]
 | .raise v _ _,s=>0<=v/\v<s.ai.length/\v<s.aX.length
 | .merge _,_=>True
 | .seen _,_=>True
 | .stuck,_=>True
def xm:List jj->NP->NP
 |[],s=>s
 |c::l,s=>xm l (sL c s)
def okB:List jj->NP->Prop
 |[],_=>True
 |c::l,s=>okN c s/\okB l (sL c s)
theorem UN(a b:List jj)(s:NP):xm (a++b) s=xm b (xm a s):=by
 induction a generalizing s with
 |nil=>rfl
 |cons c a ih=>exact ih _
theorem RP(a b:List jj)(s:NP):okB (a++b) s↔okB a s/\okB b (xm a s):=by
 induction a generalizing s with
 |nil=>simp[okB,xm]
 |cons c a ih=>simp only[fH,okB,xm,ih,and_assoc]
structure gh(new:List (Value×jj))(s s':NP):Prop where
 und:xm (new.map Prod.snd).reverse s'=s
 ok:okB (new.map Prod.snd).reverse s'
theorem gh.nil(s:NP):gh [] s s:=⟨rfl,trivial⟩
theorem gh.trans{a b:List (Value×jj)}{s s' s'':NP}(h:gh a s s')(h2:gh b s' s''):gh (a++b) s s'':=by grind[jj,NP,gh,UN,RP]
theorem gh.one{f:Value}{c:jj}{s s':NP}(h:sL c s'=s)(ho:okN c s'):gh [(f,c)] s s':=⟨h,ho,trivial⟩
theorem UO{α:Type}{l:List α}{k:Nat}{d e:α}(h:k<l.length):(l.set k e).set k (l.getD k d)=l:=jV
theorem Yq{f:Value}{s:NP}{v:Int}{e:El}{y:BitVec 64}(h1:0<=v/\v<s.ai.length)(h2:v<s.aX.length):
  gh [(f,.raise v (s.ai.getD v.toNat dy) (s.aX.getD v.toNat 0))] s {s with ai:=s.ai.set v.toNat e,aX:=s.aX.set v.toNat y}:=by
 refine gh.one ?_ ⟨h1.1,by simpa using h1.2,by simpa using h2⟩
 simp only[sL]
 rw[UO J,UO J]
def EH:jj->Prop
 | .raise _ _ _=>True
 | .merge _=>True
 |_=>False
def amB:jj->Prop
 | .add _ _=>False
 |_=>True
theorem EH.na{c:jj}(h:EH c):amB c:=by cases c<;>first|trivial|exact h.elim
def rgS(us:List iW)(e:El)(s:List El×(List Int×List Bool))(k:Int):List El×(List Int×List Bool):=(s.1.set k.toNat e,lG s.1 us s.2 k e)
def xn(ai:List El)(us:List iW)(p:List Int×List Bool)(ks:List Int)(e:El):List El×(List Int×List Bool):=ks.foldl (rgS us e) (ai,p)
theorem ahH{ai:List El}{us:List iW}{p:List Int×List Bool}{ks:List Int}{e:El}{k:Int}(h0:0<=k)(h1:k<ks.length):xn ai us p (ks.take (k+1).toNat) e=rgS us e (xn ai us p (ks.take k.toNat) e) (ks.getD k.toNat 0):=mE h0 h1
theorem x7{us:List iW}{e:El}:∀{ks:List Int} {ai:List El} {p:List Int×List Bool},(xn ai us p ks e).1=fY ai ks e
 |[],ai,p=>rfl
 |k::ks,ai,p=>by
  show(xn (ai.set k.toNat e) us (lG ai us p k e) ks e).1=fY (ai.set k.toNat e) ks e
  exact x7
theorem Mo{ai:List El}{us:List iW}{p:List Int×List Bool}{v:Int}{e:El}:(lG ai us p v e).2.length=p.2.length:=by grind[lG,xZ]
theorem JV{us:List iW}{e:El}:∀{ks:List Int} {ai:List El} {p:List Int×List Bool},(xn ai us p ks e).2.2.length=p.2.length
 |[],ai,p=>rfl
 |k::ks,ai,p=>by
  show(xn (ai.set k.toNat e) us (lG ai us p k e) ks e).2.2.length=_
  rw[JV,Mo]
theorem amC{ai:List El}{us:List iW}{p:List Int×List Bool}{v:Int}{e:El}(h:(us.getD v.toNat cD).l.length<=1000):(lG ai us p v e).1.length<=p.1.length+1000:=by grind[lG,FJ,cD]
theorem ahI{us:List iW}{e:El}(hu:∀k:Nat,k<us.length->(us.getD k cD).l.length<=1000):∀{ks:List Int} {ai:List El} {p:List Int×List Bool},(∀k∈ks,0<=k/\k<us.length)->(xn ai us p ks e).2.1.length<=p.1.length+1000*ks.length
 |[],ai,p,_=>by simp[xn]
 |k::ks,ai,p,h=>by
  have h1:=ahI (e:=e) hu (ks:=ks) (ai:=ai.set k.toNat e) (p:=lG ai us p k e) fun q hq=>h q (by simp[hq])
  have h2:=amC (ai:=ai) (p:=p) (v:=k) (e:=e) (hu k.toNat (by have:=h k az;omega))
  show(xn (ai.set k.toNat e) us (lG ai us p k e) ks e).2.1.length<=_
  rw[eO];omega
theorem lY{cl:List Nat}{i k:Int}(h:k∈bK cl i):(0<=i/\i<cl.length)/\0<=k/\k<cl.length/\cg cl k.toNat=cg cl i.toNat:=by grind[bK,zg]
theorem HI{cl:List Nat}{i k:Int}:k∈bK cl i↔(0<=i/\i<cl.length)/\0<=k/\k<cl.length/\cg cl k.toNat=cg cl i.toNat:=by grind[lY,bK,Int.toNat_of_nonneg,zg]
theorem uZ{cl:List Nat}{i:Int}:(bK cl i).length<=cl.length:=by
 unfold bK;split
 .rw[gj]
  exact jP (List.length_filter_le ..) az
 simp
theorem UP{cs:List (List Nat)}{i j:Int}:(iT cs i j).2=true/\(∃a,(iT cs i j).1=a::cs)\/(iT cs i j).2=false/\(iT cs i j).1=cs:=by grind[iT]
theorem Yr{f:Value}{s:NP}{i j:Int}(h:0<s.cs.length)(hu:(iT s.cs i j).2=true):
  gh [(f,.merge ((s.cs.length:Int)-1))] s {s with cs:=(iT s.cs i j).1}:=by
 refine gh.one ?_ trivial
 rcases UP (cs:=s.cs) (i:=i) (j:=j)with⟨_,a,e⟩|⟨e,_⟩
 .rw[e]
  simp only[sL]
  have:Ac (a::s.cs) ((s.cs.length:Int)-1)=(s.cs,true):=by
   unfold Ac
   rw[aP (by simp only[eO];omega),show(a::s.cs).length-1-(max 0 ((s.cs.length:Int)-1)).toNat=1 by simp only[eO];omega]
   rfl
  rw[this]
 rw[hu]at e;cases e
theorem acV{cs:List (List Nat)}{i j:Int}(h:(iT cs i j).2=false):(iT cs i j).1=cs:=by grind[UP]
structure Wf(T:NT)(K:Vu)(ids:List Nat)(tl:List (Nat×Rl))(x:oJ):Prop where
 ops:AA T K x.d x.e x.l x.j
 Ek:x.d.Ek ids tl
 sh:x.d.sh.sh=x.p.sh
 Aa:lB K x.p
 dep:x.d.dep<=1
theorem Wf.mono{T:NT}{K K':Vu}{ids:List Nat}{tl:List (Nat×Rl)}{x:oJ}(h:Wf T K ids tl x)(hl:Le K K'):Wf T K' ids tl x:=⟨h.ops.mono hl,h.Ek,h.sh,h.Aa.mono hl,h.dep⟩
def UQ(T:NT)(K:Vu)(ids:List Nat)(tl:List (Nat×Rl))(l:List oJ):Prop:=∀x∈l,Wf T K ids tl x
theorem UQ.mono{T:NT}{K K':Vu}{ids:List Nat}{tl:List (Nat×Rl)}{l:List oJ}(h:UQ T K ids tl l)(hl:Le K K'):UQ T K' ids tl l:=fun x hx=>(h x hx).mono hl
theorem UQ.at{T:NT}{K:Vu}{ids:List Nat}{tl:List (Nat×Rl)}{l:List oJ}(h:UQ T K ids tl l){k:Int}(h0:0<=k)(h1:k<l.length):Wf T K ids tl (l.getD k.toNat oK):=h _ (dc h0 h1)
theorem aoY{d:Wr}{ids:List Nat}{tl:List (Nat×Rl)}{s:Sh}(h:d.Ek ids tl)(hs:d.sh.sh=s)(a b:El):jg (oz d.tb a b)=jg (fC s a b):=by
 subst hs
 refine rB ?_
 induction d with
 |base p tb=>exact acH h.1 _ _
 |wrap m d ih=>exact ih h.2
def skQ(cl:List Nat)(q:de):Bool:=Eb q&&decide (fl cl (xG q)=fl cl q.to.var)
structure LkO where
 ok:Bool
 ai:List El
 aX:List (BitVec 64)
 wl:List Int
 wi:List Bool
 wy:BitVec 64
 ks:List Kd
def UR(d:Wr)(ks:List Kd)(f:Ct):Ct:=ks.foldl (fun f k=>d.tick k f) f
section
variable(cl:List Nat)(us:List iW)(sh:Sh)(q:de)(ai:List El)(aX:List (BitVec 64))(wl:List Int)(wi:List Bool)(wy:BitVec 64)
def lkE:El:=(fP sh q.code ai).1
def lkJ:El:=fC sh (ai.getD q.to.var.toNat dy) (lkE sh q ai)
def lkR:LkO:=
 ⟨true,(xn ai us (wl,wi) (bK cl q.to.var) (lkJ sh q ai)).1,fY aX (bK cl q.to.var) (aX.getD q.to.var.toNat 0|||orW q.why aX q.vars),(xn ai us (wl,wi) (bK cl q.to.var) (lkJ sh q ai)).2.1,(xn ai us (wl,wi) (bK cl q.to.var) (lkJ sh q ai)).2.2,wy,[.e,.l,.j]⟩
def mP:LkO:=
 if skQ cl q=true then⟨true,ai,aX,wl,wi,wy,[]⟩
 else if q.to.var<0 then
  if cR (lkE sh q ai) q.to.c=true then⟨true,ai,aX,wl,wi,wy,[.e,.l]⟩else⟨false,ai,aX,wl,wi,orW q.why aX q.vars,[.e,.l]⟩
 else if cR (lkE sh q ai) (ai.getD q.to.var.toNat dy)=true then⟨true,ai,aX,wl,wi,wy,[.e,.l]⟩
 else lkR cl us sh q ai aX wl wi wy
end
structure oV(f f':Ct)(a b c:Nat):Prop where
 e:∀i,(f i).e<=(f' i).e/\(f' i).e<=(f i).e+a
 l:∀i,(f i).l<=(f' i).l/\(f' i).l<=(f i).l+b
 j:∀i,(f i).j<=(f' i).j/\(f' i).j<=(f i).j+c
theorem oV.refl(f:Ct):oV f f 0 0 0:=⟨fun i=>J,fun i=>J,fun i=>J⟩
theorem oV.trans{f g h:Ct}{a b c a' b' c':Nat}(p:oV f g a b c)(q:oV g h a' b' c'):oV f h (a+a') (b+b') (c+c'):=
 ⟨fun i=>by have:=p.e i;have:=q.e i;omega,fun i=>by have:=p.l i;have:=q.l i;omega,fun i=>by have:=p.j i;have:=q.j i;omega⟩
theorem oV.more{f g:Ct}{a b c a' b' c':Nat}(p:oV f g a b c)(ha:a<=a')(hb:b<=b')(hc:c<=c'):oV f g a' b' c':=
 ⟨fun i=>by have:=p.e i;omega,fun i=>by have:=p.l i;omega,fun i=>by have:=p.j i;omega⟩
theorem oV.ok{f g:Ct}{a b c n:Nat}(p:oV f g a b c)(h:EC n f):EC (n+a+b+c) g:=fun i=>by
 obtain⟨⟨h1,h2⟩,⟨h3,h4⟩,h5,h6⟩:=h i
 have:=p.e i;have:=p.l i;have:=p.j i
 exact⟨⟨J,J⟩,⟨J,J⟩,J,J⟩
theorem x8{d:Wr}(h:d.dep<=1)(f:Ct):oV f (d.tick .e f) 1 0 0/\oV f (d.tick .l f) 0 1 0/\oV f (d.tick .j f) 0 0 1:=by
 cases d with
 |base p tb=>exact⟨(oV.refl f).more J J J,(oV.refl f).more J J J,(oV.refl f).more J J J⟩
 |wrap m d=>
  cases d with
  |wrap m' d=>simp[Wr.dep]at h
  |base p tb=>
   have key:∀i,(vM f m ((Kd.e).up (f m)) i).e=(f i).e+(if i=m then 1 else 0)/\(vM f m ((Kd.e).up (f m)) i).l=(f i).l/\(vM f m ((Kd.e).up (f m)) i).j=(f i).j/\
     (vM f m ((Kd.l).up (f m)) i).l=(f i).l+(if i=m then 1 else 0)/\(vM f m ((Kd.l).up (f m)) i).e=(f i).e/\(vM f m ((Kd.l).up (f m)) i).j=(f i).j/\
     (vM f m ((Kd.j).up (f m)) i).j=(f i).j+(if i=m then 1 else 0)/\(vM f m ((Kd.j).up (f m)) i).l=(f i).l/\(vM f m ((Kd.j).up (f m)) i).e=(f i).e:=fun i=>by
    unfold vM
    by_cases e:i=m
    .subst e;simp[Kd.up]
    simp[e]
   refine⟨⟨fun i=> ?_,fun i=> ?_,fun i=> ?_⟩,⟨fun i=> ?_,fun i=> ?_,fun i=> ?_⟩,⟨fun i=> ?_,fun i=> ?_,fun i=> ?_⟩⟩<;>(show _/\_;have:=key i;simp only[Wr.tick,jv];by_cases e:i=m<;>simp only[e,s5,xd]at this<;>(try subst e)<;>omega)
theorem US{d:Wr}(h:d.dep<=1)(cl:List Nat)(us:List iW)(sh:Sh)(q:de)(ai:List El)(aX:List (BitVec 64))(wl:List Int)(wi:List Bool)(wy:BitVec 64)(f:Ct):
  oV f (UR d (mP cl us sh q ai aX wl wi wy).ks f) 1 1 1:=by
 have e2:oV f (UR d [.e,.l] f) 1 1 1:=((x8 h f).1.trans (x8 h _).2.1).more J J J
 have e3:oV f (UR d [.e,.l,.j] f) 1 1 1:=(((x8 h f).1.trans (x8 h _).2.1).trans (x8 h _).2.2).more J J J
 unfold mP
 split
 .exact(oV.refl f).more J J J
 split
 .split
  .exact e2
  exact e2
 split
 .exact e2
 exact e3
theorem UU{l:List Bool}{k j:Nat}{a:Bool}(hk:k<l.length):(l.set k a).getD j false=if k=j then a else l.getD j false:=by grind
structure ud(wl:List Int)(wi:List Bool):Prop where
 nd:wl.Nodup
 mem:∀i,i∈wl↔(0<=i/\i<wi.length)/\wi.getD i.toNat false=true
theorem ud.len{wl:List Int}{wi:List Bool}(h:ud wl wi):wl.length<=wi.length:=by
 have h1:(wl.map Int.toNat).Nodup:=by
  refine List.Pairwise.map _ ?_ (aej (S:=fun a b=>a.toNat≠b.toNat) ?_ h.nd)
  .exact fun a b q=>q
  intro a b ha hb hab e
  have:=((h.mem a).1 ha).1;have:=((h.mem b).1 hb).1
  exact hab J
 have h2:(wl.map Int.toNat).length<=(List.range wi.length).length:=by
  refine h1.length_le_of_subset fun x hx=> ?_
  obtain⟨a,ha,rfl⟩:=fU.1 hx
  have:=((h.mem a).1 ha).1
  exact oL.2 J
 simpa using h2
theorem ud.put{wl:List Int}{wi:List Bool}(h:ud wl wi){i:Int}(hi:0<=i/\i<wi.length):ud (oD (wl,wi) i).1 (oD (wl,wi) i).2:=by grind[ud,oD,UU]
theorem ud.take{x:Int}{wl:List Int}{wi:List Bool}(h:ud (x::wl) wi):ud wl (wi.set x.toNat false):=by grind[ud,UU]
theorem ud.qP{l:List Int}:∀{wl:List Int} {wi:List Bool},ud wl wi->(∀i∈l,0<=i/\i<wi.length)->ud (qP (wl,wi) l).1 (qP (wl,wi) l).2:=by
 induction l with
 |nil=>intro wl wi h _;exact h
 |cons i l ih=>
  intro wl wi h hl
  have h1:=h.put (hl i az)
  have h2:=ih h1 (fun j hj=>by have:=hl j (fw _ hj);rw[Mn];exact this)
  exact h2
theorem ud.xn{us:List iW}{e:El}{b:Nat}(hu:∀k:Nat,k<us.length->∀i∈(us.getD k cD).l,0<=i/\i<b){ks:List Int}:∀{ai:List El} {wl:List Int} {wi:List Bool},ud wl wi->wi.length=b->(∀k∈ks,0<=k/\k<us.length)->ud (xn ai us (wl,wi) ks e).2.1 (xn ai us (wl,wi) ks e).2.2:=by
 induction ks with
 |nil=>intro ai wl wi h _ _;exact h
 |cons k ks ih=>
  intro ai wl wi h hb hk
  have hk0:=hk k az
  have h1:ud (lG ai us (wl,wi) k e).1 (lG ai us (wl,wi) k e).2:=by
   unfold lG
   split
   .exact h
   exact h.qP fun i hi=>by have:=hu k.toNat J i hi;omega
  exact ih (ai:=ai.set k.toNat e) (wl:=(lG ai us (wl,wi) k e).1) (wi:=(lG ai us (wl,wi) k e).2) h1 (Mo.trans hb) fun q hq=>hk q (fw _ hq)
theorem Sl.frI{w:World}{v:Value}{l:List Int}(h:Sl w v 1 l.length (l.map I))(o:Nat)(ho:o<=l.length):Sl w (om v 1 o) 1 (l.drop o).length ((l.drop o).map I):=by
 have:=h.fr o ho
 rw[kP,<-W6]at this
 rw[xJ];exact this
def rX(cs:List (List Nat))(ks:List Int)(k:Nat):List (List Nat):=(List.range k).foldl (fun(c:List (List Nat)) (i:Nat)=>(iT c i (ks.getD i 0)).1) cs
theorem FK{cs:List (List Nat)}{ks:List Int}{k:Int}(h0:0<=k):rX cs ks (k+1).toNat=(iT (rX cs ks k.toNat) k (ks.getD k.toNat 0)).1:=by
 unfold rX
 rw[show(k+1).toNat=k.toNat+1 by omega,wV,wU,r5,List.foldl_nil,fN h0]
theorem acW{cs:List (List Nat)}{i j:Int}:(bk (iT cs i j).1).length=(bk cs).length:=by grind[bk,iT,HF]
theorem wD{cs:List (List Nat)}{ks:List Int}:∀k,(bk (rX cs ks k)).length=(bk cs).length
 |0=>rfl
 |k+1=>by
  have:=FK (cs:=cs) (ks:=ks) (k:=(k:Int)) J
  rw[show((k:Int)+1).toNat=k+1 by omega]at this
  rw[this,acW,show((k:Int)).toNat=k by omega,wD k]
def u5(sh:Sh)(ai:List El)(e:El)(ks:List Int):El:=ks.foldl (fun e k=>if qL (ai.getD k.toNat dy) e then e else fC sh e (ai.getD k.toNat dy)) e
theorem GM{sh:Sh}{ai:List El}{e:El}{ks:List Int}{k:Int}(h0:0<=k)(h1:k<ks.length):u5 sh ai e (ks.take (k+1).toNat)=(if qL (ai.getD (ks.getD k.toNat 0).toNat dy) (u5 sh ai e (ks.take k.toNat))then u5 sh ai e (ks.take k.toNat)else fC sh (u5 sh ai e (ks.take k.toNat)) (ai.getD (ks.getD k.toNat 0).toNat dy)):=mE h0 h1
structure x9 where
 ai:List El
 aX:List (BitVec 64)
 wl:List Int
 wi:List Bool
def co1(cl:List Nat)(us:List iW)(an:List oJ)(aT:List Int)(rs:List (BitVec 64))(s:x9)(v:Nat):x9:=
 if fl cl v=v/\(bK cl v).length≠1 then
  let e:=u5 (an.getD (aT.getD v 0).toNat oK).p.sh s.ai (s.ai.getD v dy) ((bK cl v).drop 1)
  ⟨(xn s.ai us (s.wl,s.wi) (bK cl v) e).1,fY s.aX (bK cl v) (rs.getD v 0),(xn s.ai us (s.wl,s.wi) (bK cl v) e).2.1,(xn s.ai us (s.wl,s.wi) (bK cl v) e).2.2⟩
 else s
def coA(cl:List Nat)(us:List iW)(an:List oJ)(aT:List Int)(rs:List (BitVec 64))(s:x9)(k:Nat):x9:=(List.range k).foldl (co1 cl us an aT rs) s
theorem BR{cl:List Nat}{us:List iW}{an:List oJ}{aT:List Int}{rs:List (BitVec 64)}{s:x9}{k:Int}(h0:0<=k):coA cl us an aT rs s (k+1).toNat=co1 cl us an aT rs (coA cl us an aT rs s k.toNat) k.toNat:=by
 unfold coA
 rw[show(k+1).toNat=k.toNat+1 by omega,wV,wU];rfl
def coJ(cl:List Nat):Nat->Nat
 |0=>0
 |v+1=>coJ cl v+(if fl cl v=v then(bK cl v).length-1 else 0)
theorem Te{cl:List Nat}{k:Int}(h0:0<=k):coJ cl (k+1).toNat=coJ cl k.toNat+(if fl cl k=k then(bK cl k).length-1 else 0):=by
 rw[show(k+1).toNat=k.toNat+1 by omega]
 show coJ cl k.toNat+(if fl cl ((k.toNat:Nat):Int)=((k.toNat:Nat):Int)then(bK cl ((k.toNat:Nat):Int)).length-1 else 0)=_
 rw[fN h0]
theorem Ys{cl:List Nat}:∀v,coJ cl v<=cl.length*v
 |0=>eG _
 |v+1=>by
  have h1:=Ys (cl:=cl) v
  have h2:=uZ (cl:=cl) (i:=(v:Int))
  show coJ cl v+_<=_
  rw[Nat.mul_add,kP]
  split<;>omega
theorem ahK{cl:List Nat}{k:Int}(h:0<=k/\k<cl.length):1<=(bK cl k).length:=Qj (HI.2 ⟨h,h.1,h.2,rfl⟩)
theorem aaI{cl:List Nat}{us:List iW}{an:List oJ}{aT:List Int}{rs:List (BitVec 64)}{s:x9}{k:Int}(h0:0<=k)(h1:fl cl k=k)(h2:(bK cl k).length≠1):
 co1 cl us an aT rs s k.toNat=⟨(xn s.ai us (s.wl,s.wi) (bK cl k) (u5 (an.getD (aT.getD k.toNat 0).toNat oK).p.sh s.ai (s.ai.getD k.toNat dy) ((bK cl k).drop 1))).1,fY s.aX (bK cl k) (rs.getD k.toNat 0),(xn s.ai us (s.wl,s.wi) (bK cl k) (u5 (an.getD (aT.getD k.toNat 0).toNat oK).p.sh s.ai (s.ai.getD k.toNat dy) ((bK cl k).drop 1))).2.1,(xn s.ai us (s.wl,s.wi) (bK cl k) (u5 (an.getD (aT.getD k.toNat 0).toNat oK).p.sh s.ai (s.ai.getD k.toNat dy) ((bK cl k).drop 1))).2.2⟩:=by grind[co1]
theorem RQ{cl:List Nat}{us:List iW}{an:List oJ}{aT:List Int}{rs:List (BitVec 64)}{s:x9}{k:Int}(h0:0<=k)(h1:¬(fl cl k=k/\(bK cl k).length≠1)):co1 cl us an aT rs s k.toNat=s:=by grind[co1]
structure PB(b:Nat)(n k:Nat)(s:x9):Prop where
 lv:s.ai.length=n
 ly:s.aX.length=k
 li:s.wi.length=b
 wq:ud s.wl s.wi
theorem ahL{cl:List Nat}{us:List iW}{an:List oJ}{aT:List Int}{rs:List (BitVec 64)}{s:x9}{b n k v:Nat}(hu:∀k:Nat,k<us.length->∀i∈(us.getD k cD).l,0<=i/\i<b)(hl:cl.length=us.length)(h:PB b n k s):PB b n k (co1 cl us an aT rs s v):=by
 unfold co1
 split
 .exact⟨by simp only[x7,iK];exact h.lv,by simp only[iK];exact h.ly,by simp only[JV];exact h.li,h.wq.xn hu h.li fun q hq=>by have:=lY hq;omega⟩
 exact h
theorem Yt{cl:List Nat}{us:List iW}{an:List oJ}{aT:List Int}{rs:List (BitVec 64)}{s:x9}{b n k:Nat}(hu:∀k:Nat,k<us.length->∀i∈(us.getD k cD).l,0<=i/\i<b)(hl:cl.length=us.length)(h:PB b n k s):∀j,PB b n k (coA cl us an aT rs s j)
 |0=>h
 |j+1=>by
  have:=BR (cl:=cl) (us:=us) (an:=an) (aT:=aT) (rs:=rs) (s:=s) (k:=(j:Int)) J
  rw[show((j:Int)+1).toNat=j+1 by omega]at this
  rw[this]
  exact ahL hu hl (Yt hu hl h j)
structure CoO where
 cs:List (List Nat)
 s:x9
 j:Nat
noncomputable def rP(cs:List (List Nat))(us:List iW)(an:List oJ)(aT:List Int)(qs:List de)(sn:Int)(n:Nat)(s:x9):CoO:=
 if(qs.drop sn.toNat).any Eb=true then
  let cs':=rX cs (oA (cr n qs)) n
  if leads (bk cs')=leads (bk cs)then⟨cs',s,0⟩
  else⟨cs',coA (bk cs') us an aT (BP (bk cs') s.aX n qs) s n,coJ (bk cs') n⟩
 else⟨cs,s,0⟩
structure QOk(nl n:Nat)(q:de):Prop where
 aT:0<=q.aT/\q.aT<nl
 code:q.code.length<=1000
 to:q.to.var<n
 pl:Eb q=true->0<q.vars.length/\0<=xG q/\xG q<n
 vars:∀v∈q.vars,0<=v/\v<n
def Yu(nl n:Nat)(qs:List de):Prop:=∀q∈qs,QOk nl n q
theorem Yu.pl{nl n:Nat}{qs:List de}(h:Yu nl n qs):UJ n qs:=fun q hq hp=>⟨((h q hq).pl hp).1,((h q hq).pl hp).2,(h q hq).to⟩
theorem Yu.at{nl n:Nat}{qs:List de}(h:Yu nl n qs){k:Int}(h0:0<=k)(h1:k<qs.length):QOk nl n (qs.getD k.toNat cQ):=h _ (dc h0 h1)
def upI(a:Int)(k:Nat):List Int:=(List.range k).map fun i:Nat=>a+(i:Int)
theorem ahM{a k:Int}(h:a<=k):upI a (k+1-a).toNat=upI a (k-a).toNat++[k]:=by
 unfold upI
 rw[show(k+1-a).toNat=(k-a).toNat+1 by omega,wV,gA]
 simp only[lf,Bd]
 rw[show a+((k-a).toNat:Int)=k by omega]
theorem acX{p:List Int×List Bool}{l:List Int}{k:Int}:qP p (l++[k])=oD (qP p l) k:=by grind[qP]
def UW(c:x9)(sn:Int)(n:Nat):x9:=⟨c.ai,c.aX,(qP (c.wl,c.wi) (upI sn ((n:Int)-sn).toNat)).1,(qP (c.wl,c.wi) (upI sn ((n:Int)-sn).toNat)).2⟩
section
variable{cl:List Nat}{us:List iW}{sh:Sh}{q:de}{ai:List El}{aX:List (BitVec 64)}{wl:List Int}{wi:List Bool}{wy:BitVec 64}
theorem asg(h:(mP cl us sh q ai aX wl wi wy).ok=true):(mP cl us sh q ai aX wl wi wy).wy=wy:=by
 unfold mP at h⊢
 split
 .rfl
 rename_i h1
 rw[aP h1]at h
 split
 .rename_i h2
  rw[aQ h2]at h
  split
  .rfl
  rename_i h3;rw[aP h3]at h;cases h
 split<;>rfl
theorem asi(h:(mP cl us sh q ai aX wl wi wy).ok=false):(mP cl us sh q ai aX wl wi wy).ai=ai/\(mP cl us sh q ai aX wl wi wy).aX=aX:=by
 unfold mP at h⊢
 split
 .exact⟨rfl,rfl⟩
 rename_i h1
 rw[aP h1]at h
 split
 .split<;>exact⟨rfl,rfl⟩
 rename_i h2
 rw[aP h2]at h
 split
 .exact⟨rfl,rfl⟩
 rename_i h3;rw[aP h3]at h;cases h
theorem ahN{b n k:Nat}(hu:∀k:Nat,k<us.length->∀i∈(us.getD k cD).l,0<=i/\i<b)(hl:cl.length=us.length)(h:PB b n k ⟨ai,aX,wl,wi⟩):
  PB b n k ⟨(mP cl us sh q ai aX wl wi wy).ai,(mP cl us sh q ai aX wl wi wy).aX,(mP cl us sh q ai aX wl wi wy).wl,(mP cl us sh q ai aX wl wi wy).wi⟩:=by
 unfold mP
 split
 .exact h
 split
 .split<;>exact h
 split
 .exact h
 exact⟨by simp only[lkR,x7,iK];exact h.lv,by simp only[lkR,iK];exact h.ly,by simp only[lkR,JV];exact h.li,h.wq.xn hu h.li fun q hq=>by have:=lY hq;omega⟩
end
theorem PB.take{b n k:Nat}{ai:List El}{aX:List (BitVec 64)}{x:Int}{wl:List Int}{wi:List Bool}(h:PB b n k ⟨ai,aX,x::wl,wi⟩):(0<=x/\x<b)/\PB b n k ⟨ai,aX,wl,wi.set x.toNat false⟩:=by
 have hx:=((h.wq.mem x).1 az).1
 have hl:=h.li
 simp only at hx hl
 exact⟨J,h.lv,h.ly,by simp only[mM];exact hl,h.wq.take⟩
theorem asj{b n k:Nat}{c:x9}(h:PB b n k c){sn:Int}(h0:0<=sn):PB b n k (UW c sn b):=by
 have hl:∀i∈upI sn ((b:Int)-sn).toNat,0<=i/\i<(c.wi.length:Int):=fun i hi=>by
  obtain⟨j,hj,rfl⟩:=fU.1 hi
  have:=oL.1 hj
  have:=h.li
  omega
 exact⟨h.lv,h.ly,(xZ).trans h.li,h.wq.qP hl⟩
theorem acY{f:Value}{s:NP}{k:Int}:gh [(f,.seen s.sn)] s {s with sn:=k}:=gh.one O trivial
def SpR(cl:List Nat)(us:List iW)(an:List oJ)(qs:List de)(s:x9)(ok:Bool)(wy wy':BitVec 64):Prop:=
 (ok=true/\s.wl=[]/\wy'=wy)\/(ok=false/\∃x wl,s.wl=x::wl/\(mP cl us (an.getD (qs.getD x.toNat cQ).aT.toNat oK).p.sh (qs.getD x.toNat cQ) s.ai s.aX wl (s.wi.set x.toNat false) wy).ok=false/\wy'=(mP cl us (an.getD (qs.getD x.toNat cQ).aT.toNat oK).p.sh (qs.getD x.toNat cQ) s.ai s.aX wl (s.wi.set x.toNat false) wy).wy)
theorem amE{b n k:Nat}{c:x9}(h:PB b n k c){l:List Int}(hl:∀i∈l,0<=i/\i<(b:Int)):PB b n k ⟨c.ai,c.aX,(qP (c.wl,c.wi) l).1,(qP (c.wl,c.wi) l).2⟩:=
 ⟨h.lv,h.ly,(xZ).trans h.li,h.wq.qP fun i hi=>by have:=hl i hi;have:=h.li;omega⟩
theorem HJ(n:Nat):ud [] (List.replicate n false):=by grind[ud]
theorem asl{cs:List (List Nat)}{us:List iW}{an:List oJ}{aT:List Int}{qs:List de}{sn:Int}{ai:List El}{aX:List (BitVec 64)}(hl:(bk cs).length=us.length)(hu:∀k:Nat,k<us.length->∀i∈(us.getD k cD).l,0<=i/\i<(qs.length:Int))(hn:ai.length=us.length):
 PB qs.length ai.length aX.length (rP cs us an aT qs sn ai.length ⟨ai,aX,[],List.replicate qs.length false⟩).s:=by grind[PB,HJ,rP,Yt,wD]
theorem amF{cs:List (List Nat)}{us:List iW}{an:List oJ}{aT:List Int}{qs:List de}{sn:Int}{n:Nat}{s:x9}:(bk (rP cs us an aT qs sn n s).cs).length=(bk cs).length:=by grind[rP,wD]
theorem axb{cs:List (List Nat)}{us:List iW}{an:List oJ}{aT:List Int}{qs:List de}{sn:Int}{n:Nat}{s:x9}:(rP cs us an aT qs sn n s).j<=(bk cs).length*n:=by grind[rP,Ys,bk,rX,oA,cr,wD]
theorem aaJ:∀(l:List jj) (s:NP) (y:BitVec 64),(∀c∈l,EH c)->xm l {s with wy:=y}={xm l s with wy:=y}/\(okB l s->okB l {s with wy:=y})
 |[],s,y,_=>⟨rfl,fun h=>h⟩
 |c::l,s,y,h=>by
  have e:sL c {s with wy:=y}={sL c s with wy:=y}/\(okN c s->okN c {s with wy:=y}):=by
   have:=h c az
   cases c<;>first|exact this.elim|exact⟨rfl,fun h=>h⟩
  have ih:=aaJ l (sL c s) y fun c hc=>h c (fw _ hc)
  refine⟨?_,fun⟨h1,h2⟩=>⟨e.2 h1,?_⟩⟩
  .show xm l (sL c {s with wy:=y})=_
   rw[e.1];exact ih.1
  show okB l (sL c {s with wy:=y})
  rw[e.1];exact ih.2 h2
theorem gh.wy{new:List (Value×jj)}{s s':NP}(h:gh new s s')(hr:∀x∈new,EH x.2)(y:BitVec 64):gh new {s with wy:=y} {s' with wy:=y}:=by grind[jj,NP,gh,EH,aaJ]
theorem oQ.Dy{T:UT}{F:Nat}{L L':List a8}{x:Value×jo}(h:oQ T F L x)(hs:∀b o,a8.blk b o∈L->a8.blk b o∈L'):oQ T F L' x:=by
 obtain⟨v,u⟩:=x
 cases u with
 |add n=>obtain⟨b1,b2,h1,h2,h3⟩:=h;exact⟨b1,b2,h1,hs _ _ h2,hs _ _ h3⟩
 |set i b=>obtain⟨b1,b2,b3,h1,h2,h3,h4⟩:=h;exact⟨b1,b2,b3,h1,hs _ _ h2,hs _ _ h3,hs _ _ h4⟩
theorem vF.Dy{T:FTy}{F m:Nat}{cs:List (List Nat)}{vW vU:Value}{cW cU:Option (Nat×Array Value)}{W:List (BitVec 64)}{ul:List (Value×jo)}{ts:List Int}{cn:Int}{L L':List a8}(h:vF T F m cs vW vU cW cU W ul ts cn L)(hs:∀b o,a8.blk b o∈L->a8.blk b o∈L'):vF T F m cs vW vU cW cU W ul ts cn L':=by
 obtain⟨tn,e,i⟩:=h.fo
 exact⟨⟨tn,e,i.hW,i.hU,i.hs,i.ok,fun x hx=>(i.un x hx).Dy hs,i.lu,i.lt⟩,h.cn⟩
theorem ku.Dy{T:NTy}{n:Nat}{L L':List a8}{x:Value×jj}(h:ku T n L x)(hs:∀b o,a8.blk b o∈L->a8.blk b o∈L'):ku T n L' x:=by
 obtain⟨v,c⟩:=x
 cases c with
 |aT i=>obtain⟨b1,b2,h0,h1,h2⟩:=h;exact⟨b1,b2,h0,hs _ _ h1,hs _ _ h2⟩
 |var i m=>obtain⟨b1,b2,b3,h0,h1,h2,h3⟩:=h;exact⟨b1,b2,b3,h0,hs _ _ h1,hs _ _ h2,hs _ _ h3⟩
 |add i q=>obtain⟨b1,b2,b3,h0,h1,h2,h3⟩:=h;exact⟨b1,b2,b3,h0,hs _ _ h1,hs _ _ h2,hs _ _ h3⟩
 |raise v was had=>obtain⟨b1,b2,b3,b4,h0,h1,h2,h3,h4⟩:=h;exact⟨b1,b2,b3,b4,h0,hs _ _ h1,hs _ _ h2,hs _ _ h3,hs _ _ h4⟩
 |merge m=>obtain⟨b1,b2,h0,h1,h2⟩:=h;exact⟨b1,b2,h0,hs _ _ h1,hs _ _ h2⟩
 |seen was=>obtain⟨b1,b2,h0,h1,h2⟩:=h;exact⟨b1,b2,h0,hs _ _ h1,hs _ _ h2⟩
 |stuck=>obtain⟨b1,h0,h1⟩:=h;exact⟨b1,h0,hs _ _ h1⟩
theorem RR{t:TypeId}{gs:List iW}{A B:List a8}{b:Nat}{o:Obj}(h:a8.blk b o∈A++(gs.map (dr t)++B)):a8.blk b o∈A++B:=by
 rcases eP.1 h with q|q
 .exact dx _ q
 rcases eP.1 q with q|q
 .obtain⟨x,_,e⟩:=fU.1 q
  cases e
 exact bt _ q
structure NF where
 vL:Value
 vt:Value
 vv:Value
 vy:Value
 vu:Value
 vq:Value
 vW:Value
 vU:Value
 vT:Value
 cn:Int
 vd:Value
 vm:Value
 cW:Option (Nat×Array Value)
 cU:Option (Nat×Array Value)
 W:List (BitVec 64)
 ul:List (Value×jo)
 ts:List Int
 us:List iW
def Yv:Value×jj:=(.tuple #[],.stuck)
def u6(lg:List (Value×jj))(k:Nat):List jj:=((lg.drop k).map Prod.snd).reverse
theorem PC{lg:List (Value×jj)}{k:Nat}(h:k<lg.length):u6 lg k=u6 lg (k+1)++[(lg.getD k Yv).2]:=by grind[u6,List.drop_eq_getElem_cons,List.reverse_cons,getD_eq]
theorem ahO{lg:List (Value×jj)}{k:Nat}(h:lg.length<=k):u6 lg k=[]:=by simp_all[u6]
theorem FL{lg new:List (Value×jj)}:u6 (lg++new) lg.length=(new.map Prod.snd).reverse:=by grind[u6]
theorem acZ{lg:List (Value×jj)}{s:NP}{k:Nat}(h:k<lg.length):xm (u6 lg k) s=sL (lg.getD k Yv).2 (xm (u6 lg (k+1)) s):=by
 rw[PC h,UN];rfl
theorem amG{lg:List (Value×jj)}{s:NP}{o k:Nat}(ho:o<=k)(hk:k<lg.length)(h:okB (u6 lg o) s):okN (lg.getD k Yv).2 (xm (u6 lg (k+1)) s):=by
 have e:u6 lg o=u6 lg k++(((lg.drop o).take (k-o)).map Prod.snd).reverse:=by
  unfold u6
  rw[<-List.reverse_append,<-gA]
  congr 2
  rw[show lg.drop k=(lg.drop o).drop (k-o)by rw[Qy,show o+(k-o)=k by omega],Gq]
 rw[e,RP,PC hk,RP]at h
 exact h.1.2.1
theorem Le.zb{K:Vu}{Z Z':List a8}(h:∀b o,a8.blk b o∈Z->a8.blk b o∈Z'):Le (Kz K Z) (Kz K Z'):=fun b o hb=>hb.imp id (h b o)
structure BS(s:NP):Prop where
 S2:s.aX.length=s.ai.length
 NU:s.us.length=s.ai.length
 ni:(bk s.cs).length=s.ai.length
 NV:s.ai.length<=1000
 Wc:0<=s.sn/\s.sn<=s.qs.length
 hqn:s.qs.length<=1000
 hqo:Yu s.an.length s.ai.length s.qs
 hlt:s.aT.length=s.ai.length
 hlr:∀k:Nat,k<s.aT.length->0<=s.aT.getD k 0/\s.aT.getD k 0<s.an.length
 vN:∀k:Nat,k<s.us.length->(s.us.getD k []).length<=1000/\∀i∈s.us.getD k [],0<=i/\i<(s.qs.length:Int)
theorem Hp.Yw{w0 w:World}{A Zf Lb E U L:List a8}(h:Hp w0 w (A++(Zf++(Lb++(E++(U++L)))))):Hp w0 w (A++(U++(Zf++(Lb++(E++L))))):=by
 refine h.perm (um A ?_)
 rw[show Zf++(Lb++(E++(U++L)))=((Zf++(Lb++E))++U)++L by simp only[dg],show U++(Zf++(Lb++(E++L)))=(U++(Zf++(Lb++E)))++L by simp only[dg]]
 exact List.Perm.append_right L sW
theorem BT{us:List iW}{k:Nat}:(mO us).getD k []=(us.getD k cD).l:=by grind[iW,mO,cD]
theorem UX{s:NP}(h:BS s){us:List iW}(hu:mO us=s.us){t:TypeId}{L:List a8}:∀k:Nat,k<us.length->dr t (us.getD k cD)∈us.map (dr t)++L/\(us.getD k cD).l.length<=1000/\∀i∈(us.getD k cD).l,0<=i/\i<(s.qs.length:Int):=fun k hk=>by
 have e:=BT (us:=us) (k:=k)
 rw[hu]at e
 have:=h.vN k (by rw[<-hu,eM];exact hk)
 rw[e]at this
 refine⟨dx _ (fU.2 ⟨us.getD k cD,?_,rfl⟩),this⟩
 rw[getD_eq hk]
 exact p6 hk
theorem aaK{lg new:List (Value×jj)}{k:Int}(h1:(lg.length:Int)<=k)(h2:k<(lg++new).length):(lg++new).getD k.toNat Yv∈new:=by grind
theorem UY{t:TypeId}{gs:List iW}{A E B:List a8}{b:Nat}{o:Obj}(h:a8.blk b o∈A++(E++(gs.map (dr t)++B))):a8.blk b o∈A++(E++B):=by grind[RR]
theorem Yx{f:Value}{s:NP}{y:BitVec 64}(h1:s.sk=false)(h2:s.wy=0):gh [(f,.stuck)] s {s with sk:=true,wy:=y}:=by
 refine gh.one ?_ trivial
 obtain⟨a,b,c,d,e,f,g,h,i,j,k⟩:=s
 simp only at h1 h2
 subst h1;subst h2;rfl
def ahQ:Value->Bool
 | .nilFunc=>false
 |_=>true
section
variable{P:Program}{σ:Env}{w w':World}{dst:Option Tmp}{t ty u:TypeId}{pos:String}{bJ:Array Edge}{g:Option (Nat×Bool)}{x y:Operand}{v:Value}
theorem ac0(d:Nat){ps rs:Array TypeId}{vr:Bool}(ht:P.underlying t=some (.func ps rs vr)):(Op.equalIn (d+1) t .nilFunc .nilFunc).run P w= .ok true w:=by
 simp[Op.equalIn,jr ht]
theorem ac1{ps rs:Array TypeId}{vr:Bool}(hv:v= .nilFunc\/∃f b c,v= .func f b c)(ht:P.underlying t=some (.func ps rs vr))(hx:ev σ x=v)(hy:ev σ y= .nilFunc):
  (execOp (ev σ) ⟨dst,.binOp .neq t x y u,ty,pos,bJ,g⟩).run P w= .ok (.value (.bool (ahQ v))) w:=by
 rcases hv with rfl|⟨f,b,c,rfl⟩
 .have h:(binOp .neq t .nilFunc .nilFunc).run P w= .ok (.bool false) w:=by
   simp only[binOp];simp[Op.equal,Op.maxDepth,ac0 9999 ht]
  have he:(eqGuard .neq t x y .nilFunc .nilFunc)=pure ():=rfl
  simp only[execOp,hx,hy,he];simp[h,ahQ]
 exact Uw ht hx hy
theorem Yy{f:FuncId}{r v1:Value}{x1:Operand}{ats:Array TypeId}(hf:∀args w,(callFunc f args).run P w= .ok (.enter f args) w)(hx:ev σ x= .func (.func f) #[r] #[])(h1:ev σ x1=v1):
  (execOp (ev σ) ⟨dst,.call {callee:= .value x,args:=#[x1],argTypes:=ats},ty,pos,bJ,g⟩).run P w= .ok (.enter f #[r,v1]) w:=by
 subst h1
 simp[execOp,resolve,hx,Deferred.ofValue,invoke,hf]
end
theorem FM{T:NT}{K:Vu}{ids:List Nat}{tl:List (Nat×Rl)}{x:oJ}(h:Wf T K ids tl x):∀u∈(We x).toArray,u.oneCell'=true:=by
 intro u hu
 obtain⟨f,g,k,a,b,c,e1,e2,e3⟩:=h.ops.one
 simp only[We,Aw,Kk,cZ,eP,Gu,Bg]at hu
 rcases hu with(rfl|rfl)|(rfl|rfl|rfl)|hu
 .rfl
 .exact(nZ h.Aa.aY).1
 .rw[e1];rfl
 .rw[e2];rfl
 .rw[e3];rfl
 exact wx x.low u qf
theorem PD{P p:kX}(h:P.sh=⟨true,z8 [p]⟩):P.aY.map pU.fc=p.aY.map pU.fc:=by
 have hq:=aK Sh.aY h
 simp only[z8,tH,List.flatMap_nil,kV]at hq
 exact hq
theorem amH{P p:kX}(h:P.sh=⟨true,z8 [p]⟩)(h1:p.aY.length<=1000)(h2:∀f∈p.aY,f.names.length<=1000):P.aY.length<=1000/\∀f∈P.aY,f.names.length<=1000:=by
 have hq:=PD h
 refine⟨?_,fun f hf=> ?_⟩
 .have:=aK List.length hq;rw[gj,gj]at this;omega
 have hm:f.fc∈p.aY.map pU.fc:=hq▸fU.2 ⟨f,hf,rfl⟩
 obtain⟨f2,h3,e⟩:=fU.1 hm
 have:=h2 f2 h3
 have e2:f2.names=f.names:=aK Fc.names e
 rwa[e2]at this
theorem UZ{f:Value}{s:NP}{x:oJ}:gh [(f,.aT s.an.length)] s {s with an:=s.an++[x]}:=
 gh.one (by simp only[sL];rw[uv]) (by show s.an.length<=(s.an++[x]).length;simp)
theorem Hp.us2{w0 w:World}{A Z B C U L:List a8}(h:Hp w0 w (A++(Z++(B++(C++(U++L)))))):Hp w0 w (A++(U++(Z++(B++(C++L))))):=h.perm (um A (by
 rw[show Z++(B++(C++(U++L)))=(Z++(B++C))++(U++L)by simp only[dg],show U++(Z++(B++(C++L)))=U++((Z++(B++C))++L)by simp only[dg]]
 exact we _ _ _))
theorem Hp.us3{w0 w:World}{A Z B C D U L:List a8}(h:Hp w0 w (A++(Z++(B++(C++(D++(U++L))))))):Hp w0 w (A++(U++(Z++(B++(C++(D++L)))))):=h.perm (um A (by
 rw[show Z++(B++(C++(D++(U++L))))=(Z++(B++(C++D)))++(U++L)by simp only[dg],show U++(Z++(B++(C++(D++L))))=U++((Z++(B++(C++D)))++L)by simp only[dg]]
 exact we _ _ _))
theorem Hp.us4{w0 w:World}{A Z B C D E U L:List a8}(h:Hp w0 w (A++(Z++(B++(C++(D++(E++(U++L)))))))):Hp w0 w (A++(U++(Z++(B++(C++(D++(E++L))))))):=h.perm (um A (by
 rw[show Z++(B++(C++(D++(E++(U++L)))))=(Z++(B++(C++(D++E))))++(U++L)by simp only[dg],show U++(Z++(B++(C++(D++(E++L)))))=U++((Z++(B++(C++(D++E))))++L)by simp only[dg]]
 exact we _ _ _))
theorem UQ.snoc{T:NT}{K:Vu}{ids:List Nat}{tl:List (Nat×Rl)}{l:List oJ}{x:oJ}(h:UQ T K ids tl l)(hx:Wf T K ids tl x):UQ T K ids tl (l++[x]):=fun y hy=>by
 rcases eP.1 hy with q|q
 .exact h y q
 rw[fZ.1 q];exact hx
end
end Go.Proofs.YtlhjdflgjbkpmaaGreatDoor.E

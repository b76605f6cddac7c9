/- Part 2 of the proof of FlowTakes: its plain laws and the walks of its functions. -/
import Derived.Test.YtlhjdflgjbkpmaaGreatDoorFlowTakesPartA
set_option linter.all false
namespace Go.Proofs.YtlhjdflgjbkpmaaGreatDoor.E
section
open Go Go.RowKit Go.Proofs.YtlhjdflgjbkpmaaGreatDoor.M
def aGM(l:List zZ)(i:Int):zZ:=if 0<=i/\i<l.length then l.getD i.toNat mX else mX
theorem uw.or{K:Vu}{l:List UY}(h:uw K l)(k:Nat):n7 K (l.getD k vr0).v 9 (l.getD k vr0).l.length ((l.getD k vr0).l.flatMap ae9):=by
 by_cases hk:k<l.length
 .have:=h.at (k:=(k:Int)) J J
  simpa using this
 rw[ep,mJ J];exact n7.nil _ _
section
variable{s:kx}{v:nn}{e:El}{l:List jd}{a:M5}{k:Int}
abbrev shG(s:kx)(v:nn):Sh:=(s.an.getD v.aS.toNat mX).yz.sh
abbrev okG(s:kx)(a:M5)(k:Int):Bool:=okV s.sc (s.vars.getD k.toNat eY) (a.labels.getD k.toNat dh) (a.rows.getD k.toNat vr0).l
end
section
variable{a b:M5}{k j:Int}
end
def aBc(l:List UY):Nat:=(l.map fun r=>r.l.length).sum
def aug(v:jd):Bool:=decide (40<v.name.size)
def aBd(r:UY):Bool:=r.l.any aug
def aJW(a:M5):Bool:=decide (100<a.labels.length\/100<a.rows.length)||a.rows.any aBd||decide (200<(aBc a.rows:Int))
def aBe(b:Tx)(l:List Tx)(k:Int):Tx:=vD b (l.take k.toNat)
def szJ(b:Tx)(l:List Tx):Nat:=(l.map fun x=>x.size+b.size).sum
section
variable{s:kx}{a:M5}{k:Int}
end
section
variable{P m:Tx}{sh:Sh}{l:List jd}{q:Int}
end
abbrev VS(s:kx)(a:M5):List Tx:=amS s.sc a.HO s.vars.length
section
variable{s:kx}{a:M5}{k:Int}
end
abbrev aJX(p:El×Bool):Value:= .tuple #[.agg (iU p.1),B p.2]
theorem GC{a b:As}{k:Int}(h0:0<=k)(h1:k<a.rows.length)(h2:k<b.rows.length):((a.rows.zip b.rows).take k.toNat).map (fun p=>Og p.1 p.2)++[Og (a.rows.getD k.toNat []) (b.rows.getD k.toNat [])]=((a.rows.zip b.rows).take (k+1).toNat).map fun p=>Og p.1 p.2:=(afa (F:=fun p:List jd×List jd=>Og p.1 p.2) h0 h1 h2).symm
section
variable{P:Program}{σ:Env}{w:World}{dst:Option Tmp}{ty t e:TypeId}{pos:String}{bH:Array Edge}{g:Option (Nat×Bool)}{x:Operand}
theorem ru{a:El}{ie:TypeInfo}{z:Value}(hu:P.underlying t=some (.slice e))(hie:P.info? e=some ie)(hz:ie.zero=some z)(hsz:ie.size=8)(hx:ev σ x= .agg (iU a)):
  (execOp (ev σ) ⟨dst,.buildSlice t 1 #[(0,x)],ty,pos,bH,g⟩).run P w= .ok (.value (.slice (some ⟨w.heap.size,0,none⟩) 1 1)) (w.alloc (.cells ([a].flatMap sC).toArray e)):=
 kI (ps:=[(0,x)]) (l:=[a]) fw hu hie hz hsz O ay ay (by rw[gR]at hx;simp[hx])
theorem aa9{v:Value}{ie:TypeInfo}{z:Value}(h1:v.cells=#[v])(hu:P.underlying t=some (.slice e))(hie:P.info? e=some ie)(hz:ie.zero=some z)(hsz:ie.size=1)(hx:ev σ x=v):
  (execOp (ev σ) ⟨dst,.buildSlice t 1 #[(0,x)],ty,pos,bH,g⟩).run P w= .ok (.value (.slice (some ⟨w.heap.size,0,none⟩) 1 1)) (w.alloc (.cells ([v]:List Value).toArray e)):=by
 have:=bZ (P:=P) (σ:=σ) (w:=w) (dst:=dst) (ty:=ty) (pos:=pos) (bH:=bH) (g:=g) (ps:=[(0,x)]) (vs:=[v]) (sz:=1) hu hie hz hsz O aA aA pY (by simp[h1])
 simpa[h1]using this
end
section
variable{a b:M5}{ls:List El}{gr:List UY}{v0 v1:Value}{k j:Int}
theorem I4(h1:ls=((a.labels.zip b.labels).take k.toNat).map fun p=>qM p.1 p.2)(h2:gr.map UY.l=((a.HO.rows.zip b.HO.rows).take j.toNat).map fun p=>Og p.1 p.2)(hk:¬(k<a.labels.length/\k<b.labels.length))(hj:¬(j<a.rows.length/\j<b.rows.length)):
  (⟨v0,ls,v1,gr⟩:M5).HO=aub a.HO b.HO:=by
 show(⟨ls,gr.map UY.l⟩:As)=_
 rw[h1,h2,YT hk,YT (by rw[HT,HT];exact hj)];rfl
end
section
variable{s:kx}{ls:List El}{v0 v1:Value}{k:Int}
theorem uw.apv(K:Vu)(n:Nat):uw K (List.replicate n vr0):=⟨fun r hr=>by rw[(List.mem_replicate.1 hr).2];exact n7.nil _ _⟩
end
theorem NH{α:Type}{cl:α->List Value}{sz:Nat}(n8:∀a,(cl a).length=sz)(l:List α)(k:Nat):(l.flatMap cl).take (k*sz)=(l.take k).flatMap cl:=by
 by_cases h:k<=l.length
 .conv=>lhs;rw[<-FQ k l,Dq]
  exact List.take_left' (by rw[eV n8,eD,qI h])
 rw[iD (by rw[eV n8];exact qH _ J),iD J]
theorem aba{α:Type}{cl:α->List Value}{sz:Nat}(n8:∀a,(cl a).length=sz)(l:List α)(k:Nat)(h:k<=l.length):(l.flatMap cl).drop (k*sz)=(l.drop k).flatMap cl:=by
 conv=>lhs;rw[<-FQ k l,Dq]
 exact List.drop_left' (by rw[eV n8,eD,qI h])
def lsK(s:kx)(k:Int):List El:=(s.vars.take k.toNat).map (aa8 s.sc)++List.replicate (s.vars.length-k.toNat) dh
section
variable{s:kx}{k:Int}
end
section
variable{l:List jd}{f:Tx}{e:El}{k:Int}
end
def uZ:List Tx:=[⟨#[108,111]⟩,⟨#[104,105]⟩]
def aBf:Sh:=⟨false,[⟨1,uZ,Rl.none⟩]⟩
def exS:Sc:=⟨[aBf],[⟨⟨#[120]⟩,1,0⟩,⟨⟨#[114]⟩,2,0⟩]⟩
def exA:As:=⟨[zX dh 0 1#64,dh],[[],[⟨⟨#[102]⟩,dh⟩]]⟩
section
variable{P:Program}{σ:Env}{w:World}{dst:Option Tmp}{ty t e:TypeId}{pos:String}{bH:Array Edge}{g:Option (Nat×Bool)}{x y:Operand}
end
def amT(l:List jd)(f:Tx):Nat:=if Of l f<0 then spot l f else(Of l f).toNat
def wTo(l:List jd)(f:Tx)(e:El)(k:Int)(d:Bool):List jd:=(amQ l f e).take (k.toNat+if d&& !(aa7 l f).2 then 1 else 0)
def wIs(l:List jd)(f:Tx)(k:Int)(d:Bool):Prop:=(d=true->(amT l f:Int)<k)/\(d=false->k<=(amT l f:Int))
section
variable{l m:List jd}{f:Tx}{e:El}{k:Int}{d:Bool}
theorem k1(h0:0<=k):(k+1).toNat=k.toNat+1:=J
end
def La(l:zZ):Bool:=gY l.name&&qL l.yz.sh
def HM(n:Nat)(v:nn):Bool:=gY v.name&&decide ((v.kind=1\/v.kind=2)/\0<=v.aS/\v.aS<n)
def n9(s:kx):List Tx:=s.an.map zZ.name++s.vars.map nn.name
def gy(s:kx):Bool:=decide (s.an.length<=16/\s.vars.length<=64)&&s.an.all La&&s.vars.all (HM s.an.length)&&decide (xh (n9 s)<0)
section
variable{s:kx}
theorem Oh(h:¬(s.an.length<=16/\s.vars.length<=64)):gy s=false:=by grind[gy]
theorem abb{k:Int}(h0:0<=k)(h1:k<s.an.length)(h:La (s.an.getD k.toNat mX)=false):gy s=false:=by grind[gy,K5]
theorem xn{k:Int}(h0:0<=k)(h1:k<s.vars.length)(h:HM s.an.length (s.vars.getD k.toNat eY)=false):gy s=false:=by grind[gy,K5]
theorem abc{k j:Int}(h:s.an.length<=16/\s.vars.length<=64)(hk:¬k<s.an.length)(hl:∀i:Int,0<=i->i<k->La (s.an.getD i.toNat mX)=true)(hj:¬j<s.vars.length)(hv:∀i:Int,0<=i->i<j->HM s.an.length (s.vars.getD i.toNat eY)=true):
 gy s=decide (xh (n9 s)<0):=by rw[gy,gq h,EQ hk hl,EQ hj hv];rfl
theorem WM{k:Int}(h0:0<=k)(h1:k<(n9 s).length)(h:gY ((n9 s).getD k.toNat o4)=false):gy s=false:=by
 cases hc:gy s with
 |false=>rfl
 |true=>
  rw[gy,cm,cm,cm,iq,iq]at hc
  have hm:=kU (e8 (d:=o4) h0 h1)
  rw[n9,eF,fI,fI]at hm
  rcases hm with⟨a,ha,e⟩|⟨a,ha,e⟩
  .have:=hc.1.1.2 a ha
   rw[La,cm,e]at this
   have h2:=this.1
   rw[n9]at h;rw[h]at h2;cases h2
  have:=hc.1.2 a ha
  rw[HM,cm,e]at this
  have h2:=this.1
  rw[n9]at h;rw[h]at h2;cases h2
theorem abd{k j i:Int}(k1:k<=s.an.length)(j1:j<=s.vars.length)(h:s.an.length<=16/\s.vars.length<=64)(hk:¬k<s.an.length)(hl:∀i:Int,0<=i->i<k->qL (s.an.getD i.toNat mX).yz.sh=true)(hj:¬j<s.vars.length)(hv:∀i:Int,0<=i->i<j->((s.vars.getD i.toNat eY).kind=1\/(s.vars.getD i.toNat eY).kind=2)/\0<=(s.vars.getD i.toNat eY).aS/\(s.vars.getD i.toNat eY).aS<s.an.length)
  (hi:¬i<(n9 s).length) (hn:∀x:Int,0<=x->x<i->gY ((n9 s).getD x.toNat o4)=true):gy s=decide (xh (n9 s)<0):=by
 have hall:∀t∈n9 s,gY t=true:=fun t ht=>by
  obtain⟨x,hx,rfl⟩:=qR ht
  have:=hn x J J
  rw[ep,dW,dO hx]at this
  simpa using this
 refine abc h hk (fun x x0 x1=> ?_) hj fun x x0 x1=> ?_
 .rw[La,hl x x0 x1,VQ]
  refine hall _ (dy _ (List.mem_map_of_mem (kU (e8 (d:=mX) x0 J))))
 rw[HM,gq (hv x x0 x1),VQ]
 refine hall _ (bB _ (List.mem_map_of_mem (kU (e8 (d:=eY) x0 J))))
theorem SW{k:Int}(h0:0<=k)(h1:k<s.an.length):(s.an.take (k+1).toNat).map zZ.name=(s.an.take k.toNat).map zZ.name++[(s.an.getD k.toNat mX).name]:=by
 have h2:k.toNat<s.an.length:=J
 rw[show(k+1).toNat=k.toNat+1 by omega,xX,gp,ep,dO h2];rfl
theorem HU{k:Int}(h0:0<=k)(h1:k<s.vars.length):(s.vars.take (k+1).toNat).map nn.name=(s.vars.take k.toNat).map nn.name++[(s.vars.getD k.toNat eY).name]:=by
 have h2:k.toNat<s.vars.length:=J
 rw[show(k+1).toNat=k.toNat+1 by omega,xX,gp,ep,dO h2];rfl
end
end
end Go.Proofs.YtlhjdflgjbkpmaaGreatDoor.E
namespace Go.Proofs.YtlhjdflgjbkpmaaGreatDoor.M
section
open Go
structure dI where
 op:Int
 n:Int
 c:El
structure gZ where
 var:Int
 c:El
structure kJ where
 name:Tx
 at_:gZ
def cg:dI:=⟨0,0,dh⟩
def afd:gZ:=⟨0,dh⟩
def mw:kJ:=⟨o4,afd⟩
end
end Go.Proofs.YtlhjdflgjbkpmaaGreatDoor.M
namespace Go.Proofs.YtlhjdflgjbkpmaaGreatDoor.E
section
open Go Go.RowKit Go.Proofs.YtlhjdflgjbkpmaaGreatDoor.M
def jW(x:dI):List Value:=I x.op::I x.n::sC x.c
theorem gE(x:dI):(jW x).length=10:=by simp[jW,fw]
def iS(a:gZ):List Value:=I a.var::sC a.c
theorem Cl(a:gZ):(iS a).length=9:=by simp[iS,fw]
def sO(f:kJ):List Value:=S f.name::iS f.at_
theorem ry(f:kJ):(sO f).length=10:=by simp[sO,Cl]
structure z6 where
 fv:Value
 fields:List kJ
 tail:Int
def aka:z6:=⟨.slice none 0 0,[],0⟩
def Qq(r:z6):List Value:=[r.fv,I r.tail]
structure fU where
 op:Int
 aS:Int
 cv:Value
 code:List dI
 to:gZ
 a:z6
 b:z6
 var:Int
 field:Tx
def iJ:fU:=⟨0,0,.slice none 0 0,[],afd,aka,aka,0,o4⟩
def u3(x:fU):List Value:=I x.op::I x.aS::x.cv::(iS x.to++[x.a.fv,I x.a.tail,x.b.fv,I x.b.tail,I x.var,S x.field])
theorem qb(x:fU):(u3 x).length=18:=by simp[u3,Cl]
structure mY where
 s:kx
 av:Value
 cz:List fU
def CY(p:mY):List Value:=[p.s.lv,p.s.vv,p.av]
structure WN(K:Vu)(r:z6):Prop where
 fields:n7 K r.fv 10 r.fields.length (r.fields.flatMap sO)
structure GO(K:Vu)(x:fU):Prop where
 code:n7 K x.cv 10 x.code.length (x.code.flatMap jW)
 a:WN K x.a
 b:WN K x.b
structure ux(K:Vu)(p:mY):Prop where
 s:xm K p.s
 cz:n7 K p.av 18 p.cz.length (p.cz.flatMap u3)
 each:∀x∈p.cz,GO K x
theorem WN.mono{K K':Vu}{r:z6}(h:WN K r)(hl:Le K K'):WN K' r:=⟨h.fields.mono hl⟩
theorem GO.mono{K K':Vu}{x:fU}(h:GO K x)(hl:Le K K'):GO K' x:=⟨h.code.mono hl,h.a.mono hl,h.b.mono hl⟩
theorem ux.mono{K K':Vu}{p:mY}(h:ux K p)(hl:Le K K'):ux K' p:=⟨h.s.mono hl,h.cz.mono hl,fun x hx=>(h.each x hx).mono hl⟩
theorem ux.at{K:Vu}{p:mY}(h:ux K p){k:Int}(h0:0<=k)(h1:k<p.cz.length):GO K (p.cz.getD k.toNat iJ):=h.each _ (kU (e8 (d:=iJ) h0 h1))
theorem YV(e:El):(sC e).take 8=sC e:=by grind[fw]
theorem ES(x:dI):((jW x).toArray.toList.drop 2).take 8=sC x.c:=YV x.c
theorem SX(x:gZ):((iS x).toArray.toList.drop 1).take 8=sC x.c:=YV x.c
theorem Oi(x:kJ):∀(j:Nat) (c:Value),(iS x.at_)[j]?=some c->(sO x)[1+j]?=some c:=by grind[kJ,iS,sO]
theorem YW(x:fU):((u3 x).toArray.toList.drop 3).take (iS x.to).length=iS x.to:=tR ..
theorem SY(x:fU):(u3 x).toArray.toList.drop 12=[x.a.fv,I x.a.tail,x.b.fv,I x.b.tail,I x.var,S x.field]:=by
 show(iS x.to++[x.a.fv,I x.a.tail,x.b.fv,I x.b.tail,I x.var,S x.field]).drop 9=_
 rw[show(9:Nat)=(iS x.to).length by rw[Cl]];exact Dy ..
theorem apw(x:fU):((u3 x).toArray.toList.drop 12).take (Qq x.a).length=Qq x.a:=by rw[SY];rfl
theorem apx(x:fU):((u3 x).toArray.toList.drop 14).take (Qq x.b).length=Qq x.b:=by
 rw[show(14:Nat)=12+2 by omega,<-PE,SY];rfl
theorem ET(p:mY):((CY p).toArray.toList.drop 0).take (yA p.s).length=yA p.s:=rfl
theorem xo(x:dI):∀u∈(jW x).toArray,u.oneCell'=true:=by
 intro u hu;simp[jW]at hu
 rcases hu with rfl|rfl|hu
 .rfl
 .rfl
 exact vF x.c u hu
theorem GQ(x:gZ):∀u∈(iS x).toArray,u.oneCell'=true:=by
 intro u hu;simp[iS]at hu
 rcases hu with rfl|hu
 .rfl
 exact vF x.c u hu
theorem Lc(x:kJ):∀u∈(sO x).toArray,u.oneCell'=true:=by
 intro u hu;simp[sO]at hu
 rcases hu with rfl|hu
 .rfl
 exact GQ x.at_ u pX
theorem afe{K:Vu}{x:fU}(h:GO K x):∀u∈(u3 x).toArray,u.oneCell'=true:=by
 intro u hu;simp[u3]at hu
 rcases hu with rfl|rfl|rfl|hu|rfl|rfl|rfl|rfl|rfl|rfl
 .rfl
 .rfl
 .exact(k9 h.code).1
 .exact GQ x.to u pX
 .exact(k9 h.a.fields).1
 .rfl
 .exact(k9 h.b.fields).1
 .rfl
 .rfl
 rfl
section
variable{P:Program}{σ:Env}{w:World}{dst:Option Tmp}{ty t e:TypeId}{pos:String}{bH:Array Edge}{g:Option (Nat×Bool)}{x:Operand}{b o:Nat}{fr:Nat×Nat}
theorem rz{d:TypeDesc}{cs:Array Value}{el:El}(hu:P.underlying t=some d)(hd:d.isRow=true)(hi:(P.info? t).map (·.size)=some 8)(hx:ev σ x= .pointer (some ⟨b,o,none⟩))(hg:w.heap[b]?=some (.cells cs e fr))(hc:(cs.toList.drop o).take 8=sC el):
 (execOp (ev σ) ⟨dst,.load t x,ty,pos,bH,g⟩).run P w= .ok (.value (.agg (iU el))) w:=by grind[gR,ix,sC,fw]
theorem abe{α:Type}{cl:α->List Value}{sz:Nat}{v:Value}{l:List α}{k:Int}{d:TypeDesc}{dv:α}{off:Nat}{el:El}(hsz:∀a,(cl a).length=sz)(hS:Sl w v sz l.length (l.flatMap cl))(hu:P.underlying t=some d)(hd:d.isRow=true)(hi:(P.info? t).map (·.size)=some 8)
  (hx:ev σ x= .pointer (some ⟨sb v,so v+k.toNat*sz+off,none⟩)) (hk:0<=k/\k<l.length) (hc:((cl (l.getD k.toNat dv)).drop off).take 8=sC el):(execOp (ev σ) ⟨dst,.load t x,ty,pos,bH,g⟩).run P w= .ok (.value (.agg (iU el))) w:=by
 rw[gR]
 exact oy (dv:=dv) (off:=off) (cs:=sC el) hsz hS hu hd (by rw[fw];exact hi) hx hk (aeW (by rw[fw];exact hc))
end
end
end Go.Proofs.YtlhjdflgjbkpmaaGreatDoor.E
namespace Go.Proofs.YtlhjdflgjbkpmaaGreatDoor.M
section
open Go
def vG(d:Option Int)(x:dI):Option Int:=d.bind fun k=>if x.op=1\/x.op=2 then some (k+1)else if x.op=3\/x.op=4 then(if x.n<1\/k<x.n then none else some (k-x.n+1))else none
def iV(l:List dI)(k:Int):Option Int:=(l.take k.toNat).foldl vG (some 0)
def fP(l:List dI):Bool:=decide (iV l l.length=some 1)
theorem GR{α β:Type}{f:β->α->β}{b:β}{l:List α}{d:α}{k:Int}(h0:0<=k)(h1:k<l.length):(l.take (k+1).toNat).foldl f b=f ((l.take k.toNat).foldl f b) (l.getD k.toNat d):=by
 have h2:k.toNat<l.length:=J
 rw[show(k+1).toNat=k.toNat+1 by omega,xX,wh,ep,dO h2]
 rfl
theorem jz{l:List dI}{k:Int}(h0:0<=k)(h1:k<l.length):iV l (k+1)=vG (iV l k) (l.getD k.toNat cg):=GR h0 h1
theorem abf(l:List dI):l.foldl vG none=none:=by
 induction l with
 |nil=>rfl
 |cons a l ih=>rw[nW];exact ih
theorem SZ{l:List dI}{k:Int}(hk:0<=k)(h:iV l k=none):iV l l.length=none:=by grind[iV,Int.toNat_natCast,List.take_length,List.take_append_drop,abf]
theorem Cm(l:List dI):iV l 0=some 0:=rfl
theorem Qr{l:List dI}{k d:Int}(h0:0<=k)(h1:k<=l.length)(h:iV l k=some d):0<=d/\d<=k:=by
 have key:∀n:Nat,∀d:Int,(n:Int)<=l.length->iV l n=some d->0<=d/\d<=n:=fun n=>by
  induction n with
  |zero=>intro d _ h;have e:(some (0:Int))=some d:=(Cm l).symm.trans h;injection e;omega
  |succ n ih=>
   intro d hn h
   rw[show((n+1:Nat):Int)=(n:Int)+1 by omega,jz J J]at h
   cases hc:iV l n with
   |none=>rw[hc]at h;cases h
   |some q=>
    have:=ih q J hc
    rw[hc]at h
    unfold vG at h
    simp only[Pz]at h
    split at h
    .injection h;omega
    split at h
    .split at h
     .cases h
     injection h;omega
    .cases h
 have:=key k.toNat d J (by rw[show((k.toNat:Nat):Int)=k by omega];exact h)
 omega
theorem CZ{l:List dI}{k d:Int}(h0:0<=k)(h1:k<l.length)(h:iV l k=some d)(hs:vG (some d) (l.getD k.toNat cg)=none):fP l=false:=
 gm (by rw[SZ (k:=k+1) J (by rw[jz h0 h1,h,hs])];exact fun e=>by cases e)
theorem WO{l:List dI}{k d:Int}(hk:k<=l.length)(h1:¬k<l.length)(h:iV l k=some d):fP l=decide (d=1):=by grind[fP]
theorem yB{x:dI}{d:Int}(h:x.op=1\/x.op=2):vG (some d) x=some (d+1):=by simp[vG,h]
theorem Ld{x:dI}{d:Int}(h:x.op=3\/x.op=4)(h1:1<=x.n)(h2:x.n<=d):vG (some d) x=some (d-x.n+1):=by grind[vG]
theorem yC{x:dI}{d:Int}(h:x.op=3\/x.op=4)(h1:x.n<1\/d<x.n):vG (some d) x=none:=by grind[vG]
theorem Qs{x:dI}{d:Int}(h:¬(x.op=1\/x.op=2))(h1:¬(x.op=3\/x.op=4)):vG (some d) x=none:=by
 simp[vG,h,h1]
def qc(f:El->El->El):List El->El
 |[]=>dh
 |[e]=>e
 |a::b::l=>f a (qc f (b::l))
theorem WQ{f:El->El->El}{l:List El}(h:l≠[]):qc f (l.drop (l.length-1))=l.getD (l.length-1) dh:=by
 have h2:l.length-1<l.length:=by have:=List.length_pos_iff.2 h;omega
 rw[Ju h2,Jw J,ep,dO h2];rfl
theorem WR{f:El->El->El}{l:List El}{i:Nat}(h:i+1<l.length):qc f (l.drop i)=f (l.getD i dh) (qc f (l.drop (i+1))):=by
 rw[Ju (by omega:i<l.length),Ju h,ep,dO J]
 rfl
def Lf(s:Sh)(op:Int)(a b:El):El:=if op=3 then fh s a b else qM a b
def zE(s:Sh)(v:List El)(o:Option (List El))(x:dI):Option (List El):=o.bind fun st=>
 if x.op=1 then(if 0<=x.n/\x.n<v.length then some (st++[v.getD x.n.toNat dh])else none)
 else if x.op=2 then some (st++[x.c])
 else some (st.take (st.length-x.n.toNat)++[qc (Lf s x.op) (st.drop (st.length-x.n.toNat))])
def gS(s:Sh)(v:List El)(l:List dI)(k:Int):Option (List El):=(l.take k.toNat).foldl (zE s v) (some [])
def fJ(s:Sh)(l:List dI)(v:List El):El×Bool:=if fP l then(match gS s v l l.length with|some st=>(st.getD 0 dh,true)|none=>(dh,false))else(dh,false)
theorem yD{s:Sh}{v:List El}{l:List dI}{k:Int}(h0:0<=k)(h1:k<l.length):gS s v l (k+1)=zE s v (gS s v l k) (l.getD k.toNat cg):=GR h0 h1
theorem WS(s:Sh)(v:List El)(l:List dI):l.foldl (zE s v) none=none:=by
 induction l with
 |nil=>rfl
 |cons a l ih=>rw[nW];exact ih
theorem abg{s:Sh}{v:List El}{l:List dI}{k:Int}(h:gS s v l k=none):gS s v l l.length=none:=by grind[gS,Int.toNat_natCast,List.take_length,List.take_append_drop,WS]
theorem WT{l:List dI}(h:fP l=true){k:Int}(hk:0<=k):∃d,iV l k=some d:=by
 cases hc:iV l k with
 |some d=>exact⟨d,rfl⟩
 |none=>rw[fP,SZ hk hc]at h;simp at h
theorem YX{l:List dI}(h:fP l=true){k d:Int}(h0:0<=k)(h1:k<l.length)(hd:iV l k=some d):
  ((l.getD k.toNat cg).op=1\/(l.getD k.toNat cg).op=2)/\iV l (k+1)=some (d+1)\/(((l.getD k.toNat cg).op=3\/(l.getD k.toNat cg).op=4)/\1<=(l.getD k.toNat cg).n/\(l.getD k.toNat cg).n<=d)/\iV l (k+1)=some (d-(l.getD k.toNat cg).n+1):=by
 obtain⟨q,hq⟩:=WT h (k:=k+1) J
 have hn:=jz h0 h1
 rw[hd,hq]at hn
 by_cases c:(l.getD k.toNat cg).op=1\/(l.getD k.toNat cg).op=2
 .left;exact⟨c,by rw[hq,hn,yB c]⟩
 by_cases c2:(l.getD k.toNat cg).op=3\/(l.getD k.toNat cg).op=4
 .by_cases c3:(l.getD k.toNat cg).n<1\/d<(l.getD k.toNat cg).n
  .rw[yC c2 c3]at hn;cases hn
  right;exact⟨⟨c2,J,J⟩,by rw[hq,hn,Ld c2 J J]⟩
 rw[Qs c c2]at hn;cases hn
theorem auh{s:Sh}{l:List dI}{v:List El}(h:fP l=false):fJ s l v=(dh,false):=by rw[fJ,h];rfl
theorem YY{s:Sh}{l:List dI}{v st:List El}{k:Int}(h0:0<=k)(h1:k<l.length)(hs:gS s v l k=some st)(ho:(l.getD k.toNat cg).op=1)(hv:(l.getD k.toNat cg).n<0\/v.length<=(l.getD k.toNat cg).n):fJ s l v=(dh,false):=by
 have e:gS s v l (k+1)=none:=by
  have h3:¬(0<=(l.getD k.toNat cg).n/\(l.getD k.toNat cg).n<v.length):=J
  rw[yD h0 h1,hs];generalize l.getD k.toNat cg=x at*;simp[zE,ho,h3]
 rw[fJ,abg e];cases fP l<;>rfl
theorem Qt{s:Sh}{l:List dI}{v st:List El}{k:Int}(hr:fP l=true)(hk:k<=l.length)(h1:¬k<l.length)(hs:gS s v l k=some st):fJ s l v=(st.getD 0 dh,true):=by grind[fJ]
theorem akb{s:Sh}{l:List dI}{v st:List El}{k:Int}(h0:0<=k)(h1:k<l.length)(hs:gS s v l k=some st)(ho:(l.getD k.toNat cg).op=1)(hv:0<=(l.getD k.toNat cg).n/\(l.getD k.toNat cg).n<v.length):gS s v l (k+1)=some (st++[v.getD (l.getD k.toNat cg).n.toNat dh]):=by grind[yD,cg,zE]
theorem apy{s:Sh}{l:List dI}{v st:List El}{k:Int}(h0:0<=k)(h1:k<l.length)(hs:gS s v l k=some st)(ho:(l.getD k.toNat cg).op=2):gS s v l (k+1)=some (st++[(l.getD k.toNat cg).c]):=by grind[yD,cg,zE]
theorem apz{s:Sh}{l:List dI}{v st:List El}{k:Int}(h0:0<=k)(h1:k<l.length)(hs:gS s v l k=some st)(h2:¬(l.getD k.toNat cg).op=1)(h3:¬(l.getD k.toNat cg).op=2):gS s v l (k+1)=some (st.take (st.length-(l.getD k.toNat cg).n.toNat)++[qc (Lf s (l.getD k.toNat cg).op) (st.drop (st.length-(l.getD k.toNat cg).n.toNat))]):=by grind[yD,cg,zE]
theorem YZ{s:Sh}{l:List dI}{v st:List El}{k q:Int}(h0:0<=k)(h1:k<l.length)(hs:gS s v l k=some st)(h2:¬(l.getD k.toNat cg).op=1)(h3:¬(l.getD k.toNat cg).op=2)(hq:q=(st.length:Int)-(l.getD k.toNat cg).n)(hn:0<=(l.getD k.toNat cg).n):
  gS s v l (k+1)=some (st.take q.toNat++[qc (Lf s (l.getD k.toNat cg).op) (st.drop q.toNat)]):=by
 rw[apz h0 h1 hs h2 h3,show st.length-(l.getD k.toNat cg).n.toNat=q.toNat by omega]
theorem Y0{f:El->El->El}{l:List El}{k:Int}(h0:0<=k)(h1:k+1<l.length):qc f (l.drop k.toNat)=f (l.getD k.toNat dh) (qc f (l.drop (k+1).toNat)):=by grind[WR]
theorem aui{s:Sh}{op:Int}{a b:El}(h:op=3):fh s a b=Lf s op a b:=by rw[Lf,aR h]
theorem auj{s:Sh}{op:Int}{a b:El}(h:¬op=3):qM a b=Lf s op a b:=by rw[Lf,aP h]
theorem tW{l:List dI}(h:fP l=true){k d:Int}(h0:0<=k)(h1:k<l.length)(hd:iV l k=some d)(h2:¬(l.getD k.toNat cg).op=1)(h3:¬(l.getD k.toNat cg).op=2):
  1<=(l.getD k.toNat cg).n/\(l.getD k.toNat cg).n<=d/\iV l (k+1)=some (d-(l.getD k.toNat cg).n+1):=by
 rcases YX h h0 h1 hd with⟨ho,_⟩|⟨⟨_,a,b⟩,c⟩
 .omega
 exact⟨a,b,c⟩
theorem RW{l:List dI}(h:fP l=true){k d:Int}(hk:k<=l.length)(h1:¬k<l.length)(hd:iV l k=some d):d=1:=by grind[WO]
end
end Go.Proofs.YtlhjdflgjbkpmaaGreatDoor.M
namespace Go.Proofs.YtlhjdflgjbkpmaaGreatDoor.E
section
open Go Go.RowKit Go.Proofs.YtlhjdflgjbkpmaaGreatDoor.M
def oZ(s:kx)(v kd aS:Int):Bool:=decide (0<=v/\v<s.vars.length)&&decide ((s.vars.getD v.toNat eY).kind=kd)&&decide ((s.vars.getD v.toNat eY).aS=aS)
def jA(s:kx)(aS:Int):Sh:=(s.an.getD aS.toNat mX).yz.sh
def j3(s:kx)(aS:Int)(a:gZ):Bool:=if a.var<0 then cf (jA s aS) a.c else oZ s a.var 1 aS
def qd(s:kx)(aS:Int)(f:kJ):Bool:=gY f.name&&j3 s aS f.at_
def Qu(r:z6):List Tx:=r.fields.map kJ.name
def uy(s:kx)(aS:Int)(r:z6):Bool:=decide (r.fields.length<=16)&&(decide (r.tail<0)||oZ s r.tail 2 aS)&&r.fields.all (qd s aS)&&decide (xh (Qu r)<0)
def r7(s:kx)(aS:Int)(x:dI):Bool:=(!decide (x.op=1)||oZ s x.n 1 aS)&&(!decide (x.op=2)||cf (jA s aS) x.c)
def codeOk(s:kx)(aS:Int)(l:List dI):Bool:=l.all (r7 s aS)&&fP l
def jQ(s:kx)(a:fU):Bool:=
 if a.op=10 then oZ s a.var 2 a.aS&&gY a.field
 else if 0<=a.aS/\a.aS<s.an.length then(if a.op=9 then uy s a.aS a.a&&uy s a.aS a.b else if a.op=8 then codeOk s a.aS a.code&&j3 s a.aS a.to else false)
 else false
def lJ(p:mY):Bool:=gy p.s&&decide (p.cz.length<=64)&&p.cz.all (jQ p.s)
section
variable{s:kx}{v kd aS:Int}{a:fU}{r:z6}{l:List dI}{k:Int}
theorem S0(h:¬(0<=v/\v<s.vars.length)):oZ s v kd aS=false:=by grind[oZ]
theorem aff(h:¬(s.vars.getD v.toNat eY).kind=kd):oZ s v kd aS=false:=by grind[oZ]
theorem afg(h:0<=v/\v<s.vars.length)(h2:(s.vars.getD v.toNat eY).kind=kd):oZ s v kd aS=decide ((s.vars.getD v.toNat eY).aS=aS):=by grind[oZ]
theorem atom_1{x:gZ}(h:x.var<0):j3 s aS x=cf (jA s aS) x.c:=aR h
theorem apA{x:gZ}(h:¬x.var<0):j3 s aS x=oZ s x.var 1 aS:=aP h
theorem akc(h:¬r.fields.length<=16):uy s aS r=false:=by grind[uy]
theorem akd(h1:¬r.tail<0)(h:oZ s r.tail 2 aS=false):uy s aS r=false:=by grind[uy]
theorem Jd(h0:0<=k)(h1:k<r.fields.length)(h:qd s aS (r.fields.getD k.toNat mw)=false):uy s aS r=false:=by grind[uy,K5]
theorem Y1(h:r.fields.length<=16)(h1:r.tail<0\/oZ s r.tail 2 aS=true)(hk:¬k<r.fields.length)(hg:∀j:Int,0<=j->j<k->qd s aS (r.fields.getD j.toNat mw)=true):uy s aS r=decide (xh (Qu r)<0):=by
 rw[uy,gq h,EQ hk hg]
 rcases h1 with h1|h1
 .rw[gq h1];rfl
 rw[h1];simp
theorem Oj{f:kJ}(h:gY f.name=false):qd s aS f=false:=by rw[qd,h];rfl
theorem Ol{f:kJ}(h:j3 s aS f.at_=false):qd s aS f=false:=by grind[qd]
theorem Om{f:kJ}(h:gY f.name=true)(h2:j3 s aS f.at_=true):qd s aS f=true:=by rw[qd,h,h2];rfl
theorem HV(h0:0<=k)(h1:k<r.fields.length):(r.fields.take (k+1).toNat).map kJ.name=(r.fields.take k.toNat).map kJ.name++[(r.fields.getD k.toNat mw).name]:=by
 have h2:k.toNat<r.fields.length:=J
 rw[show(k+1).toNat=k.toNat+1 by omega,xX,gp,ep,dO h2];rfl
theorem S1{m:List Tx}{x:Tx}{k:Int}(h:(m.length:Int)=k):(HS m++[S x])[k.toNat*1]?=some (S x):=by grind
theorem ake{x:dI}(h:x.op=1)(h2:oZ s x.n 1 aS=false):r7 s aS x=false:=by grind[r7]
theorem Y2{x:dI}(h:x.op=2)(h2:cf (jA s aS) x.c=false):r7 s aS x=false:=by grind[r7]
theorem Je{x:dI}(h:¬x.op=1\/oZ s x.n 1 aS=true)(h2:¬x.op=2\/cf (jA s aS) x.c=true):r7 s aS x=true:=by grind[r7]
theorem Lg(h0:0<=k)(h1:k<l.length)(h:r7 s aS (l.getD k.toNat cg)=false):codeOk s aS l=false:=by grind[codeOk,K5]
theorem afh(h:fP l=false):codeOk s aS l=false:=by grind[codeOk]
theorem afi(hk:¬k<l.length)(hg:∀j:Int,0<=j->j<k->r7 s aS (l.getD j.toNat cg)=true):codeOk s aS l=fP l:=by rw[codeOk,EQ hk hg];rfl
theorem abh(hk:¬k<l.length)(hg:∀j:Int,0<=j->j<k->r7 s aS (l.getD j.toNat cg)=true)(h:fP l=true):codeOk s aS l=true:=by rw[afi hk hg,h]
theorem afj(h:a.op=10):jQ s a=(oZ s a.var 2 a.aS&&gY a.field):=aR h
theorem afk(h:¬a.op=10)(h2:¬(0<=a.aS/\a.aS<s.an.length)):jQ s a=false:=by grind[jQ]
theorem amU(h:a.op=9)(h2:0<=a.aS/\a.aS<s.an.length):jQ s a=(uy s a.aS a.a&&uy s a.aS a.b):=by grind[jQ]
theorem On(h:a.op=8)(h2:0<=a.aS/\a.aS<s.an.length):jQ s a=(codeOk s a.aS a.code&&j3 s a.aS a.to):=by grind[jQ]
theorem auk(h:¬a.op=10)(h1:¬a.op=9)(h2:¬a.op=8):jQ s a=false:=by grind[jQ]
end
section
variable{p:mY}{k:Int}
theorem afl(h:gy p.s=false):lJ p=false:=by rw[lJ,h];rfl
theorem afm(h:¬p.cz.length<=64):lJ p=false:=by grind[lJ]
theorem afn(h0:0<=k)(h1:k<p.cz.length)(h:jQ p.s (p.cz.getD k.toNat iJ)=false):lJ p=false:=by grind[lJ,K5]
theorem afo(h:gy p.s=true)(h2:p.cz.length<=64)(hk:¬k<p.cz.length)(hg:∀j:Int,0<=j->j<k->jQ p.s (p.cz.getD j.toNat iJ)=true):lJ p=true:=by rw[lJ,h,gq h2,EQ hk hg];rfl
end
def Y3(a:As)(t:gZ):El×Bool:=if t.var<0 then(t.c,true)else if t.var<a.labels.length then(a.labels.getD t.var.toNat dh,true)else(dh,false)
def aBg(a:As)(f:kJ):jd:=⟨f.name,(Y3 a f.at_).1⟩
def amV(a:As)(t:z6):List jd:=if 0<=t.tail then a.rows.getD t.tail.toNat []else[]
def aul(a:As)(t:z6):List jd:=amV a t++t.fields.map (aBg a)
def aum(a:As)(t:z6):Bool:=decide (t.tail<a.rows.length)&&t.fields.all fun f=>(Y3 a f.at_).2
def apB(l:List jd):List Tx:=l.map jd.name
def aBh(l:List jd):List jd:=l.foldl (fun m v=>amQ m v.name v.el) []
def amW(l:List jd):Bool:=decide (apB l).Nodup
def Iu(a:As)(t:z6):List jd×Bool:=if(aum a t&&amW (aul a t))=true then(aBh (aul a t),true)else([],false)
def Y4(out:List Tx)(x:Tx):Int:=rW (fun k=> !SU (out.getD k.toNat o4) x) out.length
def aBi(out:List Tx)(x:Tx):List Tx:=if Y4 out x<0 then out++[x]else if out.getD (Y4 out x).toNat o4=x then out else out.take (Y4 out x).toNat++x::out.drop (Y4 out x).toNat
def aGN(l:List Tx):List Tx:=l.foldl aBi []
def HW(kv:List (Tx×El))(f:Tx):El×Bool:=match kv.find? (fun p=>decide (p.1=f))with
 |none=>(dh,false)
 |some p=>(p.2,true)
def aJY(kv:List (Tx×El))(f:Tx)(e:El):List (Tx×El):=if(HW kv f).2 then kv.map fun p=>if p.1=f then(f,e)else p else kv++[(f,e)]
def WU(s:kx)(a:As)(x:fU):Bool:=
 if x.op=10 then(if 0<=x.var/\x.var<a.rows.length then !(aa7 (a.rows.getD x.var.toNat []) x.field).2 else false)
 else if x.op=9 then(Iu a x.a).2&&(Iu a x.b).2&&amR (Iu a x.a).1 (Iu a x.b).1
 else if x.op=8/\0<=x.aS/\x.aS<s.an.length then(fJ (jA s x.aS) x.code a.labels).2&&(Y3 a x.to).2&&cK (fJ (jA s x.aS) x.code a.labels).1 (Y3 a x.to).1
 else false
def Lh(s:kx)(a:As)(l:List fU):Int:=rW (fun i=> !WU s a (l.getD i.toNat iJ)) l.length
def apC(s:kx)(a:As)(l:List fU):Bool:=GN s.sc a&&decide (Lh s a l<0)
section
variable{s:kx}{a:As}{x:fU}{l:List fU}
theorem abi:Lh s a l<0↔∀x∈l,WU s a x=true:=by
 unfold Lh
 rcases KM (fun i=> !WU s a (l.getD i.toNat iJ)) l.length with⟨j,j0,j1,j2,_,e⟩|⟨q,e⟩
 .refine⟨fun h=>J,fun h=> ?_⟩
  have hj:j.toNat<l.length:=J
  have:=h _ (pS hj)
  rw[ep,dO hj,FV,this]at j2
  cases j2
 refine⟨fun _ x hx=> ?_,fun _=>J⟩
 obtain⟨i,hi,rfl⟩:=qR hx
 have:=q i J J
 rw[dW,ep,dO hi,FV]at this
 simpa using this
theorem akf:apC s a l=true↔GN s.sc a=true/\∀x∈l,WU s a x=true:=by rw[apC,cm,dP,abi]
theorem all_nil:apC s a []=GN s.sc a:=by
 rw[gd,akf];exact⟨fun h=>h.1,fun h=>⟨h,fun x hx=>by cases hx⟩⟩
end
section
variable{s:kx}{a m:As}{aS:Int}{l:List dI}
theorem afp{sh:Sh}{op:Int}{a b:El}(fa:cf sh a=true)(fb:cf sh b=true):cf sh (Lf sh op a b)=true:=by grind[Lf,GJ,apb]
theorem yE{sh:Sh}{op:Int}{l:List El}(h:l≠[])(hf:∀e∈l,cf sh e=true):cf sh (qc (Lf sh op) l)=true:=by
 induction l with
 |nil=>exact absurd O h
 |cons e l ih=>
  cases l with
  |nil=>exact hf e aA
  |cons b l=>
   have:=ih aA fun x hx=>hf x (fq _ hx)
   show cf sh (Lf sh op e (qc (Lf sh op) (b::l)))=true
   exact afp (hf e aA) this
theorem meet_mono{a b c d:El}(h:cK a b=true)(h2:cK c d=true):cK (qM a c) (qM b d)=true:=by grind[atS,K9,apc]
theorem join_mono{sh:Sh}{a b c d:El}(fa:cf sh a=true)(fb:cf sh b=true)(fc:cf sh c=true)(fd:cf sh d=true)(h:cK a b=true)(h2:cK c d=true):cK (fh sh a c) (fh sh b d)=true:=by grind[YM,GJ,K9,WB]
theorem afq{sh:Sh}{op:Int}{a b c d:El}(fa:cf sh a=true)(fb:cf sh b=true)(fc:cf sh c=true)(fd:cf sh d=true)(h:cK a b=true)(h2:cK c d=true):cK (Lf sh op a c) (Lf sh op b d)=true:=by grind[Lf,join_mono,meet_mono]
def tB:List El->List El->Prop
 |[],[]=>True
 |a::l,b::m=>cK a b=true/\tB l m
 |_,_=>False
theorem tB.len:∀{l m:List El},tB l m->l.length=m.length
 |[],[],_=>rfl
 |_::_,_::_,h=>by simp[tB.len h.2]
 |[],_::_,h=>h.elim
 |_::_,[],h=>h.elim
theorem tB.app:∀{l m l' m':List El},tB l m->tB l' m'->tB (l++l') (m++m')
 |[],[],_,_,_,h=>h
 |_::_,_::_,_,_,h,h'=>⟨h.1,tB.app h.2 h'⟩
 |[],_::_,_,_,h,_=>h.elim
 |_::_,[],_,_,h,_=>h.elim
theorem tB.take:∀{l m:List El} (n:Nat),tB l m->tB (l.take n) (m.take n)
 |[],[],n,_=>by simp[tB]
 |_::_,_::_,0,h=>by simp[tB]
 |_::_,_::_,n+1,h=>⟨h.1,tB.take n h.2⟩
 |[],_::_,_,h=>h.elim
 |_::_,[],_,h=>h.elim
theorem tB.drop:∀{l m:List El} (n:Nat),tB l m->tB (l.drop n) (m.drop n)
 |[],[],n,_=>by simp[tB]
 |_::_,_::_,0,h=>h
 |_::_,_::_,n+1,h=>tB.drop n h.2
 |[],_::_,_,h=>h.elim
 |_::_,[],_,h=>h.elim
theorem tB.nr:∀{l m:List El},tB l m->cK (l.getD 0 dh) (m.getD 0 dh)=true
 |[],[],_=>jy _
 |_::_,_::_,h=>h.1
 |[],_::_,h=>h.elim
 |_::_,[],h=>h.elim
theorem Li{sh:Sh}{op:Int}:∀{l m:List El},tB l m->(∀e∈l,cf sh e=true)->(∀e∈m,cf sh e=true)->cK (qc (Lf sh op) l) (qc (Lf sh op) m)=true
 |[],[],_,_,_=>jy _
 |[a],[b],h,_,_=>h.1
 |a::a'::l,b::b'::m,h,hf,hg=>by
  have ih:=Li (sh:=sh) (op:=op) (l:=a'::l) (m:=b'::m) h.2 (fun x hx=>hf x (fq _ hx)) (fun x hx=>hg x (fq _ hx))
  have f1:=yE (sh:=sh) (op:=op) (l:=a'::l) aA fun x hx=>hf x (fq _ hx)
  have f2:=yE (sh:=sh) (op:=op) (l:=b'::m) aA fun x hx=>hg x (fq _ hx)
  exact afq (hf a aA) (hg b aA) f1 f2 h.1 ih
 |[],_::_,h,_,_=>h.elim
 |_::_,[],h,_,_=>h.elim
 |[_],_::_::_,h,_,_=>h.2.elim
 |_::_::_,[_],h,_,_=>h.2.elim
end
section
variable{s:kx}{a b:As}{aS:Int}{T U:z6}
theorem afr{a b:El}(h:qK a b):qK b a:=fun i hi=>(h i hi).symm
end
def r8:Value->Nat->Value
 | .slice a _ _,n=> .slice a n n
 |v,_=>v
theorem Sl.r8{w:World}{v:Value}{sz m n:Nat}{cells:List Value}(h:Sl w v sz m cells)(hn:n<=m):Sl w (r8 v n) sz n (cells.take (n*sz)):=by
 obtain⟨a,cap,rfl,hc,ha⟩:=h.shape
 refine⟨⟨a,n,rfl,eI _,fun hp=> ?_⟩,?_,fun j c hj=> ?_,kg hn h.small⟩
 .have:=ha J
  cases a with
  |none=>cases this
  |some a=>exact this
 .rw[eD,h.len];exact qI (qH _ hn)
 have hlt:j<n*sz:=by
  have:=(mC.1 hj).1
  rw[eD]at this;omega
 rw[tM,aR hlt]at hj
 have:=h.cell j c hj
 cases a<;>exact this
theorem Lj{w:World}{v:Value}{sz m n:Nat}{cells:List Value}(h:Sl w v sz m cells):∃a,E.r8 v n= .slice a n n:=by
 obtain⟨a,cap,rfl,_,_⟩:=h.shape
 exact⟨a,rfl⟩
theorem set_perm{α:Type}{x:α}:∀{l:List α} {i:Nat},i<l.length->(l.set i x).Perm (x::l.eraseIdx i)
 |a::l,0,_=>PF _
 |a::l,i+1,h=>(List.Perm.cons a (set_perm (l:=l) (i:=i) wx)).trans (List.Perm.swap _ _ _)
 |[],_,h=>absurd h aA
theorem Hp.swap{w0 w:World}{L:List a8}{x:a8}{i:Nat}(h:Hp w0 w (x::L))(hi:i<L.length):Hp w0 w (L.set i x):=
 (h.sub (List.Sublist.cons_cons _ (List.eraseIdx_sublist _ _))).perm (set_perm hi).symm
section
variable{P:Program}{n:Nat}{ops:Array Oper}{k:K}{rest:List Oper}{σ:Env}{w0 w:World}{L L' UU:List a8}{ty:TypeId}{pos:String}{bH:Array Edge}{d:Nat}{x y:Operand}{dst:Option Tmp}{g:Option (Nat×Bool)}
theorem uz{t e:TypeId}{lo hi:Operand}{v:Value}{sz m:Nat}{q:Int}{cells:List Value}(hS:Sl w v sz m cells)(hu:P.underlying t=some (.slice e))(hs:∀w,(sizeOf e).run P w= .ok sz w)(hx:ev σ x=v)(hlo:ev σ lo=I q)(hhi:ev σ hi=I q)(h:0<=q/\q<=m):
  (execOp (ev σ) ⟨dst,.slice t x none (some lo) (some hi),ty,pos,bH,g⟩).run P w= .ok (.value (r8 v q.toNat)) w:=by
 obtain⟨a,cap,rfl,hcap,ha⟩:=hS.shape
 have h1:0<=q/\q<=(cap:Int):=J
 have h2:0<=q/\q<=((q.toNat:Nat):Int):=J
 have h3:(Instr.slice t (.slice a m cap) none (some (I q)) (some (I q))).run P w= .ok (.slice a q.toNat q.toNat) w:=by
  have e0:Option.map (fun x:Addr=>x.add 0) a=a:=by cases a<;>simp[Addr.add]
  have h5:q<=max q 0:=J
  simp[Instr.slice,Instr.sliceBounds,Instr.sliceBound,jG hu,asIntOf,h1,h2,hs,e0,h5]
 have h4:(Instr.sliceAt t (.slice a m cap) none (some (I q)) (some (I q))).run P w= .ok (.slice a q.toNat q.toNat) w:=by
  simp[Instr.sliceAt,jG hu,h3]
 simp[execOp,hx,hlo,hhi,h4,r8]
theorem Lk{base:Nat}{t ty e:TypeId}{i:TypeInfo}{z:Value}{size bytes:Nat}(ht:P.underlying t=some (.slice e))(hi:P.info? e=some i)(hz:i.zero=some z)
  (hsize:i.size=size) (hby:i.bytes=bytes) (hzs:z.cells.size=size) {v:Value} {n:Nat} {xs:List Value} (hv:∃a,v= .slice a n n) (hX:Sl w v size n xs) {y:Value} {m:Nat} {news:List Value} (hS:Sl w y size m news)
  (hm:0<m) (h63:n+m<=maxLen) (hbytes:(n+m)*bytes<=140737488355328):
  ∃v' w',(Builtin.append_ #[t,t] ty #[v,y]).run P w= .ok v' w'/\w'.ownsRow w.heap.size e size v' (n+m) (xs++news)/\Below w.heap.size w w':=by
 subst hsize
 subst hby
 obtain⟨a,rfl⟩:=hv
 obtain⟨b,c,hy,hmc,hb⟩:=hS.shape
 have hb':=hb hm
 have hyy:y= .slice (some ⟨sb y,so y,none⟩) m c:=by rw[<-hb'];exact hy
 have hnews:∀j u,news[j]?=some u->w.cell? ((⟨sb y,so y,none⟩:Addr).add j)=some u:=fun j u hu=>by rw[F3];exact hS.cell j u hu
 have hlen:(xs++news).length=(n+m)*i.size:=by rw[cV,hX.len,hS.len,kE]
 have hsmall:n+m<=9223372036854775807:=by simp only[maxLen]at h63;omega
 have grown:∀(old:Nat),old<n+m->
   (w.drew.alloc (.cells (xs.toArray++news.toArray++Builtin.zeroCells z.cells (grownCap w (n+m) old e-(n+m))) e)).ownsRow w.heap.size e i.size
    (.slice (some ⟨w.heap.size,0,none⟩) (n+m) (grownCap w (n+m) old e)) (n+m) (xs++news)/\
   Below w.heap.size w (w.drew.alloc (.cells (xs.toArray++news.toArray++Builtin.zeroCells z.cells (grownCap w (n+m) old e-(n+m))) e)):=by
  intro old ho
  have hge:=grownCap_ge w (n+m) old e
  have hcm:grownCap w (n+m) old e<=maxLen:=grownCap_le_maxLen w (n+m) old e h63
  refine⟨⟨hlen,.inr ⟨w.heap.size,_,_,rfl,eI _,heap_alloc_new w.drew _,hge,hcm,?_,?_⟩⟩,⟨rfl,rfl,rfl,aA,fun k hk=>heap_alloc_old w.drew _ hk⟩⟩
  .simp only[Array.size_append,tQ,size_zeroCells,hzs,hX.len,hS.len,<-kE]
   congr 1
   omega
  simp only[Array.toList_append,dg]
  rw[<-dg,<-hlen]
  exact tR
 rw[hyy]
 cases a with
 |none=>
  have hn:n=0:=by
   rcases Px n with h|h
   .exact h
   obtain⟨a',c',e1,_,h2⟩:=hX.shape
   injection e1 with e1
   rw[<-e1]at h2;cases h2 h
  subst hn
  have hx:xs=[]:=Et (by simpa using hX.len)
  subst hx
  have hr:=run_append_nil (P:=P) w t ty e i z ht hi hz ⟨sb y,so y,none⟩ m c news hS.len hnews J J adv
  have hgr:=grown 0 J
  simp only[gA,dZ,Array.empty_append]at hgr⊢
  exact⟨_,_,hr,hgr.1,hgr.2⟩
 |some a=>
  have holds:∀j u,xs[j]?=some u->w.cell? (a.add j)=some u:=fun j u hu=>by
   have hj:j<n*i.size:=by have:=(mC.1 hu).1;rw[hX.len]at this;exact this
   have hn:0<n:=by
    rcases Px n with h|h
    .subst h;simp at hj
    exact h
   obtain⟨a',c',e1,_,h2⟩:=hX.shape
   injection e1 with e1
   have h3:=h2 hn
   rw[<-e1]at h3
   have h4:a=⟨sb (.slice (some a) n n),so (.slice (some a) n n),none⟩:=by injection h3
   rw[h4,F3];exact hX.cell j u hu
  have hr:=run_append_grow (P:=P) w t ty e i z ht hi hz a n n xs hX.len holds ⟨sb y,so y,none⟩ m c news hS.len hnews J J (growslice_fits J hbytes)
  have hgr:=grown n J
  exact⟨_,_,hr,hgr.1,hgr.2⟩
theorem aBj{t e:TypeId}{i:Nat}{ie:TypeInfo}{z:Value}{size bytes:Nat}{v u:Value}{m m' q:Nat}{xs news:List Value}(hd:Nat.blt d n=true)(hH:Hp w0 w L)(hL:L[i]?=some (.row v e size m xs))(hq:q<=m)(hS:Sl w u size m' news)
  (hx:ev σ x=r8 v q) (hy:ev σ y=u) (ht:P.underlying t=some (.slice e)) (hi:P.info? e=some ie) (hz:ie.zero=some z)
  (hsize:ie.size=size) (hby:ie.bytes=bytes) (hzs:z.cells.size=size) (hm:0<m')
  (hbytes:(q+m')*bytes<=140737488355328) (h63:q+m'<=maxLen)
  (hk:∀v' w',Hp w0 w' (L.set i (.row v' e size (q+m') (xs.take (q*size)++news)))->RL P n ops k rest (k7 σ d v') w'):
  RL P n ops k (⟨some d,.call {callee:= .builtin .append,args:=#[x,y],argTypes:=#[t,t]},ty,pos,bH,none⟩::rest) σ w:=by
 have hX:=hH.sl hL
 obtain⟨v',w',hr,h2,h3⟩:=Lk (P:=P) (base:=0) (ty:=ty) ht hi hz hsize hby hzs (Lj hX) (hX.r8 hq) hS hm h63 hbytes
 exact n5 hd (rN hx hy hr) (hk v' w' ((hH.B9 h3 h2).swap (mC.1 hL).1))
variable{l:List Oper}{fuel i:Nat}{listed:Array Bool}
theorem Qv{t e:TypeId}{j:Nat}{ie:TypeInfo}{z:Value}{size bytes:Nat}{v u:Value}{m m' q:Nat}{xs news:List Value}(hi:l[i]?=some ⟨some d,.call {callee:= .builtin .append,args:=#[x,y],argTypes:=#[t,t]},ty,pos,bH,g⟩)
  (hg:∀a,Is n σ a->Region.wanted ⟨some d,.call {callee:= .builtin .append,args:=#[x,y],argTypes:=#[t,t]},ty,pos,bH,g⟩ (yielded l.toArray a.tmps)=true) (hd:Nat.blt d n=true) (hH:Hp w0 w UU) (hL:UU[j]?=some (.row v e size m xs)) (hq:q<=m)
  (hs:∀v',L'.Sublist (UU.set j (.row v' e size (q+m') (xs.take (q*size)++news)))) (hS:Sl w u size m' news)
  (hx:ev σ x=r8 v q) (hy:ev σ y=u) (ht:P.underlying t=some (.slice e)) (hie:P.info? e=some ie) (hz:ie.zero=some z)
  (hsize:ie.size=size) (hby:ie.bytes=bytes) (hzs:z.cells.size=size) (hm:0<m')
  (hbytes:(q+m')*bytes<=140737488355328) (h63:q+m'<=maxLen)
  (hk:∀v' w',Hp w0 w' (UU.set j (.row v' e size (q+m') (xs.take (q*size)++news)))->AN P n l (fun w=>Hp w0 w L') k fuel (listed.setIfInBounds i true) (k7 σ d v') w'):AO P n l (fun w=>Hp w0 w L') k fuel listed σ w i:=by
 have hX:=hH.sl hL
 obtain⟨v',w',hr,h2,h3⟩:=Lk (P:=P) (base:=0) (ty:=ty) ht hie hz hsize hby hzs (Lj hX) (hX.r8 hq) hS hm h63 hbytes
 have hH':=(hH.B9 h3 h2).swap (i:=j) (mC.1 hL).1
 exact A4 hi hg hd (rN hx hy hr) (hH'.sub (hs v')) (hk v' w' hH')
end
section
variable{P:Program}{n:Nat}{ops:Array Oper}{k:K}{rest l:List Oper}{σ:Env}{w0 w:World}{L:List a8}{op:Op}{ty t e et:TypeId}{pos:String}{bH:Array Edge}{d:Nat}{x y:Operand}{g:Option (Nat×Bool)}{v u:Value}{sz m i o:Nat}{xs:List Value}{dst:Option Tmp}
theorem EU(hH:Hp w0 w L)(hi:L[i]?=some (.row v e sz m xs))(hm:0<m)(hx:ev σ x= .pointer (some ⟨sb v,so v+o,none⟩))(hy:ev σ y=u)(hv:u.cells=#[u])(h1:u.oneCell'=true)(hs:(P.info? t).map (·.size)=some 1)(ho:o+1<=m*sz):
  ∃w',(execOp (ev σ) ⟨dst,.store t x y,ty,pos,bH,g⟩).run P w= .ok .skip w'/\Hp w0 w' (L.set i (.row v e sz m (rq xs o [u]))):=by
 obtain⟨gb,cap,rfl,hnc,cur,hg,hc,ht,hk⟩:=hH.Jc hi hm
 have hcm:m*sz<=cap*sz:=qH _ hnc
 have hx':ev σ x= .pointer (some ⟨gb,o,none⟩):=by rw[hx];simp only[sb,so,gA]
 have hr:=bM (P:=P) (dst:=dst) (ty:=ty) (pos:=pos) (bH:=bH) (g:=g) hs hx' hy hv h1 hg J
 have e1:(cur.setIfInBounds o u).toList=cur.toList.take o++[u]++cur.toList.drop (o+1):=by
  simp[U9,show o<cur.size by omega]
 have h2:=hk (cur.setIfInBounds o u) aA
 rw[e1,show cur.toList.take o++[u]++cur.toList.drop (o+1)=cur.toList.take o++[u]++cur.toList.drop (o+[u].length)from O,ER (by simpa using ho) P4,ht]at h2
 exact⟨_,hr,h2⟩
theorem yF(hH:Hp w0 w L)(hi:L[i]?=some (.row v e sz m xs))(hm:0<m)(hx:ev σ x= .pointer (some ⟨sb v,so v+o,none⟩))(hy:ev σ y=u)(hv:u.cells=#[u])(h1:u.oneCell'=true)(hs:(P.info? t).map (·.size)=some 1)(ho:o+1<=m*sz)
  (hk:∀w',Hp w0 w' (L.set i (.row v e sz m (rq xs o [u])))->RL P n ops k rest σ w'):RL P n ops k (⟨none,.store t x y,ty,pos,bH,none⟩::rest) σ w:=by
 obtain⟨w',hr,h2⟩:=EU (dst:=none) (ty:=ty) (pos:=pos) (bH:=bH) (g:=none) hH hi hm hx hy hv h1 hs ho
 exact J4 hr (hk w' h2)
variable{fuel j:Nat}{listed:Array Bool}{L':List a8}
theorem apD(hj:l[j]?=some ⟨none,.store t x y,ty,pos,bH,g⟩)(hg:∀a,Is n σ a->Region.wanted ⟨none,.store t x y,ty,pos,bH,g⟩ (yielded l.toArray a.tmps)=true)(hH:Hp w0 w L)(hi:L[i]?=some (.row v e sz m xs))(hsub:∀ys,L'.Sublist (L.set i (.row v e sz m ys)))(hm:0<m)
  (hx:ev σ x= .pointer (some ⟨sb v,so v+o,none⟩)) (hy:ev σ y=u) (hv:u.cells=#[u]) (h1:u.oneCell'=true) (hs:(P.info? t).map (·.size)=some 1) (ho:o+1<=m*sz)
  (hk:∀w',Hp w0 w' (L.set i (.row v e sz m (rq xs o [u])))->AN P n l (fun w=>Hp w0 w L') k fuel (listed.setIfInBounds j true) σ w'):AO P n l (fun w=>Hp w0 w L') k fuel listed σ w j:=by
 obtain⟨w',hr,h2⟩:=EU (dst:=none) (ty:=ty) (pos:=pos) (bH:=bH) (g:=g) hH hi hm hx hy hv h1 hs ho
 exact Kf hj hg hr (h2.sub (hsub _)) (hk w' h2)
end
section
variable{P:Program}{σ:Env}{w:World}{ty:TypeId}{pos:String}{bH:Array Edge}{dst:Option Tmp}{g:Option (Nat×Bool)}{x:Operand}
end
theorem Sl.frE{α:Type}{cl:α->List Value}{sz:Nat}{w:World}{v:Value}{l:List α}(hsz:∀a,(cl a).length=sz)(h:Sl w v sz l.length (l.flatMap cl))(o:Nat)(ho:o<=l.length):Sl w (nS v sz o) sz (l.drop o).length ((l.drop o).flatMap cl):=by
 have:=h.fr o ho
 rw[aba hsz _ _ ho]at this
 rw[vk];exact this
section
variable{w0 w:World}{L:List a8}
theorem Qw{B:Nat}{a:World}(h:Below B a w){b:Nat}(hb:B<=b)(o:Obj):Below B a {w with heap:=w.heap.setIfInBounds b o}:=
 h.trans ⟨rfl,rfl,rfl,aA,fun k hk=>by
  show(w.heap.setIfInBounds b o)[k]?=_
  rw[CP,aP J]⟩
theorem Hp.setObj{i b:Nat}{o:Obj}(h:Hp w0 w L)(hi:L[i]?=some (.blk b o))(o':Obj):Hp w0 {w with heap:=w.heap.setIfInBounds b o'} (L.set i (.blk b o')):=by
 have hx:=h.ok _ (kU hi)
 have hil:=(mC.1 hi).1
 have hb:=(Ay.1 hx.2).1
 refine⟨Qw h.below hx.1 o',fun y hy=> ?_,A2 hi O h.Kc⟩
 obtain⟨j,hj,DM⟩:=xU.1 hy
 rw[xY]at DM
 split at DM
 .subst DM
  refine⟨hx.1,?_⟩
  show(w.heap.setIfInBounds b o')[b]?=_
  rw[CP,aR O,aR hb]
 rename_i hne
 have hjL:j<L.length:=by simpa using hj
 have hyL:y∈L:=DM▸pS hjL
 refine a8.B8 (h.ok y hyL) fun bb hf=> ?_
 have Ip:b≠bb:=fun Ip=>by
  subst Ip
  have hp:=Pm.1 h.Kc
  have hLi:L[i]= .blk b o:=(mC.1 hi).2
  rcases Vs hne with hlt|hgt
  .rcases hp i j hil hjL hlt with h0|h0
   .rw[hLi]at h0;cases h0
   rw[hLi,DM,hf]at h0;exact h0 O
  rcases hp j i hjL hil hgt with h0|h0
  .rw[DM,hf]at h0;cases h0
  rw[hLi,DM,hf]at h0;exact h0 O
 show(w.heap.setIfInBounds b o')[bb]?=_
 rw[CP,aP Ip]
end
structure S2(es:Array MapEntry)(clock:Nat)(kv:List (Tx×El)):Prop where
 at_:es.toList.map (fun e=>(e.key,e.val))=kv.map fun p=>(S p.1,Value.agg (iU p.2))
 born:(es.toList.map (·.born)).Nodup
 old:∀x∈es.toList,x.born<clock
 apE:(kv.map Prod.fst).Nodup
theorem aun{a b:Tx}(h:S a=S b):a=b:=by injection h
section
variable{es:Array MapEntry}{clock:Nat}{kv:List (Tx×El)}
theorem S2.get(h:S2 es clock kv){j:Nat}{e:MapEntry}(he:es.toList[j]?=some e):∃p,kv[j]?=some p/\e.key=S p.1/\e.val= .agg (iU p.2):=by
 have:=aJ (·[j]?) h.at_
 simp only[ph,he,pT]at this
 cases hk:kv[j]? with
 |none=>rw[hk]at this;cases this
 |some p=>rw[hk]at this;injection this with q;injection q with q1 q2;exact⟨p,rfl,q1,q2⟩
theorem S2.size(h:S2 es clock kv):es.size=kv.length:=by
 have:=aJ List.length h.at_
 simpa using this
theorem S2.keys(h:S2 es clock kv):∀x∈es.toList,MapKept.IsKey .string x.key:=fun x hx=>by
 obtain⟨j,hj⟩:=Vk.1 hx
 obtain⟨p,_,hk,_⟩:=h.get hj
 rw[hk];trivial
theorem afs{f:Tx}{e:El}(h:(kv.map Prod.fst).Nodup)(hm:(f,e)∈kv):HW kv f=(e,true):=by grind[HW,List.find?_eq_none,List.mem_of_find?_eq_some,List.getElem_of_mem,Nat.lt_trichotomy,List.pairwise_iff_getElem]
theorem akg{f:Tx}(h:∀p∈kv,p.1≠f):HW kv f=(dh,false):=by grind[HW]
theorem S2.find(h:S2 es clock kv)(f:Tx):(Instr.findNow .string (S f) es.toList 0=some none/\HW kv f=(dh,false)/\∀p∈kv,p.1≠f)\/
  ∃j e el,Instr.findNow .string (S f) es.toList 0=some (some (j,.agg (iU el)))/\es.toList[j]?=some e/\e.key=S f/\kv[j]?=some (f,el)/\HW kv f=(el,true):=by
 rcases MapKept.findNow_spec (d:= .string) (k:=S f) trivial es.toList 0 h.keys with⟨h1,h2⟩|⟨j,e,h1,h2,h3⟩
 .have hno:∀p∈kv,p.1≠f:=fun p hp q=>by
   obtain⟨j,hj⟩:=Vk.1 hp
   have hlt:j<es.toList.length:=by
    have:=(mC.1 hj).1
    have e:=h.size
    simp;omega
   obtain⟨p',hp',hk,_⟩:=h.get (dO hlt)
   rw[hj]at hp';injection hp' with hp';subst hp'
   exact h2 _ (pS hlt) (by rw[hk,q])
  exact .inl ⟨h1,akg hno,hno⟩
 obtain⟨p,hp,hk,hv⟩:=h.get h2
 have hf:p.1=f:=aun (hk.symm.trans h3)
 have hp':kv[j]?=some (f,p.2):=by rw[hp,<-hf]
 exact .inr ⟨j,e,p.2,by rw[h1,hv,gA],h2,h3,hp',afs h.apE (kU hp')⟩
end
section
variable{P:Program}{n:Nat}{ops:Array Oper}{k:K}{rest:List Oper}{σ:Env}{w0 w:World}{L:List a8}{ty:TypeId}{pos:String}{bH:Array Edge}{d:Nat}{dst:Option Tmp}{g:Option (Nat×Bool)}{x y z:Operand}{t kt et:TypeId}{es:Array MapEntry}{clock b:Nat}{kv:List (Tx×El)}{f:Tx}
theorem aBk{i bi since c0:Nat}{seen:Array Nat}(hd:Nat.blt d n=true)(hH:Hp w0 w L)(hi:L[i]?=some (.blk bi (.mapIter (some b) since seen c0)))(hb:w.heap[b]?=some (.map es clock))(hold:∀x∈es.toList,x.born<since)(hsc:since<=c0)(hx:ev σ x= .pointer (some ⟨bi,0,none⟩))
  (h1:(leftOf es seen).size=0->RL P n ops k rest (k7 σ d (.tuple #[B false])) w)
  (h2:∀e∈(leftOf es seen).toList,∀w',Hp w0 w' (L.set i (.blk bi (.mapIter (some b) since (seen.push e.born) clock)))->RL P n ops k rest (k7 σ d (.tuple #[B true,e.key,e.val])) w'):
  RL P n ops k (⟨some d,.next x false,ty,pos,bH,none⟩::rest) σ w:=by
 have hbi:=hH.blk hi
 have key:((leftOf es seen).size=0/\(Instr.next (.pointer (some ⟨bi,0,none⟩)) false ty).run P w= .ok (.tuple #[.bool false]) w)\/
   ∃e∈(leftOf es seen).toList,∃w1:World,(w1=w\/w1=w.drew)/\(Instr.next (.pointer (some ⟨bi,0,none⟩)) false ty).run P w= .ok (.tuple #[.bool true,e.key,e.val]) {w1 with heap:=w1.heap.setIfInBounds bi (.mapIter (some b) since (seen.push e.born) clock)}:=by
  simp only[Instr.next,getObj,sH,Sem.run,hbi,hb,Result.andThen,next_test_false seen es since c0 hold hsc,sZ,ww]
  unfold leftOf
  have hmem:∀x∈(Array.filter (fun e=> !seen.contains e.born) es).toList,x.born<since:=fun x hx=>hold x (by simp at hx⊢;exact hx.1)
  generalize Array.filter (fun e=> !seen.contains e.born) es=Q at hmem⊢
  have e1:Q.filter (fun x=>decide (x.born<since))=Q:=Array.filter_eq_self.2 (fun x hx=>by simpa using hmem x (by simpa using hx))
  have e2:Q.filter (fun x=>decide (x.born>=since))=#[]:=by
   rw[Array.filter_eq_empty_iff]
   intro x hx
   have:=hmem x (by simpa using hx)
   simp
   omega
  simp only[e1,e2,Array.append_empty]
  by_cases h0:Q.size=0
  .left
   have:Q=#[]:=acZ h0
   subst this
   refine⟨rfl,?_⟩
   simp[choose,Sem.run,Question.forced]
  right
  have hne:Q.isEmpty=false:=by simp[Array.isEmpty,h0]
  simp only[hne,sZ,ww,Array.empty_append,Array.size_map]
  have hch:∃(j:Nat) (w1:World),j<Q.size/\(w1=w\/w1=w.drew)/\(choose (Question.mapNext Q.size)).run P w= .ok j w1:=by
   by_cases hf:Q.size<=1
   .exact⟨0,w,J,.inl O,by simp[choose,Sem.run,Question.forced,hf]⟩
   exact⟨_,w.drew,Nat.mod_lt _ J,.inr O,by
    simp only[choose,Sem.run,Question.forced,dP,hf,ww,Question.cut]
    rfl⟩
  obtain⟨j,w1,hj,hal,hrun⟩:=hch
  refine⟨Q[j],aA,w1,hal,?_⟩
  have hb1:w1.heap[bi]?=some (.mapIter (some b) since seen c0):=by rcases hal with rfl|rfl<;>exact hbi
  simp only[hrun,Array.getElem?_map,ac5 hj,pT,sH,Result.andThen]
  simp[setObj,Sem.run,hb1]
 rcases key with⟨h0,hr⟩|⟨e,he,w1,hw,hr⟩
 .exact n5 hd (by simp[execOp,hx,hr,Result.andThen]) (h1 h0)
 refine n5 (w':={w1 with heap:=w1.heap.setIfInBounds bi (.mapIter (some b) since (seen.push e.born) clock)}) hd (by simp[execOp,hx,hr,Result.andThen]) (h2 e he _ (Hp.setObj (o:= .mapIter (some b) since seen c0) ?_ hi _))
 rcases hw with rfl|rfl
 .exact hH
 exact hH.drew
end
def auo(v:jd):Tx×El:=(v.name,v.el)
def GSt(its:List jd)(g o:Bool)(kv:List (Tx×El)):Prop:=o=(g&&amW its)/\(o=true->kv=its.map auo)
def aJZ(a:As)(t:z6):List jd:=if t.tail<a.rows.length then amV a t else[]
section
variable{P:Program}{n:Nat}{ops:Array Oper}{k:K}{rest:List Oper}{σ:Env}{w0 w:World}{L:List a8}{ty:TypeId}{pos:String}{bH:Array Edge}{d:Nat}{dst:Option Tmp}{g:Option (Nat×Bool)}{x:Operand}{es:Array MapEntry}{clock b:Nat}{kv:List (Tx×El)}
def Seen(es:Array MapEntry)(kv:List (Tx×El))(seen:Array Nat)(ns:List Tx):Prop:=
 (∀t∈ns,t∈kv.map Prod.fst)/\(∀e∈es.toList,seen.contains e.born=true->∃t∈ns,e.key=S t)/\ns.length+(leftOf es seen).size<=es.size
end
section
variable{P:Program}{σ:Env}{w:World}{ty t u:TypeId}{pos:String}{bH:Array Edge}{dst:Option Tmp}{g:Option (Nat×Bool)}{x y:Operand}{a b:Tx}
end
def aBl(ns:List Tx)(kv:List (Tx×El))(k:Int):List jd:=(ns.take k.toNat).map fun n=>⟨n,(HW kv n).1⟩
section
variable{a:M5}{r:z6}{k:Int}{m:List jd}
end
structure aGQ(a:M5):Prop where
 rl:∀x∈a.rows,x.l.length<=1000
 rn:∀x∈a.rows,∀v∈x.l,v.name.size<=1000
structure afv(x:fU):Prop where
 c:x.code.length<=1000
 fa:x.a.fields.length<=1000
 fb:x.b.fields.length<=1000
 na:∀f∈x.a.fields,f.name.size<=1000
 nb:∀f∈x.b.fields,f.name.size<=1000
def vH(x:fU):Bool:=decide (200<x.code.length\/40<x.a.fields.length\/40<x.b.fields.length\/40<x.field.size)||(x.a.fields++x.b.fields).any fun f=>decide (40<f.name.size)
def Ll(p:mY):Bool:=uv p.s||decide (80<p.cz.length)||p.cz.any vH
theorem aki{x:fU}(h:vH x=false):afv x:=by grind[fU,vH,afv]
theorem Y5{p:mY}(h:Ll p=false):uv p.s=false/\p.cz.length<=80/\∀x∈p.cz,afv x:=by grind[Ll,aki]
theorem Lm(l:List kJ):∀u∈l.flatMap sO,u.oneCell'=true:=by grind[Lc]
theorem pw{s:kx}{a:As}{l:List fU}{k:Int}(h0:0<=k)(h1:k<l.length)(h:WU s a (l.getD k.toNat iJ)=false)(hg:∀j:Int,0<=j->j<k->WU s a (l.getD j.toNat iJ)=true):Lh s a l=k:=
 uo h0 h1 (by rw[h];rfl) fun j a b=>by rw[hg j a b];rfl
theorem rU{s:kx}{a:As}{l:List fU}{k:Int}(hk:¬k<l.length)(hg:∀j:Int,0<=j->j<k->WU s a (l.getD j.toNat iJ)=true):Lh s a l= -1:=
 EJ fun j a b=>by rw[hg j a J];rfl
theorem Co{x:fU}(h:200<x.code.length\/40<x.a.fields.length\/40<x.b.fields.length\/40<x.field.size):vH x=true:=by grind[vH]
theorem abj{x:fU}{m:List kJ}{k:Int}(hm:m=x.a.fields++x.b.fields)(h0:0<=k)(h1:k<m.length)(h:40<(m.getD k.toNat mw).name.size):vH x=true:=by grind[vH,EP,mw]
theorem akj{x:fU}{m:List kJ}{k:Int}(hm:m=x.a.fields++x.b.fields)(h:¬(200<x.code.length\/40<x.a.fields.length\/40<x.b.fields.length\/40<x.field.size))(h1:¬k<m.length)(h2:∀j:Int,0<=j->j<k->decide (40<(m.getD j.toNat mw).name.size)=false):vH x=false:=by
 rw[vH,<-hm,gm h,Qn (d:=mw) h1 h2];rfl
theorem Oo{p:mY}(h:uv p.s=true\/80<p.cz.length):Ll p=true:=by grind[Ll]
theorem abk{p:mY}{k:Int}(h0:0<=k)(h1:k<p.cz.length)(h:vH (p.cz.getD k.toNat iJ)=true):Ll p=true:=by grind[Ll,EP,iJ]
theorem afw{p:mY}{k:Int}(h:uv p.s=false)(h2:¬80<p.cz.length)(h1:¬k<p.cz.length)(h3:∀j:Int,0<=j->j<k->vH (p.cz.getD j.toNat iJ)=false):Ll p=false:=by
 rw[Ll,h,gm h2,Qn (d:=iJ) h1 h3];rfl
end
end Go.Proofs.YtlhjdflgjbkpmaaGreatDoor.E
namespace Go.Proofs.YtlhjdflgjbkpmaaGreatDoor.M
section
open Go
structure pB where
 up:Nat
 size:Nat
 next:Nat
 least:Nat
def DY:pB:=⟨0,0,0,0⟩
def Wk(f:Nat->Nat):Nat->List Nat->Nat->Prop
 |v,[],y=>v=y
 |v,z::l,y=>v=z/\Wk f (f z) l y
theorem Wk.app{f:Nat->Nat}{l m:List Nat}{v z y:Nat}:Wk f v (l++z::m) y↔Wk f v l z/\Wk f (f z) m y:=by
 induction l generalizing v with
 |nil=>exact AV
 |cons a l ih=>simp only[fH,Wk,ih,and_assoc]
theorem Wk.congr{f g:Nat->Nat}{l:List Nat}{v y:Nat}(h:Wk f v l y)(he:∀x∈l,g x=f x):Wk g v l y:=by
 induction l generalizing v with
 |nil=>exact h
 |cons a l ih=>exact⟨h.1,by rw[he a aA];exact ih h.2 fun x hx=>he x (fq _ hx)⟩
def Ring(f:Nat->Nat)(i:Nat)(t:List Nat):Prop:=Wk f (f i) t i/\(i::t).Nodup
theorem Ring.rot{f:Nat->Nat}{i j:Nat}{t:List Nat}(h:Ring f i t)(hj:j∈i::t):∃u,Ring f j u/\∀k,k∈j::u↔k∈i::t:=by
 rcases cT.1 hj with rfl|hj
 .exact⟨t,h,fun _=>AV⟩
 obtain⟨l,m,rfl⟩:=Vv hj
 have h1:=Wk.app.1 h.1
 refine⟨m++i::l,⟨Wk.app.2 ⟨h1.2,h1.1⟩,?_⟩,fun k=>by simp only[cT,eF];constructor<;>(intro q;rcases q with q|q|q|q<;>simp[q])⟩
 have h2:=h.2
 have e:j::(m++i::l)=(j::m)++(i::l):=rfl
 have e2:i::(l++j::m)=(i::l)++(j::m):=rfl
 rw[e2]at h2
 rw[e]
 exact(sE.nodup_iff).1 h2
theorem Ring.join{f g:Nat->Nat}{a b:Nat}{la lb:List Nat}(ha:Ring f a la)(hb:Ring f b lb)(hd:∀x∈a::la,x∉b::lb)(ga:g a=f b)(gb:g b=f a)(ho:∀x,x≠a->x≠b->g x=f x):Ring g a (lb++b::la):=by
 have na:a∉la:=(mM.1 ha.2).1
 have nb:b∉lb:=(mM.1 hb.2).1
 have a1:a∉b::lb:=hd a aA
 refine⟨Wk.app.2 ⟨?_,?_⟩,?_⟩
 .rw[ga]
  exact hb.1.congr fun x hx=>ho x (fun e=>a1 (by rw[<-e];exact fq _ hx)) fun e=>nb (by rw[<-e];exact hx)
 .rw[gb]
  exact ha.1.congr fun x hx=>ho x (fun e=>na (by rw[<-e];exact hx)) fun e=>hd x (fq _ hx) (by rw[e];simp)
 rw[mM]
 constructor
 .intro h
  rcases eF.1 h with q|q
  .exact a1 (fq _ q)
  rcases cT.1 q with q|q
  .exact a1 (by rw[q];simp)
  exact na q
 rw[List.nodup_append]
 refine⟨(mM.1 hb.2).2,mM.2 ⟨fun q=>hd b (fq _ q) aA,(mM.1 ha.2).2⟩,fun x hx y hy e=> ?_⟩
 subst e
 rcases cT.1 hy with q|q
 .exact nb (by rw[<-q];exact hx)
 exact hd x (fq _ q) (fq _ hx)
theorem Ring.keep{f g:Nat->Nat}{i:Nat}{t:List Nat}(h:Ring f i t)(he:∀x∈i::t,g x=f x):Ring g i t:=
 ⟨by rw[he i aA];exact h.1.congr fun x hx=>he x (fq _ hx),h.2⟩
def rA(nd:List pB)(i:Nat):Nat:=(nd.getD i DY).up
def jZ(nd:List pB)(i:Nat):Nat:=(nd.getD i DY).size
def r9(nd:List pB)(i:Nat):Nat:=(nd.getD i DY).next
def pR(nd:List pB)(i:Nat):Nat:=(nd.getD i DY).least
def bV(cl:List Nat)(i:Nat):Nat:=cl.getD i 0
structure Fo(nd:List pB)(cl:List Nat):Prop where
 len:cl.length=nd.length
 up:∀i,i<nd.length->rA nd i<nd.length
 sz:∀i,i<nd.length->rA nd i≠i->jZ nd i<jZ nd (rA nd i)
 sn:∀i,i<nd.length->jZ nd i<=nd.length
 si:∀i,i<nd.length->rA nd i=i->jZ nd i=cl.count (bV cl i)
 uc:∀i,i<nd.length->bV cl (rA nd i)=bV cl i
 one:∀i j,i<nd.length->j<nd.length->rA nd i=i->rA nd j=j->bV cl i=bV cl j->i=j
 le:∀i,i<nd.length->rA nd i=i->pR nd i=bV cl i
 lc:∀i,i<nd.length->bV cl i<=i/\bV cl (bV cl i)=bV cl i
 ring:∀i,i<nd.length->∃t,Ring (r9 nd) i t/\∀k,k∈i::t↔k<nd.length/\bV cl k=bV cl i
theorem Fo.nil:Fo [] []:=⟨rfl,fun i h=>n4,fun i h=>n4,fun i h=>n4,fun i h=>n4,fun i h=>n4,fun i j h=>n4,fun i h=>n4,fun i h=>n4,fun i h=>n4⟩
def qy(n:Nat):pB:=⟨n,1,n,n⟩
section
variable{nd:List pB}{cl:List Nat}{α:Type}{d x:α}{l:List α}{i:Nat}
theorem afx(h:i<l.length):(l++[x]).getD i d=l.getD i d:=by grind
theorem afy:(l++[x]).getD l.length d=x:=aA
theorem Fo.add(h:Fo nd cl):Fo (nd++[qy nd.length]) (cl++[nd.length]):=by
 have hl:=h.len
 have gu:∀i,i<nd.length->(nd++[qy nd.length]).getD i DY=nd.getD i DY:=fun i hi=>afx hi
 have gn:(nd++[qy nd.length]).getD nd.length DY=qy nd.length:=afy
 have gc:∀i,i<nd.length->bV (cl++[nd.length]) i=bV cl i:=fun i hi=>afx J
 have gcn:bV (cl++[nd.length]) nd.length=nd.length:=by unfold bV;rw[<-hl];exact afy
 have cs:∀i,i<(nd++[qy nd.length]).length->i<nd.length\/i=nd.length:=fun i hi=>by rw[cV,gI]at hi;omega
 have ln:(nd++[qy nd.length]).length=nd.length+1:=aA
 have clt:∀i,i<nd.length->bV cl i<nd.length:=fun i hi=>by have:=(h.lc i hi).1;omega
 have aBm:cl.count nd.length=0:=by
  rw[List.count_eq_zero];intro hm
  obtain⟨k,hk,e⟩:=qR hm
  have:=clt k J
  unfold bV at this
  rw[ep,dO hk,FV,e]at this
  omega
 refine⟨by simp[hl],fun i hi=> ?_,fun i hi=> ?_,fun i hi=> ?_,fun i hi hu=> ?_,fun i hi=> ?_,fun i j hi hj hu hv hc=> ?_,fun i hi hu=> ?_,fun i hi=> ?_,fun i hi=> ?_⟩
 .rw[ln];unfold rA;rcases cs i hi with q|rfl
  .rw[gu i q];have:=h.up i q;unfold rA at this;omega
  rw[gn];show nd.length<_;omega
 .unfold rA jZ;rcases cs i hi with q|rfl
  .have hu:=h.up i q
   unfold rA at hu
   rw[gu i q,gu _ hu];exact h.sz i q
  rw[gn];intro hh;exact absurd O hh
 .rw[ln];unfold jZ;rcases cs i hi with q|rfl
  .rw[gu i q];have:=h.sn i q;unfold jZ at this;omega
  rw[gn];show 1<=_;omega
 .unfold jZ;unfold rA at hu;rcases cs i hi with q|rfl
  .rw[gu i q]at hu⊢;rw[gc i q,VD]
   have:=h.si i q hu;unfold jZ at this
   rw[this,List.count_singleton]
   have:=clt i q
   rw[aP hG];omega
  rw[gn,gcn,VD,aBm,List.count_singleton,aR aA];rfl
 .unfold rA;rcases cs i hi with q|rfl
  .have hu:=h.up i q
   have:=h.uc i q
   unfold rA at hu this
   rw[gu i q,gc i q,gc _ hu];exact this
  rw[gn];rfl
 .unfold rA at hu hv;rcases cs i hi with q|rfl<;>rcases cs j hj with r|rfl
  .rw[gu _ q]at hu;rw[gu _ r]at hv;rw[gc _ q,gc _ r]at hc;exact h.one i j q r hu hv hc
  .rw[gc _ q,gcn]at hc;have:=clt i q;omega
  .rw[gc _ r,gcn]at hc;have:=clt j r;omega
  rfl
 .unfold pR;unfold rA at hu;rcases cs i hi with q|rfl
  .rw[gu _ q]at hu⊢;rw[gc _ q];exact h.le i q hu
  rw[gn,gcn];rfl
 .rcases cs i hi with q|rfl
  .rw[gc _ q,gc _ (clt i q)];exact h.lc i q
  rw[gcn,gcn];exact⟨eI _,rfl⟩
 rcases cs i hi with q|rfl
 .obtain⟨t,ht,hm⟩:=h.ring i q
  refine⟨t,ht.keep fun x hx=> ?_,fun k=> ?_⟩
  .unfold r9;rw[gu x ((hm x).1 hx).1]
  rw[hm k,ln,gc i q]
  constructor
  .rintro⟨a,b⟩;exact⟨J,by rw[gc k a];exact b⟩
  rintro⟨a,b⟩
  rcases cs k (by rw[ln];exact a)with r|rfl
  .exact⟨r,by rw[<-gc k r];exact b⟩
  rw[gcn]at b;have:=clt i q;omega
 refine⟨[],⟨by show r9 _ _=_;unfold r9;rw[gn];rfl,aA⟩,fun k=> ?_⟩
 rw[fG,ln,gcn]
 constructor
 .rintro rfl;exact⟨J,gcn⟩
 rintro⟨a,b⟩
 rcases cs k (by rw[ln];exact a)with r|rfl
 .rw[gc k r]at b;have:=clt k r;omega
 rfl
theorem kA{j:Nat}:(l.set i x).getD j d=if j=i/\i<l.length then x else l.getD j d:=by grind
end
def oz(nd:List pB)(a b:Nat):List pB:=(nd.set b ⟨a,jZ nd b,r9 nd a,pR nd b⟩).set a ⟨rA nd a,jZ nd a+jZ nd b,r9 nd b,min (pR nd a) (pR nd b)⟩
def GU(x y c:Nat):Nat:=if c=x\/c=y then min x y else c
def gT(cl:List Nat)(x y:Nat):List Nat:=cl.map (GU x y)
theorem j4{x y c:Nat}(h:c=x\/c=y):GU x y c=min x y:=aR h
theorem kB{x y c:Nat}(h:¬(c=x\/c=y)):GU x y c=c:=aP h
theorem wz(x y:Nat):min x y=x\/min x y=y:=J
theorem abl{x y v:Nat}(h:¬(v=x\/v=y))(cl:List Nat):(gT cl x y).count v=cl.count v:=by
 induction cl with
 |nil=>rfl
 |cons c l ih=>
  show(GU x y c::gT l x y).count v=_
  rw[Dx,Dx,ih]
  by_cases hc:c=x\/c=y
  .rw[j4 hc,aP adz,aP hG]
  rw[kB hc]
theorem S3{x y:Nat}(h:x≠y)(cl:List Nat):(gT cl x y).count (min x y)=cl.count x+cl.count y:=by
 induction cl with
 |nil=>rfl
 |cons c l ih=>
  show(GU x y c::gT l x y).count _=_
  rw[Dx,Dx,Dx,ih]
  by_cases hc:c=x\/c=y
  .rw[j4 hc,aR aA]
   rcases hc with rfl|rfl
   .rw[aR aA,aP hG];omega
   rw[aP hG,aR aA];omega
  rw[kB hc,aP adz,aP hG,aP hG]
  omega
theorem abm{x y:Nat}(h:x≠y)(cl:List Nat):cl.count x+cl.count y<=cl.length:=by
 rw[<-S3 h]
 have:=List.count_le_length (a:=min x y) (l:=gT cl x y)
 rwa[show(gT cl x y).length=cl.length by simp[gT]]at this
section
variable{nd:List pB}{cl:List Nat}{a b:Nat}
theorem uA:(oz nd a b).length=nd.length:=by simp[oz]
theorem akl(hb:b<nd.length)(ha:a<nd.length)(hab:a≠b)(hu:rA nd a=a)(i:Nat):rA (oz nd a b) i=if i=b then a else rA nd i:=by grind[rA,oz,kA]
theorem akm(hb:b<nd.length)(ha:a<nd.length)(i:Nat):jZ (oz nd a b) i=if i=a then jZ nd a+jZ nd b else jZ nd i:=by grind[jZ,oz,kA]
theorem akn(hb:b<nd.length)(ha:a<nd.length)(i:Nat):pR (oz nd a b) i=if i=a then min (pR nd a) (pR nd b)else pR nd i:=by grind[pR,oz,kA]
theorem ako(hb:b<nd.length)(ha:a<nd.length)(i:Nat):r9 (oz nd a b) i=if i=a then r9 nd b else if i=b then r9 nd a else r9 nd i:=by grind[r9,oz,kA]
theorem yG{x y:Nat}{i:Nat}(hi:i<cl.length):bV (gT cl x y) i=GU x y (bV cl i):=by grind[bV,gT]
theorem Fo.join(h:Fo nd cl)(ha:a<nd.length)(hb:b<nd.length)(hab:a≠b)(ua:rA nd a=a)(ub:rA nd b=b):Fo (oz nd a b) (gT cl (bV cl a) (bV cl b)):=by
 have hl:=h.len
 have hxy:bV cl a≠bV cl b:=fun e=>hab (h.one a b ha hb ua ub e)
 generalize hx:bV cl a=x at*
 generalize hy:bV cl b=y at*
 have gc:∀i,i<nd.length->bV (gT cl x y) i=GU x y (bV cl i):=fun i hi=>yG J
 have gu:=akl hb ha hab ua
 have gs:=akm hb ha (a:=a)
 have gl:=akn hb ha (a:=a)
 have gn:=ako hb ha (a:=a)
 have sa:=h.si a ha ua;have sb:=h.si b hb ub
 rw[hx]at sa;rw[hy]at sb
 have root:∀i,i<nd.length->rA (oz nd a b) i=i->i≠b/\rA nd i=i:=fun i hi q=>by
  rw[gu]at q
  by_cases e:i=b
  .rw[aR e]at q;exact absurd (q.trans e) hab
  rw[aP e]at q;exact⟨e,q⟩
 have isx:∀i,i<nd.length->rA nd i=i->i≠b->(bV cl i=x\/bV cl i=y)->i=a:=fun i hi q e hc=>by
  rcases hc with hc|hc
  .exact h.one i a hi ha q ua (hc.trans hx.symm)
  exact absurd (h.one i b hi hb q ub (hc.trans hy.symm)) e
 have clx:=h.lc a ha;have cly:=h.lc b hb
 rw[hx]at clx;rw[hy]at cly
 have pa:1<=jZ nd a:=by
  rw[sa]
  have:x∈cl:=by
   rw[<-hx];unfold bV
   rw[ep,dO J,FV];exact pS J
  have:=List.count_pos_iff.2 this
  omega
 refine⟨by simp[gT,uA,hl],fun i hi=> ?_,fun i hi=> ?_,fun i hi=> ?_,fun i hi hu=> ?_,fun i hi=> ?_,fun i j hi hj hu hv hc=> ?_,fun i hi hu=> ?_,fun i hi=> ?_,fun i hi=> ?_⟩<;>rw[uA]at hi
 .rw[uA,gu];split
  .exact ha
  exact h.up i hi
 .rw[gu,gs i]
  by_cases e:i=b
  .rw[aR e,gs a,aR O,aP J,e];intro _;omega
  rw[aP e,gs (rA nd i)];intro q
  have e2:i≠a:=fun r=>q (by rw[r];exact ua)
  rw[aP e2]
  have:=h.sz i hi q
  split
  .rename_i r;rw[r]at this;omega
  exact this
 .rw[uA,gs i];split
  .have:=abm hxy cl;omega
  exact h.sn i hi
 .obtain⟨e,q⟩:=root i hi hu
  rw[gs i,gc i hi]
  by_cases e2:i=a
  .rw[aR e2,e2,hx,j4 (.inl O),S3 hxy,sa,sb]
  rw[aP e2]
  have hc:¬(bV cl i=x\/bV cl i=y):=fun r=>e2 (isx i hi q e r)
  rw[kB hc,abl hc];exact h.si i hi q
 .rw[gu i];split
  .rename_i e;rw[gc a ha,gc i hi,e,hx,hy,j4 (.inl O),j4 (.inr O)]
  rw[gc _ (h.up i hi),gc i hi,h.uc i hi]
 .rw[uA]at hj
  obtain⟨e1,q1⟩:=root i hi hu
  obtain⟨e2,q2⟩:=root j hj hv
  rw[gc i hi,gc j hj]at hc
  by_cases c1:bV cl i=x\/bV cl i=y
  .rw[j4 c1]at hc
   have c2:bV cl j=x\/bV cl j=y:=by
    refine Jv fun r=> ?_
    rw[kB r]at hc
    exact r (by rw[<-hc];exact wz x y)
   rw[isx i hi q1 e1 c1,isx j hj q2 e2 c2]
  rw[kB c1]at hc
  have c2:¬(bV cl j=x\/bV cl j=y):=fun r=>by
   rw[j4 r]at hc
   exact c1 (by rw[hc];exact wz x y)
  rw[kB c2]at hc
  exact h.one i j hi hj q1 q2 hc
 .obtain⟨e,q⟩:=root i hi hu
  rw[gl i,gc i hi]
  by_cases e2:i=a
  .rw[aR e2,e2,hx,j4 (.inl O),h.le a ha ua,h.le b hb ub,hx,hy]
  rw[aP e2]
  have hc:¬(bV cl i=x\/bV cl i=y):=fun r=>e2 (isx i hi q e r)
  rw[kB hc];exact h.le i hi q
 .have hi2:=h.lc i hi
  rw[gc i hi]
  by_cases c1:bV cl i=x\/bV cl i=y
  .rw[j4 c1]
   refine⟨by rcases c1 with r|r<;>omega,?_⟩
   rw[gc _ J]
   refine j4 ?_
   rcases wz x y with r|r<;>rw[r]
   .exact .inl clx.2
   exact .inr cly.2
  rw[kB c1]
  refine⟨hi2.1,?_⟩
  rw[gc _ J,hi2.2,kB c1]
 by_cases c1:bV cl i=x\/bV cl i=y
 .obtain⟨la,ra,ma⟩:=h.ring a ha
  obtain⟨lb,rb,mb⟩:=h.ring b hb
  rw[hx]at ma;rw[hy]at mb
  have hj:Ring (r9 (oz nd a b)) a (lb++b::la):=ra.join rb (fun k hk Cp=>hxy (((ma k).1 hk).2.symm.trans ((mb k).1 Cp).2)) (by rw[gn,aR O]) (by rw[gn,aP (DF hab),aR O]) fun k k1 k2=>by rw[gn,aP k1,aP k2]
  have mm:∀k,k∈a::(lb++b::la)↔k<nd.length/\(bV cl k=x\/bV cl k=y):=fun k=>by
   have m1:=ma k;have m2:=mb k
   simp only[cT,eF]at m1 m2⊢
   constructor
   .rintro(q|q|q|q)
    .have:=m1.1 (.inl q);exact⟨this.1,.inl this.2⟩
    .have:=m2.1 (.inr q);exact⟨this.1,.inr this.2⟩
    .have:=m2.1 (.inl q);exact⟨this.1,.inr this.2⟩
    have:=m1.1 (.inr q);exact⟨this.1,.inl this.2⟩
   rintro⟨q,r|r⟩
   .rcases m1.2 ⟨q,r⟩with s|s
    .exact .inl s
    exact .inr (.inr (.inr s))
   rcases m2.2 ⟨q,r⟩with s|s
   .exact .inr (.inr (.inl s))
   exact .inr (.inl s)
  obtain⟨u,hu,mu⟩:=hj.rot ((mm i).2 ⟨hi,c1⟩)
  refine⟨u,hu,fun k=> ?_⟩
  rw[mu,mm,uA,gc i hi,j4 c1]
  constructor
  .rintro⟨q,r⟩;exact⟨q,by rw[gc k q,j4 r]⟩
  rintro⟨q,r⟩
  refine⟨q,Jv fun s=> ?_⟩
  rw[gc k q,kB s]at r
  exact s (by rw[r];exact wz x y)
 obtain⟨t,ht,mt⟩:=h.ring i hi
 have out:∀k∈i::t,¬(bV cl k=x\/bV cl k=y):=fun k hk=>by rw[((mt k).1 hk).2];exact c1
 refine⟨t,ht.keep fun k hk=> ?_,fun k=> ?_⟩
 .have:=out k hk
  rw[gn,aP (fun e=>this (.inl (by rw[e];exact hx))),aP (fun e=>this (.inr (by rw[e];exact hy)))]
 rw[mt k,uA,gc i hi,kB c1]
 constructor
 .rintro⟨q,r⟩;exact⟨q,by rw[gc k q,r,kB c1]⟩
 rintro⟨q,r⟩
 refine⟨q,?_⟩
 rw[gc k q]at r
 by_cases c2:bV cl k=x\/bV cl k=y
 .rw[j4 c2]at r;exact absurd (by rw[<-r];exact wz x y) c1
 rw[kB c2]at r;exact r
end
inductive jh
 |add (n:Nat)
 |set (i:Nat) (was:BitVec 64)
def Qx(W:List (BitVec 64)):jh->List (BitVec 64)
 | .add n=>W.take n
 | .set i was=>W.set i was
def WV(W:List (BitVec 64))(us:List jh):List (BitVec 64):=us.foldr (fun u w=>Qx w u) W
def iT(W:List (BitVec 64))(us:List jh)(t:Nat):List (BitVec 64):=WV W (us.drop t)
def okR:Nat->List jh->Prop
 |_,[]=>True
 |L,.add n::r=>n<=L/\okR n r
 |L,.set i _::r=>i<L/\okR L r
def Ln(L:Nat)(us:List jh):Prop:=okR L us.reverse
section
variable{W:List (BitVec 64)}{us:List jh}{u:jh}{t k:Nat}
theorem Cq:iT W us us.length=W:=by simp[iT,WV]
theorem DZ(h:t<=us.length):iT W (us++[u]) t=iT (Qx W u) us t:=by grind[iT,WV]
theorem Lo(h:t<=us.length):(us++[u]).take t=us.take t:=by grind
theorem Lp(h:k<us.length):iT W us k=Qx (iT W us (k+1)) us[k]:=by
 rw[iT,iT,Ju h];rfl
theorem sj:Ln W.length (us++[u])↔(match u with| .add n=>n<=W.length/\Ln n us| .set i _=>i<W.length/\Ln W.length us):=by
 unfold Ln;rw[List.reverse_append];cases u<;>exact AV
theorem afz(h:Ln W.length (us++[u])):Ln (Qx W u).length us:=by grind[Ln,Qx,sj]
end
def GV(W:List (BitVec 64))(us:List jh)(i:Nat)(b:BitVec 64):List jh:=if W.getD i 0=b then us else us++[.set i (W.getD i 0)]
theorem Lq{W:List (BitVec 64)}{i:Nat}{b:BitVec 64}(h:W.getD i 0=b):W.set i b=W:=by
 apply VH aA
 intro j h1 h2
 rw[xY]
 split
 .rename_i e;subst e
  rw[<-h,ep,dO h2];rfl
 rfl
theorem afA{W:List (BitVec 64)}{us:List jh}{i t:Nat}{b:BitVec 64}(hi:i<W.length)(h:t<=us.length):iT (W.set i b) (GV W us i b) t=iT W us t/\(GV W us i b).take t=us.take t/\t<=(GV W us i b).length:=by
 unfold GV
 split
 .rename_i e;rw[Lq e];exact⟨rfl,rfl,h⟩
 refine⟨?_,Lo h,by rw[cV];omega⟩
 rw[DZ h]
 congr 1
 show(W.set i b).set i (W.getD i 0)=W
 rw[List.set_set];exact Lq O
theorem akp{W:List (BitVec 64)}{us:List jh}{i:Nat}{b:BitVec 64}(hi:i<W.length)(h:Ln W.length us):Ln (W.set i b).length (GV W us i b):=by grind[GV,sj]
def Eo(d:pB):List (BitVec 64):=[BitVec.ofNat 64 d.up,BitVec.ofNat 64 d.size,BitVec.ofNat 64 d.next,BitVec.ofNat 64 d.least]
def bx(nd:List pB):List (BitVec 64):=nd.flatMap Eo
theorem gO(nd:List pB):(bx nd).length=4*nd.length:=by
 induction nd with
 |nil=>rfl
 |cons d l ih=>show(Eo d++bx l).length=_;rw[cV,ih,eE];show 4+_=_;omega
theorem pu(nd:List pB)(d:pB):bx (nd++[d])=bx nd++Eo d:=by simp[bx]
theorem yH(nd:List pB){i k:Nat}(hi:i<nd.length)(hk:k<4):(bx nd).getD (4*i+k) 0=(Eo (nd.getD i DY)).getD k 0:=by
 induction nd generalizing i with
 |nil=>cases hi
 |cons d l ih=>
  show(Eo d++bx l).getD _ _=_
  cases i with
  |zero=>
   rw[ep,xS (by show _<4;omega),<-ep]
   simp
  |succ i=>
   rw[ep,Az (by show 4<=_;omega),show 4*(i+1)+k-(Eo d).length=4*i+k by show 4*(i+1)+k-4=_;omega,<-ep,ih yf]
   rfl
theorem yI(nd:List pB){i k:Nat}{b:BitVec 64}{d':pB}(hi:i<nd.length)(hk:k<4)(h:(Eo (nd.getD i DY)).set k b=Eo d'):(bx nd).set (4*i+k) b=bx (nd.set i d'):=by
 induction nd generalizing i with
 |nil=>cases hi
 |cons d l ih=>
  cases i with
  |zero=>
   show(Eo d++bx l).set _ _=Eo d'++bx l
   rw[List.set_append_left _ _ (by show _<4;omega),<-h]
   simp
  |succ i=>
   show(Eo d++bx l).set _ _=Eo d++bx (l.set i d')
   rw[Vl _ _ (by show 4<=_;omega),show 4*(i+1)+k-(Eo d).length=4*i+k by show 4*(i+1)+k-4=_;omega,ih yf wx]
def leads(cl:List Nat):Nat:=((List.range cl.length).filter fun i=>bV cl i==i).length
def Cz(cl:List Nat):List Nat:=cl.foldl (fun m c=>if c∈m then m else m++[c]) []
theorem Jf{l m:List Nat}(hn:l.Nodup)(h:∀x∈l,x∈m):l.length<=m.length:=by
 induction l generalizing m with
 |nil=>simp
 |cons a l ih=>
  have ha:=h a aA
  have Oq:=mM.1 hn
  have:=ih (m:=m.erase a) Oq.2 fun x hx=>by
   refine(List.mem_erase_of_ne (fun e=>Oq.1 (by rw[<-e];exact hx))).2 (h x (fq _ hx))
  rw[Ve ha]at this
  have:=Pq ha
  rw[eE];omega
theorem S4{l m:List Nat}(hn:l.Nodup)(hm:m.Nodup)(h:∀x,x∈l↔x∈m):l.length=m.length:=
 Nat.le_antisymm (Jf hn fun x=>(h x).1) (Jf hm fun x=>(h x).2)
theorem afB(cl:List Nat):(Cz cl).Nodup/\∀x,x∈Cz cl↔x∈cl:=by
 have key:∀r:List Nat,(Cz r.reverse).Nodup/\∀x,x∈Cz r.reverse↔x∈r.reverse:=by
  intro r
  induction r with
  |nil=>exact⟨List.nodup_nil,fun x=>AV⟩
  |cons c r ih=>
   rw[List.reverse_cons]
   have e:Cz (r.reverse++[c])=if c∈Cz r.reverse then Cz r.reverse else Cz r.reverse++[c]:=by unfold Cz;rw[wh];rfl
   rw[e]
   split
   .rename_i h
    refine⟨ih.1,fun x=> ?_⟩
    rw[ih.2,eF,fG]
    constructor
    .exact fun q=> .inl q
    rintro(q|rfl)
    .exact q
    exact(ih.2 _).1 h
   rename_i h
   refine⟨?_,fun x=>by rw[eF,eF,ih.2]⟩
   rw[List.nodup_append]
   exact⟨ih.1,aA,fun a ha b hb e=>h (by rw[<-fG.1 hb,<-e];exact ha)⟩
 have:=key cl.reverse
 rwa[List.reverse_reverse]at this
section
variable{nd:List pB}{cl:List Nat}{a b:Nat}
theorem afC(h:Fo nd cl)(x:Nat):x∈cl↔x<cl.length/\bV cl x=x:=by
 constructor
 .intro hx
  obtain⟨k,hk,e⟩:=qR hx
  have e2:bV cl k=x:=by unfold bV;rw[ep,dO hk];exact e
  have:=h.lc k (by rw[<-h.len];exact hk)
  rw[e2]at this
  exact⟨J,this.2⟩
 rintro⟨h1,h2⟩
 rw[<-h2];unfold bV
 rw[ep,dO h1];exact pS h1
theorem EV(cl:List Nat)(x:Nat):x∈((List.range cl.length).filter fun i=>bV cl i==i)↔x<cl.length/\bV cl x=x:=aA
theorem D0(cl:List Nat):((List.range cl.length).filter fun i=>bV cl i==i).Nodup:=List.nodup_range.filter _
theorem S5(h:Fo nd cl):(Cz cl).length=leads cl:=by grind[Fo,Cz,leads,S4,afB,D0,EV,afC]
theorem Ot(h:Fo nd cl):leads (cl++[nd.length])=leads cl+1:=by
 rw[<-S5 h.add,<-S5 h]
 have e:Cz (cl++[nd.length])=if nd.length∈Cz cl then Cz cl else Cz cl++[nd.length]:=by unfold Cz;rw[wh];rfl
 rw[e,aP]
 .simp
 intro q
 have:=((afC h _).1 (((afB cl).2 _).1 q)).1
 have:=h.len;omega
theorem WW(h:Fo nd cl)(ha:a<nd.length)(hb:b<nd.length)(hab:a≠b)(ua:rA nd a=a)(ub:rA nd b=b):leads (gT cl (bV cl a) (bV cl b))+1=leads cl:=by
 have hj:=h.join ha hb hab ua ub
 have hl:=h.len
 have hxy:bV cl a≠bV cl b:=fun e=>hab (h.one a b ha hb ua ub e)
 have clx:=h.lc a ha;have cly:=h.lc b hb
 generalize hx:bV cl a=x at*
 generalize hy:bV cl b=y at*
 have jl:(gT cl x y).length=cl.length:=by simp[gT]
 have e:((List.range cl.length).filter fun i=>bV cl i==i).length=(max x y::((List.range (gT cl x y).length).filter fun i=>bV (gT cl x y) i==i)).length:=by
  refine S4 (D0 cl) (mM.2 ⟨fun q=> ?_,D0 _⟩) fun k=> ?_
  .have q2:=(EV _ _).1 q
   rw[yG J]at q2
   have e:bV cl (max x y)=max x y:=by rcases(by omega:max x y=x\/max x y=y)with r|r<;>rw[r];exact clx.2;exact cly.2
   rw[e,j4 J]at q2
   omega
  rw[EV,cT,EV,jl]
  constructor
  .rintro⟨k1,k2⟩
   by_cases c:k=max x y
   .exact .inl c
   refine .inr ⟨k1,?_⟩
   rw[yG k1,k2]
   by_cases c1:k=x\/k=y
   .rw[j4 c1];omega
   exact kB c1
  rintro(rfl|⟨k1,k2⟩)
  .rcases(by omega:max x y=x\/max x y=y)with r|r<;>rw[r]
   .exact⟨J,clx.2⟩
   exact⟨J,cly.2⟩
  refine⟨k1,?_⟩
  rw[yG k1]at k2
  by_cases c1:bV cl k=x\/bV cl k=y
  .rw[j4 c1]at k2
   rcases wz x y with r|r<;>rw[r]at k2<;>rw[<-k2]
   .exact clx.2
   exact cly.2
  rwa[kB c1]at k2
 unfold leads
 rw[e,eE]
theorem GX{f:Nat->Nat}{i at_:Nat}{t out m:List Nat}(h:Ring f i t)(e:i::t=out++at_::m):(m=[]/\f at_=i)\/∃z m',m=z::m'/\f at_=z/\z≠i:=by
 have key:Wk f (f at_) m i:=by
  cases out with
  |nil=>simp only[dZ,JI]at e;rw[<-e.1,<-e.2];exact h.1
  |cons o out=>
   simp only[fH,JI]at e
   have:=h.1;rw[e.2]at this
   exact(Wk.app.1 this).2
 cases m with
 |nil=>exact .inl ⟨rfl,key⟩
 |cons z m'=>
  refine .inr ⟨z,m',rfl,key.1,fun q=> ?_⟩
  have hn:=h.2
  cases out with
  |nil=>
   simp only[dZ,JI]at e
   rw[e.2,q]at hn;exact(mM.1 hn).1 aA
  |cons o out=>
   simp only[fH,JI]at e
   rw[e.2,q]at hn;exact(mM.1 hn).1 aA
end
def EW(cl c2:List Nat):Prop:=(cl.length=c2.length+1/\leads cl=leads c2+1)\/(cl.length=c2.length/\leads cl+1=leads c2)
def Hs:List (BitVec 64)->List jh->List Nat->List (List Nat)->Prop
 |W,us,[],[cl]=>us=[]/\cl=[]/\W=[]
 |W,us,t::ts,cl::c2::cs=>(∃nd,W=bx nd/\Fo nd cl)/\t<=us.length/\EW cl c2/\Hs (iT W us t) (us.take t) ts (c2::cs)
 |_,_,_,_=>False
section
variable{W:List (BitVec 64)}{us:List jh}{t:Nat}{ts:List Nat}{cl c2:List Nat}{cs:List (List Nat)}{nd:List pB}
theorem Hs.ne(h:Hs W us ts []):False:=by cases ts<;>exact h
theorem Hs.now(h:Hs W us ts (cl::cs)):∃nd,W=bx nd/\Fo nd cl:=by
 cases ts with
 |nil=>
  cases cs with
  |nil=>obtain⟨_,rfl,rfl⟩:=h;exact⟨[],rfl,Fo.nil⟩
  |cons c cs=>exact h.elim
 |cons t ts=>
  cases cs with
  |nil=>exact h.elim
  |cons c cs=>exact h.1
theorem Hs.len(h:Hs W us ts cs):cs.length=ts.length+1:=by
 induction ts generalizing W us cs with
 |nil=>
  cases cs with
  |nil=>exact h.elim
  |cons c cs=>cases cs with
   |nil=>rfl
   |cons c2 cs=>exact h.elim
 |cons t ts ih=>
  cases cs with
  |nil=>exact h.elim
  |cons c cs=>cases cs with
   |nil=>exact h.elim
   |cons c2 cs=>have:=ih h.2.2.2;simp only[eE]at this⊢;omega
theorem Hs.start:Hs [] [] [] [[]]:=⟨rfl,rfl,rfl⟩
theorem Hs.more{W':List (BitVec 64)}{S6:List jh}{nd':List pB}{ji:List Nat}(h:Hs W us ts (cl::cs))(hw:W'=bx nd')(hf:Fo nd' ji)(hs:EW ji cl)(h1:iT W' S6 us.length=W)(h2:S6.take us.length=us)(h3:us.length<=S6.length):Hs W' S6 (us.length::ts) (ji::cl::cs):=
 ⟨⟨nd',hw,hf⟩,h3,hs,by rw[h1,h2];exact h⟩
theorem Hs.back(h:Hs W us (t::ts) (cl::c2::cs)):Hs (iT W us t) (us.take t) ts (c2::cs):=h.2.2.2
theorem Hs.le(h:Hs W us (t::ts) (cl::c2::cs)):t<=us.length:=h.2.1
theorem Hs.cnt(h:Hs W us (t::ts) (cl::c2::cs)):EW cl c2:=h.2.2.1
end
theorem S7{W:List (BitVec 64)}{us:List jh}(h:Ln W.length us){t:Nat}(ht:t<=us.length):Ln (iT W us t).length (us.take t):=by
 have key:∀d,∀t,t+d=us.length->Ln (iT W us t).length (us.take t):=by
  intro d
  induction d with
  |zero=>intro t e;rw[show t=us.length by omega,Cq,JH];exact h
  |succ d ih=>
   intro t e
   have h2:=ih (t+1) J
   have ht:t<us.length:=J
   rw[xX,dO ht]at h2
   rw[Lp ht]
   exact afz h2
 exact key (us.length-t) t J
def Nh(us:List jh)(n:Nat):List jh:=us++[.add n]++[.add (n+1)]++[.add (n+2)]++[.add (n+3)]
theorem akq{W:List (BitVec 64)}{us:List jh}{a b c d:BitVec 64}:iT (W++[a]++[b]++[c]++[d]) (Nh us W.length) us.length=W/\(Nh us W.length).take us.length=us/\us.length<=(Nh us W.length).length:=by grind[Nh,DZ,Cq,Qx]
theorem akr{W:List (BitVec 64)}{us:List jh}{a b c d:BitVec 64}(h:Ln W.length us):Ln (W++[a]++[b]++[c]++[d]).length (Nh us W.length):=by
 unfold Nh
 rw[sj];refine⟨aA,?_⟩
 have e1:(W++[a]++[b]++[c]).length=W.length+3:=aA
 have e2:(W++[a]++[b]).length=W.length+2:=aA
 have e3:(W++[a]).length=W.length+1:=aA
 rw[<-e1,sj];refine⟨aA,?_⟩
 rw[<-e2,sj];refine⟨aA,?_⟩
 rw[<-e3,sj];exact⟨aA,h⟩
def eW(cl:List Nat)(i:Int):Int:=if 0<=i/\i<cl.length then(bV cl i.toNat:Int)else-1
def aBo(cs:List (List Nat))(cl:List Nat)(i j:Int):List (List Nat)×Bool:=
 if eW cl i<0\/eW cl j<0\/eW cl i=eW cl j then(cl::cs,false)else(gT cl (eW cl i).toNat (eW cl j).toNat::cl::cs,true)
theorem l7{cl:List Nat}{i:Int}(h:0<=i/\i<cl.length):eW cl i=(bV cl i.toNat:Int):=aR h
theorem GY{cl:List Nat}{i:Int}(h:¬(0<=i/\i<cl.length)):eW cl i= -1:=aP h
theorem Qy{nd:List pB}{cl:List Nat}(h:Fo nd cl){i k:Nat}(hi:i<nd.length)(hc:bV cl i=bV cl k):rA nd i<nd.length/\bV cl (rA nd i)=bV cl k/\(rA nd i≠i->nd.length-jZ nd (rA nd i)<nd.length-jZ nd i):=by grind[pB,Fo,bV,rA,jZ]
theorem Ou{nd:List pB}{cl:List Nat}(h:Fo nd cl){i j a b:Nat}(ha:a<nd.length)(hb:b<nd.length)(ua:rA nd a=a)(ub:rA nd b=b)(ca:bV cl a=bV cl i)(cb:bV cl b=bV cl j):a=b↔bV cl i=bV cl j:=by grind[pB,Fo,rA,bV]
def yJ(cl:List Nat)(i:Nat):List Nat:=(List.range cl.length).filter fun k=>bV cl i==bV cl k
theorem Ov{cl:List Nat}{i k:Nat}:k∈yJ cl i↔k<cl.length/\bV cl k=bV cl i:=by grind[yJ]
theorem abn{l m:List Int}(hl:l.Pairwise (· <·))(hm:m.Pairwise (· <·))(h:∀x,x∈l↔x∈m):l=m:=by
 induction l generalizing m with
 |nil=>cases m with
  |nil=>rfl
  |cons b m=>have:=(h b).2 aA;cases this
 |cons a l ih=>
  cases m with
  |nil=>have:=(h a).1 aA;cases this
  |cons b m=>
   have pa:=lE.1 hl;have pb:=lE.1 hm
   have hab:a=b:=by
    rcases cT.1 ((h a).1 aA)with q|q
    .exact q
    rcases cT.1 ((h b).2 aA)with r|r
    .exact r.symm
    have:=pb.1 a q;have:=pa.1 b r;omega
   subst hab
   congr 1
   refine ih pa.2 pb.2 fun x=> ?_
   have:=h x
   simp only[cT]at this
   constructor
   .intro q
    rcases this.1 (.inr q)with r|r
    .have:=pa.1 x q;omega
    exact r
   intro q
   rcases this.2 (.inr q)with r|r
   .have:=pb.1 x q;omega
   exact r
theorem Qz{nd:List pB}{cl:List Nat}(h:Fo nd cl){i:Nat}(hi:i<nd.length){t:List Nat}(ht:Ring (r9 nd) i t)(hm:∀k,k∈i::t↔k<nd.length/\bV cl k=bV cl i){zs:List Int}(hp:zs.Perm ((i::t).map Int.ofNat))(hs:zs.Pairwise (· <=·)):zs=(yJ cl i).map Int.ofNat:=by
 have hn:((i::t).map Int.ofNat).Nodup:=by
  unfold List.Nodup
  rw[FU]
  exact ht.2.imp fun q e=>q (by exact Int.ofNat.inj e)
 refine abn ?_ ?_ fun x=> ?_
 .have hz:zs.Nodup:=hp.nodup_iff.2 hn
  have:=List.Pairwise.and hs hz
  exact this.imp fun q=>by omega
 .unfold yJ
  rw[FU]
  exact(Vi.filter _).imp fun q=>by simpa using q
 rw[hp.mem_iff,fI,fI]
 constructor
 .rintro⟨k,hk,rfl⟩;exact⟨k,Ov.2 (by rw[h.len];exact(hm k).1 hk),rfl⟩
 rintro⟨k,hk,rfl⟩;exact⟨k,(hm k).2 (by rw[<-h.len];exact Ov.1 hk),rfl⟩
structure lG(W:List (BitVec 64))(us:List jh)(W':List (BitVec 64))(S6:List jh):Prop where
 le:us.length<=S6.length
 und:∀t,t<=us.length->iT W' S6 t=iT W us t/\S6.take t=us.take t
 ok:Ln W.length us->Ln W'.length S6
section
variable{W W' W2:List (BitVec 64)}{us S6 us2:List jh}{i:Nat}{b:BitVec 64}
theorem lG.refl:lG W us W us:=by grind[lG]
theorem lG.trans(h:lG W us W' S6)(h2:lG W' S6 W2 us2):lG W us W2 us2:=
 ⟨kg h.le h2.le,fun t ht=>by
  have a:=h.und t ht;have c:=h2.und t (kg ht h.le)
  exact⟨c.1.trans a.1,c.2.trans a.2⟩,fun q=>h2.ok (h.ok q)⟩
theorem lG.set(hi:i<W.length):lG W us (W.set i b) (GV W us i b):=by grind[lG,GV,afA,akp]
theorem lG.add:lG W us (W++[b]) (us++[.add W.length]):=
 ⟨aA,fun t ht=>⟨by rw[DZ ht];show iT ((W++[b]).take W.length) us t=_;rw[tR],Lo ht⟩,fun h=>by rw[sj];exact⟨aA,h⟩⟩
theorem lG.back(h:lG W us W' S6):iT W' S6 us.length=W/\S6.take us.length=us:=by grind[lG,iT,Cq]
end
def jX(nd:List pB)(i x:Nat):List pB:=nd.set i {nd.getD i DY with up:=x}
def my(nd:List pB)(i x:Nat):List pB:=nd.set i {nd.getD i DY with size:=x}
def uB(nd:List pB)(i x:Nat):List pB:=nd.set i {nd.getD i DY with next:=x}
def qz(nd:List pB)(i x:Nat):List pB:=nd.set i {nd.getD i DY with least:=x}
section
variable{nd:List pB}{cl:List Nat}{i x a b:Nat}
theorem aup(h:i<nd.length):(bx nd).set (4*i+0) (BitVec.ofNat 64 x)=bx (jX nd i x):=yI nd h J O
theorem auq(h:i<nd.length):(bx nd).set (4*i+1) (BitVec.ofNat 64 x)=bx (my nd i x):=yI nd h J O
theorem aur(h:i<nd.length):(bx nd).set (4*i+2) (BitVec.ofNat 64 x)=bx (uB nd i x):=yI nd h J O
theorem aus(h:i<nd.length):(bx nd).set (4*i+3) (BitVec.ofNat 64 x)=bx (qz nd i x):=yI nd h J O
theorem aut(h:i<nd.length):(bx nd).getD (4*i+0) 0=BitVec.ofNat 64 (rA nd i):=yH nd h J
theorem auu(h:i<nd.length):(bx nd).getD (4*i+1) 0=BitVec.ofNat 64 (jZ nd i):=yH nd h J
theorem amX(h:i<nd.length):(bx nd).getD (4*i+2) 0=BitVec.ofNat 64 (r9 nd i):=yH nd h J
theorem amY(h:i<nd.length):(bx nd).getD (4*i+3) 0=BitVec.ofNat 64 (pR nd i):=yH nd h J
theorem Ow{n:Nat}(h:n<9223372036854775808):(BitVec.ofNat 64 n).toInt=(n:Int):=by grind[BitVec.toInt_eq_toNat_cond,BitVec.toNat_ofNat,Nat.mod_eq_of_lt]
theorem Cr(n:Nat):BitVec.ofInt 64 (n:Int)=BitVec.ofNat 64 n:=aA
theorem apG{l m:List pB}(hl:l.length=m.length)(h:∀i,i<l.length->l.getD i DY=m.getD i DY):l=m:=by grind[List.ext_getElem,List.getElem?_eq_getElem]
theorem afD(ha:a<nd.length)(hb:b<nd.length)(hab:a≠b):uB (uB (qz (my (jX nd b a) a (jZ nd a+jZ nd b)) a (min (pR nd a) (pR nd b))) a (r9 nd b)) b (r9 nd a)=oz nd a b:=by
 have hba:¬b=a:=fun e=>hab e.symm
 refine apG (by simp[uB,qz,my,jX,oz]) fun i hi=> ?_
 have hi':i<nd.length:=by simpa[uB,qz,my,jX]using hi
 unfold uB qz my jX oz
 simp only[kA,mD,ha,hb,and_true]
 by_cases h1:i=a
 .subst h1;simp[hab,rA]
 by_cases h2:i=b
 .subst h2;simp[h1,hba,jZ,pR]
 simp[h1,h2]
theorem WX(cl:List Nat)(x y:Nat):gT cl x y=gT cl y x:=by grind[gT,List.map_congr_left,GU]
theorem Fo.szb(h:Fo nd cl)(hi:i<nd.length):rA nd i<nd.length/\jZ nd i<=nd.length/\∃t,Ring (r9 nd) i t/\r9 nd i<nd.length:=by
 refine⟨h.up i hi,h.sn i hi,?_⟩
 obtain⟨t,ht,hm⟩:=h.ring i hi
 refine⟨t,ht,?_⟩
 have h1:=ht.1
 cases t with
 |nil=>have:r9 nd i=i:=h1;omega
 |cons z t=>have:r9 nd i=z:=h1.1;rw[this];exact((hm z).1 aA).1
theorem Fo.aks(h:Fo nd cl):∀d i,i<nd.length->nd.length-jZ nd i<=d->∃r,r<nd.length/\rA nd r=r/\bV cl r=bV cl i:=by
 intro d
 induction d with
 |zero=>
  intro i hi hd
  refine⟨i,hi,Jv fun q=> ?_,rfl⟩
  have:=h.sz i hi q;have:=h.sn _ (h.up i hi);omega
 |succ d ih=>
  intro i hi hd
  by_cases q:rA nd i=i
  .exact⟨i,hi,q,rfl⟩
  have h1:=h.sz i hi q;have h2:=h.sn _ (h.up i hi)
  obtain⟨r,r1,r2,r3⟩:=ih (rA nd i) (h.up i hi) J
  exact⟨r,r1,r2,r3.trans (h.uc i hi)⟩
open Classical in
noncomputable def nT(nd:List pB)(cl:List Nat)(i:Nat):Nat:=if h:∃r,r<nd.length/\rA nd r=r/\bV cl r=bV cl i then h.choose else 0
theorem ow(h:Fo nd cl)(hi:i<nd.length):nT nd cl i<nd.length/\rA nd (nT nd cl i)=nT nd cl i/\bV cl (nT nd cl i)=bV cl i:=by
 have he:=h.aks _ i hi (eI _)
 rw[nT,dif_pos he];exact he.choose_spec
theorem afE(h:Fo nd cl)(hi:i<nd.length){r:Nat}(h1:r<nd.length)(h2:rA nd r=r)(h3:bV cl r=bV cl i):r=nT nd cl i:=by
 obtain⟨a,b,c⟩:=ow h hi
 exact h.one _ _ h1 a h2 b (h3.trans c.symm)
theorem akt(h:Fo nd cl){j:Int}(h0:0<=j)(h1:j<nd.length):(pR nd (nT nd cl j.toNat):Int)=eW cl j:=by grind[Fo,pR,nT,eW,ow,l7]
theorem abo(h:Fo nd cl){j:Int}(h0:¬(0<=j/\j<nd.length)):(-1:Int)=eW cl j:=by grind[Fo,eW,GY]
theorem QA(h:Fo nd cl)(hn:nd.length<=1000000){j:Nat}(hj:j<nd.length)(k:Int)(v:Nat)(hk:0<=k/\k<4)(hv:(bx nd).getD (4*j+k.toNat) 0=BitVec.ofNat 64 v)(hs:v<=nd.length):((bx nd).getD (4*(j:Int)+k).toNat 0).toInt=(v:Int):=by grind[Ow]
theorem aku(h:Fo nd cl)(hn:nd.length<=1000000){j:Nat}(hj:j<nd.length):((bx nd).getD (4*(j:Int)+0).toNat 0).toInt=(rA nd j:Int):=
 QA h hn hj 0 _ ⟨J,J⟩ (aut hj) (by have:=h.up j hj;omega)
theorem Y6(h:Fo nd cl)(hn:nd.length<=1000000){j:Nat}(hj:j<nd.length):((bx nd).getD (4*(j:Int)+2).toNat 0).toInt=(r9 nd j:Int):=
 QA h hn hj 2 _ ⟨J,J⟩ (amX hj) (by obtain⟨_,_,t,_,q⟩:=h.szb hj;omega)
theorem akv(h:Fo nd cl)(hn:nd.length<=1000000){j:Nat}(hj:j<nd.length)(hu:rA nd j=j):((bx nd).getD (4*(j:Int)+3).toNat 0).toInt=(pR nd j:Int):=
 QA h hn hj 3 _ ⟨J,J⟩ (amY hj) (by rw[h.le j hj hu];have:=(h.lc j hj).1;omega)
theorem abp(h:Fo nd cl)(hn:nd.length<=1000000){j:Int}(h0:0<=j/\j<nd.length):((bx nd).getD (4*((nT nd cl j.toNat:Nat):Int)+3).toNat 0).toInt=eW cl j:=by grind[ow,akv,akt]
theorem S8{n:Nat}{l:List Nat}(hd:l.Nodup)(h:∀k∈l,k<n):l.length<=n:=by
 have:=Jf hd (m:=List.range n) fun x hx=>pn.2 (h x hx)
 rwa[Py]at this
theorem yK{t o m:List Nat}{i:Int}{a:Nat}(ht:Ring (r9 nd) i.toNat t)(hmt:∀k,k∈i.toNat::t↔k<nd.length/\bV cl k=bV cl i.toNat)(he:i.toNat::t=o++a::m)(hne:r9 nd a≠i.toNat):
 i.toNat::t=(o++[a])++r9 nd a::m.tail/\r9 nd a<nd.length/\(o++[a]).length+1<=(i.toNat::t).length/\m.tail.length<m.length:=by grind[GX,r9]
def bG(cl:List Nat)(i:Int):List Int:=if 0<=i/\i<cl.length then(yJ cl i.toNat).map Int.ofNat else[]
theorem Ox(h:Fo nd cl){i:Int}(hi:¬(0<=i/\i<nd.length)):bG cl i=[]:=by grind[Fo,bG]
theorem Lr(h:Fo nd cl){i:Int}(hi:0<=i/\i<nd.length){t o m:List Nat}{a:Nat}(ht:Ring (r9 nd) i.toNat t)(hmt:∀k,k∈i.toNat::t↔k<nd.length/\bV cl k=bV cl i.toNat)(he:i.toNat::t=o++a::m)(hx:r9 nd a=i.toNat):
  (((o++[a]).map Int.ofNat).mergeSort fun x y=>decide (x<=y))=bG cl i:=by
 have hm:m=[]:=by
  rcases GX ht he with⟨q,_⟩|⟨z,m',_,q,q2⟩
  .exact q
  exact absurd (q.symm.trans hx) q2
 subst hm
 rw[bG,aR (by have:=h.len;omega)]
 refine Qz h J ht hmt ?_ ?_
 .rw[he];exact List.mergeSort_perm _ _
 have:=List.pairwise_mergeSort (le:=fun x y:Int=>decide (x<=y)) (fun a b c h1 h2=>by simp at*;omega) (fun a b=>by simp;omega) ((o++[a]).map Int.ofNat)
 exact this.imp fun q=>by simpa using q
end
theorem S9{nd:List pB}{i x j:Nat}:jZ (jX nd i x) j=jZ nd j:=by grind[jZ,jX,kA]
theorem Ta{nd:List pB}{i x j:Nat}:r9 (jX nd i x) j=r9 nd j:=by grind[r9,jX,kA]
theorem Tb{nd:List pB}{i x j:Nat}:pR (jX nd i x) j=pR nd j:=by grind[pR,jX,kA]
theorem Tc{nd:List pB}{i x j:Nat}:r9 (my nd i x) j=r9 nd j:=by grind[r9,my,kA]
theorem Td{nd:List pB}{i x j:Nat}:pR (my nd i x) j=pR nd j:=by grind[pR,my,kA]
theorem Te{nd:List pB}{i x j:Nat}:r9 (qz nd i x) j=r9 nd j:=by grind[r9,qz,kA]
theorem QB{nd:List pB}{j:Nat}{k:Int}{v:Nat}(hk:0<=k/\k<4)(hv:(bx nd).getD (4*j+k.toNat) 0=BitVec.ofNat 64 v)(hs:v<=1000000):((bx nd).getD (4*(j:Int)+k).toNat 0).toInt=(v:Int):=by grind[Ow]
theorem afG{nd:List pB}{i x:Nat}(h:i<nd.length):(bx nd).set (4*(i:Int)+0).toNat (BitVec.ofInt 64 (x:Int))=bx (jX nd i x):=by
 rw[show(4*(i:Int)+0).toNat=4*i+0 by omega,Cr];exact aup h
theorem afH{nd:List pB}{i x:Nat}(h:i<nd.length):(bx nd).set (4*(i:Int)+1).toNat (BitVec.ofInt 64 (x:Int))=bx (my nd i x):=by
 rw[show(4*(i:Int)+1).toNat=4*i+1 by omega,Cr];exact auq h
theorem QC{nd:List pB}{i x:Nat}(h:i<nd.length):(bx nd).set (4*(i:Int)+2).toNat (BitVec.ofInt 64 (x:Int))=bx (uB nd i x):=by
 rw[show(4*(i:Int)+2).toNat=4*i+2 by omega,Cr];exact aur h
theorem afI{nd:List pB}{i x:Nat}(h:i<nd.length):(bx nd).set (4*(i:Int)+3).toNat (BitVec.ofInt 64 (x:Int))=bx (qz nd i x):=by
 rw[show(4*(i:Int)+3).toNat=4*i+3 by omega,Cr];exact aus h
end
end Go.Proofs.YtlhjdflgjbkpmaaGreatDoor.M
namespace Go.Proofs.YtlhjdflgjbkpmaaGreatDoor.E
section
open Go Go.RowKit Go.Proofs.YtlhjdflgjbkpmaaGreatDoor.M
def Tf(c:Option (Nat×Array Value))(v:Value)(e:TypeId)(sz n:Nat)(xs:List Value):a8:=
 match c with
 |none=> .row v e sz n xs
 |some (b,cur)=> .blk b (.cells cur e (0,0))
def cOk(c:Option (Nat×Array Value))(v:Value)(sz n:Nat)(xs:List Value):Prop:=
 match c with
 |none=>True
 |some (b,cur)=>v= .slice (some ⟨b,0,none⟩) n n/\xs.length=n*sz/\cur.toList.take (n*sz)=xs/\n<=maxLen
section
variable{w0 w:World}{L:List a8}{c:Option (Nat×Array Value)}{v:Value}{e:TypeId}{sz n m i:Nat}{xs:List Value}
theorem Hp.vI{x x':a8}(h:Hp w0 w L)(hi:L[i]?=some x)(hf:x'.qZ=x.qZ)(hok:x'.ok w0.heap.size w):Hp w0 w (L.set i x'):=
 ⟨h.below,fun y hy=>(List.mem_or_eq_of_mem_set hy).elim (h.ok y) fun q=>q▸hok,A2 hi hf h.Kc⟩
theorem Hp.slC(h:Hp w0 w L)(hi:L[i]?=some (Tf c v e sz n xs))(hk:cOk c v sz n xs):Sl w v sz n xs:=by
 cases c with
 |none=>exact h.sl hi
 |some bc=>
  obtain⟨b,cur⟩:=bc
  obtain⟨rfl,h2,h3,h4⟩:=hk
  refine⟨⟨_,n,rfl,eI _,fun _=>rfl⟩,h2,fun j u hu=> ?_,h4⟩
  simp only[sb,so,gA]
  rw[wu w _ _ cur e (0,0) (h.blk hi)]
  rw[<-h3,tM]at hu
  split at hu
  .simpa using hu
  .cases hu
theorem Hp.aBq(h:Hp w0 w L)(hi:L[i]?=some (Tf c v e sz n xs))(hk:cOk c v sz n xs)(hm:m<=n):∃c',cOk c' (r8 v m) sz m (xs.take (m*sz))/\Hp w0 w (L.set i (Tf c' (r8 v m) e sz m (xs.take (m*sz)))):=by
 have hle:m*sz<=n*sz:=qH _ hm
 cases c with
 |none=>
  have hr:w.ownsRow w0.heap.size e sz v n xs:=h.get hi
  obtain⟨h1,h2⟩:=hr
  rcases h2 with⟨rfl,rfl⟩|⟨gb,cap,cur,rfl,hb,hg,hn,hc,hs,ht⟩
  .have:m=0:=J
   subst this
   refine⟨none,trivial,h.vI hi O ?_⟩
   exact⟨aA,.inl ⟨rfl,rfl⟩⟩
  refine⟨some (gb,cur),⟨rfl,?_,?_,J⟩,h.vI hi O ⟨hb,hg⟩⟩
  .rw[eD,h1];omega
  rw[<-ht,AF];congr 1;omega
 |some bc=>
  obtain⟨b,cur⟩:=bc
  obtain⟨rfl,h2,h3,h4⟩:=hk
  refine⟨some (b,cur),⟨rfl,?_,?_,J⟩,h.vI hi O (h.get hi)⟩
  .rw[eD,h2];omega
  rw[<-h3,AF];congr 1;omega
variable{P:Program}{σ:Env}{ty t:TypeId}{pos:String}{bH:Array Edge}{dst:Option Tmp}{g:Option (Nat×Bool)}{x y:Operand}{u:Value}{o:Nat}
theorem akw(h:Hp w0 w L)(hi:L[i]?=some (Tf c v e sz n xs))(hk:cOk c v sz n xs)(hn:0<n)(hx:ev σ x= .pointer (some ⟨sb v,so v+o,none⟩))(hy:ev σ y=u)(hv:u.cells=#[u])(h1:u.oneCell'=true)(hs:(P.info? t).map (·.size)=some 1)(ho:o+1<=n*sz):
  ∃c' w',(execOp (ev σ) ⟨dst,.store t x y,ty,pos,bH,g⟩).run P w= .ok .skip w'/\cOk c' v sz n (rq xs o [u])/\Hp w0 w' (L.set i (Tf c' v e sz n (rq xs o [u]))):=by
 cases c with
 |none=>
  obtain⟨w',hr,h2⟩:=EU (dst:=dst) (ty:=ty) (pos:=pos) (bH:=bH) (g:=g) h hi hn hx hy hv h1 hs ho
  exact⟨none,w',hr,trivial,h2⟩
 |some bc=>
  obtain⟨b,cur⟩:=bc
  obtain⟨rfl,h2,h3,h4⟩:=hk
  have hl:n*sz<=cur.size:=by
   have:=aJ List.length h3
   rw[eD,h2,Dr]at this;omega
  have hx':ev σ x= .pointer (some ⟨b,o,none⟩):=by rw[hx];simp only[sb,so,gA]
  have hr:=bM (P:=P) (dst:=dst) (ty:=ty) (pos:=pos) (bH:=bH) (g:=g) hs hx' hy hv h1 (h.blk hi) J
  have e1:(cur.setIfInBounds o u).toList=cur.toList.take o++[u]++cur.toList.drop (o+1):=by
   simp[U9,show o<cur.size by omega]
  refine⟨some (b,cur.setIfInBounds o u),_,hr,⟨rfl,?_,?_,h4⟩,h.set hi⟩
  .rw[rq];simp only[cV,eD,vk,gI,h2];omega
  rw[e1,show cur.toList.take o++[u]++cur.toList.drop (o+1)=cur.toList.take o++[u]++cur.toList.drop (o+[u].length)from O,ER (by simpa using ho) P4,h3]
theorem Tg{ie:TypeInfo}{z:Value}{size bytes:Nat}{m':Nat}{news:List Value}{ats:TypeId}(h:Hp w0 w L)(hi:L[i]?=some (Tf c v e size n xs))(hk:cOk c v size n xs)(hS:Sl w u size m' news)
  (hx:ev σ x=v) (hy:ev σ y=u) (ht:P.underlying t=some (.slice e)) (hie:P.info? e=some ie) (hz:ie.zero=some z)
  (hsize:ie.size=size) (hby:ie.bytes=bytes) (hzs:z.cells.size=size) (hsz:0<size) (h1:∀u∈news,u.oneCell'=true) (hm:0<m')
  (hbytes:(n+m')*bytes<=140737488355328) (h63:n+m'<=maxLen):
  ∃v' w',(execOp (ev σ) ⟨dst,.call {callee:= .builtin .append,args:=#[x,y],argTypes:=#[t,t]},ty,pos,bH,g⟩).run P w= .ok (.value v') w'/\Hp w0 w' (L.set i (.row v' e size (n+m') (xs++news))):=by
 cases c with
 |none=>
  obtain⟨v',w',hr,h2,h3,h4⟩:=rQ (P:=P) (ty:=ty) ht hie hz hsize hby hzs hsz (h.get hi) hS h1 h63 hbytes h.size
  exact⟨v',w',rN hx hy hr,h.xd hi h2 h3 h4⟩
 |some bc=>
  have hX:=h.slC hi hk
  have hsh:∃a,v= .slice a n n:=by
   obtain⟨b,cur⟩:=bc
   exact⟨_,hk.1⟩
  obtain⟨v',w',hr,h2,h3⟩:=Lk (P:=P) (base:=0) (ty:=ty) ht hie hz hsize hby hzs hsh hX hS hm h63 hbytes
  exact⟨v',w',rN hx hy hr,(h.B9 h3 h2).swap (mC.1 hi).1⟩
end
section
variable{P:Program}{σ:Env}{w:World}{t te ty u:TypeId}{pos:String}{bH:Array Edge}{dst:Option Tmp}{g:Option (Nat×Bool)}{x y:Operand}{a:Addr}
theorem D1(d:Nat)(ht:P.underlying t=some (.pointer te)):(Op.equalIn (d+1) t (.pointer (some a)) (.pointer none)).run P w= .ok false w:=by
 simp[Op.equalIn,jG ht]
theorem WY(d:Nat)(ht:P.underlying t=some (.pointer te)):(Op.equalIn (d+1) t (.pointer none) (.pointer none)).run P w= .ok true w:=by
 simp[Op.equalIn,jG ht]
theorem jB(ht:P.underlying t=some (.pointer te))(hx:ev σ x= .pointer (some a))(hy:ev σ y= .pointer none):
  (execOp (ev σ) ⟨dst,.binOp .eql t x y u,ty,pos,bH,g⟩).run P w= .ok (.value (.bool false)) w:=by
 have h:(binOp .eql t (.pointer (some a)) (.pointer none)).run P w= .ok (.bool false) w:=by
  simp only[binOp];simp[Op.equal,Op.maxDepth,D1 9999 ht]
 have he:(eqGuard .eql t x y (.pointer (some a)) (.pointer none))=pure ():=rfl
 simp only[execOp,hx,hy,he];simp[h]
end
theorem Sl.atU{w:World}{v:Value}{W:List (BitVec 64)}(h:Sl w v 1 W.length (W.map U)){i:Int}(h0:0<=i)(h1:i<W.length):w.cell? ⟨sb v,so v+i.toNat*1,none⟩=some (U (W.getD i.toNat 0)):=by
 refine h.cell _ _ ?_
 rw[kX,ph,dO J,ep,dO J];rfl
def cE(c:Option (Nat×Array Value))(v:Value)(e:TypeId)(xs:List Value):a8:=Tf c v e 1 xs.length xs
def cO(c:Option (Nat×Array Value))(v:Value)(xs:List Value):Prop:=cOk c v 1 xs.length xs
section
variable{P:Program}{n:Nat}{k:K}{l:List Oper}{σ:Env}{w0 w:World}{L L':List a8}{ty t e:TypeId}{pos:String}{bH:Array Edge}{d:Nat}{x y:Operand}{g:Option (Nat×Bool)}{v u:Value}{c:Option (Nat×Array Value)}{xs:List Value}{i m fuel j:Nat}{listed:Array Bool}{W:List (BitVec 64)}{y0:Value}
theorem Hp.z7(h:Hp w0 w L)(hi:L[i]?=some (cE c v e xs))(hk:cO c v xs):Sl w v 1 xs.length xs:=h.slC hi hk
theorem EX{o:Nat}{b:BitVec 64}:(W.map U).set o (U b)=(W.set o b).map U:=List.map_set.symm
theorem Hp.abq{b:Nat}{o:Obj}(h:Hp w0 w L)(hm:a8.blk b o∈L):w.heap[b]?=some o:=(h.ok _ hm).2
theorem Hp.oa{b off:Nat}{cs:Array Value}{te:TypeId}{fr:Nat×Nat}(h:Hp w0 w L)(hm:a8.blk b (.cells cs te fr)∈L)(hc:cs[off]?=some v):w.cell? ⟨b,off,none⟩=some v:=by
 rw[wu w b off cs te fr (h.abq hm)];exact hc
theorem Hp.xp(h:Hp w0 w L)(hi:L[i]?=some (cE c v e (W.map U)))(hk:cO c v (W.map U)):Sl w v 1 W.length (W.map U):=by
 have:=h.z7 hi hk
 rwa[fx]at this
theorem Hp.apI(h:Hp w0 w L)(hi:L[i]?=some (cE c v e xs))(hk:cO c v xs)(hm:m<=xs.length):∃c',cO c' (r8 v m) (xs.take m)/\Hp w0 w (L.set i (cE c' (r8 v m) e (xs.take m))):=by
 obtain⟨c',h1,h2⟩:=h.aBq hi hk hm
 have e:(xs.take m).length=m:=by rw[eD];omega
 rw[kX]at h1 h2
 exact⟨c',by unfold cO;rw[e];exact h1,by unfold cE;rw[e];exact h2⟩
theorem Bi{o:Nat}(ho:o<xs.length):rq xs o [u]=xs.set o u:=by grind[rq,List.set_eq_take_append_cons_drop]
theorem afJ(hj:l[j]?=some ⟨none,.store t x y,ty,pos,bH,g⟩)(hg:∀a,Is n σ a->Region.wanted ⟨none,.store t x y,ty,pos,bH,g⟩ (yielded l.toArray a.tmps)=true)(hH:Hp w0 w L)(hi:L[i]?=some (cE c v e xs))(hk:cO c v xs)(hsub:∀c' ys,L'.Sublist (L.set i (cE c' v e ys))){o:Nat}(ho:o<xs.length)
  (hx:ev σ x= .pointer (some ⟨sb v,so v+o*1,none⟩)) (hy:ev σ y=u) (hv:u.cells=#[u]) (h1:u.oneCell'=true) (hs:(P.info? t).map (·.size)=some 1)
  (hn:∀c' w',cO c' v (xs.set o u)->Hp w0 w' (L.set i (cE c' v e (xs.set o u)))->AN P n l (fun w=>Hp w0 w L') k fuel (listed.setIfInBounds j true) σ w'):AO P n l (fun w=>Hp w0 w L') k fuel listed σ w j:=by
 obtain⟨c',w',hr,h2,h3⟩:=akw (dst:=none) (ty:=ty) (pos:=pos) (bH:=bH) (g:=g) hH hi hk J (o:=o) (by rw[hx,kX]) hy hv h1 hs J
 rw[Bi ho]at h2 h3
 have e1:(xs.set o u).length=xs.length:=mD
 refine Kf hj hg hr ((show Hp w0 w' (L.set i (cE c' v e (xs.set o u)))by unfold cE;rw[e1];exact h3).sub (hsub _ _)) (hn c' w' (by unfold cO;rw[e1];exact h2) (by unfold cE;rw[e1];exact h3))
theorem Bj{ie:TypeInfo}{z:Value}{bytes:Nat}(hi:l[j]?=some ⟨some d,.call {callee:= .builtin .append,args:=#[x,y],argTypes:=#[t,t]},ty,pos,bH,g⟩)
  (hg:∀a,Is n σ a->Region.wanted ⟨some d,.call {callee:= .builtin .append,args:=#[x,y],argTypes:=#[t,t]},ty,pos,bH,g⟩ (yielded l.toArray a.tmps)=true) (hd:Nat.blt d n=true) (hH:Hp w0 w L) (hL:L[i]?=some (cE c v e xs)) (hk:cO c v xs)
  (hs:∀v' ys,L'.Sublist (L.set i (cE none v' e ys))) (hS:Sl w u 1 1 [y0])
  (hx:ev σ x=v) (hy:ev σ y=u) (ht:P.underlying t=some (.slice e)) (hie:P.info? e=some ie) (hz:ie.zero=some z)
  (hsize:ie.size=1) (hby:ie.bytes=bytes) (hzs:z.cells.size=1) (h1:y0.oneCell'=true)
  (hbytes:(xs.length+1)*bytes<=140737488355328) (h63:xs.length+1<=maxLen)
  (hn:∀v' w',Hp w0 w' (L.set i (cE none v' e (xs++[y0])))->AN P n l (fun w=>Hp w0 w L') k fuel (listed.setIfInBounds j true) (k7 σ d v') w'):AO P n l (fun w=>Hp w0 w L') k fuel listed σ w j:=by
 obtain⟨v',w',hr,h2⟩:=Tg (P:=P) (ty:=ty) (dst:=some d) (pos:=pos) (bH:=bH) (g:=g) (ats:=t) hH hL hk hS hx hy ht hie hz hsize hby hzs J (fun u hu=>by rw[fG.1 hu];exact h1) J hbytes h63
 have h3:Hp w0 w' (L.set i (cE none v' e (xs++[y0]))):=by unfold cE;rw[cV,gI];exact h2
 exact A4 hi hg hd hr (h3.sub (hs _ _)) (hn v' w' h3)
end
theorem Oy{W:List (BitVec 64)}{b:BitVec 64}:W.map U++[U b]=(W++[b]).map U:=aA
theorem tJ{ul:List (Value×jh)}{x:Value}(u:jh):ul.map Prod.fst++[x]=(ul++[(x,u)]).map Prod.fst:=aA
structure UT where
 fA:FuncId
 fS:FuncId
 tc:TypeId
 ti:TypeId
 tu:TypeId
 o:Nat
def oA(T:UT)(F:Nat)(L:List a8)(x:Value×jh):Prop:=
 match x.2 with
 | .add n=>∃b1 b2,x.1= .func (.func T.fA) #[] #[.pointer (some ⟨b1,0,none⟩),.pointer (some ⟨b2,0,none⟩)]/\a8.blk b1 (.cells #[.pointer (some ⟨F,T.o,none⟩)] T.tc (0,0))∈L/\a8.blk b2 (.cells #[I n] T.ti (0,0))∈L
 | .set i b=>∃b1 b2 b3,x.1= .func (.func T.fS) #[] #[.pointer (some ⟨b1,0,none⟩),.pointer (some ⟨b2,0,none⟩),.pointer (some ⟨b3,0,none⟩)]/\a8.blk b1 (.cells #[U b] T.tu (0,0))∈L/\a8.blk b2 (.cells #[.pointer (some ⟨F,T.o,none⟩)] T.tc (0,0))∈L/\a8.blk b3 (.cells #[I i] T.ti (0,0))∈L
theorem oA.mono{T:UT}{F:Nat}{L L':List a8}{x:Value×jh}(h:oA T F L x)(hs:∀e∈L,e∈L'):oA T F L' x:=by
 obtain⟨v,u⟩:=x
 cases u with
 |add n=>obtain⟨b1,b2,h1,h2,h3⟩:=h;exact⟨b1,b2,h1,hs _ h2,hs _ h3⟩
 |set i b=>obtain⟨b1,b2,b3,h1,h2,h3,h4⟩:=h;exact⟨b1,b2,b3,h1,hs _ h2,hs _ h3,hs _ h4⟩
theorem akx{ul:List (Value×jh)}{j k:Int}(h0:0<=j/\j<k)(h1:k<=ul.length):((ul.take k.toNat).map Prod.fst)[j.toNat*1]?=some ((ul.getD j.toNat (.tuple #[],.add 0)).1):=by grind
theorem afK{ul:List (Value×jh)}{k:Int}(h0:0<k)(h1:(k-1).toNat<ul.length):(ul.getD (k-1).toNat (.tuple #[],.add 0)).1=(ul[(k-1).toNat]).1:=by
 rw[ep,dO h1];rfl
theorem apJ{W:List (BitVec 64)}{ul:List (Value×jh)}{k:Int}(h0:0<k)(h1:(k-1).toNat<ul.length):Qx (iT W (ul.map Prod.snd) k.toNat) (ul[(k-1).toNat]).2=iT W (ul.map Prod.snd) (k-1).toNat:=by
 rw[Lp (W:=W) (us:=ul.map Prod.snd) (k:=(k-1).toNat) DL,List.getElem_map,show(k-1).toNat+1=k.toNat by omega]
theorem apK{W:List (BitVec 64)}{ul:List (Value×jh)}{k:Int}(h:Ln W.length (ul.map Prod.snd))(h1:(k-1).toNat<ul.length)(h0:0<k):match(ul[(k-1).toNat]).2 with| .add n=>n<=(iT W (ul.map Prod.snd) k.toNat).length| .set i _=>i<(iT W (ul.map Prod.snd) k.toNat).length:=by
 have h2:=S7 h (t:=k.toNat) (by rw[fx];omega)
 have e:(ul.map Prod.snd).take k.toNat=(ul.map Prod.snd).take (k-1).toNat++[(ul[(k-1).toNat]).2]:=by
  rw[show k.toNat=(k-1).toNat+1 by omega,xX,ph,dO h1];rfl
 rw[e,sj]at h2
 generalize(ul[(k-1).toNat]).2=u at h2⊢
 cases u with
 |add n=>exact h2.1
 |set i b=>exact h2.1
section
variable{P:Program}{n:Nat}{k:K}{xs:List (Nat×K)}{r:K}{σ:Env}{w:World}
theorem WZ{c:Code}(h:CW P n c k xs r σ w):CW P n (.scope c) k xs r σ w:=fun a ha=>wp_scope_straight (x9 (fun e a' w' hq=>by cases e<;>exact hq) (h a ha))
theorem W3{l:Nat}(h:k σ w):CW P n (.label l) k xs r σ w:=fun a ha=>wp_label ⟨σ,ha,h⟩
end
theorem Hp.lC{w0 w:World}{A R B L:List a8}(h:Hp w0 w (A++(B++(R++L)))):Hp w0 w (A++(R++(B++L))):=by
 refine h.perm (tL A ?_)
 rw[<-dg,<-dg]
 exact List.Perm.append_right L sE
def apL(n:Nat)(k:Int):Int:=if k=1 then 1 else n
theorem W4{n:Nat}{k:Int}(h0:0<=k)(h1:k<4):([I n,I 1,I n,I n]:List Value)[k.toNat*1]?=some (I (apL n k)):=by
 rcases(by omega:k=0\/k=1\/k=2\/k=3)with rfl|rfl|rfl|rfl<;>rfl
theorem IS{n:Nat}{k:Int}(h0:0<=k)(h1:k<4):(Eo (qy n)).take (k+1).toNat=(Eo (qy n)).take k.toNat++[BitVec.ofInt 64 (apL n k)]:=by
 rcases(by omega:k=0\/k=1\/k=2\/k=3)with rfl|rfl|rfl|rfl<;>simp[Eo,qy,apL]
def Ls(m:Nat)(k:Int):List jh:=(List.range k.toNat).map fun j=>jh.add (m+j)
theorem GZ{m:Nat}{k:Int}(h0:0<=k):Ls m (k+1)=Ls m k++[jh.add (m+k.toNat)]:=by
 rw[Ls,show(k+1).toNat=k.toNat+1 by omega,wj,gp];rfl
theorem W5{m:Nat}{us:List jh}:us++Ls m 4=Nh us m:=by simp[Ls,Nh,List.range,List.range.loop]
theorem oC{a b c:List (Value×jh)}{T:UT}{F:Nat}{B C:List a8}(h1:b.take a.length=a)(h2:c.take b.length=b)(hab:∀x∈b.drop a.length,oA T F B x)(hbc:∀x∈c.drop b.length,oA T F C x):c.take a.length=a/\∀x∈c.drop a.length,oA T F (C++B) x:=by
 have hl:a.length<=b.length:=by
  have:=aJ List.length h1;rw[eD]at this;omega
 constructor
 .rw[show c.take a.length=(c.take b.length).take a.length by rw[AF,qI hl],h2,h1]
 intro x hx
 have e:c=b++c.drop b.length:=by conv=>lhs;rw[<-FQ b.length c,h2]
 rw[e,Jr hl]at hx
 rcases eF.1 hx with q|q
 .exact(hab x q).mono fun e he=>bB _ he
 exact(hbc x q).mono fun e he=>dy _ he
end
end Go.Proofs.YtlhjdflgjbkpmaaGreatDoor.E
namespace Go.Proofs.YtlhjdflgjbkpmaaGreatDoor.M
section
open Go
theorem abr(r:Rl)(w:BitVec 64):(∃k:Int,eC r w=(k,true)/\0<=k/\k<pts r/\bN r k=w)\/eC r w=(0,false):=by grind[Rl,eC,pts,bN,mR]
theorem adl(r:Rl)(i j:Int):(iC r i j).2=true->0<=(iC r i j).1/\(iC r i j).1<pts r:=by grind[mR,mS,ig,pts,iC,zC]
def C0(r:Rl)(w:BitVec 64):Int:=if(eC r w).2=true then(eC r w).1 else-1
theorem apM{r:Rl}{w:BitVec 64}{k:Int}(h0:0<=k)(hk:k<pts r)(h:bN r k=w)(hf:∀j:Int,0<=j->j<k->bN r j≠w):C0 r w=k:=by
 rw[C0,Cg h0 hk h hf];rfl
theorem auv{r:Rl}{w:BitVec 64}{k:Int}(hk:¬k<pts r)(hf:∀j:Int,0<=j->j<k->bN r j≠w):C0 r w= -1:=by
 rw[C0,EH hk hf];rfl
theorem C1(r:Rl)(w:BitVec 64):(0<=C0 r w/\C0 r w<pts r/\bN r (C0 r w)=w/\eC r w=(C0 r w,true))\/(C0 r w= -1/\(eC r w).2=false):=by grind[C0,abr]
def HX(r:Rl)(i j:Int):BitVec 64:=if(iC r (C0 r (bN r i)) (C0 r (bN r j))).2=true then bN r (iC r (C0 r (bN r i)) (C0 r (bN r j))).1 else bN r i|||bN r j
theorem abt{r:Rl}{i j:Int}(h:(iC r (C0 r (bN r i)) (C0 r (bN r j))).2=true):HX r i j=bN r (iC r (C0 r (bN r i)) (C0 r (bN r j))).1:=aR h
theorem afL{r:Rl}{i j:Int}(h:(iC r (C0 r (bN r i)) (C0 r (bN r j))).2=false):HX r i j=bN r i|||bN r j:=aP (by rw[h];exact Js)
theorem Oz{r:Rl}{a b:BitVec 64}(h:C0 r a<0\/C0 r b<0):a|||b=jq r a b:=by
 rcases h with h|h
 .rcases C1 r a with q|q
  .omega
  exact(NS q.2).symm
 rcases C1 r b with q|q
 .omega
 exact(NT q.2).symm
theorem afM{r:Rl}{a b:BitVec 64}(h:¬(C0 r a<0\/C0 r b<0)):HX r (C0 r a) (C0 r b)=jq r a b:=by grind[C1,HX,jq]
def mZ(r:Rl)(k:Nat):List (BitVec 64):=(List.range k).map fun(i:Nat)=>bN r (i:Int)
theorem yL{r:Rl}{k:Nat}:(mZ r k).length=k:=by simp[mZ]
theorem abu{r:Rl}{k:Nat}{i:Int}(h:0<=i/\i<k):(mZ r k).getD i.toNat 0=bN r i:=by grind[mZ]
theorem RV{r:Rl}{k:Int}(h:0<=k):mZ r (k+1).toNat=mZ r k.toNat++[bN r k]:=by
 rw[mZ,show(k+1).toNat=k.toNat+1 by omega,wj,gp,JA,fF h];rfl
def yM(r:Rl)(i:Int)(n k:Nat):List (BitVec 64):=(List.range n).map fun(j:Nat)=>if j<k then HX r i (j:Int)else 0
theorem A0{r:Rl}{i:Int}{n k:Nat}:(yM r i n k).length=n:=by simp[yM]
theorem abv{r:Rl}{i:Int}{n:Nat}:List.replicate n (0#64)=yM r i n 0:=by
 apply VH (by simp[yM])
 intro j h1 h2
 simp[yM]
theorem Th{r:Rl}{i:Int}{n:Nat}{k:Int}{x:BitVec 64}(h:0<=k/\k<n)(hx:x=HX r i k):(yM r i n k.toNat).set k.toNat x=yM r i n (k+1).toNat:=by grind[List.ext_getElem,yM,List.length_set,A0,Int.toNat_of_nonneg]
theorem abw{r:Rl}{i:Int}{n:Nat}{k:Int}{x y:BitVec 64}(h:0<=k/\k<n)(hx:y=HX r i k):((yM r i n k.toNat).set k.toNat x).set k.toNat y=yM r i n (k+1).toNat:=by simp_all[Th]
theorem aky{r:Rl}{i:Int}{n:Nat}{j:Int}(h:0<=j/\j<n):(yM r i n n).getD j.toNat 0=HX r i j:=by grind[yM]
end
end Go.Proofs.YtlhjdflgjbkpmaaGreatDoor.M
namespace Go.Proofs.YtlhjdflgjbkpmaaGreatDoor.E
section
open Go Go.RowKit Go.Proofs.YtlhjdflgjbkpmaaGreatDoor.M
def kN(r:Rl)(d s:Int)(vw vj:Value):List Value:=uX r++[.int .u32 d,.int .i32 s,.int .u32 0,vw,vj]
section
variable{r:Rl}{d s:Int}{vw vj v:Value}
theorem ada:(kN r d s vw vj).length=70:=by simp[kN,ox]
theorem auw:(kN r d s vw vj).toArray[0]?=some (I r.n):=by simp[kN,uX]
theorem QD{k:Nat}(hk:k<5):(kN r d s vw vj).toArray[65+k]?=([.int .u32 d,.int .i32 s,.int .u32 0,vw,vj]:List Value)[k]?:=by grind[kN,ox]
theorem Y7:(kN r d s vw vj).toArray[65]?=some (.int .u32 d):=QD (k:=0) J
theorem amZ:(kN r d s vw vj).toArray[66]?=some (.int .i32 s):=QD (k:=1) J
theorem C2:(kN r d s vw vj).toArray[68]?=some vw:=QD (k:=3) J
theorem am0:(kN r d s vw vj).toArray[69]?=some vj:=QD (k:=4) J
theorem Jg{k:Nat}:(kN r d s vw vj).toArray.setIfInBounds (65+k) v=(uX r++([.int .u32 d,.int .i32 s,.int .u32 0,vw,vj]:List Value).set k v).toArray:=by simp_all[kN,ox]
theorem EY:(kN r d s vw vj).toArray.setIfInBounds 68 v=(kN r d s v vj).toArray:=Jg (k:=3)
theorem afN:(kN r d s vw vj).toArray.setIfInBounds 69 v=(kN r d s vw v).toArray:=Jg (k:=4)
theorem afO{e:Int}:(kN r d s vw vj).toArray.setIfInBounds 65 (.int .u32 e)=(kN r e s vw vj).toArray:=Jg (k:=0)
theorem Ti{e:Int}:(kN r d s vw vj).toArray.setIfInBounds 66 (.int .i32 e)=(kN r d e vw vj).toArray:=Jg (k:=1)
theorem akz:((kN r d s vw vj).toArray.toList.drop 0).take (uX r).length=uX r:=by simp[kN]
end
structure QE where
 v:Value
 l:List (BitVec 64)
def ru0:QE:=⟨.slice none 0 0,[]⟩
theorem apO{rs:List QE}{k:Int}(h:0<=k/\k<rs.length):(rs.map QE.v)[k.toNat*1]?=some (rs.getD k.toNat ru0).v:=by grind
def D2(r:Rl)(n k:Nat):List (List (BitVec 64)):=(List.range k).map fun(i:Nat)=>yM r (i:Int) n n
theorem W6{r:Rl}{n:Nat}{k:Int}(h:0<=k):D2 r n (k+1).toNat=D2 r n k.toNat++[yM r k n n]:=by
 rw[D2,show(k+1).toNat=k.toNat+1 by omega,wj,gp,JA,fF h];rfl
structure G0(K:Vu)(r:Rl)(vw vj:Value)(rs:List QE):Prop where
 words:n7 K vw 1 (mZ r (pts r).toNat).length ((mZ r (pts r).toNat).map U)
 afP:n7 K vj 1 rs.length (rs.map QE.v)
 each:∀x∈rs,n7 K x.v 1 x.l.length (x.l.map U)
 rs:rs.map QE.l=D2 r (pts r).toNat (pts r).toNat
section
variable{K K':Vu}{r:Rl}{vw vj:Value}{rs:List QE}
theorem G0.mono(h:G0 K r vw vj rs)(hl:Le K K'):G0 K' r vw vj rs:=⟨h.words.mono hl,h.afP.mono hl,fun x hx=>(h.each x hx).mono hl,h.rs⟩
theorem G0.len(h:G0 K r vw vj rs):rs.length=(pts r).toNat:=by
 have:=aJ List.length h.rs
 simpa[D2]using this
theorem G0.row(h:G0 K r vw vj rs){i:Int}(hi:0<=i/\i<pts r):(rs.getD i.toNat ru0).l=yM r i (pts r).toNat (pts r).toNat/\n7 K (rs.getD i.toNat ru0).v 1 (rs.getD i.toNat ru0).l.length ((rs.getD i.toNat ru0).l.map U):=by
 have hl:=h.len
 have hm:i.toNat<rs.length:=J
 have e:rs.getD i.toNat ru0=rs[i.toNat]:=by rw[ep,dO hm];rfl
 rw[e]
 refine⟨?_,h.each _ (pS hm)⟩
 have h2:(rs.map QE.l)[i.toNat]?=some (yM r i (pts r).toNat (pts r).toNat):=by
  rw[h.rs,D2,ph,xV J,pT,fF hi.1]
 rw[ph,dO hm]at h2
 simpa using h2
end
section
variable{P:Program}{σ:Env}{w0 w:World}{L:List a8}{dst:Option Tmp}{ty t:TypeId}{pos:String}{bH:Array Edge}{g:Option (Nat×Bool)}{x y:Operand}{v u:Value}{i b o m:Nat}{xs:List Value}{r:Rl}
theorem Hp.setCell{c:Array Value}{e:TypeId}(h:Hp w0 w L)(hi:L[i]?=some (.blk b (.cells c e (0,0)))):Hp w0 (w.setCell ⟨b,o,none⟩ v) (L.set i (.blk b (.cells (c.setIfInBounds o v) e (0,0)))):=by
 have e1:w.setCell ⟨b,o,none⟩ v=w.setRow b (c.setIfInBounds o v):=by
  unfold World.setCell World.setRow
  congr 1
  have hg:=h.blk hi
  have hlt:b<w.heap.size:=(Ay.1 hg).1
  have hv:w.heap[b]= .cells c e (0,0):=(Ay.1 hg).2
  apply Array.ext aA
  intro k h1 h2
  rw[Array.getElem_modify,Array.getElem_modify]
  by_cases q:b=k
  .subst q;simp[hv]
  rw[aP q,aP q]
 rw[e1];exact h.set hi
theorem Hp.fz{c:Array Value}{e:TypeId}(h:Hp w0 w L)(hi:L[i]?=some (.blk b (.cells c e (0,0)))):w.frozen? ⟨b,o,none⟩=false:=by
 have hg:=h.blk hi
 unfold World.frozen?
 simp only[hg]
 simp
theorem G1{d:TypeDesc}{a s:Int}{vw vj:Value}{fr:Nat×Nat}{e:TypeId}(hu:P.underlying t=some d)(hd:d.isRow=true)(hi:(P.info? t).map (·.size)=some 65)(hx:ev σ x= .pointer (some ⟨b,0,none⟩))(hg:w.heap[b]?=some (.cells (kN r a s vw vj).toArray e fr)):
 (execOp (ev σ) ⟨dst,.load t x,ty,pos,bH,g⟩).run P w= .ok (.value (.agg (dK r))) w:=by grind[iH,ix,uX,ox,akz]
theorem rB{n:Nat}{k:Int}(h:Sl w v 1 (mZ r n).length ((mZ r n).map U))(hk:0<=k/\k<n):w.cell? ⟨sb v,so v+k.toNat*1,none⟩=some (U (bN r k)):=by
 rw[<-abu hk]
 refine h.cell _ _ ?_
 rw[kX,ph,ep,dO (by rw[yL];omega)];rfl
theorem mk_zero{i:Int}{n:Nat}:(List.replicate n (0#64)).flatMap (fun x:BitVec 64=>[U x])=(yM r i n 0).map U:=by
 rw[<-abv]
 induction n with
 |zero=>rfl
 |succ n ih=>rw[List.replicate_succ,s0,kV,ih];rfl
end
def KN:Vu:=fun _ _=>False
theorem KN.le{K:Vu}:Le KN K:=fun _ _ h=>h.elim
def TbZ(TT:TypeId)(r:Rl)(b:Nat)(Z:List a8):Prop:=
 Z=[.blk b (.cells (kN r 0 0 (.slice none 0 0) (.slice none 0 0)).toArray TT (0,0))]\/
 ∃(v1 v2:Value) (rs:List QE) (Zr:List a8),Z= .blk b (.cells (kN r 1 0 v1 v2).toArray TT (0,0))::Zr/\G0 (Kz KN Zr) r v1 v2 rs
theorem afQ{K:Vu}{Zr z:List a8}{rs:List QE}{v:Value}{n:Nat}{l:List (BitVec 64)}(h:∀x∈rs,n7 (Kz K Zr) x.v 1 x.l.length (x.l.map U))(hv:n7 (Kz K z) v 1 n (l.map U))(hn:n=l.length:=by first|rfl|(rw[A0])):∀x∈rs++[QE.mk v l],n7 (Kz K (z++Zr)) x.v 1 x.l.length (x.l.map U):=fun x hx=>by
 rcases eF.1 hx with q|q
 .exact(h x q).mono (Le.zz fun e he=>bB _ he)
 rw[fG.1 q];subst hn;exact hv.mono (Le.zz fun e he=>dy _ he)
theorem Hp.rC{w0 w:World}{A Zf R:List a8}(h:Hp w0 w (A++(Zf++R))):Hp w0 w (Zf++(A++R)):=h.perm (by
 rw[<-dg,<-dg]
 exact sE.append_right R)
theorem afR{P:Program}{σ:Env}{w:World}{dst:Option Tmp}{ty:TypeId}{pos:String}{bH:Array Edge}{g:Option (Nat×Bool)}{x:Operand}{fn:Fn}{v:Value}(hx:ev σ x=v):
  (execOp (ev σ) ⟨dst,.makeFunc fn #[x] #[],ty,pos,bH,g⟩).run P w= .ok (.value (.func fn #[v] #[])) w:=by
 simp[execOp,hx,Instr.makeFunc]
theorem am1(r:Rl)(w:BitVec 64): -1<=C0 r w/\(C0 r w<0\/C0 r w<pts r):=by grind[C1]
abbrev Iv:=Nat->Option (Nat×Rl)
def afS(o:Option (Nat×Rl)):Value:= .pointer (o.map fun p=>⟨p.1,0,none⟩)
def Tj(tb:Iv):List Value:=(List.range 8).map fun i=>afS (tb i)
theorem akA(tb:Iv):(Tj tb).length=8:=by simp[Tj]
def tb0:Iv:=fun _=>none
def Tk(tb:Iv)(k:Nat)(p:Nat×Rl):Iv:=fun i=>if i=k then some p else tb i
theorem apQ(tb:Iv){k:Nat}(h:k<8):(Tj tb).toArray[0+k*1]?=some (afS (tb k)):=by grind[Tj]
theorem akB(tb:Iv){k:Nat}{p:Nat×Rl}:(Tj tb).toArray.setIfInBounds (0+k*1) (.pointer (some ⟨p.1,0,none⟩))=(Tj (Tk tb k p)).toArray:=by
 rw[gA,kX,mA]
 congr 1
 apply VH (by simp[Tj])
 intro j h1 h2
 rw[xY]
 simp only[Tj,List.getElem_map,List.getElem_range,Tk]
 by_cases e:k=j
 .subst e;rw[aR O,aR O];rfl
 rw[aP e,aP (fun q=>e q.symm)]
def oc(tb:Iv)(a c:El):El:=fun i=>match tb i with
 |some p=>jq p.2 (a i) (c i)
 |none=>a i|||c i
def u5(TT:TypeId):List (Nat×Rl)->List a8->Prop
 |[],Z=>Z=[]
 |p::tl,Z=>∃z Y,Z=z++Y/\TbZ TT p.2 p.1 z/\u5 TT tl Y
theorem u5.one{TT:TypeId}{b:Nat}{r:Rl}{z:List a8}(h:TbZ TT r b z):u5 TT [(b,r)] z:=⟨z,[],aA,h,rfl⟩
theorem u5.app{TT:TypeId}{tl tm:List (Nat×Rl)}{Z Y:List a8}(h:u5 TT tl Z)(k:u5 TT tm Y):u5 TT (tl++tm) (Z++Y):=by
 induction tl generalizing Z with
 |nil=>have e:Z=[]:=h;subst e;exact k
 |cons p tl ih=>
  obtain⟨z,X,rfl,h1,h2⟩:=h
  exact⟨z,X++Y,aA,h1,ih h2⟩
theorem u5.pick{TT:TypeId}{tl:List (Nat×Rl)}{Z:List a8}{b:Nat}{r:Rl}(h:u5 TT tl Z)(hm:(b,r)∈tl):∃z Y,TbZ TT r b z/\Z.Perm (z++Y)/\∀z',TbZ TT r b z'->∃Z',u5 TT tl Z'/\(z'++Y).Perm Z':=by
 induction tl generalizing Z with
 |nil=>cases hm
 |cons p tl ih=>
  obtain⟨z,X,rfl,h1,h2⟩:=h
  rcases cT.1 hm with e|hm
  .subst e
   exact⟨z,X,h1,PF _,fun z' hz'=>⟨z'++X,⟨z',X,rfl,hz',h2⟩,PF _⟩⟩
  obtain⟨z1,Y,k1,k2,k3⟩:=ih h2 hm
  refine⟨z1,z++Y,k1,?_,fun z' hz'=> ?_⟩
  .refine(tL z k2).trans ?_
   rw[<-dg,<-dg]
   exact sE.append_right Y
  obtain⟨Z',q1,k5⟩:=k3 z' hz'
  refine⟨z++Z',⟨z,Z',rfl,h1,q1⟩,?_⟩
  refine List.Perm.trans ?_ (tL z k5)
  rw[<-dg,<-dg]
  exact sE.append_right Y
theorem uC{w:World}{b off:Nat}{cs:Array Value}{te:TypeId}{fr:Nat×Nat}{v:Value}(h:w.heap[b]?=some (.cells cs te fr))(hc:cs[off]?=some v):w.cell? ⟨b,off,none⟩=some v:=by
 rw[wu w b off cs te fr h];exact hc
theorem apR(tb:Iv){k:Int}(h:0<=k/\k<8):(Tj tb).toArray[k.toNat]?=some (afS (tb k.toNat)):=by grind[apQ]
theorem OA{P:Program}{σ:Env}{w:World}{dst:Option Tmp}{t te ty u:TypeId}{pos:String}{bH:Array Edge}{g:Option (Nat×Bool)}{x y:Operand}{o:Option (Nat×Rl)}(ht:P.underlying t=some (.pointer te))(hx:ev σ x=afS o)(hy:ev σ y= .pointer none):
  (execOp (ev σ) ⟨dst,.binOp .neq t x y u,ty,pos,bH,g⟩).run P w= .ok (.value (.bool o.isSome)) w:=by
 cases o with
 |none=>
  have h:(binOp .neq t (.pointer none) (.pointer none)).run P w= .ok (.bool false) w:=by
   simp only[binOp];simp[Op.equal,Op.maxDepth,WY 9999 ht]
  have he:(eqGuard .neq t x y (.pointer none) (.pointer none))=pure ():=rfl
  have hx':ev σ x= .pointer none:=hx
  simp only[execOp,hx',hy,he];simp[h]
 |some p=>
  have h:(binOp .neq t (.pointer (some ⟨p.1,0,none⟩)) (.pointer none)).run P w= .ok (.bool true) w:=by
   simp only[binOp];simp[Op.equal,Op.maxDepth,D1 9999 ht]
  have he:(eqGuard .neq t x y (.pointer (some ⟨p.1,0,none⟩)) (.pointer none))=pure ():=rfl
  have hx':ev σ x= .pointer (some ⟨p.1,0,none⟩):=hx
  simp only[execOp,hx',hy,he];simp[h]
theorem Hp.auy{w0 w:World}{A Zt R z Y:List a8}(h:Hp w0 w (A++(Zt++R)))(hp:Zt.Perm (z++Y)):Hp w0 w (z++(Y++(A++R))):=by
 refine h.rC.perm ?_
 rw[<-dg z]
 exact hp.append_right _
theorem Hp.am2{w0 w:World}{A Z' R z Y:List a8}(h:Hp w0 w (z++(Y++(A++R))))(hp:(z++Y).Perm Z'):Hp w0 w (A++(Z'++R)):=by
 refine h.perm ?_
 rw[<-dg z]
 refine(hp.append_right _).trans ?_
 rw[<-dg,<-dg]
 exact sE.append_right R
theorem apS{tb:Iv}{a c:El}{k:Int}{e:El}{b:Nat}{r:Rl}(hr:e=rY (oc tb a c) a k)(h0:0<=k)(hp:tb k.toNat=some (b,r)):zX e k.toNat (jq r (e k.toNat) (c k.toNat))=rY (oc tb a c) a (k+1):=by
 subst hr
 refine Ck h0 ?_
 have e1:rY (oc tb a c) a k k.toNat=a k.toNat:=aP J
 rw[e1];simp only[oc,hp]
theorem auz{tb:Iv}{a c:El}{k:Int}{e:El}(hr:e=rY (oc tb a c) a k)(h0:0<=k)(hp:(tb k.toNat).isSome=false):zX e k.toNat (e k.toNat|||c k.toNat)=rY (oc tb a c) a (k+1):=by
 subst hr
 refine Ck h0 ?_
 have e1:rY (oc tb a c) a k k.toNat=a k.toNat:=aP J
 have hp':tb k.toNat=none:=by cases h:tb k.toNat with
  |none=>rfl
  |some p=>rw[h]at hp;cases hp
 rw[e1];simp only[oc,hp']
theorem afT(tb:Iv){k b:Nat}(r:Rl):(Tj tb).toArray.setIfInBounds (0+k*1) (.pointer (some ⟨b,0,none⟩))=(Tj (Tk tb k (b,r))).toArray:=akB (p:=(b,r)) tb
def G2(s:Sh)(k:Int)(tb:Iv):Prop:=∀i:Nat,i<8->if(i:Int)<k/\(i:Int)<s.aT.length/\(s.aT.getD i uV).kind=4 then∃b,tb i=some (b,(s.aT.getD i uV).rel)else tb i=none
theorem G2.start(s:Sh):G2 s 0 tb0:=by grind[Sh,G2,tb0]
theorem G2.put{s:Sh}{k:Int}{tb:Iv}{b:Nat}{r:Rl}(h:G2 s k tb)(h0:0<=k)(h1:k<s.aT.length)(h2:(s.aT.getD k.toNat uV).kind=4)(hr:(s.aT.getD k.toNat uV).rel=r):G2 s (k+1) (Tk tb k.toNat (b,r)):=fun i hi=>by
 have:=h i hi
 unfold Tk
 by_cases e:i=k.toNat
 .subst e
  rw[aR ⟨J,J,h2⟩,aR O,hr];exact⟨b,rfl⟩
 rw[aP e]
 by_cases q:(i:Int)<k/\(i:Int)<s.aT.length/\(s.aT.getD i uV).kind=4
 .rw[aR q]at this;rw[aR ⟨J,q.2⟩];exact this
 rw[aP q]at this;rw[aP fun w=>q ⟨J,w.2⟩];exact this
theorem G2.skip{s:Sh}{k:Int}{tb:Iv}(h:G2 s k tb)(h0:0<=k)(h2:¬(k<8/\(s.aT.getD k.toNat uV).kind=4)):G2 s (k+1) tb:=fun i hi=>by
 have:=h i hi
 by_cases e:i=k.toNat
 .subst e
  rw[aP J]at this
  rw[aP fun w=>h2 ⟨J,w.2.2⟩];exact this
 by_cases q:(i:Int)<k/\(i:Int)<s.aT.length/\(s.aT.getD i uV).kind=4
 .rw[aR q]at this;rw[aR ⟨J,q.2⟩];exact this
 rw[aP q]at this;rw[aP fun w=>q ⟨J,w.2⟩];exact this
def afU(s:Sh)(tb:Iv):Prop:=∀i:Nat,i<8->if(i:Int)<s.aT.length/\(s.aT.getD i uV).kind=4 then∃b,tb i=some (b,(s.aT.getD i uV).rel)else tb i=none
theorem G2.all{s:Sh}{k:Int}{tb:Iv}(h:G2 s k tb)(hk:¬k<s.aT.length):afU s tb:=fun i hi=>by
 have:=h i hi
 by_cases q:(i:Int)<s.aT.length/\(s.aT.getD i uV).kind=4
 .rw[aR q];rw[aR ⟨J,q⟩]at this;exact this
 rw[aP q];rw[aP fun w=>q w.2]at this;exact this
theorem abx{s:Sh}{tb:Iv}(h:afU s tb)(a c:El):qK (oc tb a c) (fh s a c):=fun i hi=>by
 have:=h i hi
 unfold oc fh SD
 by_cases q:(i:Int)<s.aT.length/\(s.aT.getD i uV).kind=4
 .rw[aR q]at this⊢
  obtain⟨b,e⟩:=this;simp only[e]
 rw[aP q]at this⊢
 simp only[this]
theorem akC{tb:Iv}{tl:List (Nat×Rl)}{k:Nat}{q:Nat×Rl}(h:∀i,i<8->∀p,tb i=some p->p∈tl):∀i,i<8->∀p,Tk tb k q i=some p->p∈q::tl:=by grind[Tk]
theorem u5.cons{TT:TypeId}{tl:List (Nat×Rl)}{Z:List a8}{b:Nat}{r:Rl}(h:u5 TT tl Z):u5 TT ((b,r)::tl) ([.blk b (.cells (kN r 0 0 (.slice none 0 0) (.slice none 0 0)).toArray TT (0,0))]++Z):=⟨_,_,rfl,.inl O,h⟩
structure Cn where
 e:Int
 l:Int
 j:Int
def cn0:Cn:=⟨0,0,0⟩
def Cn.ok(c:Cn):Prop:=(0<=c.e/\c.e<=1000000000000)/\(0<=c.l/\c.l<=1000000000000)/\(0<=c.j/\c.j<=1000000000000)
inductive Kd
 |e
 |l
 |j
def Kd.up(c:Cn):Kd->Cn
 | .e=>⟨c.e+1,c.l,c.j⟩
 | .l=>⟨c.e,c.l+1,c.j⟩
 | .j=>⟨c.e,c.l,c.j+1⟩
inductive Wr
 |base (p:kL) (tb:Iv)
 |wrap (m:Nat) (d:Wr)
structure M6 where
 ofE:FuncId
 leq:FuncId
 jn:FuncId
 w1:FuncId
 w2:FuncId
 w3:FuncId
 w4:FuncId
 tsh:TypeId
 t8:TypeId
 tfn:TypeId
 tm:TypeId
 aBs:TypeId
 auA:TypeId
 tt:TypeId
 fr:List a8
abbrev pt(b:Nat):Value:= .pointer (some ⟨b,0,none⟩)
abbrev iW(f:FuncId)(cs:Array Value):Value:= .func (.func f) #[] cs
def z8(T:M6)(K:Vu):Wr->Value->Value->Value->Prop
 | .base p tb,e,l,j=>∃B1 B2,e=iW T.ofE #[pt B1]/\l=iW T.leq #[]/\j=iW T.jn #[pt B2]/\K B1 (.cells (rp p) T.tsh (0,0))/\kO K p/\K B2 (.cells (Tj tb).toArray T.t8 (0,0))
 | .wrap m d,e,l,j=>∃b2 b3 b5 e' l' j',e=iW T.w2 #[pt b5,pt b3]/\l=iW T.w3 #[pt b5,pt b3]/\j=iW T.w4 #[pt b5,pt b3]/\K b5 (.cells #[iW T.w1 #[pt b2]] T.tfn (0,0))/\K b2 (.cells #[pt m] T.tm (0,0))/\K b3 (.cells #[e',l',j'] T.aBs (0,0))/\z8 T K d e' l' j'
theorem z8.mono{T:M6}{K K':Vu}(hl:Le K K'){d:Wr}:∀{e l j:Value},z8 T K d e l j->z8 T K' d e l j:=by
 induction d with
 |base p tb=>rintro e l j ⟨B1,B2,h1,h2,h3,h4,h5,h6⟩;exact⟨B1,B2,h1,h2,h3,hl _ _ h4,h5.mono hl,hl _ _ h6⟩
 |wrap m d ih=>rintro e l j ⟨b2,b3,b5,e',l',j',h1,h2,h3,h4,h5,h6,h7⟩;exact⟨b2,b3,b5,e',l',j',h1,h2,h3,hl _ _ h4,hl _ _ h5,hl _ _ h6,ih h7⟩
theorem z8.one{T:M6}{K:Vu}{d:Wr}{e l j:Value}(h:z8 T K d e l j):∃f g k a b c,e=iW f a/\l=iW g b/\j=iW k c:=by
 cases d with
 |base p tb=>obtain⟨B1,B2,h1,h2,h3,-⟩:=h;exact⟨_,_,_,_,_,_,h1,h2,h3⟩
 |wrap m d=>obtain⟨b2,b3,b5,e',l',j',h1,h2,h3,-⟩:=h;exact⟨_,_,_,_,_,_,h1,h2,h3⟩
def Wr.sh:Wr->kL
 | .base p _=>p
 | .wrap _ d=>d.sh
def Wr.tb:Wr->Iv
 | .base _ tb=>tb
 | .wrap _ d=>d.tb
def Wr.DP(ids:List Nat)(tl:List (Nat×Rl)):Wr->Prop
 | .base p tb=>afU p.sh tb/\∀i,i<8->∀q,tb i=some q->q∈tl
 | .wrap m d=>m∈ids/\d.DP ids tl
abbrev Ct:=Nat->Cn
def u6(f:Ct)(m:Nat)(c:Cn):Ct:=fun i=>if i=m then c else f i
def je(k:Kd)(m:Nat)(f:Ct):Ct:=u6 f m (k.up (f m))
def Wr.tick(k:Kd):Wr->Ct->Ct
 | .base _ _,f=>f
 | .wrap m d,f=>d.tick k (je k m f)
def rD(T:M6)(m:Nat)(c:Cn):a8:= .blk m (.cells #[B true,I c.e,I c.l,I c.j] T.auA (0,0))
def j5(T:M6)(ids:List Nat)(f:Ct)(tl:List (Nat×Rl))(Z:List a8):Prop:=∃Zt,u5 T.tt tl Zt/\Z=(ids.map (fun m=>rD T m (f m))++T.fr)++Zt
theorem j5.pick{T:M6}{ids:List Nat}{f:Ct}{tl:List (Nat×Rl)}{Z R:List a8}{m:Nat}{w0 w:World}(h:j5 T ids f tl Z)(hm:m∈ids)(hH:Hp w0 w (Z++R)):
  ∃Y,Z.Perm ([rD T m (f m)]++Y)/\∀c,∃Z',j5 T ids (u6 f m c) tl Z'/\([rD T m c]++Y).Perm Z':=by
 obtain⟨Zt,h1,rfl⟩:=h
 obtain⟨pre,post,rfl⟩:=Vv hm
 have am3:∀q∈pre++post,q≠m:=by
  have e:((pre++m::post).map (fun i=>rD T i (f i))++T.fr++Zt++R).Perm (rD T m (f m)::((pre++post).map (fun i=>rD T i (f i))++T.fr++Zt++R)):=by
   simp only[gp,kV,dg,fH]
   exact Dw
  have h2:=(hH.perm e).Kc
  intro q hq hqe
  have h3:=(lE.1 h2).1 (rD T q (f q)) (dy _ (dy _ (dy _ (fI.2 ⟨q,hq,rfl⟩))))
  rcases h3 with h3|h3
  .cases h3
  exact h3 (by show some m=some q;rw[hqe])
 have same:∀(c:Cn) (l:List Nat),(∀q∈l,q≠m)->(l.map fun i=>rD T i (u6 f m c i))=l.map fun i=>rD T i (f i):=fun c l hl=>by
  apply FT
  intro q hq
  unfold u6;rw[aP (hl q hq)]
 refine⟨(pre++post).map (fun i=>rD T i (f i))++T.fr++Zt,?_,fun c=>⟨_,⟨Zt,h1,rfl⟩,?_⟩⟩
 .simp only[gp,kV,dg,fH,dZ]
  exact Dw
 have e1:=same c pre fun q hq=>am3 q (dy _ hq)
 have e2:=same c post fun q hq=>am3 q (bB _ hq)
 have e3:u6 f m c m=c:=aR O
 simp only[gp,kV,e1,e2,e3,dg,fH,dZ]
 exact Dw.symm
def yN(P:Program)(v:Value)(args:List Value)(w:World)(Q:Ending->World->Prop):Prop:=
 ∃(f:FuncId) (cs:List Value),v=iW f cs.toArray/\(∀args w,(callFunc f args).run P w= .ok (.enter f args) w)/\Calls P f (args++cs).toArray w Q
theorem yN.mono{P:Program}{v:Value}{args:List Value}{w:World}{Q Q':Ending->World->Prop}(h:yN P v args w Q)(hq:∀e w',Q e w'->Q' e w'):yN P v args w Q':=by
 obtain⟨f,cs,h1,h2,h3⟩:=h;exact⟨f,cs,h1,h2,h3.mono hq⟩
theorem Hp.nU{w0 w:World}{A Zf R:List a8}(h:Hp w0 w (Zf++(A++R))):Hp w0 w (A++(Zf++R)):=h.perm (by
 rw[<-dg,<-dg]
 exact sE.append_right R)
section
variable{P:Program}{σ:Env}{w w':World}{dst:Option Tmp}{t ty u:TypeId}{pos:String}{bH:Array Edge}{g:Option (Nat×Bool)}{x y x1 x2:Operand}{v v1 v2:Value}{f:FuncId}{ats:Array TypeId}
theorem aby{HO:List Operand}{vs:List Value}(hf:(callFunc f vs.toArray).run P w= .ok (.value v) w')(h:HO.map (ev σ)=vs):(execOp (ev σ) ⟨dst,.call {callee:= .value (.func f),args:=HO.toArray,argTypes:=ats},ty,pos,bH,g⟩).run P w= .ok (.value v) w':=by
 subst h
 have hf':(callFunc f (HO.map (ev σ)).toArray).run P w= .ok (.value v) w':=hf
 simp[execOp,resolve,ev,Deferred.ofValue,invoke]at hf'⊢
 rw[hf']
theorem W7(hf:(callFunc f #[v1,v2]).run P w= .ok (.value v) w')(h1:ev σ x1=v1)(h2:ev σ x2=v2):(execOp (ev σ) ⟨dst,.call {callee:= .value (.func f),args:=#[x1,x2],argTypes:=ats},ty,pos,bH,g⟩).run P w= .ok (.value v) w':=by grind[aby]
theorem akE{a:Int}(h: -9223372036854775808<=a+1/\a+1<=9223372036854775807):(Op.intArith .add .i64 a 1).run P w= .ok (.int .i64 (a+1)) w:=by
 simp[Op.intArith,B5 h]
theorem OB{fn:Fn}{a c:Array Value}(d:Nat){ps rs:Array TypeId}{vr:Bool}(ht:P.underlying t=some (.func ps rs vr)):(Op.equalIn (d+1) t (.func fn a c) .nilFunc).run P w= .ok false w:=by
 simp[Op.equalIn,jG ht]
theorem Tl{fn:Fn}{a c:Array Value}{ps rs:Array TypeId}{vr:Bool}(ht:P.underlying t=some (.func ps rs vr))(hx:ev σ x= .func fn a c)(hy:ev σ y= .nilFunc):
  (execOp (ev σ) ⟨dst,.binOp .eql t x y u,ty,pos,bH,g⟩).run P w= .ok (.value (.bool false)) w:=by
 have h:(binOp .eql t (.func fn a c) .nilFunc).run P w= .ok (.bool false) w:=by
  simp only[binOp];simp[Op.equal,Op.maxDepth,OB 9999 ht]
 have he:(eqGuard .eql t x y (.func fn a c) .nilFunc)=pure ():=rfl
 simp only[execOp,hx,hy,he];simp[h]
theorem Tm{fn:Fn}{a c:Array Value}{ps rs:Array TypeId}{vr:Bool}(ht:P.underlying t=some (.func ps rs vr))(hx:ev σ x= .func fn a c)(hy:ev σ y= .nilFunc):
  (execOp (ev σ) ⟨dst,.binOp .neq t x y u,ty,pos,bH,g⟩).run P w= .ok (.value (.bool true)) w:=by
 have h:(binOp .neq t (.func fn a c) .nilFunc).run P w= .ok (.bool true) w:=by
  simp only[binOp];simp[Op.equal,Op.maxDepth,OB 9999 ht]
 have he:(eqGuard .neq t x y (.func fn a c) .nilFunc)=pure ():=rfl
 simp only[execOp,hx,hy,he];simp[h]
end
structure yO where
 kind:Int
 lv:Value
 l:List dI
 vv:Value
 v:List El
 a:El
 b:El
def akF:yO:=⟨0,.slice none 0 0,[],.slice none 0 0,[],dh,dh⟩
def aJ3(x:yO):List Value:=I x.kind::x.lv::x.vv::(sC x.a++sC x.b)
structure afV(K:Vu)(x:yO):Prop where
 ins:n7 K x.lv 10 x.l.length (x.l.flatMap jW)
 ai:n7 K x.vv 8 x.v.length (x.v.flatMap sC)
theorem afV.mono{K K':Vu}{x:yO}(h:afV K x)(hl:Le K K'):afV K' x:=⟨h.ins.mono hl,h.ai.mono hl⟩
def Tn(K:Vu)(l:List yO):Prop:=∀x∈l,afV K x
theorem Tn.mono{K K':Vu}{l:List yO}(h:Tn K l)(hl:Le K K'):Tn K' l:=fun x hx=>(h x hx).mono hl
theorem Tn.at{K:Vu}{l:List yO}(h:Tn K l){k:Int}(h0:0<=k)(h1:k<l.length):afV K (l.getD k.toNat akF):=h _ (kU (e8 (d:=akF) h0 h1))
def aJ4(g:El×Bool):List Value:=sC g.1++[B g.2]
def aJ5(d:Wr)(x:yO):El×Bool:=if x.kind=1 then(dh,cK x.a x.b)else if x.kind=2 then(oc d.tb x.a x.b,false)else fJ d.sh.sh x.l x.v
def aJ6(s:Sh)(x:yO):El×Bool:=if x.kind=1 then(dh,cK x.a x.b)else if x.kind=2 then(fh s x.a x.b,false)else fJ s x.l x.v
def afW(x:yO):Kd:=if x.kind=1 then .l else if x.kind=2 then .j else .e
def D3(n:Nat)(f:Ct):Prop:=∀m,(0<=(f m).e/\(f m).e<=n)/\(0<=(f m).l/\(f m).l<=n)/\(0<=(f m).j/\(f m).j<=n)
theorem D3.ok{n:Nat}{f:Ct}(h:D3 n f)(hn:n<=1000000000000)(m:Nat):(f m).ok:=by
 obtain⟨⟨a,b⟩,⟨c,d⟩,e,g⟩:=h m
 exact⟨⟨a,J⟩,⟨c,J⟩,e,J⟩
theorem D3.tick{n:Nat}{f:Ct}(h:D3 n f)(k:Kd)(m:Nat):D3 (n+1) (je k m f):=fun i=>by
 obtain⟨⟨a,b⟩,⟨c,d⟩,e,g⟩:=h i
 obtain⟨⟨a',b'⟩,⟨c',d'⟩,e',g'⟩:=h m
 unfold je u6
 by_cases q:i=m
 .rw[aR q]
  cases k<;>simp only[Kd.up]<;>omega
 rw[aP q];omega
def Wr.dep:Wr->Nat
 | .base _ _=>0
 | .wrap _ d=>d.dep+1
theorem D3.Y8{d:Wr}(k:Kd):∀{n:Nat} {f:Ct},D3 n f->D3 (n+d.dep) (d.tick k f):=by
 induction d with
 |base p tb=>exact fun h=>h
 |wrap m d ih=>
  intro n f h
  have:=ih (h.tick k m)
  rw[Nat.add_right_comm]at this;exact this
theorem yN.get{P:Program}{f:FuncId}{cs:List Value}{args:List Value}{w:World}{Q:Ending->World->Prop}(h:yN P (iW f cs.toArray) args w Q):Calls P f (args++cs).toArray w Q:=by
 obtain⟨g,ds,h1,-,h3⟩:=h
 injection h1 with e1 e2 e3
 injection e1 with e1
 have e4:cs=ds:=by simpa using aJ Array.toList e3
 subst e1 e4;exact h3
def apT(P:Program)(v:Value):Prop:=∃(f:FuncId) (cs:List Value),v=iW f cs.toArray/\∀args w,(callFunc f args).run P w= .ok (.enter f args) w
def aBt(x:yO):Bool:=decide (60<x.l.length)||decide (100<x.v.length)
def aBu(l:List yO):Bool:=decide (60<l.length)||l.any aBt
def kdN(x:yO):Int:=if x.kind=1\/x.kind=2 then x.kind else 0
def W8(l:List yO)(q:Int):Nat:=l.countP fun x=>decide (kdN x=q)
def ct0:Ct:=fun _=>cn0
theorem j5.nil{T:M6}:j5 T [] ct0 [] (([]++T.fr)++[]):=⟨[],rfl,rfl⟩
theorem j5.add{T:M6}{ids:List Nat}{tl:List (Nat×Rl)}{Z:List a8}{m:Nat}(h:j5 T ids ct0 tl Z):j5 T (m::ids) ct0 tl ([rD T m cn0]++Z):=by
 obtain⟨Zt,h1,rfl⟩:=h;exact⟨Zt,h1,rfl⟩
theorem j5.app{T:M6}{ids:List Nat}{f:Ct}{tl tm:List (Nat×Rl)}{Z Zt:List a8}(h:j5 T ids f tl Z)(ht:u5 T.tt tm Zt):j5 T ids f (tl++tm) (Z++Zt):=by
 obtain⟨Zs,h1,rfl⟩:=h;exact⟨Zs++Zt,h1.app ht,by rw[dg]⟩
theorem j5.blk{T:M6}{ids:List Nat}{f:Ct}{tl:List (Nat×Rl)}{Z L:List a8}{m:Nat}{w0 w:World}(h:j5 T ids f tl Z)(hm:m∈ids)(hH:Hp w0 w L)(hs:∀x,x∈Z->x∈L):
  w.heap[m]?=some (.cells #[B true,I (f m).e,I (f m).l,I (f m).j] T.auA (0,0)):=by
 obtain⟨Zt,h1,rfl⟩:=h
 exact(hH.ok _ (hs _ (dy _ (dy _ (fI.2 ⟨m,hm,rfl⟩))))).2
theorem Hp.am4{w0 w:World}{Zt Zq A Zf R:List a8}(h:Hp w0 w ((Zt++Zq)++(A++(Zf++R)))):Hp w0 w (A++((Zf++Zt)++(Zq++R))):=h.perm (by
 rw[dg,dg]
 refine((tL Zt (vh Zq A _)).trans (vh Zt A _)).trans (tL A ?_)
 refine(tL Zt (vh Zq Zf R)).trans (vh Zt Zf _))
theorem Wr.Lt{d:Wr}{ids ids':List Nat}{tl tl':List (Nat×Rl)}(h:d.DP ids tl)(h1:∀x,x∈ids->x∈ids')(h2:∀x,x∈tl->x∈tl'):d.DP ids' tl':=by
 induction d with
 |base p tb=>exact⟨h.1,fun i hi q hq=>h2 _ (h.2 i hi q hq)⟩
 |wrap m d ih=>exact⟨h1 _ h.1,ih h.2⟩
theorem D3.zero:D3 0 ct0:=fun m=>by simp[ct0,cn0]
theorem D3.clear{n:Nat}{f:Ct}(h:D3 n f)(m:Nat):D3 n (u6 f m cn0):=fun i=>by
 unfold u6
 by_cases q:i=m
 .rw[aR q];simp[cn0]
 rw[aP q];exact h i
theorem D3.mono{n k:Nat}{f:Ct}(h:D3 n f)(hk:n<=k):D3 k f:=fun m=>by
 obtain⟨⟨a,b⟩,⟨c,d⟩,e,g⟩:=h m
 exact⟨⟨a,J⟩,⟨c,J⟩,e,J⟩
def aBw:List Tx:=[⟨#[97]⟩,⟨#[98]⟩]
def exT:Sh:=⟨false,[⟨2,aBw,Rl.none⟩]⟩
def aJ7:El:=zX dh 0 1#64
def aJ8:El:=zX dh 0 2#64
def aJ9:El:=zX dh 0 3#64
theorem Hp.swz{w0 w:World}{A z Zf R:List a8}(h:Hp w0 w (A++(z++(Zf++R)))):Hp w0 w (A++(Zf++(z++R))):=h.perm (tL A (by
 rw[<-dg,<-dg]
 exact sE.append_right R))
def EZ(c:Cn)(l:List yO):Prop:=c.e=W8 l 0/\c.l=W8 l 1/\c.j=W8 l 2
theorem EZ.nil:EZ cn0 []:=⟨rfl,rfl,rfl⟩
theorem EZ.tick{f:Ct}{m:Nat}{l:List yO}{x:yO}(h:EZ (f m) l):EZ ((je (afW x) m f) m) (l++[x]):=by
 obtain⟨h1,h2,h3⟩:=h
 have e:je (afW x) m f m=(afW x).up (f m):=by unfold je u6;rw[aR O]
 have c:∀q,W8 (l++[x]) q=W8 l q+if kdN x=q then 1 else 0:=fun q=>by
  rw[W8,List.countP_append];simp[W8,List.countP_cons]
 rw[e]
 unfold EZ
 rw[c,c,c]
 unfold afW kdN
 by_cases a:x.kind=1
 .simp[a,Kd.up,h1,h2,h3]
 by_cases b:x.kind=2
 .simp[b,Kd.up,h1,h2,h3]
 simp[a,b,Kd.up,h1,h2,h3]
theorem afX{l:List yO}{k fr:Int}(h0:0<=fr)(h1:fr<=k)(h2:k<l.length):(l.take (k+1).toNat).drop fr.toNat=(l.take k.toNat).drop fr.toNat++[l.getD k.toNat akF]:=by grind[List.take_append_getElem,List.length_take,List.getElem?_eq_getElem]
theorem EZ.next{f:Ct}{m:Nat}{l:List yO}{k fr:Int}(h:EZ (f m) ((l.take k.toNat).drop fr.toNat))(h0:0<=fr)(h1:fr<=k)(h2:k<l.length):EZ ((je (afW (l.getD k.toNat akF)) m f) m) ((l.take (k+1).toNat).drop fr.toNat):=by
 rw[afX h0 h1 h2];exact h.tick
def OC(a b c:Nat)(f:Ct)(k:Int):Prop:=(f a).e=(f b).e/\(f a).l=(f b).l/\(f a).j=(f b).j/\(f c).e=2*(f a).e/\(f c).l=2*(f a).l/\(f c).j=2*(f a).j/\(f a).e+(f a).l+(f a).j=k
theorem OC.zero{a b c:Nat}:OC a b c ct0 0:=⟨rfl,rfl,rfl,rfl,rfl,rfl,rfl⟩
theorem OC.next{a b c:Nat}{f:Ct}{k:Int}(h:OC a b c f k)(hn:[c,b,a].Nodup)(q:Kd):OC a b c (je q c (je q c (je q b (je q a f)))) (k+1):=by
 simp only[mM,cT,List.not_mem_nil,AP,not_or]at hn
 obtain⟨⟨h1,h2⟩,h3,-⟩:=hn
 obtain⟨e1,e2,e3,e4,e5,e6,e7⟩:=h
 have fa:je q c (je q c (je q b (je q a f))) a=q.up (f a):=by simp[je,u6,h2,h3,DF h2,DF h3]
 have fb:je q c (je q c (je q b (je q a f))) b=q.up (f b):=by simp[je,u6,h1,h3,DF h1,DF h3]
 have fc:je q c (je q c (je q b (je q a f))) c=q.up (q.up (f c)):=by simp[je,u6,h1,h2,DF h1,DF h2]
 unfold OC
 rw[fa,fb,fc]
 cases q<;>simp only[Kd.up]<;>omega
def QF(o:Oper):List Nat:=(o.after.toList.filter fun e=>Region.binds .any e).map (·.on)
def akG(l:List Oper):Nat->List Nat->Bool
 |0,_=>true
 |i+1,s=>s.contains i&&akG l i (s++((l[i]?).map QF).getD [])
def auB(l:List Oper)(z:Oper):Bool:=
 (l.zipIdx.all fun p=>(QF p.1).all (Nat.blt · p.2)&&(p.1.guard.map fun g=>Nat.blt g.1 l.length).getD true)&&(QF z).all (Nat.blt · l.length)&&akG l l.length (QF z)
section
variable{P:Program}{n:Nat}{l:List Oper}{z:Oper}{k:K}{listed:Array Bool}
theorem akH{o:Oper}{j:Nat}:j∈QF o↔∃e∈o.after,Region.binds .any e=true/\e.on=j:=by grind[QF]
theorem rdy{md:List Oper}{j:Nat}:j∈Region.ready .any md.toArray listed↔listed.getD j true=false/\∃o,md[j]?=some o/\∀i∈QF o,listed.getD i false=true:=by
 rw[mem_ready]
 simp only[FP,akH]
 refine and_congr AV (exists_congr fun o=>and_congr AV ⟨fun h i ⟨e,h1,h2,h3⟩=>h3▸h e h1 h2,fun h e h1 h2=>h e.on ⟨e,h1,h2,rfl⟩⟩)
def E0(l:List Oper)(listed:Array Bool):Prop:=listed.size=l.length/\∀j o,l[j]?=some o->listed.getD j false=true->∀i∈QF o,listed.getD i false=true
theorem Y9(hc:E0 l listed):∀(i:Nat) (s:List Nat),akG l i s=true->(∀j∈s,listed.getD j false=true)->∀j,j<i->listed.getD j false=true
 |0,_,_,_,j,hj=>by omega
 |i+1,s,h,hs,j,hj=>by
  simp only[akG,cm,List.contains_iff_mem]at h
  have hi:=hs i h.1
  by_cases e:j=i
  .subst e;exact hi
  refine Y9 hc i _ h.2 (fun q hq=> ?_) j J
  rcases eF.1 hq with hq|hq
  .exact hs q hq
  .cases ho:l[i]? with
   |none=>rw[ho]at hq;simp at hq
   |some o=>rw[ho]at hq;exact hc.2 i o ho hi q hq
theorem kA{a:Array Bool}{i j:Nat}{d:Bool}:(a.setIfInBounds i true).getD j d=if i=j/\j<a.size then true else a.getD j d:=by
 rw[ve,CP,ve]
 by_cases e:i=j
 .subst e
  rw[aR O]
  by_cases h:i<a.size
  .rw[aR h,aR ⟨rfl,h⟩];rfl
  rw[aP h,aP fun q=>h q.2,Vh J]
 rw[aP e,aP fun q=>e q.1]
theorem mi{a:Array Bool}{b d:Bool}{j:Nat}:(a.push b).getD j d=if j=a.size then b else a.getD j d:=by
 rw[ve,Vp,ve]
 split<;>rfl
theorem W9{o:Oper}{a:Act}{k':K}{F F':Act->World->Prop}{w:World}(hF:∀a w,F a w->F' a w)(h:o.wp P a w F (qJ n k')):o.wp P a w F' (qJ n k):=by
 unfold Oper.wp at*
 generalize(execOp a.eval o).run P w=r at*
 cases r with
 |ok x w'=>
  cases x<;>simp only[Oper.upon]at h⊢
  case value=>exact hF _ _ h
  case skip=>exact hF _ _ h
  case defer=>exact hF _ _ h
  case enter=>
   refine Calls.mono h fun e w'' he=> ?_
   cases e with
   |returned v=>exact hF _ _ he
   |panicked c=>exact he
   |outgrown=>exact he
  case row=>exact Rows.mono h fun _ _ he=>hF _ _ he
 |halt x w'=>cases x<;>simp only[Oper.upon]at h⊢<;>exact h
theorem fC{id:Nat}{ops:List Oper}{xs:List (Nat×K)}{r:K}{σ:Env}{w0 w:World}{L L0:List a8}(hm:P.follows .mixedOrders=true)(hz:ops=ops.dropLast++[z])(hc:auB ops.dropLast z=true)(hH:Hp w0 w L)(hs:L0.Sublist L)
  (h:∀w',Hp w0 w' L->AN P n ops.dropLast (fun w=>Hp w0 w L0) (fun σ w=>RL P n ops.toArray k [z] σ w) ops.dropLast.length (Array.replicate ops.dropLast.length false) σ w'):CW P n (.region id ops.toArray true) k xs r σ w:=by
 intro a ha
 refine x9 (fun e a' w' hq=> ?_) (VO (id:=id) (Q:=qJ n k) hm ?_)
 .cases e with
  |normal=>exact hq
  |exit id=>exact hq.elim
  |ret=>exact hq.elim
  |goto l=>exact hq.elim
  |panic c=>exact hq.elim
  |outgrown=>exact hq.elim
 have h1:=VP _ _ _ _ (h _ hH.drew a ha)
 generalize hl:ops.dropLast=l at*
 simp only[auB,cm,iq]at hc
 obtain⟨⟨c1,c2⟩,c3⟩:=hc
 have gl:∀{j o},l[j]?=some o->(∀i∈QF o,i<j)/\∀g,o.guard=some g->g.1<l.length:=fun{j o} ho=>by
  have hmem:(o,j)∈l.zipIdx:=by
   rw[Vk];exact⟨j,by simp[ho]⟩
  have:=c1 _ hmem
  refine⟨fun i hi=>by simpa using this.1 i hi,fun g hg=> ?_⟩
  have h2:=this.2
  rw[hg]at h2
  simpa using h2
 have get:∀{j},j<l.length->ops[j]?=l[j]?:=fun{j} hj=>by rw[hz,xS hj]
 have apV:ops[l.length]?=some z:=by rw[hz,Az (eI _),JO];rfl
 have hlen:ops.length=l.length+1:=by rw[hz];simp
 have key:∀(fuel:Nat) (fZ:Array Bool) (a:Act) (w:World),E0 l fZ->wpAny P .any l.toArray (qJ n fun σ w=>RL P n ops.toArray k [z] σ w) fuel fZ a w->wpAny P .any ops.toArray (qJ n k) (fuel+1) (fZ.push false) a w:=by
  intro fuel
  have last:∀(fuel:Nat) (fZ:Array Bool) (a:Act) (w:World),E0 l fZ->(∀j,j<l.length->fZ.getD j false=true)->qJ n (fun σ w=>RL P n ops.toArray k [z] σ w) .normal a w->wpAny P .any ops.toArray (qJ n k) (fuel+1) (fZ.push false) a w:=by
   intro fuel fZ a w n8 hall hr
   have hsz:=n8.1
   refine⟨fun he=> ?_,fun i hi=> ?_⟩
   .have:l.length∈Region.ready .any ops.toArray (fZ.push false):=by
     rw[rdy]
     refine⟨by rw[mi,hsz,aR O],z,apV,fun i hi=> ?_⟩
     have hi2:i<l.length:=by simpa using c2 i hi
     rw[mi,aP J]
     exact hall i hi2
    rw[he]at this;cases this
   rw[rdy]at hi
   obtain⟨h0,o,ho,_⟩:=hi
   have hio:i=l.length:=by
    by_cases e:i=l.length
    .exact e
    have hlt:i<ops.length:=(mC.1 ho).1
    have aBx:i<l.length:=J
    rw[mi,aP J]at h0
    have h3:=hall i aBx
    rw[ve]at h0 h3
    cases hq:fZ[i]? with
    |none=>rw[hq]at h3;cases h3
    |some b=>rw[hq]at h0 h3;cases b<;>simp_all
   subst hio
   obtain⟨σ',hi',hrl⟩:=hr
   have:=hrl a hi'
   unfold wpOp
   rw[FP,apV]
   simp only[wpList]at this
   show(if Region.wanted z (yielded ops.toArray a.tmps)=true then _ else _)
   have done:∀a w,qJ n k .normal a w->wpAny P .any ops.toArray (qJ n k) fuel ((fZ.push false).setIfInBounds l.length true) a w:=fun a w hq=>by
    have he:Region.ready .any ops.toArray ((fZ.push false).setIfInBounds l.length true)=[]:=by
     rw[Pj]
     intro j hj
     rw[rdy]at hj
     obtain⟨h0,o,ho,_⟩:=hj
     have hlt:j<ops.length:=(mC.1 ho).1
     rw[kA,mi]at h0
     by_cases e:l.length=j
     .rw[aR ⟨e,by rw[Array.size_push];omega⟩]at h0;cases h0
     rw[aP fun q=>e q.1,aP J]at h0
     have h3:=hall j J
     rw[ve]at h0 h3
     cases hq:fZ[j]? with
     |none=>rw[hq]at h3;cases h3
     |some b=>rw[hq]at h0 h3;cases b<;>simp_all
    cases fuel with
    |zero=>exact⟨he,hq⟩
    |succ f=>exact⟨fun _=>hq,fun i hi=>by rw[he]at hi;cases hi⟩
   split
   .rename_i hw
    rw[aR hw]at this
    refine this.imp (fun q=>Oper.wp_mono (fun a w h=>done a w h) q) fun q=>q
   rename_i hw
   rw[aP hw]at this
   exact done _ _ this
  have fin:∀(fZ:Array Bool),E0 l fZ->Region.ready .any l.toArray fZ=[]->∀j,j<l.length->fZ.getD j false=true:=by
   intro fZ n8 he j
   induction j using Nat.strongRecOn with
   |_ j ih=>
    intro hj
    cases hq:fZ.getD j false with
    |true=>rfl
    |false=>
     have hmem:j∈Region.ready .any l.toArray fZ:=by
      rw[rdy]
      refine⟨?_,l[j],dO hj,fun i hi=> ?_⟩
      .rw[ve,ac5 (by rw[n8.1];exact hj)]at hq⊢;exact hq
      have:=(gl (dO hj)).1 i hi
      exact ih i this J
     rw[he]at hmem;cases hmem
  induction fuel with
  |zero=>intro fZ a w n8 hw;exact last 0 fZ a w n8 (fin fZ n8 hw.1) hw.2
  |succ fuel ih=>
   intro fZ a w n8 hw
   have hsz:=n8.1
   by_cases he:Region.ready .any l.toArray fZ=[]
   .exact last _ fZ a w n8 (fin fZ n8 he) (hw.1 he)
   refine⟨fun hn=> ?_,fun i hi=> ?_⟩
   .refine absurd (Pj.2 fun j hj=> ?_) he
    have:j∈Region.ready .any ops.toArray (fZ.push false):=by
     rw[rdy]at hj⊢
     obtain⟨h0,o,ho,hall⟩:=hj
     have hj2:j<l.length:=(mC.1 ho).1
     refine⟨by rw[mi,aP J];exact h0,o,by rw[get hj2];exact ho,fun i hi=> ?_⟩
     have:=(gl ho).1 i hi
     rw[mi,aP J];exact hall i hi
    rw[hn]at this;cases this
   rw[rdy]at hi
   obtain⟨h0,o,ho,hall⟩:=hi
   have hlt:i<ops.length:=(mC.1 ho).1
   by_cases e:i=l.length
   ·
    exfalso
    subst e
    rw[apV]at ho
    injection ho with ho
    subst ho
    have auC:∀j,j<l.length->fZ.getD j false=true:=Y9 n8 l.length _ c3 fun j hj=>by
     have h3:=hall j hj
     have hj2:j<l.length:=by simpa using c2 j hj
     rw[mi,aP J]at h3;exact h3
    refine he (Pj.2 fun j hj=> ?_)
    rw[rdy]at hj
    obtain⟨g0,o,go,_⟩:=hj
    have hj2:j<l.length:=(mC.1 go).1
    have h3:=auC j hj2
    rw[ve]at g0 h3
    cases hq:fZ[j]? with
    |none=>rw[hq]at h3;cases h3
    |some b=>rw[hq]at g0 h3;cases b<;>simp_all
   have hi2:i<l.length:=J
   rw[get hi2]at ho
   have hrd:i∈Region.ready .any l.toArray fZ:=by
    rw[rdy]
    refine⟨by rw[mi,aP J]at h0;exact h0,o,ho,fun j hj=> ?_⟩
    have:=(gl ho).1 j hj
    have h3:=hall j hj
    rw[mi,aP J]at h3;exact h3
   have hop:=hw.2 i hrd
   have akI:E0 l (fZ.setIfInBounds i true):=by
    refine⟨by rw[Vf];exact hsz,fun j p hp hj q hq=> ?_⟩
    rw[kA]at hj⊢
    by_cases e2:i=q/\q<fZ.size
    .rw[aR e2]
    rw[aP e2]
    by_cases e3:i=j
    .subst e3
     rw[ho]at hp;injection hp with hp;subst hp
     have:=(gl ho).1 q hq
     have h3:=hall q hq
     rw[mi,aP J]at h3;exact h3
    rw[aP fun c=>e3 c.1]at hj
    exact n8.2 j p hp hj q hq
   have am6:(fZ.push false).setIfInBounds i true=(fZ.setIfInBounds i true).push false:=by
    apply Vt
    intro j
    rw[CP,Vp,Vp,CP,Vf,Array.size_push]
    by_cases e2:i=j
    .subst e2;rw[aR O,aR J,aP J,aR O,aR J]
    rw[aP e2,aP e2]
   have hgd:Region.wanted o (yielded ops.toArray a.tmps)=Region.wanted o (yielded l.toArray a.tmps):=by
    unfold Region.wanted
    cases hg:o.guard with
    |none=>rfl
    |some g=>
     obtain⟨gi,gw⟩:=g
     have:=(gl ho).2 _ hg
     simp only[yielded,FP]
     rw[get this]
   unfold wpOp at hop⊢
   rw[FP]at hop⊢
   rw[get hi2]
   rw[ho]at hop⊢
   simp only[hgd]at*
   split
   .rename_i hwn
    rw[aR hwn]at hop
    rcases hop with hop|hop
    .refine .inl (W9 (fun a w hq=> ?_) hop)
     rw[am6];exact ih _ a w akI hq
    exact .inr ⟨hop.1,hop.2⟩
   rename_i hwn
   rw[aP hwn]at hop
   rw[am6];exact ih _ _ w akI hop
 have auD:=key l.length (Array.replicate l.length false) a _ ⟨aA,fun j o _ hj=>by
  rw[ve,ac6]at hj
  split at hj<;>cases hj⟩ h1
 rw[show(Array.replicate l.length false).push false=Array.replicate (l.length+1) false by rw[<-Array.replicate_succ],<-hlen]at auD
 simpa using auD
end
end
end Go.Proofs.YtlhjdflgjbkpmaaGreatDoor.E
namespace Go.Proofs.YtlhjdflgjbkpmaaGreatDoor.M
section
open Go
def G3(n:Nat)(cl:List Nat)(i j:Int):Prop:=(0<=i/\i<n)/\(0<=j/\j<n)/\bV cl i.toNat≠bV cl j.toNat
structure UnP(nd:List pB)(cl:List Nat)(i j:Int)(a b:Nat):Prop where
 ok:G3 nd.length cl i j
 ha:a<nd.length
 hb:b<nd.length
 ab:a≠b
 ua:rA nd a=a
 ub:rA nd b=b
 c:bV cl a=bV cl i.toNat/\bV cl b=bV cl j.toNat\/bV cl a=bV cl j.toNat/\bV cl b=bV cl i.toNat
section
variable{nd:List pB}{cl:List Nat}{i j:Int}{a b:Nat}
theorem To(h:Fo nd cl)(hi:0<=i/\i<nd.length)(hj:0<=j/\j<nd.length)(hne:((nT nd cl i.toNat:Nat):Int)≠(nT nd cl j.toNat:Nat)):UnP nd cl i j (nT nd cl i.toNat) (nT nd cl j.toNat):=by
 obtain⟨a1,a2,a3⟩:=ow h (i:=i.toNat) J
 obtain⟨b1,b2,b3⟩:=ow h (i:=j.toNat) J
 have hab:nT nd cl i.toNat≠nT nd cl j.toNat:=fun e=>hne (aJ _ e)
 exact⟨⟨hi,hj,fun e=>hab ((Ou h a1 b1 a2 b2 a3 b3).2 e)⟩,a1,b1,hab,a2,b2,.inl ⟨a3,b3⟩⟩
theorem UnP.swap(h:UnP nd cl i j a b):UnP nd cl i j b a:=by grind[UnP]
theorem apW(h:¬(0<=i/\i<nd.length)):¬G3 nd.length cl i j:=fun q=>h q.1
theorem apX(h:¬(0<=j/\j<nd.length)):¬G3 nd.length cl i j:=fun q=>h q.2.1
theorem apY(h:Fo nd cl)(hi:0<=i/\i<nd.length)(hj:0<=j/\j<nd.length)(e:((nT nd cl i.toNat:Nat):Int)=(nT nd cl j.toNat:Nat)):¬G3 nd.length cl i j:=fun q=>q.2.2 (by
 obtain⟨a1,a2,a3⟩:=ow h (i:=i.toNat) J
 obtain⟨b1,b2,b3⟩:=ow h (i:=j.toNat) J
 exact(Ou h a1 b1 a2 b2 a3 b3).1 J)
theorem am8{v:Nat}(h:a<nd.length)(e:jZ nd a=v)(hv:v<=1000000):((bx nd).getD (4*(a:Int)+1).toNat 0).toInt=(v:Int):=QB ⟨J,J⟩ ((auu h).trans (by rw[e])) hv
theorem am9{v:Nat}(h:a<nd.length)(e:r9 nd a=v)(hv:v<=1000000):((bx nd).getD (4*(a:Int)+2).toNat 0).toInt=(v:Int):=QB ⟨J,J⟩ ((amX h).trans (by rw[e])) hv
theorem ana{v:Nat}(h:a<nd.length)(e:pR nd a=v)(hv:v<=1000000):((bx nd).getD (4*(a:Int)+3).toNat 0).toInt=(v:Int):=QB ⟨J,J⟩ ((amY h).trans (by rw[e])) hv
theorem Fo.small(h:Fo nd cl)(ha:a<nd.length):jZ nd a<=nd.length/\r9 nd a<=nd.length:=⟨h.sn a ha,by obtain⟨_,_,t,_,q⟩:=h.szb ha;omega⟩
theorem Fo.afY(h:Fo nd cl)(ha:a<nd.length)(hu:rA nd a=a):pR nd a<=nd.length:=by grind[Fo,rA,pR]
theorem auE(h:Fo nd cl)(p:UnP nd cl i j a b):Fo (oz nd a b) (gT cl (bV cl i.toNat) (bV cl j.toNat))/\leads (gT cl (bV cl i.toNat) (bV cl j.toNat))+1=leads cl:=by
 have h1:=h.join p.ha p.hb p.ab p.ua p.ub
 have h2:=WW h p.ha p.hb p.ab p.ua p.ub
 rcases p.c with⟨e1,e2⟩|⟨e1,e2⟩
 .rw[e1,e2]at h1 h2;exact⟨h1,h2⟩
 rw[e1,e2,WX]at h1 h2;exact⟨h1,h2⟩
theorem G4{x y:Nat}:(gT cl x y).length=cl.length:=by simp[gT]
end
theorem apZ{W:List (BitVec 64)}{us:List jh}{tn:List Nat}{cs:List (List Nat)}(h:Hs W us tn cs)(hk:0<tn.length):∃t Za cl c2 cs2,tn=t::Za/\cs=cl::c2::cs2:=by
 cases tn with
 |nil=>simp at hk
 |cons t Za=>
  cases cs with
  |nil=>exact h.elim
  |cons cl cs=>
   cases cs with
   |nil=>exact h.elim
   |cons c2 cs2=>exact⟨t,Za,cl,c2,cs2,rfl,rfl⟩
def Iw(tn:List Nat):List Int:=tn.reverse.map Int.ofNat
theorem vJ(tn:List Nat):(Iw tn).length=tn.length:=by simp[Iw]
theorem E1(t:Nat)(tn:List Nat):Iw (t::tn)=Iw tn++[(t:Int)]:=by simp[Iw]
theorem ap0{t:Nat}{tn:List Nat}{k:Int}(h:k=(tn.length:Int)):((Iw (t::tn)).map E.I)[k.toNat*1]?=some (E.I t):=by grind[E1,vJ]
theorem Tp{t:Nat}{tn:List Nat}:((Iw (t::tn)).map E.I).take (tn.length*1)=(Iw tn).map E.I:=by grind[E1,vJ]
theorem akJ{W:List (BitVec 64)}{us:List jh}{t:Nat}{tn:List Nat}{cl c2:List Nat}{cs:List (List Nat)}(h:Hs W us (t::tn) (cl::c2::cs)):∃nd nd2,W=bx nd/\Fo nd cl/\iT W us t=bx nd2/\Fo nd2 c2/\Hs (bx nd2) (us.take t) tn (c2::cs):=by
 obtain⟨nd,h1,h2⟩:=h.now
 obtain⟨nd2,h3,h4⟩:=h.back.now
 have:=h.back
 rw[h3]at this
 exact⟨nd,nd2,h1,h2,h3,h4,this⟩
theorem Lu(cl:List Nat):leads cl<=cl.length:=by grind[leads,bV]
theorem Hs.Xa{W:List (BitVec 64)}{us:List jh}{tn:List Nat}{cs:List (List Nat)}{cl:List Nat}(h:Hs W us tn (cl::cs)):cl.length<=tn.length:=by
 induction tn generalizing W us cl cs with
 |nil=>
  cases cs with
  |nil=>obtain⟨_,rfl,_⟩:=h;simp
  |cons c cs=>exact h.elim
 |cons t tn ih=>
  cases cs with
  |nil=>exact h.elim
  |cons c2 cs=>
   have h1:=ih h.back
   have h2:=h.cnt
   unfold EW at h2
   simp only[eE];omega
structure E2(ul lB:List (Value×jh))(tn HY:List Nat)(cs D4:List (List Nat))(W1:List (BitVec 64)):Prop where
 hs:Hs W1 (lB.map Prod.snd) HY D4
 ok:Ln W1.length (lB.map Prod.snd)
 sub:∀x∈lB,x∈ul
 le:lB.length<=ul.length
 cs:D4=cs.drop (tn.length-HY.length)
 tn:HY.length<=tn.length
section
variable{ul lB:List (Value×jh)}{tn HY:List Nat}{cs D4:List (List Nat)}{W1:List (BitVec 64)}
theorem E2.start(h:Hs W1 (ul.map Prod.snd) tn cs)(hok:Ln W1.length (ul.map Prod.snd)):E2 ul ul tn tn cs cs W1:=by grind[Hs,Ln,E2]
theorem E2.next{t:Nat}{cl c2:List Nat}{cs2:List (List Nat)}{nd2:List pB}(h:E2 ul lB tn (t::HY) cs (cl::c2::cs2) W1)(e:iT W1 (lB.map Prod.snd) t=bx nd2):E2 ul (lB.take t) tn HY cs (c2::cs2) (bx nd2):=by
 have ht:=h.hs.le
 rw[fx]at ht
 have hb:=h.hs.back
 rw[e,<-AI]at hb
 have ho:=S7 h.ok (t:=t) (by rw[fx];exact ht)
 rw[e,<-AI]at ho
 have hn:=h.tn
 rw[eE]at hn
 refine⟨hb,ho,fun x hx=>h.sub x (AA hx),by rw[eD];have:=h.le;omega,?_,J⟩
 have hc:=h.cs
 rw[eE]at hc
 rw[show tn.length-HY.length=tn.length-(HY.length+1)+1 by omega,<-PE,<-hc];rfl
end
end
end Go.Proofs.YtlhjdflgjbkpmaaGreatDoor.M
namespace Go.Proofs.YtlhjdflgjbkpmaaGreatDoor.E
section
open Go Go.RowKit Go.Proofs.YtlhjdflgjbkpmaaGreatDoor.M
theorem Hp.akK{w0 w:World}{L:List a8}{v:Value}{e:TypeId}{sz n m i:Nat}{xs:List Value}(h:Hp w0 w L)(hi:L[i]?=some (.row v e sz n xs))(hm:m<=n):Hp w0 w (L.set i (.row (uW v m) e sz m (xs.take (m*sz)))):=by
 have hr:w.ownsRow w0.heap.size e sz v n xs:=h.get hi
 obtain⟨h1,h2⟩:=hr
 have hle:m*sz<=n*sz:=qH _ hm
 rcases h2 with⟨rfl,rfl⟩|⟨gb,cap,cur,rfl,hb,hg,hn,hc,hs,ht⟩
 .have:m=0:=J
  subst this
  refine h.vI hi O ⟨aA,.inl ⟨rfl,rfl⟩⟩
 refine h.vI hi O ⟨by rw[eD,h1];omega,.inr ⟨gb,cap,cur,rfl,hb,hg,J,hc,hs,?_⟩⟩
 rw[<-ht,AF];congr 1;omega
end
end Go.Proofs.YtlhjdflgjbkpmaaGreatDoor.E
namespace Go.Proofs.YtlhjdflgjbkpmaaGreatDoor.M
section
open Go
def bg(cs:List (List Nat)):List Nat:=cs.headD []
def QG(cs:List (List Nat)):List (List Nat):=(bg cs++[(bg cs).length])::cs
def iK(cs:List (List Nat))(i j:Int):List (List Nat)×Bool:=
 if eW (bg cs) i<0\/eW (bg cs) j<0\/eW (bg cs) i=eW (bg cs) j then(cs,false)
 else(gT (bg cs) (eW (bg cs) i).toNat (eW (bg cs) j).toNat::cs,true)
def Bl(cs:List (List Nat))(m:Int):List (List Nat)×Bool:=
 if(cs.length:Int)-1<m then(cs,false)else(cs.drop (cs.length-1-(max 0 m).toNat),true)
theorem abz{cl:List Nat}{i:Int}:eW cl i<0↔¬(0<=i/\i<cl.length):=by grind[eW]
theorem G5{cs:List (List Nat)}{i j:Int}(h:G3 (bg cs).length (bg cs) i j):iK cs i j=(gT (bg cs) (bV (bg cs) i.toNat) (bV (bg cs) j.toNat)::cs,true):=by grind[G3,bg,iK,gT,bV,l7]
theorem Lv{cs:List (List Nat)}{i j:Int}(h:¬G3 (bg cs).length (bg cs) i j):iK cs i j=(cs,false):=by grind[G3,bg,iK,l7,abz]
end
end Go.Proofs.YtlhjdflgjbkpmaaGreatDoor.M
namespace Go.Proofs.YtlhjdflgjbkpmaaGreatDoor.E
section
open Go Go.RowKit Go.Proofs.YtlhjdflgjbkpmaaGreatDoor.M
structure FTy where
 ut:UT
 tf:TypeId
 tu:TypeId
 tfn:TypeId
 ti:TypeId
structure FoI(T:FTy)(F m:Nat)(cs:List (List Nat))(vW vU vT:Value)(cW cU:Option (Nat×Array Value))(W:List (BitVec 64))(ul:List (Value×jh))(tn:List Nat)(Lb:List a8):Prop where
 hW:cO cW vW (W.map U)
 hU:cO cU vU (ul.map Prod.fst)
 hs:Hs W (ul.map Prod.snd) tn cs
 ok:Ln W.length (ul.map Prod.snd)
 un:∀x∈ul,oA T.ut F Lb x
 lu:ul.length<=5*m
 lt:tn.length<=m
def foL(T:FTy)(F:Nat)(cs:List (List Nat))(vW vU vT:Value)(cW cU:Option (Nat×Array Value))(W:List (BitVec 64))(ul:List (Value×jh))(tn:List Nat)(Lb:List a8):List a8:=
 .blk F (.cells #[vW,vU,vT,I ((leads (bg cs):Nat):Int)] T.tf (0,0))::cE cW vW T.tu (W.map U)::cE cU vU T.tfn (ul.map Prod.fst):: .row vT T.ti 1 tn.length ((Iw tn).map I)::Lb
def FoZ(T:FTy)(F m:Nat)(cs:List (List Nat))(Z:List a8):Prop:=
 ∃(vW vU vT:Value) (cW cU:Option (Nat×Array Value)) (W:List (BitVec 64)) (ul:List (Value×jh)) (tn:List Nat) (Lb:List a8),Z=foL T F cs vW vU vT cW cU W ul tn Lb/\FoI T F m cs vW vU vT cW cU W ul tn Lb
theorem FoZ.more{T:FTy}{F m m':Nat}{cs:List (List Nat)}{Z:List a8}(h:FoZ T F m cs Z)(hm:m<=m'):FoZ T F m' cs Z:=by
 obtain⟨vW,vU,vT,cW,cU,W,ul,tn,Lb,e,i⟩:=h
 exact⟨vW,vU,vT,cW,cU,W,ul,tn,Lb,e,i.hW,i.hU,i.hs,i.ok,i.un,by have:=i.lu;omega,by have:=i.lt;omega⟩
theorem FoI.now{T:FTy}{F m:Nat}{cs:List (List Nat)}{vW vU vT:Value}{cW cU:Option (Nat×Array Value)}{W:List (BitVec 64)}{ul:List (Value×jh)}{tn:List Nat}{Lb:List a8}(h:FoI T F m cs vW vU vT cW cU W ul tn Lb):
  ∃nd cl zx,cs=cl::zx/\W=bx nd/\Fo nd cl/\nd.length=cl.length/\cl.length<=m/\tn.length+1=cs.length/\leads cl<=m:=by
 cases cs with
 |nil=>exact h.hs.ne.elim
 |cons cl zx=>
  obtain⟨nd,h1,h2⟩:=h.hs.now
  have h3:=h.hs.Xa;have h4:=h.lt;have h5:=Lu cl;have h6:=h.hs.len
  exact⟨nd,cl,zx,rfl,h1,h2,h2.len.symm,J,J,J⟩
theorem FoZ.new{T:FTy}{F:Nat}:FoZ T F 0 [[]] [.blk F (.cells #[.slice none 0 0,.slice none 0 0,.slice none 0 0,I 0] T.tf (0,0)),.row (.slice none 0 0) T.tu 1 0 [],.row (.slice none 0 0) T.tfn 1 0 [],.row (.slice none 0 0) T.ti 1 0 []]:=by
 refine⟨.slice none 0 0,.slice none 0 0,.slice none 0 0,none,none,[],[],[],[],rfl,trivial,trivial,Hs.start,trivial,fun x hx=>(by cases hx),aA,aA⟩
section
variable{α:Type}{f:α->Value}{cl:α->List Value}{l:List α}{a:α}
theorem af0{k:Nat}(hk:k<l.length):rq (l.map f) (k*1) [f a]=(l.set k a).map f:=by simp_all[Bi]
theorem G6{sz:Nat}(hsz:∀a,(cl a).length=sz):∀{l:List α} {k:Nat},k<l.length->rq (l.flatMap cl) (k*sz) (cl a)=(l.set k a).flatMap cl
 |[],k,h=>by simp at h
 |b::l,0,h=>by
  simp only[rq,PK,we,dZ,gA,s0,ij,hsz]
  rw[Jr (by rw[hsz];exact eI _),Jw (by rw[hsz];exact eI _),dZ]
 |b::l,k+1,h=>by
  have ih:=G6 hsz (l:=l) (k:=k) wx
  have hb:=hsz b
  simp only[rq,hsz,s0,kf]at ih⊢
  rw[<-ih,show(k+1)*sz=(cl b).length+k*sz by rw[hb,kE];omega,Vb,show(cl b).length+k*sz+sz=(cl b).length+(k*sz+sz)by omega,List.drop_length_add_append,dg,dg,dg]
theorem OD{sz:Nat}(hsz:∀a,(cl a).length=sz):∀{l:List α} {m:Nat},m<=l.length->(l.flatMap cl).take (m*sz)=(l.take m).flatMap cl
 |l,0,h=>by simp
 |[],m+1,h=>by simp at h
 |b::l,m+1,h=>by
  have ih:=OD hsz (l:=l) (m:=m) wx
  have hb:=hsz b
  rw[s0,FM,s0,<-ih,show(m+1)*sz=(cl b).length+m*sz by rw[hb,kE];omega,Vb]
end
section
variable{P:Program}{n:Nat}{ops:Array Oper}{k:K}{rest lo:List Oper}{σ:Env}{w0 w:World}{L L':List a8}{ty t e:TypeId}{pos:String}{bH:Array Edge}{d:Nat}{x y:Operand}{g:Option (Nat×Bool)}{v u:Value}{sz m i fuel j:Nat}{q:Int}{dst:Option Tmp}{listed:Array Bool}
variable{α:Type}{f:α->Value}{cl:α->List Value}{l:List α}{a:α}
abbrev jf(f:α->Value)(v:Value)(e:TypeId)(l:List α):a8:= .row v e 1 l.length (l.map f)
abbrev uD(cl:α->List Value)(sz:Nat)(v:Value)(e:TypeId)(l:List α):a8:= .row v e sz l.length (l.flatMap cl)
theorem Zb(hH:Hp w0 w L)(hi:L[i]?=some (jf f v e l))(hk:0<=q/\q<l.length)(hx:ev σ x= .pointer (some ⟨sb v,so v+q.toNat*1,none⟩))(hy:ev σ y=f a)(hv:(f a).cells=#[f a])(h1:(f a).oneCell'=true)(hs:(P.info? t).map (·.size)=some 1):
  ∃w',(execOp (ev σ) ⟨dst,.store t x y,ty,pos,bH,g⟩).run P w= .ok .skip w'/\Hp w0 w' (L.set i (jf f v e (l.set q.toNat a))):=by
 obtain⟨w',hr,h2⟩:=EU (dst:=dst) (ty:=ty) (pos:=pos) (bH:=bH) (g:=g) hH hi J hx hy hv h1 hs J
 rw[af0 J]at h2
 exact⟨w',hr,by unfold jf;rw[mD];exact h2⟩
theorem qe(hH:Hp w0 w L)(hi:L[i]?=some (jf f v e l))(hk:0<=q/\q<l.length)(hx:ev σ x= .pointer (some ⟨sb v,so v+q.toNat*1,none⟩))(hy:ev σ y=f a)(hv:(f a).cells=#[f a])(h1:(f a).oneCell'=true)(hs:(P.info? t).map (·.size)=some 1)
  (hn:∀w',Hp w0 w' (L.set i (jf f v e (l.set q.toNat a)))->RL P n ops k rest σ w'):RL P n ops k (⟨none,.store t x y,ty,pos,bH,none⟩::rest) σ w:=by
 obtain⟨w',hr,h2⟩:=Zb (dst:=none) (ty:=ty) (pos:=pos) (bH:=bH) (g:=none) hH hi hk hx hy hv h1 hs
 exact J4 hr (hn w' h2)
theorem Xb(hj:lo[j]?=some ⟨none,.store t x y,ty,pos,bH,g⟩)(hg:∀a,Is n σ a->Region.wanted ⟨none,.store t x y,ty,pos,bH,g⟩ (yielded lo.toArray a.tmps)=true)(hH:Hp w0 w L)(hi:L[i]?=some (jf f v e l))(hsub:∀r,L'.Sublist (L.set i r))(hk:0<=q/\q<l.length)
  (hx:ev σ x= .pointer (some ⟨sb v,so v+q.toNat*1,none⟩)) (hy:ev σ y=f a) (hv:(f a).cells=#[f a]) (h1:(f a).oneCell'=true) (hs:(P.info? t).map (·.size)=some 1)
  (hn:∀w',Hp w0 w' (L.set i (jf f v e (l.set q.toNat a)))->AN P n lo (fun w=>Hp w0 w L') k fuel (listed.setIfInBounds j true) σ w'):AO P n lo (fun w=>Hp w0 w L') k fuel listed σ w j:=by
 obtain⟨w',hr,h2⟩:=Zb (dst:=none) (ty:=ty) (pos:=pos) (bH:=bH) (g:=g) hH hi hk hx hy hv h1 hs
 exact Kf hj hg hr (h2.sub (hsub _)) (hn w' h2)
theorem Zd(hsz:∀a,(cl a).length=sz)(hpos:0<sz)(hH:Hp w0 w L)(hi:L[i]?=some (uD cl sz v e l))(hk:0<=q/\q<l.length)(hx:ev σ x= .pointer (some ⟨sb v,so v+q.toNat*sz,none⟩))(hy:ev σ y= .agg (cl a).toArray)(h1:∀u∈cl a,u.oneCell'=true)(hs:(P.info? t).map (·.size)=some sz):
  ∃w',(execOp (ev σ) ⟨dst,.store t x y,ty,pos,bH,g⟩).run P w= .ok .skip w'/\Hp w0 w' (L.set i (uD cl sz v e (l.set q.toNat a))):=by
 obtain⟨w',hr,h2⟩:=apo (dst:=dst) (ty:=ty) (pos:=pos) (bH:=bH) (g:=g) hH hi J hx hy h1 (by rw[hsz];exact hs) (by
  rw[hsz]
  have:(q.toNat+1)*sz<=l.length*sz:=qH _ J
  rw[kE]at this;omega)
 rw[G6 hsz J]at h2
 exact⟨w',hr,by unfold uD;rw[mD];exact h2⟩
theorem aBy(hsz:∀a,(cl a).length=sz)(hpos:0<sz)(hH:Hp w0 w L)(hi:L[i]?=some (uD cl sz v e l))(hk:0<=q/\q<l.length)(hx:ev σ x= .pointer (some ⟨sb v,so v+q.toNat*sz,none⟩))(hy:ev σ y= .agg (cl a).toArray)(h1:∀u∈cl a,u.oneCell'=true)(hs:(P.info? t).map (·.size)=some sz)
  (hn:∀w',Hp w0 w' (L.set i (uD cl sz v e (l.set q.toNat a)))->RL P n ops k rest σ w'):RL P n ops k (⟨none,.store t x y,ty,pos,bH,none⟩::rest) σ w:=by
 obtain⟨w',hr,h2⟩:=Zd (dst:=none) (ty:=ty) (pos:=pos) (bH:=bH) (g:=none) hsz hpos hH hi hk hx hy h1 hs
 exact J4 hr (hn w' h2)
theorem Xc(hj:lo[j]?=some ⟨none,.store t x y,ty,pos,bH,g⟩)(hg:∀a,Is n σ a->Region.wanted ⟨none,.store t x y,ty,pos,bH,g⟩ (yielded lo.toArray a.tmps)=true)(hsz:∀a,(cl a).length=sz)(hpos:0<sz)(hH:Hp w0 w L)(hi:L[i]?=some (uD cl sz v e l))(hsub:∀r,L'.Sublist (L.set i r))(hk:0<=q/\q<l.length)
  (hx:ev σ x= .pointer (some ⟨sb v,so v+q.toNat*sz,none⟩)) (hy:ev σ y= .agg (cl a).toArray) (h1:∀u∈cl a,u.oneCell'=true) (hs:(P.info? t).map (·.size)=some sz)
  (hn:∀w',Hp w0 w' (L.set i (uD cl sz v e (l.set q.toNat a)))->AN P n lo (fun w=>Hp w0 w L') k fuel (listed.setIfInBounds j true) σ w'):AO P n lo (fun w=>Hp w0 w L') k fuel listed σ w j:=by
 obtain⟨w',hr,h2⟩:=Zd (dst:=none) (ty:=ty) (pos:=pos) (bH:=bH) (g:=g) hsz hpos hH hi hk hx hy h1 hs
 exact Kf hj hg hr (h2.sub (hsub _)) (hn w' h2)
theorem akL{off:Nat}{b:α}(hsz:∀a,(cl a).length=sz)(hH:Hp w0 w L)(hi:L[i]?=some (uD cl sz v e l))(hk:0<=q/\q<l.length)(hx:ev σ x= .pointer (some ⟨sb v,so v+q.toNat*sz+off,none⟩))(hy:ev σ y=u)(hv:u.cells=#[u])(h1:u.oneCell'=true)(hs:(P.info? t).map (·.size)=some 1)
  (ho:off<sz) (hb:cl b=(cl (l.getD q.toNat a)).set off u):
  ∃w',(execOp (ev σ) ⟨dst,.store t x y,ty,pos,bH,g⟩).run P w= .ok .skip w'/\Hp w0 w' (L.set i (uD cl sz v e (l.set q.toNat b))):=by
 have hle:(q.toNat+1)*sz<=l.length*sz:=qH _ J
 rw[kE]at hle
 obtain⟨w',hr,h2⟩:=EU (dst:=dst) (ty:=ty) (pos:=pos) (bH:=bH) (g:=g) (o:=q.toNat*sz+off) hH hi J (by rw[hx,xZ]) hy hv h1 hs J
 have e1:rq (l.flatMap cl) (q.toNat*sz+off) [u]=rq (l.flatMap cl) (q.toNat*sz) (cl b):=by
  rw[Bi (by rw[eV hsz];omega)]
  apply sF
  intro p
  have hg:=fun j c h=>flat_get hsz l q.toNat (l.getD q.toNat a) (e8 hk.1 hk.2) j c h
  rw[tO,eV hsz]
  have lb:=hsz b
  unfold rq
  by_cases h1:p<q.toNat*sz
  .rw[aP J,dg,xS (by rw[eD,eV hsz];omega),tM,aR h1]
  by_cases h2:p<q.toNat*sz+sz
  .rw[dg,Az (by rw[eD,eV hsz];omega),eD,eV hsz,qI J,xS J,hb,tO,hsz]
   by_cases h3:q.toNat*sz+off=p
   .rw[aR h3,aR J,aR J,aR J]
   rw[aP h3,aP J]
   have hl:p-q.toNat*sz<(cl (l.getD q.toNat a)).length:=by rw[hsz];omega
   have:=hg (p-q.toNat*sz) _ (dO hl)
   rw[show q.toNat*sz+(p-q.toNat*sz)=p by omega]at this
   rw[this,dO hl]
  rw[aP J,Az (by simp only[cV,eD,eV hsz,lb];omega),xW]
  congr 1
  simp only[cV,eD,eV hsz,lb];omega
 rw[e1,G6 hsz J]at h2
 exact⟨w',hr,by unfold uD;rw[mD];exact h2⟩
theorem af1{off:Nat}{b:α}(hsz:∀a,(cl a).length=sz)(hH:Hp w0 w L)(hi:L[i]?=some (uD cl sz v e l))(hk:0<=q/\q<l.length)(hx:ev σ x= .pointer (some ⟨sb v,so v+q.toNat*sz+off,none⟩))(hy:ev σ y=u)(hv:u.cells=#[u])(h1:u.oneCell'=true)(hs:(P.info? t).map (·.size)=some 1)
  (ho:off<sz) (hb:cl b=(cl (l.getD q.toNat a)).set off u) (hn:∀w',Hp w0 w' (L.set i (uD cl sz v e (l.set q.toNat b)))->RL P n ops k rest σ w'):RL P n ops k (⟨none,.store t x y,ty,pos,bH,none⟩::rest) σ w:=by
 obtain⟨w',hr,h2⟩:=akL (dst:=none) (ty:=ty) (pos:=pos) (bH:=bH) (g:=none) (a:=a) hsz hH hi hk hx hy hv h1 hs ho hb
 exact J4 hr (hn w' h2)
theorem ap1{ie:TypeInfo}{z:Value}{bytes:Nat}(hd:Nat.blt d n=true)(hH:Hp w0 w L)(hL:L[i]?=some (jf f v e l))(hS:Sl w u 1 1 [f a])(hx:ev σ x=v)(hy:ev σ y=u)(ht:P.underlying t=some (.slice e))(hie:P.info? e=some ie)(hz:ie.zero=some z)
  (hsize:ie.size=1) (hby:ie.bytes=bytes) (hzs:z.cells.size=1) (h1:(f a).oneCell'=true) (hb:l.length+1<=700000000000) (Ip:bytes<=200)
  (hn:∀v' w',Hp w0 w' (L.set i (jf f v' e (l++[a])))->RL P n ops k rest (k7 σ d v') w'):RL P n ops k (⟨some d,.call {callee:= .builtin .append,args:=#[x,y],argTypes:=#[t,t]},ty,pos,bH,none⟩::rest) σ w:=by
 refine jm hd hH hL hS hx hy ht hie hz hsize hby hzs J (fun u hu=>by rw[fG.1 hu];exact h1) (kg (wm hb Ip) ay) jv fun v' w' h=>hn v' w' ?_
 unfold jf;rw[cV,gp];exact h
theorem QH{ie:TypeInfo}{z:Value}{bytes:Nat}(hj:lo[j]?=some ⟨some d,.call {callee:= .builtin .append,args:=#[x,y],argTypes:=#[t,t]},ty,pos,bH,g⟩)(hg:∀a,Is n σ a->Region.wanted ⟨some d,.call {callee:= .builtin .append,args:=#[x,y],argTypes:=#[t,t]},ty,pos,bH,g⟩ (yielded lo.toArray a.tmps)=true)
  (hd:Nat.blt d n=true) (hH:Hp w0 w L) (hL:L[i]?=some (jf f v e l)) (hsub:∀r,L'.Sublist (L.set i r)) (hS:Sl w u 1 1 [f a]) (hx:ev σ x=v) (hy:ev σ y=u) (ht:P.underlying t=some (.slice e)) (hie:P.info? e=some ie) (hz:ie.zero=some z)
  (hsize:ie.size=1) (hby:ie.bytes=bytes) (hzs:z.cells.size=1) (h1:(f a).oneCell'=true) (hb:l.length+1<=700000000000) (Ip:bytes<=200)
  (hn:∀v' w',Hp w0 w' (L.set i (jf f v' e (l++[a])))->AN P n lo (fun w=>Hp w0 w L') k fuel (listed.setIfInBounds j true) (k7 σ d v') w'):AO P n lo (fun w=>Hp w0 w L') k fuel listed σ w j:=by
 refine k8 hj hg hd hH hL (fun _=>hsub _) hS hx hy ht hie hz hsize hby hzs J (fun u hu=>by rw[fG.1 hu];exact h1) (kg (wm hb Ip) ay) jv fun v' w' h=>hn v' w' ?_
 unfold jf;rw[cV,gp];exact h
theorem ap2{ie:TypeInfo}{z:Value}{bytes:Nat}(hsz:∀a,(cl a).length=sz)(hpos:0<sz)(hd:Nat.blt d n=true)(hH:Hp w0 w L)(hL:L[i]?=some (uD cl sz v e l))(hS:Sl w u sz [a].length ([a].flatMap cl))(hx:ev σ x=v)(hy:ev σ y=u)(ht:P.underlying t=some (.slice e))(hie:P.info? e=some ie)(hz:ie.zero=some z)
  (hsize:ie.size=sz) (hby:ie.bytes=bytes) (hzs:z.cells.size=sz) (h1:∀u∈cl a,u.oneCell'=true) (hb:l.length+1<=700000000000) (Ip:bytes<=200)
  (hn:∀v' w',Hp w0 w' (L.set i (uD cl sz v' e (l++[a])))->RL P n ops k rest (k7 σ d v') w'):RL P n ops k (⟨some d,.call {callee:= .builtin .append,args:=#[x,y],argTypes:=#[t,t]},ty,pos,bH,none⟩::rest) σ w:=by
 refine jm hd hH hL hS hx hy ht hie hz hsize hby hzs hpos (fun u hu=>h1 u pX) (kg (wm hb Ip) ay) (by simp only[maxLen,gI];omega) fun v' w' h=>hn v' w' ?_
 unfold uD;rw[cV,Dq];exact h
theorem QI{ie:TypeInfo}{z:Value}{bytes:Nat}(hj:lo[j]?=some ⟨some d,.call {callee:= .builtin .append,args:=#[x,y],argTypes:=#[t,t]},ty,pos,bH,g⟩)(hg:∀a,Is n σ a->Region.wanted ⟨some d,.call {callee:= .builtin .append,args:=#[x,y],argTypes:=#[t,t]},ty,pos,bH,g⟩ (yielded lo.toArray a.tmps)=true)
  (hsz:∀a,(cl a).length=sz) (hpos:0<sz) (hd:Nat.blt d n=true) (hH:Hp w0 w L) (hL:L[i]?=some (uD cl sz v e l)) (hsub:∀r,L'.Sublist (L.set i r)) (hS:Sl w u sz [a].length ([a].flatMap cl)) (hx:ev σ x=v) (hy:ev σ y=u) (ht:P.underlying t=some (.slice e)) (hie:P.info? e=some ie) (hz:ie.zero=some z)
  (hsize:ie.size=sz) (hby:ie.bytes=bytes) (hzs:z.cells.size=sz) (h1:∀u∈cl a,u.oneCell'=true) (hb:l.length+1<=700000000000) (Ip:bytes<=200)
  (hn:∀v' w',Hp w0 w' (L.set i (uD cl sz v' e (l++[a])))->AN P n lo (fun w=>Hp w0 w L') k fuel (listed.setIfInBounds j true) (k7 σ d v') w'):AO P n lo (fun w=>Hp w0 w L') k fuel listed σ w j:=by
 refine k8 hj hg hd hH hL (fun _=>hsub _) hS hx hy ht hie hz hsize hby hzs hpos (fun u hu=>h1 u pX) (kg (wm hb Ip) ay) (by simp only[maxLen,gI];omega) fun v' w' h=>hn v' w' ?_
 unfold uD;rw[cV,Dq];exact h
theorem ap3{ie:TypeInfo}{z:Value}{bytes:Nat}{c:Option (Nat×Array Value)}(hd:Nat.blt d n=true)(hH:Hp w0 w L)(hL:L[i]?=some (cE c v e (l.map f)))(hk:cO c v (l.map f))(hS:Sl w u 1 1 [f a])(hx:ev σ x=v)(hy:ev σ y=u)(ht:P.underlying t=some (.slice e))(hie:P.info? e=some ie)(hz:ie.zero=some z)
  (hsize:ie.size=1) (hby:ie.bytes=bytes) (hzs:z.cells.size=1) (h1:(f a).oneCell'=true) (hb:l.length+1<=700000000000) (Ip:bytes<=200)
  (hn:∀v' w',Hp w0 w' (L.set i (cE none v' e ((l++[a]).map f)))->RL P n ops k rest (k7 σ d v') w'):RL P n ops k (⟨some d,.call {callee:= .builtin .append,args:=#[x,y],argTypes:=#[t,t]},ty,pos,bH,none⟩::rest) σ w:=by
 have hll:(l.map f).length=l.length:=fx ..
 obtain⟨v',w',hr,h2⟩:=Tg (P:=P) (ty:=ty) (dst:=some d) (pos:=pos) (bH:=bH) (g:=none) (ats:=t) hH hL hk hS hx hy ht hie hz hsize hby hzs J (fun u hu=>by rw[fG.1 hu];exact h1) J (by rw[hll];exact kg (wm hb Ip) ay) (by rw[hll];simp only[maxLen];omega)
 refine n5 hd hr (hn v' w' ?_)
 unfold cE Tf;rw[gp,cV];exact h2
theorem kR{dv:α}{q:Int}(h:0<=q/\q<l.length):(l.map f)[q.toNat*1]?=some (f (l.getD q.toNat dv)):=by grind
theorem Hp.aBz(h:Hp w0 w L)(hi:L[i]?=some (jf f v e l))(hm:m<=l.length):Hp w0 w (L.set i (jf f (uW v m) e (l.take m))):=by
 have:=h.akK hi hm
 unfold jf;rw[eD,qI hm,AI]
 rwa[kX]at this
theorem Hp.auG(hsz:∀a,(cl a).length=sz)(h:Hp w0 w L)(hi:L[i]?=some (uD cl sz v e l))(hm:m<=l.length):Hp w0 w (L.set i (uD cl sz (uW v m) e (l.take m))):=by
 have:=h.akK hi hm
 unfold uD;rw[eD,qI hm,<-OD hsz hm];exact this
end
theorem af2{s1 s2:List Int}{a k:Int}(h:(s1++a::s2).getD k.toNat 0≠a)(h0:(s1.length:Int)<=k):(s1.length:Int)<k:=by grind
theorem ap4{s1 s2:List Int}{a k:Int}(hn:a∉s2)(h:(s1++a::s2).getD k.toNat 0=a)(h0:(s1.length:Int)<=k)(h1:k<=s1.length+s2.length):k=s1.length:=by grind
theorem dG{α:Type}{l:List α}{d:α}{k:Int}(h0:0<=k)(h1:k<l.length):l.getD k.toNat d∈l:=by grind
theorem ap5{p:Nat->Prop}{k:Int}(h0:0<=k)(h:∀q:Nat,q<k.toNat->p q)(hk:p k.toNat):∀q:Nat,q<(k+1).toNat->p q:=by grind
theorem Cs{w:World}{v:Value}{s1 s2:List Int}{a k:Int}(hk:k=s1.length)(h:Sl w v 1 ((s1++a::s2).map I).length ((s1++a::s2).map I)):Sl w (nS v 1 k.toNat) 1 (a::s2).length ((a::s2).map I):=by
 have:=Sl.fr h s1.length aA
 subst hk
 rw[dW]
 rw[show((s1++a::s2).map I).length-s1.length=(a::s2).length by simp,kX,gp,Jr aA,Jw aA,dZ]at this
 exact this
theorem abA{P:Program}{σ:Env}{w:World}{t te ty u:TypeId}{pos:String}{bH:Array Edge}{dst:Option Tmp}{g:Option (Nat×Bool)}{x y:Operand}{a:Addr}(ht:P.underlying t=some (.pointer te))(hx:ev σ x= .pointer (some a))(hy:ev σ y= .pointer none):
  (execOp (ev σ) ⟨dst,.binOp .neq t x y u,ty,pos,bH,g⟩).run P w= .ok (.value (.bool true)) w:=by
 have h:(binOp .neq t (.pointer (some a)) (.pointer none)).run P w= .ok (.bool true) w:=by
  simp only[binOp];simp[Op.equal,Op.maxDepth,D1 9999 ht]
 have he:(eqGuard .neq t x y (.pointer (some a)) (.pointer none))=pure ():=rfl
 simp only[execOp,hx,hy,he];simp[h]
theorem Tq{P:Program}{σ:Env}{w:World}{ty:TypeId}{pos:String}{bH:Array Edge}{dst:Option Tmp}{g:Option (Nat×Bool)}{x1 x2 x3 x4:Operand}{v1 v2 v3 v4:Value}{fn:Fn}(h1:ev σ x1=v1)(h2:ev σ x2=v2)(h3:ev σ x3=v3)(h4:ev σ x4=v4):(execOp (ev σ) ⟨dst,.makeFunc fn #[] #[x1,x2,x3,x4],ty,pos,bH,g⟩).run P w= .ok (.value (.func fn #[] #[v1,v2,v3,v4])) w:=by simp_all[th]
structure jx where
 v:Value
 l:List Int
def cP:jx:=⟨.slice none 0 0,[]⟩
def GrV(K:Vu)(v:Value)(g:List jx):Prop:=n7 K v 1 g.length (g.map jx.v)/\∀x∈g,n7 K x.v 1 x.l.length (x.l.map I)
theorem GrV.mono{K K':Vu}{v:Value}{g:List jx}(h:GrV K v g)(hl:Le K K'):GrV K' v g:=⟨h.1.mono hl,fun x hx=>(h.2 x hx).mono hl⟩
theorem GrV.row{K:Vu}{v:Value}{g:List jx}(h:GrV K v g){k:Int}(h0:0<=k)(h1:k<g.length):n7 K (g.getD k.toNat cP).v 1 (g.getD k.toNat cP).l.length ((g.getD k.toNat cP).l.map I):=h.2 _ (dG h0 h1)
theorem GrV.at{K:Vu}{v:Value}{g:List jx}(h:GrV K v g){k:Int}(h0:0<=k/\k<g.length):(g.map jx.v)[k.toNat*1]?=some (g.getD k.toNat cP).v:=kR h0
def o5(g:List jx):List (List Int):=g.map jx.l
theorem D5{g:List jx}{k:Nat}:(o5 g).getD k []=(g.getD k cP).l:=by grind[jx,o5,cP]
theorem fQ{g:List jx}:(o5 g).length=g.length:=fx ..
def dB(t:TypeId)(x:jx):a8:= .row x.v t 1 x.l.length (x.l.map I)
theorem Hp.OE{w0 w:World}{L:List a8}{t:TypeId}{x:jx}(h:Hp w0 w L)(hm:dB t x∈L):Sl w x.v 1 x.l.length (x.l.map I):=Sl.Ke (h.ok _ hm)
theorem Hp.apv{w0 w:World}{L:List a8}(t:TypeId)(h:Hp w0 w L):∀n:Nat,Hp w0 w ((List.replicate n cP).map (dB t)++L)
 |0=>h
 |n+1=>(h.apv t n).fl t 1
section
variable{P:Program}{n:Nat}{ops:Array Oper}{k:K}{rest lo:List Oper}{σ:Env}{w0 w:World}{A R L':List a8}{ty t e tE:TypeId}{pos:String}{bH:Array Edge}{d:Nat}{x y:Operand}{g:Option (Nat×Bool)}{v u:Value}{fuel j:Nat}{q:Int}{dst:Option Tmp}{listed:Array Bool}{gs:List jx}{a:Int}
theorem Xd(hq:0<=q/\q<gs.length):(A++(gs.map (dB tE)++R))[A.length+q.toNat]?=some (dB tE (gs.getD q.toNat cP)):=by grind
theorem akN{x:jx}(hq:0<=q/\q<gs.length):(A++(gs.map (dB tE)++R)).set (A.length+q.toNat) (dB tE x)=A++((gs.set q.toNat x).map (dB tE)++R):=jM
theorem Hp.hdr(h:Hp w0 w (A++(gs.map (dB tE)++R)))(hq:0<=q/\q<gs.length):(gs.getD q.toNat cP).v.cells=#[(gs.getD q.toNat cP).v]/\(gs.getD q.toNat cP).v.oneCell'=true:=a6 (h.get (Xd hq))
theorem Hp.auI{r:jx}(h:Hp w0 w (A++((gs.set q.toNat r).map (dB tE)++R)))(hq:0<=q/\q<gs.length):r.v.cells=#[r.v]/\r.v.oneCell'=true:=by
 have h1:=h.hdr (q:=q) (by rw[mD];exact hq)
 have e:(gs.set q.toNat r).getD q.toNat cP=r:=by rw[ep,tO,aR O,aR J];rfl
 rwa[e]at h1
theorem Ze{ie:TypeInfo}{z:Value}{bytes:Nat}(hH:Hp w0 w (A++(gs.map (dB tE)++R)))(hq:0<=q/\q<gs.length)(hS:Sl w u 1 1 [I a])(hx:ev σ x=(gs.getD q.toNat cP).v)(hy:ev σ y=u)(ht:P.underlying t=some (.slice tE))(hie:P.info? tE=some ie)(hz:ie.zero=some z)
  (hsize:ie.size=1) (hby:ie.bytes=bytes) (hzs:z.cells.size=1) (hb:(gs.getD q.toNat cP).l.length+1<=700000000000) (Ip:bytes<=200):
  ∃v' w',(execOp (ev σ) ⟨dst,.call {callee:= .builtin .append,args:=#[x,y],argTypes:=#[t,t]},ty,pos,bH,g⟩).run P w= .ok (.value v') w'/\Hp w0 w' (A++((gs.set q.toNat ⟨v',(gs.getD q.toNat cP).l++[a]⟩).map (dB tE)++R)):=by
 obtain⟨v',w',hr,h2,h3,h4⟩:=rQ (P:=P) (ty:=ty) ht hie hz hsize hby hzs J (hH.get (Xd hq)) hS (fun u hu=>by rw[fG.1 hu];rfl) jv (kg (wm hb Ip) ay) hH.size
 have h5:=hH.xd (Xd hq) h2 h3 h4
 refine⟨v',w',rN hx hy hr,?_⟩
 rw[<-akN hq]
 unfold dB;rw[cV,gp];exact h5
theorem aBA{ie:TypeInfo}{z:Value}{bytes:Nat}(hd:Nat.blt d n=true)(hH:Hp w0 w (A++(gs.map (dB tE)++R)))(hq:0<=q/\q<gs.length)(hS:Sl w u 1 1 [I a])(hx:ev σ x=(gs.getD q.toNat cP).v)(hy:ev σ y=u)(ht:P.underlying t=some (.slice tE))(hie:P.info? tE=some ie)(hz:ie.zero=some z)
  (hsize:ie.size=1) (hby:ie.bytes=bytes) (hzs:z.cells.size=1) (hb:(gs.getD q.toNat cP).l.length+1<=700000000000) (Ip:bytes<=200)
  (hn:∀v' w',Hp w0 w' (A++((gs.set q.toNat ⟨v',(gs.getD q.toNat cP).l++[a]⟩).map (dB tE)++R))->RL P n ops k rest (k7 σ d v') w'):RL P n ops k (⟨some d,.call {callee:= .builtin .append,args:=#[x,y],argTypes:=#[t,t]},ty,pos,bH,none⟩::rest) σ w:=by
 obtain⟨v',w',hr,h2⟩:=Ze (P:=P) (ty:=ty) (dst:=some d) (pos:=pos) (bH:=bH) (g:=none) hH hq hS hx hy ht hie hz hsize hby hzs hb Ip
 exact n5 hd hr (hn v' w' h2)
theorem af4{ie:TypeInfo}{z:Value}{bytes:Nat}(hj:lo[j]?=some ⟨some d,.call {callee:= .builtin .append,args:=#[x,y],argTypes:=#[t,t]},ty,pos,bH,g⟩)(hg:∀a,Is n σ a->Region.wanted ⟨some d,.call {callee:= .builtin .append,args:=#[x,y],argTypes:=#[t,t]},ty,pos,bH,g⟩ (yielded lo.toArray a.tmps)=true)
  (hd:Nat.blt d n=true) (hH:Hp w0 w (A++(gs.map (dB tE)++R))) (hsub:∀Y,L'.Sublist (A++(Y++R))) (hq:0<=q/\q<gs.length) (hS:Sl w u 1 1 [I a]) (hx:ev σ x=(gs.getD q.toNat cP).v) (hy:ev σ y=u) (ht:P.underlying t=some (.slice tE)) (hie:P.info? tE=some ie) (hz:ie.zero=some z)
  (hsize:ie.size=1) (hby:ie.bytes=bytes) (hzs:z.cells.size=1) (hb:(gs.getD q.toNat cP).l.length+1<=700000000000) (Ip:bytes<=200)
  (hn:∀v' w',Hp w0 w' (A++((gs.set q.toNat ⟨v',(gs.getD q.toNat cP).l++[a]⟩).map (dB tE)++R))->AN P n lo (fun w=>Hp w0 w L') k fuel (listed.setIfInBounds j true) (k7 σ d v') w'):AO P n lo (fun w=>Hp w0 w L') k fuel listed σ w j:=by
 obtain⟨v',w',hr,h2⟩:=Ze (P:=P) (ty:=ty) (dst:=some d) (pos:=pos) (bH:=bH) (g:=g) hH hq hS hx hy ht hie hz hsize hby hzs hb Ip
 exact A4 hj hg hd hr (h2.sub (hsub _)) (hn v' w' h2)
end
structure Mk where
 i:Nat
 d:Nat
 op:Op
 ty:TypeId
 pos:String
 bH:Array Edge
 f:Nat->Value
 o:Obj
abbrev Mk.q(p:Mk):Oper:=⟨some p.d,p.op,p.ty,p.pos,p.bH,none⟩
def af5(l:List Oper):Nat->Array Bool->List Nat->Bool
 |0,_,is=>is.isEmpty
 |m+1,a,is=>(Region.ready .any l.toArray a==is)&&is.all fun i=>af5 l m (a.setIfInBounds i true) (is.erase i)
def ldM(a:Array Bool)(ps:List Mk):Array Bool:=ps.foldl (fun a p=>a.setIfInBounds p.i true) a
def CA(σ:Env)(β:Nat->Nat)(ps:List Mk):Env:=ps.foldl (fun σ p=>k7 σ p.d (p.f (β p.d))) σ
abbrev Tr(β:Nat->Nat)(p:Mk):a8:= .blk (β p.d) p.o
theorem QJ{a:Array Bool}:∀{ps:List Mk} {a:Array Bool} {j:Nat},(ldM a ps)[j]?=if j∈ps.map Mk.i/\j<a.size then some true else a[j]?
 |[],a,j=>by simp[ldM]
 |p::ps,a,j=>by
  show(ldM (a.setIfInBounds p.i true) ps)[j]?=_
  rw[QJ (a:=a),Vf,CP]
  by_cases h:j<a.size
  .by_cases h1:j∈ps.map Mk.i
   .rw[aR ⟨h1,h⟩,aR ⟨by simp[h1],h⟩]
   rw[aP fun q=>h1 q.1]
   by_cases h2:p.i=j
   .subst h2;rw[aR O,aR h,aR ⟨aA,h⟩]
   rw[aP h2,aP fun q=>by
    have:=q.1
    rw[kV,cT]at this
    exact this.elim (fun e=>h2 e.symm) h1]
  have e1:(if j∈ps.map Mk.i/\j<a.size then some true else(if p.i=j then(if p.i<a.size then some true else none)else a[j]?))=a[j]?:=by
   rw[aP fun q=>h q.2]
   by_cases h2:p.i=j
   .subst h2;rw[aR O,aP h,Vh J]
   rw[aP h2]
  have e2:(if j∈(p::ps).map Mk.i/\j<a.size then some true else a[j]?)=a[j]?:=aP fun q=>h q.2
  exact e1.trans e2.symm
theorem af6{a:Array Bool}{ps qs:List Mk}(h:ps.Perm qs):ldM a ps=ldM a qs:=by
 apply Vt
 intro j
 rw[QJ (a:=a),QJ (a:=a)]
 have:j∈ps.map Mk.i↔j∈qs.map Mk.i:=(h.map Mk.i).mem_iff
 by_cases c:j∈ps.map Mk.i
 .simp[c,this.1 c]
 rw[aP fun q=>c q.1,aP fun q=>c (this.2 q.1)]
theorem Bm{σ:Env}{β:Nat->Nat}:∀{ps:List Mk} {σ:Env} {s:Nat},s∉ps.map Mk.d->CA σ β ps s=σ s
 |[],σ,s,_=>rfl
 |p::ps,σ,s,h=>by
  rw[kV,cT,not_or]at h
  show CA (k7 σ p.d (p.f (β p.d))) β ps s=_
  rw[Bm (σ:=σ) h.2,Wb _ _ h.1]
theorem Zg{β:Nat->Nat}(ps:List Mk):∀(σ:Env) (p:Mk),(ps.map Mk.d).Nodup->p∈ps->CA σ β ps p.d=p.f (β p.d):=by
 induction ps with
 |nil=>intro σ p _ h;cases h
 |cons q ps ih=>
  intro σ p hn h
  rw[kV,mM]at hn
  show CA (k7 σ q.d (q.f (β q.d))) β ps p.d=_
  rcases cT.1 h with e|e
  .rw[e,Bm (σ:=σ) hn.1,aoQ]
  exact ih _ p hn.2 e
theorem abB{σ:Env}{β:Nat->Nat}{ps qs:List Mk}(h:ps.Perm qs)(hn:(ps.map Mk.d).Nodup):CA σ β ps=CA σ β qs:=by
 funext s
 have hm:s∈ps.map Mk.d↔s∈qs.map Mk.d:=(h.map Mk.d).mem_iff
 have Oq:(qs.map Mk.d).Nodup:=(h.map Mk.d).nodup_iff.1 hn
 by_cases c:s∈ps.map Mk.d
 .obtain⟨p,h1,rfl⟩:=fI.1 c
  rw[Zg ps σ p hn h1,Zg qs σ p Oq (h.mem_iff.1 h1)]
 rw[Bm (σ:=σ) c,Bm (σ:=σ) fun q=>c (hm.2 q)]
theorem Lw{σ:Env}{β γ:Nat->Nat}:∀{ps:List Mk} {σ:Env},(∀p∈ps,β p.d=γ p.d)->CA σ β ps=CA σ γ ps
 |[],σ,_=>rfl
 |p::ps,σ,h=>by
  show CA (k7 σ p.d (p.f (β p.d))) β ps=CA (k7 σ p.d (p.f (γ p.d))) γ ps
  rw[h p aA,Lw (σ:=σ) fun q hq=>h q (by simp[hq])]
theorem abC{σ:Env}{β:Nat->Nat}{ps:List Mk}{p:Mk}:CA σ β (ps++[p])=k7 (CA σ β ps) p.d (p.f (β p.d)):=by simp[CA]
theorem Ts{a:Array Bool}{ps:List Mk}{p:Mk}:ldM a (ps++[p])=(ldM a ps).setIfInBounds p.i true:=by simp[ldM]
def allM{α:Type}(q:α->Prop):List α->Prop
 |[]=>True
 |a::l=>q a/\allM q l
theorem allM.mem{α:Type}{q:α->Prop}:∀{l:List α},allM q l->∀a∈l,q a
 |[],_,a,h=>by cases h
 |b::l,h,a,hm=>(cT.1 hm).elim (fun e=>e▸h.1) fun e=>h.2.mem a e
theorem auJ{P:Program}{n:Nat}{l:List Oper}{k:K}{σ:Env}{w0 w:World}{L L':List a8}{fuel:Nat}{listed:Array Bool}(ps:List Mk)
  (hl:∀p∈ps,l[p.i]?=some p.q/\Nat.blt p.d n=true) (hr:∀p∈ps,∀σ' w,(∀s,s∉ps.map Mk.d->σ' s=σ s)->(execOp (ev σ') p.q).run P w= .ok (.value (p.f w.heap.size)) (w.alloc p.o))
  (hd:(ps.map Mk.d).Nodup) (hi:(ps.map Mk.i).Nodup) (hc:af5 l ps.length listed (ps.map Mk.i)=true) (hH:Hp w0 w L') (hs:L.Sublist L')
  (h:∀β w',Hp w0 w' (ps.map (Tr β)++L')->AN P n l (fun w=>Hp w0 w L) k fuel (ldM listed ps) (CA σ β ps) w'):AN P n l (fun w=>Hp w0 w L) k (fuel+ps.length) listed σ w:=by
 have key:∀(m:Nat) (dn pd:List Mk) (β:Nat->Nat) (w:World),pd.length=m->(dn++pd).Perm ps->af5 l m (ldM listed dn) (pd.map Mk.i)=true->Hp w0 w (dn.map (Tr β)++L')->
   AN P n l (fun w=>Hp w0 w L) k (fuel+m) (ldM listed dn) (CA σ β dn) w:=by
  intro m
  induction m with
  |zero=>
   intro dn pd β w hm hp _ hh
   have e:pd=[]:=Et hm
   subst e
   rw[lU]at hp
   have hn:(dn.map Mk.d).Nodup:=(hp.map Mk.d).nodup_iff.2 hd
   rw[af6 hp,abB hp hn]
   exact h β w (hh.perm ((hp.map _).append_right _))
  |succ m ih=>
   intro dn pd β w hm hp hck hh
   simp only[af5,cm,AM,iq]at hck
   obtain⟨c1,c2⟩:=hck
   refine adN (pd.map Mk.i) c1 (by cases pd with|nil=>simp at hm|cons p pd=>rfl) fun i hii=> ?_
   obtain⟨p,hpm,rfl⟩:=fI.1 hii
   obtain⟨a,b,rfl⟩:=Vv hpm
   have hps:p∈ps:=hp.mem_iff.1 aA
   have hnd:=(hp.map Mk.d).nodup_iff.2 hd
   have hni:=(hp.map Mk.i).nodup_iff.2 hi
   have hpd:p.d∉dn.map Mk.d:=fun q=>by
    rw[gp]at hnd
    exact(Du.1 hnd).2.2 _ q p.d aA O
   have hpa:p.i∉a.map Mk.i:=fun q=>by
    rw[gp,gp]at hni
    exact(Du.1 (Du.1 hni).2.1).2.2 _ q p.i aA O
   have e1:((a++p::b).map Mk.i).erase p.i=(a++b).map Mk.i:=by
    rw[gp,kV,List.erase_append_right _ hpa,List.erase_cons_head,gp]
   have hp2:((dn++[p])++(a++b)).Perm ps:=List.Perm.trans (by
    rw[dg]
    exact tL dn (by simpa using(Dw (a:=p) (l₁:=a) (l₂:=b)).symm)) hp
   refine A4 (hl p hps).1 aH (hl p hps).2 (hr p hps _ w fun s UZ=>Bm (σ:=σ) fun q=>UZ ?_) ?_ ?_
   .obtain⟨x,hx,e⟩:=fI.1 q
    exact e▸fI.2 ⟨x,hp.mem_iff.1 pY,rfl⟩
   .exact(hh.alloc p.o).sub ((List.Sublist.trans hs (Vc _ _)).cons _)
   let γ:Nat->Nat:=fun s=>if s=p.d then w.heap.size else β s
   have hγ:∀q∈dn,β q.d=γ q.d:=fun q hq=>(aP fun e=>hpd (by rw[<-e];exact fI.2 ⟨q,hq,rfl⟩)).symm
   have g1:γ p.d=w.heap.size:=aR O
   have:=ih (dn++[p]) (a++b) γ (w.alloc p.o) (by simp at hm⊢;omega) hp2 (by rw[Ts,<-e1];exact c2 _ hii) (by
    refine(hh.alloc p.o).perm ?_
    rw[gp,JA,Tr,g1,dg]
    have e2:dn.map (Tr β)=dn.map (Tr γ):=FT fun q hq=>by unfold Tr;rw[hγ q hq]
    rw[e2]
    exact Dw.symm)
   rw[Ts,abC,g1,<-Lw (σ:=σ) hγ]at this
   exact this
 exact key ps.length [] ps (fun _=>0) w O (PF _) hc hH
theorem auK{P:Program}{n:Nat}{l:List Oper}{k:K}{σ:Env}{w0 w:World}{L L':List a8}{fuel:Nat}{listed:Array Bool}(ds is:List Nat)(ps:List Mk)(e1:ps.map Mk.d=ds)(e2:ps.map Mk.i=is)
  (hl:allM (fun p=>l[p.i]?=some p.q/\Nat.blt p.d n=true) ps) (hr:allM (fun p=>∀σ' w,(∀s,ds.contains s=false->σ' s=σ s)->(execOp (ev σ') p.q).run P w= .ok (.value (p.f w.heap.size)) (w.alloc p.o)) ps)
  (hd:ds.Nodup) (hi:is.Nodup) (hc:af5 l ps.length listed is=true) (hH:Hp w0 w L') (hs:L.Sublist L')
  (h:∀β w',Hp w0 w' (ps.map (Tr β)++L')->AN P n l (fun w=>Hp w0 w L) k fuel (ldM listed ps) (CA σ β ps) w'):AN P n l (fun w=>Hp w0 w L) k (fuel+ps.length) listed σ w:=
 auJ ps hl.mem (fun p hp σ' w q=>hr.mem p hp σ' w fun s hs=>q s (by rw[e1];intro c;rw[List.contains_iff_mem.2 c]at hs;cases hs)) (e1▸hd) (e2▸hi) (e2▸hc) hH hs h
section
variable{P:Program}{σ:Env}{w w0:World}{L:List a8}{dst:Option Tmp}{ty t e:TypeId}{pos:String}{bH:Array Edge}{g:Option (Nat×Bool)}{x y:Operand}{α:Type}{f:α->Value}{cl:α->List Value}{sz i b:Nat}{l:List α}
theorem Tt:∀{l:List α},l.flatMap (fun a=>[f a])=l.map f
 |[]=>rfl
 |a::l=>by rw[s0,Tt,kV];rfl
theorem yP{ie:TypeInfo}{z:Value}{z0:α}{n:Nat}(hu:P.underlying t=some (.slice e))(hie:P.info? e=some ie)(hz:ie.zero=some z)(hzc:z.cells=#[f z0])(hs:ie.size=1)
  (hx:ev σ x= .int .i64 n) (hy:ev σ y= .int .i64 n) (hb:ie.bytes<=1000) (hn:n<=1000000000):
  (execOp (ev σ) ⟨dst,.makeSlice t x y,ty,pos,bH,g⟩).run P w= .ok (.value (.slice (some ⟨w.heap.size,0,none⟩) n n)) (w.alloc (.cells ((List.replicate n z0).map f).toArray e)):=by
 have:=Oe (P:=P) (w:=w) (dst:=dst) (ty:=ty) (pos:=pos) (bH:=bH) (g:=g) (cl:=fun a=>[f a]) (sz:=1) (z0:=z0) (fun _=>rfl) ay hu hie hz hzc hs hx hy (kg (wm hb hn) ay) (by unfold maxLen;omega)
 rwa[Tt]at this
theorem Hp.Iu{n:Nat}(h:Hp w0 w L)(hi:L[i]?=some (.blk b (.cells (l.map f).toArray e (0,0))))(hl:l.length=n)(hn:n<=1000000000):Hp w0 w (L.set i (jf f (.slice (some ⟨b,0,none⟩) n n) e l)):=by
 subst hl
 have hx:=h.get hi
 refine h.vI hi O ⟨aA,.inr ⟨b,l.length,(l.map f).toArray,rfl,hx.1,hx.2,eI _,by unfold maxLen;omega,aA,?_⟩⟩
 rw[kX,<-fx (f:=f)];exact JH
end
end
end Go.Proofs.YtlhjdflgjbkpmaaGreatDoor.E
namespace Go.Proofs.YtlhjdflgjbkpmaaGreatDoor.M
section
open Go
inductive jr(E:Nat->Nat->Prop):Nat->Nat->Prop
 |refl (a:Nat):jr E a a
 |step {a b c:Nat} (h:jr E a b) (e:E b c):jr E a c
theorem jr.one{E:Nat->Nat->Prop}{a b:Nat}(e:E a b):jr E a b:= .step (.refl a) e
theorem jr.trans{E:Nat->Nat->Prop}{a b c:Nat}(h:jr E a b)(h2:jr E b c):jr E a c:=by
 induction h2 with
 |refl=>exact h
 |step _ e ih=>exact ih.step e
theorem jr.mono{E E':Nat->Nat->Prop}{a b:Nat}(h:jr E a b)(hE:∀x y,E x y->E' x y):jr E' a b:=by
 induction h with
 |refl=>exact .refl _
 |step _ e ih=>exact ih.step (hE _ _ e)
abbrev RN:=List (Nat×List Nat)
def eT(F:RN):List Nat:=F.flatMap fun x=>x.2++[x.1]
structure Ep(R:Nat->Nat->Prop)(ord low:Nat->Int)(F:RN):Prop where
 Lx:(eT F).Pairwise fun a b=>ord b<ord a
 lo:∀k,k∈eT F->low k<=ord k/\∃m,m∈eT F/\ord m=low k/\R k m
 seg:∀x,x∈F->∀k,k∈x.2->R x.1 k/\low x.1<=low k/\low k<ord k
 way:F.Pairwise fun x y=>R y.1 x.1
def m4(f:Nat->Int)(k:Nat)(v:Int):Nat->Int:=fun i=>if i=k then v else f i
section
variable{R:Nat->Nat->Prop}{ord low:Nat->Int}{F:RN}{a p:Nat}{sg sp:List Nat}{t:Int}
theorem gh:eT ((a,sg)::F)=sg++a::eT F:=by simp[eT]
theorem Cu:a∈eT ((a,sg)::F):=by rw[gh];simp
theorem iL{x:Nat×List Nat}(h:x∈F):x.1∈eT F:=by grind[eT]
theorem Jh{x:Nat×List Nat}{k:Nat}(h:x∈F)(hk:k∈x.2):k∈eT F:=by grind[eT]
theorem Ep.nil:Ep R ord low []:=⟨List.Pairwise.nil,(fun k h=>by simp[eT]at h),(fun x h=>n4),List.Pairwise.nil⟩
theorem Ep.below(h:Ep R ord low ((a,sg)::F)):(∀k,k∈eT F->ord k<ord a)/\∀k,k∈sg->ord a<ord k:=by grind[Ep,eT,gh]
theorem Ep.af7(h:Ep R ord low ((a,sg)::F))(ht:∀x y z,R x y->R y z->R x z)(he:low a=ord a):∀k,k∈sg->R a k/\R k a:=by
 have hs:=h.seg _ (tN ..)
 have key:∀n:Nat,∀k,k∈sg->(ord k-ord a).toNat<=n->R k a:=fun n=>by
  induction n with
  |zero=>intro k hk hn;have:=h.below.2 k hk;omega
  |succ n ih=>
   intro k hk hn
   obtain⟨h1,h2,h3⟩:=hs k hk
   obtain⟨-,m,hm,e,hr⟩:=h.lo k (Jh (tN ..) hk)
   rw[gh]at hm
   rcases eF.1 hm with q|q
   .exact ht _ _ _ hr (ih m q (by have:=h.below.2 m q;have:low a<=low k:=h2;omega))
   rcases cT.1 q with q|q
   .subst q;exact hr
   have:=h.below.1 m q
   have:low a<=low k:=h2
   omega
 exact fun k hk=>⟨(hs k hk).1,key _ k hk (eI _)⟩
theorem Ep.enter(h:Ep R ord low F)(hn:a∉eT F)(ht:∀k,k∈eT F->ord k<t)(hr:R a a)(hw:∀x,x∈F->R x.1 a):Ep R (m4 ord a t) (m4 low a t) ((a,[])::F):=by
 have ne:∀k,k∈eT F->k≠a:=fun k hk e=>hn (e▸hk)
 have so:∀k,k∈eT F->m4 ord a t k=ord k:=fun k hk=>aP (ne k hk)
 have sl:∀k,k∈eT F->m4 low a t k=low k:=fun k hk=>aP (ne k hk)
 have ea:m4 ord a t a=t:=aR O
 have la:m4 low a t a=t:=aR O
 refine⟨?_,fun k hk=> ?_,fun x hx k hk=> ?_,lE.2 ⟨fun x hx=>hw x hx,h.way⟩⟩
 .rw[gh,dZ]
  refine lE.2 ⟨fun k hk=>by rw[ea,so k hk];exact ht k hk,?_⟩
  exact h.Lx.imp_of_mem fun{x y} hx hy q=>by rw[so x hx,so y hy];exact q
 .rw[gh,dZ]at hk
  rcases cT.1 hk with q|q
  .subst q;exact⟨by rw[ea,la];exact kY _,_,Cu,by rw[ea,la],hr⟩
  obtain⟨h1,m,h2,h3,h4⟩:=h.lo k q
  refine⟨by rw[so k q,sl k q];exact h1,m,by rw[gh];simp[h2],by rw[so m h2,sl k q];exact h3,h4⟩
 rcases cT.1 hx with q|q
 .subst q;cases hk
 have k1:=Jh q hk
 have k2:=iL q
 rw[so k k1,sl k k1,sl _ k2];exact h.seg x q k hk
theorem Ep.arc(h:Ep R ord low ((a,sg)::F)){m:Nat}(hm:m∈eT ((a,sg)::F))(hr:R a m):Ep R ord (m4 low a (min (low a) (ord m))) ((a,sg)::F):=by
 have la:m4 low a (min (low a) (ord m)) a=min (low a) (ord m):=aR O
 have sl:∀k,k≠a->m4 low a (min (low a) (ord m)) k=low k:=fun k hk=>aP hk
 have hb:=h.below
 refine⟨h.Lx,fun k hk=> ?_,fun x hx k hk=> ?_,h.way⟩
 .obtain⟨h1,j,h2,h3,h4⟩:=h.lo k hk
  by_cases e:k=a
  .subst e
   rw[la]
   refine⟨J,?_⟩
   by_cases c:low k<=ord m
   .exact⟨j,h2,by rw[VL c];exact h3,h4⟩
   exact⟨m,hm,by rw[Int.min_eq_right J],hr⟩
  rw[sl k e];exact⟨h1,j,h2,h3,h4⟩
 obtain⟨h1,h2,h3⟩:=h.seg x hx k hk
 have hka:k≠a:=fun e=>by
  subst e
  rcases cT.1 hx with q|q
  .subst q;have:=hb.2 k hk;omega
  have:=hb.1 k (Jh q hk);omega
 rw[sl k hka]
 refine⟨h1,?_,h3⟩
 by_cases e:x.1=a
 .rw[e,la];rw[e]at h2;omega
 rw[sl _ e];exact h2
theorem Ep.Tu(h:Ep R ord low ((a,sg)::(p,sp)::F))(ht:∀x y z,R x y->R y z->R x z)(hlt:low a<ord a):Ep R ord (m4 low p (min (low p) (low a))) ((p,sg++a::sp)::F):=by
 have e0:eT ((p,sg++a::sp)::F)=eT ((a,sg)::(p,sp)::F):=by simp[eT]
 have hrp:R p a:=(lE.1 h.way).1 (p,sp) aA
 have hb:=h.below
 have hp:p∈eT ((a,sg)::(p,sp)::F):=iL (x:=(p,sp)) aA
 have hpa:p≠a:=fun e=>by have:=hb.1 p (iL (x:=(p,sp)) aA);rw[e]at this;omega
 have lp:m4 low p (min (low p) (low a)) p=min (low p) (low a):=aR O
 have sl:∀k,k≠p->m4 low p (min (low p) (low a)) k=low k:=fun k hk=>aP hk
 have hs:=h.Lx
 have hsp:((eT ((p,sp)::F))).Pairwise fun a b=>ord b<ord a:=by
  rw[gh]at hs;exact(lE.1 (Du.1 hs).2.1).2
 have hbp:(∀k,k∈eT F->ord k<ord p)/\∀k,k∈sp->ord p<ord k:=by
  rw[gh]at hsp
  obtain⟨h2,h3,h4⟩:=Du.1 hsp
  exact⟨fun k hk=>(lE.1 h3).1 k hk,fun k hk=>h4 k hk p aA⟩
 refine⟨by rw[e0];exact hs,fun k hk=> ?_,fun x hx k hk=> ?_,?_⟩
 .rw[e0]at hk⊢
  obtain⟨h1,j,h2,h3,h4⟩:=h.lo k hk
  by_cases e:k=p
  .subst e
   rw[lp]
   refine⟨J,?_⟩
   by_cases c:low k<=low a
   .exact⟨j,h2,by rw[VL c];exact h3,h4⟩
   obtain⟨-,i,i2,i3,i4⟩:=h.lo a Cu
   exact⟨i,i2,by rw[Int.min_eq_right J];exact i3,ht _ _ _ hrp i4⟩
  rw[sl k e];exact⟨h1,j,h2,h3,h4⟩
 .rcases cT.1 hx with q|q
  .subst q
   have hmem:k∈sg\/k=a\/k∈sp:=by simpa using hk
   rcases hmem with q|q|q
   .obtain⟨h1,h2,h3⟩:=h.seg (a,sg) aA k q
    have hkp:k≠p:=fun e=>by
     have:=hb.2 k q;have:=hb.1 p (iL (x:=(p,sp)) aA);rw[e]at*;omega
    rw[lp,sl k hkp]
    have:low a<=low k:=h2
    exact⟨ht _ _ _ hrp h1,J,h3⟩
   .subst q;rw[lp,sl k hpa.symm];exact⟨hrp,J,hlt⟩
   obtain⟨h1,h2,h3⟩:=h.seg (p,sp) aA k q
   have hkp:k≠p:=fun e=>by have:=hbp.2 k q;rw[e]at this;omega
   rw[lp,sl k hkp]
   have:low p<=low k:=h2
   exact⟨h1,J,h3⟩
  obtain⟨h1,h2,h3⟩:=h.seg x (by simp[q]) k hk
  have hkp:k≠p:=fun e=>by have:=hbp.1 k (Jh q hk);rw[e]at this;omega
  have hxp:x.1≠p:=fun e=>by have:=hbp.1 x.1 (iL q);rw[e]at this;omega
  rw[sl k hkp,sl _ hxp];exact⟨h1,h2,h3⟩
 obtain⟨-,h2⟩:=lE.1 h.way
 exact lE.2 ⟨fun x hx=>(lE.1 h2).1 x hx,(lE.1 h2).2⟩
theorem Ep.close(h:Ep R ord low ((a,sg)::F)):Ep R ord low F:=by
 have hs:=h.Lx
 rw[gh]at hs
 have hb:=h.below
 refine⟨(lE.1 (Du.1 hs).2.1).2,fun k hk=> ?_,fun x hx=>h.seg x pY,(lE.1 h.way).2⟩
 obtain⟨h1,m,h2,h3,h4⟩:=h.lo k (by rw[gh];simp[hk])
 refine⟨h1,m,?_,h3,h4⟩
 rw[gh]at h2
 have hka:=hb.1 k hk
 rcases eF.1 h2 with q|q
 .have:=hb.2 m q;omega
 rcases cT.1 q with q|q
 .subst q;omega
 exact q
theorem Ep.root(h:Ep R ord low [(a,sg)]):low a=ord a:=by grind[Ep,Cu,gh,eT]
end
def HZ(F:RN)(p c:Nat):Prop:=∃F1 sc sp F2,F=F1++(c,sc)::(p,sp)::F2
structure Ni(E seen:Nat->Nat->Prop)(shut:Nat->Prop)(ord low:Nat->Int)(F:RN):Prop where
 out:∀k,k∈eT F->¬shut k
 OF:∀k,shut k->∀j,E k j->shut j
 Xe:∀x,x∈F->∀k,k∈x.2->∀j,E k j->seen k j
 led:∀k,k∈eT F->∀j,seen k j->shut j\/j∈eT F/\(low k<=ord j\/HZ F k j)
section
variable{E seen:Nat->Nat->Prop}{shut:Nat->Prop}{R:Nat->Nat->Prop}{ord low:Nat->Int}{F:RN}{a p j:Nat}{sg sp:List Nat}{t:Int}
theorem Ni.nil(h:∀k,shut k->∀j,E k j->shut j):Ni E seen shut ord low []:=by grind[Ni,eT]
theorem HZ.mem(h:HZ F p j):∃x,x∈F/\x.1=p:=by
 obtain⟨F1,sc,sp,F2,rfl⟩:=h;exact⟨(p,sp),aA,rfl⟩
theorem Ep.top(h:Ep R ord low ((a,sg)::F)){k:Nat}(hk:k∈sg\/k=a):¬HZ ((a,sg)::F) k j:=by
 rintro⟨F1,sc,sp,F2,e⟩
 have hb:=h.below
 have hm:(k,sp)∈F:=by
  cases F1 with
  |nil=>simp at e;rw[e.2];simp
  |cons b F1=>simp at e;rw[e.2];simp
 have h1:=hb.1 k (iL (x:=(k,sp)) hm)
 rcases hk with q|q
 .have:=hb.2 k q;omega
 subst q;omega
theorem Ni.close(h:Ni E seen shut ord low ((a,sg)::F))(hi:Ep R ord low ((a,sg)::F))(he:low a=ord a)(ha:∀j,E a j->seen a j):Ni E seen (fun k=>shut k\/k=a\/k∈sg) ord low F:=by
 have hb:=hi.below
 have mem:∀k,k∈eT ((a,sg)::F)↔k∈sg\/k=a\/k∈eT F:=fun k=>by rw[gh];simp
 refine⟨fun k hk=> ?_,fun k hk j hj=> ?_,fun x hx=>h.Xe x pY,fun k hk j hj=> ?_⟩
 .rintro(q|q|q)
  .exact h.out k ((mem k).2 (.inr (.inr hk))) q
  .subst q;have:=hb.1 k hk;omega
  have:=hb.1 k hk;have:=hb.2 k q;omega
 .rcases hk with q|q
  .exact .inl (h.OF k q j hj)
  have Cp:k∈eT ((a,sg)::F):=(mem k).2 (q.elim (fun e=> .inr (.inl e)) .inl)
  have UZ:seen k j:=by
   rcases q with q|q
   .subst q;exact ha j hj
   exact h.Xe (a,sg) aA k q j hj
  have abD:ord a<=low k:=by
   rcases q with q|q
   .subst q;omega
   have:=(hi.seg (a,sg) aA k q).2.1;have:low a<=low k:=this;omega
  rcases h.led k Cp j UZ with c|⟨c,d⟩
  .exact .inl c
  rcases d with d|d
  .rcases(mem j).1 c with e|e|e
   .exact .inr (.inr e)
   .exact .inr (.inl e)
   have:=hb.1 j e;omega
  exact absurd d (hi.top (q.elim .inr .inl))
 rcases h.led k ((mem k).2 (.inr (.inr hk))) j hj with c|⟨c,d⟩
 .exact .inl (.inl c)
 rcases(mem j).1 c with e|e|e
 .exact .inl (.inr (.inr e))
 .exact .inl (.inr (.inl e))
 refine .inr ⟨e,d.imp id fun q=> ?_⟩
 obtain⟨F1,sc,sp,F2,e1⟩:=q
 cases F1 with
 |nil=>simp at e1;rw[e1.1.1]at hb;have:=hb.1 j e;omega
 |cons b F1=>simp at e1;exact⟨F1,sc,sp,F2,e1.2⟩
theorem Ni.Tu(h:Ni E seen shut ord low ((a,sg)::(p,sp)::F))(hi:Ep R ord low ((a,sg)::(p,sp)::F))(ha:∀j,E a j->seen a j):Ni E seen shut ord (m4 low p (min (low p) (low a))) ((p,sg++a::sp)::F):=by
 have e0:eT ((p,sg++a::sp)::F)=eT ((a,sg)::(p,sp)::F):=by simp[eT]
 have le:∀k,m4 low p (min (low p) (low a)) k<=low k:=fun k=>by
  unfold m4;split
  .subst_vars;omega
  exact kY _
 have lp:m4 low p (min (low p) (low a)) p<=low a:=by unfold m4;rw[aR O];omega
 refine⟨fun k hk=>h.out k (e0▸hk),h.OF,fun x hx k hk j hj=> ?_,fun k hk j hj=> ?_⟩
 .rcases cT.1 hx with q|q
  .subst q
   have hm:k∈sg\/k=a\/k∈sp:=by simpa using hk
   rcases hm with q|q|q
   .exact h.Xe (a,sg) aA k q j hj
   .subst q;exact ha j hj
   exact h.Xe (p,sp) aA k q j hj
  exact h.Xe x (by simp[q]) k hk j hj
 rw[e0]at hk⊢
 rcases h.led k hk j hj with c|⟨c,d⟩
 .exact .inl c
 refine .inr ⟨c,?_⟩
 rcases d with d|⟨F1,sc,s2,F2,e1⟩
 .exact .inl (JR (le k) d)
 .cases F1 with
  |nil=>
   simp at e1
   obtain⟨⟨rfl,rfl⟩,⟨rfl,rfl⟩,rfl⟩:=e1
   exact .inl (JR lp (hi.lo a Cu).1)
  |cons b F1=>
   simp at e1
   cases F1 with
   |nil=>
    simp at e1
    obtain⟨-,⟨rfl,rfl⟩,rfl⟩:=e1
    exact .inr ⟨[],_,_,_,rfl⟩
   |cons b2 F1=>
    simp at e1
    obtain⟨-,-,rfl⟩:=e1
    exact .inr ⟨(p,sg++a::sp)::F1,_,_,_,rfl⟩
end
section
variable{E seen seen':Nat->Nat->Prop}{shut:Nat->Prop}{R:Nat->Nat->Prop}{ord low:Nat->Int}{F:RN}{a p j:Nat}{sg sp:List Nat}{t:Int}
theorem HZ.cons{x:Nat×List Nat}(h:HZ F p j):HZ (x::F) p j:=by grind[HZ]
theorem Ni.enter(h:Ni E seen shut ord low F)(hn:a∉eT F)(hs:¬shut a)(hno:∀j,¬seen a j)(h1:∀k j,seen k j->seen' k j)(h2:∀k j,seen' k j->seen k j\/j=a/\∃sp F0,F=(k,sp)::F0):Ni E seen' shut (m4 ord a t) (m4 low a t) ((a,[])::F):=by
 have ne:∀k,k∈eT F->k≠a:=fun k hk e=>hn (e▸hk)
 have mem:∀k,k∈eT ((a,[])::F)↔k=a\/k∈eT F:=fun k=>by rw[gh];simp
 refine⟨fun k hk=> ?_,h.OF,fun x hx k hk j hj=> ?_,fun k hk j hj=> ?_⟩
 .rcases(mem k).1 hk with q|q
  .subst q;exact hs
  exact h.out k q
 .rcases cT.1 hx with q|q
  .subst q;cases hk
  exact h1 _ _ (h.Xe x q k hk j hj)
 rcases h2 k j hj with q|⟨rfl,sp,F0,rfl⟩
 .rcases(mem k).1 hk with e|e
  .subst e;exact absurd q (hno j)
  rcases h.led k e j q with c|⟨c,d⟩
  .exact .inl c
  refine .inr ⟨(mem j).2 (.inr c),d.imp (fun d=> ?_) fun d=>d.cons⟩
  unfold m4;rw[aP (ne k e),aP (ne j c)];exact d
 exact .inr ⟨(mem j).2 (.inl O),.inr ⟨[],_,_,_,rfl⟩⟩
theorem Ni.look{v:Int}(h:Ni E seen shut ord low ((a,sg)::F))(hv:v<=low a)(h1:∀k i,seen k i->seen' k i)(h2:∀k i,seen' k i->seen k i\/k=a/\i=j)(hj:shut j\/j∈eT ((a,sg)::F)/\v<=ord j):Ni E seen' shut ord (m4 low a v) ((a,sg)::F):=by
 have la:m4 low a v a=v:=aR O
 have le:∀k,m4 low a v k<=low k:=fun k=>by
  unfold m4;split
  .subst_vars;exact hv
  exact kY _
 refine⟨h.out,h.OF,fun x hx k hk i hi=>h1 _ _ (h.Xe x hx k hk i hi),fun k hk i hi=> ?_⟩
 rcases h2 k i hi with q|⟨rfl,rfl⟩
 .exact(h.led k hk i q).imp id fun⟨c,d⟩=>⟨c,d.imp (fun d=>JR (le k) d) id⟩
 exact hj.imp id fun⟨c,d⟩=>⟨c,.inl (by rw[la];exact d)⟩
end
section
variable{E seen:Nat->Nat->Prop}{shut:Nat->Prop}{ord low:Nat->Int}{F:RN}{a:Nat}{sg:List Nat}
theorem jr.stay{C:Nat->Prop}(hC:∀k,C k->∀j,E k j->C j){x y:Nat}(h:jr E x y)(hx:C x):C y:=by
 induction h with
 |refl=>exact hx
 |step _ e ih=>exact hC _ (ih) _ e
theorem Ni.whole(h:Ni E seen shut ord low ((a,sg)::F))(hi:Ep (jr E) ord low ((a,sg)::F))(he:low a=ord a)(ha:∀j,E a j->seen a j){k y:Nat}(hk:k=a\/k∈sg)(h1:jr E k y)(h2:jr E y k):y=a\/y∈sg:=by
 have hc:=h.close hi he ha
 rcases h1.stay hc.OF (.inr hk)with q|q
 .have hm:k∈eT ((a,sg)::F):=by
   rw[gh]
   rcases hk with e|e
   .subst e;simp
   simp[e]
  exact absurd (h2.stay h.OF q) (h.out k hm)
 exact q
theorem Ni.iff(h:Ni E seen shut ord low ((a,sg)::F))(hi:Ep (jr E) ord low ((a,sg)::F))(he:low a=ord a)(ha:∀j,E a j->seen a j){k y:Nat}(hk:k=a\/k∈sg):(jr E k y/\jr E y k)↔(y=a\/y∈sg):=by
 refine⟨fun q=>h.whole hi he ha hk q.1 q.2,fun q=> ?_⟩
 have key:∀z,z=a\/z∈sg->jr E a z/\jr E z a:=fun z hz=>by
  rcases hz with e|e
  .subst e;exact⟨.refl _,.refl _⟩
  exact hi.af7 (fun _ _ _=>jr.trans) he z e
 exact⟨(key k hk).2.trans (key y q).1,(key y q).2.trans (key k hk).1⟩
end
structure CB where
 node:Int
 next:Int
def nr(l:List Int):Nat->Int:=fun k=>l.getD k 0
def NI(l:List Nat):List Int:=l.map fun(k:Nat)=>(k:Int)
def uE(gl:List (List Int))(a b:Nat):Prop:=a<gl.length/\b<gl.length/\∃i,i<(gl.getD a []).length/\(gl.getD a []).getD i 0=(b:Int)
def s7(gl:List (List Int))(nx:Nat->Nat)(a b:Nat):Prop:=a<gl.length/\b<gl.length/\∃i,i<nx a/\i<(gl.getD a []).length/\(gl.getD a []).getD i 0=(b:Int)
def zF(od:List Int)(F:RN)(k:Nat):Prop:=k<od.length/\nr od k≠0/\k∉eT F
def sq(E:Nat->Nat->Prop)(a b:Nat):Prop:=jr E a b/\jr E b a
structure OfK(E:Nat->Nat->Prop)(k:Nat)(o:Int):Prop where
 is:∃j:Nat,o=j/\sq E k j
 low:∀j:Nat,sq E k j->o<=j
def oD(F:RN)(nx:Nat->Nat):List CB:=F.reverse.map fun x=>⟨x.1,nx x.1⟩
structure qx(gl:List (List Int))(od lo:List Int)(on:List Bool)(tm:Int)(kq:List Int)(F:RN)(nx:Nat->Nat):Prop where
 RO:od.length=gl.length
 llo:lo.length=gl.length
 lon:on.length=gl.length
 lof:kq.length=gl.length
 onI:∀k,k<gl.length->(on.getD k false=true↔k∈eT F)
 lt:∀k,k∈eT F->k<gl.length/\0<nr od k
 odI:∀k,0<=nr od k/\nr od k<=tm
 cnt:tm+od.count 0=gl.length
 RP:Ep (jr (uE gl)) (nr od) (nr lo) F
 kne:Ni (uE gl) (s7 gl nx) (zF od F) (nr od) (nr lo) F
 nx0:∀k,nr od k=0->nx k=0
 fin:∀k,zF od F k->OfK (uE gl) k (nr kq k)
theorem yQ{l:List Int}{k:Nat}{v:Int}(h:k<l.length):nr (l.set k v)=m4 (nr l) k v:=by grind[nr,m4]
theorem Zh:∀{l:List Int} {k:Nat} {v:Int},k<l.length->l.getD k 0=0->v≠0->(l.set k v).count 0+1=l.count 0
 |[],k,v,h,_,_=>by simp at h
 |a::l,0,v,_,h2,h3=>by
  have:a=0:=h2
  subst this
  rw[ij,List.count_cons_self,List.count_cons_of_ne (by simpa using h3)]
 |a::l,k+1,v,h1,h2,h3=>by
  have ih:=Zh (l:=l) (k:=k) (v:=v) DL h2 h3
  rw[kf,Dx,Dx];omega
theorem abF{f:Nat->Int}{k:Nat}{v:Int}(h:f k=v):m4 f k v=f:=by grind[m4]
section
variable{gl:List (List Int)}{od lo:List Int}{on:List Bool}{tm:Int}{kq:List Int}{F:RN}{nx:Nat->Nat}{a b p:Nat}{sg sp:List Nat}
def pJ(nx:Nat->Nat)(p:Nat):Nat->Nat:=fun i=>if i=p then nx i+1 else nx i
theorem Cv{k j:Nat}(h:s7 gl nx k j):s7 gl (pJ nx p) k j:=by grind[s7,pJ]
theorem E3{k j:Nat}(h:s7 gl (pJ nx p) k j):s7 gl nx k j\/k=p/\(gl.getD p []).getD (nx p) 0=(j:Int):=by grind[s7,pJ]
theorem qx.room(h:qx gl od lo on tm kq F nx):0<=tm/\tm<=gl.length:=by grind[qx,kq]
theorem qx.skip(h:qx gl od lo on tm kq ((p,sp)::F) nx)(hk:¬∃j,j<gl.length/\(gl.getD p []).getD (nx p) 0=((j:Nat):Int)):qx gl od lo on tm kq ((p,sp)::F) (pJ nx p):=by
 have hs:s7 gl (pJ nx p)=s7 gl nx:=by
  funext k j;apply propext
  refine⟨fun q=> ?_,Cv⟩
  rcases E3 q with q2|⟨rfl,q2⟩
  .exact q2
  exact absurd ⟨j,q.2.1,q2⟩ hk
 have hp:=h.lt p (iL (x:=(p,sp)) aA)
 exact⟨h.RO,h.llo,h.lon,h.lof,h.onI,h.lt,h.odI,h.cnt,h.RP,by rw[hs];exact h.kne,fun k Cp=>by unfold pJ;rw[aP (fun e=>by rw[e]at Cp;omega)];exact h.nx0 k Cp,h.fin⟩
theorem qx.auM(h:qx gl od lo on tm kq ((p,sp)::F) nx)(hl:nx p<(gl.getD p []).length)(hb:b<gl.length)(hk:(gl.getD p []).getD (nx p) 0=(b:Int)):uE gl p b:=by grind[qx,kq,uE,iL]
theorem QK(h:qx gl od lo on tm kq ((p,sp)::F) nx)(k:Nat)(hk:nr od k=0):pJ nx p k=0:=by
 have hp:=h.lt p (iL (x:=(p,sp)) aA)
 unfold pJ;rw[aP (fun e=>by rw[e]at hk;omega)];exact h.nx0 k hk
theorem qx.arc(h:qx gl od lo on tm kq ((p,sp)::F) nx)(hl:nx p<(gl.getD p []).length)(hb:b<gl.length)(hk:(gl.getD p []).getD (nx p) 0=(b:Int))(hon:on.getD b false=true):
  qx gl od (lo.set p (min (nr lo p) (nr od b))) on tm kq ((p,sp)::F) (pJ nx p):=by
 have hm:=(h.onI b hb).1 hon
 have hp:=h.lt p (iL (x:=(p,sp)) aA)
 have e1:=yQ (l:=lo) (k:=p) (v:=min (nr lo p) (nr od b)) P0
 refine⟨h.RO,by rw[mD];exact h.llo,h.lon,h.lof,h.onI,h.lt,h.odI,h.cnt,by rw[e1];exact h.RP.arc hm (.one (h.auM hl hb hk)),?_,QK h,h.fin⟩
 rw[e1]
 exact h.kne.look (j:=b) J (fun k i=>Cv) (fun k i q=>(E3 q).imp id fun⟨q1,q2⟩=>⟨q1,J⟩) (.inr ⟨hm,J⟩)
theorem qx.shut(h:qx gl od lo on tm kq ((p,sp)::F) nx)(hl:nx p<(gl.getD p []).length)(hb:b<gl.length)(hk:(gl.getD p []).getD (nx p) 0=(b:Int))(h0:nr od b≠0)(hon:¬on.getD b false=true):
  qx gl od lo on tm kq ((p,sp)::F) (pJ nx p):=by
 have hm:b∉eT ((p,sp)::F):=fun q=>hon ((h.onI b hb).2 q)
 refine⟨h.RO,h.llo,h.lon,h.lof,h.onI,h.lt,h.odI,h.cnt,h.RP,?_,QK h,h.fin⟩
 have:=h.kne.look (seen':=s7 gl (pJ nx p)) (j:=b) (v:=nr lo p) (kY _) (fun k i=>Cv) (fun k i q=>(E3 q).imp id fun⟨q1,q2⟩=>⟨q1,J⟩) (.inl ⟨by rw[h.RO];exact hb,h0,hm⟩)
 rwa[abF O]at this
theorem qx.auN{nx':Nat->Nat}(h:qx gl od lo on tm kq F nx)(ha:a<gl.length)(h0:nr od a=0)(hn:∀k,nr od k=0->nx' k=0)(h1:∀k j,s7 gl nx k j->s7 gl nx' k j)(h2:∀k j,s7 gl nx' k j->s7 gl nx k j\/j=a/\∃sp F0,F=(k,sp)::F0)(hw:∀x,x∈F->jr (uE gl) x.1 a):
  qx gl (od.set a (tm+1)) (lo.set a (tm+1)) (on.set a true) (tm+1) kq ((a,[])::F) nx':=by
 have hr:=h.room
 have hna:a∉eT F:=fun q=>by have:=(h.lt a q).2;omega
 have ne:∀k,k∈eT F->k≠a:=fun k hk e=>hna (e▸hk)
 have mem:∀k,k∈eT ((a,[])::F)↔k=a\/k∈eT F:=fun k=>by rw[gh];simp
 have e1:=yQ (l:=od) (k:=a) (v:=tm+1) (by rw[h.RO];exact ha)
 have e2:=yQ (l:=lo) (k:=a) (v:=tm+1) (by rw[h.llo];exact ha)
 have es:zF (od.set a (tm+1)) ((a,[])::F)=zF od F:=by
  funext k;apply propext
  unfold zF
  rw[mD,e1,mem]
  unfold m4
  by_cases e:k=a
  .subst e;rw[aR O];exact⟨fun q=>absurd (.inl O) q.2.2,fun q=>absurd h0 q.2.1⟩
  rw[aP e];exact⟨fun q=>⟨q.1,q.2.1,fun c=>q.2.2 (.inr c)⟩,fun q=>⟨q.1,q.2.1,fun c=>c.elim e q.2.2⟩⟩
 refine⟨by rw[mD];exact h.RO,by rw[mD];exact h.llo,by rw[mD];exact h.lon,h.lof,fun k hk=> ?_,fun k hk=> ?_,fun k=> ?_,?_,?_,?_,fun k hk=> ?_,?_⟩
 .rw[mem,ep,tO]
  by_cases e:a=k
  .subst e;rw[aR O,aR (by rw[h.lon];exact ha)];simp
  rw[aP e,<-ep,h.onI k hk];exact⟨.inr,fun q=>q.elim (fun c=>absurd c.symm e) id⟩
 .rw[e1];unfold m4
  rcases(mem k).1 hk with e|q
  .subst e;rw[aR O];exact⟨ha,J⟩
  rw[aP (ne k q)];exact h.lt k q
 .rw[e1];unfold m4;have:=h.odI k;split<;>omega
 .have:=Zh (l:=od) (k:=a) (v:=tm+1) (by rw[h.RO];exact ha) h0 J
  have:=h.cnt;omega
 .rw[e1,e2];exact h.RP.enter hna (fun k hk=>by have:=(h.odI k).2;omega) (.refl a) hw
 .rw[e1,e2,es];exact h.kne.enter hna (fun q=>q.2.1 h0) (fun j q=>by obtain⟨_,_,i,hi,_⟩:=q;have:=h.nx0 a h0;omega) h1 h2
 .rw[e1]at hk;unfold m4 at hk
  by_cases e:k=a
  .rw[aR e]at hk;omega
  rw[aP e]at hk;exact hn k hk
 rw[es];exact h.fin
theorem qx.first(h:qx gl od lo on tm kq [] nx)(ha:a<gl.length)(h0:nr od a=0):qx gl (od.set a (tm+1)) (lo.set a (tm+1)) (on.set a true) (tm+1) kq [(a,[])] nx:=
 h.auN ha h0 h.nx0 (fun _ _ q=>q) (fun _ _ q=> .inl q) fun x hx=>by cases hx
theorem qx.enter(h:qx gl od lo on tm kq ((p,sp)::F) nx)(hl:nx p<(gl.getD p []).length)(hk:(gl.getD p []).getD (nx p) 0=(a:Int))(ha:a<gl.length)(h0:nr od a=0):
  qx gl (od.set a (tm+1)) (lo.set a (tm+1)) (on.set a true) (tm+1) kq ((a,[])::(p,sp)::F) (pJ nx p):=
 h.auN ha h0 (QK h) (fun k j=>Cv) (fun k j q=>(E3 q).imp id fun⟨q1,q2⟩=>⟨J,by subst q1;exact⟨_,_,rfl⟩⟩) fun x hx=>by
  have e:=h.auM hl ha hk
  rcases cT.1 hx with q|q
  .subst q;exact .one e
  exact((lE.1 h.RP.way).1 x q).trans (.one e)
theorem qx.all(h:qx gl od lo on tm kq ((a,sg)::F) nx)(hd:¬nx a<(gl.getD a []).length):∀j,uE gl a j->s7 gl nx a j:=by grind[qx,kq,uE,s7]
theorem qx.Tu(h:qx gl od lo on tm kq ((a,sg)::(p,sp)::F) nx)(hd:¬nx a<(gl.getD a []).length)(hne:nr lo a≠nr od a):
  qx gl od (lo.set p (min (nr lo p) (nr lo a))) on tm kq ((p,sg++a::sp)::F) nx:=by
 have e0:eT ((p,sg++a::sp)::F)=eT ((a,sg)::(p,sp)::F):=by simp[eT]
 have hp:=h.lt p (iL (x:=(p,sp)) aA)
 have e1:=yQ (l:=lo) (k:=p) (v:=min (nr lo p) (nr lo a)) P0
 have hlo:=(h.RP.lo a Cu).1
 have es:zF od ((p,sg++a::sp)::F)=zF od ((a,sg)::(p,sp)::F):=by unfold zF;rw[e0]
 refine⟨h.RO,by rw[mD];exact h.llo,h.lon,h.lof,by rw[e0];exact h.onI,by rw[e0];exact h.lt,h.odI,h.cnt,?_,?_,h.nx0,by rw[es];exact h.fin⟩
 .rw[e1];exact h.RP.Tu (fun _ _ _=>jr.trans) J
 rw[e1,es];exact h.kne.Tu h.RP (h.all hd)
theorem qx.close{on':List Bool}{of':List Int}(h:qx gl od lo on tm kq ((a,sg)::F) nx)(hd:¬nx a<(gl.getD a []).length)(he:nr lo a=nr od a)
  (l1:on'.length=gl.length) (l2:of'.length=gl.length) {m:Int} (hm:∃j,(j=a\/j∈sg)/\m=((j:Nat):Int)) (Lz:∀j,(j=a\/j∈sg)->m<=((j:Nat):Int))
  (ho:∀k,k<gl.length->on'.getD k false=if k=a\/k∈sg then false else on.getD k false) (hf:∀k,k<gl.length->nr of' k=if k=a\/k∈sg then m else nr kq k):qx gl od lo on' tm of' F nx:=by
 have hb:=h.RP.below
 have mem:∀k,k∈eT ((a,sg)::F)↔k∈sg\/k=a\/k∈eT F:=fun k=>by rw[gh];simp
 have ex:∀k,k∈eT F->¬(k=a\/k∈sg):=fun k hk q=>by
  have:=hb.1 k hk
  rcases q with q|q
  .subst q;omega
  have:=hb.2 k q;omega
 have es:zF od F=fun k=>zF od ((a,sg)::F) k\/k=a\/k∈sg:=by
  funext k;apply propext
  unfold zF
  rw[mem]
  constructor
  .intro⟨h1,h2,h3⟩
   by_cases e:k=a\/k∈sg
   .exact .inr e
   exact .inl ⟨h1,h2,fun q=>q.elim (fun q=>e (.inr q)) fun q=>q.elim (fun q=>e (.inl q)) h3⟩
  rintro(⟨h1,h2,h3⟩|q)
  .exact⟨h1,h2,fun q=>h3 (.inr (.inr q))⟩
  have hl:=h.lt k ((mem k).2 (q.elim (fun q=> .inr (.inl q)) .inl))
  exact⟨by rw[h.RO];exact hl.1,by have:=hl.2;omega,fun q2=>ex k q2 q⟩
 refine⟨h.RO,h.llo,l1,l2,fun k hk=> ?_,fun k hk=>h.lt k ((mem k).2 (.inr (.inr hk))),h.odI,h.cnt,h.RP.close,by rw[es];exact h.kne.close h.RP he (h.all hd),h.nx0,fun k hk=> ?_⟩
 .rw[ho k hk]
  by_cases e:k=a\/k∈sg
  .rw[aR e];exact⟨fun q=>by simp at q,fun q=>absurd e (ex k q)⟩
  rw[aP e,h.onI k hk,mem];exact⟨fun q=>q.elim (fun q=>absurd (.inr q) e) fun q=>q.elim (fun q=>absurd (.inl q) e) id,fun q=> .inr (.inr q)⟩
 rw[es]at hk
 rcases hk with q|q
 .have hl:k<gl.length:=by rw[<-h.RO];exact q.1
  have e:¬(k=a\/k∈sg):=fun c=>q.2.2 ((mem k).2 (c.elim (fun q=> .inr (.inl q)) .inl))
  rw[hf k hl,aP e];exact h.fin k q
 have hl:=(h.lt k ((mem k).2 (q.elim (fun q=> .inr (.inl q)) .inl))).1
 rw[hf k hl,aR q]
 have hi:=fun y=>h.kne.iff h.RP he (h.all hd) (k:=k) (y:=y) q
 obtain⟨j,hj,ej⟩:=hm
 exact⟨⟨j,ej,(hi j).2 hj⟩,fun y hy=>Lz y ((hi y).1 hy)⟩
theorem qx.root(h:qx gl od lo on tm kq [(a,sg)] nx):nr lo a=nr od a:=h.RP.root
theorem qx.keep(h:qx gl od lo on tm kq ((a,sg)::(p,sp)::F) nx)(he:nr lo a=nr od a):lo.set p (min (nr lo p) (nr lo a))=lo:=by
 have h1:=(h.RP.lo p (iL (x:=(p,sp)) aA)).1
 have h2:=h.RP.below.1 p (iL (x:=(p,sp)) aA)
 have hp:=h.lt p (iL (x:=(p,sp)) aA)
 apply sF
 intro i
 rw[tO]
 by_cases e:p=i
 .subst e
  rw[aR O,aR P0,VL J]
  unfold nr;rw[ep,dO P0];rfl
 rw[aP e]
end
def fX{α:Type}(l:List α)(ks:List Int)(v:α):List α:=ks.foldl (fun l k=>l.set k.toNat v) l
theorem iy{α:Type}{v:α}:∀{ks:List Int} {l:List α},(fX l ks v).length=l.length
 |[],l=>rfl
 |k::ks,l=>by
  show(fX (l.set k.toNat v) ks v).length=_
  rw[iy,mD]
theorem rE{α:Type}{v d:α}{i:Nat}:∀{ks:List Int} {l:List α},i<l.length->(∀k∈ks,0<=k)->(fX l ks v).getD i d=if(i:Int)∈ks then v else l.getD i d
 |[],l,_,_=>by simp[fX]
 |k::ks,l,hi,hk=>by
  have h0:=hk k aA
  show(fX (l.set k.toNat v) ks v).getD i d=_
  rw[rE (by rw[mD];exact hi) fun q hq=>hk q (by simp[hq])]
  by_cases c:(i:Int)∈ks
  .rw[aR c,aR (by simp[c])]
  rw[aP c,ep,tO]
  by_cases e:k.toNat=i
  .rw[aR e,aR J,aR hG];rfl
  rw[aP e,<-ep,aP (by simp[c];omega)]
theorem Bn{α:Type}{v:α}{l:List α}{ks:List Int}{k:Int}(h0:0<=k)(h1:k<ks.length):fX l (ks.take (k+1).toNat) v=(fX l (ks.take k.toNat) v).set (ks.getD k.toNat 0).toNat v:=by
 have hk:k.toNat<ks.length:=J
 unfold fX
 rw[show(k+1).toNat=k.toNat+1 by omega,HL hk,ep,dO hk,wh]
 rfl
def Bo(m:Int)(ks:List Int):Int:=ks.foldl min m
theorem abG{m:Int}{ks:List Int}{k:Int}(h0:0<=k)(h1:k<ks.length):Bo m (ks.take (k+1).toNat)=min (Bo m (ks.take k.toNat)) (ks.getD k.toNat 0):=by
 have hk:k.toNat<ks.length:=J
 unfold Bo
 rw[show(k+1).toNat=k.toNat+1 by omega,HL hk,ep,dO hk,wh]
 rfl
theorem Zi:∀{ks:List Int} {m:Int},(Bo m ks=m\/Bo m ks∈ks)/\Bo m ks<=m/\∀k∈ks,Bo m ks<=k
 |[],m=>⟨.inl O,kY _,fun k h=>n4⟩
 |a::ks,m=>by
  obtain⟨h1,h2,h3⟩:=Zi (ks:=ks) (m:=min m a)
  have e:Bo m (a::ks)=Bo (min m a) ks:=rfl
  rw[e]
  refine⟨?_,J,fun k hk=> ?_⟩
  .rcases h1 with q|q
   .by_cases c:m<=a
    .exact .inl J
    exact .inr (by rw[cT];exact .inl J)
   exact .inr (by simp[q])
  rcases cT.1 hk with q|q
  .subst q;omega
  exact h3 k q
theorem af9{l:List Nat}{k:Nat}:(k:Int)∈NI l↔k∈l:=by grind[NI]
theorem Zj{l:List Nat}{x:Int}(h:x∈NI l):∃k,k∈l/\x=((k:Nat):Int):=by grind[NI]
section
variable{gl:List (List Int)}{od lo:List Int}{on:List Bool}{tm:Int}{kq:List Int}{F:RN}{nx:Nat->Nat}{a b p:Nat}{sg sp:List Nat}
theorem qx.auP{ks:List Int}(h:qx gl od lo on tm kq ((a,sg)::F) nx)(hd:¬nx a<(gl.getD a []).length)(he:nr lo a=nr od a)(hks:ks=(a:Int)::NI sg.reverse):
  qx gl od lo (fX on ks false) tm (fX kq ks (Bo a ks)) F nx:=by
 have hin:∀x,x∈ks->∃j,(j=a\/j∈sg)/\x=((j:Nat):Int):=fun x hx=>by
  rw[hks]at hx
  rcases cT.1 hx with q|q
  .exact⟨a,.inl O,q⟩
  obtain⟨k,hk,e⟩:=Zj q;exact⟨k,.inr (by simpa using hk),e⟩
 have hmem:∀k:Nat,(k:Int)∈ks↔(k=a\/k∈sg):=fun k=>by
  rw[hks,cT,af9,List.mem_reverse]
  exact or_congr J AV
 have hpos:∀x,x∈ks->0<=x:=fun x hx=>by obtain⟨j,_,e⟩:=hin x hx;omega
 obtain⟨m1,m2,m3⟩:=Zi (ks:=ks) (m:=a)
 refine h.close hd he (by rw[iy];exact h.lon) (by rw[iy];exact h.lof) (m:=Bo a ks) ?_ (fun j hj=>m3 _ ((hmem j).2 hj)) (fun k hk=> ?_) fun k hk=> ?_
 .rcases m1 with q|q
  .exact⟨a,.inl O,q⟩
  exact hin _ q
 .rw[rE (by rw[h.lon];exact hk) hpos]
  by_cases c:(k:Int)∈ks
  .rw[aR c,aR ((hmem k).1 c)]
  rw[aP c,aP fun q=>c ((hmem k).2 q)]
 show(fX kq ks (Bo a ks)).getD k 0=_
 rw[rE (by rw[h.lof];exact hk) hpos]
 by_cases c:(k:Int)∈ks
 .rw[aR c,aR ((hmem k).1 c)]
 rw[aP c,aP fun q=>c ((hmem k).2 q)];rfl
theorem Zk:NI (eT ((a,sg)::F)).reverse=NI (eT F).reverse++(a:Int)::NI sg.reverse:=by
 rw[gh];simp[NI]
theorem qx.apE(h:qx gl od lo on tm kq ((a,sg)::F) nx):(a:Int)∉NI sg.reverse:=fun q=>by
 have:=h.RP.below.2 a (by simpa using af9.1 q);omega
theorem uF:oD ((a,sg)::F) nx=oD F nx++[⟨a,nx a⟩]:=by simp[oD]
theorem nh:(oD F nx).length=F.length:=by simp[oD]
theorem aga(h:qx gl od lo on tm kq ((a,sg)::F) nx):(oD ((a,sg)::F) nx).set F.length ⟨a,(nx a:Int)+1⟩=oD ((a,sg)::F) (pJ nx a):=by
 have e:oD F (pJ nx a)=oD F nx:=by
  unfold oD
  apply FT
  intro x hx
  have hx':x∈F:=by simpa using hx
  have:=h.RP.below.1 x.1 (iL hx')
  unfold pJ;rw[aP (fun e=>by rw[e]at this;omega)]
 rw[uF,uF,e,<-nh (F:=F) (nx:=nx),Vl _ _ (eI _),JO]
 unfold pJ;rw[aR O];rfl
theorem QL:(oD ((a,sg)::F) nx).getD F.length ⟨0,0⟩=⟨a,nx a⟩:=by grind[uF,nh]
theorem Tv:(oD ((a,sg)::F) nx).take F.length=oD F nx:=by grind[uF,nh]
end
end
end Go.Proofs.YtlhjdflgjbkpmaaGreatDoor.M
namespace Go.Proofs.YtlhjdflgjbkpmaaGreatDoor.E
section
open Go Go.RowKit Go.Proofs.YtlhjdflgjbkpmaaGreatDoor.M
def Ix:CB:=⟨0,0⟩
def E4(x:CB):List Value:=[I x.node,I x.next]
theorem l8(x:CB):(E4 x).length=2:=rfl
theorem agb{x:CB}:∀u∈E4 x,u.oneCell'=true:=fun u hu=>by
 simp only[E4,cT,FW,AP]at hu
 rcases hu with rfl|rfl<;>rfl
end
end Go.Proofs.YtlhjdflgjbkpmaaGreatDoor.E
namespace Go.Proofs.YtlhjdflgjbkpmaaGreatDoor.M
section
open Go
section
variable{gl:List (List Int)}{od lo:List Int}{on:List Bool}{tm:Int}{kq:List Int}{F:RN}{nx:Nat->Nat}{a b p:Nat}{sg sp:List Nat}
theorem aqa(h:((oD F nx).length:Int)>0):∃a sg F0,F=(a,sg)::F0:=by
 cases F with
 |nil=>simp[oD]at h
 |cons x F0=>exact⟨x.1,x.2,F0,rfl⟩
theorem agc:NI (eT F).reverse++[(a:Int)]=NI (eT ((a,[])::F)).reverse:=by rw[Zk];rfl
theorem agd(h:nx a=0):oD F nx++[⟨a,0⟩]=oD ((a,[])::F) nx:=by rw[uF,h];rfl
theorem age:NI (eT ((a,sg)::(p,sp)::F)).reverse=NI (eT ((p,sg++a::sp)::F)).reverse:=by grind[eT]
theorem agf:oD ((p,sp)::F) nx=oD ((p,sg++a::sp)::F) nx:=by rw[uF,uF]
theorem qx.DP(h:qx gl od lo on tm kq ((a,sg)::F) nx):a<gl.length:=(h.lt a Cu).1
theorem Zl(h:qx gl od lo on tm kq F nx):(eT F).length<=gl.length:=by
 have hn:(eT F).Nodup:=h.RP.Lx.imp fun q e=>by rw[e]at q;omega
 have:=Jf hn (m:=List.range gl.length) fun k hk=>pn.2 (h.lt k hk).1
 rwa[Py]at this
theorem akO(h:qx gl od lo on tm kq F nx):F.length<=(eT F).length:=by
 clear h
 induction F with
 |nil=>simp
 |cons x F ih=>rw[show x=(x.1,x.2)from O,gh];simp;omega
theorem auQ(h:(F.length:Int)>0):∃p sp F1,F=(p,sp)::F1:=by
 cases F with
 |nil=>simp at h
 |cons x F1=>exact⟨x.1,x.2,F1,rfl⟩
end
theorem OfK.same{E:Nat->Nat->Prop}{k:Nat}{o p:Int}(h:OfK E k o)(h2:OfK E k p):o=p:=by grind[OfK]
open Classical in
noncomputable def ofK(E:Nat->Nat->Prop)(k:Nat):Int:=if h:∃o,OfK E k o then Classical.choose h else 0
theorem agh{E:Nat->Nat->Prop}{k:Nat}{o:Int}(h:OfK E k o):ofK E k=o:=by
 unfold ofK
 rw[dif_pos ⟨o,h⟩]
 exact(Classical.choose_spec (⟨o,h⟩:∃o,OfK E k o)).same h
noncomputable def oe(gl:List (List Int)):List Int:=(List.range gl.length).map (ofK (uE gl))
section
variable{gl:List (List Int)}{od lo:List Int}{on:List Bool}{tm:Int}{kq:List Int}{nx:Nat->Nat}
theorem qx.done(h:qx gl od lo on tm kq [] nx)(ha:∀k,k<gl.length->nr od k≠0):kq=oe gl:=by
 apply sF
 intro k
 unfold oe
 rw[ph]
 by_cases c:k<gl.length
 .rw[xV c,dO (by rw[h.lof];exact c)]
  have:=h.fin k ⟨by rw[h.RO];exact c,ha k c,by simp[eT]⟩
  rw[pT,agh this]
  unfold nr;rw[ep,dO (by rw[h.lof];exact c)];rfl
 rw[mJ (by rw[h.lof];omega),mJ J2];rfl
theorem akP:(oe gl).length=gl.length:=by simp[oe]
theorem Zm{n k:Nat}:nr (List.replicate n 0) k=0:=by grind[nr]
theorem qx.start{n:Nat}(h:gl.length=n):qx gl (List.replicate n 0) (List.replicate n 0) (List.replicate n false) 0 (List.replicate n 0) [] (fun _=>0):=by
 have hs:∀k,¬zF (List.replicate n 0) [] k:=fun k q=>q.2.1 Zm
 refine⟨by simp[h],by simp[h],by simp[h],by simp[h],fun k hk=> ?_,fun k hk=>by simp[eT]at hk,fun k=>by rw[Zm];omega,by simp[h],Ep.nil,Ni.nil fun k q=>absurd q (hs k),fun _ _=>rfl,fun k q=>absurd q (hs k)⟩
 rw[ep,Vg]
 simp[eT]
 split<;>rfl
end
end
end Go.Proofs.YtlhjdflgjbkpmaaGreatDoor.M
namespace Go.Proofs.YtlhjdflgjbkpmaaGreatDoor.E
section
open Go Go.RowKit Go.Proofs.YtlhjdflgjbkpmaaGreatDoor.M
structure vK(T:FTy)(F m:Nat)(cs:List (List Nat))(vW vU:Value)(cW cU:Option (Nat×Array Value))(W:List (BitVec 64))(ul:List (Value×jh))(ts:List Int)(cn:Int)(L:List a8):Prop where
 fo:∃tn,ts=Iw tn/\FoI T F m cs vW vU vW cW cU W ul tn L
 cn:cn=((leads (bg cs):Nat):Int)
section
variable{T:FTy}{F m m':Nat}{cs:List (List Nat)}{vW vU:Value}{cW cU:Option (Nat×Array Value)}{W:List (BitVec 64)}{ul:List (Value×jh)}{ts:List Int}{cn:Int}{L L':List a8}
theorem vK.mono(h:vK T F m cs vW vU cW cU W ul ts cn L)(hs:∀e∈L,e∈L'):vK T F m cs vW vU cW cU W ul ts cn L':=by
 obtain⟨tn,e,i⟩:=h.fo
 exact⟨⟨tn,e,i.hW,i.hU,i.hs,i.ok,fun x hx=>(i.un x hx).mono hs,i.lu,i.lt⟩,h.cn⟩
theorem vK.more(h:vK T F m cs vW vU cW cU W ul ts cn L)(hm:m<=m'):vK T F m' cs vW vU cW cU W ul ts cn L:=by
 obtain⟨tn,e,i⟩:=h.fo
 exact⟨⟨tn,e,i.hW,i.hU,i.hs,i.ok,i.un,by have:=i.lu;omega,by have:=i.lt;omega⟩,h.cn⟩
theorem vK.hW(h:vK T F m cs vW vU cW cU W ul ts cn L):cO cW vW (W.map U):=by obtain⟨tn,e,i⟩:=h.fo;exact i.hW
theorem vK.hU(h:vK T F m cs vW vU cW cU W ul ts cn L):cO cU vU (ul.map Prod.fst):=by obtain⟨tn,e,i⟩:=h.fo;exact i.hU
theorem vK.now(h:vK T F m cs vW vU cW cU W ul ts cn L):∃nd cl zx,cs=cl::zx/\W=bx nd/\Fo nd cl/\nd.length=cl.length/\cl.length<=m/\ts.length+1=cs.length/\leads cl<=m:=by
 obtain⟨tn,rfl,i⟩:=h.fo
 obtain⟨nd,cl,zx,h1,h2,h3,h4,h5,h6,h7⟩:=i.now
 exact⟨nd,cl,zx,h1,h2,h3,h4,h5,by rw[vJ];exact h6,h7⟩
theorem vK.ne(h:vK T F m cs vW vU cW cU W ul ts cn L):0<cs.length:=by obtain⟨nd,cl,zx,e,_⟩:=h.now;subst e;simp
end
def qE(c:Option (Nat×Array Value))(v:Value)(e:TypeId)(xs:List Value):a8:=
 match c with
 |none=> .row v e 1 xs.length xs
 |some (b,cur)=> .blk b (.cells cur e (0,0))
def qO(c:Option (Nat×Array Value))(v:Value)(xs:List Value):Prop:=
 match c with
 |none=>True
 |some (b,cur)=>∃o cap,v= .slice (some ⟨b,o,none⟩) xs.length cap/\xs.length<=cap/\o+cap<=cur.size/\(cur.toList.drop o).take xs.length=xs/\cap<=maxLen
theorem Zp{b o k cap:Nat}:nS (.slice (some ⟨b,o,none⟩) (k+1) cap) 1 1= .slice (some ⟨b,if cap=1 then o else o+1,none⟩) k (cap-1):=by grind[nS,Bg]
section
variable{P:Program}{σ:Env}{w0 w:World}{L:List a8}{c:Option (Nat×Array Value)}{v u x0:Value}{e t ty:TypeId}{xs news:List Value}{i m:Nat}{pos:String}{bH:Array Edge}{dst:Option Tmp}{g:Option (Nat×Bool)}{x y:Operand}
theorem Hp.slQ(h:Hp w0 w L)(hi:L[i]?=some (qE c v e xs))(hk:qO c v xs):Sl w v 1 xs.length xs:=by
 cases c with
 |none=>exact h.sl hi
 |some bc=>
  obtain⟨b,cur⟩:=bc
  obtain⟨o,cap,rfl,h1,h2,h3,h4⟩:=hk
  refine⟨⟨_,cap,rfl,h1,fun _=>rfl⟩,J,fun j u hu=> ?_,J⟩
  simp only[sb,so]
  rw[wu w _ _ cur e (0,0) (h.blk hi)]
  rw[<-h3,tM]at hu
  split at hu
  .rw[xW]at hu;simpa using hu
  .cases hu
theorem Hp.auR(h:Hp w0 w L)(hi:L[i]?=some (qE c v e (x0::xs)))(hk:qO c v (x0::xs)):∃c',qO c' (nS v 1 1) xs/\Hp w0 w (L.set i (qE c' (nS v 1 1) e xs)):=by
 cases c with
 |none=>
  have hr:w.ownsRow w0.heap.size e 1 v (x0::xs).length (x0::xs):=h.get hi
  obtain⟨h1,h2⟩:=hr
  rcases h2 with⟨rfl,q⟩|⟨gb,cap,cur,rfl,hb,hg,hn,hc,hs,ht⟩
  .simp at q
  rw[eE]at hn
  rw[kX]at hs ht
  refine⟨some (gb,cur),⟨if cap=1 then 0 else 0+1,cap-1,Zp,J,by split<;>omega,?_,J⟩,h.vI hi O ⟨hb,hg⟩⟩
  rw[eE]at ht
  by_cases q:cap=1
  .have e0:xs.length=0:=J
   rw[e0,we];exact(Et e0).symm
  rw[aP q]
  cases n8:cur.toList with
  |nil=>rw[n8]at ht;simp at ht
  |cons a l=>
   rw[n8]at ht
   simp at ht⊢
   exact ht.2
 |some bc=>
  obtain⟨b,cur⟩:=bc
  obtain⟨o,cap,rfl,h1,h2,h3,h4⟩:=hk
  rw[eE]at h1
  refine⟨some (b,cur),⟨if cap=1 then o else o+1,cap-1,Zp,J,by split<;>omega,?_,J⟩,h.vI hi O (h.get hi)⟩
  rw[eE]at h3
  by_cases q:cap=1
  .have e0:xs.length=0:=J
   rw[e0,we];exact(Et e0).symm
  rw[aP q,<-PE]
  cases n8:cur.toList.drop o with
  |nil=>rw[n8]at h3;simp at h3
  |cons a l=>
   rw[n8]at h3
   simp at h3⊢
   exact h3.2
theorem akQ{ie:TypeInfo}{z:Value}{bytes:Nat}(h:Hp w0 w L)(hi:L[i]?=some (qE c v e xs))(hk:qO c v xs)(hS:Sl w u 1 1 [x0])
  (hx:ev σ x=v) (hy:ev σ y=u) (ht:P.underlying t=some (.slice e)) (hie:P.info? e=some ie) (hz:ie.zero=some z)
  (hsize:ie.size=1) (hby:ie.bytes=bytes) (hzs:z.cells.size=1) (h1:x0.oneCell'=true) (hb:xs.length+1<=1000000000) (Ip:bytes<=1000):
  ∃v' c' w',(execOp (ev σ) ⟨dst,.call {callee:= .builtin .append,args:=#[x,y],argTypes:=#[t,t]},ty,pos,bH,g⟩).run P w= .ok (.value v') w'/\qO c' v' (xs++[x0])/\Hp w0 w' (L.set i (qE c' v' e (xs++[x0]))):=by
 have hbytes:(xs.length+1)*bytes<=140737488355328:=kg (wm hb Ip) ay
 have h63:xs.length+1<=maxLen:=by simp only[maxLen];omega
 have hone:∀q∈[x0],q.oneCell'=true:=fun q hq=>by rw[fG.1 hq];exact h1
 cases c with
 |none=>
  obtain⟨v',w',hr,h2,h3,h4⟩:=rQ (P:=P) (ty:=ty) ht hie hz hsize hby hzs J (h.get hi) hS hone h63 hbytes h.size
  refine⟨v',none,w',rN hx hy hr,trivial,?_⟩
  have:=h.xd hi h2 h3 h4
  unfold qE;rw[cV];exact this
 |some bc=>
  have hX:=h.slQ hi hk
  obtain⟨b,cur⟩:=bc
  obtain⟨o,cap,rfl,k1,k2,k3,k4⟩:=hk
  obtain⟨a,SS,hu,huc,hua⟩:=hS.shape
  have aBG:=hua J
  generalize hB:sb u=B at*
  generalize hO:so u=Ozz at*
  subst aBG
  have hnews:∀j q,[x0][j]?=some q->w.cell? ((⟨B,Ozz,none⟩:Addr).add j)=some q:=fun j q hq=>by
   have:=hS.cell j q hq
   rw[hB,hO]at this
   rw[Bg];exact this
  subst hu
  by_cases room:xs.length+1<=cap
  .have hg:=h.blk hi
   have hf:=run_firstCells_some (P:=P) w 1 1 _ 1 SS [x0] O hnews
   have hst:=Vy P b (o+xs.length*1) e [x0] 0 cur w hg hG hone
   simp only[JP]at hst
   have hr:(Builtin.append_ #[t,t] ty #[.slice (some ⟨b,o,none⟩) xs.length cap,.slice (some ⟨B,Ozz,none⟩) 1 SS]).run P w= .ok (.slice (some ⟨b,o,none⟩) (xs.length+1) cap) (w.setRow b (cur.toList.take (o+xs.length*1)++[x0]++cur.toList.drop (o+xs.length*1+[x0].length)).toArray):=by
    simp only[kX]at hst⊢
    simp[Builtin.append_,jG ht,sizeOf,typeInfo,hie,hsize,Builtin.lenOf,room,hf,Addr.add_lit,hst]
   refine⟨_,some (b,(cur.toList.take (o+xs.length*1)++[x0]++cur.toList.drop (o+xs.length*1+[x0].length)).toArray),_,rN hx hy hr,⟨o,cap,by rw[cV,gI],by simpa using room,?_,?_,k4⟩,h.set hi⟩
   .simp only[tQ,cV,eD,vk,gI,Dr];omega
   have hl:cur.toList.length=cur.size:=Dr
   have e1:((cur.toList.take (o+xs.length*1)++[x0]++cur.toList.drop (o+xs.length*1+[x0].length)).drop o)=(cur.toList.drop o).take xs.length++([x0]++cur.toList.drop (o+xs.length*1+[x0].length)):=by
    rw[dg,Jr (by rw[eD];omega),List.drop_take]
    congr 2;omega
   show List.take (xs++[x0]).length (List.drop o (cur.toList.take (o+xs.length*1)++[x0]++cur.toList.drop (o+xs.length*1+[x0].length)))=_
   rw[e1,k3,cV,Vb]
   rfl
  have holds:∀j q,xs[j]?=some q->w.cell? ((⟨b,o,none⟩:Addr).add j)=some q:=fun j q hq=>by
   rw[Bg]
   have:=hX.cell j q hq
   simpa[sb,so]using this
  obtain⟨v',w',hr,h2,h3⟩:=run_append_arg_grows (P:=P) (w:=w) t ty e ie z 1 bytes ht hie hz hsize hby hzs J ⟨b,o,none⟩ xs.length cap xs J holds _ 1 SS [x0] O hnews J h63 hbytes
  refine⟨v',none,w',rN hx hy hr,trivial,?_⟩
  have aBH:Below w.heap.size w w':=(Below.refl w.heap.size w).grown h3 (eI _) (fun k hk=>by cases hk)
  have:=(h.B9 aBH h2).swap (mC.1 hi).1
  unfold qE;rw[cV];exact this
variable{n d:Nat}{ops:Array Oper}{k:K}{rest:List Oper}
theorem aqb{ie:TypeInfo}{z:Value}{bytes:Nat}{α:Type}{f:α->Value}{l:List α}{a:α}(hd:Nat.blt d n=true)(h:Hp w0 w L)(hi:L[i]?=some (qE c v e (l.map f)))(hk:qO c v (l.map f))(hS:Sl w u 1 1 [f a])
  (hx:ev σ x=v) (hy:ev σ y=u) (ht:P.underlying t=some (.slice e)) (hie:P.info? e=some ie) (hz:ie.zero=some z)
  (hsize:ie.size=1) (hby:ie.bytes=bytes) (hzs:z.cells.size=1) (h1:(f a).oneCell'=true) (hb:l.length+1<=1000000000) (Ip:bytes<=1000)
  (hn:∀v' c' w',qO c' v' ((l++[a]).map f)->Hp w0 w' (L.set i (qE c' v' e ((l++[a]).map f)))->RL P n ops k rest (k7 σ d v') w'):RL P n ops k (⟨some d,.call {callee:= .builtin .append,args:=#[x,y],argTypes:=#[t,t]},ty,pos,bH,none⟩::rest) σ w:=by
 obtain⟨v',c',w',hr,h2,h3⟩:=akQ (P:=P) (ty:=ty) (dst:=some d) (pos:=pos) (bH:=bH) (g:=none) h hi hk hS hx hy ht hie hz hsize hby hzs h1 (by rw[fx];exact hb) Ip
 rw[<-JA (f:=f),<-gp]at h2 h3
 exact n5 hd hr (hn v' c' w' h2 h3)
end
abbrev Va:=Nat->El
structure sD where
 sh:Sh
 ev:Va->El
 to:Option Nat
 c:El
 vars:List Nat
structure Sys where
 n:Nat
 sh:Nat->Sh
def o6(S:Sys)(u:Va):Prop:=∀i,i<S.n->cf (S.sh i) (u i)=true
def LeV(S:Sys)(u v:Va):Prop:=∀i,i<S.n->cK (u i) (v i)=true
structure s8(S:Sys)(q:sD):Prop where
 fit:∀u,o6 S u->cf q.sh (q.ev u)=true
 lt:∀i,i∈q.vars->i<S.n
 OG:∀u v,o6 S u->o6 S v->(∀i,i∈q.vars->cK (u i) (v i)=true)->cK (q.ev u) (q.ev v)=true
 to:∀k,q.to=some k->k<S.n/\S.sh k=q.sh
def sD.rhs(q:sD)(u:Va):El:=match q.to with
 |some k=>u k
 |none=>q.c
def eO(q:sD)(u:Va):Prop:=cK (q.ev u) (q.rhs u)=true
structure tC(S:Sys)(Q:sD->Prop)(u:Va):Prop where
 fit:o6 S u
 hold:∀q,Q q->q.to≠none->eO q u
def E5(v:Va)(k:Nat)(e:El):Va:=fun i=>if i=k then e else v i
structure Bp(S:Sys)(Q:sD->Prop)(v:Va):Prop where
 fit:o6 S v
 low:∀u,tC S Q u->LeV S v u
structure sS(S:Sys)(Q:sD->Prop)(v:Va):Prop where
 low:Bp S Q v
 sol:∀q,Q q->q.to≠none->eO q v
theorem s8.mono{S:Sys}{q:sD}(h:s8 S q)(u v:Va)(hu:o6 S u)(hv:o6 S v)(hl:LeV S u v):cK (q.ev u) (q.ev v)=true:=h.OG u v hu hv fun i hi=>hl i (h.lt i hi)
section
variable{S:Sys}{Q Q':sD->Prop}{u v w:Va}{q:sD}{k:Nat}{e:El}
theorem eP{a b c:El}(h:cK a b=true)(h2:cK b c=true):cK a c=true:=by grind[oO,lf]
theorem kC{a b:El}(h:qK a b):cK a b=true:=oO.2 fun i hi=>by rw[h i hi];exact rZ _
theorem sS.is(h:sS S Q v):tC S Q v:=⟨h.low.fit,h.sol⟩
theorem sS.same(h:sS S Q v)(h2:sS S Q w):∀i,i<S.n->qK (v i) (w i):=fun i hi=>WC (h.low.low w h2.is i hi) (h2.low.low v h.is i hi)
theorem Zu(hs:∀i,i<S.n->qL (S.sh i)=true)(hv:∀i,i<S.n->v i=gQ (S.sh i) eM):Bp S Q v:=
 ⟨fun i hi=>by rw[hv i hi];exact(N7 (hs i hi)).1,fun u hu i hi=>by rw[hv i hi];exact(N7 (hs i hi)).2 _ (hu.fit i hi)⟩
theorem Bp.raise(h:Bp S Q v)(hq:Q q)(ho:s8 S q)(hk:q.to=some k):Bp S Q (E5 v k (fh q.sh (v k) (q.ev v))):=by
 obtain⟨k1,k2⟩:=ho.to k hk
 have fk:=h.fit k k1
 rw[k2]at fk
 refine⟨fun i hi=> ?_,fun u hu i hi=> ?_⟩
 .unfold E5
  by_cases e:i=k
  .rw[aR e,e,k2];exact GJ fk (ho.fit v h.fit)
  rw[aP e];exact h.fit i hi
 unfold E5
 by_cases e:i=k
 .rw[aR e,e]
  have h1:=h.low u hu
  have h2:=hu.hold q hq (by rw[hk];simp)
  unfold eO sD.rhs at h2
  rw[hk]at h2
  have fu:=hu.fit k k1
  rw[k2]at fu
  exact YM fk (ho.fit v h.fit) fu (h1 k k1) (eP (ho.mono v u h.fit hu.fit h1) h2)
 rw[aP e];exact h.low u hu i hi
theorem Bp.more(h:Bp S Q v)(hq:∀q,Q q->Q' q):Bp S Q' v:=⟨h.fit,fun u hu=>h.low u ⟨hu.fit,fun q h1 h2=>hu.hold q (hq q h1) h2⟩⟩
theorem Bp.auT(h:Bp S Q v)(ho:s8 S q)(hk:q.to=none)(hf:¬eO q v):∀u,tC S Q u->¬eO q u:=fun u hu hh=>hf (by
 unfold eO sD.rhs at hh⊢
 rw[hk]at hh⊢
 exact eP (ho.mono v u h.fit hu.fit (h.low u hu)) hh)
def pC(S:Sys)(Q:sD->Prop)(C:Nat->Prop):Prop:=∀u,tC S Q u->∀i k,C i->C k->qK (u i) (u k)
def qf(v:Va)(C:Nat->Prop)[DecidablePred C](e:El):Va:=fun i=>if C i then e else v i
theorem Bp.ring{C:Nat->Prop}[DecidablePred C](h:Bp S Q v)(hC:pC S Q C)(hin:∀i,C i->i<S.n)(hk:C k)(hsh:∀i,C i->S.sh i=S.sh k)(he:cf (S.sh k) e=true)(hl:∀u,tC S Q u->cK e (u k)=true):Bp S Q (qf v C e):=by
 refine⟨fun i hi=> ?_,fun u hu i hi=> ?_⟩
 .unfold qf
  by_cases c:C i
  .rw[aR c,hsh i c];exact he
  rw[aP c];exact h.fit i hi
 unfold qf
 by_cases c:C i
 .rw[aR c];exact eP (hl u hu) (kC (hC u hu k i hk c))
 rw[aP c];exact h.low u hu i hi
theorem Bp.lub(h:Bp S Q v)(hq:Q q)(ho:s8 S q)(hk:q.to=some k):cf (S.sh k) (fh q.sh (v k) (q.ev v))=true/\∀u,tC S Q u->cK (fh q.sh (v k) (q.ev v)) (u k)=true:=by
 have h1:=h.raise hq ho hk
 have k1:=(ho.to k hk).1
 have e:E5 v k (fh q.sh (v k) (q.ev v)) k=fh q.sh (v k) (q.ev v):=aR O
 refine⟨?_,fun u hu=> ?_⟩
 .have:=h1.fit k k1;rwa[e]at this
 have:=h1.low u hu k k1;rwa[e]at this
theorem pC.of{C:Nat->Prop}(hC:∀u,tC S Q u->∀i k,C i->C k->cK (u i) (u k)=true):pC S Q C:=fun u hu i k hi hk=>WC (hC u hu i k hi hk) (hC u hu k i hk hi)
abbrev Qm:=BitVec 64->sD->Prop
def abH(M:Qm):Prop:=∀a b q,dS a b=true->M a q->M b q
def D6(S:Sys)(M:Qm)(v:Va)(ws:Nat->BitVec 64):Prop:=∀k,k<S.n->∀u,tC S (M (ws k)) u->cK (v k) (u k)=true
def Nj(y:BitVec 64)(ws:Nat->BitVec 64)(l:List Nat):BitVec 64:=l.foldl (fun a i=>a|||ws i) y
theorem E6:∀(l:List Nat) (y:BitVec 64) (ws:Nat->BitVec 64),dS y (Nj y ws l)=true/\∀i∈l,dS (ws i) (Nj y ws l)=true
 |[],y,ws=>⟨rZ _,fun i hi=>by cases hi⟩
 |a::l,y,ws=>by
  obtain⟨h1,h2⟩:=E6 l (y|||ws a) ws
  refine⟨lf (Gq _ _) h1,fun i hi=> ?_⟩
  rcases cT.1 hi with e|hi
  .rw[e];exact lf (EN _ _) h1
  exact h2 i hi
theorem tC.less{Q Q':sD->Prop}(h:tC S Q' u)(hq:∀q,Q q->Q' q):tC S Q u:=⟨h.fit,fun q h1 h2=>h.hold q (hq q h1) h2⟩
section
variable{M:Qm}{ws:Nat->BitVec 64}{y:BitVec 64}
theorem D6.ev(h:D6 S M v ws)(hM:abH M)(hv:o6 S v)(ho:s8 S q){W:BitVec 64}(hW:dS (Nj y ws q.vars) W=true)(hu:tC S (M W) u):cK (q.ev v) (q.ev u)=true:=
 ho.OG v u hv hu.fit fun i hi=>h i (ho.lt i hi) u (hu.less fun q hq=>hM _ _ _ (lf ((E6 _ y ws).2 i hi) hW) hq)
theorem D6.stuck(h:D6 S M v ws)(hM:abH M)(hv:o6 S v)(ho:s8 S q)(hk:q.to=none)(hf:¬eO q v):∀u,tC S (M (Nj y ws q.vars)) u->¬eO q u:=fun u hu hh=>hf (by
 unfold eO sD.rhs at hh⊢
 rw[hk]at hh⊢
 exact eP (h.ev hM hv ho (rZ _) hu) hh)
def D7(ws:Nat->BitVec 64)(C:Nat->Prop)[DecidablePred C](W:BitVec 64):Nat->BitVec 64:=fun i=>if C i then W else ws i
theorem D6.raise{C:Nat->Prop}[DecidablePred C](h:D6 S M v ws)(hM:abH M)(hv:o6 S v)(ho:s8 S q)(hk:q.to=some k)(hy:M y q)(hC:pC S (M (ws k)) C)(hck:C k){W:BitVec 64}(hW1:dS (ws k) W=true)(hW2:dS (Nj y ws q.vars) W=true):
  D6 S M (qf v C (fh q.sh (v k) (q.ev v))) (D7 ws C W):=fun i hi u hu=>by
 unfold D7 at hu
 unfold qf
 by_cases c:C i
 .rw[aR c]at hu⊢
  obtain⟨k1,k2⟩:=ho.to k hk
  have hu1:tC S (M (ws k)) u:=hu.less fun q hq=>hM _ _ _ hW1 hq
  have h1:=h.ev hM hv ho hW2 hu
  have h2:=hu.hold q (hM _ _ _ (lf (E6 q.vars y ws).1 hW2) hy) (by rw[hk];simp)
  unfold eO sD.rhs at h2
  rw[hk]at h2
  have fv:=hv k k1;have fu:=hu.fit k k1
  rw[k2]at fv fu
  exact eP (YM fv (ho.fit v hv) fu (h k k1 u hu1) (eP h1 h2)) (kC (hC u hu1 k i hck c))
 rw[aP c]at hu⊢;exact h i hi u hu
theorem D6.ring{C:Nat->Prop}[DecidablePred C](h:D6 S M v ws)(hM:abH M){W:BitVec 64}(hC:pC S (M W) C)(hW:∀i,C i->i<S.n/\dS (ws i) W=true)(he:∀u,tC S (M W) u->∀i,C i->cK e (u i)=true):D6 S M (qf v C e) (D7 ws C W):=fun i hi u hu=>by
 unfold D7 at hu
 unfold qf
 by_cases c:C i
 .rw[aR c]at hu⊢;exact he u hu i c
 rw[aP c]at hu⊢;exact h i hi u hu
end
def yR(H r:Int)(U:Nat):Int:=(H-r)*U
def og(S:Sys)(U:Nat->Nat)(v:Va):Nat->Int
 |0=>0
 |n+1=>og S U v n+yR (fY (S.sh n)) (l6 (S.sh n) (v n)) (U n)
theorem Ji{U:Nat->Nat}(hv:o6 S v):∀n,n<=S.n->0<=og S U v n
 |0,_=>kY _
 |n+1,hn=>by
  have h1:=Ji (U:=U) hv n J
  have h2:=aeL (hv n J)
  have h3:0<=yR (fY (S.sh n)) (l6 (S.sh n) (v n)) (U n):=Int.mul_nonneg J J
  show 0<=og S U v n+_
  omega
theorem QM{U:Nat->Nat}:∀n,og S U (E5 v k e) n=og S U v n+(if k<n then yR (fY (S.sh k)) (l6 (S.sh k) e) (U k)-yR (fY (S.sh k)) (l6 (S.sh k) (v k)) (U k)else 0)
 |0=>by simp[og]
 |n+1=>by
  have ih:=QM (U:=U) n
  show og S U (E5 v k e) n+yR (fY (S.sh n)) (l6 (S.sh n) (E5 v k e n)) (U n)=og S U v n+yR (fY (S.sh n)) (l6 (S.sh n) (v n)) (U n)+_
  rw[ih]
  by_cases h:n=k
  .subst h
   have e1:E5 v n e n=e:=aR O
   rw[e1,aP J,aR J];omega
  have e1:E5 v k e n=v n:=aP h
  rw[e1]
  by_cases h2:k<n
  .rw[aR h2,aR J];omega
  rw[aP h2,aP J];omega
theorem OH{U:Nat->Nat}(hv:o6 S v)(hk:k<S.n)(he:cf (S.sh k) e=true)(hl:cK (v k) e=true)(hne:¬qK e (v k)):og S U (E5 v k e) S.n+U k<=og S U v S.n:=by
 rw[QM,aR hk]
 have h1:=aeM (hv k hk) he hl hne
 have h2:yR (fY (S.sh k)) (l6 (S.sh k) e) (U k)+U k<=yR (fY (S.sh k)) (l6 (S.sh k) (v k)) (U k):=by
  unfold yR
  have:(fY (S.sh k)-l6 (S.sh k) e+1)*(U k:Int)<=(fY (S.sh k)-l6 (S.sh k) (v k))*(U k:Int):=Int.mul_le_mul_of_nonneg_right J J
  rw[Int.add_mul,Int.one_mul]at this
  exact this
 omega
theorem QO{U U':Nat->Nat}:∀n,og S (fun k=>U k+U' k) v n=og S U v n+og S U' v n
 |0=>rfl
 |n+1=>by
  have ih:=QO (U:=U) (U':=U') n
  show og S (fun k=>U k+U' k) v n+yR _ _ (U n+U' n)=og S U v n+yR _ _ (U n)+(og S U' v n+yR _ _ (U' n))
  rw[ih]
  unfold yR
  rw[show((U n+U' n:Nat):Int)=(U n:Int)+(U' n:Int)by omega,Int.mul_add]
  omega
theorem LA:∀n,og S (fun _=>0) v n=0
 |0=>rfl
 |n+1=>by
  show og S (fun _=>0) v n+yR _ _ 0=0
  rw[LA n];simp[yR]
theorem Zv{x:Nat}:∀n,og S (fun k=>if k=x then 1 else 0) v n=if x<n then fY (S.sh x)-l6 (S.sh x) (v x)else 0
 |0=>by simp[og]
 |n+1=>by
  show og S (fun k=>if k=x then 1 else 0) v n+yR _ _ (if n=x then 1 else 0)=_
  rw[Zv n]
  by_cases h:n=x
  .subst h;rw[aR O,aP J,aR J];simp[yR]
  rw[aP h]
  by_cases h2:x<n
  .rw[aR h2,aR J];simp[yR]
  rw[aP h2,aP J];simp[yR]
def QR(k:Nat):List Nat->Nat
 |[]=>0
 |x::l=>(if k=x then 1 else 0)+QR k l
theorem Tw{H:Int}:∀{l:List Nat},(∀x,x∈l->x<S.n/\fY (S.sh x)<=H)->og S (fun k=>QR k l) v S.n<=H*l.length
 |[],_=>by
  show og S (fun _=>0) v S.n<=_
  rw[LA];simp
 |x::l,h=>by
  have ih:=Tw (l:=l) (H:=H) fun y hy=>h y (fq _ hy)
  have e:(fun k=>QR k (x::l))=fun k=>(if k=x then 1 else 0)+QR k l:=rfl
  rw[e,QO,Zv,aR (h x aA).1]
  have h1:=(h x aA).2
  have h2:=aeK (S.sh x) (v x)
  rw[eE,show((l.length+1:Nat):Int)=(l.length:Int)+1 by omega,Int.mul_add,Int.mul_one]
  omega
def Ty(l:List sD)(k:Nat):Nat:=match l with
 |[]=>0
 |q::l=>QR k q.vars+Ty l k
theorem Tz:∀{l:List sD},(∀q,q∈l->∀x,x∈q.vars->x<S.n/\S.sh x=q.sh)->og S (Ty l) v S.n<=(l.map fun q=>fY q.sh*q.vars.length).sum
 |[],_=>by
  show og S (fun _=>0) v S.n<=_
  rw[LA];simp
 |q::l,h=>by
  have ih:=Tz (l:=l) fun p hp=>h p (fq _ hp)
  have e:Ty (q::l)=fun k=>QR k q.vars+Ty l k:=rfl
  rw[e,QO,kV,Dz]
  have:=Tw (S:=S) (v:=v) (l:=q.vars) (H:=fY q.sh) fun x hx=>⟨(h q aA x hx).1,by rw[(h q aA x hx).2];exact kY _⟩
  omega
end
section
variable{sh:Sh}{l:List dI}{us vs:List El}
def agi(sh:Sh)(l:List dI)(us vs:List El):Prop:=∀x,x∈l->(x.op=1->0<=x.n/\x.n<us.length/\cf sh (us.getD x.n.toNat dh)=true/\cf sh (vs.getD x.n.toNat dh)=true/\cK (us.getD x.n.toNat dh) (vs.getD x.n.toNat dh)=true)/\(x.op=2->cf sh x.c=true)
theorem LB(hr:fP l=true)(hl:us.length=vs.length)(hi:agi sh l us vs):
  (fJ sh l us).2=true/\(fJ sh l vs).2=true/\cf sh (fJ sh l us).1=true/\cK (fJ sh l us).1 (fJ sh l vs).1=true:=by
 have key:∀n:Nat,n<=l.length->∃st su,gS sh us l n=some st/\gS sh vs l n=some su/\iV l n=some st.length/\tB st su/\(∀e∈st,cf sh e=true)/\∀e∈su,cf sh e=true:=by
  intro n
  induction n with
  |zero=>intro _;exact⟨[],[],rfl,rfl,rfl,trivial,(fun e he=>by cases he),fun e he=>by cases he⟩
  |succ n ih=>
   intro hn
   obtain⟨st,su,h1,h2,h3,h4,h5,h6⟩:=ih J
   have hx:=(kU (e8 (d:=cg) (l:=l) (i:=(n:Int)) J J))
   rw[show((n+1:Nat):Int)=(n:Int)+1 by omega]
   have hlen:=h4.len
   rcases YX hr (k:=(n:Int)) J J h3 with⟨ho,hd⟩|⟨⟨ho,hn1,Oq⟩,hd⟩
   .rcases ho with ho|ho
    .obtain⟨hx1,hx2,fm,fa,hle⟩:=(hi _ hx).1 ho
     refine⟨_,_,akb J J h1 ho ⟨hx1,hx2⟩,akb J J h2 ho ⟨hx1,J⟩,by rw[hd];simp,h4.app ⟨hle,trivial⟩,fun e he=> ?_,fun e he=> ?_⟩
     .rcases eF.1 he with q|q
      .exact h5 e q
      rw[fG.1 q];exact fm
     rcases eF.1 he with q|q
     .exact h6 e q
     rw[fG.1 q];exact fa
    have hk:=(hi _ hx).2 ho
    refine⟨_,_,apy J J h1 ho,apy J J h2 ho,by rw[hd];simp,h4.app ⟨jy _,trivial⟩,fun e he=> ?_,fun e he=> ?_⟩
    .rcases eF.1 he with q|q
     .exact h5 e q
     rw[fG.1 q];exact hk
    rcases eF.1 he with q|q
    .exact h6 e q
    rw[fG.1 q];exact hk
   generalize hg:l.getD (n:Int).toNat cg=x at*
   have e1:=apz (s:=sh) (v:=us) (l:=l) (st:=st) (k:=(n:Int)) J J h1 P6 P6
   have e2:=apz (s:=sh) (v:=vs) (l:=l) (st:=su) (k:=(n:Int)) J J h2 P6 P6
   rw[hg]at e1 e2
   have d1:st.drop (st.length-x.n.toNat)≠[]:=fun q=>by
    have:=aJ List.length q
    rw[vk,FY]at this;omega
   have g1:∀e∈st.drop (st.length-x.n.toNat),cf sh e=true:=fun e he=>h5 e (xa he)
   have g2:∀e∈su.drop (su.length-x.n.toNat),cf sh e=true:=fun e he=>h6 e (xa he)
   have hld:=h4.drop (st.length-x.n.toNat)
   have hlt:=h4.take (st.length-x.n.toNat)
   rw[hlen]at hld hlt
   rw[<-hlen]at hld hlt
   have d2:su.drop (su.length-x.n.toNat)≠[]:=fun q=>by
    have:=aJ List.length q
    rw[vk,FY]at this;omega
   refine⟨_,_,e1,e2,?_,?_,fun e he=> ?_,fun e he=> ?_⟩
   .rw[hd,cV,eD,gI];congr 1;omega
   .rw[<-hlen]
    refine hlt.app ⟨Li hld g1 (by rw[<-hlen]at g2;exact g2),trivial⟩
   .rcases eF.1 he with q|q
    .exact h5 e (AA q)
    rw[fG.1 q];exact yE d1 g1
   rcases eF.1 he with q|q
   .exact h6 e (AA q)
   rw[fG.1 q];exact yE d2 g2
 obtain⟨st,su,h1,h2,h3,h4,h5,_⟩:=key l.length (eI _)
 rw[Qt hr J J h1,Qt hr J J h2]
 have l1:=RW hr (k:=(l.length:Int)) J J h3
 have n1:st≠[]:=fun q=>by rw[q]at l1;simp at l1
 refine⟨rfl,rfl,?_,h4.nr⟩
 cases st with
 |nil=>exact absurd O n1
 |cons a st=>exact h5 a aA
end
def sr:List Int->Int->List Int
 |[],n=>[n]
 |a::l,n=>if a<n then a::sr l n else if a=n then a::l else n::a::l
def dc(l:List dI):List Int:=l.foldl (fun o x=>if x.op=1/\0<=x.n then sr o x.n else o) []
theorem LC{i n:Int}:∀{l:List Int},i∈sr l n↔i∈l\/i=n
 |[]=>by simp[sr]
 |a::l=>by
  unfold sr
  split
  .rw[cT,LC,cT,or_assoc]
  split
  .rename_i h;subst h;simp only[cT];constructor
   .intro h;exact .inl h
   rintro(h|h)
   .exact h
   exact .inl h
  simp only[cT];constructor
  .rintro(h|h|h)
   .exact .inr h
   .exact .inl (.inl h)
   exact .inl (.inr h)
  rintro((h|h)|h)
  .exact .inr (.inl h)
  .exact .inr (.inr h)
  exact .inl h
theorem OI{n:Int}:∀{l:List Int},l.Pairwise (· <·)->(sr l n).Pairwise (· <·)
 |[],_=>by simp[sr]
 |a::l,h=>by
  obtain⟨h1,h2⟩:=lE.1 h
  unfold sr
  split
  .refine lE.2 ⟨fun x hx=> ?_,OI h2⟩
   rcases LC.1 hx with q|q
   .exact h1 x q
   omega
  split
  .exact h
  refine lE.2 ⟨fun x hx=> ?_,h⟩
  rcases cT.1 hx with q|q
  .omega
  have:=h1 x q;omega
theorem OJ(l:List dI):∀o:List Int,(∀i,i∈l.foldl (fun o x=>if x.op=1/\0<=x.n then sr o x.n else o) o↔i∈o\/∃x∈l,x.op=1/\0<=x.n/\x.n=i)/\(o.Pairwise (· <·)->(l.foldl (fun o x=>if x.op=1/\0<=x.n then sr o x.n else o) o).Pairwise (· <·)):=by
 induction l with
 |nil=>intro o;exact⟨fun i=>aA,fun h=>h⟩
 |cons a l ih=>
  intro o
  rw[nW]
  by_cases c:a.op=1/\0<=a.n
  .rw[aR c]
   obtain⟨h1,h2⟩:=ih (sr o a.n)
   refine⟨fun i=> ?_,fun h=>h2 (OI h)⟩
   rw[h1,LC]
   constructor
   .rintro((h|h)|⟨x,hx,h⟩)
    .exact .inl h
    .exact .inr ⟨a,aA,c.1,c.2,h.symm⟩
    exact .inr ⟨x,pY,h⟩
   rintro(h|⟨x,hx,h⟩)
   .exact .inl (.inl h)
   rcases cT.1 hx with e|hx
   .subst e;exact .inl (.inr h.2.2.symm)
   exact .inr ⟨x,hx,h⟩
  rw[aP c]
  obtain⟨h1,h2⟩:=ih o
  refine⟨fun i=> ?_,h2⟩
  rw[h1]
  constructor
  .rintro(h|⟨x,hx,h⟩)
   .exact .inl h
   exact .inr ⟨x,pY,h⟩
  rintro(h|⟨x,hx,h⟩)
  .exact .inl h
  rcases cT.1 hx with e|hx
  .subst e;exact absurd ⟨h.1,h.2.1⟩ c
  exact .inr ⟨x,hx,h⟩
theorem rF{l:List dI}{i:Int}:i∈dc l↔∃x∈l,x.op=1/\0<=x.n/\x.n=i:=by simp_all[dc,OJ]
theorem LD(l:List dI):(dc l).Pairwise (· <·):=(OJ l []).2 List.Pairwise.nil
def Bq(n:Nat)(sh:Sh)(code:List dI)(to:gZ):sD:=⟨sh,fun u=>(fJ sh code ((List.range n).map u)).1,if to.var<0 then none else some to.var.toNat,to.c,(dc code).map Int.toNat⟩
structure Xf(S:Sys)(sh:Sh)(code:List dI)(to:gZ):Prop where
 right:fP code=true
 var:∀x,x∈code->x.op=1->0<=x.n/\x.n<S.n/\S.sh x.n.toNat=sh
 con:∀x,x∈code->x.op=2->cf sh x.c=true
 to0:to.var<0->cf sh to.c=true
 to1:0<=to.var->to.var<S.n/\S.sh to.var.toNat=sh
theorem pD{n:Nat}{u:Va}{i:Nat}(h:i<n):((List.range n).map u).getD i dh=u i:=by grind
theorem agj{S:Sys}{sh:Sh}{code:List dI}{to:gZ}(h:Xf S sh code to):s8 S (Bq S.n sh code to):=by
 have key:∀u v:Va,o6 S u->o6 S v->(∀i,i∈(dc code).map Int.toNat->cK (u i) (v i)=true)->agi sh code ((List.range S.n).map u) ((List.range S.n).map v):=fun u v hu hv hl x hx=>by
  refine⟨fun ho=> ?_,h.con x hx⟩
  obtain⟨h0,h1,h2⟩:=h.var x hx ho
  rw[pD J,pD J]
  have f1:=hu x.n.toNat J;have f2:=hv x.n.toNat J
  rw[h2]at f1 f2
  exact⟨h0,DL,f1,f2,hl _ (fI.2 ⟨x.n,rF.2 ⟨x,hx,ho,h0,rfl⟩,rfl⟩)⟩
 refine⟨fun u hu=> ?_,fun i hi=> ?_,fun u v hu hv hl=> ?_,fun k hk=> ?_⟩
 .exact(LB h.right aA (key u u hu hu fun _ _=>jy _)).2.2.1
 .obtain⟨j,hj,rfl⟩:=fI.1 hi
  obtain⟨x,hx,ho,h0,rfl⟩:=rF.1 hj
  have:=(h.var x hx ho).2.1;omega
 .exact(LB h.right aA (key u v hu hv hl)).2.2.2
 unfold Bq at hk
 by_cases c:to.var<0
 .simp[c]at hk
 simp[c]at hk
 subst hk
 have:=h.to1 J
 exact⟨J,this.2⟩
theorem yS:∀{m:List Int} {i:Nat} {n:Int},i<=m.length->(∀j:Nat,j<i->m.getD j 0<n)->(i<m.length->n<m.getD i 0)->sr m n=m.take i++n::m.drop i
 |[],i,n,h,_,_=>by simp at h;subst h;rfl
 |a::m,0,n,_,_,h3=>by
  have:=h3 aA
  have:n<a:=this
  unfold sr
  rw[aP J,aP J];rfl
 |a::m,i+1,n,h,h2,h3=>by
  have h0:a<n:=h2 0 J
  have ih:=yS (m:=m) (i:=i) (n:=n) wx (fun j hj=>h2 (j+1) J) (fun hi=>h3 yf)
  unfold sr
  rw[aR h0,ih];rfl
theorem agk:∀{m:List Int} {i:Nat} {n:Int},i<m.length->(∀j:Nat,j<i->m.getD j 0<n)->m.getD i 0=n->sr m n=m
 |[],i,n,h,_,_=>by simp at h
 |a::m,0,n,_,_,h3=>by
  have:a=n:=h3
  unfold sr
  rw[aP J,aR this]
 |a::m,i+1,n,h,h2,h3=>by
  have h0:a<n:=h2 0 J
  have ih:=agk (m:=m) (i:=i) (n:=n) wx (fun j hj=>h2 (j+1) J) h3
  unfold sr
  rw[aR h0,ih]
theorem iX{l:List dI}{k:Int}(h0:0<=k)(h1:k<l.length):dc (l.take (k+1).toNat)=if(l.getD k.toNat cg).op=1/\0<=(l.getD k.toNat cg).n then sr (dc (l.take k.toNat)) (l.getD k.toNat cg).n else dc (l.take k.toNat):=by grind[dc,GR]
theorem abI(l:List dI):(dc l).length<=l.length:=by
 have key:∀(l:List dI) (o:List Int),(l.foldl (fun o x=>if x.op=1/\0<=x.n then sr o x.n else o) o).length<=o.length+l.length:=fun l=>by
  induction l with
  |nil=>intro o;simp
  |cons a l ih=>
   intro o
   have hi:∀(o:List Int) (n:Int),(sr o n).length<=o.length+1:=fun o n=>by
    induction o with
    |nil=>simp[sr]
    |cons b o io=>
     unfold sr
     split
     .simp only[eE];omega
     split
     .simp
     simp
   rw[nW]
   refine kg (ih _) ?_
   have:(if a.op=1/\0<=a.n then sr o a.n else o).length<=o.length+1:=by
    split
    .exact hi o a.n
    omega
   simp only[eE];omega
 simpa[dc]using key l []
theorem adb{m:List Int}{x z:Int}{p:Int}(h0:0<=p)(h1:p<=m.length):
  rq (rq (m.map I++[I z]) ((p+1).toNat*1) (((m.map I++[I z]).drop (p.toNat*1)).take ((m.length-p.toNat)*1))) (p.toNat*1) [I x]=(m.take p.toNat++x::m.drop p.toNat).map I:=by
 have hl:(m.map I).length=m.length:=aA
 have hq:p.toNat<=m.length:=J
 simp only[kX,show(p+1).toNat=p.toNat+1 by omega]
 generalize p.toNat=q at*
 have e1:((m.map I++[I z]).drop q).take (m.length-q)=(m.drop q).map I:=by
  rw[Jr J,Pk J1,iD J1]
  simp[VR]
 have l1:((m.drop q).map I).length=m.length-q:=aA
 rw[e1]
 have e2:rq (m.map I++[I z]) (q+1) ((m.drop q).map I)=(m.map I++[I z]).take (q+1)++(m.drop q).map I:=by
  have e0:(m.map I++[I z]).drop (q+1+(m.length-q))=[]:=Jw (by rw[cV,hl,gI];omega)
  rw[rq,l1,e0,lU]
 have l2:((m.map I++[I z]).take (q+1)).length=q+1:=by rw[eD];simp;omega
 rw[e2,rq,Pk J,AF,qI J,Pk (by rw[hl];omega)]
 rw[gI,List.drop_append,l2,JO,JJ,Jw (by rw[l2];exact eI _),dZ]
 simp[AI,VR]
theorem sv{m:List Int}{z:Int}{u:Value}(hu:u∈m.map I++[I z]):u.oneCell'=true:=by
 rcases eF.1 hu with h|h
 .obtain⟨x,_,rfl⟩:=fI.1 h;rfl
 rw[fG.1 h];rfl
theorem agl{S:Sys}{sh:Sh}{code:List dI}{to:gZ}(h:Xf S sh code to){x:Nat}(hx:x∈(Bq S.n sh code to).vars):x<S.n/\S.sh x=sh:=by
 obtain⟨j,hj,rfl⟩:=fI.1 hx
 obtain⟨y,hy,ho,h0,rfl⟩:=rF.1 hj
 have:=h.var y hy ho
 exact⟨J,this.2.2⟩
def jR(s:kx):Sys:=⟨s.vars.length,fun i=>jA s (s.vars.getD i eY).aS⟩
theorem aqc{s:kx}{aS:Int}{code:List dI}{to:gZ}(hc:codeOk s aS code=true)(ha:j3 s aS to=true):Xf (jR s) (jA s aS) code to:=by
 simp only[codeOk,cm]at hc
 obtain⟨hi,hr⟩:=hc
 have kd:∀v kd:Int,oZ s v kd aS=true->(0<=v/\v<s.vars.length)/\(s.vars.getD v.toNat eY).aS=aS:=fun v kd h=>by
  simp only[oZ,cm,dP]at h
  exact⟨h.1.1,h.2⟩
 refine⟨hr,fun x hx ho=> ?_,fun x hx ho=> ?_,fun h0=> ?_,fun h0=> ?_⟩
 .have hx2:=iq.1 hi x hx
  simp only[r7,cm,oR,AB,vi]at hx2
  obtain⟨h1,h2⟩:=kd _ _ (hx2.1.resolve_left fun q=>q ho)
  exact⟨h1.1,h1.2,by show jA s _=_;rw[h2]⟩
 .have hx2:=iq.1 hi x hx
  simp only[r7,cm,oR,AB,vi]at hx2
  exact hx2.2.resolve_left fun q=>q ho
 .rw[j3,aR h0]at ha;exact ha
 rw[j3,aP J]at ha
 obtain⟨h1,h2⟩:=kd _ _ ha
 exact⟨h1.2,by show jA s _=_;rw[h2]⟩
structure oP where
 p:kL
 e:Value
 l:Value
 j:Value
 d:Wr
 low:El
def U0(x:oP):List Value:=zY x.p++([x.e,x.l,x.j]++sC x.low)
theorem qg(x:oP):(U0 x).length=13:=by simp[U0,zY,fw]
structure de where
 aS:Int
 cv:Value
 code:List dI
 to:gZ
 why:BitVec 64
 vv:Value
 vars:List Int
def o7(x:de):List Value:=I x.aS::x.cv::(iS x.to++[U x.why,x.vv])
theorem oE(x:de):(o7 x).length=13:=by simp[o7,Cl]
structure CC(K:Vu)(x:de):Prop where
 code:n7 K x.cv 10 x.code.length (x.code.flatMap jW)
 vars:n7 K x.vv 1 x.vars.length (x.vars.map I)
theorem CC.mono{K K':Vu}{x:de}(h:CC K x)(hl:Le K K'):CC K' x:=⟨h.code.mono hl,h.vars.mono hl⟩
def cI:de:=⟨0,.slice none 0 0,[],afd,0,.slice none 0 0,[]⟩
def oF:oP:=⟨Cy,.nilFunc,.nilFunc,.nilFunc,.base Cy tb0,dh⟩
theorem sw{K:Vu}{x:de}(h:CC K x):∀u∈(o7 x).toArray,u.oneCell'=true:=by
 intro u hu
 simp only[o7,JG,cT,eF,FW,AP]at hu
 rcases hu with rfl|rfl|hu|rfl|rfl
 .rfl
 .exact(Qo h.code).1
 .exact GQ x.to u pX
 .rfl
 exact(Qo h.vars).1
inductive lK
 |aS (i:Nat)
 |var (i:Nat) (m:Int)
 |add (i:Nat) (q:de)
 |raise (v:Int) (was:El) (had:BitVec 64)
 |merge (m:Int)
 |seen (was:Int)
 |stuck
structure NTy where
 fL:FuncId
 fV:FuncId
 fA:FuncId
 fR:FuncId
 fM:FuncId
 fS:FuncId
 fE:FuncId
 tn:TypeId
 ti:TypeId
 te:TypeId
 tu:TypeId
 tq:TypeId
def l9(T:NTy)(n:Nat)(L:List a8)(x:Value×lK):Prop:=
 match x.2 with
 | .aS i=>∃b1 b2,x.1=iW T.fL #[pt b1,pt b2]/\a8.blk b1 (.cells #[pt n] T.tn (0,0))∈L/\a8.blk b2 (.cells #[I i] T.ti (0,0))∈L
 | .var i m=>∃b1 b2 b3,x.1=iW T.fV #[pt b1,pt b2,pt b3]/\a8.blk b1 (.cells #[pt n] T.tn (0,0))∈L/\a8.blk b2 (.cells #[I i] T.ti (0,0))∈L/\a8.blk b3 (.cells #[I m] T.ti (0,0))∈L
 | .add i q=>∃b1 b2 b3,x.1=iW T.fA #[pt b1,pt b2,pt b3]/\a8.blk b1 (.cells #[pt n] T.tn (0,0))∈L/\a8.blk b2 (.cells #[I i] T.ti (0,0))∈L/\a8.blk b3 (.cells (o7 q).toArray T.tq (0,0))∈L
 | .raise v was had=>∃b1 b2 b3 b4,x.1=iW T.fR #[pt b1,pt b2,pt b3,pt b4]/\a8.blk b1 (.cells (iU was) T.te (0,0))∈L/\a8.blk b2 (.cells #[U had] T.tu (0,0))∈L/\a8.blk b3 (.cells #[pt n] T.tn (0,0))∈L/\a8.blk b4 (.cells #[I v] T.ti (0,0))∈L
 | .merge m=>∃b1 b2,x.1=iW T.fM #[pt b1,pt b2]/\a8.blk b1 (.cells #[pt n] T.tn (0,0))∈L/\a8.blk b2 (.cells #[I m] T.ti (0,0))∈L
 | .seen was=>∃b1 b2,x.1=iW T.fS #[pt b1,pt b2]/\a8.blk b1 (.cells #[I was] T.ti (0,0))∈L/\a8.blk b2 (.cells #[pt n] T.tn (0,0))∈L
 | .stuck=>∃b1,x.1=iW T.fE #[pt b1]/\a8.blk b1 (.cells #[pt n] T.tn (0,0))∈L
theorem l9.mono{T:NTy}{n:Nat}{L L':List a8}{x:Value×lK}(h:l9 T n L x)(hs:∀e∈L,e∈L'):l9 T n L' x:=by
 obtain⟨v,c⟩:=x
 cases c with
 |aS i=>obtain⟨b1,b2,h0,h1,h2⟩:=h;exact⟨b1,b2,h0,hs _ h1,hs _ h2⟩
 |var i m=>obtain⟨b1,b2,b3,h0,h1,h2,h3⟩:=h;exact⟨b1,b2,b3,h0,hs _ h1,hs _ h2,hs _ h3⟩
 |add i q=>obtain⟨b1,b2,b3,h0,h1,h2,h3⟩:=h;exact⟨b1,b2,b3,h0,hs _ h1,hs _ h2,hs _ h3⟩
 |raise v was had=>obtain⟨b1,b2,b3,b4,h0,h1,h2,h3,h4⟩:=h;exact⟨b1,b2,b3,b4,h0,hs _ h1,hs _ h2,hs _ h3,hs _ h4⟩
 |merge m=>obtain⟨b1,b2,h0,h1,h2⟩:=h;exact⟨b1,b2,h0,hs _ h1,hs _ h2⟩
 |seen was=>obtain⟨b1,b2,h0,h1,h2⟩:=h;exact⟨b1,b2,h0,hs _ h1,hs _ h2⟩
 |stuck=>obtain⟨b1,h0,h1⟩:=h;exact⟨b1,h0,hs _ h1⟩
theorem getD_eq{α:Type}{l:List α}{d:α}{k:Nat}(h:k<l.length):l.getD k d=l[k]:=by grind
theorem nu{α β:Type}{f:β->α->β}{b:β}{l:List α}{d:α}{k:Int}(h0:0<=k)(h1:k<l.length):(l.take (k+1).toNat).foldl f b=f ((l.take k.toNat).foldl f b) (l.getD k.toNat d):=by
 have hk:k.toNat<l.length:=J
 rw[show(k+1).toNat=k.toNat+1 by omega,HL hk,getD_eq hk,wh]
 rfl
theorem agm{α:Type}{l:List α}{d:α}{p:α->Bool}{k:Int}(h0:0<=k)(h1:k<l.length)(hp:p (l.getD k.toNat d)=true):l.any p=true:=by grind
theorem akS{α:Type}{l:List α}{d:α}{p:α->Bool}(h:∀j,j<l.length->p (l.getD j d)=false):l.any p=false:=by
 rw[VC]
 intro x hx
 obtain⟨j,hj,rfl⟩:=xU.1 hx
 have:=h j hj
 rw[getD_eq hj]at this;rw[this];exact Js
def DH(q:de):Bool:=decide (q.code.length=1)&&decide ((q.code.getD 0 cg).op=1)&&decide (0<=q.to.var)
def orW(y:BitVec 64)(ws:List (BitVec 64))(l:List Int):BitVec 64:=l.foldl (fun a v=>a|||ws.getD v.toNat 0) y
theorem ago{y:BitVec 64}{ws:List (BitVec 64)}{l:List Int}{k:Int}(h0:0<=k)(h1:k<l.length):orW y ws (l.take (k+1).toNat)=orW y ws (l.take k.toNat)|||ws.getD (l.getD k.toNat 0).toNat 0:=by
 have hk:k.toNat<l.length:=J
 rw[show(k+1).toNat=k.toNat+1 by omega,HL hk,getD_eq hk]
 unfold orW
 rw[wh]
 rfl
def Xg(K:Vu)(qs:List de):Prop:=∀q∈qs,CC K q
theorem Xg.mono{K K':Vu}{qs:List de}(h:Xg K qs)(hl:Le K K'):Xg K' qs:=fun q hq=>(h q hq).mono hl
theorem Xg.at{K:Vu}{qs:List de}(h:Xg K qs){k:Int}(h0:0<=k)(h1:k<qs.length):CC K (qs.getD k.toNat cI):=h _ (dG h0 h1)
def wY(q:de):Int:=q.vars.getD 0 0
def grQ(g:List (List Int))(q:de):List (List Int):=if DH q=true then g.set (wY q).toNat (g.getD (wY q).toNat []++[q.to.var])else g
def bX(n:Nat)(qs:List de):List (List Int):=qs.foldl grQ (List.replicate n [])
theorem akT{g:List (List Int)}{q:de}:(grQ g q).length=g.length:=by grind[grQ]
theorem D8(n:Nat)(qs:List de):(bX n qs).length=n:=by
 have key:∀(qs:List de) (g:List (List Int)),(qs.foldl grQ g).length=g.length:=fun qs=>by
  induction qs with
  |nil=>intro g;rfl
  |cons q qs ih=>intro g;rw[nW,ih,akT]
 unfold bX;rw[key];simp
theorem Zw{gs:List jx}{k:Nat}{x:jx}:o5 (gs.set k x)=(o5 gs).set k x.l:=by simp_all[o5]
theorem LF{n:Nat}{qs:List de}{k:Int}(h0:0<=k)(h1:k<qs.length):bX n (qs.take (k+1).toNat)=grQ (bX n (qs.take k.toNat)) (qs.getD k.toNat cI):=nu h0 h1
theorem agp{gs:List jx}{i b:Nat}{x:jx}(h:∀y∈gs,y.l.length<=b)(hx:x.l.length<=b+1):∀y∈gs.set i x,y.l.length<=b+1:=by grind
def TA(n:Nat)(qs:List de):Prop:=∀q∈qs,DH q=true->0<q.vars.length/\(0<=wY q/\wY q<n)/\q.to.var<n
theorem TA.at{n:Nat}{qs:List de}(h:TA n qs){k:Int}(h0:0<=k)(h1:k<qs.length)(hp:DH (qs.getD k.toNat cI)=true):0<(qs.getD k.toNat cI).vars.length/\(0<=wY (qs.getD k.toNat cI)/\wY (qs.getD k.toNat cI)<n)/\(qs.getD k.toNat cI).to.var<n:=h _ (dG h0 h1) hp
def LG(cl:List Nat)(ws:List (BitVec 64))(o:List (BitVec 64))(v:Nat):List (BitVec 64):=o.set (eW cl v).toNat (o.getD (eW cl v).toNat 0|||ws.getD v 0)
def Im(cl:List Nat)(q:de):Bool:=DH q&&decide (eW cl (wY q)=eW cl q.to.var)&&decide (wY q≠q.to.var)
def Iy(cl:List Nat)(o:List (BitVec 64))(q:de):List (BitVec 64):=if Im cl q=true then o.set (eW cl q.to.var).toNat (o.getD (eW cl q.to.var).toNat 0|||q.why)else o
def TB(cl:List Nat)(ws:List (BitVec 64))(n:Nat):List (BitVec 64):=(List.range n).foldl (LG cl ws) (List.replicate n 0)
def Br(cl:List Nat)(ws:List (BitVec 64))(n:Nat)(qs:List de):List (BitVec 64):=qs.foldl (Iy cl) (TB cl ws n)
theorem Cw{α:Type}{f:List (BitVec 64)->α->List (BitVec 64)}(hf:∀o a,(f o a).length=o.length):∀(l:List α) (o:List (BitVec 64)),(l.foldl f o).length=o.length
 |[],o=>rfl
 |a::l,o=>by rw[nW,Cw hf,hf]
theorem abJ{cl:List Nat}{ws:List (BitVec 64)}{n:Nat}{k:Int}(h0:0<=k):((List.range (k+1).toNat).foldl (LG cl ws) (List.replicate n 0))=LG cl ws ((List.range k.toNat).foldl (LG cl ws) (List.replicate n 0)) k.toNat:=by
 rw[show(k+1).toNat=k.toNat+1 by omega,wj,wh];rfl
theorem LH(cl:List Nat)(ws o:List (BitVec 64))(v:Nat):(LG cl ws o v).length=o.length:=by simp[LG]
theorem TC(cl:List Nat)(o:List (BitVec 64))(q:de):(Iy cl o q).length=o.length:=by grind[Iy]
theorem agq{cl:List Nat}{nd:List pB}{v:Int}(h:Fo nd cl)(hv:0<=v/\v<cl.length):0<=eW cl v/\eW cl v<cl.length:=by grind[pB,Fo,eW,l7]
theorem vK.find{T:FTy}{F m:Nat}{cs:List (List Nat)}{vW vU:Value}{cW cU:Option (Nat×Array Value)}{W:List (BitVec 64)}{ul:List (Value×jh)}{ts:List Int}{cn:Int}{L:List a8}{n:Nat}(h:vK T F m cs vW vU cW cU W ul ts cn L)(hl:(bg cs).length=n)(v:Int)(hv:0<=v/\v<n):0<=eW (bg cs) v/\eW (bg cs) v<n:=by
 obtain⟨nd,cl,zx,rfl,-,h2,-⟩:=h.now
 subst hl
 exact agq (cl:=cl) h2 hv
def oh(p:List Int×List Bool)(i:Int):List Int×List Bool:=if p.2.getD i.toNat false=true then p else(p.1++[i],p.2.set i.toNat true)
def qA(p:List Int×List Bool)(l:List Int):List Int×List Bool:=l.foldl oh p
theorem OK{p:List Int×List Bool}{l:List Int}{k:Int}(h0:0<=k)(h1:k<l.length):qA p (l.take (k+1).toNat)=oh (qA p (l.take k.toNat)) (l.getD k.toNat 0):=nu h0 h1
theorem Zx{wl:List Int}{wi:List Bool}{i:Int}(h:(!wi.getD i.toNat false)=true):oh (wl,wi) i=(wl++[i],wi.set i.toNat true):=by grind[oh]
theorem TD{wl:List Int}{wi:List Bool}{i:Int}(h:(!wi.getD i.toNat false)=false):oh (wl,wi) i=(wl,wi):=by grind[oh]
theorem LI(p:List Int×List Bool)(i:Int):(oh p i).2.length=p.2.length:=by grind[oh]
theorem xq:∀{l:List Int} {p:List Int×List Bool},(qA p l).2.length=p.2.length
 |[],p=>rfl
 |i::l,p=>by
  show(qA (oh p i) l).2.length=_
  rw[xq,LI]
theorem akU(p:List Int×List Bool)(i:Int):(oh p i).1.length<=p.1.length+1:=by grind[oh]
theorem E7:∀{l:List Int} {p:List Int×List Bool},(qA p l).1.length<=p.1.length+l.length
 |[],p=>by simp[qA]
 |i::l,p=>by
  have h1:=E7 (l:=l) (p:=oh p i)
  have h2:=akU p i
  show(qA (oh p i) l).1.length<=_
  rw[eE];omega
def lm(ai:List El)(us:List jx)(p:List Int×List Bool)(v:Int)(e:El):List Int×List Bool:=if qK (ai.getD v.toNat dh) e then p else qA p (us.getD v.toNat cP).l
theorem Hp.auV{w0 w:World}{R:List a8}{t:TypeId}(K:Vu):∀{gs:List jx} {A:List a8},Hp w0 w (A++(gs.map (dB t)++R))->∃Z,Hp w0 w (A++(Z++R))/\∀x∈gs,n7 (Kz K Z) x.v 1 x.l.length (x.l.map I)
 |[],A,h=>⟨[],h,fun x hx=>by cases hx⟩
 |x::gs,A,h=>by
  have h1:Hp w0 w (dB t x::(A++(gs.map (dB t)++R))):=h.perm aA
  obtain⟨Z1,h2,h3,_⟩:=h1.UX K
  have h4:Hp w0 w ((Z1++A)++(gs.map (dB t)++R)):=by rw[dg];exact h2
  obtain⟨Z,h5,h6⟩:=Hp.auV K h4
  refine⟨Z1++Z,h5.perm ?_,fun y hy=> ?_⟩
  .rw[dg,dg]
   exact vh _ _ _
  rcases cT.1 hy with e|hy
  .subst e;exact h3.mono (Le.zz fun a ha=>dy _ ha)
  exact(h6 y hy).mono (Le.zz fun a ha=>bB _ ha)
theorem Hp.aBJ{w0 w:World}{R:List a8}{t t2:TypeId}{v:Value}{gs:List jx}(K:Vu)(h:Hp w0 w (jf jx.v v t2 gs::(gs.map (dB t)++R))):∃Z,Hp w0 w (Z++R)/\GrV (Kz K Z) v gs:=by
 obtain⟨Z,h1,h2⟩:=Hp.auV K (A:=[jf jx.v v t2 gs]) h
 obtain⟨Z2,h3,h4,_⟩:=Hp.UX (L:=Z++R) h1 K
 exact⟨Z2++Z,by rw[dg];exact h3,h4.mono (Le.zz fun a ha=>dy _ ha),fun x hx=>(h2 x hx).mono (Le.zz fun a ha=>bB _ ha)⟩
structure NP where
 an:List oP
 aS:List Int
 ai:List El
 aX:List (BitVec 64)
 us:List (List Int)
 qs:List de
 sn:Int
 cs:List (List Nat)
 sk:Bool
 wy:BitVec 64
 wr:Value
def E8(u:List (List Int))(v:Int):List (List Int):=u.set v.toNat (u.getD v.toNat []).dropLast
def uG:lK->NP->NP
 | .aS i,s=>{s with an:=s.an.take i}
 | .var i m,s=>{s with aS:=s.aS.take i,ai:=s.ai.take i,aX:=s.aX.take i,us:=s.us.take i,cs:=(Bl s.cs m).1}
 | .add i q,s=>{s with qs:=s.qs.take i,us:=q.vars.foldl E8 s.us}
 | .raise v was had,s=>{s with ai:=s.ai.set v.toNat was,aX:=s.aX.set v.toNat had}
 | .merge m,s=>{s with cs:=(Bl s.cs m).1}
 | .seen was,s=>{s with sn:=was}
 | .stuck,s=>{s with sk:=false,wy:=0}
def okN:lK->NP->Prop
 | .aS i,s=>i<=s.an.length
 | .var i m,s=>i<=s.aS.length/\i<=s.ai.length/\i<=s.aX.length/\i<=s.us.length
 | .add i q,s=>i<=s.qs.length/\q.vars.Nodup/\∀v∈q.vars,0<=v/\v<s.us.length/\s.us.getD v.toNat []≠[]
 | .raise v _ _,s=>0<=v/\v<s.ai.length/\v<s.aX.length
 | .merge _,_=>True
 | .seen _,_=>True
 | .stuck,_=>True
def CD:List lK->NP->NP
 |[],s=>s
 |c::l,s=>CD l (uG c s)
def okB:List lK->NP->Prop
 |[],_=>True
 |c::l,s=>okN c s/\okB l (uG c s)
theorem TE(a b:List lK)(s:NP):CD (a++b) s=CD b (CD a s):=by
 induction a generalizing s with
 |nil=>rfl
 |cons c a ih=>exact ih _
theorem QS(a b:List lK)(s:NP):okB (a++b) s↔okB a s/\okB b (CD a s):=by
 induction a generalizing s with
 |nil=>simp[okB,CD]
 |cons c a ih=>simp only[fH,okB,CD,ih,and_assoc]
structure iz(new:List (Value×lK))(s s':NP):Prop where
 und:CD (new.map Prod.snd).reverse s'=s
 ok:okB (new.map Prod.snd).reverse s'
theorem iz.nil(s:NP):iz [] s s:=⟨rfl,trivial⟩
theorem iz.trans{a b:List (Value×lK)}{s s' s'':NP}(h:iz a s s')(h2:iz b s' s''):iz (a++b) s s'':=by grind[lK,NP,iz,TE,QS]
theorem iz.one{f:Value}{c:lK}{s s':NP}(h:uG c s'=s)(ho:okN c s'):iz [(f,c)] s s':=⟨h,ho,trivial⟩
theorem TF{α:Type}{l:List α}{k:Nat}{d e:α}(h:k<l.length):(l.set k e).set k (l.getD k d)=l:=jM
theorem Xh{f:Value}{s:NP}{v:Int}{e:El}{y:BitVec 64}(h1:0<=v/\v<s.ai.length)(h2:v<s.aX.length):
  iz [(f,.raise v (s.ai.getD v.toNat dh) (s.aX.getD v.toNat 0))] s {s with ai:=s.ai.set v.toNat e,aX:=s.aX.set v.toNat y}:=by
 refine iz.one ?_ ⟨h1.1,by simpa using h1.2,by simpa using h2⟩
 simp only[uG]
 rw[TF J,TF J]
def G7:lK->Prop
 | .raise _ _ _=>True
 | .merge _=>True
 |_=>False
def rgS(us:List jx)(e:El)(s:List El×(List Int×List Bool))(k:Int):List El×(List Int×List Bool):=(s.1.set k.toNat e,lm s.1 us s.2 k e)
def wH(ai:List El)(us:List jx)(p:List Int×List Bool)(ks:List Int)(e:El):List El×(List Int×List Bool):=ks.foldl (rgS us e) (ai,p)
theorem agr{ai:List El}{us:List jx}{p:List Int×List Bool}{ks:List Int}{e:El}{k:Int}(h0:0<=k)(h1:k<ks.length):wH ai us p (ks.take (k+1).toNat) e=rgS us e (wH ai us p (ks.take k.toNat) e) (ks.getD k.toNat 0):=nu h0 h1
theorem xu{us:List jx}{e:El}:∀{ks:List Int} {ai:List El} {p:List Int×List Bool},(wH ai us p ks e).1=fX ai ks e
 |[],ai,p=>rfl
 |k::ks,ai,p=>by
  show(wH (ai.set k.toNat e) us (lm ai us p k e) ks e).1=fX (ai.set k.toNat e) ks e
  exact xu
theorem LJ{ai:List El}{us:List jx}{p:List Int×List Bool}{v:Int}{e:El}:(lm ai us p v e).2.length=p.2.length:=by grind[lm,xq]
theorem Jj{us:List jx}{e:El}:∀{ks:List Int} {ai:List El} {p:List Int×List Bool},(wH ai us p ks e).2.2.length=p.2.length
 |[],ai,p=>rfl
 |k::ks,ai,p=>by
  show(wH (ai.set k.toNat e) us (lm ai us p k e) ks e).2.2.length=_
  rw[Jj,LJ]
theorem akV{ai:List El}{us:List jx}{p:List Int×List Bool}{v:Int}{e:El}(h:(us.getD v.toNat cP).l.length<=1000):(lm ai us p v e).1.length<=p.1.length+1000:=by grind[lm,E7,cP]
theorem ags{us:List jx}{e:El}(hu:∀k:Nat,k<us.length->(us.getD k cP).l.length<=1000):∀{ks:List Int} {ai:List El} {p:List Int×List Bool},(∀k∈ks,0<=k/\k<us.length)->(wH ai us p ks e).2.1.length<=p.1.length+1000*ks.length
 |[],ai,p,_=>by simp[wH]
 |k::ks,ai,p,h=>by
  have h1:=ags (e:=e) hu (ks:=ks) (ai:=ai.set k.toNat e) (p:=lm ai us p k e) fun q hq=>h q (by simp[hq])
  have h2:=akV (ai:=ai) (p:=p) (v:=k) (e:=e) (hu k.toNat (by have:=h k aA;omega))
  show(wH (ai.set k.toNat e) us (lm ai us p k e) ks e).2.1.length<=_
  rw[eE];omega
theorem lM{cl:List Nat}{i k:Int}(h:k∈bG cl i):(0<=i/\i<cl.length)/\0<=k/\k<cl.length/\bV cl k.toNat=bV cl i.toNat:=by grind[bG,yJ]
theorem G8{cl:List Nat}{i k:Int}:k∈bG cl i↔(0<=i/\i<cl.length)/\0<=k/\k<cl.length/\bV cl k.toNat=bV cl i.toNat:=by grind[lM,bG,Int.toNat_of_nonneg,yJ]
theorem uH{cl:List Nat}{i:Int}:(bG cl i).length<=cl.length:=by
 unfold bG;split
 .rw[fx]
  exact kg (List.length_filter_le ..) aA
 simp
theorem TG{cs:List (List Nat)}{i j:Int}:(iK cs i j).2=true/\(∃a,(iK cs i j).1=a::cs)\/(iK cs i j).2=false/\(iK cs i j).1=cs:=by grind[iK]
theorem Xi{f:Value}{s:NP}{i j:Int}(h:0<s.cs.length)(hu:(iK s.cs i j).2=true):
  iz [(f,.merge ((s.cs.length:Int)-1))] s {s with cs:=(iK s.cs i j).1}:=by
 refine iz.one ?_ trivial
 rcases TG (cs:=s.cs) (i:=i) (j:=j)with⟨_,a,e⟩|⟨e,_⟩
 .rw[e]
  simp only[uG]
  have:Bl (a::s.cs) ((s.cs.length:Int)-1)=(s.cs,true):=by
   unfold Bl
   rw[aP (by simp only[eE];omega),show(a::s.cs).length-1-(max 0 ((s.cs.length:Int)-1)).toNat=1 by simp only[eE];omega]
   rfl
  rw[this]
 rw[hu]at e;cases e
theorem abK{cs:List (List Nat)}{i j:Int}(h:(iK cs i j).2=false):(iK cs i j).1=cs:=by grind[TG]
structure U1(T:M6)(K:Vu)(ids:List Nat)(tl:List (Nat×Rl))(x:oP):Prop where
 ops:z8 T K x.d x.e x.l x.j
 DP:x.d.DP ids tl
 sh:x.d.sh.sh=x.p.sh
 yz:kO K x.p
 dep:x.d.dep<=1
theorem U1.mono{T:M6}{K K':Vu}{ids:List Nat}{tl:List (Nat×Rl)}{x:oP}(h:U1 T K ids tl x)(hl:Le K K'):U1 T K' ids tl x:=⟨h.ops.mono hl,h.DP,h.sh,h.yz.mono hl,h.dep⟩
def TH(T:M6)(K:Vu)(ids:List Nat)(tl:List (Nat×Rl))(l:List oP):Prop:=∀x∈l,U1 T K ids tl x
theorem TH.mono{T:M6}{K K':Vu}{ids:List Nat}{tl:List (Nat×Rl)}{l:List oP}(h:TH T K ids tl l)(hl:Le K K'):TH T K' ids tl l:=fun x hx=>(h x hx).mono hl
theorem TH.at{T:M6}{K:Vu}{ids:List Nat}{tl:List (Nat×Rl)}{l:List oP}(h:TH T K ids tl l){k:Int}(h0:0<=k)(h1:k<l.length):U1 T K ids tl (l.getD k.toNat oF):=h _ (dG h0 h1)
theorem anh{d:Wr}{ids:List Nat}{tl:List (Nat×Rl)}{s:Sh}(h:d.DP ids tl)(hs:d.sh.sh=s)(a b:El):iU (oc d.tb a b)=iU (fh s a b):=by
 subst hs
 refine rh ?_
 induction d with
 |base p tb=>exact abx h.1 _ _
 |wrap m d ih=>exact ih h.2
def skQ(cl:List Nat)(q:de):Bool:=DH q&&decide (eW cl (wY q)=eW cl q.to.var)
structure LkO where
 ok:Bool
 ai:List El
 aX:List (BitVec 64)
 wl:List Int
 wi:List Bool
 wy:BitVec 64
 ks:List Kd
def TI(d:Wr)(ks:List Kd)(f:Ct):Ct:=ks.foldl (fun f k=>d.tick k f) f
section
variable(cl:List Nat)(us:List jx)(sh:Sh)(q:de)(ai:List El)(aX:List (BitVec 64))(wl:List Int)(wi:List Bool)(wy:BitVec 64)
def lkE:El:=(fJ sh q.code ai).1
def lkJ:El:=fh sh (ai.getD q.to.var.toNat dh) (lkE sh q ai)
def lkR:LkO:=
 ⟨true,(wH ai us (wl,wi) (bG cl q.to.var) (lkJ sh q ai)).1,fX aX (bG cl q.to.var) (aX.getD q.to.var.toNat 0|||orW q.why aX q.vars),(wH ai us (wl,wi) (bG cl q.to.var) (lkJ sh q ai)).2.1,(wH ai us (wl,wi) (bG cl q.to.var) (lkJ sh q ai)).2.2,wy,[.e,.l,.j]⟩
def mE:LkO:=
 if skQ cl q=true then⟨true,ai,aX,wl,wi,wy,[]⟩
 else if q.to.var<0 then
  if cK (lkE sh q ai) q.to.c=true then⟨true,ai,aX,wl,wi,wy,[.e,.l]⟩else⟨false,ai,aX,wl,wi,orW q.why aX q.vars,[.e,.l]⟩
 else if cK (lkE sh q ai) (ai.getD q.to.var.toNat dh)=true then⟨true,ai,aX,wl,wi,wy,[.e,.l]⟩
 else lkR cl us sh q ai aX wl wi wy
end
structure oG(f f':Ct)(a b c:Nat):Prop where
 e:∀i,(f i).e<=(f' i).e/\(f' i).e<=(f i).e+a
 l:∀i,(f i).l<=(f' i).l/\(f' i).l<=(f i).l+b
 j:∀i,(f i).j<=(f' i).j/\(f' i).j<=(f i).j+c
theorem oG.refl(f:Ct):oG f f 0 0 0:=⟨fun i=>J,fun i=>J,fun i=>J⟩
theorem oG.trans{f g h:Ct}{a b c a' b' c':Nat}(p:oG f g a b c)(q:oG g h a' b' c'):oG f h (a+a') (b+b') (c+c'):=
 ⟨fun i=>by have:=p.e i;have:=q.e i;omega,fun i=>by have:=p.l i;have:=q.l i;omega,fun i=>by have:=p.j i;have:=q.j i;omega⟩
theorem oG.more{f g:Ct}{a b c a' b' c':Nat}(p:oG f g a b c)(ha:a<=a')(hb:b<=b')(hc:c<=c'):oG f g a' b' c':=
 ⟨fun i=>by have:=p.e i;omega,fun i=>by have:=p.l i;omega,fun i=>by have:=p.j i;omega⟩
theorem oG.ok{f g:Ct}{a b c n:Nat}(p:oG f g a b c)(h:D3 n f):D3 (n+a+b+c) g:=fun i=>by
 obtain⟨⟨h1,h2⟩,⟨h3,h4⟩,h5,h6⟩:=h i
 have:=p.e i;have:=p.l i;have:=p.j i
 exact⟨⟨J,J⟩,⟨J,J⟩,J,J⟩
theorem xw{d:Wr}(h:d.dep<=1)(f:Ct):oG f (d.tick .e f) 1 0 0/\oG f (d.tick .l f) 0 1 0/\oG f (d.tick .j f) 0 0 1:=by
 cases d with
 |base p tb=>exact⟨(oG.refl f).more J J J,(oG.refl f).more J J J,(oG.refl f).more J J J⟩
 |wrap m d=>
  cases d with
  |wrap m' d=>simp[Wr.dep]at h
  |base p tb=>
   have key:∀i,(u6 f m ((Kd.e).up (f m)) i).e=(f i).e+(if i=m then 1 else 0)/\(u6 f m ((Kd.e).up (f m)) i).l=(f i).l/\(u6 f m ((Kd.e).up (f m)) i).j=(f i).j/\
     (u6 f m ((Kd.l).up (f m)) i).l=(f i).l+(if i=m then 1 else 0)/\(u6 f m ((Kd.l).up (f m)) i).e=(f i).e/\(u6 f m ((Kd.l).up (f m)) i).j=(f i).j/\
     (u6 f m ((Kd.j).up (f m)) i).j=(f i).j+(if i=m then 1 else 0)/\(u6 f m ((Kd.j).up (f m)) i).l=(f i).l/\(u6 f m ((Kd.j).up (f m)) i).e=(f i).e:=fun i=>by
    unfold u6
    by_cases e:i=m
    .subst e;simp[Kd.up]
    simp[e]
   refine⟨⟨fun i=> ?_,fun i=> ?_,fun i=> ?_⟩,⟨fun i=> ?_,fun i=> ?_,fun i=> ?_⟩,⟨fun i=> ?_,fun i=> ?_,fun i=> ?_⟩⟩<;>(show _/\_;have:=key i;simp only[Wr.tick,je];by_cases e:i=m<;>simp only[e,tU,ww]at this<;>(try subst e)<;>omega)
theorem TJ{d:Wr}(h:d.dep<=1)(cl:List Nat)(us:List jx)(sh:Sh)(q:de)(ai:List El)(aX:List (BitVec 64))(wl:List Int)(wi:List Bool)(wy:BitVec 64)(f:Ct):
  oG f (TI d (mE cl us sh q ai aX wl wi wy).ks f) 1 1 1:=by
 have e2:oG f (TI d [.e,.l] f) 1 1 1:=((xw h f).1.trans (xw h _).2.1).more J J J
 have e3:oG f (TI d [.e,.l,.j] f) 1 1 1:=(((xw h f).1.trans (xw h _).2.1).trans (xw h _).2.2).more J J J
 unfold mE
 split
 .exact(oG.refl f).more J J J
 split
 .split
  .exact e2
  exact e2
 split
 .exact e2
 exact e3
theorem TK{l:List Bool}{k j:Nat}{a:Bool}(hk:k<l.length):(l.set k a).getD j false=if k=j then a else l.getD j false:=by grind
structure tD(wl:List Int)(wi:List Bool):Prop where
 nd:wl.Nodup
 mem:∀i,i∈wl↔(0<=i/\i<wi.length)/\wi.getD i.toNat false=true
theorem tD.len{wl:List Int}{wi:List Bool}(h:tD wl wi):wl.length<=wi.length:=by
 have h1:(wl.map Int.toNat).Nodup:=by
  refine List.Pairwise.map _ ?_ (ac7 (S:=fun a b=>a.toNat≠b.toNat) ?_ h.nd)
  .exact fun a b q=>q
  intro a b ha hb hab e
  have:=((h.mem a).1 ha).1;have:=((h.mem b).1 hb).1
  exact hab J
 have h2:(wl.map Int.toNat).length<=(List.range wi.length).length:=by
  refine h1.length_le_of_subset fun x hx=> ?_
  obtain⟨a,ha,rfl⟩:=fI.1 hx
  have:=((h.mem a).1 ha).1
  exact pn.2 J
 simpa using h2
theorem tD.put{wl:List Int}{wi:List Bool}(h:tD wl wi){i:Int}(hi:0<=i/\i<wi.length):tD (oh (wl,wi) i).1 (oh (wl,wi) i).2:=by grind[tD,oh,TK]
theorem tD.take{x:Int}{wl:List Int}{wi:List Bool}(h:tD (x::wl) wi):tD wl (wi.set x.toNat false):=by grind[tD,TK]
theorem tD.qA{l:List Int}:∀{wl:List Int} {wi:List Bool},tD wl wi->(∀i∈l,0<=i/\i<wi.length)->tD (qA (wl,wi) l).1 (qA (wl,wi) l).2:=by
 induction l with
 |nil=>intro wl wi h _;exact h
 |cons i l ih=>
  intro wl wi h hl
  have h1:=h.put (hl i aA)
  have h2:=ih h1 (fun j hj=>by have:=hl j (fq _ hj);rw[LI];exact this)
  exact h2
theorem tD.wH{us:List jx}{e:El}{b:Nat}(hu:∀k:Nat,k<us.length->∀i∈(us.getD k cP).l,0<=i/\i<b){ks:List Int}:∀{ai:List El} {wl:List Int} {wi:List Bool},tD wl wi->wi.length=b->(∀k∈ks,0<=k/\k<us.length)->tD (wH ai us (wl,wi) ks e).2.1 (wH ai us (wl,wi) ks e).2.2:=by
 induction ks with
 |nil=>intro ai wl wi h _ _;exact h
 |cons k ks ih=>
  intro ai wl wi h hb hk
  have hk0:=hk k aA
  have h1:tD (lm ai us (wl,wi) k e).1 (lm ai us (wl,wi) k e).2:=by
   unfold lm
   split
   .exact h
   exact h.qA fun i hi=>by have:=hu k.toNat J i hi;omega
  exact ih (ai:=ai.set k.toNat e) (wl:=(lm ai us (wl,wi) k e).1) (wi:=(lm ai us (wl,wi) k e).2) h1 (LJ.trans hb) fun q hq=>hk q (fq _ hq)
theorem Sl.frI{w:World}{v:Value}{l:List Int}(h:Sl w v 1 l.length (l.map I))(o:Nat)(ho:o<=l.length):Sl w (nS v 1 o) 1 (l.drop o).length ((l.drop o).map I):=by
 have:=h.fr o ho
 rw[kX,<-VR]at this
 rw[vk];exact this
def rO(cs:List (List Nat))(ks:List Int)(k:Nat):List (List Nat):=(List.range k).foldl (fun(c:List (List Nat)) (i:Nat)=>(iK c i (ks.getD i 0)).1) cs
theorem E9{cs:List (List Nat)}{ks:List Int}{k:Int}(h0:0<=k):rO cs ks (k+1).toNat=(iK (rO cs ks k.toNat) k (ks.getD k.toNat 0)).1:=by
 unfold rO
 rw[show(k+1).toNat=k.toNat+1 by omega,wj,wh,nW,List.foldl_nil,fF h0]
theorem abL{cs:List (List Nat)}{i j:Int}:(bg (iK cs i j).1).length=(bg cs).length:=by grind[bg,iK,G4]
theorem vM{cs:List (List Nat)}{ks:List Int}:∀k,(bg (rO cs ks k)).length=(bg cs).length
 |0=>rfl
 |k+1=>by
  have:=E9 (cs:=cs) (ks:=ks) (k:=(k:Int)) J
  rw[show((k:Int)+1).toNat=k+1 by omega]at this
  rw[this,abL,show((k:Int)).toNat=k by omega,vM k]
def uI(sh:Sh)(ai:List El)(e:El)(ks:List Int):El:=ks.foldl (fun e k=>if qK (ai.getD k.toNat dh) e then e else fh sh e (ai.getD k.toNat dh)) e
theorem Ge{sh:Sh}{ai:List El}{e:El}{ks:List Int}{k:Int}(h0:0<=k)(h1:k<ks.length):uI sh ai e (ks.take (k+1).toNat)=(if qK (ai.getD (ks.getD k.toNat 0).toNat dh) (uI sh ai e (ks.take k.toNat))then uI sh ai e (ks.take k.toNat)else fh sh (uI sh ai e (ks.take k.toNat)) (ai.getD (ks.getD k.toNat 0).toNat dh)):=nu h0 h1
structure xx where
 ai:List El
 aX:List (BitVec 64)
 wl:List Int
 wi:List Bool
def co1(cl:List Nat)(us:List jx)(an:List oP)(aS:List Int)(rs:List (BitVec 64))(s:xx)(v:Nat):xx:=
 if eW cl v=v/\(bG cl v).length≠1 then
  let e:=uI (an.getD (aS.getD v 0).toNat oF).p.sh s.ai (s.ai.getD v dh) ((bG cl v).drop 1)
  ⟨(wH s.ai us (s.wl,s.wi) (bG cl v) e).1,fX s.aX (bG cl v) (rs.getD v 0),(wH s.ai us (s.wl,s.wi) (bG cl v) e).2.1,(wH s.ai us (s.wl,s.wi) (bG cl v) e).2.2⟩
 else s
def coA(cl:List Nat)(us:List jx)(an:List oP)(aS:List Int)(rs:List (BitVec 64))(s:xx)(k:Nat):xx:=(List.range k).foldl (co1 cl us an aS rs) s
theorem Bs{cl:List Nat}{us:List jx}{an:List oP}{aS:List Int}{rs:List (BitVec 64)}{s:xx}{k:Int}(h0:0<=k):coA cl us an aS rs s (k+1).toNat=co1 cl us an aS rs (coA cl us an aS rs s k.toNat) k.toNat:=by
 unfold coA
 rw[show(k+1).toNat=k.toNat+1 by omega,wj,wh];rfl
def Zy(cl:List Nat):Nat->Nat
 |0=>0
 |v+1=>Zy cl v+(if eW cl v=v then(bG cl v).length-1 else 0)
theorem RX{cl:List Nat}{k:Int}(h0:0<=k):Zy cl (k+1).toNat=Zy cl k.toNat+(if eW cl k=k then(bG cl k).length-1 else 0):=by
 rw[show(k+1).toNat=k.toNat+1 by omega]
 show Zy cl k.toNat+(if eW cl ((k.toNat:Nat):Int)=((k.toNat:Nat):Int)then(bG cl ((k.toNat:Nat):Int)).length-1 else 0)=_
 rw[fF h0]
theorem Xj{cl:List Nat}:∀v,Zy cl v<=cl.length*v
 |0=>eI _
 |v+1=>by
  have h1:=Xj (cl:=cl) v
  have h2:=uH (cl:=cl) (i:=(v:Int))
  show Zy cl v+_<=_
  rw[Nat.mul_add,kX]
  split<;>omega
theorem agu{cl:List Nat}{k:Int}(h:0<=k/\k<cl.length):1<=(bG cl k).length:=Pq (G8.2 ⟨h,h.1,h.2,rfl⟩)
theorem Zz{cl:List Nat}{us:List jx}{an:List oP}{aS:List Int}{rs:List (BitVec 64)}{s:xx}{k:Int}(h0:0<=k)(h1:eW cl k=k)(h2:(bG cl k).length≠1):
 co1 cl us an aS rs s k.toNat=⟨(wH s.ai us (s.wl,s.wi) (bG cl k) (uI (an.getD (aS.getD k.toNat 0).toNat oF).p.sh s.ai (s.ai.getD k.toNat dh) ((bG cl k).drop 1))).1,fX s.aX (bG cl k) (rs.getD k.toNat 0),(wH s.ai us (s.wl,s.wi) (bG cl k) (uI (an.getD (aS.getD k.toNat 0).toNat oF).p.sh s.ai (s.ai.getD k.toNat dh) ((bG cl k).drop 1))).2.1,(wH s.ai us (s.wl,s.wi) (bG cl k) (uI (an.getD (aS.getD k.toNat 0).toNat oF).p.sh s.ai (s.ai.getD k.toNat dh) ((bG cl k).drop 1))).2.2⟩:=by grind[co1]
theorem QT{cl:List Nat}{us:List jx}{an:List oP}{aS:List Int}{rs:List (BitVec 64)}{s:xx}{k:Int}(h0:0<=k)(h1:¬(eW cl k=k/\(bG cl k).length≠1)):co1 cl us an aS rs s k.toNat=s:=by grind[co1]
structure OL(b:Nat)(n k:Nat)(s:xx):Prop where
 lv:s.ai.length=n
 ly:s.aX.length=k
 li:s.wi.length=b
 wq:tD s.wl s.wi
theorem agv{cl:List Nat}{us:List jx}{an:List oP}{aS:List Int}{rs:List (BitVec 64)}{s:xx}{b n k v:Nat}(hu:∀k:Nat,k<us.length->∀i∈(us.getD k cP).l,0<=i/\i<b)(hl:cl.length=us.length)(h:OL b n k s):OL b n k (co1 cl us an aS rs s v):=by
 unfold co1
 split
 .exact⟨by simp only[xu,iy];exact h.lv,by simp only[iy];exact h.ly,by simp only[Jj];exact h.li,h.wq.wH hu h.li fun q hq=>by have:=lM hq;omega⟩
 exact h
theorem Xk{cl:List Nat}{us:List jx}{an:List oP}{aS:List Int}{rs:List (BitVec 64)}{s:xx}{b n k:Nat}(hu:∀k:Nat,k<us.length->∀i∈(us.getD k cP).l,0<=i/\i<b)(hl:cl.length=us.length)(h:OL b n k s):∀j,OL b n k (coA cl us an aS rs s j)
 |0=>h
 |j+1=>by
  have:=Bs (cl:=cl) (us:=us) (an:=an) (aS:=aS) (rs:=rs) (s:=s) (k:=(j:Int)) J
  rw[show((j:Int)+1).toNat=j+1 by omega]at this
  rw[this]
  exact agv hu hl (Xk hu hl h j)
structure CoO where
 cs:List (List Nat)
 s:xx
 j:Nat
noncomputable def rG(cs:List (List Nat))(us:List jx)(an:List oP)(aS:List Int)(qs:List de)(sn:Int)(n:Nat)(s:xx):CoO:=
 if(qs.drop sn.toNat).any DH=true then
  let cs':=rO cs (oe (bX n qs)) n
  if leads (bg cs')=leads (bg cs)then⟨cs',s,0⟩
  else⟨cs',coA (bg cs') us an aS (Br (bg cs') s.aX n qs) s n,Zy (bg cs') n⟩
 else⟨cs,s,0⟩
structure QOk(nl n:Nat)(q:de):Prop where
 aS:0<=q.aS/\q.aS<nl
 code:q.code.length<=1000
 to:q.to.var<n
 pl:DH q=true->0<q.vars.length/\0<=wY q/\wY q<n
 vars:∀v∈q.vars,0<=v/\v<n
def Xl(nl n:Nat)(qs:List de):Prop:=∀q∈qs,QOk nl n q
theorem Xl.pl{nl n:Nat}{qs:List de}(h:Xl nl n qs):TA n qs:=fun q hq hp=>⟨((h q hq).pl hp).1,((h q hq).pl hp).2,(h q hq).to⟩
theorem Xl.at{nl n:Nat}{qs:List de}(h:Xl nl n qs){k:Int}(h0:0<=k)(h1:k<qs.length):QOk nl n (qs.getD k.toNat cI):=h _ (dG h0 h1)
def upI(a:Int)(k:Nat):List Int:=(List.range k).map fun i:Nat=>a+(i:Int)
theorem agw{a k:Int}(h:a<=k):upI a (k+1-a).toNat=upI a (k-a).toNat++[k]:=by
 unfold upI
 rw[show(k+1-a).toNat=(k-a).toNat+1 by omega,wj,gp]
 simp only[kV,AL]
 rw[show a+((k-a).toNat:Int)=k by omega]
theorem abM{p:List Int×List Bool}{l:List Int}{k:Int}:qA p (l++[k])=oh (qA p l) k:=by grind[qA]
def TL(c:xx)(sn:Int)(n:Nat):xx:=⟨c.ai,c.aX,(qA (c.wl,c.wi) (upI sn ((n:Int)-sn).toNat)).1,(qA (c.wl,c.wi) (upI sn ((n:Int)-sn).toNat)).2⟩
section
variable{cl:List Nat}{us:List jx}{sh:Sh}{q:de}{ai:List El}{aX:List (BitVec 64)}{wl:List Int}{wi:List Bool}{wy:BitVec 64}
theorem aqf(h:(mE cl us sh q ai aX wl wi wy).ok=true):(mE cl us sh q ai aX wl wi wy).wy=wy:=by
 unfold mE at h⊢
 split
 .rfl
 rename_i h1
 rw[aP h1]at h
 split
 .rename_i h2
  rw[aR h2]at h
  split
  .rfl
  rename_i h3;rw[aP h3]at h;cases h
 split<;>rfl
theorem aqg(h:(mE cl us sh q ai aX wl wi wy).ok=false):(mE cl us sh q ai aX wl wi wy).ai=ai/\(mE cl us sh q ai aX wl wi wy).aX=aX:=by
 unfold mE at h⊢
 split
 .exact⟨rfl,rfl⟩
 rename_i h1
 rw[aP h1]at h
 split
 .split<;>exact⟨rfl,rfl⟩
 rename_i h2
 rw[aP h2]at h
 split
 .exact⟨rfl,rfl⟩
 rename_i h3;rw[aP h3]at h;cases h
theorem agx{b n k:Nat}(hu:∀k:Nat,k<us.length->∀i∈(us.getD k cP).l,0<=i/\i<b)(hl:cl.length=us.length)(h:OL b n k ⟨ai,aX,wl,wi⟩):
  OL b n k ⟨(mE cl us sh q ai aX wl wi wy).ai,(mE cl us sh q ai aX wl wi wy).aX,(mE cl us sh q ai aX wl wi wy).wl,(mE cl us sh q ai aX wl wi wy).wi⟩:=by
 unfold mE
 split
 .exact h
 split
 .split<;>exact h
 split
 .exact h
 exact⟨by simp only[lkR,xu,iy];exact h.lv,by simp only[lkR,iy];exact h.ly,by simp only[lkR,Jj];exact h.li,h.wq.wH hu h.li fun q hq=>by have:=lM hq;omega⟩
end
theorem OL.take{b n k:Nat}{ai:List El}{aX:List (BitVec 64)}{x:Int}{wl:List Int}{wi:List Bool}(h:OL b n k ⟨ai,aX,x::wl,wi⟩):(0<=x/\x<b)/\OL b n k ⟨ai,aX,wl,wi.set x.toNat false⟩:=by
 have hx:=((h.wq.mem x).1 aA).1
 have hl:=h.li
 simp only at hx hl
 exact⟨J,h.lv,h.ly,by simp only[mD];exact hl,h.wq.take⟩
theorem aqh{b n k:Nat}{c:xx}(h:OL b n k c){sn:Int}(h0:0<=sn):OL b n k (TL c sn b):=by
 have hl:∀i∈upI sn ((b:Int)-sn).toNat,0<=i/\i<(c.wi.length:Int):=fun i hi=>by
  obtain⟨j,hj,rfl⟩:=fI.1 hi
  have:=pn.1 hj
  have:=h.li
  omega
 exact⟨h.lv,h.ly,(xq).trans h.li,h.wq.qA hl⟩
theorem abN{f:Value}{s:NP}{k:Int}:iz [(f,.seen s.sn)] s {s with sn:=k}:=iz.one O trivial
def SpR(cl:List Nat)(us:List jx)(an:List oP)(qs:List de)(s:xx)(ok:Bool)(wy wy':BitVec 64):Prop:=
 (ok=true/\s.wl=[]/\wy'=wy)\/(ok=false/\∃x wl,s.wl=x::wl/\(mE cl us (an.getD (qs.getD x.toNat cI).aS.toNat oF).p.sh (qs.getD x.toNat cI) s.ai s.aX wl (s.wi.set x.toNat false) wy).ok=false/\wy'=(mE cl us (an.getD (qs.getD x.toNat cI).aS.toNat oF).p.sh (qs.getD x.toNat cI) s.ai s.aX wl (s.wi.set x.toNat false) wy).wy)
theorem akX{b n k:Nat}{c:xx}(h:OL b n k c){l:List Int}(hl:∀i∈l,0<=i/\i<(b:Int)):OL b n k ⟨c.ai,c.aX,(qA (c.wl,c.wi) l).1,(qA (c.wl,c.wi) l).2⟩:=
 ⟨h.lv,h.ly,(xq).trans h.li,h.wq.qA fun i hi=>by have:=hl i hi;have:=h.li;omega⟩
theorem G9(n:Nat):tD [] (List.replicate n false):=by grind[tD]
theorem aqi{cs:List (List Nat)}{us:List jx}{an:List oP}{aS:List Int}{qs:List de}{sn:Int}{ai:List El}{aX:List (BitVec 64)}(hl:(bg cs).length=us.length)(hu:∀k:Nat,k<us.length->∀i∈(us.getD k cP).l,0<=i/\i<(qs.length:Int))(hn:ai.length=us.length):
 OL qs.length ai.length aX.length (rG cs us an aS qs sn ai.length ⟨ai,aX,[],List.replicate qs.length false⟩).s:=by grind[OL,G9,rG,Xk,vM]
theorem akY{cs:List (List Nat)}{us:List jx}{an:List oP}{aS:List Int}{qs:List de}{sn:Int}{n:Nat}{s:xx}:(bg (rG cs us an aS qs sn n s).cs).length=(bg cs).length:=by grind[rG,vM]
theorem auX{cs:List (List Nat)}{us:List jx}{an:List oP}{aS:List Int}{qs:List de}{sn:Int}{n:Nat}{s:xx}:(rG cs us an aS qs sn n s).j<=(bg cs).length*n:=by grind[rG,Xj,bg,rO,oe,bX,vM]
theorem ZA:∀(l:List lK) (s:NP) (y:BitVec 64),(∀c∈l,G7 c)->CD l {s with wy:=y}={CD l s with wy:=y}/\(okB l s->okB l {s with wy:=y})
 |[],s,y,_=>⟨rfl,fun h=>h⟩
 |c::l,s,y,h=>by
  have e:uG c {s with wy:=y}={uG c s with wy:=y}/\(okN c s->okN c {s with wy:=y}):=by
   have:=h c aA
   cases c<;>first|exact this.elim|exact⟨rfl,fun h=>h⟩
  have ih:=ZA l (uG c s) y fun c hc=>h c (fq _ hc)
  refine⟨?_,fun⟨h1,h2⟩=>⟨e.2 h1,?_⟩⟩
  .show CD l (uG c {s with wy:=y})=_
   rw[e.1];exact ih.1
  show okB l (uG c {s with wy:=y})
  rw[e.1];exact ih.2 h2
theorem iz.wy{new:List (Value×lK)}{s s':NP}(h:iz new s s')(hr:∀x∈new,G7 x.2)(y:BitVec 64):iz new {s with wy:=y} {s' with wy:=y}:=by grind[lK,NP,iz,G7,ZA]
theorem oA.C3{T:UT}{F:Nat}{L L':List a8}{x:Value×jh}(h:oA T F L x)(hs:∀b o,a8.blk b o∈L->a8.blk b o∈L'):oA T F L' x:=by
 obtain⟨v,u⟩:=x
 cases u with
 |add n=>obtain⟨b1,b2,h1,h2,h3⟩:=h;exact⟨b1,b2,h1,hs _ _ h2,hs _ _ h3⟩
 |set i b=>obtain⟨b1,b2,b3,h1,h2,h3,h4⟩:=h;exact⟨b1,b2,b3,h1,hs _ _ h2,hs _ _ h3,hs _ _ h4⟩
theorem vK.C3{T:FTy}{F m:Nat}{cs:List (List Nat)}{vW vU:Value}{cW cU:Option (Nat×Array Value)}{W:List (BitVec 64)}{ul:List (Value×jh)}{ts:List Int}{cn:Int}{L L':List a8}(h:vK T F m cs vW vU cW cU W ul ts cn L)(hs:∀b o,a8.blk b o∈L->a8.blk b o∈L'):vK T F m cs vW vU cW cU W ul ts cn L':=by
 obtain⟨tn,e,i⟩:=h.fo
 exact⟨⟨tn,e,i.hW,i.hU,i.hs,i.ok,fun x hx=>(i.un x hx).C3 hs,i.lu,i.lt⟩,h.cn⟩
theorem l9.C3{T:NTy}{n:Nat}{L L':List a8}{x:Value×lK}(h:l9 T n L x)(hs:∀b o,a8.blk b o∈L->a8.blk b o∈L'):l9 T n L' x:=by
 obtain⟨v,c⟩:=x
 cases c with
 |aS i=>obtain⟨b1,b2,h0,h1,h2⟩:=h;exact⟨b1,b2,h0,hs _ _ h1,hs _ _ h2⟩
 |var i m=>obtain⟨b1,b2,b3,h0,h1,h2,h3⟩:=h;exact⟨b1,b2,b3,h0,hs _ _ h1,hs _ _ h2,hs _ _ h3⟩
 |add i q=>obtain⟨b1,b2,b3,h0,h1,h2,h3⟩:=h;exact⟨b1,b2,b3,h0,hs _ _ h1,hs _ _ h2,hs _ _ h3⟩
 |raise v was had=>obtain⟨b1,b2,b3,b4,h0,h1,h2,h3,h4⟩:=h;exact⟨b1,b2,b3,b4,h0,hs _ _ h1,hs _ _ h2,hs _ _ h3,hs _ _ h4⟩
 |merge m=>obtain⟨b1,b2,h0,h1,h2⟩:=h;exact⟨b1,b2,h0,hs _ _ h1,hs _ _ h2⟩
 |seen was=>obtain⟨b1,b2,h0,h1,h2⟩:=h;exact⟨b1,b2,h0,hs _ _ h1,hs _ _ h2⟩
 |stuck=>obtain⟨b1,h0,h1⟩:=h;exact⟨b1,h0,hs _ _ h1⟩
theorem QU{t:TypeId}{gs:List jx}{A B:List a8}{b:Nat}{o:Obj}(h:a8.blk b o∈A++(gs.map (dB t)++B)):a8.blk b o∈A++B:=by
 rcases eF.1 h with q|q
 .exact dy _ q
 rcases eF.1 q with q|q
 .obtain⟨x,_,e⟩:=fI.1 q
  cases e
 exact bB _ q
structure NF where
 vL:Value
 vt:Value
 vv:Value
 vy:Value
 vu:Value
 vq:Value
 vW:Value
 vU:Value
 vT:Value
 cn:Int
 vd:Value
 vm:Value
 cW:Option (Nat×Array Value)
 cU:Option (Nat×Array Value)
 W:List (BitVec 64)
 ul:List (Value×jh)
 ts:List Int
 us:List jx
def Xm:Value×lK:=(.tuple #[],.stuck)
def Bt(lg:List (Value×lK))(k:Nat):List lK:=((lg.drop k).map Prod.snd).reverse
theorem OM{lg:List (Value×lK)}{k:Nat}(h:k<lg.length):Bt lg k=Bt lg (k+1)++[(lg.getD k Xm).2]:=by grind[Bt,List.drop_eq_getElem_cons,List.reverse_cons,getD_eq]
theorem agy{lg:List (Value×lK)}{k:Nat}(h:lg.length<=k):Bt lg k=[]:=by simp_all[Bt]
theorem TM{lg new:List (Value×lK)}:Bt (lg++new) lg.length=(new.map Prod.snd).reverse:=by grind[Bt]
theorem abO{lg:List (Value×lK)}{s:NP}{k:Nat}(h:k<lg.length):CD (Bt lg k) s=uG (lg.getD k Xm).2 (CD (Bt lg (k+1)) s):=by
 rw[OM h,TE];rfl
theorem akZ{lg:List (Value×lK)}{s:NP}{o k:Nat}(ho:o<=k)(hk:k<lg.length)(h:okB (Bt lg o) s):okN (lg.getD k Xm).2 (CD (Bt lg (k+1)) s):=by
 have e:Bt lg o=Bt lg k++(((lg.drop o).take (k-o)).map Prod.snd).reverse:=by
  unfold Bt
  rw[<-List.reverse_append,<-gp]
  congr 2
  rw[show lg.drop k=(lg.drop o).drop (k-o)by rw[PE,show o+(k-o)=k by omega],FQ]
 rw[e,QS,OM hk,QS]at h
 exact h.1.2.1
theorem Le.zb{K:Vu}{Z Z':List a8}(h:∀b o,a8.blk b o∈Z->a8.blk b o∈Z'):Le (Kz K Z) (Kz K Z'):=fun b o hb=>hb.imp id (h b o)
structure Fa(s:NP):Prop where
 RQ:s.aX.length=s.ai.length
 M7:s.us.length=s.ai.length
 n8:(bg s.cs).length=s.ai.length
 ON:s.ai.length<=1000
 UZ:0<=s.sn/\s.sn<=s.qs.length
 hqn:s.qs.length<=1000
 hqo:Xl s.an.length s.ai.length s.qs
 hlt:s.aS.length=s.ai.length
 hlr:∀k:Nat,k<s.aS.length->0<=s.aS.getD k 0/\s.aS.getD k 0<s.an.length
 wI:∀k:Nat,k<s.us.length->(s.us.getD k []).length<=1000/\∀i∈s.us.getD k [],0<=i/\i<(s.qs.length:Int)
theorem Hp.Xn{w0 w:World}{A Zf Lb E U L:List a8}(h:Hp w0 w (A++(Zf++(Lb++(E++(U++L)))))):Hp w0 w (A++(U++(Zf++(Lb++(E++L))))):=by
 refine h.perm (tL A ?_)
 rw[show Zf++(Lb++(E++(U++L)))=((Zf++(Lb++E))++U)++L by simp only[dg],show U++(Zf++(Lb++(E++L)))=(U++(Zf++(Lb++E)))++L by simp only[dg]]
 exact List.Perm.append_right L sE
theorem Bu{us:List jx}{k:Nat}:(o5 us).getD k []=(us.getD k cP).l:=by grind[jx,o5,cP]
theorem TN{s:NP}(h:Fa s){us:List jx}(hu:o5 us=s.us){t:TypeId}{L:List a8}:∀k:Nat,k<us.length->dB t (us.getD k cP)∈us.map (dB t)++L/\(us.getD k cP).l.length<=1000/\∀i∈(us.getD k cP).l,0<=i/\i<(s.qs.length:Int):=fun k hk=>by
 have e:=Bu (us:=us) (k:=k)
 rw[hu]at e
 have:=h.wI k (by rw[<-hu,fQ];exact hk)
 rw[e]at this
 refine⟨dy _ (fI.2 ⟨us.getD k cP,?_,rfl⟩),this⟩
 rw[getD_eq hk]
 exact pS hk
theorem ZB{lg new:List (Value×lK)}{k:Int}(h1:(lg.length:Int)<=k)(h2:k<(lg++new).length):(lg++new).getD k.toNat Xm∈new:=by grind
theorem TO{t:TypeId}{gs:List jx}{A E B:List a8}{b:Nat}{o:Obj}(h:a8.blk b o∈A++(E++(gs.map (dB t)++B))):a8.blk b o∈A++(E++B):=by grind[QU]
theorem Xo{f:Value}{s:NP}{y:BitVec 64}(h1:s.sk=false)(h2:s.wy=0):iz [(f,.stuck)] s {s with sk:=true,wy:=y}:=by
 refine iz.one ?_ trivial
 obtain⟨a,b,c,d,e,f,g,h,i,j,k⟩:=s
 simp only at h1 h2
 subst h1;subst h2;rfl
def agA:Value->Bool
 | .nilFunc=>false
 |_=>true
section
variable{P:Program}{σ:Env}{w w':World}{dst:Option Tmp}{t ty u:TypeId}{pos:String}{bH:Array Edge}{g:Option (Nat×Bool)}{x y:Operand}{v:Value}
theorem abP(d:Nat){ps rs:Array TypeId}{vr:Bool}(ht:P.underlying t=some (.func ps rs vr)):(Op.equalIn (d+1) t .nilFunc .nilFunc).run P w= .ok true w:=by
 simp[Op.equalIn,jG ht]
theorem abQ{ps rs:Array TypeId}{vr:Bool}(hv:v= .nilFunc\/∃f c,v=iW f c)(ht:P.underlying t=some (.func ps rs vr))(hx:ev σ x=v)(hy:ev σ y= .nilFunc):
  (execOp (ev σ) ⟨dst,.binOp .neq t x y u,ty,pos,bH,g⟩).run P w= .ok (.value (.bool (agA v))) w:=by
 rcases hv with rfl|⟨f,c,rfl⟩
 .have h:(binOp .neq t .nilFunc .nilFunc).run P w= .ok (.bool false) w:=by
   simp only[binOp];simp[Op.equal,Op.maxDepth,abP 9999 ht]
  have he:(eqGuard .neq t x y .nilFunc .nilFunc)=pure ():=rfl
  simp only[execOp,hx,hy,he];simp[h,agA]
 exact Tm ht hx hy
end
theorem Fb{T:M6}{K:Vu}{ids:List Nat}{tl:List (Nat×Rl)}{x:oP}(h:U1 T K ids tl x):∀u∈(U0 x).toArray,u.oneCell'=true:=by
 intro u hu
 obtain⟨f,g,k,a,b,c,e1,e2,e3⟩:=h.ops.one
 simp only[U0,zY,JG,cT,eF,FW,AP]at hu
 rcases hu with(rfl|rfl)|(rfl|rfl|rfl)|hu
 .rfl
 .exact(k9 h.yz.aT).1
 .rw[e1];rfl
 .rw[e2];rfl
 .rw[e3];rfl
 exact vF x.low u pX
theorem OO{P p:kL}(h:P.sh=⟨true,zD [p]⟩):P.aT.map pI.fc=p.aT.map pI.fc:=by
 have hq:=aJ Sh.aT h
 simp only[zD,s0,List.flatMap_nil,lU]at hq
 exact hq
theorem ak0{P p:kL}(h:P.sh=⟨true,zD [p]⟩)(h1:p.aT.length<=1000)(h2:∀f∈p.aT,f.names.length<=1000):P.aT.length<=1000/\∀f∈P.aT,f.names.length<=1000:=by
 have hq:=OO h
 refine⟨?_,fun f hf=> ?_⟩
 .have:=aJ List.length hq;rw[fx,fx]at this;omega
 have hm:f.fc∈p.aT.map pI.fc:=hq▸fI.2 ⟨f,hf,rfl⟩
 obtain⟨f2,h3,e⟩:=fI.1 hm
 have:=h2 f2 h3
 have e2:f2.names=f.names:=aJ Fc.names e
 rwa[e2]at this
theorem TP{f:Value}{s:NP}{x:oP}:iz [(f,.aS s.an.length)] s {s with an:=s.an++[x]}:=
 iz.one (by simp only[uG];rw[tR]) (by show s.an.length<=(s.an++[x]).length;simp)
theorem Hp.us2{w0 w:World}{A Z B C U L:List a8}(h:Hp w0 w (A++(Z++(B++(C++(U++L)))))):Hp w0 w (A++(U++(Z++(B++(C++L))))):=h.perm (tL A (by
 rw[show Z++(B++(C++(U++L)))=(Z++(B++C))++(U++L)by simp only[dg],show U++(Z++(B++(C++L)))=U++((Z++(B++C))++L)by simp only[dg]]
 exact vh _ _ _))
theorem Hp.us3{w0 w:World}{A Z B C D U L:List a8}(h:Hp w0 w (A++(Z++(B++(C++(D++(U++L))))))):Hp w0 w (A++(U++(Z++(B++(C++(D++L)))))):=h.perm (tL A (by
 rw[show Z++(B++(C++(D++(U++L))))=(Z++(B++(C++D)))++(U++L)by simp only[dg],show U++(Z++(B++(C++(D++L))))=U++((Z++(B++(C++D)))++L)by simp only[dg]]
 exact vh _ _ _))
theorem Hp.us4{w0 w:World}{A Z B C D E U L:List a8}(h:Hp w0 w (A++(Z++(B++(C++(D++(E++(U++L)))))))):Hp w0 w (A++(U++(Z++(B++(C++(D++(E++L))))))):=h.perm (tL A (by
 rw[show Z++(B++(C++(D++(E++(U++L)))))=(Z++(B++(C++(D++E))))++(U++L)by simp only[dg],show U++(Z++(B++(C++(D++(E++L)))))=U++((Z++(B++(C++(D++E))))++L)by simp only[dg]]
 exact vh _ _ _))
theorem TH.snoc{T:M6}{K:Vu}{ids:List Nat}{tl:List (Nat×Rl)}{l:List oP}{x:oP}(h:TH T K ids tl l)(hx:U1 T K ids tl x):TH T K ids tl (l++[x]):=fun y hy=>by
 rcases eF.1 hy with q|q
 .exact h y q
 rw[fG.1 q];exact hx
end
end Go.Proofs.YtlhjdflgjbkpmaaGreatDoor.E

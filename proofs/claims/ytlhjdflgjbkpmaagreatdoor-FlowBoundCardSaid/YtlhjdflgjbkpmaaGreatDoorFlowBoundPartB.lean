/- Part 2 of the proof of FlowBound: its plain laws and the walks of its functions. -/
import Derived.Test.YtlhjdflgjbkpmaaGreatDoorFlowBoundPartA
set_option linter.all false
namespace Go.Proofs.YtlhjdflgjbkpmaaGreatDoor.E
section
open Go Go.RowKit Go.Proofs.YtlhjdflgjbkpmaaGreatDoor.M
def UC(a b:Tx):Bool:=Op.bytesLess a.toList b.toList
section
variable{P:Program}{σ:Env}{w:World}{dst:Option Tmp}{ty t u:TypeId}{pos:String}{bK:Array Edge}{g:Option (Nat×Bool)}{x y:Operand}{a b:Tx}
end
structure jC where
 name:Tx
 el:El
def R9:jC:=⟨pM,dH⟩
def ag3(v:jC):List Value:=S v.name::s8 v.el
def PI(l:List jC)(f:Tx):Int:=sM (fun i=>decide ((l.getD i.toNat R9).name=f)) l.length
def adm(l:List jC)(f:Tx):El×Bool:=if PI l f<0 then(dH,false)else((l.getD (PI l f).toNat R9).el,true)
def spot(l:List jC)(f:Tx):Nat:=if 0<=sM (fun i=>UC f (l.getD i.toNat R9).name) l.length then(sM (fun i=>UC f (l.getD i.toNat R9).name) l.length).toNat else l.length
def aoT(l:List jC)(f:Tx)(e:El):List jC:=if PI l f<0 then l.take (spot l f)++⟨f,e⟩::l.drop (spot l f)else l.set (PI l f).toNat ⟨f,e⟩
def awx(a b:jC):Bool:=decide (a.name=b.name)&&decide (rC a.el b.el)
def aoU(l m:List jC):Bool:=decide (l.length=m.length)&&(upto l.length).all fun i=>awx (l.getD i.toNat R9) (m.getD i.toNat R9)
structure As where
 labels:List El
 rows:List (List jC)
def aDw(a:As)(i:Nat):El:=a.labels.getD i dH
def aMu(a:As)(i:Nat):List jC:=a.rows.getD i []
def aJm(a b:As):Bool:=decide (a.labels.length=b.labels.length/\a.rows.length=b.rows.length)&&((upto a.labels.length).all fun i=>decide (rC (a.labels.getD i.toNat dH) (b.labels.getD i.toNat dH)))&&(upto a.rows.length).all fun i=>aoU (a.rows.getD i.toNat []) (b.rows.getD i.toNat [])
def arB(l m:List jC):Bool:=l.all fun v=>(adm m v.name).2&&cT v.el (adm m v.name).1
def aMv(a b:As):Bool:=((upto a.labels.length).all fun i=>cT (a.labels.getD i.toNat dH) (b.labels.getD i.toNat dH))&&(upto a.rows.length).all fun i=>arB (a.rows.getD i.toNat []) (b.rows.getD i.toNat [])
def PJ(l m:List jC):List jC:=l.filterMap fun v=>if(adm m v.name).2 then some ⟨v.name,rD v.el (adm m v.name).1⟩else none
def awy(a b:As):As:=⟨(a.labels.zip b.labels).map fun p=>rD p.1 p.2,(a.rows.zip b.rows).map fun p=>PJ p.1 p.2⟩
theorem ag4{α β γ:Type}{F:α×β->γ}{l:List α}{m:List β}{k:Int}{da:α}{db:β}(h0:0<=k)(h1:k<l.length)(h2:k<m.length):
  ((l.zip m).take (k+1).toNat).map F=((l.zip m).take k.toNat).map F++[F (l.getD k.toNat da,m.getD k.toNat db)]:=by
 have h3:(l.zip m)[k.toNat]?=some (l.getD k.toNat da,m.getD k.toNat db):=by
  rw[List.getElem?_zip_eq_some];exact⟨fG (d:=da) h0 h1,fG (d:=db) h0 h2⟩
 rw[show(k+1).toNat=k.toNat+1 by omega,yO,h3,gz];rfl
theorem aaU{α β γ:Type}{F:α×β->γ}{l:List α}{m:List β}{k:Int}(h:¬(k<l.length/\k<m.length)):((l.zip m).take k.toNat).map F=(l.zip m).map F:=by
 rw[iV];rw[List.length_zip];omega
section
variable{l m:List jC}{k:Int}
end
section
variable{a b:As}{k:Int}
end
def ag5(l:List jC):Bool:=(upto l.length).all fun i=>iG (l.getD i.toNat R9).name&&(decide (i<=0)||UC (l.getD (i-1).toNat R9).name (l.getD i.toNat R9).name)
def awz(s:Sh)(l:List jC):Bool:=l.all fun v=>cF s v.el
structure Sc where
 au:List Sh
 vars:List vS
def okV(s:Sc)(v:vS)(e:El)(l:List jC):Bool:=decide (0<=v.aX/\v.aX<s.au.length)&&
 (if v.kind=1 then decide (l.length=0)&&cF (s.au.getD v.aX.toNat ⟨false,[]⟩) e
  else if v.kind=2 then decide (rC e dH)&&ag5 l&&awz (s.au.getD v.aX.toNat ⟨false,[]⟩) l else false)
def Sa(s:Sc)(a:As):Bool:=decide (a.labels.length=s.vars.length/\a.rows.length=s.vars.length)&&(upto s.vars.length).all fun i=>okV s (s.vars.getD i.toNat gL) (a.labels.getD i.toNat dH) (a.rows.getD i.toNat [])
def adn(s:Sc)(v:vS):El:=if v.kind=1/\0<=v.aX/\v.aX<s.au.length then iu (s.au.getD v.aX.toNat ⟨false,[]⟩) eY else dH
def arC(s:Sc):As:=⟨s.vars.map (adn s),s.vars.map fun _=>[]⟩
def aDx(l:List jC):Prop:=l.Pairwise fun a b=>UC a.name b.name=true
theorem jR(e:El):cT e e=true:=pB.2 fun i _=>sS _
theorem Mw{a b c:El}(h:cT a b=true)(h':cT b c=true):cT a c=true:=by grind[pB,lM]
def awA(s:Sc)(v:vS):Sh:=s.au.getD v.aX.toNat ⟨false,[]⟩
section
variable{s:Sc}{a b c:As}(ha:Sa s a=true)(hb:Sa s b=true)
include ha hb
end
def wF(b:Tx):List Tx->Tx
 |[]=>pM
 |x::l=>l.foldl (fun a y=>a++b++y) x
def arD(s:Sh)(v:jC):Tx:=v.name++tc 61++agZ s v.el
def aDy(s:Sh)(l:List jC):Tx:=tc 91++wF (tc 44) (l.map (arD s))++tc 93
def awB(s:Sc)(v:vS)(e:El)(l:List jC):Tx:=v.name++tc 61++(if v.kind=1 then agZ (awA s v) e else aDy (awA s v) l)
def aoV(s:Sc)(a:As)(k:Int):List Tx:=(upto k).map fun i=>awB s (s.vars.getD i.toNat gL) (a.labels.getD i.toNat dH) (a.rows.getD i.toNat [])
def aJo(s:Sc)(a:As):Tx:=if Sa s a then wF (tc 32) (aoV s a s.vars.length)else pM
def aMw(l:List By):By:=l.flatMap fun y=>32::y
def PT(s:Sc)(p:vS×El×List jC):By:=bl (awB s p.1 p.2.1 p.2.2)
def aMx(s:Sc)(a:As):List (vS×El×List jC):=(upto s.vars.length).map fun i=>(s.vars.getD i.toNat gL,a.labels.getD i.toNat dH,a.rows.getD i.toNat [])
theorem wH(e:El):∀u∈s8 e,u.oneCell'=true:=fun u hu=>aaM e u (by rw[iv];simpa using hu)
theorem aaV(l:List El):∀u∈l.flatMap s8,u.oneCell'=true:=by grind[wH]
structure WR where
 v:Value
 l:List jC
def vr0:WR:=⟨.slice none 0 0,[]⟩
abbrev awC(l:List WR):List Value:=l.map WR.v
structure u5(K:Vu)(l:List WR):Prop where
 each:∀r∈l,pN K r.v 9 r.l.length (r.l.flatMap ag3)
theorem u5.mono{K K':Vu}{l:List WR}(h:u5 K l)(hl:Le K K'):u5 K' l:=⟨fun r hr=>(h.each r hr).mono hl⟩
theorem u5.at{K:Vu}{l:List WR}(h:u5 K l){k:Int}(h0:0<=k)(h1:k<l.length):pN K (l.getD k.toNat vr0).v 9 (l.getD k.toNat vr0).l.length ((l.getD k.toNat vr0).l.flatMap ag3):=h.each _ (lz (fG (d:=vr0) h0 h1))
theorem u5.nil(K:Vu):u5 K []:=⟨fun r hr=>by simp at hr⟩
theorem u5.snoc{K:Vu}{l:List WR}{r:WR}(h:u5 K l)(hr:pN K r.v 9 r.l.length (r.l.flatMap ag3)):u5 K (l++[r]):=⟨fun x hx=>by
 rcases eI.1 hx with hx|hx
 .exact h.each x hx
 rw[dY.1 hx];exact hr⟩
structure Om where
 lv:Value
 labels:List El
 rv:Value
 rows:List WR
def aMy(a:Om):List Value:=[a.lv,a.rv]
def arE:Om:=⟨.slice none 0 0,[],.slice none 0 0,[]⟩
def Om.HU(a:Om):As:=⟨a.labels,a.rows.map WR.l⟩
structure UD(K:Vu)(a:Om):Prop where
 labels:pN K a.lv 8 a.labels.length (a.labels.flatMap s8)
 rows:pN K a.rv 1 a.rows.length (awC a.rows)
 each:u5 K a.rows
theorem UD.mono{K K':Vu}{a:Om}(h:UD K a)(hl:Le K K'):UD K' a:=⟨h.labels.mono hl,h.rows.mono hl,h.each.mono hl⟩
theorem UD.at{K:Vu}{a:Om}(h:UD K a){k:Int}(h0:0<=k)(h1:k<a.rows.length):pN K (a.rows.getD k.toNat vr0).v 9 (a.rows.getD k.toNat vr0).l.length ((a.rows.getD k.toNat vr0).l.flatMap ag3):=h.each.at h0 h1
structure amj where
 a:Om
 b:Om
 c:Om
def aMz(x:amj):List Value:=[x.a.lv,x.a.rv,x.b.lv,x.b.rv,x.c.lv,x.c.rv]
def aMA:amj:=⟨arE,arE,arE⟩
structure ag6(K:Vu)(x:amj):Prop where
 a:UD K x.a
 b:UD K x.b
 c:UD K x.c
theorem ag6.mono{K K':Vu}{x:amj}(h:ag6 K x)(hl:Le K K'):ag6 K' x:=⟨h.a.mono hl,h.b.mono hl,h.c.mono hl⟩
theorem Jq(a:Om):a.HU.rows.length=a.rows.length:=gB ..
def kE.sc(s:kE):Sc:=⟨s.au.map fun l=>l.zx.sh,s.vars⟩
section
variable{P:Program}{σ:Env}{w:World}{dst:Option Tmp}{ty t u e:TypeId}{pos:String}{bK:Array Edge}{g:Option (Nat×Bool)}{x y:Operand}{b:Nat}{fr:Nat×Nat}
end
def aJp(l:List DF)(i:Int):DF:=if 0<=i/\i<l.length then l.getD i.toNat me else me
theorem u5.or{K:Vu}{l:List WR}(h:u5 K l)(k:Nat):pN K (l.getD k vr0).v 9 (l.getD k vr0).l.length ((l.getD k vr0).l.flatMap ag3):=by
 by_cases hk:k<l.length
 .have:=h.at (k:=(k:Int)) J J
  simpa using this
 rw[eS,ny J];exact pN.nil _ _
section
variable{s:kE}{v:vS}{e:El}{l:List jC}{a:Om}{k:Int}
abbrev shG(s:kE)(v:vS):Sh:=(s.au.getD v.aX.toNat me).zx.sh
abbrev okG(s:kE)(a:Om)(k:Int):Bool:=okV s.sc (s.vars.getD k.toNat gL) (a.labels.getD k.toNat dH) (a.rows.getD k.toNat vr0).l
end
section
variable{a b:Om}{k j:Int}
end
def aDz(l:List WR):Nat:=(l.map fun r=>r.l.length).sum
def awD(v:jC):Bool:=decide (40<v.name.size)
def aDA(r:WR):Bool:=r.l.any awD
def aMB(a:Om):Bool:=decide (100<a.labels.length\/100<a.rows.length)||a.rows.any aDA||decide (200<(aDz a.rows:Int))
def aDB(b:Tx)(l:List Tx)(k:Int):Tx:=wF b (l.take k.toNat)
def szJ(b:Tx)(l:List Tx):Nat:=(l.map fun x=>x.size+b.size).sum
section
variable{s:kE}{a:Om}{k:Int}
end
section
variable{P m:Tx}{sh:Sh}{l:List jC}{q:Int}
end
abbrev VS(s:kE)(a:Om):List Tx:=aoV s.sc a.HU s.vars.length
section
variable{s:kE}{a:Om}{k:Int}
end
abbrev aMC(p:El×Bool):Value:= .tuple #[.agg (jv p.1),B p.2]
theorem Ih{a b:As}{k:Int}(h0:0<=k)(h1:k<a.rows.length)(h2:k<b.rows.length):((a.rows.zip b.rows).take k.toNat).map (fun p=>PJ p.1 p.2)++[PJ (a.rows.getD k.toNat []) (b.rows.getD k.toNat [])]=((a.rows.zip b.rows).take (k+1).toNat).map fun p=>PJ p.1 p.2:=(ag4 (F:=fun p:List jC×List jC=>PJ p.1 p.2) h0 h1 h2).symm
section
variable{P:Program}{σ:Env}{w:World}{dst:Option Tmp}{ty t e:TypeId}{pos:String}{bK:Array Edge}{g:Option (Nat×Bool)}{x:Operand}
theorem rY{a:El}{ie:TypeInfo}{z:Value}(hu:P.underlying t=some (.slice e))(hie:P.info? e=some ie)(hz:ie.zero=some z)(hsz:ie.size=8)(hx:ev σ x= .agg (jv a)):
  (execOp (ev σ) ⟨dst,.buildSlice t 1 #[(0,x)],ty,pos,bK,g⟩).run P w= .ok (.value (.slice (some ⟨w.heap.size,0,none⟩) 1 1)) (w.alloc (.cells ([a].flatMap s8).toArray e)):=
 n7 (ps:=[(0,x)]) (l:=[a]) fK hu hie hz hsz O az az (by rw[iv]at hx;simp[hx])
theorem ado{v:Value}{ie:TypeInfo}{z:Value}(h1:v.cells=#[v])(hu:P.underlying t=some (.slice e))(hie:P.info? e=some ie)(hz:ie.zero=some z)(hsz:ie.size=1)(hx:ev σ x=v):
  (execOp (ev σ) ⟨dst,.buildSlice t 1 #[(0,x)],ty,pos,bK,g⟩).run P w= .ok (.value (.slice (some ⟨w.heap.size,0,none⟩) 1 1)) (w.alloc (.cells ([v]:List Value).toArray e)):=by
 have:=cA (P:=P) (σ:=σ) (w:=w) (dst:=dst) (ty:=ty) (pos:=pos) (bK:=bK) (g:=g) (ps:=[(0,x)]) (vs:=[v]) (sz:=1) hu hie hz hsz O aF aF oN (by simp[h1])
 simpa[h1]using this
end
section
variable{a b:Om}{ls:List El}{gr:List WR}{v0 v1:Value}{k j:Int}
theorem Kx(h1:ls=((a.labels.zip b.labels).take k.toNat).map fun p=>rD p.1 p.2)(h2:gr.map WR.l=((a.HU.rows.zip b.HU.rows).take j.toNat).map fun p=>PJ p.1 p.2)(hk:¬(k<a.labels.length/\k<b.labels.length))(hj:¬(j<a.rows.length/\j<b.rows.length)):
  (⟨v0,ls,v1,gr⟩:Om).HU=awy a.HU b.HU:=by
 show(⟨ls,gr.map WR.l⟩:As)=_
 rw[h1,h2,aaU hk,aaU (by rw[Jq,Jq];exact hj)];rfl
end
section
variable{s:kE}{ls:List El}{v0 v1:Value}{k:Int}
theorem u5.arF(K:Vu)(n:Nat):u5 K (List.replicate n vr0):=⟨fun r hr=>by rw[(List.mem_replicate.1 hr).2];exact pN.nil _ _⟩
end
theorem O5{α:Type}{cl:α->List Value}{sz:Nat}(kD:∀a,(cl a).length=sz)(l:List α)(k:Nat):(l.flatMap cl).take (k*sz)=(l.take k).flatMap cl:=by
 by_cases h:k<=l.length
 .conv=>lhs;rw[<-BB k l,Ew]
  exact List.take_left' (by rw[fq kD,eP,rz h])
 rw[iV (by rw[fq kD];exact ry _ J),iV J]
theorem adp{α:Type}{cl:α->List Value}{sz:Nat}(kD:∀a,(cl a).length=sz)(l:List α)(k:Nat)(h:k<=l.length):(l.flatMap cl).drop (k*sz)=(l.drop k).flatMap cl:=by
 conv=>lhs;rw[<-BB k l,Ew]
 exact List.drop_left' (by rw[fq kD,eP,rz h])
def lsK(s:kE)(k:Int):List El:=(s.vars.take k.toNat).map (adn s.sc)++List.replicate (s.vars.length-k.toNat) dH
section
variable{s:kE}{k:Int}
end
section
variable{l:List jC}{f:Tx}{e:El}{k:Int}
end
def vV:List Tx:=[⟨#[108,111]⟩,⟨#[104,105]⟩]
def aDC:Sh:=⟨false,[⟨1,vV,Rl.none⟩]⟩
def exS:Sc:=⟨[aDC],[⟨⟨#[120]⟩,1,0⟩,⟨⟨#[114]⟩,2,0⟩]⟩
def exA:As:=⟨[A4 dH 0 1#64,dH],[[],[⟨⟨#[102]⟩,dH⟩]]⟩
section
variable{P:Program}{σ:Env}{w:World}{dst:Option Tmp}{ty t e:TypeId}{pos:String}{bK:Array Edge}{g:Option (Nat×Bool)}{x y:Operand}
end
def aoW(l:List jC)(f:Tx):Nat:=if PI l f<0 then spot l f else(PI l f).toNat
def wTo(l:List jC)(f:Tx)(e:El)(k:Int)(d:Bool):List jC:=(aoT l f e).take (k.toNat+if d&& !(adm l f).2 then 1 else 0)
def wIs(l:List jC)(f:Tx)(k:Int)(d:Bool):Prop:=(d=true->(aoW l f:Int)<k)/\(d=false->k<=(aoW l f:Int))
section
variable{l m:List jC}{f:Tx}{e:El}{k:Int}{d:Bool}
theorem k1(h0:0<=k):(k+1).toNat=k.toNat+1:=J
end
def Mx(l:DF):Bool:=iG l.name&&lW l.zx.sh
def Lr(n:Nat)(v:vS):Bool:=iG v.name&&decide ((v.kind=1\/v.kind=2)/\0<=v.aX/\v.aX<n)
def qK(s:kE):List Tx:=s.au.map DF.name++s.vars.map vS.name
def gM(s:kE):Bool:=decide (s.au.length<=16/\s.vars.length<=64)&&s.au.all Mx&&s.vars.all (Lr s.au.length)&&decide (x7 (qK s)<0)
section
variable{s:kE}
theorem PK(h:¬(s.au.length<=16/\s.vars.length<=64)):gM s=false:=by grind[gM]
theorem adq{k:Int}(h0:0<=k)(h1:k<s.au.length)(h:Mx (s.au.getD k.toNat me)=false):gM s=false:=by grind[gM,Ms]
theorem yb{k:Int}(h0:0<=k)(h1:k<s.vars.length)(h:Lr s.au.length (s.vars.getD k.toNat gL)=false):gM s=false:=by grind[gM,Ms]
theorem adr{k j:Int}(h:s.au.length<=16/\s.vars.length<=64)(hk:¬k<s.au.length)(hl:∀i:Int,0<=i->i<k->Mx (s.au.getD i.toNat me)=true)(hj:¬j<s.vars.length)(hv:∀i:Int,0<=i->i<j->Lr s.au.length (s.vars.getD i.toNat gL)=true):
 gM s=decide (x7 (qK s)<0):=by rw[gM,gQ h,Gf hk hl,Gf hj hv];rfl
theorem YL{k:Int}(h0:0<=k)(h1:k<(qK s).length)(h:iG ((qK s).getD k.toNat pM)=false):gM s=false:=by
 cases hc:gM s with
 |false=>rfl
 |true=>
  rw[gM,cG,cG,cG,iN,iN]at hc
  have hm:=lz (fG (d:=pM) h0 h1)
  rw[qK,eI,fX,fX]at hm
  rcases hm with⟨a,ha,e⟩|⟨a,ha,e⟩
  .have:=hc.1.1.2 a ha
   rw[Mx,cG,e]at this
   have h2:=this.1
   rw[qK]at h;rw[h]at h2;cases h2
  have:=hc.1.2 a ha
  rw[Lr,cG,e]at this
  have h2:=this.1
  rw[qK]at h;rw[h]at h2;cases h2
theorem ads{k j i:Int}(k1:k<=s.au.length)(j1:j<=s.vars.length)(h:s.au.length<=16/\s.vars.length<=64)(hk:¬k<s.au.length)(hl:∀i:Int,0<=i->i<k->lW (s.au.getD i.toNat me).zx.sh=true)(hj:¬j<s.vars.length)(hv:∀i:Int,0<=i->i<j->((s.vars.getD i.toNat gL).kind=1\/(s.vars.getD i.toNat gL).kind=2)/\0<=(s.vars.getD i.toNat gL).aX/\(s.vars.getD i.toNat gL).aX<s.au.length)
  (hi:¬i<(qK s).length) (hn:∀x:Int,0<=x->x<i->iG ((qK s).getD x.toNat pM)=true):gM s=decide (x7 (qK s)<0):=by
 have hall:∀t∈qK s,iG t=true:=fun t ht=>by
  obtain⟨x,hx,rfl⟩:=th ht
  have:=hn x J J
  rw[eS,ef,ep hx]at this
  simpa using this
 refine adr h hk (fun x x0 x1=> ?_) hj fun x x0 x1=> ?_
 .rw[Mx,hl x x0 x1,XK]
  refine hall _ (dy _ (List.mem_map_of_mem (lz (fG (d:=me) x0 J))))
 rw[Lr,gQ (hv x x0 x1),XK]
 refine hall _ (bG _ (List.mem_map_of_mem (lz (fG (d:=gL) x0 J))))
theorem UE{k:Int}(h0:0<=k)(h1:k<s.au.length):(s.au.take (k+1).toNat).map DF.name=(s.au.take k.toNat).map DF.name++[(s.au.getD k.toNat me).name]:=by
 have h2:k.toNat<s.au.length:=J
 rw[show(k+1).toNat=k.toNat+1 by omega,yO,gz,eS,ep h2];rfl
theorem Jr{k:Int}(h0:0<=k)(h1:k<s.vars.length):(s.vars.take (k+1).toNat).map vS.name=(s.vars.take k.toNat).map vS.name++[(s.vars.getD k.toNat gL).name]:=by
 have h2:k.toNat<s.vars.length:=J
 rw[show(k+1).toNat=k.toNat+1 by omega,yO,gz,eS,ep h2];rfl
end
end
end Go.Proofs.YtlhjdflgjbkpmaaGreatDoor.E
namespace Go.Proofs.YtlhjdflgjbkpmaaGreatDoor.M
section
open Go
structure dz where
 op:Int
 n:Int
 c:El
structure iw where
 var:Int
 c:El
structure kX where
 name:Tx
 at_:iw
def cB:dz:=⟨0,0,dH⟩
def ag7:iw:=⟨0,dH⟩
def mZ:kX:=⟨pM,ag7⟩
end
end Go.Proofs.YtlhjdflgjbkpmaaGreatDoor.M
namespace Go.Proofs.YtlhjdflgjbkpmaaGreatDoor.E
section
open Go Go.RowKit Go.Proofs.YtlhjdflgjbkpmaaGreatDoor.M
def j6(x:dz):List Value:=I x.op::I x.n::s8 x.c
theorem gj(x:dz):(j6 x).length=10:=by simp[j6,fK]
def jq(a:iw):List Value:=I a.var::s8 a.c
theorem Dp(a:iw):(jq a).length=9:=by simp[jq,fK]
def tF(f:kX):List Value:=S f.name::jq f.at_
theorem rZ(f:kX):(tF f).length=10:=by simp[tF,Dp]
structure A5 where
 fv:Value
 fields:List kX
 tail:Int
def amk:A5:=⟨.slice none 0 0,[],0⟩
def Sb(r:A5):List Value:=[r.fv,I r.tail]
structure gp where
 op:Int
 aX:Int
 cv:Value
 code:List dz
 to:iw
 a:A5
 b:A5
 var:Int
 field:Tx
def fU:gp:=⟨0,0,.slice none 0 0,[],ag7,amk,amk,0,pM⟩
def zy(x:gp):List Value:=I x.op::I x.aX::x.cv::(jq x.to++[x.a.fv,I x.a.tail,x.b.fv,I x.b.tail,I x.var,S x.field])
theorem yc(x:gp):(zy x).length=18:=by simp[zy,Dp]
structure l6 where
 s:kE
 av:Value
 bu:List gp
def D6(p:l6):List Value:=[p.s.lv,p.s.vv,p.av]
structure YM(K:Vu)(r:A5):Prop where
 fields:pN K r.fv 10 r.fields.length (r.fields.flatMap tF)
structure JQ(K:Vu)(x:gp):Prop where
 code:pN K x.cv 10 x.code.length (x.code.flatMap j6)
 a:YM K x.a
 b:YM K x.b
structure wI(K:Vu)(p:l6):Prop where
 s:E5 K p.s
 bu:pN K p.av 18 p.bu.length (p.bu.flatMap zy)
 each:∀x∈p.bu,JQ K x
theorem YM.mono{K K':Vu}{r:A5}(h:YM K r)(hl:Le K K'):YM K' r:=⟨h.fields.mono hl⟩
theorem JQ.mono{K K':Vu}{x:gp}(h:JQ K x)(hl:Le K K'):JQ K' x:=⟨h.code.mono hl,h.a.mono hl,h.b.mono hl⟩
theorem wI.mono{K K':Vu}{p:l6}(h:wI K p)(hl:Le K K'):wI K' p:=⟨h.s.mono hl,h.bu.mono hl,fun x hx=>(h.each x hx).mono hl⟩
theorem wI.at{K:Vu}{p:l6}(h:wI K p){k:Int}(h0:0<=k)(h1:k<p.bu.length):JQ K (p.bu.getD k.toNat fU):=h.each _ (lz (fG (d:=fU) h0 h1))
theorem aaW(e:El):(s8 e).take 8=s8 e:=by grind[fK]
theorem Gh(x:dz):((j6 x).toArray.toList.drop 2).take 8=s8 x.c:=aaW x.c
theorem UF(x:iw):((jq x).toArray.toList.drop 1).take 8=s8 x.c:=aaW x.c
theorem PL(x:kX):∀(j:Nat) (c:Value),(jq x.at_)[j]?=some c->(tF x)[1+j]?=some c:=by grind[kX,jq,tF]
theorem aaX(x:gp):((zy x).toArray.toList.drop 3).take (jq x.to).length=jq x.to:=uH ..
theorem UG(x:gp):(zy x).toArray.toList.drop 12=[x.a.fv,I x.a.tail,x.b.fv,I x.b.tail,I x.var,S x.field]:=by
 show(jq x.to++[x.a.fv,I x.a.tail,x.b.fv,I x.b.tail,I x.var,S x.field]).drop 9=_
 rw[show(9:Nat)=(jq x.to).length by rw[Dp]];exact EJ ..
theorem arG(x:gp):((zy x).toArray.toList.drop 12).take (Sb x.a).length=Sb x.a:=by rw[UG];rfl
theorem arH(x:gp):((zy x).toArray.toList.drop 14).take (Sb x.b).length=Sb x.b:=by
 rw[show(14:Nat)=12+2 by omega,<-Rg,UG];rfl
theorem Dq(p:l6):((D6 p).toArray.toList.drop 0).take (Cf p.s).length=Cf p.s:=rfl
theorem yd(x:dz):∀u∈(j6 x).toArray,u.oneCell'=true:=by
 intro u hu;simp[j6]at hu
 rcases hu with rfl|rfl|hu
 .rfl
 .rfl
 exact wH x.c u hu
theorem It(x:iw):∀u∈(jq x).toArray,u.oneCell'=true:=by
 intro u hu;simp[jq]at hu
 rcases hu with rfl|hu
 .rfl
 exact wH x.c u hu
theorem My(x:kX):∀u∈(tF x).toArray,u.oneCell'=true:=by
 intro u hu;simp[tF]at hu
 rcases hu with rfl|hu
 .rfl
 exact It x.at_ u qy
theorem UH{K:Vu}{x:gp}(h:JQ K x):∀u∈(zy x).toArray,u.oneCell'=true:=by
 intro u hu;simp[zy]at hu
 rcases hu with rfl|rfl|rfl|hu|rfl|rfl|rfl|rfl|rfl|rfl
 .rfl
 .rfl
 .exact(ou h.code).1
 .exact It x.to u qy
 .exact(ou h.a.fields).1
 .rfl
 .exact(ou h.b.fields).1
 .rfl
 .rfl
 rfl
section
variable{P:Program}{σ:Env}{w:World}{dst:Option Tmp}{ty t e:TypeId}{pos:String}{bK:Array Edge}{g:Option (Nat×Bool)}{x:Operand}{b o:Nat}{fr:Nat×Nat}
theorem r5{d:TypeDesc}{cs:Array Value}{el:El}(hu:P.underlying t=some d)(hd:d.isRow=true)(hi:(P.info? t).map (·.size)=some 8)(hx:ev σ x= .pointer (some ⟨b,o,none⟩))(hg:w.heap[b]?=some (.cells cs e fr))(hc:(cs.toList.drop o).take 8=s8 el):
 (execOp (ev σ) ⟨dst,.load t x,ty,pos,bK,g⟩).run P w= .ok (.value (.agg (jv el))) w:=by grind[iv,iB,s8,fK]
theorem adt{α:Type}{cl:α->List Value}{sz:Nat}{v:Value}{l:List α}{k:Int}{d:TypeDesc}{dv:α}{off:Nat}{el:El}(hsz:∀a,(cl a).length=sz)(hS:Sl w v sz l.length (l.flatMap cl))(hu:P.underlying t=some d)(hd:d.isRow=true)(hi:(P.info? t).map (·.size)=some 8)
  (hx:ev σ x= .pointer (some ⟨sb v,so v+k.toNat*sz+off,none⟩)) (hk:0<=k/\k<l.length) (hc:((cl (l.getD k.toNat dv)).drop off).take 8=s8 el):(execOp (ev σ) ⟨dst,.load t x,ty,pos,bK,g⟩).run P w= .ok (.value (.agg (jv el))) w:=by
 rw[iv]
 exact n4 (dv:=dv) (off:=off) (cs:=s8 el) hsz hS hu hd (by rw[fK];exact hi) hx hk (agQ (by rw[fK];exact hc))
end
end
end Go.Proofs.YtlhjdflgjbkpmaaGreatDoor.E
namespace Go.Proofs.YtlhjdflgjbkpmaaGreatDoor.M
section
open Go
def wJ(d:Option Int)(x:dz):Option Int:=d.bind fun k=>if x.op=1\/x.op=2 then some (k+1)else if x.op=3\/x.op=4 then(if x.n<1\/k<x.n then none else some (k-x.n+1))else none
def jx(l:List dz)(k:Int):Option Int:=(l.take k.toNat).foldl wJ (some 0)
def gq(l:List dz):Bool:=decide (jx l l.length=some 1)
theorem Iu{α β:Type}{f:β->α->β}{b:β}{l:List α}{d:α}{k:Int}(h0:0<=k)(h1:k<l.length):(l.take (k+1).toNat).foldl f b=f ((l.take k.toNat).foldl f b) (l.getD k.toNat d):=by
 have h2:k.toNat<l.length:=J
 rw[show(k+1).toNat=k.toNat+1 by omega,yO,wZ,eS,ep h2]
 rfl
theorem jS{l:List dz}{k:Int}(h0:0<=k)(h1:k<l.length):jx l (k+1)=wJ (jx l k) (l.getD k.toNat cB):=Iu h0 h1
theorem adu(l:List dz):l.foldl wJ none=none:=by
 induction l with
 |nil=>rfl
 |cons a l ih=>rw[rA];exact ih
theorem UI{l:List dz}{k:Int}(hk:0<=k)(h:jx l k=none):jx l l.length=none:=by grind[jx,Int.toNat_natCast,List.take_length,List.take_append_drop,adu]
theorem Dr(l:List dz):jx l 0=some 0:=rfl
theorem Sd{l:List dz}{k d:Int}(h0:0<=k)(h1:k<=l.length)(h:jx l k=some d):0<=d/\d<=k:=by
 have key:∀n:Nat,∀d:Int,(n:Int)<=l.length->jx l n=some d->0<=d/\d<=n:=fun n=>by
  induction n with
  |zero=>intro d _ h;have e:(some (0:Int))=some d:=(Dr l).symm.trans h;injection e;omega
  |succ n ih=>
   intro d hn h
   rw[show((n+1:Nat):Int)=(n:Int)+1 by omega,jS J J]at h
   cases hc:jx l n with
   |none=>rw[hc]at h;cases h
   |some q=>
    have:=ih q J hc
    rw[hc]at h
    unfold wJ at h
    simp only[Q9]at h
    split at h
    .injection h;omega
    split at h
    .split at h
     .cases h
     injection h;omega
    .cases h
 have:=key k.toNat d J (by rw[show((k.toNat:Nat):Int)=k by omega];exact h)
 omega
theorem D7{l:List dz}{k d:Int}(h0:0<=k)(h1:k<l.length)(h:jx l k=some d)(hs:wJ (some d) (l.getD k.toNat cB)=none):gq l=false:=
 gO (by rw[UI (k:=k+1) J (by rw[jS h0 h1,h,hs])];exact fun e=>by cases e)
theorem YN{l:List dz}{k d:Int}(hk:k<=l.length)(h1:¬k<l.length)(h:jx l k=some d):gq l=decide (d=1):=by grind[gq]
theorem zA{x:dz}{d:Int}(h:x.op=1\/x.op=2):wJ (some d) x=some (d+1):=by simp[wJ,h]
theorem Mz{x:dz}{d:Int}(h:x.op=3\/x.op=4)(h1:1<=x.n)(h2:x.n<=d):wJ (some d) x=some (d-x.n+1):=by grind[wJ]
theorem zB{x:dz}{d:Int}(h:x.op=3\/x.op=4)(h1:x.n<1\/d<x.n):wJ (some d) x=none:=by grind[wJ]
theorem Se{x:dz}{d:Int}(h:¬(x.op=1\/x.op=2))(h1:¬(x.op=3\/x.op=4)):wJ (some d) x=none:=by
 simp[wJ,h,h1]
def qL(f:El->El->El):List El->El
 |[]=>dH
 |[e]=>e
 |a::b::l=>f a (qL f (b::l))
theorem YO{f:El->El->El}{l:List El}(h:l≠[]):qL f (l.drop (l.length-1))=l.getD (l.length-1) dH:=by
 have h2:l.length-1<l.length:=by have:=List.length_pos_iff.2 h;omega
 rw[EA h2,KZ J,eS,ep h2];rfl
theorem YP{f:El->El->El}{l:List El}{i:Nat}(h:i+1<l.length):qL f (l.drop i)=f (l.getD i dH) (qL f (l.drop (i+1))):=by
 rw[EA (by omega:i<l.length),EA h,eS,ep J]
 rfl
def MA(s:Sh)(op:Int)(a b:El):El:=if op=3 then fH s a b else rD a b
def AE(s:Sh)(v:List El)(o:Option (List El))(x:dz):Option (List El):=o.bind fun st=>
 if x.op=1 then(if 0<=x.n/\x.n<v.length then some (st++[v.getD x.n.toNat dH])else none)
 else if x.op=2 then some (st++[x.c])
 else some (st.take (st.length-x.n.toNat)++[qL (MA s x.op) (st.drop (st.length-x.n.toNat))])
def ix(s:Sh)(v:List El)(l:List dz)(k:Int):Option (List El):=(l.take k.toNat).foldl (AE s v) (some [])
def fY(s:Sh)(l:List dz)(v:List El):El×Bool:=if gq l then(match ix s v l l.length with|some st=>(st.getD 0 dH,true)|none=>(dH,false))else(dH,false)
theorem zC{s:Sh}{v:List El}{l:List dz}{k:Int}(h0:0<=k)(h1:k<l.length):ix s v l (k+1)=AE s v (ix s v l k) (l.getD k.toNat cB):=Iu h0 h1
theorem YQ(s:Sh)(v:List El)(l:List dz):l.foldl (AE s v) none=none:=by
 induction l with
 |nil=>rfl
 |cons a l ih=>rw[rA];exact ih
theorem adv{s:Sh}{v:List El}{l:List dz}{k:Int}(h:ix s v l k=none):ix s v l l.length=none:=by grind[ix,Int.toNat_natCast,List.take_length,List.take_append_drop,YQ]
theorem YR{l:List dz}(h:gq l=true){k:Int}(hk:0<=k):∃d,jx l k=some d:=by
 cases hc:jx l k with
 |some d=>exact⟨d,rfl⟩
 |none=>rw[gq,UI hk hc]at h;simp at h
theorem aaY{l:List dz}(h:gq l=true){k d:Int}(h0:0<=k)(h1:k<l.length)(hd:jx l k=some d):
  ((l.getD k.toNat cB).op=1\/(l.getD k.toNat cB).op=2)/\jx l (k+1)=some (d+1)\/(((l.getD k.toNat cB).op=3\/(l.getD k.toNat cB).op=4)/\1<=(l.getD k.toNat cB).n/\(l.getD k.toNat cB).n<=d)/\jx l (k+1)=some (d-(l.getD k.toNat cB).n+1):=by
 obtain⟨q,hq⟩:=YR h (k:=k+1) J
 have hn:=jS h0 h1
 rw[hd,hq]at hn
 by_cases c:(l.getD k.toNat cB).op=1\/(l.getD k.toNat cB).op=2
 .left;exact⟨c,by rw[hq,hn,zA c]⟩
 by_cases c2:(l.getD k.toNat cB).op=3\/(l.getD k.toNat cB).op=4
 .by_cases c3:(l.getD k.toNat cB).n<1\/d<(l.getD k.toNat cB).n
  .rw[zB c2 c3]at hn;cases hn
  right;exact⟨⟨c2,J,J⟩,by rw[hq,hn,Mz c2 J J]⟩
 rw[Se c c2]at hn;cases hn
theorem awE{s:Sh}{l:List dz}{v:List El}(h:gq l=false):fY s l v=(dH,false):=by rw[fY,h];rfl
theorem aaZ{s:Sh}{l:List dz}{v st:List El}{k:Int}(h0:0<=k)(h1:k<l.length)(hs:ix s v l k=some st)(ho:(l.getD k.toNat cB).op=1)(hv:(l.getD k.toNat cB).n<0\/v.length<=(l.getD k.toNat cB).n):fY s l v=(dH,false):=by
 have e:ix s v l (k+1)=none:=by
  have h3:¬(0<=(l.getD k.toNat cB).n/\(l.getD k.toNat cB).n<v.length):=J
  rw[zC h0 h1,hs];generalize l.getD k.toNat cB=x at*;simp[AE,ho,h3]
 rw[fY,adv e];cases gq l<;>rfl
theorem Sf{s:Sh}{l:List dz}{v st:List El}{k:Int}(hr:gq l=true)(hk:k<=l.length)(h1:¬k<l.length)(hs:ix s v l k=some st):fY s l v=(st.getD 0 dH,true):=by grind[fY]
theorem aml{s:Sh}{l:List dz}{v st:List El}{k:Int}(h0:0<=k)(h1:k<l.length)(hs:ix s v l k=some st)(ho:(l.getD k.toNat cB).op=1)(hv:0<=(l.getD k.toNat cB).n/\(l.getD k.toNat cB).n<v.length):ix s v l (k+1)=some (st++[v.getD (l.getD k.toNat cB).n.toNat dH]):=by grind[zC,cB,AE]
theorem arI{s:Sh}{l:List dz}{v st:List El}{k:Int}(h0:0<=k)(h1:k<l.length)(hs:ix s v l k=some st)(ho:(l.getD k.toNat cB).op=2):ix s v l (k+1)=some (st++[(l.getD k.toNat cB).c]):=by grind[zC,cB,AE]
theorem arJ{s:Sh}{l:List dz}{v st:List El}{k:Int}(h0:0<=k)(h1:k<l.length)(hs:ix s v l k=some st)(h2:¬(l.getD k.toNat cB).op=1)(h3:¬(l.getD k.toNat cB).op=2):ix s v l (k+1)=some (st.take (st.length-(l.getD k.toNat cB).n.toNat)++[qL (MA s (l.getD k.toNat cB).op) (st.drop (st.length-(l.getD k.toNat cB).n.toNat))]):=by grind[zC,cB,AE]
theorem aa0{s:Sh}{l:List dz}{v st:List El}{k q:Int}(h0:0<=k)(h1:k<l.length)(hs:ix s v l k=some st)(h2:¬(l.getD k.toNat cB).op=1)(h3:¬(l.getD k.toNat cB).op=2)(hq:q=(st.length:Int)-(l.getD k.toNat cB).n)(hn:0<=(l.getD k.toNat cB).n):
  ix s v l (k+1)=some (st.take q.toNat++[qL (MA s (l.getD k.toNat cB).op) (st.drop q.toNat)]):=by
 rw[arJ h0 h1 hs h2 h3,show st.length-(l.getD k.toNat cB).n.toNat=q.toNat by omega]
theorem aa1{f:El->El->El}{l:List El}{k:Int}(h0:0<=k)(h1:k+1<l.length):qL f (l.drop k.toNat)=f (l.getD k.toNat dH) (qL f (l.drop (k+1).toNat)):=by grind[YP]
theorem awF{s:Sh}{op:Int}{a b:El}(h:op=3):fH s a b=MA s op a b:=by rw[MA,aS h]
theorem awG{s:Sh}{op:Int}{a b:El}(h:¬op=3):rD a b=MA s op a b:=by rw[MA,aR h]
theorem uM{l:List dz}(h:gq l=true){k d:Int}(h0:0<=k)(h1:k<l.length)(hd:jx l k=some d)(h2:¬(l.getD k.toNat cB).op=1)(h3:¬(l.getD k.toNat cB).op=2):
  1<=(l.getD k.toNat cB).n/\(l.getD k.toNat cB).n<=d/\jx l (k+1)=some (d-(l.getD k.toNat cB).n+1):=by
 rcases aaY h h0 h1 hd with⟨ho,_⟩|⟨⟨_,a,b⟩,c⟩
 .omega
 exact⟨a,b,c⟩
theorem TP{l:List dz}(h:gq l=true){k d:Int}(hk:k<=l.length)(h1:¬k<l.length)(hd:jx l k=some d):d=1:=by grind[YN]
end
end Go.Proofs.YtlhjdflgjbkpmaaGreatDoor.M
namespace Go.Proofs.YtlhjdflgjbkpmaaGreatDoor.E
section
open Go Go.RowKit Go.Proofs.YtlhjdflgjbkpmaaGreatDoor.M
def qA(s:kE)(v kd aX:Int):Bool:=decide (0<=v/\v<s.vars.length)&&decide ((s.vars.getD v.toNat gL).kind=kd)&&decide ((s.vars.getD v.toNat gL).aX=aX)
def iO(s:kE)(aX:Int):Sh:=(s.au.getD aX.toNat me).zx.sh
def lO(s:kE)(aX:Int)(a:iw):Bool:=if a.var<0 then cF (iO s aX) a.c else qA s a.var 1 aX
def qM(s:kE)(aX:Int)(f:kX):Bool:=iG f.name&&lO s aX f.at_
def Sg(r:A5):List Tx:=r.fields.map kX.name
def u6(s:kE)(aX:Int)(r:A5):Bool:=decide (r.fields.length<=16)&&(decide (r.tail<0)||qA s r.tail 2 aX)&&r.fields.all (qM s aX)&&decide (x7 (Sg r)<0)
def u7(s:kE)(aX:Int)(x:dz):Bool:=(!decide (x.op=1)||qA s x.n 1 aX)&&(!decide (x.op=2)||cF (iO s aX) x.c)
def codeOk(s:kE)(aX:Int)(l:List dz):Bool:=l.all (u7 s aX)&&gq l
def jr(s:kE)(a:gp):Bool:=
 if a.op=10 then qA s a.var 2 a.aX&&iG a.field
 else if 0<=a.aX/\a.aX<s.au.length then(if a.op=9 then u6 s a.aX a.a&&u6 s a.aX a.b else if a.op=8 then codeOk s a.aX a.code&&lO s a.aX a.to else false)
 else false
def kY(p:l6):Bool:=gM p.s&&decide (p.bu.length<=64)&&p.bu.all (jr p.s)
section
variable{s:kE}{v kd aX:Int}{a:gp}{r:A5}{l:List dz}{k:Int}
theorem UJ(h:¬(0<=v/\v<s.vars.length)):qA s v kd aX=false:=by grind[qA]
theorem ag8(h:¬(s.vars.getD v.toNat gL).kind=kd):qA s v kd aX=false:=by grind[qA]
theorem ag9(h:0<=v/\v<s.vars.length)(h2:(s.vars.getD v.toNat gL).kind=kd):qA s v kd aX=decide ((s.vars.getD v.toNat gL).aX=aX):=by grind[qA]
theorem atom_1{x:iw}(h:x.var<0):lO s aX x=cF (iO s aX) x.c:=aS h
theorem arK{x:iw}(h:¬x.var<0):lO s aX x=qA s x.var 1 aX:=aR h
theorem amm(h:¬r.fields.length<=16):u6 s aX r=false:=by grind[u6]
theorem amn(h1:¬r.tail<0)(h:qA s r.tail 2 aX=false):u6 s aX r=false:=by grind[u6]
theorem KF(h0:0<=k)(h1:k<r.fields.length)(h:qM s aX (r.fields.getD k.toNat mZ)=false):u6 s aX r=false:=by grind[u6,Ms]
theorem aa2(h:r.fields.length<=16)(h1:r.tail<0\/qA s r.tail 2 aX=true)(hk:¬k<r.fields.length)(hg:∀j:Int,0<=j->j<k->qM s aX (r.fields.getD j.toNat mZ)=true):u6 s aX r=decide (x7 (Sg r)<0):=by
 rw[u6,gQ h,Gf hk hg]
 rcases h1 with h1|h1
 .rw[gQ h1];rfl
 rw[h1];simp
theorem PM{f:kX}(h:iG f.name=false):qM s aX f=false:=by rw[qM,h];rfl
theorem PN{f:kX}(h:lO s aX f.at_=false):qM s aX f=false:=by grind[qM]
theorem PO{f:kX}(h:iG f.name=true)(h2:lO s aX f.at_=true):qM s aX f=true:=by rw[qM,h,h2];rfl
theorem Js(h0:0<=k)(h1:k<r.fields.length):(r.fields.take (k+1).toNat).map kX.name=(r.fields.take k.toNat).map kX.name++[(r.fields.getD k.toNat mZ).name]:=by
 have h2:k.toNat<r.fields.length:=J
 rw[show(k+1).toNat=k.toNat+1 by omega,yO,gz,eS,ep h2];rfl
theorem UK{m:List Tx}{x:Tx}{k:Int}(h:(m.length:Int)=k):(Jn m++[S x])[k.toNat*1]?=some (S x):=by grind
theorem amo{x:dz}(h:x.op=1)(h2:qA s x.n 1 aX=false):u7 s aX x=false:=by grind[u7]
theorem aa3{x:dz}(h:x.op=2)(h2:cF (iO s aX) x.c=false):u7 s aX x=false:=by grind[u7]
theorem KG{x:dz}(h:¬x.op=1\/qA s x.n 1 aX=true)(h2:¬x.op=2\/cF (iO s aX) x.c=true):u7 s aX x=true:=by grind[u7]
theorem MB(h0:0<=k)(h1:k<l.length)(h:u7 s aX (l.getD k.toNat cB)=false):codeOk s aX l=false:=by grind[codeOk,Ms]
theorem aha(h:gq l=false):codeOk s aX l=false:=by grind[codeOk]
theorem ahb(hk:¬k<l.length)(hg:∀j:Int,0<=j->j<k->u7 s aX (l.getD j.toNat cB)=true):codeOk s aX l=gq l:=by rw[codeOk,Gf hk hg];rfl
theorem adw(hk:¬k<l.length)(hg:∀j:Int,0<=j->j<k->u7 s aX (l.getD j.toNat cB)=true)(h:gq l=true):codeOk s aX l=true:=by rw[ahb hk hg,h]
theorem ahc(h:a.op=10):jr s a=(qA s a.var 2 a.aX&&iG a.field):=aS h
theorem ahd(h:¬a.op=10)(h2:¬(0<=a.aX/\a.aX<s.au.length)):jr s a=false:=by grind[jr]
theorem aoX(h:a.op=9)(h2:0<=a.aX/\a.aX<s.au.length):jr s a=(u6 s a.aX a.a&&u6 s a.aX a.b):=by grind[jr]
theorem PR(h:a.op=8)(h2:0<=a.aX/\a.aX<s.au.length):jr s a=(codeOk s a.aX a.code&&lO s a.aX a.to):=by grind[jr]
theorem awH(h:¬a.op=10)(h1:¬a.op=9)(h2:¬a.op=8):jr s a=false:=by grind[jr]
end
section
variable{p:l6}{k:Int}
theorem ahe(h:gM p.s=false):kY p=false:=by rw[kY,h];rfl
theorem ahf(h:¬p.bu.length<=64):kY p=false:=by grind[kY]
theorem ahg(h0:0<=k)(h1:k<p.bu.length)(h:jr p.s (p.bu.getD k.toNat fU)=false):kY p=false:=by grind[kY,Ms]
theorem ahh(h:gM p.s=true)(h2:p.bu.length<=64)(hk:¬k<p.bu.length)(hg:∀j:Int,0<=j->j<k->jr p.s (p.bu.getD j.toNat fU)=true):kY p=true:=by rw[kY,h,gQ h2,Gf hk hg];rfl
end
def aa4(a:As)(t:iw):El×Bool:=if t.var<0 then(t.c,true)else if t.var<a.labels.length then(a.labels.getD t.var.toNat dH,true)else(dH,false)
def aDD(a:As)(f:kX):jC:=⟨f.name,(aa4 a f.at_).1⟩
def aoY(a:As)(t:A5):List jC:=if 0<=t.tail then a.rows.getD t.tail.toNat []else[]
def awI(a:As)(t:A5):List jC:=aoY a t++t.fields.map (aDD a)
def awJ(a:As)(t:A5):Bool:=decide (t.tail<a.rows.length)&&t.fields.all fun f=>(aa4 a f.at_).2
def arL(l:List jC):List Tx:=l.map jC.name
def aDE(l:List jC):List jC:=l.foldl (fun m v=>aoT m v.name v.el) []
def aoZ(l:List jC):Bool:=decide (arL l).Nodup
def JR(a:As)(t:A5):List jC×Bool:=if(awJ a t&&aoZ (awI a t))=true then(aDE (awI a t),true)else([],false)
def aa5(out:List Tx)(x:Tx):Int:=sM (fun k=> !UC (out.getD k.toNat pM) x) out.length
def aDF(out:List Tx)(x:Tx):List Tx:=if aa5 out x<0 then out++[x]else if out.getD (aa5 out x).toNat pM=x then out else out.take (aa5 out x).toNat++x::out.drop (aa5 out x).toNat
def aJq(l:List Tx):List Tx:=l.foldl aDF []
def Jt(kv:List (Tx×El))(f:Tx):El×Bool:=match kv.find? (fun p=>decide (p.1=f))with
 |none=>(dH,false)
 |some p=>(p.2,true)
def aMD(kv:List (Tx×El))(f:Tx)(e:El):List (Tx×El):=if(Jt kv f).2 then kv.map fun p=>if p.1=f then(f,e)else p else kv++[(f,e)]
def amp(s:kE)(a:As)(x:gp):Bool:=
 if x.op=10 then(if 0<=x.var/\x.var<a.rows.length then !(adm (a.rows.getD x.var.toNat []) x.field).2 else false)
 else if x.op=9 then(JR a x.a).2&&(JR a x.b).2&&aoU (JR a x.a).1 (JR a x.b).1
 else if x.op=8/\0<=x.aX/\x.aX<s.au.length then(fY (iO s x.aX) x.code a.labels).2&&(aa4 a x.to).2&&cT (fY (iO s x.aX) x.code a.labels).1 (aa4 a x.to).1
 else false
def YS(s:kE)(a:As)(l:List gp):Int:=sM (fun i=> !amp s a (l.getD i.toNat fU)) l.length
def aME(s:kE)(a:As)(l:List gp):Bool:=Sa s.sc a&&decide (YS s a l<0)
section
variable{s:kE}{a:As}{x:gp}{l:List gp}
end
section
variable{s:kE}{a m:As}{aX:Int}{l:List dz}
theorem ahi{sh:Sh}{op:Int}{a b:El}(fa:cF sh a=true)(fb:cF sh b=true):cF sh (MA sh op a b)=true:=by grind[MA,Io,arj]
theorem zD{sh:Sh}{op:Int}{l:List El}(h:l≠[])(hf:∀e∈l,cF sh e=true):cF sh (qL (MA sh op) l)=true:=by
 induction l with
 |nil=>exact absurd O h
 |cons e l ih=>
  cases l with
  |nil=>exact hf e aF
  |cons b l=>
   have:=ih aF fun x hx=>hf x (fC _ hx)
   show cF sh (MA sh op e (qL (MA sh op) (b::l)))=true
   exact ahi (hf e aF) this
theorem meet_mono{a b c d:El}(h:cT a b=true)(h2:cT c d=true):cT (rD a c) (rD b d)=true:=by grind[awf,Mw,ark]
theorem join_mono{sh:Sh}{a b c d:El}(fa:cF sh a=true)(fb:cF sh b=true)(fc:cF sh c=true)(fd:cF sh d=true)(h:cT a b=true)(h2:cT c d=true):cT (fH sh a c) (fH sh b d)=true:=by grind[aaN,Io,Mw,YC]
theorem ahj{sh:Sh}{op:Int}{a b c d:El}(fa:cF sh a=true)(fb:cF sh b=true)(fc:cF sh c=true)(fd:cF sh d=true)(h:cT a b=true)(h2:cT c d=true):cT (MA sh op a c) (MA sh op b d)=true:=by grind[MA,join_mono,meet_mono]
def uu:List El->List El->Prop
 |[],[]=>True
 |a::l,b::m=>cT a b=true/\uu l m
 |_,_=>False
theorem uu.len:∀{l m:List El},uu l m->l.length=m.length
 |[],[],_=>rfl
 |_::_,_::_,h=>by simp[uu.len h.2]
 |[],_::_,h=>h.elim
 |_::_,[],h=>h.elim
theorem uu.app:∀{l m l' m':List El},uu l m->uu l' m'->uu (l++l') (m++m')
 |[],[],_,_,_,h=>h
 |_::_,_::_,_,_,h,h'=>⟨h.1,uu.app h.2 h'⟩
 |[],_::_,_,_,h,_=>h.elim
 |_::_,[],_,_,h,_=>h.elim
theorem uu.take:∀{l m:List El} (n:Nat),uu l m->uu (l.take n) (m.take n)
 |[],[],n,_=>by simp[uu]
 |_::_,_::_,0,h=>by simp[uu]
 |_::_,_::_,n+1,h=>⟨h.1,uu.take n h.2⟩
 |[],_::_,_,h=>h.elim
 |_::_,[],_,h=>h.elim
theorem uu.drop:∀{l m:List El} (n:Nat),uu l m->uu (l.drop n) (m.drop n)
 |[],[],n,_=>by simp[uu]
 |_::_,_::_,0,h=>h
 |_::_,_::_,n+1,h=>uu.drop n h.2
 |[],_::_,_,h=>h.elim
 |_::_,[],_,h=>h.elim
theorem uu.ov:∀{l m:List El},uu l m->cT (l.getD 0 dH) (m.getD 0 dH)=true
 |[],[],_=>jR _
 |_::_,_::_,h=>h.1
 |[],_::_,h=>h.elim
 |_::_,[],h=>h.elim
theorem MC{sh:Sh}{op:Int}:∀{l m:List El},uu l m->(∀e∈l,cF sh e=true)->(∀e∈m,cF sh e=true)->cT (qL (MA sh op) l) (qL (MA sh op) m)=true
 |[],[],_,_,_=>jR _
 |[a],[b],h,_,_=>h.1
 |a::a'::l,b::b'::m,h,hf,hg=>by
  have ih:=MC (sh:=sh) (op:=op) (l:=a'::l) (m:=b'::m) h.2 (fun x hx=>hf x (fC _ hx)) (fun x hx=>hg x (fC _ hx))
  have f1:=zD (sh:=sh) (op:=op) (l:=a'::l) aF fun x hx=>hf x (fC _ hx)
  have f2:=zD (sh:=sh) (op:=op) (l:=b'::m) aF fun x hx=>hg x (fC _ hx)
  exact ahj (hf a aF) (hg b aF) f1 f2 h.1 ih
 |[],_::_,h,_,_=>h.elim
 |_::_,[],h,_,_=>h.elim
 |[_],_::_::_,h,_,_=>h.2.elim
 |_::_::_,[_],h,_,_=>h.2.elim
end
section
variable{s:kE}{a b:As}{aX:Int}{T U:A5}
theorem ahk{a b:El}(h:rC a b):rC b a:=fun i hi=>(h i hi).symm
end
def sV:Value->Nat->Value
 | .slice a _ _,n=> .slice a n n
 |v,_=>v
theorem Sl.sV{w:World}{v:Value}{sz m n:Nat}{cells:List Value}(h:Sl w v sz m cells)(hn:n<=m):Sl w (sV v n) sz n (cells.take (n*sz)):=by
 obtain⟨a,cap,rfl,hc,ha⟩:=h.shape
 refine⟨⟨a,n,rfl,er _,fun hp=> ?_⟩,?_,fun j c hj=> ?_,kM hn h.small⟩
 .have:=ha J
  cases a with
  |none=>cases this
  |some a=>exact this
 .rw[eP,h.len];exact rz (ry _ hn)
 have hlt:j<n*sz:=by
  have:=(m8.1 hj).1
  rw[eP]at this;omega
 rw[uF,aS hlt]at hj
 have:=h.cell j c hj
 cases a<;>exact this
theorem MD{w:World}{v:Value}{sz m n:Nat}{cells:List Value}(h:Sl w v sz m cells):∃a,E.sV v n= .slice a n n:=by
 obtain⟨a,cap,rfl,_,_⟩:=h.shape
 exact⟨a,rfl⟩
theorem set_perm{α:Type}{x:α}:∀{l:List α} {i:Nat},i<l.length->(l.set i x).Perm (x::l.eraseIdx i)
 |a::l,0,_=>Rh _
 |a::l,i+1,h=>(List.Perm.cons a (set_perm (l:=l) (i:=i) xl)).trans (List.Perm.swap _ _ _)
 |[],_,h=>absurd h aF
theorem Hp.swap{w0 w:World}{L:List a7}{x:a7}{i:Nat}(h:Hp w0 w (x::L))(hi:i<L.length):Hp w0 w (L.set i x):=
 (h.sub (List.Sublist.cons_cons _ (List.eraseIdx_sublist _ _))).perm (set_perm hi).symm
section
variable{P:Program}{n:Nat}{ops:Array Oper}{k:K}{rest:List Oper}{σ:Env}{w0 w:World}{L L' WN:List a7}{ty:TypeId}{pos:String}{bK:Array Edge}{d:Nat}{x y:Operand}{dst:Option Tmp}{g:Option (Nat×Bool)}
theorem u9{t e:TypeId}{lo hi:Operand}{v:Value}{sz m:Nat}{q:Int}{cells:List Value}(hS:Sl w v sz m cells)(hu:P.underlying t=some (.slice e))(hs:∀w,(sizeOf e).run P w= .ok sz w)(hx:ev σ x=v)(hlo:ev σ lo=I q)(hhi:ev σ hi=I q)(h:0<=q/\q<=m):
  (execOp (ev σ) ⟨dst,.slice t x none (some lo) (some hi),ty,pos,bK,g⟩).run P w= .ok (.value (sV v q.toNat)) w:=by
 obtain⟨a,cap,rfl,hcap,ha⟩:=hS.shape
 have h1:0<=q/\q<=(cap:Int):=J
 have h2:0<=q/\q<=((q.toNat:Nat):Int):=J
 have h3:(Instr.slice t (.slice a m cap) none (some (I q)) (some (I q))).run P w= .ok (.slice a q.toNat q.toNat) w:=by
  have e0:Option.map (fun x:Addr=>x.add 0) a=a:=by cases a<;>simp[Addr.add]
  have h5:q<=max q 0:=J
  simp[Instr.slice,Instr.sliceBounds,Instr.sliceBound,kr hu,asIntOf,h1,h2,hs,e0,h5]
 have h4:(Instr.sliceAt t (.slice a m cap) none (some (I q)) (some (I q))).run P w= .ok (.slice a q.toNat q.toNat) w:=by
  simp[Instr.sliceAt,kr hu,h3]
 simp[execOp,hx,hlo,hhi,h4,sV]
theorem ME{base:Nat}{t ty e:TypeId}{i:TypeInfo}{z:Value}{size bytes:Nat}(ht:P.underlying t=some (.slice e))(hi:P.info? e=some i)(hz:i.zero=some z)
  (hsize:i.size=size) (hby:i.bytes=bytes) (hzs:z.cells.size=size) {v:Value} {n:Nat} {xs:List Value} (hv:∃a,v= .slice a n n) (hX:Sl w v size n xs) {y:Value} {m:Nat} {news:List Value} (hS:Sl w y size m news)
  (hm:0<m) (h63:n+m<=maxLen) (hbytes:(n+m)*bytes<=140737488355328):
  ∃v' w',(Builtin.append_ #[t,t] ty #[v,y]).run P w= .ok v' w'/\w'.ownsRow w.heap.size e size v' (n+m) (xs++news)/\Below w.heap.size w w':=by
 subst hsize
 subst hby
 obtain⟨a,rfl⟩:=hv
 obtain⟨b,c,hy,hmc,hb⟩:=hS.shape
 have hb':=hb hm
 have hyy:y= .slice (some ⟨sb y,so y,none⟩) m c:=by rw[<-hb'];exact hy
 have hnews:∀j u,news[j]?=some u->w.cell? ((⟨sb y,so y,none⟩:Addr).add j)=some u:=fun j u hu=>by rw[HB];exact hS.cell j u hu
 have hlen:(xs++news).length=(n+m)*i.size:=by rw[cZ,hX.len,hS.len,kT]
 have hsmall:n+m<=9223372036854775807:=by simp only[maxLen]at h63;omega
 have grown:∀(old:Nat),old<n+m->
   (w.drew.alloc (.cells (xs.toArray++news.toArray++Builtin.zeroCells z.cells (grownCap w (n+m) old e-(n+m))) e)).ownsRow w.heap.size e i.size
    (.slice (some ⟨w.heap.size,0,none⟩) (n+m) (grownCap w (n+m) old e)) (n+m) (xs++news)/\
   Below w.heap.size w (w.drew.alloc (.cells (xs.toArray++news.toArray++Builtin.zeroCells z.cells (grownCap w (n+m) old e-(n+m))) e)):=by
  intro old ho
  have hge:=grownCap_ge w (n+m) old e
  have hcm:grownCap w (n+m) old e<=maxLen:=grownCap_le_maxLen w (n+m) old e h63
  refine⟨⟨hlen,.inr ⟨w.heap.size,_,_,rfl,er _,heap_alloc_new w.drew _,hge,hcm,?_,?_⟩⟩,⟨rfl,rfl,rfl,aF,fun k hk=>heap_alloc_old w.drew _ hk⟩⟩
  .simp only[Array.size_append,Aq,size_zeroCells,hzs,hX.len,hS.len,<-kT]
   congr 1
   omega
  simp only[Array.toList_append,dG]
  rw[<-dG,<-hlen]
  exact uH
 rw[hyy]
 cases a with
 |none=>
  have hn:n=0:=by
   rcases Q7 n with h|h
   .exact h
   obtain⟨a',c',e1,_,h2⟩:=hX.shape
   injection e1 with e1
   rw[<-e1]at h2;cases h2 h
  subst hn
  have hx:xs=[]:=yJ (by simpa using hX.len)
  subst hx
  have hr:=run_append_nil (P:=P) w t ty e i z ht hi hz ⟨sb y,so y,none⟩ m c news hS.len hnews J J afs
  have hgr:=grown 0 J
  simp only[ia,eC,Array.empty_append]at hgr⊢
  exact⟨_,_,hr,hgr.1,hgr.2⟩
 |some a=>
  have holds:∀j u,xs[j]?=some u->w.cell? (a.add j)=some u:=fun j u hu=>by
   have hj:j<n*i.size:=by have:=(m8.1 hu).1;rw[hX.len]at this;exact this
   have hn:0<n:=by
    rcases Q7 n with h|h
    .subst h;simp at hj
    exact h
   obtain⟨a',c',e1,_,h2⟩:=hX.shape
   injection e1 with e1
   have h3:=h2 hn
   rw[<-e1]at h3
   have h4:a=⟨sb (.slice (some a) n n),so (.slice (some a) n n),none⟩:=by injection h3
   rw[h4,HB];exact hX.cell j u hu
  have hr:=run_append_grow (P:=P) w t ty e i z ht hi hz a n n xs hX.len holds ⟨sb y,so y,none⟩ m c news hS.len hnews J J (growslice_fits J hbytes)
  have hgr:=grown n J
  exact⟨_,_,hr,hgr.1,hgr.2⟩
theorem aDG{t e:TypeId}{i:Nat}{ie:TypeInfo}{z:Value}{size bytes:Nat}{v u:Value}{m m' q:Nat}{xs news:List Value}(hd:Nat.blt d n=true)(hH:Hp w0 w L)(hL:L[i]?=some (.row v e size m xs))(hq:q<=m)(hS:Sl w u size m' news)
  (hx:ev σ x=sV v q) (hy:ev σ y=u) (ht:P.underlying t=some (.slice e)) (hi:P.info? e=some ie) (hz:ie.zero=some z)
  (hsize:ie.size=size) (hby:ie.bytes=bytes) (hzs:z.cells.size=size) (hm:0<m')
  (hbytes:(q+m')*bytes<=140737488355328) (h63:q+m'<=maxLen)
  (hk:∀v' w',Hp w0 w' (L.set i (.row v' e size (q+m') (xs.take (q*size)++news)))->RL P n ops k rest (lG σ d v') w'):
  RL P n ops k (⟨some d,.call {callee:= .builtin .append,args:=#[x,y],argTypes:=#[t,t]},ty,pos,bK,none⟩::rest) σ w:=by
 have hX:=hH.sl hL
 obtain⟨v',w',hr,h2,h3⟩:=ME (P:=P) (base:=0) (ty:=ty) ht hi hz hsize hby hzs (MD hX) (hX.sV hq) hS hm h63 hbytes
 exact oP hd (sB hx hy hr) (hk v' w' ((hH.C8 h3 h2).swap (m8.1 hL).1))
variable{l:List Oper}{fuel i:Nat}{listed:Array Bool}
theorem Si{t e:TypeId}{j:Nat}{ie:TypeInfo}{z:Value}{size bytes:Nat}{v u:Value}{m m' q:Nat}{xs news:List Value}(hi:l[i]?=some ⟨some d,.call {callee:= .builtin .append,args:=#[x,y],argTypes:=#[t,t]},ty,pos,bK,g⟩)
  (hg:∀a,Is n σ a->Region.wanted ⟨some d,.call {callee:= .builtin .append,args:=#[x,y],argTypes:=#[t,t]},ty,pos,bK,g⟩ (yielded l.toArray a.tmps)=true) (hd:Nat.blt d n=true) (hH:Hp w0 w WN) (hL:WN[j]?=some (.row v e size m xs)) (hq:q<=m)
  (hs:∀v',L'.Sublist (WN.set j (.row v' e size (q+m') (xs.take (q*size)++news)))) (hS:Sl w u size m' news)
  (hx:ev σ x=sV v q) (hy:ev σ y=u) (ht:P.underlying t=some (.slice e)) (hie:P.info? e=some ie) (hz:ie.zero=some z)
  (hsize:ie.size=size) (hby:ie.bytes=bytes) (hzs:z.cells.size=size) (hm:0<m')
  (hbytes:(q+m')*bytes<=140737488355328) (h63:q+m'<=maxLen)
  (hk:∀v' w',Hp w0 w' (WN.set j (.row v' e size (q+m') (xs.take (q*size)++news)))->AN P n l (fun w=>Hp w0 w L') k fuel (listed.setIfInBounds i true) (lG σ d v') w'):AO P n l (fun w=>Hp w0 w L') k fuel listed σ w i:=by
 have hX:=hH.sl hL
 obtain⟨v',w',hr,h2,h3⟩:=ME (P:=P) (base:=0) (ty:=ty) ht hie hz hsize hby hzs (MD hX) (hX.sV hq) hS hm h63 hbytes
 have hH':=(hH.C8 h3 h2).swap (i:=j) (m8.1 hL).1
 exact B4 hi hg hd (sB hx hy hr) (hH'.sub (hs v')) (hk v' w' hH')
end
section
variable{P:Program}{n:Nat}{ops:Array Oper}{k:K}{rest l:List Oper}{σ:Env}{w0 w:World}{L:List a7}{op:Op}{ty t e et:TypeId}{pos:String}{bK:Array Edge}{d:Nat}{x y:Operand}{g:Option (Nat×Bool)}{v u:Value}{sz m i o:Nat}{xs:List Value}{dst:Option Tmp}
theorem Gi(hH:Hp w0 w L)(hi:L[i]?=some (.row v e sz m xs))(hm:0<m)(hx:ev σ x= .pointer (some ⟨sb v,so v+o,none⟩))(hy:ev σ y=u)(hv:u.cells=#[u])(h1:u.oneCell'=true)(hs:(P.info? t).map (·.size)=some 1)(ho:o+1<=m*sz):
  ∃w',(execOp (ev σ) ⟨dst,.store t x y,ty,pos,bK,g⟩).run P w= .ok .skip w'/\Hp w0 w' (L.set i (.row v e sz m (rX xs o [u]))):=by
 obtain⟨gb,cap,rfl,hnc,cur,hg,hc,ht,hk⟩:=hH.KE hi hm
 have hcm:m*sz<=cap*sz:=ry _ hnc
 have hx':ev σ x= .pointer (some ⟨gb,o,none⟩):=by rw[hx];simp only[sb,so,ia]
 have hr:=bQ (P:=P) (dst:=dst) (ty:=ty) (pos:=pos) (bK:=bK) (g:=g) hs hx' hy hv h1 hg J
 have e1:(cur.setIfInBounds o u).toList=cur.toList.take o++[u]++cur.toList.drop (o+1):=by
  simp[W5,show o<cur.size by omega]
 have h2:=hk (cur.setIfInBounds o u) aF
 rw[e1,show cur.toList.take o++[u]++cur.toList.drop (o+1)=cur.toList.take o++[u]++cur.toList.drop (o+[u].length)from O,Gg (by simpa using ho) RI,ht]at h2
 exact⟨_,hr,h2⟩
theorem zE(hH:Hp w0 w L)(hi:L[i]?=some (.row v e sz m xs))(hm:0<m)(hx:ev σ x= .pointer (some ⟨sb v,so v+o,none⟩))(hy:ev σ y=u)(hv:u.cells=#[u])(h1:u.oneCell'=true)(hs:(P.info? t).map (·.size)=some 1)(ho:o+1<=m*sz)
  (hk:∀w',Hp w0 w' (L.set i (.row v e sz m (rX xs o [u])))->RL P n ops k rest σ w'):RL P n ops k (⟨none,.store t x y,ty,pos,bK,none⟩::rest) σ w:=by
 obtain⟨w',hr,h2⟩:=Gi (dst:=none) (ty:=ty) (pos:=pos) (bK:=bK) (g:=none) hH hi hm hx hy hv h1 hs ho
 exact Lv hr (hk w' h2)
variable{fuel j:Nat}{listed:Array Bool}{L':List a7}
theorem arM(hj:l[j]?=some ⟨none,.store t x y,ty,pos,bK,g⟩)(hg:∀a,Is n σ a->Region.wanted ⟨none,.store t x y,ty,pos,bK,g⟩ (yielded l.toArray a.tmps)=true)(hH:Hp w0 w L)(hi:L[i]?=some (.row v e sz m xs))(hsub:∀ys,L'.Sublist (L.set i (.row v e sz m ys)))(hm:0<m)
  (hx:ev σ x= .pointer (some ⟨sb v,so v+o,none⟩)) (hy:ev σ y=u) (hv:u.cells=#[u]) (h1:u.oneCell'=true) (hs:(P.info? t).map (·.size)=some 1) (ho:o+1<=m*sz)
  (hk:∀w',Hp w0 w' (L.set i (.row v e sz m (rX xs o [u])))->AN P n l (fun w=>Hp w0 w L') k fuel (listed.setIfInBounds j true) σ w'):AO P n l (fun w=>Hp w0 w L') k fuel listed σ w j:=by
 obtain⟨w',hr,h2⟩:=Gi (dst:=none) (ty:=ty) (pos:=pos) (bK:=bK) (g:=g) hH hi hm hx hy hv h1 hs ho
 exact LD hj hg hr (h2.sub (hsub _)) (hk w' h2)
end
section
variable{P:Program}{σ:Env}{w:World}{ty:TypeId}{pos:String}{bK:Array Edge}{dst:Option Tmp}{g:Option (Nat×Bool)}{x:Operand}
end
theorem Sl.frE{α:Type}{cl:α->List Value}{sz:Nat}{w:World}{v:Value}{l:List α}(hsz:∀a,(cl a).length=sz)(h:Sl w v sz l.length (l.flatMap cl))(o:Nat)(ho:o<=l.length):Sl w (oH v sz o) sz (l.drop o).length ((l.drop o).flatMap cl):=by
 have:=h.fr o ho
 rw[adp hsz _ _ ho]at this
 rw[xS];exact this
section
variable{w0 w:World}{L:List a7}
theorem Sj{B:Nat}{a:World}(h:Below B a w){b:Nat}(hb:B<=b)(o:Obj):Below B a {w with heap:=w.heap.setIfInBounds b o}:=
 h.trans ⟨rfl,rfl,rfl,aF,fun k hk=>by
  show(w.heap.setIfInBounds b o)[k]?=_
  rw[Bz,aR J]⟩
theorem Hp.setObj{i b:Nat}{o:Obj}(h:Hp w0 w L)(hi:L[i]?=some (.blk b o))(o':Obj):Hp w0 {w with heap:=w.heap.setIfInBounds b o'} (L.set i (.blk b o')):=by
 have hx:=h.ok _ (lz hi)
 have hil:=(m8.1 hi).1
 have hb:=(BA.1 hx.2).1
 refine⟨Sj h.below hx.1 o',fun y hy=> ?_,B0 hi O h.LC⟩
 obtain⟨j,hj,ET⟩:=yM.1 hy
 rw[yP]at ET
 split at ET
 .subst ET
  refine⟨hx.1,?_⟩
  show(w.heap.setIfInBounds b o')[b]?=_
  rw[Bz,aS O,aS hb]
 rename_i hne
 have hjL:j<L.length:=by simpa using hj
 have hyL:y∈L:=ET▸nM hjL
 refine a7.C7 (h.ok y hyL) fun bb hf=> ?_
 have JL:b≠bb:=fun JL=>by
  subst JL
  have hp:=QY.1 h.LC
  have hLi:L[i]= .blk b o:=(m8.1 hi).2
  rcases Xm hne with hlt|hgt
  .rcases hp i j hil hjL hlt with h0|h0
   .rw[hLi]at h0;cases h0
   rw[hLi,ET,hf]at h0;exact h0 O
  rcases hp j i hjL hil hgt with h0|h0
  .rw[ET,hf]at h0;cases h0
  rw[hLi,ET,hf]at h0;exact h0 O
 show(w.heap.setIfInBounds b o')[bb]?=_
 rw[Bz,aR JL]
end
structure UL(es:Array MapEntry)(clock:Nat)(kv:List (Tx×El)):Prop where
 at_:es.toList.map (fun e=>(e.key,e.val))=kv.map fun p=>(S p.1,Value.agg (jv p.2))
 born:(es.toList.map (·.born)).Nodup
 old:∀x∈es.toList,x.born<clock
 arN:(kv.map Prod.fst).Nodup
theorem awK{a b:Tx}(h:S a=S b):a=b:=by injection h
section
variable{es:Array MapEntry}{clock:Nat}{kv:List (Tx×El)}
theorem UL.get(h:UL es clock kv){j:Nat}{e:MapEntry}(he:es.toList[j]?=some e):∃p,kv[j]?=some p/\e.key=S p.1/\e.val= .agg (jv p.2):=by
 have:=aJ (·[j]?) h.at_
 simp only[pW,he,qt]at this
 cases hk:kv[j]? with
 |none=>rw[hk]at this;cases this
 |some p=>rw[hk]at this;injection this with q;injection q with q1 q2;exact⟨p,rfl,q1,q2⟩
theorem UL.size(h:UL es clock kv):es.size=kv.length:=by
 have:=aJ List.length h.at_
 simpa using this
theorem UL.keys(h:UL es clock kv):∀x∈es.toList,MapKept.IsKey .string x.key:=fun x hx=>by
 obtain⟨j,hj⟩:=Xf.1 hx
 obtain⟨p,_,hk,_⟩:=h.get hj
 rw[hk];trivial
theorem ahl{f:Tx}{e:El}(h:(kv.map Prod.fst).Nodup)(hm:(f,e)∈kv):Jt kv f=(e,true):=by grind[Jt,List.find?_eq_none,List.mem_of_find?_eq_some,List.getElem_of_mem,Nat.lt_trichotomy,List.pairwise_iff_getElem]
theorem amq{f:Tx}(h:∀p∈kv,p.1≠f):Jt kv f=(dH,false):=by grind[Jt]
theorem UL.find(h:UL es clock kv)(f:Tx):(Instr.findNow .string (S f) es.toList 0=some none/\Jt kv f=(dH,false)/\∀p∈kv,p.1≠f)\/
  ∃j e el,Instr.findNow .string (S f) es.toList 0=some (some (j,.agg (jv el)))/\es.toList[j]?=some e/\e.key=S f/\kv[j]?=some (f,el)/\Jt kv f=(el,true):=by
 rcases MapKept.findNow_spec (d:= .string) (k:=S f) trivial es.toList 0 h.keys with⟨h1,h2⟩|⟨j,e,h1,h2,h3⟩
 .have hno:∀p∈kv,p.1≠f:=fun p hp q=>by
   obtain⟨j,hj⟩:=Xf.1 hp
   have hlt:j<es.toList.length:=by
    have:=(m8.1 hj).1
    have e:=h.size
    simp;omega
   obtain⟨p',hp',hk,_⟩:=h.get (ep hlt)
   rw[hj]at hp';injection hp' with hp';subst hp'
   exact h2 _ (nM hlt) (by rw[hk,q])
  exact .inl ⟨h1,amq hno,hno⟩
 obtain⟨p,hp,hk,hv⟩:=h.get h2
 have hf:p.1=f:=awK (hk.symm.trans h3)
 have hp':kv[j]?=some (f,p.2):=by rw[hp,<-hf]
 exact .inr ⟨j,e,p.2,by rw[h1,hv,ia],h2,h3,hp',ahl h.arN (lz hp')⟩
end
section
variable{P:Program}{n:Nat}{ops:Array Oper}{k:K}{rest:List Oper}{σ:Env}{w0 w:World}{L:List a7}{ty:TypeId}{pos:String}{bK:Array Edge}{d:Nat}{dst:Option Tmp}{g:Option (Nat×Bool)}{x y z:Operand}{t kt et:TypeId}{es:Array MapEntry}{clock b:Nat}{kv:List (Tx×El)}{f:Tx}
theorem aDH{i bi since c0:Nat}{seen:Array Nat}(hd:Nat.blt d n=true)(hH:Hp w0 w L)(hi:L[i]?=some (.blk bi (.mapIter (some b) since seen c0)))(hb:w.heap[b]?=some (.map es clock))(hold:∀x∈es.toList,x.born<since)(hsc:since<=c0)(hx:ev σ x= .pointer (some ⟨bi,0,none⟩))
  (h1:(leftOf es seen).size=0->RL P n ops k rest (lG σ d (.tuple #[B false])) w)
  (h2:∀e∈(leftOf es seen).toList,∀w',Hp w0 w' (L.set i (.blk bi (.mapIter (some b) since (seen.push e.born) clock)))->RL P n ops k rest (lG σ d (.tuple #[B true,e.key,e.val])) w'):
  RL P n ops k (⟨some d,.next x false,ty,pos,bK,none⟩::rest) σ w:=by
 have hbi:=hH.blk hi
 have key:((leftOf es seen).size=0/\(Instr.next (.pointer (some ⟨bi,0,none⟩)) false ty).run P w= .ok (.tuple #[.bool false]) w)\/
   ∃e∈(leftOf es seen).toList,∃w1:World,(w1=w\/w1=w.drew)/\(Instr.next (.pointer (some ⟨bi,0,none⟩)) false ty).run P w= .ok (.tuple #[.bool true,e.key,e.val]) {w1 with heap:=w1.heap.setIfInBounds bi (.mapIter (some b) since (seen.push e.born) clock)}:=by
  simp only[Instr.next,getObj,rK,Sem.run,hbi,hb,Result.andThen,next_test_false seen es since c0 hold hsc,tR,xj]
  unfold leftOf
  have hmem:∀x∈(Array.filter (fun e=> !seen.contains e.born) es).toList,x.born<since:=fun x hx=>hold x (by simp at hx⊢;exact hx.1)
  generalize Array.filter (fun e=> !seen.contains e.born) es=Q at hmem⊢
  have e1:Q.filter (fun x=>decide (x.born<since))=Q:=Array.filter_eq_self.2 (fun x hx=>by simpa using hmem x (by simpa using hx))
  have e2:Q.filter (fun x=>decide (x.born>=since))=#[]:=by
   rw[Array.filter_eq_empty_iff]
   intro x hx
   have:=hmem x (by simpa using hx)
   simp
   omega
  simp only[e1,e2,Array.append_empty]
  by_cases h0:Q.size=0
  .left
   have:Q=#[]:=aeX h0
   subst this
   refine⟨rfl,?_⟩
   simp[choose,Sem.run,Question.forced]
  right
  have hne:Q.isEmpty=false:=by simp[Array.isEmpty,h0]
  simp only[hne,tR,xj,Array.empty_append,Array.size_map]
  have hch:∃(j:Nat) (w1:World),j<Q.size/\(w1=w\/w1=w.drew)/\(choose (Question.mapNext Q.size)).run P w= .ok j w1:=by
   by_cases hf:Q.size<=1
   .exact⟨0,w,J,.inl O,by simp[choose,Sem.run,Question.forced,hf]⟩
   exact⟨_,w.drew,Nat.mod_lt _ J,.inr O,by
    simp only[choose,Sem.run,Question.forced,eo,hf,xj,Question.cut]
    rfl⟩
  obtain⟨j,w1,hj,Sk,hrun⟩:=hch
  refine⟨Q[j],aF,w1,Sk,?_⟩
  have hb1:w1.heap[bi]?=some (.mapIter (some b) since seen c0):=by rcases Sk with rfl|rfl<;>exact hbi
  simp only[hrun,Array.getElem?_map,ae3 hj,qt,rK,Result.andThen]
  simp[setObj,Sem.run,hb1]
 rcases key with⟨h0,hr⟩|⟨e,he,w1,hw,hr⟩
 .exact oP hd (by simp[execOp,hx,hr,Result.andThen]) (h1 h0)
 refine oP (w':={w1 with heap:=w1.heap.setIfInBounds bi (.mapIter (some b) since (seen.push e.born) clock)}) hd (by simp[execOp,hx,hr,Result.andThen]) (h2 e he _ (Hp.setObj (o:= .mapIter (some b) since seen c0) ?_ hi _))
 rcases hw with rfl|rfl
 .exact hH
 exact hH.drew
end
def awL(v:jC):Tx×El:=(v.name,v.el)
def GSt(its:List jC)(g o:Bool)(kv:List (Tx×El)):Prop:=o=(g&&aoZ its)/\(o=true->kv=its.map awL)
def aMF(a:As)(t:A5):List jC:=if t.tail<a.rows.length then aoY a t else[]
section
variable{P:Program}{n:Nat}{ops:Array Oper}{k:K}{rest:List Oper}{σ:Env}{w0 w:World}{L:List a7}{ty:TypeId}{pos:String}{bK:Array Edge}{d:Nat}{dst:Option Tmp}{g:Option (Nat×Bool)}{x:Operand}{es:Array MapEntry}{clock b:Nat}{kv:List (Tx×El)}
def Seen(es:Array MapEntry)(kv:List (Tx×El))(seen:Array Nat)(ns:List Tx):Prop:=
 (∀t∈ns,t∈kv.map Prod.fst)/\(∀e∈es.toList,seen.contains e.born=true->∃t∈ns,e.key=S t)/\ns.length+(leftOf es seen).size<=es.size
end
section
variable{P:Program}{σ:Env}{w:World}{ty t u:TypeId}{pos:String}{bK:Array Edge}{dst:Option Tmp}{g:Option (Nat×Bool)}{x y:Operand}{a b:Tx}
end
def aDJ(ns:List Tx)(kv:List (Tx×El))(k:Int):List jC:=(ns.take k.toNat).map fun n=>⟨n,(Jt kv n).1⟩
section
variable{a:Om}{r:A5}{k:Int}{m:List jC}
end
structure aJs(a:Om):Prop where
 rl:∀x∈a.rows,x.l.length<=1000
 rn:∀x∈a.rows,∀v∈x.l,v.name.size<=1000
structure ahn(x:gp):Prop where
 c:x.code.length<=1000
 fa:x.a.fields.length<=1000
 fb:x.b.fields.length<=1000
 na:∀f∈x.a.fields,f.name.size<=1000
 nb:∀f∈x.b.fields,f.name.size<=1000
def wK(x:gp):Bool:=decide (200<x.code.length\/40<x.a.fields.length\/40<x.b.fields.length\/40<x.field.size)||(x.a.fields++x.b.fields).any fun f=>decide (40<f.name.size)
def Oy(p:l6):Bool:=u3 p.s||decide (80<p.bu.length)||p.bu.any wK
theorem amr{x:gp}(h:wK x=false):ahn x:=by grind[gp,wK,ahn]
theorem ams{p:l6}(h:Oy p=false):u3 p.s=false/\p.bu.length<=80/\∀x∈p.bu,ahn x:=by grind[Oy,amr]
theorem MF(l:List kX):∀u∈l.flatMap tF,u.oneCell'=true:=by grind[My]
theorem p5{s:kE}{a:As}{l:List gp}{k:Int}(h0:0<=k)(h1:k<l.length)(h:amp s a (l.getD k.toNat fU)=false)(hg:∀j:Int,0<=j->j<k->amp s a (l.getD j.toNat fU)=true):YS s a l=k:=
 uX h0 h1 (by rw[h];rfl) fun j a b=>by rw[hg j a b];rfl
theorem sK{s:kE}{a:As}{l:List gp}{k:Int}(hk:¬k<l.length)(hg:∀j:Int,0<=j->j<k->amp s a (l.getD j.toNat fU)=true):YS s a l= -1:=
 F7 fun j a b=>by rw[hg j a J];rfl
theorem Dt{x:gp}(h:200<x.code.length\/40<x.a.fields.length\/40<x.b.fields.length\/40<x.field.size):wK x=true:=by grind[wK]
theorem adx{x:gp}{m:List kX}{k:Int}(hm:m=x.a.fields++x.b.fields)(h0:0<=k)(h1:k<m.length)(h:40<(m.getD k.toNat mZ).name.size):wK x=true:=by grind[wK,Gc,mZ]
theorem amt{x:gp}{m:List kX}{k:Int}(hm:m=x.a.fields++x.b.fields)(h:¬(200<x.code.length\/40<x.a.fields.length\/40<x.b.fields.length\/40<x.field.size))(h1:¬k<m.length)(h2:∀j:Int,0<=j->j<k->decide (40<(m.getD j.toNat mZ).name.size)=false):wK x=false:=by
 rw[wK,<-hm,gO h,R8 (d:=mZ) h1 h2];rfl
theorem PS{p:l6}(h:u3 p.s=true\/80<p.bu.length):Oy p=true:=by grind[Oy]
theorem ady{p:l6}{k:Int}(h0:0<=k)(h1:k<p.bu.length)(h:wK (p.bu.getD k.toNat fU)=true):Oy p=true:=by grind[Oy,Gc,fU]
theorem aho{p:l6}{k:Int}(h:u3 p.s=false)(h2:¬80<p.bu.length)(h1:¬k<p.bu.length)(h3:∀j:Int,0<=j->j<k->wK (p.bu.getD j.toNat fU)=false):Oy p=false:=by
 rw[Oy,h,gO h2,R8 (d:=fU) h1 h3];rfl
end
end Go.Proofs.YtlhjdflgjbkpmaaGreatDoor.E
namespace Go.Proofs.YtlhjdflgjbkpmaaGreatDoor.M
section
open Go
structure qa where
 up:Nat
 size:Nat
 next:Nat
 least:Nat
def E7:qa:=⟨0,0,0,0⟩
def Wk(f:Nat->Nat):Nat->List Nat->Nat->Prop
 |v,[],y=>v=y
 |v,z::l,y=>v=z/\Wk f (f z) l y
theorem Wk.app{f:Nat->Nat}{l m:List Nat}{v z y:Nat}:Wk f v (l++z::m) y↔Wk f v l z/\Wk f (f z) m y:=by
 induction l generalizing v with
 |nil=>exact BS
 |cons a l ih=>simp only[gf,Wk,ih,and_assoc]
theorem Wk.congr{f g:Nat->Nat}{l:List Nat}{v y:Nat}(h:Wk f v l y)(he:∀x∈l,g x=f x):Wk g v l y:=by
 induction l generalizing v with
 |nil=>exact h
 |cons a l ih=>exact⟨h.1,by rw[he a aF];exact ih h.2 fun x hx=>he x (fC _ hx)⟩
def Ring(f:Nat->Nat)(i:Nat)(t:List Nat):Prop:=Wk f (f i) t i/\(i::t).Nodup
theorem Ring.rot{f:Nat->Nat}{i j:Nat}{t:List Nat}(h:Ring f i t)(hj:j∈i::t):∃u,Ring f j u/\∀k,k∈j::u↔k∈i::t:=by
 rcases cQ.1 hj with rfl|hj
 .exact⟨t,h,fun _=>BS⟩
 obtain⟨l,m,rfl⟩:=Xo hj
 have h1:=Wk.app.1 h.1
 refine⟨m++i::l,⟨Wk.app.2 ⟨h1.2,h1.1⟩,?_⟩,fun k=>by simp only[cQ,eI];constructor<;>(intro q;rcases q with q|q|q|q<;>simp[q])⟩
 have h2:=h.2
 have e:j::(m++i::l)=(j::m)++(i::l):=rfl
 have e2:i::(l++j::m)=(i::l)++(j::m):=rfl
 rw[e2]at h2
 rw[e]
 exact(xR.nodup_iff).1 h2
theorem Ring.join{f g:Nat->Nat}{a b:Nat}{la lb:List Nat}(ha:Ring f a la)(hb:Ring f b lb)(hd:∀x∈a::la,x∉b::lb)(ga:g a=f b)(gb:g b=f a)(ho:∀x,x≠a->x≠b->g x=f x):Ring g a (lb++b::la):=by
 have na:a∉la:=(nP.1 ha.2).1
 have nb:b∉lb:=(nP.1 hb.2).1
 have a1:a∉b::lb:=hd a aF
 refine⟨Wk.app.2 ⟨?_,?_⟩,?_⟩
 .rw[ga]
  exact hb.1.congr fun x hx=>ho x (fun e=>a1 (by rw[<-e];exact fC _ hx)) fun e=>nb (by rw[<-e];exact hx)
 .rw[gb]
  exact ha.1.congr fun x hx=>ho x (fun e=>na (by rw[<-e];exact hx)) fun e=>hd x (fC _ hx) (by rw[e];simp)
 rw[nP]
 constructor
 .intro h
  rcases eI.1 h with q|q
  .exact a1 (fC _ q)
  rcases cQ.1 q with q|q
  .exact a1 (by rw[q];simp)
  exact na q
 rw[List.nodup_append]
 refine⟨(nP.1 hb.2).2,nP.2 ⟨fun q=>hd b (fC _ q) aF,(nP.1 ha.2).2⟩,fun x hx y hy e=> ?_⟩
 subst e
 rcases cQ.1 hy with q|q
 .exact nb (by rw[<-q];exact hx)
 exact hd x (fC _ q) (fC _ hx)
theorem Ring.keep{f g:Nat->Nat}{i:Nat}{t:List Nat}(h:Ring f i t)(he:∀x∈i::t,g x=f x):Ring g i t:=
 ⟨by rw[he i aF];exact h.1.congr fun x hx=>he x (fC _ hx),h.2⟩
def r6(nd:List qa)(i:Nat):Nat:=(nd.getD i E7).up
def kA(nd:List qa)(i:Nat):Nat:=(nd.getD i E7).size
def sW(nd:List qa)(i:Nat):Nat:=(nd.getD i E7).next
def qq(nd:List qa)(i:Nat):Nat:=(nd.getD i E7).least
def ct(cl:List Nat)(i:Nat):Nat:=cl.getD i 0
structure Fo(nd:List qa)(cl:List Nat):Prop where
 len:cl.length=nd.length
 up:∀i,i<nd.length->r6 nd i<nd.length
 sz:∀i,i<nd.length->r6 nd i≠i->kA nd i<kA nd (r6 nd i)
 sn:∀i,i<nd.length->kA nd i<=nd.length
 si:∀i,i<nd.length->r6 nd i=i->kA nd i=cl.count (ct cl i)
 uc:∀i,i<nd.length->ct cl (r6 nd i)=ct cl i
 one:∀i j,i<nd.length->j<nd.length->r6 nd i=i->r6 nd j=j->ct cl i=ct cl j->i=j
 le:∀i,i<nd.length->r6 nd i=i->qq nd i=ct cl i
 lc:∀i,i<nd.length->ct cl i<=i/\ct cl (ct cl i)=ct cl i
 ring:∀i,i<nd.length->∃t,Ring (sW nd) i t/\∀k,k∈i::t↔k<nd.length/\ct cl k=ct cl i
theorem Fo.nil:Fo [] []:=⟨rfl,fun i h=>oO,fun i h=>oO,fun i h=>oO,fun i h=>oO,fun i h=>oO,fun i j h=>oO,fun i h=>oO,fun i h=>oO,fun i h=>oO⟩
def rf(n:Nat):qa:=⟨n,1,n,n⟩
section
variable{nd:List qa}{cl:List Nat}{α:Type}{d x:α}{l:List α}{i:Nat}
theorem ahp(h:i<l.length):(l++[x]).getD i d=l.getD i d:=by grind
theorem ahq:(l++[x]).getD l.length d=x:=aF
theorem Fo.add(h:Fo nd cl):Fo (nd++[rf nd.length]) (cl++[nd.length]):=by
 have hl:=h.len
 have gu:∀i,i<nd.length->(nd++[rf nd.length]).getD i E7=nd.getD i E7:=fun i hi=>ahp hi
 have gn:(nd++[rf nd.length]).getD nd.length E7=rf nd.length:=ahq
 have gc:∀i,i<nd.length->ct (cl++[nd.length]) i=ct cl i:=fun i hi=>ahp J
 have gcn:ct (cl++[nd.length]) nd.length=nd.length:=by unfold ct;rw[<-hl];exact ahq
 have cs:∀i,i<(nd++[rf nd.length]).length->i<nd.length\/i=nd.length:=fun i hi=>by rw[cZ,gN]at hi;omega
 have ln:(nd++[rf nd.length]).length=nd.length+1:=aF
 have clt:∀i,i<nd.length->ct cl i<nd.length:=fun i hi=>by have:=(h.lc i hi).1;omega
 have aDK:cl.count nd.length=0:=by
  rw[List.count_eq_zero];intro hm
  obtain⟨k,hk,e⟩:=th hm
  have:=clt k J
  unfold ct at this
  rw[eS,ep hk,Re,e]at this
  omega
 refine⟨by simp[hl],fun i hi=> ?_,fun i hi=> ?_,fun i hi=> ?_,fun i hi hu=> ?_,fun i hi=> ?_,fun i j hi hj hu hv hc=> ?_,fun i hi hu=> ?_,fun i hi=> ?_,fun i hi=> ?_⟩
 .rw[ln];unfold r6;rcases cs i hi with q|rfl
  .rw[gu i q];have:=h.up i q;unfold r6 at this;omega
  rw[gn];show nd.length<_;omega
 .unfold r6 kA;rcases cs i hi with q|rfl
  .have hu:=h.up i q
   unfold r6 at hu
   rw[gu i q,gu _ hu];exact h.sz i q
  rw[gn];intro hh;exact absurd O hh
 .rw[ln];unfold kA;rcases cs i hi with q|rfl
  .rw[gu i q];have:=h.sn i q;unfold kA at this;omega
  rw[gn];show 1<=_;omega
 .unfold kA;unfold r6 at hu;rcases cs i hi with q|rfl
  .rw[gu i q]at hu⊢;rw[gc i q,Xw]
   have:=h.si i q hu;unfold kA at this
   rw[this,List.count_singleton]
   have:=clt i q
   rw[aR iP];omega
  rw[gn,gcn,Xw,aDK,List.count_singleton,aS aF];rfl
 .unfold r6;rcases cs i hi with q|rfl
  .have hu:=h.up i q
   have:=h.uc i q
   unfold r6 at hu this
   rw[gu i q,gc i q,gc _ hu];exact this
  rw[gn];rfl
 .unfold r6 at hu hv;rcases cs i hi with q|rfl<;>rcases cs j hj with r|rfl
  .rw[gu _ q]at hu;rw[gu _ r]at hv;rw[gc _ q,gc _ r]at hc;exact h.one i j q r hu hv hc
  .rw[gc _ q,gcn]at hc;have:=clt i q;omega
  .rw[gc _ r,gcn]at hc;have:=clt j r;omega
  rfl
 .unfold qq;unfold r6 at hu;rcases cs i hi with q|rfl
  .rw[gu _ q]at hu⊢;rw[gc _ q];exact h.le i q hu
  rw[gn,gcn];rfl
 .rcases cs i hi with q|rfl
  .rw[gc _ q,gc _ (clt i q)];exact h.lc i q
  rw[gcn,gcn];exact⟨er _,rfl⟩
 rcases cs i hi with q|rfl
 .obtain⟨t,ht,hm⟩:=h.ring i q
  refine⟨t,ht.keep fun x hx=> ?_,fun k=> ?_⟩
  .unfold sW;rw[gu x ((hm x).1 hx).1]
  rw[hm k,ln,gc i q]
  constructor
  .rintro⟨a,b⟩;exact⟨J,by rw[gc k a];exact b⟩
  rintro⟨a,b⟩
  rcases cs k (by rw[ln];exact a)with r|rfl
  .exact⟨r,by rw[<-gc k r];exact b⟩
  rw[gcn]at b;have:=clt i q;omega
 refine⟨[],⟨by show sW _ _=_;unfold sW;rw[gn];rfl,aF⟩,fun k=> ?_⟩
 rw[dY,ln,gcn]
 constructor
 .rintro rfl;exact⟨J,gcn⟩
 rintro⟨a,b⟩
 rcases cs k (by rw[ln];exact a)with r|rfl
 .rw[gc k r]at b;have:=clt k r;omega
 rfl
theorem kQ{j:Nat}:(l.set i x).getD j d=if j=i/\i<l.length then x else l.getD j d:=by grind
end
def o8(nd:List qa)(a b:Nat):List qa:=(nd.set b ⟨a,kA nd b,sW nd a,qq nd b⟩).set a ⟨r6 nd a,kA nd a+kA nd b,sW nd b,min (qq nd a) (qq nd b)⟩
def Iv(x y c:Nat):Nat:=if c=x\/c=y then min x y else c
def iy(cl:List Nat)(x y:Nat):List Nat:=cl.map (Iv x y)
theorem kF{x y c:Nat}(h:c=x\/c=y):Iv x y c=min x y:=aS h
theorem kR{x y c:Nat}(h:¬(c=x\/c=y)):Iv x y c=c:=aR h
theorem xm(x y:Nat):min x y=x\/min x y=y:=J
theorem adz{x y v:Nat}(h:¬(v=x\/v=y))(cl:List Nat):(iy cl x y).count v=cl.count v:=by
 induction cl with
 |nil=>rfl
 |cons c l ih=>
  show(Iv x y c::iy l x y).count v=_
  rw[EI,EI,ih]
  by_cases hc:c=x\/c=y
  .rw[kF hc,aR afx,aR iP]
  rw[kR hc]
theorem UM{x y:Nat}(h:x≠y)(cl:List Nat):(iy cl x y).count (min x y)=cl.count x+cl.count y:=by
 induction cl with
 |nil=>rfl
 |cons c l ih=>
  show(Iv x y c::iy l x y).count _=_
  rw[EI,EI,EI,ih]
  by_cases hc:c=x\/c=y
  .rw[kF hc,aS aF]
   rcases hc with rfl|rfl
   .rw[aS aF,aR iP];omega
   rw[aR iP,aS aF];omega
  rw[kR hc,aR afx,aR iP,aR iP]
  omega
theorem adA{x y:Nat}(h:x≠y)(cl:List Nat):cl.count x+cl.count y<=cl.length:=by
 rw[<-UM h]
 have:=List.count_le_length (a:=min x y) (l:=iy cl x y)
 rwa[show(iy cl x y).length=cl.length by simp[iy]]at this
section
variable{nd:List qa}{cl:List Nat}{a b:Nat}
theorem vb:(o8 nd a b).length=nd.length:=by simp[o8]
theorem amv(hb:b<nd.length)(ha:a<nd.length)(hab:a≠b)(hu:r6 nd a=a)(i:Nat):r6 (o8 nd a b) i=if i=b then a else r6 nd i:=by grind[r6,o8,kQ]
theorem amw(hb:b<nd.length)(ha:a<nd.length)(i:Nat):kA (o8 nd a b) i=if i=a then kA nd a+kA nd b else kA nd i:=by grind[kA,o8,kQ]
theorem amx(hb:b<nd.length)(ha:a<nd.length)(i:Nat):qq (o8 nd a b) i=if i=a then min (qq nd a) (qq nd b)else qq nd i:=by grind[qq,o8,kQ]
theorem amy(hb:b<nd.length)(ha:a<nd.length)(i:Nat):sW (o8 nd a b) i=if i=a then sW nd b else if i=b then sW nd a else sW nd i:=by grind[sW,o8,kQ]
theorem zF{x y:Nat}{i:Nat}(hi:i<cl.length):ct (iy cl x y) i=Iv x y (ct cl i):=by grind[ct,iy]
theorem Fo.join(h:Fo nd cl)(ha:a<nd.length)(hb:b<nd.length)(hab:a≠b)(ua:r6 nd a=a)(ub:r6 nd b=b):Fo (o8 nd a b) (iy cl (ct cl a) (ct cl b)):=by
 have hl:=h.len
 have hxy:ct cl a≠ct cl b:=fun e=>hab (h.one a b ha hb ua ub e)
 generalize hx:ct cl a=x at*
 generalize hy:ct cl b=y at*
 have gc:∀i,i<nd.length->ct (iy cl x y) i=Iv x y (ct cl i):=fun i hi=>zF J
 have gu:=amv hb ha hab ua
 have gs:=amw hb ha (a:=a)
 have gl:=amx hb ha (a:=a)
 have gn:=amy hb ha (a:=a)
 have sa:=h.si a ha ua;have sb:=h.si b hb ub
 rw[hx]at sa;rw[hy]at sb
 have root:∀i,i<nd.length->r6 (o8 nd a b) i=i->i≠b/\r6 nd i=i:=fun i hi q=>by
  rw[gu]at q
  by_cases e:i=b
  .rw[aS e]at q;exact absurd (q.trans e) hab
  rw[aR e]at q;exact⟨e,q⟩
 have isx:∀i,i<nd.length->r6 nd i=i->i≠b->(ct cl i=x\/ct cl i=y)->i=a:=fun i hi q e hc=>by
  rcases hc with hc|hc
  .exact h.one i a hi ha q ua (hc.trans hx.symm)
  exact absurd (h.one i b hi hb q ub (hc.trans hy.symm)) e
 have clx:=h.lc a ha;have cly:=h.lc b hb
 rw[hx]at clx;rw[hy]at cly
 have pa:1<=kA nd a:=by
  rw[sa]
  have:x∈cl:=by
   rw[<-hx];unfold ct
   rw[eS,ep J,Re];exact nM J
  have:=List.count_pos_iff.2 this
  omega
 refine⟨by simp[iy,vb,hl],fun i hi=> ?_,fun i hi=> ?_,fun i hi=> ?_,fun i hi hu=> ?_,fun i hi=> ?_,fun i j hi hj hu hv hc=> ?_,fun i hi hu=> ?_,fun i hi=> ?_,fun i hi=> ?_⟩<;>rw[vb]at hi
 .rw[vb,gu];split
  .exact ha
  exact h.up i hi
 .rw[gu,gs i]
  by_cases e:i=b
  .rw[aS e,gs a,aS O,aR J,e];intro _;omega
  rw[aR e,gs (r6 nd i)];intro q
  have e2:i≠a:=fun r=>q (by rw[r];exact ua)
  rw[aR e2]
  have:=h.sz i hi q
  split
  .rename_i r;rw[r]at this;omega
  exact this
 .rw[vb,gs i];split
  .have:=adA hxy cl;omega
  exact h.sn i hi
 .obtain⟨e,q⟩:=root i hi hu
  rw[gs i,gc i hi]
  by_cases e2:i=a
  .rw[aS e2,e2,hx,kF (.inl O),UM hxy,sa,sb]
  rw[aR e2]
  have hc:¬(ct cl i=x\/ct cl i=y):=fun r=>e2 (isx i hi q e r)
  rw[kR hc,adz hc];exact h.si i hi q
 .rw[gu i];split
  .rename_i e;rw[gc a ha,gc i hi,e,hx,hy,kF (.inl O),kF (.inr O)]
  rw[gc _ (h.up i hi),gc i hi,h.uc i hi]
 .rw[vb]at hj
  obtain⟨e1,q1⟩:=root i hi hu
  obtain⟨e2,q2⟩:=root j hj hv
  rw[gc i hi,gc j hj]at hc
  by_cases c1:ct cl i=x\/ct cl i=y
  .rw[kF c1]at hc
   have c2:ct cl j=x\/ct cl j=y:=by
    refine KY fun r=> ?_
    rw[kR r]at hc
    exact r (by rw[<-hc];exact xm x y)
   rw[isx i hi q1 e1 c1,isx j hj q2 e2 c2]
  rw[kR c1]at hc
  have c2:¬(ct cl j=x\/ct cl j=y):=fun r=>by
   rw[kF r]at hc
   exact c1 (by rw[hc];exact xm x y)
  rw[kR c2]at hc
  exact h.one i j hi hj q1 q2 hc
 .obtain⟨e,q⟩:=root i hi hu
  rw[gl i,gc i hi]
  by_cases e2:i=a
  .rw[aS e2,e2,hx,kF (.inl O),h.le a ha ua,h.le b hb ub,hx,hy]
  rw[aR e2]
  have hc:¬(ct cl i=x\/ct cl i=y):=fun r=>e2 (isx i hi q e r)
  rw[kR hc];exact h.le i hi q
 .have hi2:=h.lc i hi
  rw[gc i hi]
  by_cases c1:ct cl i=x\/ct cl i=y
  .rw[kF c1]
   refine⟨by rcases c1 with r|r<;>omega,?_⟩
   rw[gc _ J]
   refine kF ?_
   rcases xm x y with r|r<;>rw[r]
   .exact .inl clx.2
   exact .inr cly.2
  rw[kR c1]
  refine⟨hi2.1,?_⟩
  rw[gc _ J,hi2.2,kR c1]
 by_cases c1:ct cl i=x\/ct cl i=y
 .obtain⟨la,ra,ma⟩:=h.ring a ha
  obtain⟨lb,rb,mb⟩:=h.ring b hb
  rw[hx]at ma;rw[hy]at mb
  have hj:Ring (sW (o8 nd a b)) a (lb++b::la):=ra.join rb (fun k hk Du=>hxy (((ma k).1 hk).2.symm.trans ((mb k).1 Du).2)) (by rw[gn,aS O]) (by rw[gn,aR (EM hab),aS O]) fun k k1 k2=>by rw[gn,aR k1,aR k2]
  have mm:∀k,k∈a::(lb++b::la)↔k<nd.length/\(ct cl k=x\/ct cl k=y):=fun k=>by
   have m1:=ma k;have m2:=mb k
   simp only[cQ,eI]at m1 m2⊢
   constructor
   .rintro(q|q|q|q)
    .have:=m1.1 (.inl q);exact⟨this.1,.inl this.2⟩
    .have:=m2.1 (.inr q);exact⟨this.1,.inr this.2⟩
    .have:=m2.1 (.inl q);exact⟨this.1,.inr this.2⟩
    have:=m1.1 (.inr q);exact⟨this.1,.inl this.2⟩
   rintro⟨q,r|r⟩
   .rcases m1.2 ⟨q,r⟩with s|s
    .exact .inl s
    exact .inr (.inr (.inr s))
   rcases m2.2 ⟨q,r⟩with s|s
   .exact .inr (.inr (.inl s))
   exact .inr (.inl s)
  obtain⟨u,hu,mu⟩:=hj.rot ((mm i).2 ⟨hi,c1⟩)
  refine⟨u,hu,fun k=> ?_⟩
  rw[mu,mm,vb,gc i hi,kF c1]
  constructor
  .rintro⟨q,r⟩;exact⟨q,by rw[gc k q,kF r]⟩
  rintro⟨q,r⟩
  refine⟨q,KY fun s=> ?_⟩
  rw[gc k q,kR s]at r
  exact s (by rw[r];exact xm x y)
 obtain⟨t,ht,mt⟩:=h.ring i hi
 have out:∀k∈i::t,¬(ct cl k=x\/ct cl k=y):=fun k hk=>by rw[((mt k).1 hk).2];exact c1
 refine⟨t,ht.keep fun k hk=> ?_,fun k=> ?_⟩
 .have:=out k hk
  rw[gn,aR (fun e=>this (.inl (by rw[e];exact hx))),aR (fun e=>this (.inr (by rw[e];exact hy)))]
 rw[mt k,vb,gc i hi,kR c1]
 constructor
 .rintro⟨q,r⟩;exact⟨q,by rw[gc k q,r,kR c1]⟩
 rintro⟨q,r⟩
 refine⟨q,?_⟩
 rw[gc k q]at r
 by_cases c2:ct cl k=x\/ct cl k=y
 .rw[kF c2]at r;exact absurd (by rw[<-r];exact xm x y) c1
 rw[kR c2]at r;exact r
end
inductive jD
 |add (n:Nat)
 |set (i:Nat) (was:BitVec 64)
def Sm(W:List (BitVec 64)):jD->List (BitVec 64)
 | .add n=>W.take n
 | .set i was=>W.set i was
def YT(W:List (BitVec 64))(us:List jD):List (BitVec 64):=us.foldr (fun u w=>Sm w u) W
def js(W:List (BitVec 64))(us:List jD)(t:Nat):List (BitVec 64):=YT W (us.drop t)
def okR:Nat->List jD->Prop
 |_,[]=>True
 |L,.add n::r=>n<=L/\okR n r
 |L,.set i _::r=>i<L/\okR L r
def MG(L:Nat)(us:List jD):Prop:=okR L us.reverse
section
variable{W:List (BitVec 64)}{us:List jD}{u:jD}{t k:Nat}
theorem Dv:js W us us.length=W:=by simp[js,YT]
theorem E8(h:t<=us.length):js W (us++[u]) t=js (Sm W u) us t:=by grind[js,YT]
theorem MH(h:t<=us.length):(us++[u]).take t=us.take t:=by grind
theorem MI(h:k<us.length):js W us k=Sm (js W us (k+1)) us[k]:=by
 rw[js,js,EA h];rfl
theorem sX:MG W.length (us++[u])↔(match u with| .add n=>n<=W.length/\MG n us| .set i _=>i<W.length/\MG W.length us):=by
 unfold MG;rw[List.reverse_append];cases u<;>exact BS
theorem ahr(h:MG W.length (us++[u])):MG (Sm W u).length us:=by grind[MG,Sm,sX]
end
def Iw(W:List (BitVec 64))(us:List jD)(i:Nat)(b:BitVec 64):List jD:=if W.getD i 0=b then us else us++[.set i (W.getD i 0)]
theorem MJ{W:List (BitVec 64)}{i:Nat}{b:BitVec 64}(h:W.getD i 0=b):W.set i b=W:=by
 apply XA aF
 intro j h1 h2
 rw[yP]
 split
 .rename_i e;subst e
  rw[<-h,eS,ep h2];rfl
 rfl
theorem ahs{W:List (BitVec 64)}{us:List jD}{i t:Nat}{b:BitVec 64}(hi:i<W.length)(h:t<=us.length):js (W.set i b) (Iw W us i b) t=js W us t/\(Iw W us i b).take t=us.take t/\t<=(Iw W us i b).length:=by
 unfold Iw
 split
 .rename_i e;rw[MJ e];exact⟨rfl,rfl,h⟩
 refine⟨?_,MH h,by rw[cZ];omega⟩
 rw[E8 h]
 congr 1
 show(W.set i b).set i (W.getD i 0)=W
 rw[List.set_set];exact MJ O
theorem amz{W:List (BitVec 64)}{us:List jD}{i:Nat}{b:BitVec 64}(hi:i<W.length)(h:MG W.length us):MG (W.set i b).length (Iw W us i b):=by grind[Iw,sX]
def FH(d:qa):List (BitVec 64):=[BitVec.ofNat 64 d.up,BitVec.ofNat 64 d.size,BitVec.ofNat 64 d.next,BitVec.ofNat 64 d.least]
def bD(nd:List qa):List (BitVec 64):=nd.flatMap FH
theorem ir(nd:List qa):(bD nd).length=4*nd.length:=by
 induction nd with
 |nil=>rfl
 |cons d l ih=>show(FH d++bD l).length=_;rw[cZ,ih,eR];show 4+_=_;omega
theorem pZ(nd:List qa)(d:qa):bD (nd++[d])=bD nd++FH d:=by simp[bD]
theorem zG(nd:List qa){i k:Nat}(hi:i<nd.length)(hk:k<4):(bD nd).getD (4*i+k) 0=(FH (nd.getD i E7)).getD k 0:=by
 induction nd generalizing i with
 |nil=>cases hi
 |cons d l ih=>
  show(FH d++bD l).getD _ _=_
  cases i with
  |zero=>
   rw[eS,yK (by show _<4;omega),<-eS]
   simp
  |succ i=>
   rw[eS,Ez (by show 4<=_;omega),show 4*(i+1)+k-(FH d).length=4*i+k by show 4*(i+1)+k-4=_;omega,<-eS,ih zg]
   rfl
theorem zH(nd:List qa){i k:Nat}{b:BitVec 64}{d':qa}(hi:i<nd.length)(hk:k<4)(h:(FH (nd.getD i E7)).set k b=FH d'):(bD nd).set (4*i+k) b=bD (nd.set i d'):=by
 induction nd generalizing i with
 |nil=>cases hi
 |cons d l ih=>
  cases i with
  |zero=>
   show(FH d++bD l).set _ _=FH d'++bD l
   rw[List.set_append_left _ _ (by show _<4;omega),<-h]
   simp
  |succ i=>
   show(FH d++bD l).set _ _=FH d++bD (l.set i d')
   rw[List.set_append_right _ _ (by show 4<=_;omega),show 4*(i+1)+k-(FH d).length=4*i+k by show 4*(i+1)+k-4=_;omega,ih zg xl]
def leads(cl:List Nat):Nat:=((List.range cl.length).filter fun i=>ct cl i==i).length
def DG(cl:List Nat):List Nat:=cl.foldl (fun m c=>if c∈m then m else m++[c]) []
theorem KH{l m:List Nat}(hn:l.Nodup)(h:∀x∈l,x∈m):l.length<=m.length:=by
 induction l generalizing m with
 |nil=>simp
 |cons a l ih=>
  have ha:=h a aF
  have PU:=nP.1 hn
  have:=ih (m:=m.erase a) PU.2 fun x hx=>by
   refine(List.mem_erase_of_ne (fun e=>PU.1 (by rw[<-e];exact hx))).2 (h x (fC _ hx))
  rw[W9 ha]at this
  have:=Q0 ha
  rw[eR];omega
theorem UN{l m:List Nat}(hn:l.Nodup)(hm:m.Nodup)(h:∀x,x∈l↔x∈m):l.length=m.length:=
 Nat.le_antisymm (KH hn fun x=>(h x).1) (KH hm fun x=>(h x).2)
theorem aht(cl:List Nat):(DG cl).Nodup/\∀x,x∈DG cl↔x∈cl:=by
 have key:∀r:List Nat,(DG r.reverse).Nodup/\∀x,x∈DG r.reverse↔x∈r.reverse:=by
  intro r
  induction r with
  |nil=>exact⟨List.nodup_nil,fun x=>BS⟩
  |cons c r ih=>
   rw[List.reverse_cons]
   have e:DG (r.reverse++[c])=if c∈DG r.reverse then DG r.reverse else DG r.reverse++[c]:=by unfold DG;rw[wZ];rfl
   rw[e]
   split
   .rename_i h
    refine⟨ih.1,fun x=> ?_⟩
    rw[ih.2,eI,dY]
    constructor
    .exact fun q=> .inl q
    rintro(q|rfl)
    .exact q
    exact(ih.2 _).1 h
   rename_i h
   refine⟨?_,fun x=>by rw[eI,eI,ih.2]⟩
   rw[List.nodup_append]
   exact⟨ih.1,aF,fun a ha b hb e=>h (by rw[<-dY.1 hb,<-e];exact ha)⟩
 have:=key cl.reverse
 rwa[List.reverse_reverse]at this
section
variable{nd:List qa}{cl:List Nat}{a b:Nat}
theorem ahu(h:Fo nd cl)(x:Nat):x∈cl↔x<cl.length/\ct cl x=x:=by
 constructor
 .intro hx
  obtain⟨k,hk,e⟩:=th hx
  have e2:ct cl k=x:=by unfold ct;rw[eS,ep hk];exact e
  have:=h.lc k (by rw[<-h.len];exact hk)
  rw[e2]at this
  exact⟨J,this.2⟩
 rintro⟨h1,h2⟩
 rw[<-h2];unfold ct
 rw[eS,ep h1];exact nM h1
theorem Gj(cl:List Nat)(x:Nat):x∈((List.range cl.length).filter fun i=>ct cl i==i)↔x<cl.length/\ct cl x=x:=aF
theorem E9(cl:List Nat):((List.range cl.length).filter fun i=>ct cl i==i).Nodup:=List.nodup_range.filter _
theorem UO(h:Fo nd cl):(DG cl).length=leads cl:=by grind[Fo,DG,leads,UN,aht,E9,Gj,ahu]
theorem PV(h:Fo nd cl):leads (cl++[nd.length])=leads cl+1:=by
 rw[<-UO h.add,<-UO h]
 have e:DG (cl++[nd.length])=if nd.length∈DG cl then DG cl else DG cl++[nd.length]:=by unfold DG;rw[wZ];rfl
 rw[e,aR]
 .simp
 intro q
 have:=((ahu h _).1 (((aht cl).2 _).1 q)).1
 have:=h.len;omega
theorem YU(h:Fo nd cl)(ha:a<nd.length)(hb:b<nd.length)(hab:a≠b)(ua:r6 nd a=a)(ub:r6 nd b=b):leads (iy cl (ct cl a) (ct cl b))+1=leads cl:=by
 have hj:=h.join ha hb hab ua ub
 have hl:=h.len
 have hxy:ct cl a≠ct cl b:=fun e=>hab (h.one a b ha hb ua ub e)
 have clx:=h.lc a ha;have cly:=h.lc b hb
 generalize hx:ct cl a=x at*
 generalize hy:ct cl b=y at*
 have jl:(iy cl x y).length=cl.length:=by simp[iy]
 have e:((List.range cl.length).filter fun i=>ct cl i==i).length=(max x y::((List.range (iy cl x y).length).filter fun i=>ct (iy cl x y) i==i)).length:=by
  refine UN (E9 cl) (nP.2 ⟨fun q=> ?_,E9 _⟩) fun k=> ?_
  .have q2:=(Gj _ _).1 q
   rw[zF J]at q2
   have e:ct cl (max x y)=max x y:=by rcases(by omega:max x y=x\/max x y=y)with r|r<;>rw[r];exact clx.2;exact cly.2
   rw[e,kF J]at q2
   omega
  rw[Gj,cQ,Gj,jl]
  constructor
  .rintro⟨k1,k2⟩
   by_cases c:k=max x y
   .exact .inl c
   refine .inr ⟨k1,?_⟩
   rw[zF k1,k2]
   by_cases c1:k=x\/k=y
   .rw[kF c1];omega
   exact kR c1
  rintro(rfl|⟨k1,k2⟩)
  .rcases(by omega:max x y=x\/max x y=y)with r|r<;>rw[r]
   .exact⟨J,clx.2⟩
   exact⟨J,cly.2⟩
  refine⟨k1,?_⟩
  rw[zF k1]at k2
  by_cases c1:ct cl k=x\/ct cl k=y
  .rw[kF c1]at k2
   rcases xm x y with r|r<;>rw[r]at k2<;>rw[<-k2]
   .exact clx.2
   exact cly.2
  rwa[kR c1]at k2
 unfold leads
 rw[e,eR]
theorem Ix{f:Nat->Nat}{i at_:Nat}{t out m:List Nat}(h:Ring f i t)(e:i::t=out++at_::m):(m=[]/\f at_=i)\/∃z m',m=z::m'/\f at_=z/\z≠i:=by
 have key:Wk f (f at_) m i:=by
  cases out with
  |nil=>simp only[eC,K9]at e;rw[<-e.1,<-e.2];exact h.1
  |cons o out=>
   simp only[gf,K9]at e
   have:=h.1;rw[e.2]at this
   exact(Wk.app.1 this).2
 cases m with
 |nil=>exact .inl ⟨rfl,key⟩
 |cons z m'=>
  refine .inr ⟨z,m',rfl,key.1,fun q=> ?_⟩
  have hn:=h.2
  cases out with
  |nil=>
   simp only[eC,K9]at e
   rw[e.2,q]at hn;exact(nP.1 hn).1 aF
  |cons o out=>
   simp only[gf,K9]at e
   rw[e.2,q]at hn;exact(nP.1 hn).1 aF
end
def Gk(cl c2:List Nat):Prop:=(cl.length=c2.length+1/\leads cl=leads c2+1)\/(cl.length=c2.length/\leads cl+1=leads c2)
def Hs:List (BitVec 64)->List jD->List Nat->List (List Nat)->Prop
 |W,us,[],[cl]=>us=[]/\cl=[]/\W=[]
 |W,us,t::ts,cl::c2::cs=>(∃nd,W=bD nd/\Fo nd cl)/\t<=us.length/\Gk cl c2/\Hs (js W us t) (us.take t) ts (c2::cs)
 |_,_,_,_=>False
section
variable{W:List (BitVec 64)}{us:List jD}{t:Nat}{ts:List Nat}{cl c2:List Nat}{cs:List (List Nat)}{nd:List qa}
theorem Hs.ne(h:Hs W us ts []):False:=by cases ts<;>exact h
theorem Hs.now(h:Hs W us ts (cl::cs)):∃nd,W=bD nd/\Fo nd cl:=by
 cases ts with
 |nil=>
  cases cs with
  |nil=>obtain⟨_,rfl,rfl⟩:=h;exact⟨[],rfl,Fo.nil⟩
  |cons c cs=>exact h.elim
 |cons t ts=>
  cases cs with
  |nil=>exact h.elim
  |cons c cs=>exact h.1
theorem Hs.len(h:Hs W us ts cs):cs.length=ts.length+1:=by
 induction ts generalizing W us cs with
 |nil=>
  cases cs with
  |nil=>exact h.elim
  |cons c cs=>cases cs with
   |nil=>rfl
   |cons c2 cs=>exact h.elim
 |cons t ts ih=>
  cases cs with
  |nil=>exact h.elim
  |cons c cs=>cases cs with
   |nil=>exact h.elim
   |cons c2 cs=>have:=ih h.2.2.2;simp only[eR]at this⊢;omega
theorem Hs.start:Hs [] [] [] [[]]:=⟨rfl,rfl,rfl⟩
theorem Hs.more{W':List (BitVec 64)}{UP:List jD}{nd':List qa}{jF:List Nat}(h:Hs W us ts (cl::cs))(hw:W'=bD nd')(hf:Fo nd' jF)(hs:Gk jF cl)(h1:js W' UP us.length=W)(h2:UP.take us.length=us)(h3:us.length<=UP.length):Hs W' UP (us.length::ts) (jF::cl::cs):=
 ⟨⟨nd',hw,hf⟩,h3,hs,by rw[h1,h2];exact h⟩
theorem Hs.back(h:Hs W us (t::ts) (cl::c2::cs)):Hs (js W us t) (us.take t) ts (c2::cs):=h.2.2.2
theorem Hs.le(h:Hs W us (t::ts) (cl::c2::cs)):t<=us.length:=h.2.1
theorem Hs.cnt(h:Hs W us (t::ts) (cl::c2::cs)):Gk cl c2:=h.2.2.1
end
theorem UQ{W:List (BitVec 64)}{us:List jD}(h:MG W.length us){t:Nat}(ht:t<=us.length):MG (js W us t).length (us.take t):=by
 have key:∀d,∀t,t+d=us.length->MG (js W us t).length (us.take t):=by
  intro d
  induction d with
  |zero=>intro t e;rw[show t=us.length by omega,Dv,EG];exact h
  |succ d ih=>
   intro t e
   have h2:=ih (t+1) J
   have ht:t<us.length:=J
   rw[yO,ep ht]at h2
   rw[MI ht]
   exact ahr h2
 exact key (us.length-t) t J
def Oz(us:List jD)(n:Nat):List jD:=us++[.add n]++[.add (n+1)]++[.add (n+2)]++[.add (n+3)]
theorem amA{W:List (BitVec 64)}{us:List jD}{a b c d:BitVec 64}:js (W++[a]++[b]++[c]++[d]) (Oz us W.length) us.length=W/\(Oz us W.length).take us.length=us/\us.length<=(Oz us W.length).length:=by grind[Oz,E8,Dv,Sm]
theorem amB{W:List (BitVec 64)}{us:List jD}{a b c d:BitVec 64}(h:MG W.length us):MG (W++[a]++[b]++[c]++[d]).length (Oz us W.length):=by
 unfold Oz
 rw[sX];refine⟨aF,?_⟩
 have e1:(W++[a]++[b]++[c]).length=W.length+3:=aF
 have e2:(W++[a]++[b]).length=W.length+2:=aF
 have e3:(W++[a]).length=W.length+1:=aF
 rw[<-e1,sX];refine⟨aF,?_⟩
 rw[<-e2,sX];refine⟨aF,?_⟩
 rw[<-e3,sX];exact⟨aF,h⟩
def fw(cl:List Nat)(i:Int):Int:=if 0<=i/\i<cl.length then(ct cl i.toNat:Int)else-1
def aDM(cs:List (List Nat))(cl:List Nat)(i j:Int):List (List Nat)×Bool:=
 if fw cl i<0\/fw cl j<0\/fw cl i=fw cl j then(cl::cs,false)else(iy cl (fw cl i).toNat (fw cl j).toNat::cl::cs,true)
theorem mG{cl:List Nat}{i:Int}(h:0<=i/\i<cl.length):fw cl i=(ct cl i.toNat:Int):=aS h
theorem Iy{cl:List Nat}{i:Int}(h:¬(0<=i/\i<cl.length)):fw cl i= -1:=aR h
theorem Sn{nd:List qa}{cl:List Nat}(h:Fo nd cl){i k:Nat}(hi:i<nd.length)(hc:ct cl i=ct cl k):r6 nd i<nd.length/\ct cl (r6 nd i)=ct cl k/\(r6 nd i≠i->nd.length-kA nd (r6 nd i)<nd.length-kA nd i):=by grind[qa,Fo,ct,r6,kA]
theorem PW{nd:List qa}{cl:List Nat}(h:Fo nd cl){i j a b:Nat}(ha:a<nd.length)(hb:b<nd.length)(ua:r6 nd a=a)(ub:r6 nd b=b)(ca:ct cl a=ct cl i)(cb:ct cl b=ct cl j):a=b↔ct cl i=ct cl j:=by grind[qa,Fo,r6,ct]
def zI(cl:List Nat)(i:Nat):List Nat:=(List.range cl.length).filter fun k=>ct cl i==ct cl k
theorem PX{cl:List Nat}{i k:Nat}:k∈zI cl i↔k<cl.length/\ct cl k=ct cl i:=by grind[zI]
theorem adB{l m:List Int}(hl:l.Pairwise (· <·))(hm:m.Pairwise (· <·))(h:∀x,x∈l↔x∈m):l=m:=by
 induction l generalizing m with
 |nil=>cases m with
  |nil=>rfl
  |cons b m=>have:=(h b).2 aF;cases this
 |cons a l ih=>
  cases m with
  |nil=>have:=(h a).1 aF;cases this
  |cons b m=>
   have pa:=lA.1 hl;have pb:=lA.1 hm
   have hab:a=b:=by
    rcases cQ.1 ((h a).1 aF)with q|q
    .exact q
    rcases cQ.1 ((h b).2 aF)with r|r
    .exact r.symm
    have:=pb.1 a q;have:=pa.1 b r;omega
   subst hab
   congr 1
   refine ih pa.2 pb.2 fun x=> ?_
   have:=h x
   simp only[cQ]at this
   constructor
   .intro q
    rcases this.1 (.inr q)with r|r
    .have:=pa.1 x q;omega
    exact r
   intro q
   rcases this.2 (.inr q)with r|r
   .have:=pb.1 x q;omega
   exact r
theorem Sp{nd:List qa}{cl:List Nat}(h:Fo nd cl){i:Nat}(hi:i<nd.length){t:List Nat}(ht:Ring (sW nd) i t)(hm:∀k,k∈i::t↔k<nd.length/\ct cl k=ct cl i){zs:List Int}(hp:zs.Perm ((i::t).map Int.ofNat))(hs:zs.Pairwise (· <=·)):zs=(zI cl i).map Int.ofNat:=by
 have hn:((i::t).map Int.ofNat).Nodup:=by
  unfold List.Nodup
  rw[Hv]
  exact ht.2.imp fun q e=>q (by exact Int.ofNat.inj e)
 refine adB ?_ ?_ fun x=> ?_
 .have hz:zs.Nodup:=hp.nodup_iff.2 hn
  have:=List.Pairwise.and hs hz
  exact this.imp fun q=>by omega
 .unfold zI
  rw[Hv]
  exact(Xd.filter _).imp fun q=>by simpa using q
 rw[hp.mem_iff,fX,fX]
 constructor
 .rintro⟨k,hk,rfl⟩;exact⟨k,PX.2 (by rw[h.len];exact(hm k).1 hk),rfl⟩
 rintro⟨k,hk,rfl⟩;exact⟨k,(hm k).2 (by rw[<-h.len];exact PX.1 hk),rfl⟩
structure l7(W:List (BitVec 64))(us:List jD)(W':List (BitVec 64))(UP:List jD):Prop where
 le:us.length<=UP.length
 und:∀t,t<=us.length->js W' UP t=js W us t/\UP.take t=us.take t
 ok:MG W.length us->MG W'.length UP
section
variable{W W' W2:List (BitVec 64)}{us UP us2:List jD}{i:Nat}{b:BitVec 64}
theorem l7.refl:l7 W us W us:=by grind[l7]
theorem l7.trans(h:l7 W us W' UP)(h2:l7 W' UP W2 us2):l7 W us W2 us2:=
 ⟨kM h.le h2.le,fun t ht=>by
  have a:=h.und t ht;have c:=h2.und t (kM ht h.le)
  exact⟨c.1.trans a.1,c.2.trans a.2⟩,fun q=>h2.ok (h.ok q)⟩
theorem l7.set(hi:i<W.length):l7 W us (W.set i b) (Iw W us i b):=by grind[l7,Iw,ahs,amz]
theorem l7.add:l7 W us (W++[b]) (us++[.add W.length]):=
 ⟨aF,fun t ht=>⟨by rw[E8 ht];show js ((W++[b]).take W.length) us t=_;rw[uH],MH ht⟩,fun h=>by rw[sX];exact⟨aF,h⟩⟩
theorem l7.back(h:l7 W us W' UP):js W' UP us.length=W/\UP.take us.length=us:=by grind[l7,js,Dv]
end
def ko(nd:List qa)(i x:Nat):List qa:=nd.set i {nd.getD i E7 with up:=x}
def m4(nd:List qa)(i x:Nat):List qa:=nd.set i {nd.getD i E7 with size:=x}
def vc(nd:List qa)(i x:Nat):List qa:=nd.set i {nd.getD i E7 with next:=x}
def rh(nd:List qa)(i x:Nat):List qa:=nd.set i {nd.getD i E7 with least:=x}
section
variable{nd:List qa}{cl:List Nat}{i x a b:Nat}
theorem awM(h:i<nd.length):(bD nd).set (4*i+0) (BitVec.ofNat 64 x)=bD (ko nd i x):=zH nd h J O
theorem awN(h:i<nd.length):(bD nd).set (4*i+1) (BitVec.ofNat 64 x)=bD (m4 nd i x):=zH nd h J O
theorem awO(h:i<nd.length):(bD nd).set (4*i+2) (BitVec.ofNat 64 x)=bD (vc nd i x):=zH nd h J O
theorem awP(h:i<nd.length):(bD nd).set (4*i+3) (BitVec.ofNat 64 x)=bD (rh nd i x):=zH nd h J O
theorem awQ(h:i<nd.length):(bD nd).getD (4*i+0) 0=BitVec.ofNat 64 (r6 nd i):=zG nd h J
theorem awR(h:i<nd.length):(bD nd).getD (4*i+1) 0=BitVec.ofNat 64 (kA nd i):=zG nd h J
theorem ao0(h:i<nd.length):(bD nd).getD (4*i+2) 0=BitVec.ofNat 64 (sW nd i):=zG nd h J
theorem ao1(h:i<nd.length):(bD nd).getD (4*i+3) 0=BitVec.ofNat 64 (qq nd i):=zG nd h J
theorem PY{n:Nat}(h:n<9223372036854775808):(BitVec.ofNat 64 n).toInt=(n:Int):=by grind[BitVec.toInt_eq_toNat_cond,BitVec.toNat_ofNat,Nat.mod_eq_of_lt]
theorem Dw(n:Nat):BitVec.ofInt 64 (n:Int)=BitVec.ofNat 64 n:=aF
theorem arP{l m:List qa}(hl:l.length=m.length)(h:∀i,i<l.length->l.getD i E7=m.getD i E7):l=m:=by grind[List.ext_getElem,List.getElem?_eq_getElem]
theorem ahv(ha:a<nd.length)(hb:b<nd.length)(hab:a≠b):vc (vc (rh (m4 (ko nd b a) a (kA nd a+kA nd b)) a (min (qq nd a) (qq nd b))) a (sW nd b)) b (sW nd a)=o8 nd a b:=by
 have hba:¬b=a:=fun e=>hab e.symm
 refine arP (by simp[vc,rh,m4,ko,o8]) fun i hi=> ?_
 have hi':i<nd.length:=by simpa[vc,rh,m4,ko]using hi
 unfold vc rh m4 ko o8
 simp only[kQ,m9,ha,hb,and_true]
 by_cases h1:i=a
 .subst h1;simp[hab,r6]
 by_cases h2:i=b
 .subst h2;simp[h1,hba,kA,qq]
 simp[h1,h2]
theorem YV(cl:List Nat)(x y:Nat):iy cl x y=iy cl y x:=by grind[iy,List.map_congr_left,Iv]
theorem Fo.szb(h:Fo nd cl)(hi:i<nd.length):r6 nd i<nd.length/\kA nd i<=nd.length/\∃t,Ring (sW nd) i t/\sW nd i<nd.length:=by
 refine⟨h.up i hi,h.sn i hi,?_⟩
 obtain⟨t,ht,hm⟩:=h.ring i hi
 refine⟨t,ht,?_⟩
 have h1:=ht.1
 cases t with
 |nil=>have:sW nd i=i:=h1;omega
 |cons z t=>have:sW nd i=z:=h1.1;rw[this];exact((hm z).1 aF).1
theorem Fo.amC(h:Fo nd cl):∀d i,i<nd.length->nd.length-kA nd i<=d->∃r,r<nd.length/\r6 nd r=r/\ct cl r=ct cl i:=by
 intro d
 induction d with
 |zero=>
  intro i hi hd
  refine⟨i,hi,KY fun q=> ?_,rfl⟩
  have:=h.sz i hi q;have:=h.sn _ (h.up i hi);omega
 |succ d ih=>
  intro i hi hd
  by_cases q:r6 nd i=i
  .exact⟨i,hi,q,rfl⟩
  have h1:=h.sz i hi q;have h2:=h.sn _ (h.up i hi)
  obtain⟨r,r1,r2,r3⟩:=ih (r6 nd i) (h.up i hi) J
  exact⟨r,r1,r2,r3.trans (h.uc i hi)⟩
open Classical in
noncomputable def oJ(nd:List qa)(cl:List Nat)(i:Nat):Nat:=if h:∃r,r<nd.length/\r6 nd r=r/\ct cl r=ct cl i then h.choose else 0
theorem o6(h:Fo nd cl)(hi:i<nd.length):oJ nd cl i<nd.length/\r6 nd (oJ nd cl i)=oJ nd cl i/\ct cl (oJ nd cl i)=ct cl i:=by
 have he:=h.amC _ i hi (er _)
 rw[oJ,dif_pos he];exact he.choose_spec
theorem ahw(h:Fo nd cl)(hi:i<nd.length){r:Nat}(h1:r<nd.length)(h2:r6 nd r=r)(h3:ct cl r=ct cl i):r=oJ nd cl i:=by
 obtain⟨a,b,c⟩:=o6 h hi
 exact h.one _ _ h1 a h2 b (h3.trans c.symm)
theorem amD(h:Fo nd cl){j:Int}(h0:0<=j)(h1:j<nd.length):(qq nd (oJ nd cl j.toNat):Int)=fw cl j:=by grind[Fo,qq,oJ,fw,o6,mG]
theorem adC(h:Fo nd cl){j:Int}(h0:¬(0<=j/\j<nd.length)):(-1:Int)=fw cl j:=by grind[Fo,fw,Iy]
theorem Sq(h:Fo nd cl)(hn:nd.length<=1000000){j:Nat}(hj:j<nd.length)(k:Int)(v:Nat)(hk:0<=k/\k<4)(hv:(bD nd).getD (4*j+k.toNat) 0=BitVec.ofNat 64 v)(hs:v<=nd.length):((bD nd).getD (4*(j:Int)+k).toNat 0).toInt=(v:Int):=by grind[PY]
theorem amE(h:Fo nd cl)(hn:nd.length<=1000000){j:Nat}(hj:j<nd.length):((bD nd).getD (4*(j:Int)+0).toNat 0).toInt=(r6 nd j:Int):=
 Sq h hn hj 0 _ ⟨J,J⟩ (awQ hj) (by have:=h.up j hj;omega)
theorem aa6(h:Fo nd cl)(hn:nd.length<=1000000){j:Nat}(hj:j<nd.length):((bD nd).getD (4*(j:Int)+2).toNat 0).toInt=(sW nd j:Int):=
 Sq h hn hj 2 _ ⟨J,J⟩ (ao0 hj) (by obtain⟨_,_,t,_,q⟩:=h.szb hj;omega)
theorem amF(h:Fo nd cl)(hn:nd.length<=1000000){j:Nat}(hj:j<nd.length)(hu:r6 nd j=j):((bD nd).getD (4*(j:Int)+3).toNat 0).toInt=(qq nd j:Int):=
 Sq h hn hj 3 _ ⟨J,J⟩ (ao1 hj) (by rw[h.le j hj hu];have:=(h.lc j hj).1;omega)
theorem adD(h:Fo nd cl)(hn:nd.length<=1000000){j:Int}(h0:0<=j/\j<nd.length):((bD nd).getD (4*((oJ nd cl j.toNat:Nat):Int)+3).toNat 0).toInt=fw cl j:=by grind[o6,amF,amD]
theorem UR{n:Nat}{l:List Nat}(hd:l.Nodup)(h:∀k∈l,k<n):l.length<=n:=by
 have:=KH hd (m:=List.range n) fun x hx=>pX.2 (h x hx)
 rwa[Q8]at this
theorem zJ{t o m:List Nat}{i:Int}{a:Nat}(ht:Ring (sW nd) i.toNat t)(hmt:∀k,k∈i.toNat::t↔k<nd.length/\ct cl k=ct cl i.toNat)(he:i.toNat::t=o++a::m)(hne:sW nd a≠i.toNat):
 i.toNat::t=(o++[a])++sW nd a::m.tail/\sW nd a<nd.length/\(o++[a]).length+1<=(i.toNat::t).length/\m.tail.length<m.length:=by grind[Ix,sW]
def bJ(cl:List Nat)(i:Int):List Int:=if 0<=i/\i<cl.length then(zI cl i.toNat).map Int.ofNat else[]
theorem PZ(h:Fo nd cl){i:Int}(hi:¬(0<=i/\i<nd.length)):bJ cl i=[]:=by grind[Fo,bJ]
theorem MK(h:Fo nd cl){i:Int}(hi:0<=i/\i<nd.length){t o m:List Nat}{a:Nat}(ht:Ring (sW nd) i.toNat t)(hmt:∀k,k∈i.toNat::t↔k<nd.length/\ct cl k=ct cl i.toNat)(he:i.toNat::t=o++a::m)(hx:sW nd a=i.toNat):
  (((o++[a]).map Int.ofNat).mergeSort fun x y=>decide (x<=y))=bJ cl i:=by
 have hm:m=[]:=by
  rcases Ix ht he with⟨q,_⟩|⟨z,m',_,q,q2⟩
  .exact q
  exact absurd (q.symm.trans hx) q2
 subst hm
 rw[bJ,aS (by have:=h.len;omega)]
 refine Sp h J ht hmt ?_ ?_
 .rw[he];exact List.mergeSort_perm _ _
 have:=List.pairwise_mergeSort (le:=fun x y:Int=>decide (x<=y)) (fun a b c h1 h2=>by simp at*;omega) (fun a b=>by simp;omega) ((o++[a]).map Int.ofNat)
 exact this.imp fun q=>by simpa using q
end
theorem US{nd:List qa}{i x j:Nat}:kA (ko nd i x) j=kA nd j:=by grind[kA,ko,kQ]
theorem UU{nd:List qa}{i x j:Nat}:sW (ko nd i x) j=sW nd j:=by grind[sW,ko,kQ]
theorem UW{nd:List qa}{i x j:Nat}:qq (ko nd i x) j=qq nd j:=by grind[qq,ko,kQ]
theorem UX{nd:List qa}{i x j:Nat}:sW (m4 nd i x) j=sW nd j:=by grind[sW,m4,kQ]
theorem UY{nd:List qa}{i x j:Nat}:qq (m4 nd i x) j=qq nd j:=by grind[qq,m4,kQ]
theorem UZ{nd:List qa}{i x j:Nat}:sW (rh nd i x) j=sW nd j:=by grind[sW,rh,kQ]
theorem Sr{nd:List qa}{j:Nat}{k:Int}{v:Nat}(hk:0<=k/\k<4)(hv:(bD nd).getD (4*j+k.toNat) 0=BitVec.ofNat 64 v)(hs:v<=1000000):((bD nd).getD (4*(j:Int)+k).toNat 0).toInt=(v:Int):=by grind[PY]
theorem ahy{nd:List qa}{i x:Nat}(h:i<nd.length):(bD nd).set (4*(i:Int)+0).toNat (BitVec.ofInt 64 (x:Int))=bD (ko nd i x):=by
 rw[show(4*(i:Int)+0).toNat=4*i+0 by omega,Dw];exact awM h
theorem ahz{nd:List qa}{i x:Nat}(h:i<nd.length):(bD nd).set (4*(i:Int)+1).toNat (BitVec.ofInt 64 (x:Int))=bD (m4 nd i x):=by
 rw[show(4*(i:Int)+1).toNat=4*i+1 by omega,Dw];exact awN h
theorem Ss{nd:List qa}{i x:Nat}(h:i<nd.length):(bD nd).set (4*(i:Int)+2).toNat (BitVec.ofInt 64 (x:Int))=bD (vc nd i x):=by
 rw[show(4*(i:Int)+2).toNat=4*i+2 by omega,Dw];exact awO h
theorem ahA{nd:List qa}{i x:Nat}(h:i<nd.length):(bD nd).set (4*(i:Int)+3).toNat (BitVec.ofInt 64 (x:Int))=bD (rh nd i x):=by
 rw[show(4*(i:Int)+3).toNat=4*i+3 by omega,Dw];exact awP h
end
end Go.Proofs.YtlhjdflgjbkpmaaGreatDoor.M
namespace Go.Proofs.YtlhjdflgjbkpmaaGreatDoor.E
section
open Go Go.RowKit Go.Proofs.YtlhjdflgjbkpmaaGreatDoor.M
def U0(c:Option (Nat×Array Value))(v:Value)(e:TypeId)(sz n:Nat)(xs:List Value):a7:=
 match c with
 |none=> .row v e sz n xs
 |some (b,cur)=> .blk b (.cells cur e (0,0))
def cOk(c:Option (Nat×Array Value))(v:Value)(sz n:Nat)(xs:List Value):Prop:=
 match c with
 |none=>True
 |some (b,cur)=>v= .slice (some ⟨b,0,none⟩) n n/\xs.length=n*sz/\cur.toList.take (n*sz)=xs/\n<=maxLen
section
variable{w0 w:World}{L:List a7}{c:Option (Nat×Array Value)}{v:Value}{e:TypeId}{sz n m i:Nat}{xs:List Value}
theorem Hp.wL{x x':a7}(h:Hp w0 w L)(hi:L[i]?=some x)(hf:x'.rO=x.rO)(hok:x'.ok w0.heap.size w):Hp w0 w (L.set i x'):=
 ⟨h.below,fun y hy=>(List.mem_or_eq_of_mem_set hy).elim (h.ok y) fun q=>q▸hok,B0 hi hf h.LC⟩
theorem Hp.slC(h:Hp w0 w L)(hi:L[i]?=some (U0 c v e sz n xs))(hk:cOk c v sz n xs):Sl w v sz n xs:=by
 cases c with
 |none=>exact h.sl hi
 |some bc=>
  obtain⟨b,cur⟩:=bc
  obtain⟨rfl,h2,h3,h4⟩:=hk
  refine⟨⟨_,n,rfl,er _,fun _=>rfl⟩,h2,fun j u hu=> ?_,h4⟩
  simp only[sb,so,ia]
  rw[xf w _ _ cur e (0,0) (h.blk hi)]
  rw[<-h3,uF]at hu
  split at hu
  .simpa using hu
  .cases hu
theorem Hp.aDO(h:Hp w0 w L)(hi:L[i]?=some (U0 c v e sz n xs))(hk:cOk c v sz n xs)(hm:m<=n):∃c',cOk c' (sV v m) sz m (xs.take (m*sz))/\Hp w0 w (L.set i (U0 c' (sV v m) e sz m (xs.take (m*sz)))):=by
 have hle:m*sz<=n*sz:=ry _ hm
 cases c with
 |none=>
  have hr:w.ownsRow w0.heap.size e sz v n xs:=h.get hi
  obtain⟨h1,h2⟩:=hr
  rcases h2 with⟨rfl,rfl⟩|⟨gb,cap,cur,rfl,hb,hg,hn,hc,hs,ht⟩
  .have:m=0:=J
   subst this
   refine⟨none,trivial,h.wL hi O ?_⟩
   exact⟨aF,.inl ⟨rfl,rfl⟩⟩
  refine⟨some (gb,cur),⟨rfl,?_,?_,J⟩,h.wL hi O ⟨hb,hg⟩⟩
  .rw[eP,h1];omega
  rw[<-ht,BG];congr 1;omega
 |some bc=>
  obtain⟨b,cur⟩:=bc
  obtain⟨rfl,h2,h3,h4⟩:=hk
  refine⟨some (b,cur),⟨rfl,?_,?_,J⟩,h.wL hi O (h.get hi)⟩
  .rw[eP,h2];omega
  rw[<-h3,BG];congr 1;omega
variable{P:Program}{σ:Env}{ty t:TypeId}{pos:String}{bK:Array Edge}{dst:Option Tmp}{g:Option (Nat×Bool)}{x y:Operand}{u:Value}{o:Nat}
theorem amG(h:Hp w0 w L)(hi:L[i]?=some (U0 c v e sz n xs))(hk:cOk c v sz n xs)(hn:0<n)(hx:ev σ x= .pointer (some ⟨sb v,so v+o,none⟩))(hy:ev σ y=u)(hv:u.cells=#[u])(h1:u.oneCell'=true)(hs:(P.info? t).map (·.size)=some 1)(ho:o+1<=n*sz):
  ∃c' w',(execOp (ev σ) ⟨dst,.store t x y,ty,pos,bK,g⟩).run P w= .ok .skip w'/\cOk c' v sz n (rX xs o [u])/\Hp w0 w' (L.set i (U0 c' v e sz n (rX xs o [u]))):=by
 cases c with
 |none=>
  obtain⟨w',hr,h2⟩:=Gi (dst:=dst) (ty:=ty) (pos:=pos) (bK:=bK) (g:=g) h hi hn hx hy hv h1 hs ho
  exact⟨none,w',hr,trivial,h2⟩
 |some bc=>
  obtain⟨b,cur⟩:=bc
  obtain⟨rfl,h2,h3,h4⟩:=hk
  have hl:n*sz<=cur.size:=by
   have:=aJ List.length h3
   rw[eP,h2,Ey]at this;omega
  have hx':ev σ x= .pointer (some ⟨b,o,none⟩):=by rw[hx];simp only[sb,so,ia]
  have hr:=bQ (P:=P) (dst:=dst) (ty:=ty) (pos:=pos) (bK:=bK) (g:=g) hs hx' hy hv h1 (h.blk hi) J
  have e1:(cur.setIfInBounds o u).toList=cur.toList.take o++[u]++cur.toList.drop (o+1):=by
   simp[W5,show o<cur.size by omega]
  refine⟨some (b,cur.setIfInBounds o u),_,hr,⟨rfl,?_,?_,h4⟩,h.set hi⟩
  .rw[rX];simp only[cZ,eP,xS,gN,h2];omega
  rw[e1,show cur.toList.take o++[u]++cur.toList.drop (o+1)=cur.toList.take o++[u]++cur.toList.drop (o+[u].length)from O,Gg (by simpa using ho) RI,h3]
theorem U1{ie:TypeInfo}{z:Value}{size bytes:Nat}{m':Nat}{news:List Value}{ats:TypeId}(h:Hp w0 w L)(hi:L[i]?=some (U0 c v e size n xs))(hk:cOk c v size n xs)(hS:Sl w u size m' news)
  (hx:ev σ x=v) (hy:ev σ y=u) (ht:P.underlying t=some (.slice e)) (hie:P.info? e=some ie) (hz:ie.zero=some z)
  (hsize:ie.size=size) (hby:ie.bytes=bytes) (hzs:z.cells.size=size) (hsz:0<size) (h1:∀u∈news,u.oneCell'=true) (hm:0<m')
  (hbytes:(n+m')*bytes<=140737488355328) (h63:n+m'<=maxLen):
  ∃v' w',(execOp (ev σ) ⟨dst,.call {callee:= .builtin .append,args:=#[x,y],argTypes:=#[t,t]},ty,pos,bK,g⟩).run P w= .ok (.value v') w'/\Hp w0 w' (L.set i (.row v' e size (n+m') (xs++news))):=by
 cases c with
 |none=>
  obtain⟨v',w',hr,h2,h3,h4⟩:=sF (P:=P) (ty:=ty) ht hie hz hsize hby hzs hsz (h.get hi) hS h1 h63 hbytes h.size
  exact⟨v',w',sB hx hy hr,h.xW hi h2 h3 h4⟩
 |some bc=>
  have hX:=h.slC hi hk
  have hsh:∃a,v= .slice a n n:=by
   obtain⟨b,cur⟩:=bc
   exact⟨_,hk.1⟩
  obtain⟨v',w',hr,h2,h3⟩:=ME (P:=P) (base:=0) (ty:=ty) ht hie hz hsize hby hzs hsh hX hS hm h63 hbytes
  exact⟨v',w',sB hx hy hr,(h.C8 h3 h2).swap (m8.1 hi).1⟩
end
section
variable{P:Program}{σ:Env}{w:World}{t te ty u:TypeId}{pos:String}{bK:Array Edge}{dst:Option Tmp}{g:Option (Nat×Bool)}{x y:Operand}{a:Addr}
theorem Fa(d:Nat)(ht:P.underlying t=some (.pointer te)):(Op.equalIn (d+1) t (.pointer (some a)) (.pointer none)).run P w= .ok false w:=by
 simp[Op.equalIn,kr ht]
theorem YW(d:Nat)(ht:P.underlying t=some (.pointer te)):(Op.equalIn (d+1) t (.pointer none) (.pointer none)).run P w= .ok true w:=by
 simp[Op.equalIn,kr ht]
theorem kJ(ht:P.underlying t=some (.pointer te))(hx:ev σ x= .pointer (some a))(hy:ev σ y= .pointer none):
  (execOp (ev σ) ⟨dst,.binOp .eql t x y u,ty,pos,bK,g⟩).run P w= .ok (.value (.bool false)) w:=by
 have h:(binOp .eql t (.pointer (some a)) (.pointer none)).run P w= .ok (.bool false) w:=by
  simp only[binOp];simp[Op.equal,Op.maxDepth,Fa 9999 ht]
 have he:(eqGuard .eql t x y (.pointer (some a)) (.pointer none))=pure ():=rfl
 simp only[execOp,hx,hy,he];simp[h]
end
theorem Sl.atU{w:World}{v:Value}{W:List (BitVec 64)}(h:Sl w v 1 W.length (W.map U)){i:Int}(h0:0<=i)(h1:i<W.length):w.cell? ⟨sb v,so v+i.toNat*1,none⟩=some (U (W.getD i.toNat 0)):=by
 refine h.cell _ _ ?_
 rw[lE,pW,ep J,eS,ep J];rfl
def cE(c:Option (Nat×Array Value))(v:Value)(e:TypeId)(xs:List Value):a7:=U0 c v e 1 xs.length xs
def cO(c:Option (Nat×Array Value))(v:Value)(xs:List Value):Prop:=cOk c v 1 xs.length xs
section
variable{P:Program}{n:Nat}{k:K}{l:List Oper}{σ:Env}{w0 w:World}{L L':List a7}{ty t e:TypeId}{pos:String}{bK:Array Edge}{d:Nat}{x y:Operand}{g:Option (Nat×Bool)}{v u:Value}{c:Option (Nat×Array Value)}{xs:List Value}{i m fuel j:Nat}{listed:Array Bool}{W:List (BitVec 64)}{y0:Value}
theorem Hp.A6(h:Hp w0 w L)(hi:L[i]?=some (cE c v e xs))(hk:cO c v xs):Sl w v 1 xs.length xs:=h.slC hi hk
theorem Gl{o:Nat}{b:BitVec 64}:(W.map U).set o (U b)=(W.set o b).map U:=List.map_set.symm
theorem Hp.ahB{b:Nat}{o:Obj}(h:Hp w0 w L)(hm:a7.blk b o∈L):w.heap[b]?=some o:=(h.ok _ hm).2
theorem Hp.oR{b off:Nat}{cs:Array Value}{te:TypeId}{fr:Nat×Nat}(h:Hp w0 w L)(hm:a7.blk b (.cells cs te fr)∈L)(hc:cs[off]?=some v):w.cell? ⟨b,off,none⟩=some v:=by
 rw[xf w b off cs te fr (h.ahB hm)];exact hc
theorem Hp.ye(h:Hp w0 w L)(hi:L[i]?=some (cE c v e (W.map U)))(hk:cO c v (W.map U)):Sl w v 1 W.length (W.map U):=by
 have:=h.A6 hi hk
 rwa[gB]at this
theorem Hp.arR(h:Hp w0 w L)(hi:L[i]?=some (cE c v e xs))(hk:cO c v xs)(hm:m<=xs.length):∃c',cO c' (sV v m) (xs.take m)/\Hp w0 w (L.set i (cE c' (sV v m) e (xs.take m))):=by
 obtain⟨c',h1,h2⟩:=h.aDO hi hk hm
 have e:(xs.take m).length=m:=by rw[eP];omega
 rw[lE]at h1 h2
 exact⟨c',by unfold cO;rw[e];exact h1,by unfold cE;rw[e];exact h2⟩
theorem Ci{o:Nat}(ho:o<xs.length):rX xs o [u]=xs.set o u:=by grind[rX,List.set_eq_take_append_cons_drop]
theorem ahC(hj:l[j]?=some ⟨none,.store t x y,ty,pos,bK,g⟩)(hg:∀a,Is n σ a->Region.wanted ⟨none,.store t x y,ty,pos,bK,g⟩ (yielded l.toArray a.tmps)=true)(hH:Hp w0 w L)(hi:L[i]?=some (cE c v e xs))(hk:cO c v xs)(hsub:∀c' ys,L'.Sublist (L.set i (cE c' v e ys))){o:Nat}(ho:o<xs.length)
  (hx:ev σ x= .pointer (some ⟨sb v,so v+o*1,none⟩)) (hy:ev σ y=u) (hv:u.cells=#[u]) (h1:u.oneCell'=true) (hs:(P.info? t).map (·.size)=some 1)
  (hn:∀c' w',cO c' v (xs.set o u)->Hp w0 w' (L.set i (cE c' v e (xs.set o u)))->AN P n l (fun w=>Hp w0 w L') k fuel (listed.setIfInBounds j true) σ w'):AO P n l (fun w=>Hp w0 w L') k fuel listed σ w j:=by
 obtain⟨c',w',hr,h2,h3⟩:=amG (dst:=none) (ty:=ty) (pos:=pos) (bK:=bK) (g:=g) hH hi hk J (o:=o) (by rw[hx,lE]) hy hv h1 hs J
 rw[Ci ho]at h2 h3
 have e1:(xs.set o u).length=xs.length:=m9
 refine LD hj hg hr ((show Hp w0 w' (L.set i (cE c' v e (xs.set o u)))by unfold cE;rw[e1];exact h3).sub (hsub _ _)) (hn c' w' (by unfold cO;rw[e1];exact h2) (by unfold cE;rw[e1];exact h3))
theorem Cj{ie:TypeInfo}{z:Value}{bytes:Nat}(hi:l[j]?=some ⟨some d,.call {callee:= .builtin .append,args:=#[x,y],argTypes:=#[t,t]},ty,pos,bK,g⟩)
  (hg:∀a,Is n σ a->Region.wanted ⟨some d,.call {callee:= .builtin .append,args:=#[x,y],argTypes:=#[t,t]},ty,pos,bK,g⟩ (yielded l.toArray a.tmps)=true) (hd:Nat.blt d n=true) (hH:Hp w0 w L) (hL:L[i]?=some (cE c v e xs)) (hk:cO c v xs)
  (hs:∀v' ys,L'.Sublist (L.set i (cE none v' e ys))) (hS:Sl w u 1 1 [y0])
  (hx:ev σ x=v) (hy:ev σ y=u) (ht:P.underlying t=some (.slice e)) (hie:P.info? e=some ie) (hz:ie.zero=some z)
  (hsize:ie.size=1) (hby:ie.bytes=bytes) (hzs:z.cells.size=1) (h1:y0.oneCell'=true)
  (hbytes:(xs.length+1)*bytes<=140737488355328) (h63:xs.length+1<=maxLen)
  (hn:∀v' w',Hp w0 w' (L.set i (cE none v' e (xs++[y0])))->AN P n l (fun w=>Hp w0 w L') k fuel (listed.setIfInBounds j true) (lG σ d v') w'):AO P n l (fun w=>Hp w0 w L') k fuel listed σ w j:=by
 obtain⟨v',w',hr,h2⟩:=U1 (P:=P) (ty:=ty) (dst:=some d) (pos:=pos) (bK:=bK) (g:=g) (ats:=t) hH hL hk hS hx hy ht hie hz hsize hby hzs J (fun u hu=>by rw[dY.1 hu];exact h1) J hbytes h63
 have h3:Hp w0 w' (L.set i (cE none v' e (xs++[y0]))):=by unfold cE;rw[cZ,gN];exact h2
 exact B4 hi hg hd hr (h3.sub (hs _ _)) (hn v' w' h3)
end
theorem P0{W:List (BitVec 64)}{b:BitVec 64}:W.map U++[U b]=(W++[b]).map U:=aF
theorem uC{ul:List (Value×jD)}{x:Value}(u:jD):ul.map Prod.fst++[x]=(ul++[(x,u)]).map Prod.fst:=aF
structure UT where
 fA:FuncId
 fS:FuncId
 tc:TypeId
 ti:TypeId
 tu:TypeId
 o:Nat
def o9(T:UT)(F:Nat)(L:List a7)(x:Value×jD):Prop:=
 match x.2 with
 | .add n=>∃b1 b2,x.1= .func (.func T.fA) #[] #[.pointer (some ⟨b1,0,none⟩),.pointer (some ⟨b2,0,none⟩)]/\a7.blk b1 (.cells #[.pointer (some ⟨F,T.o,none⟩)] T.tc (0,0))∈L/\a7.blk b2 (.cells #[I n] T.ti (0,0))∈L
 | .set i b=>∃b1 b2 b3,x.1= .func (.func T.fS) #[] #[.pointer (some ⟨b1,0,none⟩),.pointer (some ⟨b2,0,none⟩),.pointer (some ⟨b3,0,none⟩)]/\a7.blk b1 (.cells #[U b] T.tu (0,0))∈L/\a7.blk b2 (.cells #[.pointer (some ⟨F,T.o,none⟩)] T.tc (0,0))∈L/\a7.blk b3 (.cells #[I i] T.ti (0,0))∈L
theorem o9.mono{T:UT}{F:Nat}{L L':List a7}{x:Value×jD}(h:o9 T F L x)(hs:∀e∈L,e∈L'):o9 T F L' x:=by
 obtain⟨v,u⟩:=x
 cases u with
 |add n=>obtain⟨b1,b2,h1,h2,h3⟩:=h;exact⟨b1,b2,h1,hs _ h2,hs _ h3⟩
 |set i b=>obtain⟨b1,b2,b3,h1,h2,h3,h4⟩:=h;exact⟨b1,b2,b3,h1,hs _ h2,hs _ h3,hs _ h4⟩
theorem amH{ul:List (Value×jD)}{j k:Int}(h0:0<=j/\j<k)(h1:k<=ul.length):((ul.take k.toNat).map Prod.fst)[j.toNat*1]?=some ((ul.getD j.toNat (.tuple #[],.add 0)).1):=by grind
theorem ahD{ul:List (Value×jD)}{k:Int}(h0:0<k)(h1:(k-1).toNat<ul.length):(ul.getD (k-1).toNat (.tuple #[],.add 0)).1=(ul[(k-1).toNat]).1:=by
 rw[eS,ep h1];rfl
theorem arS{W:List (BitVec 64)}{ul:List (Value×jD)}{k:Int}(h0:0<k)(h1:(k-1).toNat<ul.length):Sm (js W (ul.map Prod.snd) k.toNat) (ul[(k-1).toNat]).2=js W (ul.map Prod.snd) (k-1).toNat:=by
 rw[MI (W:=W) (us:=ul.map Prod.snd) (k:=(k-1).toNat) ES,List.getElem_map,show(k-1).toNat+1=k.toNat by omega]
theorem arT{W:List (BitVec 64)}{ul:List (Value×jD)}{k:Int}(h:MG W.length (ul.map Prod.snd))(h1:(k-1).toNat<ul.length)(h0:0<k):match(ul[(k-1).toNat]).2 with| .add n=>n<=(js W (ul.map Prod.snd) k.toNat).length| .set i _=>i<(js W (ul.map Prod.snd) k.toNat).length:=by
 have h2:=UQ h (t:=k.toNat) (by rw[gB];omega)
 have e:(ul.map Prod.snd).take k.toNat=(ul.map Prod.snd).take (k-1).toNat++[(ul[(k-1).toNat]).2]:=by
  rw[show k.toNat=(k-1).toNat+1 by omega,yO,pW,ep h1];rfl
 rw[e,sX]at h2
 generalize(ul[(k-1).toNat]).2=u at h2⊢
 cases u with
 |add n=>exact h2.1
 |set i b=>exact h2.1
section
variable{P:Program}{n:Nat}{k:K}{xs:List (Nat×K)}{r:K}{σ:Env}{w:World}
theorem YX{c:Code}(h:CW P n c k xs r σ w):CW P n (.scope c) k xs r σ w:=fun a ha=>wp_scope_straight (yT (fun e a' w' hq=>by cases e<;>exact hq) (h a ha))
theorem YY{l:Nat}(h:k σ w):CW P n (.label l) k xs r σ w:=fun a ha=>wp_label ⟨σ,ha,h⟩
end
theorem Hp.mh{w0 w:World}{A R B L:List a7}(h:Hp w0 w (A++(B++(R++L)))):Hp w0 w (A++(R++(B++L))):=by
 refine h.perm (uE A ?_)
 rw[<-dG,<-dG]
 exact List.Perm.append_right L xR
def arU(n:Nat)(k:Int):Int:=if k=1 then 1 else n
theorem YZ{n:Nat}{k:Int}(h0:0<=k)(h1:k<4):([I n,I 1,I n,I n]:List Value)[k.toNat*1]?=some (I (arU n k)):=by
 rcases(by omega:k=0\/k=1\/k=2\/k=3)with rfl|rfl|rfl|rfl<;>rfl
theorem Ki{n:Nat}{k:Int}(h0:0<=k)(h1:k<4):(FH (rf n)).take (k+1).toNat=(FH (rf n)).take k.toNat++[BitVec.ofInt 64 (arU n k)]:=by
 rcases(by omega:k=0\/k=1\/k=2\/k=3)with rfl|rfl|rfl|rfl<;>simp[FH,rf,arU]
def ML(m:Nat)(k:Int):List jD:=(List.range k.toNat).map fun j=>jD.add (m+j)
theorem Iz{m:Nat}{k:Int}(h0:0<=k):ML m (k+1)=ML m k++[jD.add (m+k.toNat)]:=by
 rw[ML,show(k+1).toNat=k.toNat+1 by omega,xa,gz];rfl
theorem Y0{m:Nat}{us:List jD}:us++ML m 4=Oz us m:=by simp[ML,Oz,List.range,List.range.loop]
theorem pc{a b c:List (Value×jD)}{T:UT}{F:Nat}{B C:List a7}(h1:b.take a.length=a)(h2:c.take b.length=b)(hab:∀x∈b.drop a.length,o9 T F B x)(hbc:∀x∈c.drop b.length,o9 T F C x):c.take a.length=a/\∀x∈c.drop a.length,o9 T F (C++B) x:=by
 have hl:a.length<=b.length:=by
  have:=aJ List.length h1;rw[eP]at this;omega
 constructor
 .rw[show c.take a.length=(c.take b.length).take a.length by rw[BG,rz hl],h2,h1]
 intro x hx
 have e:c=b++c.drop b.length:=by conv=>lhs;rw[<-BB b.length c,h2]
 rw[e,KU hl]at hx
 rcases eI.1 hx with q|q
 .exact(hab x q).mono fun e he=>bG _ he
 exact(hbc x q).mono fun e he=>dy _ he
end
end Go.Proofs.YtlhjdflgjbkpmaaGreatDoor.E
namespace Go.Proofs.YtlhjdflgjbkpmaaGreatDoor.M
section
open Go
theorem adE(r:Rl)(w:BitVec 64):(∃k:Int,eM r w=(k,true)/\0<=k/\k<pts r/\bU r k=w)\/eM r w=(0,false):=by grind[Rl,eM,pts,bU,nY]
theorem afi(r:Rl)(i j:Int):(iS r i j).2=true->0<=(iS r i j).1/\(iS r i j).1<pts r:=by grind[nY,nZ,iL,pts,iS,AA]
def D8(r:Rl)(w:BitVec 64):Int:=if(eM r w).2=true then(eM r w).1 else-1
theorem arV{r:Rl}{w:BitVec 64}{k:Int}(h0:0<=k)(hk:k<pts r)(h:bU r k=w)(hf:∀j:Int,0<=j->j<k->bU r j≠w):D8 r w=k:=by
 rw[D8,Dj h0 hk h hf];rfl
theorem awS{r:Rl}{w:BitVec 64}{k:Int}(hk:¬k<pts r)(hf:∀j:Int,0<=j->j<k->bU r j≠w):D8 r w= -1:=by
 rw[D8,F5 hk hf];rfl
theorem D9(r:Rl)(w:BitVec 64):(0<=D8 r w/\D8 r w<pts r/\bU r (D8 r w)=w/\eM r w=(D8 r w,true))\/(D8 r w= -1/\(eM r w).2=false):=by grind[D8,adE]
def Ju(r:Rl)(i j:Int):BitVec 64:=if(iS r (D8 r (bU r i)) (D8 r (bU r j))).2=true then bU r (iS r (D8 r (bU r i)) (D8 r (bU r j))).1 else bU r i|||bU r j
theorem adF{r:Rl}{i j:Int}(h:(iS r (D8 r (bU r i)) (D8 r (bU r j))).2=true):Ju r i j=bU r (iS r (D8 r (bU r i)) (D8 r (bU r j))).1:=aS h
theorem ahE{r:Rl}{i j:Int}(h:(iS r (D8 r (bU r i)) (D8 r (bU r j))).2=false):Ju r i j=bU r i|||bU r j:=aR (by rw[h];exact KV)
theorem P3{r:Rl}{a b:BitVec 64}(h:D8 r a<0\/D8 r b<0):a|||b=jL r a b:=by
 rcases h with h|h
 .rcases D9 r a with q|q
  .omega
  exact(Pd q.2).symm
 rcases D9 r b with q|q
 .omega
 exact(Pe q.2).symm
theorem ahF{r:Rl}{a b:BitVec 64}(h:¬(D8 r a<0\/D8 r b<0)):Ju r (D8 r a) (D8 r b)=jL r a b:=by grind[D9,Ju,jL]
def n8(r:Rl)(k:Nat):List (BitVec 64):=(List.range k).map fun(i:Nat)=>bU r (i:Int)
theorem zK{r:Rl}{k:Nat}:(n8 r k).length=k:=by simp[n8]
theorem adG{r:Rl}{k:Nat}{i:Int}(h:0<=i/\i<k):(n8 r k).getD i.toNat 0=bU r i:=by grind[n8]
theorem TN{r:Rl}{k:Int}(h:0<=k):n8 r (k+1).toNat=n8 r k.toNat++[bU r k]:=by
 rw[n8,show(k+1).toNat=k.toNat+1 by omega,xa,gz,EE,fW h];rfl
def zL(r:Rl)(i:Int)(n k:Nat):List (BitVec 64):=(List.range n).map fun(j:Nat)=>if j<k then Ju r i (j:Int)else 0
theorem BY{r:Rl}{i:Int}{n k:Nat}:(zL r i n k).length=n:=by simp[zL]
theorem adH{r:Rl}{i:Int}{n:Nat}:List.replicate n (0#64)=zL r i n 0:=by
 apply XA (by simp[zL])
 intro j h1 h2
 simp[zL]
theorem U2{r:Rl}{i:Int}{n:Nat}{k:Int}{x:BitVec 64}(h:0<=k/\k<n)(hx:x=Ju r i k):(zL r i n k.toNat).set k.toNat x=zL r i n (k+1).toNat:=by grind[List.ext_getElem,zL,List.length_set,BY,Int.toNat_of_nonneg]
theorem adI{r:Rl}{i:Int}{n:Nat}{k:Int}{x y:BitVec 64}(h:0<=k/\k<n)(hx:y=Ju r i k):((zL r i n k.toNat).set k.toNat x).set k.toNat y=zL r i n (k+1).toNat:=by simp_all[U2]
theorem amI{r:Rl}{i:Int}{n:Nat}{j:Int}(h:0<=j/\j<n):(zL r i n n).getD j.toNat 0=Ju r i j:=by grind[zL]
end
end Go.Proofs.YtlhjdflgjbkpmaaGreatDoor.M
namespace Go.Proofs.YtlhjdflgjbkpmaaGreatDoor.E
section
open Go Go.RowKit Go.Proofs.YtlhjdflgjbkpmaaGreatDoor.M
def k9(r:Rl)(d s:Int)(vw vj:Value):List Value:=vP r++[.int .u32 d,.int .i32 s,.int .u32 0,vw,vj]
section
variable{r:Rl}{d s:Int}{vw vj v:Value}
theorem ae8:(k9 r d s vw vj).length=70:=by simp[k9,o7]
theorem awT:(k9 r d s vw vj).toArray[0]?=some (I r.n):=by simp[k9,vP]
theorem St{k:Nat}(hk:k<5):(k9 r d s vw vj).toArray[65+k]?=([.int .u32 d,.int .i32 s,.int .u32 0,vw,vj]:List Value)[k]?:=by grind[k9,o7]
theorem aa7:(k9 r d s vw vj).toArray[65]?=some (.int .u32 d):=St (k:=0) J
theorem ao2:(k9 r d s vw vj).toArray[66]?=some (.int .i32 s):=St (k:=1) J
theorem Ea:(k9 r d s vw vj).toArray[68]?=some vw:=St (k:=3) J
theorem ao3:(k9 r d s vw vj).toArray[69]?=some vj:=St (k:=4) J
theorem KI{k:Nat}:(k9 r d s vw vj).toArray.setIfInBounds (65+k) v=(vP r++([.int .u32 d,.int .i32 s,.int .u32 0,vw,vj]:List Value).set k v).toArray:=by simp_all[k9,o7]
theorem Gm:(k9 r d s vw vj).toArray.setIfInBounds 68 v=(k9 r d s v vj).toArray:=KI (k:=3)
theorem ahG:(k9 r d s vw vj).toArray.setIfInBounds 69 v=(k9 r d s vw v).toArray:=KI (k:=4)
theorem ahH{e:Int}:(k9 r d s vw vj).toArray.setIfInBounds 65 (.int .u32 e)=(k9 r e s vw vj).toArray:=KI (k:=0)
theorem U3{e:Int}:(k9 r d s vw vj).toArray.setIfInBounds 66 (.int .i32 e)=(k9 r d e vw vj).toArray:=KI (k:=1)
theorem amJ:((k9 r d s vw vj).toArray.toList.drop 0).take (vP r).length=vP r:=by simp[k9]
end
structure Su where
 v:Value
 l:List (BitVec 64)
def ru0:Su:=⟨.slice none 0 0,[]⟩
theorem arX{rs:List Su}{k:Int}(h:0<=k/\k<rs.length):(rs.map Su.v)[k.toNat*1]?=some (rs.getD k.toNat ru0).v:=by grind
def Fb(r:Rl)(n k:Nat):List (List (BitVec 64)):=(List.range k).map fun(i:Nat)=>zL r (i:Int) n n
theorem Y1{r:Rl}{n:Nat}{k:Int}(h:0<=k):Fb r n (k+1).toNat=Fb r n k.toNat++[zL r k n n]:=by
 rw[Fb,show(k+1).toNat=k.toNat+1 by omega,xa,gz,EE,fW h];rfl
structure IA(K:Vu)(r:Rl)(vw vj:Value)(rs:List Su):Prop where
 words:pN K vw 1 (n8 r (pts r).toNat).length ((n8 r (pts r).toNat).map U)
 ahI:pN K vj 1 rs.length (rs.map Su.v)
 each:∀x∈rs,pN K x.v 1 x.l.length (x.l.map U)
 rs:rs.map Su.l=Fb r (pts r).toNat (pts r).toNat
section
variable{K K':Vu}{r:Rl}{vw vj:Value}{rs:List Su}
theorem IA.mono(h:IA K r vw vj rs)(hl:Le K K'):IA K' r vw vj rs:=⟨h.words.mono hl,h.ahI.mono hl,fun x hx=>(h.each x hx).mono hl,h.rs⟩
theorem IA.len(h:IA K r vw vj rs):rs.length=(pts r).toNat:=by
 have:=aJ List.length h.rs
 simpa[Fb]using this
theorem IA.row(h:IA K r vw vj rs){i:Int}(hi:0<=i/\i<pts r):(rs.getD i.toNat ru0).l=zL r i (pts r).toNat (pts r).toNat/\pN K (rs.getD i.toNat ru0).v 1 (rs.getD i.toNat ru0).l.length ((rs.getD i.toNat ru0).l.map U):=by
 have hl:=h.len
 have hm:i.toNat<rs.length:=J
 have e:rs.getD i.toNat ru0=rs[i.toNat]:=by rw[eS,ep hm];rfl
 rw[e]
 refine⟨?_,h.each _ (nM hm)⟩
 have h2:(rs.map Su.l)[i.toNat]?=some (zL r i (pts r).toNat (pts r).toNat):=by
  rw[h.rs,Fb,pW,yN J,qt,fW hi.1]
 rw[pW,ep hm]at h2
 simpa using h2
end
section
variable{P:Program}{σ:Env}{w0 w:World}{L:List a7}{dst:Option Tmp}{ty t:TypeId}{pos:String}{bK:Array Edge}{g:Option (Nat×Bool)}{x y:Operand}{v u:Value}{i b o m:Nat}{xs:List Value}{r:Rl}
theorem Hp.setCell{c:Array Value}{e:TypeId}(h:Hp w0 w L)(hi:L[i]?=some (.blk b (.cells c e (0,0)))):Hp w0 (w.setCell ⟨b,o,none⟩ v) (L.set i (.blk b (.cells (c.setIfInBounds o v) e (0,0)))):=by
 have e1:w.setCell ⟨b,o,none⟩ v=w.setRow b (c.setIfInBounds o v):=by
  unfold World.setCell World.setRow
  congr 1
  have hg:=h.blk hi
  have hlt:b<w.heap.size:=(BA.1 hg).1
  have hv:w.heap[b]= .cells c e (0,0):=(BA.1 hg).2
  apply Array.ext aF
  intro k h1 h2
  rw[Array.getElem_modify,Array.getElem_modify]
  by_cases q:b=k
  .subst q;simp[hv]
  rw[aR q,aR q]
 rw[e1];exact h.set hi
theorem Hp.fz{c:Array Value}{e:TypeId}(h:Hp w0 w L)(hi:L[i]?=some (.blk b (.cells c e (0,0)))):w.frozen? ⟨b,o,none⟩=false:=by
 have hg:=h.blk hi
 unfold World.frozen?
 simp only[hg]
 simp
theorem IB{d:TypeDesc}{a s:Int}{vw vj:Value}{fr:Nat×Nat}{e:TypeId}(hu:P.underlying t=some d)(hd:d.isRow=true)(hi:(P.info? t).map (·.size)=some 65)(hx:ev σ x= .pointer (some ⟨b,0,none⟩))(hg:w.heap[b]?=some (.cells (k9 r a s vw vj).toArray e fr)):
 (execOp (ev σ) ⟨dst,.load t x,ty,pos,bK,g⟩).run P w= .ok (.value (.agg (dP r))) w:=by grind[ja,iB,vP,o7,amJ]
theorem r7{n:Nat}{k:Int}(h:Sl w v 1 (n8 r n).length ((n8 r n).map U))(hk:0<=k/\k<n):w.cell? ⟨sb v,so v+k.toNat*1,none⟩=some (U (bU r k)):=by
 rw[<-adG hk]
 refine h.cell _ _ ?_
 rw[lE,pW,eS,ep (by rw[zK];omega)];rfl
theorem mk_zero{i:Int}{n:Nat}:(List.replicate n (0#64)).flatMap (fun x:BitVec 64=>[U x])=(zL r i n 0).map U:=by
 rw[<-adH]
 induction n with
 |zero=>rfl
 |succ n ih=>rw[List.replicate_succ,tS,lB,ih];rfl
end
def KN:Vu:=fun _ _=>False
theorem KN.le{K:Vu}:Le KN K:=fun _ _ h=>h.elim
def TbZ(TT:TypeId)(r:Rl)(b:Nat)(Z:List a7):Prop:=
 Z=[.blk b (.cells (k9 r 0 0 (.slice none 0 0) (.slice none 0 0)).toArray TT (0,0))]\/
 ∃(v1 v2:Value) (rs:List Su) (Zr:List a7),Z= .blk b (.cells (k9 r 1 0 v1 v2).toArray TT (0,0))::Zr/\IA (Kz KN Zr) r v1 v2 rs
theorem ahJ{K:Vu}{Zr z:List a7}{rs:List Su}{v:Value}{n:Nat}{l:List (BitVec 64)}(h:∀x∈rs,pN (Kz K Zr) x.v 1 x.l.length (x.l.map U))(hv:pN (Kz K z) v 1 n (l.map U))(hn:n=l.length:=by first|rfl|(rw[BY])):∀x∈rs++[Su.mk v l],pN (Kz K (z++Zr)) x.v 1 x.l.length (x.l.map U):=fun x hx=>by
 rcases eI.1 hx with q|q
 .exact(h x q).mono (Le.zz fun e he=>bG _ he)
 rw[dY.1 q];subst hn;exact hv.mono (Le.zz fun e he=>dy _ he)
theorem Hp.r8{w0 w:World}{A Zf R:List a7}(h:Hp w0 w (A++(Zf++R))):Hp w0 w (Zf++(A++R)):=h.perm (by
 rw[<-dG,<-dG]
 exact xR.append_right R)
theorem ahK{P:Program}{σ:Env}{w:World}{dst:Option Tmp}{ty:TypeId}{pos:String}{bK:Array Edge}{g:Option (Nat×Bool)}{x:Operand}{fn:Fn}{v:Value}(hx:ev σ x=v):
  (execOp (ev σ) ⟨dst,.makeFunc fn #[x] #[],ty,pos,bK,g⟩).run P w= .ok (.value (.func fn #[v] #[])) w:=by
 simp[execOp,hx,Instr.makeFunc]
theorem ao4(r:Rl)(w:BitVec 64): -1<=D8 r w/\(D8 r w<0\/D8 r w<pts r):=by grind[D9]
abbrev JS:=Nat->Option (Nat×Rl)
def ahL(o:Option (Nat×Rl)):Value:= .pointer (o.map fun p=>⟨p.1,0,none⟩)
def U4(tb:JS):List Value:=(List.range 8).map fun i=>ahL (tb i)
theorem amK(tb:JS):(U4 tb).length=8:=by simp[U4]
def tb0:JS:=fun _=>none
def U5(tb:JS)(k:Nat)(p:Nat×Rl):JS:=fun i=>if i=k then some p else tb i
theorem arZ(tb:JS){k:Nat}(h:k<8):(U4 tb).toArray[0+k*1]?=some (ahL (tb k)):=by grind[U4]
theorem amL(tb:JS){k:Nat}{p:Nat×Rl}:(U4 tb).toArray.setIfInBounds (0+k*1) (.pointer (some ⟨p.1,0,none⟩))=(U4 (U5 tb k p)).toArray:=by
 rw[ia,lE,m7]
 congr 1
 apply XA (by simp[U4])
 intro j h1 h2
 rw[yP]
 simp only[U4,List.getElem_map,List.getElem_range,U5]
 by_cases e:k=j
 .subst e;rw[aS O,aS O];rfl
 rw[aR e,aR (fun q=>e q.symm)]
def oS(tb:JS)(a c:El):El:=fun i=>match tb i with
 |some p=>jL p.2 (a i) (c i)
 |none=>a i|||c i
def vX(TT:TypeId):List (Nat×Rl)->List a7->Prop
 |[],Z=>Z=[]
 |p::tl,Z=>∃z Y,Z=z++Y/\TbZ TT p.2 p.1 z/\vX TT tl Y
theorem vX.one{TT:TypeId}{b:Nat}{r:Rl}{z:List a7}(h:TbZ TT r b z):vX TT [(b,r)] z:=⟨z,[],aF,h,rfl⟩
theorem vX.app{TT:TypeId}{tl tm:List (Nat×Rl)}{Z Y:List a7}(h:vX TT tl Z)(k:vX TT tm Y):vX TT (tl++tm) (Z++Y):=by
 induction tl generalizing Z with
 |nil=>have e:Z=[]:=h;subst e;exact k
 |cons p tl ih=>
  obtain⟨z,X,rfl,h1,h2⟩:=h
  exact⟨z,X++Y,aF,h1,ih h2⟩
theorem vX.pick{TT:TypeId}{tl:List (Nat×Rl)}{Z:List a7}{b:Nat}{r:Rl}(h:vX TT tl Z)(hm:(b,r)∈tl):∃z Y,TbZ TT r b z/\Z.Perm (z++Y)/\∀z',TbZ TT r b z'->∃Z',vX TT tl Z'/\(z'++Y).Perm Z':=by
 induction tl generalizing Z with
 |nil=>cases hm
 |cons p tl ih=>
  obtain⟨z,X,rfl,h1,h2⟩:=h
  rcases cQ.1 hm with e|hm
  .subst e
   exact⟨z,X,h1,Rh _,fun z' hz'=>⟨z'++X,⟨z',X,rfl,hz',h2⟩,Rh _⟩⟩
  obtain⟨z1,Y,k1,k2,k3⟩:=ih h2 hm
  refine⟨z1,z++Y,k1,?_,fun z' hz'=> ?_⟩
  .refine(uE z k2).trans ?_
   rw[<-dG,<-dG]
   exact xR.append_right Y
  obtain⟨Z',q1,k5⟩:=k3 z' hz'
  refine⟨z++Z',⟨z,Z',rfl,h1,q1⟩,?_⟩
  refine List.Perm.trans ?_ (uE z k5)
  rw[<-dG,<-dG]
  exact xR.append_right Y
theorem tY{w:World}{b off:Nat}{cs:Array Value}{te:TypeId}{fr:Nat×Nat}{v:Value}(h:w.heap[b]?=some (.cells cs te fr))(hc:cs[off]?=some v):w.cell? ⟨b,off,none⟩=some v:=by
 rw[xf w b off cs te fr h];exact hc
theorem ar0(tb:JS){k:Int}(h:0<=k/\k<8):(U4 tb).toArray[k.toNat]?=some (ahL (tb k.toNat)):=by grind[arZ]
theorem P4{P:Program}{σ:Env}{w:World}{dst:Option Tmp}{t te ty u:TypeId}{pos:String}{bK:Array Edge}{g:Option (Nat×Bool)}{x y:Operand}{o:Option (Nat×Rl)}(ht:P.underlying t=some (.pointer te))(hx:ev σ x=ahL o)(hy:ev σ y= .pointer none):
  (execOp (ev σ) ⟨dst,.binOp .neq t x y u,ty,pos,bK,g⟩).run P w= .ok (.value (.bool o.isSome)) w:=by
 cases o with
 |none=>
  have h:(binOp .neq t (.pointer none) (.pointer none)).run P w= .ok (.bool false) w:=by
   simp only[binOp];simp[Op.equal,Op.maxDepth,YW 9999 ht]
  have he:(eqGuard .neq t x y (.pointer none) (.pointer none))=pure ():=rfl
  have hx':ev σ x= .pointer none:=hx
  simp only[execOp,hx',hy,he];simp[h]
 |some p=>
  have h:(binOp .neq t (.pointer (some ⟨p.1,0,none⟩)) (.pointer none)).run P w= .ok (.bool true) w:=by
   simp only[binOp];simp[Op.equal,Op.maxDepth,Fa 9999 ht]
  have he:(eqGuard .neq t x y (.pointer (some ⟨p.1,0,none⟩)) (.pointer none))=pure ():=rfl
  have hx':ev σ x= .pointer (some ⟨p.1,0,none⟩):=hx
  simp only[execOp,hx',hy,he];simp[h]
theorem Hp.awU{w0 w:World}{A Zt R z Y:List a7}(h:Hp w0 w (A++(Zt++R)))(hp:Zt.Perm (z++Y)):Hp w0 w (z++(Y++(A++R))):=by
 refine h.r8.perm ?_
 rw[<-dG z]
 exact hp.append_right _
theorem Hp.ao5{w0 w:World}{A Z' R z Y:List a7}(h:Hp w0 w (z++(Y++(A++R))))(hp:(z++Y).Perm Z'):Hp w0 w (A++(Z'++R)):=by
 refine h.perm ?_
 rw[<-dG z]
 refine(hp.append_right _).trans ?_
 rw[<-dG,<-dG]
 exact xR.append_right R
theorem ar1{tb:JS}{a c:El}{k:Int}{e:El}{b:Nat}{r:Rl}(hr:e=sO (oS tb a c) a k)(h0:0<=k)(hp:tb k.toNat=some (b,r)):A4 e k.toNat (jL r (e k.toNat) (c k.toNat))=sO (oS tb a c) a (k+1):=by
 subst hr
 refine Dn h0 ?_
 have e1:sO (oS tb a c) a k k.toNat=a k.toNat:=aR J
 rw[e1];simp only[oS,hp]
theorem awV{tb:JS}{a c:El}{k:Int}{e:El}(hr:e=sO (oS tb a c) a k)(h0:0<=k)(hp:(tb k.toNat).isSome=false):A4 e k.toNat (e k.toNat|||c k.toNat)=sO (oS tb a c) a (k+1):=by
 subst hr
 refine Dn h0 ?_
 have e1:sO (oS tb a c) a k k.toNat=a k.toNat:=aR J
 have hp':tb k.toNat=none:=by cases h:tb k.toNat with
  |none=>rfl
  |some p=>rw[h]at hp;cases hp
 rw[e1];simp only[oS,hp']
theorem ahM(tb:JS){k b:Nat}(r:Rl):(U4 tb).toArray.setIfInBounds (0+k*1) (.pointer (some ⟨b,0,none⟩))=(U4 (U5 tb k (b,r))).toArray:=amL (p:=(b,r)) tb
def IC(s:Sh)(k:Int)(tb:JS):Prop:=∀i:Nat,i<8->if(i:Int)<k/\(i:Int)<s.aL.length/\(s.aL.getD i vO).kind=4 then∃b,tb i=some (b,(s.aL.getD i vO).rel)else tb i=none
theorem IC.start(s:Sh):IC s 0 tb0:=by grind[Sh,IC,tb0]
theorem IC.put{s:Sh}{k:Int}{tb:JS}{b:Nat}{r:Rl}(h:IC s k tb)(h0:0<=k)(h1:k<s.aL.length)(h2:(s.aL.getD k.toNat vO).kind=4)(hr:(s.aL.getD k.toNat vO).rel=r):IC s (k+1) (U5 tb k.toNat (b,r)):=fun i hi=>by
 have:=h i hi
 unfold U5
 by_cases e:i=k.toNat
 .subst e
  rw[aS ⟨J,J,h2⟩,aS O,hr];exact⟨b,rfl⟩
 rw[aR e]
 by_cases q:(i:Int)<k/\(i:Int)<s.aL.length/\(s.aL.getD i vO).kind=4
 .rw[aS q]at this;rw[aS ⟨J,q.2⟩];exact this
 rw[aR q]at this;rw[aR fun w=>q ⟨J,w.2⟩];exact this
theorem IC.skip{s:Sh}{k:Int}{tb:JS}(h:IC s k tb)(h0:0<=k)(h2:¬(k<8/\(s.aL.getD k.toNat vO).kind=4)):IC s (k+1) tb:=fun i hi=>by
 have:=h i hi
 by_cases e:i=k.toNat
 .subst e
  rw[aR J]at this
  rw[aR fun w=>h2 ⟨J,w.2.2⟩];exact this
 by_cases q:(i:Int)<k/\(i:Int)<s.aL.length/\(s.aL.getD i vO).kind=4
 .rw[aS q]at this;rw[aS ⟨J,q.2⟩];exact this
 rw[aR q]at this;rw[aR fun w=>q ⟨J,w.2⟩];exact this
def ahN(s:Sh)(tb:JS):Prop:=∀i:Nat,i<8->if(i:Int)<s.aL.length/\(s.aL.getD i vO).kind=4 then∃b,tb i=some (b,(s.aL.getD i vO).rel)else tb i=none
theorem IC.all{s:Sh}{k:Int}{tb:JS}(h:IC s k tb)(hk:¬k<s.aL.length):ahN s tb:=fun i hi=>by
 have:=h i hi
 by_cases q:(i:Int)<s.aL.length/\(s.aL.getD i vO).kind=4
 .rw[aS q];rw[aS ⟨J,q⟩]at this;exact this
 rw[aR q];rw[aR fun w=>q w.2]at this;exact this
theorem adJ{s:Sh}{tb:JS}(h:ahN s tb)(a c:El):rC (oS tb a c) (fH s a c):=fun i hi=>by
 have:=h i hi
 unfold oS fH Uq
 by_cases q:(i:Int)<s.aL.length/\(s.aL.getD i vO).kind=4
 .rw[aS q]at this⊢
  obtain⟨b,e⟩:=this;simp only[e]
 rw[aR q]at this⊢
 simp only[this]
theorem amM{tb:JS}{tl:List (Nat×Rl)}{k:Nat}{q:Nat×Rl}(h:∀i,i<8->∀p,tb i=some p->p∈tl):∀i,i<8->∀p,U5 tb k q i=some p->p∈q::tl:=by grind[U5]
theorem vX.cons{TT:TypeId}{tl:List (Nat×Rl)}{Z:List a7}{b:Nat}{r:Rl}(h:vX TT tl Z):vX TT ((b,r)::tl) ([.blk b (.cells (k9 r 0 0 (.slice none 0 0) (.slice none 0 0)).toArray TT (0,0))]++Z):=⟨_,_,rfl,.inl O,h⟩
structure Cn where
 e:Int
 l:Int
 j:Int
def OA:Cn:=⟨0,0,0⟩
def Cn.ok(c:Cn):Prop:=(0<=c.e/\c.e<=1000000000000)/\(0<=c.l/\c.l<=1000000000000)/\(0<=c.j/\c.j<=1000000000000)
inductive Kd
 |e
 |l
 |j
def Kd.up(c:Cn):Kd->Cn
 | .e=>⟨c.e+1,c.l,c.j⟩
 | .l=>⟨c.e,c.l+1,c.j⟩
 | .j=>⟨c.e,c.l,c.j+1⟩
inductive Wr
 |base (p:kW) (tb:JS)
 |wrap (m:Nat) (d:Wr)
structure On where
 ofE:FuncId
 leq:FuncId
 jn:FuncId
 w1:FuncId
 w2:FuncId
 w3:FuncId
 w4:FuncId
 tsh:TypeId
 t8:TypeId
 tfn:TypeId
 tm:TypeId
 aDQ:TypeId
 awW:TypeId
 tt:TypeId
 fr:List a7
abbrev pt(b:Nat):Value:= .pointer (some ⟨b,0,none⟩)
abbrev iH(f:FuncId)(cs:Array Value):Value:= .func (.func f) #[] cs
def yf(T:On)(K:Vu):Wr->Value->Value->Value->Prop
 | .base p tb,e,l,j=>∃B1 B2,e=iH T.ofE #[pt B1]/\l=iH T.leq #[]/\j=iH T.jn #[pt B2]/\K B1 (.cells (q9 p) T.tsh (0,0))/\ld K p/\K B2 (.cells (U4 tb).toArray T.t8 (0,0))
 | .wrap m d,e,l,j=>∃b2 b3 b5 e' l' j',e=iH T.w2 #[pt b5,pt b3]/\l=iH T.w3 #[pt b5,pt b3]/\j=iH T.w4 #[pt b5,pt b3]/\K b5 (.cells #[iH T.w1 #[pt b2]] T.tfn (0,0))/\K b2 (.cells #[pt m] T.tm (0,0))/\K b3 (.cells #[e',l',j'] T.aDQ (0,0))/\yf T K d e' l' j'
theorem yf.mono{T:On}{K K':Vu}(hl:Le K K'){d:Wr}:∀{e l j:Value},yf T K d e l j->yf T K' d e l j:=by
 induction d with
 |base p tb=>rintro e l j ⟨B1,B2,h1,h2,h3,h4,h5,h6⟩;exact⟨B1,B2,h1,h2,h3,hl _ _ h4,h5.mono hl,hl _ _ h6⟩
 |wrap m d ih=>rintro e l j ⟨b2,b3,b5,e',l',j',h1,h2,h3,h4,h5,h6,h7⟩;exact⟨b2,b3,b5,e',l',j',h1,h2,h3,hl _ _ h4,hl _ _ h5,hl _ _ h6,ih h7⟩
theorem yf.one{T:On}{K:Vu}{d:Wr}{e l j:Value}(h:yf T K d e l j):∃f g k a b c,e=iH f a/\l=iH g b/\j=iH k c:=by
 cases d with
 |base p tb=>obtain⟨B1,B2,h1,h2,h3,-⟩:=h;exact⟨_,_,_,_,_,_,h1,h2,h3⟩
 |wrap m d=>obtain⟨b2,b3,b5,e',l',j',h1,h2,h3,-⟩:=h;exact⟨_,_,_,_,_,_,h1,h2,h3⟩
def Wr.sh:Wr->kW
 | .base p _=>p
 | .wrap _ d=>d.sh
def Wr.tb:Wr->JS
 | .base _ tb=>tb
 | .wrap _ d=>d.tb
def Wr.EX(ids:List Nat)(tl:List (Nat×Rl)):Wr->Prop
 | .base p tb=>ahN p.sh tb/\∀i,i<8->∀q,tb i=some q->q∈tl
 | .wrap m d=>m∈ids/\d.EX ids tl
abbrev Ct:=Nat->Cn
def ve(f:Ct)(m:Nat)(c:Cn):Ct:=fun i=>if i=m then c else f i
def jE(k:Kd)(m:Nat)(f:Ct):Ct:=ve f m (k.up (f m))
def Wr.tick(k:Kd):Wr->Ct->Ct
 | .base _ _,f=>f
 | .wrap m d,f=>d.tick k (jE k m f)
def oT(T:On)(m:Nat)(c:Cn):a7:= .blk m (.cells #[B true,I c.e,I c.l,I c.j] T.awW (0,0))
def kp(T:On)(ids:List Nat)(f:Ct)(tl:List (Nat×Rl))(Z:List a7):Prop:=∃Zt,vX T.tt tl Zt/\Z=(ids.map (fun m=>oT T m (f m))++T.fr)++Zt
theorem kp.pick{T:On}{ids:List Nat}{f:Ct}{tl:List (Nat×Rl)}{Z R:List a7}{m:Nat}{w0 w:World}(h:kp T ids f tl Z)(hm:m∈ids)(hH:Hp w0 w (Z++R)):
  ∃Y,Z.Perm ([oT T m (f m)]++Y)/\∀c,∃Z',kp T ids (ve f m c) tl Z'/\([oT T m c]++Y).Perm Z':=by
 obtain⟨Zt,h1,rfl⟩:=h
 obtain⟨pre,post,rfl⟩:=Xo hm
 have ao6:∀q∈pre++post,q≠m:=by
  have e:((pre++m::post).map (fun i=>oT T i (f i))++T.fr++Zt++R).Perm (oT T m (f m)::((pre++post).map (fun i=>oT T i (f i))++T.fr++Zt++R)):=by
   simp only[gz,lB,dG,gf]
   exact EH
  have h2:=(hH.perm e).LC
  intro q hq hqe
  have h3:=(lA.1 h2).1 (oT T q (f q)) (dy _ (dy _ (dy _ (fX.2 ⟨q,hq,rfl⟩))))
  rcases h3 with h3|h3
  .cases h3
  exact h3 (by show some m=some q;rw[hqe])
 have same:∀(c:Cn) (l:List Nat),(∀q∈l,q≠m)->(l.map fun i=>oT T i (ve f m c i))=l.map fun i=>oT T i (f i):=fun c l hl=>by
  apply ED
  intro q hq
  unfold ve;rw[aR (hl q hq)]
 refine⟨(pre++post).map (fun i=>oT T i (f i))++T.fr++Zt,?_,fun c=>⟨_,⟨Zt,h1,rfl⟩,?_⟩⟩
 .simp only[gz,lB,dG,gf,eC]
  exact EH
 have e1:=same c pre fun q hq=>ao6 q (dy _ hq)
 have e2:=same c post fun q hq=>ao6 q (bG _ hq)
 have e3:ve f m c m=c:=aS O
 simp only[gz,lB,e1,e2,e3,dG,gf,eC]
 exact EH.symm
def zM(P:Program)(v:Value)(args:List Value)(w:World)(Q:Ending->World->Prop):Prop:=
 ∃(f:FuncId) (cs:List Value),v=iH f cs.toArray/\(∀args w,(callFunc f args).run P w= .ok (.enter f args) w)/\Calls P f (args++cs).toArray w Q
theorem zM.mono{P:Program}{v:Value}{args:List Value}{w:World}{Q Q':Ending->World->Prop}(h:zM P v args w Q)(hq:∀e w',Q e w'->Q' e w'):zM P v args w Q':=by
 obtain⟨f,cs,h1,h2,h3⟩:=h;exact⟨f,cs,h1,h2,h3.mono hq⟩
theorem Hp.oK{w0 w:World}{A Zf R:List a7}(h:Hp w0 w (Zf++(A++R))):Hp w0 w (A++(Zf++R)):=h.perm (by
 rw[<-dG,<-dG]
 exact xR.append_right R)
section
variable{P:Program}{σ:Env}{w w':World}{dst:Option Tmp}{t ty u:TypeId}{pos:String}{bK:Array Edge}{g:Option (Nat×Bool)}{x y x1 x2:Operand}{v v1 v2:Value}{f:FuncId}{ats:Array TypeId}
theorem P5{HU:List Operand}{vs:List Value}(hf:(callFunc f vs.toArray).run P w= .ok (.value v) w')(h:HU.map (ev σ)=vs):(execOp (ev σ) ⟨dst,.call {callee:= .value (.func f),args:=HU.toArray,argTypes:=ats},ty,pos,bK,g⟩).run P w= .ok (.value v) w':=by
 subst h
 have hf':(callFunc f (HU.map (ev σ)).toArray).run P w= .ok (.value v) w':=hf
 simp[execOp,resolve,ev,Deferred.ofValue,invoke]at hf'⊢
 rw[hf']
theorem Y2(hf:(callFunc f #[v1]).run P w= .ok (.value v) w')(h1:ev σ x1=v1):(execOp (ev σ) ⟨dst,.call {callee:= .value (.func f),args:=#[x1],argTypes:=ats},ty,pos,bK,g⟩).run P w= .ok (.value v) w':=P5 (HU:=[x1]) (vs:=[v1]) hf (by simp[h1])
theorem MM(hf:(callFunc f #[v1,v2]).run P w= .ok (.value v) w')(h1:ev σ x1=v1)(h2:ev σ x2=v2):(execOp (ev σ) ⟨dst,.call {callee:= .value (.func f),args:=#[x1,x2],argTypes:=ats},ty,pos,bK,g⟩).run P w= .ok (.value v) w':=by grind[P5]
theorem amO{a:Int}(h: -9223372036854775808<=a+1/\a+1<=9223372036854775807):(Op.intArith .add .i64 a 1).run P w= .ok (.int .i64 (a+1)) w:=by
 simp[Op.intArith,C5 h]
theorem P6{fn:Fn}{a c:Array Value}(d:Nat){ps rs:Array TypeId}{vr:Bool}(ht:P.underlying t=some (.func ps rs vr)):(Op.equalIn (d+1) t (.func fn a c) .nilFunc).run P w= .ok false w:=by
 simp[Op.equalIn,kr ht]
theorem U6{fn:Fn}{a c:Array Value}{ps rs:Array TypeId}{vr:Bool}(ht:P.underlying t=some (.func ps rs vr))(hx:ev σ x= .func fn a c)(hy:ev σ y= .nilFunc):
  (execOp (ev σ) ⟨dst,.binOp .eql t x y u,ty,pos,bK,g⟩).run P w= .ok (.value (.bool false)) w:=by
 have h:(binOp .eql t (.func fn a c) .nilFunc).run P w= .ok (.bool false) w:=by
  simp only[binOp];simp[Op.equal,Op.maxDepth,P6 9999 ht]
 have he:(eqGuard .eql t x y (.func fn a c) .nilFunc)=pure ():=rfl
 simp only[execOp,hx,hy,he];simp[h]
theorem U7{fn:Fn}{a c:Array Value}{ps rs:Array TypeId}{vr:Bool}(ht:P.underlying t=some (.func ps rs vr))(hx:ev σ x= .func fn a c)(hy:ev σ y= .nilFunc):
  (execOp (ev σ) ⟨dst,.binOp .neq t x y u,ty,pos,bK,g⟩).run P w= .ok (.value (.bool true)) w:=by
 have h:(binOp .neq t (.func fn a c) .nilFunc).run P w= .ok (.bool true) w:=by
  simp only[binOp];simp[Op.equal,Op.maxDepth,P6 9999 ht]
 have he:(eqGuard .neq t x y (.func fn a c) .nilFunc)=pure ():=rfl
 simp only[execOp,hx,hy,he];simp[h]
end
structure xx where
 kind:Int
 lv:Value
 l:List dz
 vv:Value
 v:List El
 a:El
 b:El
def amP:xx:=⟨0,.slice none 0 0,[],.slice none 0 0,[],dH,dH⟩
def aMJ(x:xx):List Value:=I x.kind::x.lv::x.vv::(s8 x.a++s8 x.b)
structure ahO(K:Vu)(x:xx):Prop where
 ins:pN K x.lv 10 x.l.length (x.l.flatMap j6)
 aj:pN K x.vv 8 x.v.length (x.v.flatMap s8)
theorem ahO.mono{K K':Vu}{x:xx}(h:ahO K x)(hl:Le K K'):ahO K' x:=⟨h.ins.mono hl,h.aj.mono hl⟩
def U8(K:Vu)(l:List xx):Prop:=∀x∈l,ahO K x
theorem U8.mono{K K':Vu}{l:List xx}(h:U8 K l)(hl:Le K K'):U8 K' l:=fun x hx=>(h x hx).mono hl
theorem U8.at{K:Vu}{l:List xx}(h:U8 K l){k:Int}(h0:0<=k)(h1:k<l.length):ahO K (l.getD k.toNat amP):=h _ (lz (fG (d:=amP) h0 h1))
def aMK(g:El×Bool):List Value:=s8 g.1++[B g.2]
def aML(d:Wr)(x:xx):El×Bool:=if x.kind=1 then(dH,cT x.a x.b)else if x.kind=2 then(oS d.tb x.a x.b,false)else fY d.sh.sh x.l x.v
def aMM(s:Sh)(x:xx):El×Bool:=if x.kind=1 then(dH,cT x.a x.b)else if x.kind=2 then(fH s x.a x.b,false)else fY s x.l x.v
def ahP(x:xx):Kd:=if x.kind=1 then .l else if x.kind=2 then .j else .e
def Fe(n:Nat)(f:Ct):Prop:=∀m,(0<=(f m).e/\(f m).e<=n)/\(0<=(f m).l/\(f m).l<=n)/\(0<=(f m).j/\(f m).j<=n)
theorem Fe.ok{n:Nat}{f:Ct}(h:Fe n f)(hn:n<=1000000000000)(m:Nat):(f m).ok:=by
 obtain⟨⟨a,b⟩,⟨c,d⟩,e,g⟩:=h m
 exact⟨⟨a,J⟩,⟨c,J⟩,e,J⟩
theorem Fe.tick{n:Nat}{f:Ct}(h:Fe n f)(k:Kd)(m:Nat):Fe (n+1) (jE k m f):=fun i=>by
 obtain⟨⟨a,b⟩,⟨c,d⟩,e,g⟩:=h i
 obtain⟨⟨a',b'⟩,⟨c',d'⟩,e',g'⟩:=h m
 unfold jE ve
 by_cases q:i=m
 .rw[aS q]
  cases k<;>simp only[Kd.up]<;>omega
 rw[aR q];omega
def Wr.dep:Wr->Nat
 | .base _ _=>0
 | .wrap _ d=>d.dep+1
theorem Fe.aa8{d:Wr}(k:Kd):∀{n:Nat} {f:Ct},Fe n f->Fe (n+d.dep) (d.tick k f):=by
 induction d with
 |base p tb=>exact fun h=>h
 |wrap m d ih=>
  intro n f h
  have:=ih (h.tick k m)
  rw[Nat.add_right_comm]at this;exact this
theorem zM.get{P:Program}{f:FuncId}{cs:List Value}{args:List Value}{w:World}{Q:Ending->World->Prop}(h:zM P (iH f cs.toArray) args w Q):Calls P f (args++cs).toArray w Q:=by
 obtain⟨g,ds,h1,-,h3⟩:=h
 injection h1 with e1 e2 e3
 injection e1 with e1
 have e4:cs=ds:=by simpa using aJ Array.toList e3
 subst e1 e4;exact h3
def ar2(P:Program)(v:Value):Prop:=∃(f:FuncId) (cs:List Value),v=iH f cs.toArray/\∀args w,(callFunc f args).run P w= .ok (.enter f args) w
def aDR(x:xx):Bool:=decide (60<x.l.length)||decide (100<x.v.length)
def aDS(l:List xx):Bool:=decide (60<l.length)||l.any aDR
def kdN(x:xx):Int:=if x.kind=1\/x.kind=2 then x.kind else 0
def Y3(l:List xx)(q:Int):Nat:=l.countP fun x=>decide (kdN x=q)
def ct0:Ct:=fun _=>OA
theorem kp.nil{T:On}:kp T [] ct0 [] (([]++T.fr)++[]):=⟨[],rfl,rfl⟩
theorem kp.add{T:On}{ids:List Nat}{tl:List (Nat×Rl)}{Z:List a7}{m:Nat}(h:kp T ids ct0 tl Z):kp T (m::ids) ct0 tl ([oT T m OA]++Z):=by
 obtain⟨Zt,h1,rfl⟩:=h;exact⟨Zt,h1,rfl⟩
theorem kp.app{T:On}{ids:List Nat}{f:Ct}{tl tm:List (Nat×Rl)}{Z Zt:List a7}(h:kp T ids f tl Z)(ht:vX T.tt tm Zt):kp T ids f (tl++tm) (Z++Zt):=by
 obtain⟨Zs,h1,rfl⟩:=h;exact⟨Zs++Zt,h1.app ht,by rw[dG]⟩
theorem kp.blk{T:On}{ids:List Nat}{f:Ct}{tl:List (Nat×Rl)}{Z L:List a7}{m:Nat}{w0 w:World}(h:kp T ids f tl Z)(hm:m∈ids)(hH:Hp w0 w L)(hs:∀x,x∈Z->x∈L):
  w.heap[m]?=some (.cells #[B true,I (f m).e,I (f m).l,I (f m).j] T.awW (0,0)):=by
 obtain⟨Zt,h1,rfl⟩:=h
 exact(hH.ok _ (hs _ (dy _ (dy _ (fX.2 ⟨m,hm,rfl⟩))))).2
theorem Hp.ao7{w0 w:World}{Zt Zq A Zf R:List a7}(h:Hp w0 w ((Zt++Zq)++(A++(Zf++R)))):Hp w0 w (A++((Zf++Zt)++(Zq++R))):=h.perm (by
 rw[dG,dG]
 refine((uE Zt (wu Zq A _)).trans (wu Zt A _)).trans (uE A ?_)
 refine(uE Zt (wu Zq Zf R)).trans (wu Zt Zf _))
theorem Wr.MO{d:Wr}{ids ids':List Nat}{tl tl':List (Nat×Rl)}(h:d.EX ids tl)(h1:∀x,x∈ids->x∈ids')(h2:∀x,x∈tl->x∈tl'):d.EX ids' tl':=by
 induction d with
 |base p tb=>exact⟨h.1,fun i hi q hq=>h2 _ (h.2 i hi q hq)⟩
 |wrap m d ih=>exact⟨h1 _ h.1,ih h.2⟩
theorem Fe.zero:Fe 0 ct0:=fun m=>by simp[ct0,OA]
theorem Fe.clear{n:Nat}{f:Ct}(h:Fe n f)(m:Nat):Fe n (ve f m OA):=fun i=>by
 unfold ve
 by_cases q:i=m
 .rw[aS q];simp[OA]
 rw[aR q];exact h i
theorem Fe.mono{n k:Nat}{f:Ct}(h:Fe n f)(hk:n<=k):Fe k f:=fun m=>by
 obtain⟨⟨a,b⟩,⟨c,d⟩,e,g⟩:=h m
 exact⟨⟨a,J⟩,⟨c,J⟩,e,J⟩
def aDU:List Tx:=[⟨#[97]⟩,⟨#[98]⟩]
def exT:Sh:=⟨false,[⟨2,aDU,Rl.none⟩]⟩
def aMN:El:=A4 dH 0 1#64
def aMO:El:=A4 dH 0 2#64
def aMP:El:=A4 dH 0 3#64
theorem Hp.swz{w0 w:World}{A z Zf R:List a7}(h:Hp w0 w (A++(z++(Zf++R)))):Hp w0 w (A++(Zf++(z++R))):=h.perm (uE A (by
 rw[<-dG,<-dG]
 exact xR.append_right R))
def Gn(c:Cn)(l:List xx):Prop:=c.e=Y3 l 0/\c.l=Y3 l 1/\c.j=Y3 l 2
theorem Gn.nil:Gn OA []:=⟨rfl,rfl,rfl⟩
theorem Gn.tick{f:Ct}{m:Nat}{l:List xx}{x:xx}(h:Gn (f m) l):Gn ((jE (ahP x) m f) m) (l++[x]):=by
 obtain⟨h1,h2,h3⟩:=h
 have e:jE (ahP x) m f m=(ahP x).up (f m):=by unfold jE ve;rw[aS O]
 have c:∀q,Y3 (l++[x]) q=Y3 l q+if kdN x=q then 1 else 0:=fun q=>by
  rw[Y3,List.countP_append];simp[Y3,List.countP_cons]
 rw[e]
 unfold Gn
 rw[c,c,c]
 unfold ahP kdN
 by_cases a:x.kind=1
 .simp[a,Kd.up,h1,h2,h3]
 by_cases b:x.kind=2
 .simp[b,Kd.up,h1,h2,h3]
 simp[a,b,Kd.up,h1,h2,h3]
theorem ahQ{l:List xx}{k fr:Int}(h0:0<=fr)(h1:fr<=k)(h2:k<l.length):(l.take (k+1).toNat).drop fr.toNat=(l.take k.toNat).drop fr.toNat++[l.getD k.toNat amP]:=by grind[List.take_append_getElem,List.length_take,List.getElem?_eq_getElem]
theorem Gn.next{f:Ct}{m:Nat}{l:List xx}{k fr:Int}(h:Gn (f m) ((l.take k.toNat).drop fr.toNat))(h0:0<=fr)(h1:fr<=k)(h2:k<l.length):Gn ((jE (ahP (l.getD k.toNat amP)) m f) m) ((l.take (k+1).toNat).drop fr.toNat):=by
 rw[ahQ h0 h1 h2];exact h.tick
def P7(a b c:Nat)(f:Ct)(k:Int):Prop:=(f a).e=(f b).e/\(f a).l=(f b).l/\(f a).j=(f b).j/\(f c).e=2*(f a).e/\(f c).l=2*(f a).l/\(f c).j=2*(f a).j/\(f a).e+(f a).l+(f a).j=k
theorem P7.zero{a b c:Nat}:P7 a b c ct0 0:=⟨rfl,rfl,rfl,rfl,rfl,rfl,rfl⟩
theorem P7.next{a b c:Nat}{f:Ct}{k:Int}(h:P7 a b c f k)(hn:[c,b,a].Nodup)(q:Kd):P7 a b c (jE q c (jE q c (jE q b (jE q a f)))) (k+1):=by
 simp only[nP,cQ,List.not_mem_nil,BO,not_or]at hn
 obtain⟨⟨h1,h2⟩,h3,-⟩:=hn
 obtain⟨e1,e2,e3,e4,e5,e6,e7⟩:=h
 have fa:jE q c (jE q c (jE q b (jE q a f))) a=q.up (f a):=by simp[jE,ve,h2,h3,EM h2,EM h3]
 have fb:jE q c (jE q c (jE q b (jE q a f))) b=q.up (f b):=by simp[jE,ve,h1,h3,EM h1,EM h3]
 have fc:jE q c (jE q c (jE q b (jE q a f))) c=q.up (q.up (f c)):=by simp[jE,ve,h1,h2,EM h1,EM h2]
 unfold P7
 rw[fa,fb,fc]
 cases q<;>simp only[Kd.up]<;>omega
def Sv(o:Oper):List Nat:=(o.after.toList.filter fun e=>Region.binds .any e).map (·.on)
def amQ(l:List Oper):Nat->List Nat->Bool
 |0,_=>true
 |i+1,s=>s.contains i&&amQ l i (s++((l[i]?).map Sv).getD [])
def awX(l:List Oper)(z:Oper):Bool:=
 (l.zipIdx.all fun p=>(Sv p.1).all (Nat.blt · p.2)&&(p.1.guard.map fun g=>Nat.blt g.1 l.length).getD true)&&(Sv z).all (Nat.blt · l.length)&&amQ l l.length (Sv z)
section
variable{P:Program}{n:Nat}{l:List Oper}{z:Oper}{k:K}{listed:Array Bool}
theorem amR{o:Oper}{j:Nat}:j∈Sv o↔∃e∈o.after,Region.binds .any e=true/\e.on=j:=by grind[Sv]
theorem rdy{md:List Oper}{j:Nat}:j∈Region.ready .any md.toArray listed↔listed.getD j true=false/\∃o,md[j]?=some o/\∀i∈Sv o,listed.getD i false=true:=by
 rw[mem_ready]
 simp only[EB,amR]
 refine and_congr BS (exists_congr fun o=>and_congr BS ⟨fun h i ⟨e,h1,h2,h3⟩=>h3▸h e h1 h2,fun h e h1 h2=>h e.on ⟨e,h1,h2,rfl⟩⟩)
def Gp(l:List Oper)(listed:Array Bool):Prop:=listed.size=l.length/\∀j o,l[j]?=some o->listed.getD j false=true->∀i∈Sv o,listed.getD i false=true
theorem aa9(hc:Gp l listed):∀(i:Nat) (s:List Nat),amQ l i s=true->(∀j∈s,listed.getD j false=true)->∀j,j<i->listed.getD j false=true
 |0,_,_,_,j,hj=>by omega
 |i+1,s,h,hs,j,hj=>by
  simp only[amQ,cG,List.contains_iff_mem]at h
  have hi:=hs i h.1
  by_cases e:j=i
  .subst e;exact hi
  refine aa9 hc i _ h.2 (fun q hq=> ?_) j J
  rcases eI.1 hq with hq|hq
  .exact hs q hq
  .cases ho:l[i]? with
   |none=>rw[ho]at hq;simp at hq
   |some o=>rw[ho]at hq;exact hc.2 i o ho hi q hq
theorem kQ{a:Array Bool}{i j:Nat}{d:Bool}:(a.setIfInBounds i true).getD j d=if i=j/\j<a.size then true else a.getD j d:=by
 rw[wo,Bz,wo]
 by_cases e:i=j
 .subst e
  rw[aS O]
  by_cases h:i<a.size
  .rw[aS h,aS ⟨rfl,h⟩];rfl
  rw[aR h,aR fun q=>h q.2,Xc J]
 rw[aR e,aR fun q=>e q.1]
theorem mQ{a:Array Bool}{b d:Bool}{j:Nat}:(a.push b).getD j d=if j=a.size then b else a.getD j d:=by
 rw[wo,Xj,wo]
 split<;>rfl
theorem Y4{o:Oper}{a:Act}{k':K}{F F':Act->World->Prop}{w:World}(hF:∀a w,F a w->F' a w)(h:o.wp P a w F (rB n k')):o.wp P a w F' (rB n k):=by
 unfold Oper.wp at*
 generalize(execOp a.eval o).run P w=r at*
 cases r with
 |ok x w'=>
  cases x<;>simp only[Oper.upon]at h⊢
  case value=>exact hF _ _ h
  case skip=>exact hF _ _ h
  case defer=>exact hF _ _ h
  case enter=>
   refine Calls.mono h fun e w'' he=> ?_
   cases e with
   |returned v=>exact hF _ _ he
   |panicked c=>exact he
   |outgrown=>exact he
  case row=>exact Rows.mono h fun _ _ he=>hF _ _ he
 |halt x w'=>cases x<;>simp only[Oper.upon]at h⊢<;>exact h
theorem fT{id:Nat}{ops:List Oper}{xs:List (Nat×K)}{r:K}{σ:Env}{w0 w:World}{L L0:List a7}(hm:P.follows .mixedOrders=true)(hz:ops=ops.dropLast++[z])(hc:awX ops.dropLast z=true)(hH:Hp w0 w L)(hs:L0.Sublist L)
  (h:∀w',Hp w0 w' L->AN P n ops.dropLast (fun w=>Hp w0 w L0) (fun σ w=>RL P n ops.toArray k [z] σ w) ops.dropLast.length (Array.replicate ops.dropLast.length false) σ w'):CW P n (.region id ops.toArray true) k xs r σ w:=by
 intro a ha
 refine yT (fun e a' w' hq=> ?_) (XI (id:=id) (Q:=rB n k) hm ?_)
 .cases e with
  |normal=>exact hq
  |exit id=>exact hq.elim
  |ret=>exact hq.elim
  |goto l=>exact hq.elim
  |panic c=>exact hq.elim
  |outgrown=>exact hq.elim
 have h1:=XJ _ _ _ _ (h _ hH.drew a ha)
 generalize hl:ops.dropLast=l at*
 simp only[awX,cG,iN]at hc
 obtain⟨⟨c1,c2⟩,c3⟩:=hc
 have gl:∀{j o},l[j]?=some o->(∀i∈Sv o,i<j)/\∀g,o.guard=some g->g.1<l.length:=fun{j o} ho=>by
  have hmem:(o,j)∈l.zipIdx:=by
   rw[Xf];exact⟨j,by simp[ho]⟩
  have:=c1 _ hmem
  refine⟨fun i hi=>by simpa using this.1 i hi,fun g hg=> ?_⟩
  have h2:=this.2
  rw[hg]at h2
  simpa using h2
 have get:∀{j},j<l.length->ops[j]?=l[j]?:=fun{j} hj=>by rw[hz,yK hj]
 have ar4:ops[l.length]?=some z:=by rw[hz,Ez (er _),Rm];rfl
 have hlen:ops.length=l.length+1:=by rw[hz];simp
 have key:∀(fuel:Nat) (gA:Array Bool) (a:Act) (w:World),Gp l gA->wpAny P .any l.toArray (rB n fun σ w=>RL P n ops.toArray k [z] σ w) fuel gA a w->wpAny P .any ops.toArray (rB n k) (fuel+1) (gA.push false) a w:=by
  intro fuel
  have last:∀(fuel:Nat) (gA:Array Bool) (a:Act) (w:World),Gp l gA->(∀j,j<l.length->gA.getD j false=true)->rB n (fun σ w=>RL P n ops.toArray k [z] σ w) .normal a w->wpAny P .any ops.toArray (rB n k) (fuel+1) (gA.push false) a w:=by
   intro fuel gA a w kD hall hr
   have hsz:=kD.1
   refine⟨fun he=> ?_,fun i hi=> ?_⟩
   .have:l.length∈Region.ready .any ops.toArray (gA.push false):=by
     rw[rdy]
     refine⟨by rw[mQ,hsz,aS O],z,ar4,fun i hi=> ?_⟩
     have hi2:i<l.length:=by simpa using c2 i hi
     rw[mQ,aR J]
     exact hall i hi2
    rw[he]at this;cases this
   rw[rdy]at hi
   obtain⟨h0,o,ho,_⟩:=hi
   have hio:i=l.length:=by
    by_cases e:i=l.length
    .exact e
    have hlt:i<ops.length:=(m8.1 ho).1
    have aDV:i<l.length:=J
    rw[mQ,aR J]at h0
    have h3:=hall i aDV
    rw[wo]at h0 h3
    cases hq:gA[i]? with
    |none=>rw[hq]at h3;cases h3
    |some b=>rw[hq]at h0 h3;cases b<;>simp_all
   subst hio
   obtain⟨σ',hi',hrl⟩:=hr
   have:=hrl a hi'
   unfold wpOp
   rw[EB,ar4]
   simp only[wpList]at this
   show(if Region.wanted z (yielded ops.toArray a.tmps)=true then _ else _)
   have done:∀a w,rB n k .normal a w->wpAny P .any ops.toArray (rB n k) fuel ((gA.push false).setIfInBounds l.length true) a w:=fun a w hq=>by
    have he:Region.ready .any ops.toArray ((gA.push false).setIfInBounds l.length true)=[]:=by
     rw[QW]
     intro j hj
     rw[rdy]at hj
     obtain⟨h0,o,ho,_⟩:=hj
     have hlt:j<ops.length:=(m8.1 ho).1
     rw[kQ,mQ]at h0
     by_cases e:l.length=j
     .rw[aS ⟨e,by rw[Array.size_push];omega⟩]at h0;cases h0
     rw[aR fun q=>e q.1,aR J]at h0
     have h3:=hall j J
     rw[wo]at h0 h3
     cases hq:gA[j]? with
     |none=>rw[hq]at h3;cases h3
     |some b=>rw[hq]at h0 h3;cases b<;>simp_all
    cases fuel with
    |zero=>exact⟨he,hq⟩
    |succ f=>exact⟨fun _=>hq,fun i hi=>by rw[he]at hi;cases hi⟩
   split
   .rename_i hw
    rw[aS hw]at this
    refine this.imp (fun q=>Oper.wp_mono (fun a w h=>done a w h) q) fun q=>q
   rename_i hw
   rw[aR hw]at this
   exact done _ _ this
  have fin:∀(gA:Array Bool),Gp l gA->Region.ready .any l.toArray gA=[]->∀j,j<l.length->gA.getD j false=true:=by
   intro gA kD he j
   induction j using Nat.strongRecOn with
   |_ j ih=>
    intro hj
    cases hq:gA.getD j false with
    |true=>rfl
    |false=>
     have hmem:j∈Region.ready .any l.toArray gA:=by
      rw[rdy]
      refine⟨?_,l[j],ep hj,fun i hi=> ?_⟩
      .rw[wo,ae3 (by rw[kD.1];exact hj)]at hq⊢;exact hq
      have:=(gl (ep hj)).1 i hi
      exact ih i this J
     rw[he]at hmem;cases hmem
  induction fuel with
  |zero=>intro gA a w kD hw;exact last 0 gA a w kD (fin gA kD hw.1) hw.2
  |succ fuel ih=>
   intro gA a w kD hw
   have hsz:=kD.1
   by_cases he:Region.ready .any l.toArray gA=[]
   .exact last _ gA a w kD (fin gA kD he) (hw.1 he)
   refine⟨fun hn=> ?_,fun i hi=> ?_⟩
   .refine absurd (QW.2 fun j hj=> ?_) he
    have:j∈Region.ready .any ops.toArray (gA.push false):=by
     rw[rdy]at hj⊢
     obtain⟨h0,o,ho,hall⟩:=hj
     have hj2:j<l.length:=(m8.1 ho).1
     refine⟨by rw[mQ,aR J];exact h0,o,by rw[get hj2];exact ho,fun i hi=> ?_⟩
     have:=(gl ho).1 i hi
     rw[mQ,aR J];exact hall i hi
    rw[hn]at this;cases this
   rw[rdy]at hi
   obtain⟨h0,o,ho,hall⟩:=hi
   have hlt:i<ops.length:=(m8.1 ho).1
   by_cases e:i=l.length
   ·
    exfalso
    subst e
    rw[ar4]at ho
    injection ho with ho
    subst ho
    have Ck:∀j,j<l.length->gA.getD j false=true:=aa9 kD l.length _ c3 fun j hj=>by
     have h3:=hall j hj
     have hj2:j<l.length:=by simpa using c2 j hj
     rw[mQ,aR J]at h3;exact h3
    refine he (QW.2 fun j hj=> ?_)
    rw[rdy]at hj
    obtain⟨g0,o,go,_⟩:=hj
    have hj2:j<l.length:=(m8.1 go).1
    have h3:=Ck j hj2
    rw[wo]at g0 h3
    cases hq:gA[j]? with
    |none=>rw[hq]at h3;cases h3
    |some b=>rw[hq]at g0 h3;cases b<;>simp_all
   have hi2:i<l.length:=J
   rw[get hi2]at ho
   have hrd:i∈Region.ready .any l.toArray gA:=by
    rw[rdy]
    refine⟨by rw[mQ,aR J]at h0;exact h0,o,ho,fun j hj=> ?_⟩
    have:=(gl ho).1 j hj
    have h3:=hall j hj
    rw[mQ,aR J]at h3;exact h3
   have hop:=hw.2 i hrd
   have amS:Gp l (gA.setIfInBounds i true):=by
    refine⟨by rw[Xa];exact hsz,fun j p hp hj q hq=> ?_⟩
    rw[kQ]at hj⊢
    by_cases e2:i=q/\q<gA.size
    .rw[aS e2]
    rw[aR e2]
    by_cases e3:i=j
    .subst e3
     rw[ho]at hp;injection hp with hp;subst hp
     have:=(gl ho).1 q hq
     have h3:=hall q hq
     rw[mQ,aR J]at h3;exact h3
    rw[aR fun c=>e3 c.1]at hj
    exact kD.2 j p hp hj q hq
   have ao9:(gA.push false).setIfInBounds i true=(gA.setIfInBounds i true).push false:=by
    apply Q6
    intro j
    rw[Bz,Xj,Xj,Bz,Xa,Array.size_push]
    by_cases e2:i=j
    .subst e2;rw[aS O,aS J,aR J,aS O,aS J]
    rw[aR e2,aR e2]
   have hgd:Region.wanted o (yielded ops.toArray a.tmps)=Region.wanted o (yielded l.toArray a.tmps):=by
    unfold Region.wanted
    cases hg:o.guard with
    |none=>rfl
    |some g=>
     obtain⟨gi,gw⟩:=g
     have:=(gl ho).2 _ hg
     simp only[yielded,EB]
     rw[get this]
   unfold wpOp at hop⊢
   rw[EB]at hop⊢
   rw[get hi2]
   rw[ho]at hop⊢
   simp only[hgd]at*
   split
   .rename_i hwn
    rw[aS hwn]at hop
    rcases hop with hop|hop
    .refine .inl (Y4 (fun a w hq=> ?_) hop)
     rw[ao9];exact ih _ a w amS hq
    exact .inr ⟨hop.1,hop.2⟩
   rename_i hwn
   rw[aR hwn]at hop
   rw[ao9];exact ih _ _ w amS hop
 have awY:=key l.length (Array.replicate l.length false) a _ ⟨aF,fun j o _ hj=>by
  rw[wo,ae4]at hj
  split at hj<;>cases hj⟩ h1
 rw[show(Array.replicate l.length false).push false=Array.replicate (l.length+1) false by rw[<-Array.replicate_succ],<-hlen]at awY
 simpa using awY
end
end
end Go.Proofs.YtlhjdflgjbkpmaaGreatDoor.E
namespace Go.Proofs.YtlhjdflgjbkpmaaGreatDoor.M
section
open Go
def ID(n:Nat)(cl:List Nat)(i j:Int):Prop:=(0<=i/\i<n)/\(0<=j/\j<n)/\ct cl i.toNat≠ct cl j.toNat
structure UnP(nd:List qa)(cl:List Nat)(i j:Int)(a b:Nat):Prop where
 ok:ID nd.length cl i j
 ha:a<nd.length
 hb:b<nd.length
 ab:a≠b
 ua:r6 nd a=a
 ub:r6 nd b=b
 c:ct cl a=ct cl i.toNat/\ct cl b=ct cl j.toNat\/ct cl a=ct cl j.toNat/\ct cl b=ct cl i.toNat
section
variable{nd:List qa}{cl:List Nat}{i j:Int}{a b:Nat}
theorem U9(h:Fo nd cl)(hi:0<=i/\i<nd.length)(hj:0<=j/\j<nd.length)(hne:((oJ nd cl i.toNat:Nat):Int)≠(oJ nd cl j.toNat:Nat)):UnP nd cl i j (oJ nd cl i.toNat) (oJ nd cl j.toNat):=by
 obtain⟨a1,a2,a3⟩:=o6 h (i:=i.toNat) J
 obtain⟨b1,b2,b3⟩:=o6 h (i:=j.toNat) J
 have hab:oJ nd cl i.toNat≠oJ nd cl j.toNat:=fun e=>hne (aJ _ e)
 exact⟨⟨hi,hj,fun e=>hab ((PW h a1 b1 a2 b2 a3 b3).2 e)⟩,a1,b1,hab,a2,b2,.inl ⟨a3,b3⟩⟩
theorem UnP.swap(h:UnP nd cl i j a b):UnP nd cl i j b a:=by grind[UnP]
theorem ar5(h:¬(0<=i/\i<nd.length)):¬ID nd.length cl i j:=fun q=>h q.1
theorem ar6(h:¬(0<=j/\j<nd.length)):¬ID nd.length cl i j:=fun q=>h q.2.1
theorem ar7(h:Fo nd cl)(hi:0<=i/\i<nd.length)(hj:0<=j/\j<nd.length)(e:((oJ nd cl i.toNat:Nat):Int)=(oJ nd cl j.toNat:Nat)):¬ID nd.length cl i j:=fun q=>q.2.2 (by
 obtain⟨a1,a2,a3⟩:=o6 h (i:=i.toNat) J
 obtain⟨b1,b2,b3⟩:=o6 h (i:=j.toNat) J
 exact(PW h a1 b1 a2 b2 a3 b3).1 J)
theorem apb{v:Nat}(h:a<nd.length)(e:kA nd a=v)(hv:v<=1000000):((bD nd).getD (4*(a:Int)+1).toNat 0).toInt=(v:Int):=Sr ⟨J,J⟩ ((awR h).trans (by rw[e])) hv
theorem apc{v:Nat}(h:a<nd.length)(e:sW nd a=v)(hv:v<=1000000):((bD nd).getD (4*(a:Int)+2).toNat 0).toInt=(v:Int):=Sr ⟨J,J⟩ ((ao0 h).trans (by rw[e])) hv
theorem apd{v:Nat}(h:a<nd.length)(e:qq nd a=v)(hv:v<=1000000):((bD nd).getD (4*(a:Int)+3).toNat 0).toInt=(v:Int):=Sr ⟨J,J⟩ ((ao1 h).trans (by rw[e])) hv
theorem Fo.small(h:Fo nd cl)(ha:a<nd.length):kA nd a<=nd.length/\sW nd a<=nd.length:=⟨h.sn a ha,by obtain⟨_,_,t,_,q⟩:=h.szb ha;omega⟩
theorem Fo.ahR(h:Fo nd cl)(ha:a<nd.length)(hu:r6 nd a=a):qq nd a<=nd.length:=by grind[Fo,r6,qq]
theorem awZ(h:Fo nd cl)(p:UnP nd cl i j a b):Fo (o8 nd a b) (iy cl (ct cl i.toNat) (ct cl j.toNat))/\leads (iy cl (ct cl i.toNat) (ct cl j.toNat))+1=leads cl:=by
 have h1:=h.join p.ha p.hb p.ab p.ua p.ub
 have h2:=YU h p.ha p.hb p.ab p.ua p.ub
 rcases p.c with⟨e1,e2⟩|⟨e1,e2⟩
 .rw[e1,e2]at h1 h2;exact⟨h1,h2⟩
 rw[e1,e2,YV]at h1 h2;exact⟨h1,h2⟩
theorem IE{x y:Nat}:(iy cl x y).length=cl.length:=by simp[iy]
end
theorem ar8{W:List (BitVec 64)}{us:List jD}{tn:List Nat}{cs:List (List Nat)}(h:Hs W us tn cs)(hk:0<tn.length):∃t tn2 cl c2 cs2,tn=t::tn2/\cs=cl::c2::cs2:=by
 cases tn with
 |nil=>simp at hk
 |cons t tn2=>
  cases cs with
  |nil=>exact h.elim
  |cons cl cs=>
   cases cs with
   |nil=>exact h.elim
   |cons c2 cs2=>exact⟨t,tn2,cl,c2,cs2,rfl,rfl⟩
def JT(tn:List Nat):List Int:=tn.reverse.map Int.ofNat
theorem wM(tn:List Nat):(JT tn).length=tn.length:=by simp[JT]
theorem Gq(t:Nat)(tn:List Nat):JT (t::tn)=JT tn++[(t:Int)]:=by simp[JT]
theorem ar9{t:Nat}{tn:List Nat}{k:Int}(h:k=(tn.length:Int)):((JT (t::tn)).map E.I)[k.toNat*1]?=some (E.I t):=by grind[Gq,wM]
theorem Vb{t:Nat}{tn:List Nat}:((JT (t::tn)).map E.I).take (tn.length*1)=(JT tn).map E.I:=by grind[Gq,wM]
theorem amT{W:List (BitVec 64)}{us:List jD}{t:Nat}{tn:List Nat}{cl c2:List Nat}{cs:List (List Nat)}(h:Hs W us (t::tn) (cl::c2::cs)):∃nd nd2,W=bD nd/\Fo nd cl/\js W us t=bD nd2/\Fo nd2 c2/\Hs (bD nd2) (us.take t) tn (c2::cs):=by
 obtain⟨nd,h1,h2⟩:=h.now
 obtain⟨nd2,h3,h4⟩:=h.back.now
 have:=h.back
 rw[h3]at this
 exact⟨nd,nd2,h1,h2,h3,h4,this⟩
theorem MP(cl:List Nat):leads cl<=cl.length:=by grind[leads,ct]
theorem Hs.Y5{W:List (BitVec 64)}{us:List jD}{tn:List Nat}{cs:List (List Nat)}{cl:List Nat}(h:Hs W us tn (cl::cs)):cl.length<=tn.length:=by
 induction tn generalizing W us cl cs with
 |nil=>
  cases cs with
  |nil=>obtain⟨_,rfl,_⟩:=h;simp
  |cons c cs=>exact h.elim
 |cons t tn ih=>
  cases cs with
  |nil=>exact h.elim
  |cons c2 cs=>
   have h1:=ih h.back
   have h2:=h.cnt
   unfold Gk at h2
   simp only[eR];omega
structure Gr(ul lT:List (Value×jD))(tn Jv:List Nat)(cs Ff:List (List Nat))(W1:List (BitVec 64)):Prop where
 hs:Hs W1 (lT.map Prod.snd) Jv Ff
 ok:MG W1.length (lT.map Prod.snd)
 sub:∀x∈lT,x∈ul
 le:lT.length<=ul.length
 cs:Ff=cs.drop (tn.length-Jv.length)
 tn:Jv.length<=tn.length
section
variable{ul lT:List (Value×jD)}{tn Jv:List Nat}{cs Ff:List (List Nat)}{W1:List (BitVec 64)}
theorem Gr.start(h:Hs W1 (ul.map Prod.snd) tn cs)(hok:MG W1.length (ul.map Prod.snd)):Gr ul ul tn tn cs cs W1:=by grind[Hs,MG,Gr]
theorem Gr.next{t:Nat}{cl c2:List Nat}{cs2:List (List Nat)}{nd2:List qa}(h:Gr ul lT tn (t::Jv) cs (cl::c2::cs2) W1)(e:js W1 (lT.map Prod.snd) t=bD nd2):Gr ul (lT.take t) tn Jv cs (c2::cs2) (bD nd2):=by
 have ht:=h.hs.le
 rw[gB]at ht
 have hb:=h.hs.back
 rw[e,<-BI]at hb
 have ho:=UQ h.ok (t:=t) (by rw[gB];exact ht)
 rw[e,<-BI]at ho
 have hn:=h.tn
 rw[eR]at hn
 refine⟨hb,ho,fun x hx=>h.sub x (rH hx),by rw[eP];have:=h.le;omega,?_,J⟩
 have hc:=h.cs
 rw[eR]at hc
 rw[show tn.length-Jv.length=tn.length-(Jv.length+1)+1 by omega,<-Rg,<-hc];rfl
end
end
end Go.Proofs.YtlhjdflgjbkpmaaGreatDoor.M
namespace Go.Proofs.YtlhjdflgjbkpmaaGreatDoor.E
section
open Go Go.RowKit Go.Proofs.YtlhjdflgjbkpmaaGreatDoor.M
theorem Hp.amU{w0 w:World}{L:List a7}{v:Value}{e:TypeId}{sz n m i:Nat}{xs:List Value}(h:Hp w0 w L)(hi:L[i]?=some (.row v e sz n xs))(hm:m<=n):Hp w0 w (L.set i (.row (q7 v m) e sz m (xs.take (m*sz)))):=by
 have hr:w.ownsRow w0.heap.size e sz v n xs:=h.get hi
 obtain⟨h1,h2⟩:=hr
 have hle:m*sz<=n*sz:=ry _ hm
 rcases h2 with⟨rfl,rfl⟩|⟨gb,cap,cur,rfl,hb,hg,hn,hc,hs,ht⟩
 .have:m=0:=J
  subst this
  refine h.wL hi O ⟨aF,.inl ⟨rfl,rfl⟩⟩
 refine h.wL hi O ⟨by rw[eP,h1];omega,.inr ⟨gb,cap,cur,rfl,hb,hg,J,hc,hs,?_⟩⟩
 rw[<-ht,BG];congr 1;omega
end
end Go.Proofs.YtlhjdflgjbkpmaaGreatDoor.E
namespace Go.Proofs.YtlhjdflgjbkpmaaGreatDoor.M
section
open Go
def bq(cs:List (List Nat)):List Nat:=cs.headD []
def Sw(cs:List (List Nat)):List (List Nat):=(bq cs++[(bq cs).length])::cs
def jc(cs:List (List Nat))(i j:Int):List (List Nat)×Bool:=
 if fw (bq cs) i<0\/fw (bq cs) j<0\/fw (bq cs) i=fw (bq cs) j then(cs,false)
 else(iy (bq cs) (fw (bq cs) i).toNat (fw (bq cs) j).toNat::cs,true)
def Cl(cs:List (List Nat))(m:Int):List (List Nat)×Bool:=
 if(cs.length:Int)-1<m then(cs,false)else(cs.drop (cs.length-1-(max 0 m).toNat),true)
theorem adK{cl:List Nat}{i:Int}:fw cl i<0↔¬(0<=i/\i<cl.length):=by grind[fw]
theorem IF{cs:List (List Nat)}{i j:Int}(h:ID (bq cs).length (bq cs) i j):jc cs i j=(iy (bq cs) (ct (bq cs) i.toNat) (ct (bq cs) j.toNat)::cs,true):=by grind[ID,bq,jc,iy,ct,mG]
theorem MQ{cs:List (List Nat)}{i j:Int}(h:¬ID (bq cs).length (bq cs) i j):jc cs i j=(cs,false):=by grind[ID,bq,jc,mG,adK]
end
end Go.Proofs.YtlhjdflgjbkpmaaGreatDoor.M
namespace Go.Proofs.YtlhjdflgjbkpmaaGreatDoor.E
section
open Go Go.RowKit Go.Proofs.YtlhjdflgjbkpmaaGreatDoor.M
structure FTy where
 ut:UT
 tf:TypeId
 tu:TypeId
 tfn:TypeId
 ti:TypeId
structure FoI(T:FTy)(F m:Nat)(cs:List (List Nat))(vW vU vT:Value)(cW cU:Option (Nat×Array Value))(W:List (BitVec 64))(ul:List (Value×jD))(tn:List Nat)(Lb:List a7):Prop where
 hW:cO cW vW (W.map U)
 hU:cO cU vU (ul.map Prod.fst)
 hs:Hs W (ul.map Prod.snd) tn cs
 ok:MG W.length (ul.map Prod.snd)
 un:∀x∈ul,o9 T.ut F Lb x
 lu:ul.length<=5*m
 lt:tn.length<=m
def foL(T:FTy)(F:Nat)(cs:List (List Nat))(vW vU vT:Value)(cW cU:Option (Nat×Array Value))(W:List (BitVec 64))(ul:List (Value×jD))(tn:List Nat)(Lb:List a7):List a7:=
 .blk F (.cells #[vW,vU,vT,I ((leads (bq cs):Nat):Int)] T.tf (0,0))::cE cW vW T.tu (W.map U)::cE cU vU T.tfn (ul.map Prod.fst):: .row vT T.ti 1 tn.length ((JT tn).map I)::Lb
def FoZ(T:FTy)(F m:Nat)(cs:List (List Nat))(Z:List a7):Prop:=
 ∃(vW vU vT:Value) (cW cU:Option (Nat×Array Value)) (W:List (BitVec 64)) (ul:List (Value×jD)) (tn:List Nat) (Lb:List a7),Z=foL T F cs vW vU vT cW cU W ul tn Lb/\FoI T F m cs vW vU vT cW cU W ul tn Lb
theorem FoZ.more{T:FTy}{F m m':Nat}{cs:List (List Nat)}{Z:List a7}(h:FoZ T F m cs Z)(hm:m<=m'):FoZ T F m' cs Z:=by
 obtain⟨vW,vU,vT,cW,cU,W,ul,tn,Lb,e,i⟩:=h
 exact⟨vW,vU,vT,cW,cU,W,ul,tn,Lb,e,i.hW,i.hU,i.hs,i.ok,i.un,by have:=i.lu;omega,by have:=i.lt;omega⟩
theorem FoI.now{T:FTy}{F m:Nat}{cs:List (List Nat)}{vW vU vT:Value}{cW cU:Option (Nat×Array Value)}{W:List (BitVec 64)}{ul:List (Value×jD)}{tn:List Nat}{Lb:List a7}(h:FoI T F m cs vW vU vT cW cU W ul tn Lb):
  ∃nd cl Av,cs=cl::Av/\W=bD nd/\Fo nd cl/\nd.length=cl.length/\cl.length<=m/\tn.length+1=cs.length/\leads cl<=m:=by
 cases cs with
 |nil=>exact h.hs.ne.elim
 |cons cl Av=>
  obtain⟨nd,h1,h2⟩:=h.hs.now
  have h3:=h.hs.Y5;have h4:=h.lt;have h5:=MP cl;have h6:=h.hs.len
  exact⟨nd,cl,Av,rfl,h1,h2,h2.len.symm,J,J,J⟩
theorem FoZ.new{T:FTy}{F:Nat}:FoZ T F 0 [[]] [.blk F (.cells #[.slice none 0 0,.slice none 0 0,.slice none 0 0,I 0] T.tf (0,0)),.row (.slice none 0 0) T.tu 1 0 [],.row (.slice none 0 0) T.tfn 1 0 [],.row (.slice none 0 0) T.ti 1 0 []]:=by
 refine⟨.slice none 0 0,.slice none 0 0,.slice none 0 0,none,none,[],[],[],[],rfl,trivial,trivial,Hs.start,trivial,fun x hx=>(by cases hx),aF,aF⟩
section
variable{α:Type}{f:α->Value}{cl:α->List Value}{l:List α}{a:α}
theorem ahT{k:Nat}(hk:k<l.length):rX (l.map f) (k*1) [f a]=(l.set k a).map f:=by simp_all[Ci]
theorem IG{sz:Nat}(hsz:∀a,(cl a).length=sz):∀{l:List α} {k:Nat},k<l.length->rX (l.flatMap cl) (k*sz) (cl a)=(l.set k a).flatMap cl
 |[],k,h=>by simp at h
 |b::l,0,h=>by
  simp only[rX,Ro,wY,eC,ia,tS,iM,hsz]
  rw[KU (by rw[hsz];exact er _),KZ (by rw[hsz];exact er _),eC]
 |b::l,k+1,h=>by
  have ih:=IG hsz (l:=l) (k:=k) xl
  have hb:=hsz b
  simp only[rX,hsz,tS,kL]at ih⊢
  rw[<-ih,show(k+1)*sz=(cl b).length+k*sz by rw[hb,kT];omega,W6,show(cl b).length+k*sz+sz=(cl b).length+(k*sz+sz)by omega,List.drop_length_add_append,dG,dG,dG]
theorem P8{sz:Nat}(hsz:∀a,(cl a).length=sz):∀{l:List α} {m:Nat},m<=l.length->(l.flatMap cl).take (m*sz)=(l.take m).flatMap cl
 |l,0,h=>by simp
 |[],m+1,h=>by simp at h
 |b::l,m+1,h=>by
  have ih:=P8 hsz (l:=l) (m:=m) xl
  have hb:=hsz b
  rw[tS,Ho,tS,<-ih,show(m+1)*sz=(cl b).length+m*sz by rw[hb,kT];omega,W6]
end
section
variable{P:Program}{n:Nat}{ops:Array Oper}{k:K}{rest lo:List Oper}{σ:Env}{w0 w:World}{L L':List a7}{ty t e:TypeId}{pos:String}{bK:Array Edge}{d:Nat}{x y:Operand}{g:Option (Nat×Bool)}{v u:Value}{sz m i fuel j:Nat}{q:Int}{dst:Option Tmp}{listed:Array Bool}
variable{α:Type}{f:α->Value}{cl:α->List Value}{l:List α}{a:α}
abbrev jG(f:α->Value)(v:Value)(e:TypeId)(l:List α):a7:= .row v e 1 l.length (l.map f)
abbrev vh(cl:α->List Value)(sz:Nat)(v:Value)(e:TypeId)(l:List α):a7:= .row v e sz l.length (l.flatMap cl)
theorem abb(hH:Hp w0 w L)(hi:L[i]?=some (jG f v e l))(hk:0<=q/\q<l.length)(hx:ev σ x= .pointer (some ⟨sb v,so v+q.toNat*1,none⟩))(hy:ev σ y=f a)(hv:(f a).cells=#[f a])(h1:(f a).oneCell'=true)(hs:(P.info? t).map (·.size)=some 1):
  ∃w',(execOp (ev σ) ⟨dst,.store t x y,ty,pos,bK,g⟩).run P w= .ok .skip w'/\Hp w0 w' (L.set i (jG f v e (l.set q.toNat a))):=by
 obtain⟨w',hr,h2⟩:=Gi (dst:=dst) (ty:=ty) (pos:=pos) (bK:=bK) (g:=g) hH hi J hx hy hv h1 hs J
 rw[ahT J]at h2
 exact⟨w',hr,by unfold jG;rw[m9];exact h2⟩
theorem qN(hH:Hp w0 w L)(hi:L[i]?=some (jG f v e l))(hk:0<=q/\q<l.length)(hx:ev σ x= .pointer (some ⟨sb v,so v+q.toNat*1,none⟩))(hy:ev σ y=f a)(hv:(f a).cells=#[f a])(h1:(f a).oneCell'=true)(hs:(P.info? t).map (·.size)=some 1)
  (hn:∀w',Hp w0 w' (L.set i (jG f v e (l.set q.toNat a)))->RL P n ops k rest σ w'):RL P n ops k (⟨none,.store t x y,ty,pos,bK,none⟩::rest) σ w:=by
 obtain⟨w',hr,h2⟩:=abb (dst:=none) (ty:=ty) (pos:=pos) (bK:=bK) (g:=none) hH hi hk hx hy hv h1 hs
 exact Lv hr (hn w' h2)
theorem Y6(hj:lo[j]?=some ⟨none,.store t x y,ty,pos,bK,g⟩)(hg:∀a,Is n σ a->Region.wanted ⟨none,.store t x y,ty,pos,bK,g⟩ (yielded lo.toArray a.tmps)=true)(hH:Hp w0 w L)(hi:L[i]?=some (jG f v e l))(hsub:∀r,L'.Sublist (L.set i r))(hk:0<=q/\q<l.length)
  (hx:ev σ x= .pointer (some ⟨sb v,so v+q.toNat*1,none⟩)) (hy:ev σ y=f a) (hv:(f a).cells=#[f a]) (h1:(f a).oneCell'=true) (hs:(P.info? t).map (·.size)=some 1)
  (hn:∀w',Hp w0 w' (L.set i (jG f v e (l.set q.toNat a)))->AN P n lo (fun w=>Hp w0 w L') k fuel (listed.setIfInBounds j true) σ w'):AO P n lo (fun w=>Hp w0 w L') k fuel listed σ w j:=by
 obtain⟨w',hr,h2⟩:=abb (dst:=none) (ty:=ty) (pos:=pos) (bK:=bK) (g:=g) hH hi hk hx hy hv h1 hs
 exact LD hj hg hr (h2.sub (hsub _)) (hn w' h2)
theorem abc(hsz:∀a,(cl a).length=sz)(hpos:0<sz)(hH:Hp w0 w L)(hi:L[i]?=some (vh cl sz v e l))(hk:0<=q/\q<l.length)(hx:ev σ x= .pointer (some ⟨sb v,so v+q.toNat*sz,none⟩))(hy:ev σ y= .agg (cl a).toArray)(h1:∀u∈cl a,u.oneCell'=true)(hs:(P.info? t).map (·.size)=some sz):
  ∃w',(execOp (ev σ) ⟨dst,.store t x y,ty,pos,bK,g⟩).run P w= .ok .skip w'/\Hp w0 w' (L.set i (vh cl sz v e (l.set q.toNat a))):=by
 obtain⟨w',hr,h2⟩:=arz (dst:=dst) (ty:=ty) (pos:=pos) (bK:=bK) (g:=g) hH hi J hx hy h1 (by rw[hsz];exact hs) (by
  rw[hsz]
  have:(q.toNat+1)*sz<=l.length*sz:=ry _ J
  rw[kT]at this;omega)
 rw[IG hsz J]at h2
 exact⟨w',hr,by unfold vh;rw[m9];exact h2⟩
theorem aDW(hsz:∀a,(cl a).length=sz)(hpos:0<sz)(hH:Hp w0 w L)(hi:L[i]?=some (vh cl sz v e l))(hk:0<=q/\q<l.length)(hx:ev σ x= .pointer (some ⟨sb v,so v+q.toNat*sz,none⟩))(hy:ev σ y= .agg (cl a).toArray)(h1:∀u∈cl a,u.oneCell'=true)(hs:(P.info? t).map (·.size)=some sz)
  (hn:∀w',Hp w0 w' (L.set i (vh cl sz v e (l.set q.toNat a)))->RL P n ops k rest σ w'):RL P n ops k (⟨none,.store t x y,ty,pos,bK,none⟩::rest) σ w:=by
 obtain⟨w',hr,h2⟩:=abc (dst:=none) (ty:=ty) (pos:=pos) (bK:=bK) (g:=none) hsz hpos hH hi hk hx hy h1 hs
 exact Lv hr (hn w' h2)
theorem Y7(hj:lo[j]?=some ⟨none,.store t x y,ty,pos,bK,g⟩)(hg:∀a,Is n σ a->Region.wanted ⟨none,.store t x y,ty,pos,bK,g⟩ (yielded lo.toArray a.tmps)=true)(hsz:∀a,(cl a).length=sz)(hpos:0<sz)(hH:Hp w0 w L)(hi:L[i]?=some (vh cl sz v e l))(hsub:∀r,L'.Sublist (L.set i r))(hk:0<=q/\q<l.length)
  (hx:ev σ x= .pointer (some ⟨sb v,so v+q.toNat*sz,none⟩)) (hy:ev σ y= .agg (cl a).toArray) (h1:∀u∈cl a,u.oneCell'=true) (hs:(P.info? t).map (·.size)=some sz)
  (hn:∀w',Hp w0 w' (L.set i (vh cl sz v e (l.set q.toNat a)))->AN P n lo (fun w=>Hp w0 w L') k fuel (listed.setIfInBounds j true) σ w'):AO P n lo (fun w=>Hp w0 w L') k fuel listed σ w j:=by
 obtain⟨w',hr,h2⟩:=abc (dst:=none) (ty:=ty) (pos:=pos) (bK:=bK) (g:=g) hsz hpos hH hi hk hx hy h1 hs
 exact LD hj hg hr (h2.sub (hsub _)) (hn w' h2)
theorem amV{off:Nat}{b:α}(hsz:∀a,(cl a).length=sz)(hH:Hp w0 w L)(hi:L[i]?=some (vh cl sz v e l))(hk:0<=q/\q<l.length)(hx:ev σ x= .pointer (some ⟨sb v,so v+q.toNat*sz+off,none⟩))(hy:ev σ y=u)(hv:u.cells=#[u])(h1:u.oneCell'=true)(hs:(P.info? t).map (·.size)=some 1)
  (ho:off<sz) (hb:cl b=(cl (l.getD q.toNat a)).set off u):
  ∃w',(execOp (ev σ) ⟨dst,.store t x y,ty,pos,bK,g⟩).run P w= .ok .skip w'/\Hp w0 w' (L.set i (vh cl sz v e (l.set q.toNat b))):=by
 have hle:(q.toNat+1)*sz<=l.length*sz:=ry _ J
 rw[kT]at hle
 obtain⟨w',hr,h2⟩:=Gi (dst:=dst) (ty:=ty) (pos:=pos) (bK:=bK) (g:=g) (o:=q.toNat*sz+off) hH hi J (by rw[hx,yQ]) hy hv h1 hs J
 have e1:rX (l.flatMap cl) (q.toNat*sz+off) [u]=rX (l.flatMap cl) (q.toNat*sz) (cl b):=by
  rw[Ci (by rw[fq hsz];omega)]
  apply tj
  intro p
  have hg:=fun j c h=>flat_get hsz l q.toNat (l.getD q.toNat a) (fG hk.1 hk.2) j c h
  rw[pD,fq hsz]
  have lb:=hsz b
  unfold rX
  by_cases h1:p<q.toNat*sz
  .rw[aR J,dG,yK (by rw[eP,fq hsz];omega),uF,aS h1]
  by_cases h2:p<q.toNat*sz+sz
  .rw[dG,Ez (by rw[eP,fq hsz];omega),eP,fq hsz,rz J,yK J,hb,pD,hsz]
   by_cases h3:q.toNat*sz+off=p
   .rw[aS h3,aS J,aS J,aS J]
   rw[aR h3,aR J]
   have hl:p-q.toNat*sz<(cl (l.getD q.toNat a)).length:=by rw[hsz];omega
   have:=hg (p-q.toNat*sz) _ (ep hl)
   rw[show q.toNat*sz+(p-q.toNat*sz)=p by omega]at this
   rw[this,ep hl]
  rw[aR J,Ez (by simp only[cZ,eP,fq hsz,lb];omega),BD]
  congr 1
  simp only[cZ,eP,fq hsz,lb];omega
 rw[e1,IG hsz J]at h2
 exact⟨w',hr,by unfold vh;rw[m9];exact h2⟩
theorem asa{off:Nat}{b:α}(hsz:∀a,(cl a).length=sz)(hH:Hp w0 w L)(hi:L[i]?=some (vh cl sz v e l))(hk:0<=q/\q<l.length)(hx:ev σ x= .pointer (some ⟨sb v,so v+q.toNat*sz+off,none⟩))(hy:ev σ y=u)(hv:u.cells=#[u])(h1:u.oneCell'=true)(hs:(P.info? t).map (·.size)=some 1)
  (ho:off<sz) (hb:cl b=(cl (l.getD q.toNat a)).set off u) (hn:∀w',Hp w0 w' (L.set i (vh cl sz v e (l.set q.toNat b)))->RL P n ops k rest σ w'):RL P n ops k (⟨none,.store t x y,ty,pos,bK,none⟩::rest) σ w:=by
 obtain⟨w',hr,h2⟩:=amV (dst:=none) (ty:=ty) (pos:=pos) (bK:=bK) (g:=none) (a:=a) hsz hH hi hk hx hy hv h1 hs ho hb
 exact Lv hr (hn w' h2)
theorem asb{ie:TypeInfo}{z:Value}{bytes:Nat}(hd:Nat.blt d n=true)(hH:Hp w0 w L)(hL:L[i]?=some (jG f v e l))(hS:Sl w u 1 1 [f a])(hx:ev σ x=v)(hy:ev σ y=u)(ht:P.underlying t=some (.slice e))(hie:P.info? e=some ie)(hz:ie.zero=some z)
  (hsize:ie.size=1) (hby:ie.bytes=bytes) (hzs:z.cells.size=1) (h1:(f a).oneCell'=true) (hb:l.length+1<=700000000000) (JL:bytes<=200)
  (hn:∀v' w',Hp w0 w' (L.set i (jG f v' e (l++[a])))->RL P n ops k rest (lG σ d v') w'):RL P n ops k (⟨some d,.call {callee:= .builtin .append,args:=#[x,y],argTypes:=#[t,t]},ty,pos,bK,none⟩::rest) σ w:=by
 refine jI hd hH hL hS hx hy ht hie hz hsize hby hzs J (fun u hu=>by rw[dY.1 hu];exact h1) (kM (xd hb JL) az) gC fun v' w' h=>hn v' w' ?_
 unfold jG;rw[cZ,gz];exact h
theorem Sy{ie:TypeInfo}{z:Value}{bytes:Nat}(hj:lo[j]?=some ⟨some d,.call {callee:= .builtin .append,args:=#[x,y],argTypes:=#[t,t]},ty,pos,bK,g⟩)(hg:∀a,Is n σ a->Region.wanted ⟨some d,.call {callee:= .builtin .append,args:=#[x,y],argTypes:=#[t,t]},ty,pos,bK,g⟩ (yielded lo.toArray a.tmps)=true)
  (hd:Nat.blt d n=true) (hH:Hp w0 w L) (hL:L[i]?=some (jG f v e l)) (hsub:∀r,L'.Sublist (L.set i r)) (hS:Sl w u 1 1 [f a]) (hx:ev σ x=v) (hy:ev σ y=u) (ht:P.underlying t=some (.slice e)) (hie:P.info? e=some ie) (hz:ie.zero=some z)
  (hsize:ie.size=1) (hby:ie.bytes=bytes) (hzs:z.cells.size=1) (h1:(f a).oneCell'=true) (hb:l.length+1<=700000000000) (JL:bytes<=200)
  (hn:∀v' w',Hp w0 w' (L.set i (jG f v' e (l++[a])))->AN P n lo (fun w=>Hp w0 w L') k fuel (listed.setIfInBounds j true) (lG σ d v') w'):AO P n lo (fun w=>Hp w0 w L') k fuel listed σ w j:=by
 refine lJ hj hg hd hH hL (fun _=>hsub _) hS hx hy ht hie hz hsize hby hzs J (fun u hu=>by rw[dY.1 hu];exact h1) (kM (xd hb JL) az) gC fun v' w' h=>hn v' w' ?_
 unfold jG;rw[cZ,gz];exact h
theorem asc{ie:TypeInfo}{z:Value}{bytes:Nat}(hsz:∀a,(cl a).length=sz)(hpos:0<sz)(hd:Nat.blt d n=true)(hH:Hp w0 w L)(hL:L[i]?=some (vh cl sz v e l))(hS:Sl w u sz [a].length ([a].flatMap cl))(hx:ev σ x=v)(hy:ev σ y=u)(ht:P.underlying t=some (.slice e))(hie:P.info? e=some ie)(hz:ie.zero=some z)
  (hsize:ie.size=sz) (hby:ie.bytes=bytes) (hzs:z.cells.size=sz) (h1:∀u∈cl a,u.oneCell'=true) (hb:l.length+1<=700000000000) (JL:bytes<=200)
  (hn:∀v' w',Hp w0 w' (L.set i (vh cl sz v' e (l++[a])))->RL P n ops k rest (lG σ d v') w'):RL P n ops k (⟨some d,.call {callee:= .builtin .append,args:=#[x,y],argTypes:=#[t,t]},ty,pos,bK,none⟩::rest) σ w:=by
 refine jI hd hH hL hS hx hy ht hie hz hsize hby hzs hpos (fun u hu=>h1 u qy) (kM (xd hb JL) az) (by simp only[maxLen,gN];omega) fun v' w' h=>hn v' w' ?_
 unfold vh;rw[cZ,Ew];exact h
theorem Sz{ie:TypeInfo}{z:Value}{bytes:Nat}(hj:lo[j]?=some ⟨some d,.call {callee:= .builtin .append,args:=#[x,y],argTypes:=#[t,t]},ty,pos,bK,g⟩)(hg:∀a,Is n σ a->Region.wanted ⟨some d,.call {callee:= .builtin .append,args:=#[x,y],argTypes:=#[t,t]},ty,pos,bK,g⟩ (yielded lo.toArray a.tmps)=true)
  (hsz:∀a,(cl a).length=sz) (hpos:0<sz) (hd:Nat.blt d n=true) (hH:Hp w0 w L) (hL:L[i]?=some (vh cl sz v e l)) (hsub:∀r,L'.Sublist (L.set i r)) (hS:Sl w u sz [a].length ([a].flatMap cl)) (hx:ev σ x=v) (hy:ev σ y=u) (ht:P.underlying t=some (.slice e)) (hie:P.info? e=some ie) (hz:ie.zero=some z)
  (hsize:ie.size=sz) (hby:ie.bytes=bytes) (hzs:z.cells.size=sz) (h1:∀u∈cl a,u.oneCell'=true) (hb:l.length+1<=700000000000) (JL:bytes<=200)
  (hn:∀v' w',Hp w0 w' (L.set i (vh cl sz v' e (l++[a])))->AN P n lo (fun w=>Hp w0 w L') k fuel (listed.setIfInBounds j true) (lG σ d v') w'):AO P n lo (fun w=>Hp w0 w L') k fuel listed σ w j:=by
 refine lJ hj hg hd hH hL (fun _=>hsub _) hS hx hy ht hie hz hsize hby hzs hpos (fun u hu=>h1 u qy) (kM (xd hb JL) az) (by simp only[maxLen,gN];omega) fun v' w' h=>hn v' w' ?_
 unfold vh;rw[cZ,Ew];exact h
theorem asd{ie:TypeInfo}{z:Value}{bytes:Nat}{c:Option (Nat×Array Value)}(hd:Nat.blt d n=true)(hH:Hp w0 w L)(hL:L[i]?=some (cE c v e (l.map f)))(hk:cO c v (l.map f))(hS:Sl w u 1 1 [f a])(hx:ev σ x=v)(hy:ev σ y=u)(ht:P.underlying t=some (.slice e))(hie:P.info? e=some ie)(hz:ie.zero=some z)
  (hsize:ie.size=1) (hby:ie.bytes=bytes) (hzs:z.cells.size=1) (h1:(f a).oneCell'=true) (hb:l.length+1<=700000000000) (JL:bytes<=200)
  (hn:∀v' w',Hp w0 w' (L.set i (cE none v' e ((l++[a]).map f)))->RL P n ops k rest (lG σ d v') w'):RL P n ops k (⟨some d,.call {callee:= .builtin .append,args:=#[x,y],argTypes:=#[t,t]},ty,pos,bK,none⟩::rest) σ w:=by
 have hll:(l.map f).length=l.length:=gB ..
 obtain⟨v',w',hr,h2⟩:=U1 (P:=P) (ty:=ty) (dst:=some d) (pos:=pos) (bK:=bK) (g:=none) (ats:=t) hH hL hk hS hx hy ht hie hz hsize hby hzs J (fun u hu=>by rw[dY.1 hu];exact h1) J (by rw[hll];exact kM (xd hb JL) az) (by rw[hll];simp only[maxLen];omega)
 refine oP hd hr (hn v' w' ?_)
 unfold cE U0;rw[gz,cZ];exact h2
theorem lf{dv:α}{q:Int}(h:0<=q/\q<l.length):(l.map f)[q.toNat*1]?=some (f (l.getD q.toNat dv)):=by grind
theorem Hp.aDX(h:Hp w0 w L)(hi:L[i]?=some (jG f v e l))(hm:m<=l.length):Hp w0 w (L.set i (jG f (q7 v m) e (l.take m))):=by
 have:=h.amU hi hm
 unfold jG;rw[eP,rz hm,BI]
 rwa[lE]at this
theorem Hp.aw1(hsz:∀a,(cl a).length=sz)(h:Hp w0 w L)(hi:L[i]?=some (vh cl sz v e l))(hm:m<=l.length):Hp w0 w (L.set i (vh cl sz (q7 v m) e (l.take m))):=by
 have:=h.amU hi hm
 unfold vh;rw[eP,rz hm,<-P8 hsz hm];exact this
end
theorem ahU{s1 s2:List Int}{a k:Int}(h:(s1++a::s2).getD k.toNat 0≠a)(h0:(s1.length:Int)<=k):(s1.length:Int)<k:=by grind
theorem ase{s1 s2:List Int}{a k:Int}(hn:a∉s2)(h:(s1++a::s2).getD k.toNat 0=a)(h0:(s1.length:Int)<=k)(h1:k<=s1.length+s2.length):k=s1.length:=by grind
theorem dh{α:Type}{l:List α}{d:α}{k:Int}(h0:0<=k)(h1:k<l.length):l.getD k.toNat d∈l:=by grind
theorem asf{p:Nat->Prop}{k:Int}(h0:0<=k)(h:∀q:Nat,q<k.toNat->p q)(hk:p k.toNat):∀q:Nat,q<(k+1).toNat->p q:=by grind
theorem Dx{w:World}{v:Value}{s1 s2:List Int}{a k:Int}(hk:k=s1.length)(h:Sl w v 1 ((s1++a::s2).map I).length ((s1++a::s2).map I)):Sl w (oH v 1 k.toNat) 1 (a::s2).length ((a::s2).map I):=by
 have:=Sl.fr h s1.length aF
 subst hk
 rw[ef]
 rw[show((s1++a::s2).map I).length-s1.length=(a::s2).length by simp,lE,gz,KU aF,KZ aF,eC]at this
 exact this
theorem adL{P:Program}{σ:Env}{w:World}{t te ty u:TypeId}{pos:String}{bK:Array Edge}{dst:Option Tmp}{g:Option (Nat×Bool)}{x y:Operand}{a:Addr}(ht:P.underlying t=some (.pointer te))(hx:ev σ x= .pointer (some a))(hy:ev σ y= .pointer none):
  (execOp (ev σ) ⟨dst,.binOp .neq t x y u,ty,pos,bK,g⟩).run P w= .ok (.value (.bool true)) w:=by
 have h:(binOp .neq t (.pointer (some a)) (.pointer none)).run P w= .ok (.bool true) w:=by
  simp only[binOp];simp[Op.equal,Op.maxDepth,Fa 9999 ht]
 have he:(eqGuard .neq t x y (.pointer (some a)) (.pointer none))=pure ():=rfl
 simp only[execOp,hx,hy,he];simp[h]
theorem Vc{P:Program}{σ:Env}{w:World}{ty:TypeId}{pos:String}{bK:Array Edge}{dst:Option Tmp}{g:Option (Nat×Bool)}{x1 x2 x3 x4:Operand}{v1 v2 v3 v4:Value}{fn:Fn}(h1:ev σ x1=v1)(h2:ev σ x2=v2)(h3:ev σ x3=v3)(h4:ev σ x4=v4):(execOp (ev σ) ⟨dst,.makeFunc fn #[] #[x1,x2,x3,x4],ty,pos,bK,g⟩).run P w= .ok (.value (.func fn #[] #[v1,v2,v3,v4])) w:=by simp_all[um]
structure jM where
 v:Value
 l:List Int
def cY:jM:=⟨.slice none 0 0,[]⟩
def GrV(K:Vu)(v:Value)(g:List jM):Prop:=pN K v 1 g.length (g.map jM.v)/\∀x∈g,pN K x.v 1 x.l.length (x.l.map I)
theorem GrV.mono{K K':Vu}{v:Value}{g:List jM}(h:GrV K v g)(hl:Le K K'):GrV K' v g:=⟨h.1.mono hl,fun x hx=>(h.2 x hx).mono hl⟩
theorem GrV.row{K:Vu}{v:Value}{g:List jM}(h:GrV K v g){k:Int}(h0:0<=k)(h1:k<g.length):pN K (g.getD k.toNat cY).v 1 (g.getD k.toNat cY).l.length ((g.getD k.toNat cY).l.map I):=h.2 _ (dh h0 h1)
theorem GrV.at{K:Vu}{v:Value}{g:List jM}(h:GrV K v g){k:Int}(h0:0<=k/\k<g.length):(g.map jM.v)[k.toNat*1]?=some (g.getD k.toNat cY).v:=lf h0
def pO(g:List jM):List (List Int):=g.map jM.l
theorem Fg{g:List jM}{k:Nat}:(pO g).getD k []=(g.getD k cY).l:=by grind[jM,pO,cY]
theorem gd{g:List jM}:(pO g).length=g.length:=gB ..
def dI(t:TypeId)(x:jM):a7:= .row x.v t 1 x.l.length (x.l.map I)
theorem Hp.P9{w0 w:World}{L:List a7}{t:TypeId}{x:jM}(h:Hp w0 w L)(hm:dI t x∈L):Sl w x.v 1 x.l.length (x.l.map I):=Sl.RN (h.ok _ hm)
theorem Hp.arF{w0 w:World}{L:List a7}(t:TypeId)(h:Hp w0 w L):∀n:Nat,Hp w0 w ((List.replicate n cY).map (dI t)++L)
 |0=>h
 |n+1=>(h.arF t n).fx t 1
section
variable{P:Program}{n:Nat}{ops:Array Oper}{k:K}{rest lo:List Oper}{σ:Env}{w0 w:World}{A R L':List a7}{ty t e tE:TypeId}{pos:String}{bK:Array Edge}{d:Nat}{x y:Operand}{g:Option (Nat×Bool)}{v u:Value}{fuel j:Nat}{q:Int}{dst:Option Tmp}{listed:Array Bool}{gs:List jM}{a:Int}
theorem Y8(hq:0<=q/\q<gs.length):(A++(gs.map (dI tE)++R))[A.length+q.toNat]?=some (dI tE (gs.getD q.toNat cY)):=by grind
theorem amX{x:jM}(hq:0<=q/\q<gs.length):(A++(gs.map (dI tE)++R)).set (A.length+q.toNat) (dI tE x)=A++((gs.set q.toNat x).map (dI tE)++R):=jY
theorem Hp.hdr(h:Hp w0 w (A++(gs.map (dI tE)++R)))(hq:0<=q/\q<gs.length):(gs.getD q.toNat cY).v.cells=#[(gs.getD q.toNat cY).v]/\(gs.getD q.toNat cY).v.oneCell'=true:=bj (h.get (Y8 hq))
theorem Hp.aw3{r:jM}(h:Hp w0 w (A++((gs.set q.toNat r).map (dI tE)++R)))(hq:0<=q/\q<gs.length):r.v.cells=#[r.v]/\r.v.oneCell'=true:=by
 have h1:=h.hdr (q:=q) (by rw[m9];exact hq)
 have e:(gs.set q.toNat r).getD q.toNat cY=r:=by rw[eS,pD,aS O,aS J];rfl
 rwa[e]at h1
theorem abd{ie:TypeInfo}{z:Value}{bytes:Nat}(hH:Hp w0 w (A++(gs.map (dI tE)++R)))(hq:0<=q/\q<gs.length)(hS:Sl w u 1 1 [I a])(hx:ev σ x=(gs.getD q.toNat cY).v)(hy:ev σ y=u)(ht:P.underlying t=some (.slice tE))(hie:P.info? tE=some ie)(hz:ie.zero=some z)
  (hsize:ie.size=1) (hby:ie.bytes=bytes) (hzs:z.cells.size=1) (hb:(gs.getD q.toNat cY).l.length+1<=700000000000) (JL:bytes<=200):
  ∃v' w',(execOp (ev σ) ⟨dst,.call {callee:= .builtin .append,args:=#[x,y],argTypes:=#[t,t]},ty,pos,bK,g⟩).run P w= .ok (.value v') w'/\Hp w0 w' (A++((gs.set q.toNat ⟨v',(gs.getD q.toNat cY).l++[a]⟩).map (dI tE)++R)):=by
 obtain⟨v',w',hr,h2,h3,h4⟩:=sF (P:=P) (ty:=ty) ht hie hz hsize hby hzs J (hH.get (Y8 hq)) hS (fun u hu=>by rw[dY.1 hu];rfl) gC (kM (xd hb JL) az) hH.size
 have h5:=hH.xW (Y8 hq) h2 h3 h4
 refine⟨v',w',sB hx hy hr,?_⟩
 rw[<-amX hq]
 unfold dI;rw[cZ,gz];exact h5
theorem aDY{ie:TypeInfo}{z:Value}{bytes:Nat}(hd:Nat.blt d n=true)(hH:Hp w0 w (A++(gs.map (dI tE)++R)))(hq:0<=q/\q<gs.length)(hS:Sl w u 1 1 [I a])(hx:ev σ x=(gs.getD q.toNat cY).v)(hy:ev σ y=u)(ht:P.underlying t=some (.slice tE))(hie:P.info? tE=some ie)(hz:ie.zero=some z)
  (hsize:ie.size=1) (hby:ie.bytes=bytes) (hzs:z.cells.size=1) (hb:(gs.getD q.toNat cY).l.length+1<=700000000000) (JL:bytes<=200)
  (hn:∀v' w',Hp w0 w' (A++((gs.set q.toNat ⟨v',(gs.getD q.toNat cY).l++[a]⟩).map (dI tE)++R))->RL P n ops k rest (lG σ d v') w'):RL P n ops k (⟨some d,.call {callee:= .builtin .append,args:=#[x,y],argTypes:=#[t,t]},ty,pos,bK,none⟩::rest) σ w:=by
 obtain⟨v',w',hr,h2⟩:=abd (P:=P) (ty:=ty) (dst:=some d) (pos:=pos) (bK:=bK) (g:=none) hH hq hS hx hy ht hie hz hsize hby hzs hb JL
 exact oP hd hr (hn v' w' h2)
theorem ahW{ie:TypeInfo}{z:Value}{bytes:Nat}(hj:lo[j]?=some ⟨some d,.call {callee:= .builtin .append,args:=#[x,y],argTypes:=#[t,t]},ty,pos,bK,g⟩)(hg:∀a,Is n σ a->Region.wanted ⟨some d,.call {callee:= .builtin .append,args:=#[x,y],argTypes:=#[t,t]},ty,pos,bK,g⟩ (yielded lo.toArray a.tmps)=true)
  (hd:Nat.blt d n=true) (hH:Hp w0 w (A++(gs.map (dI tE)++R))) (hsub:∀Y,L'.Sublist (A++(Y++R))) (hq:0<=q/\q<gs.length) (hS:Sl w u 1 1 [I a]) (hx:ev σ x=(gs.getD q.toNat cY).v) (hy:ev σ y=u) (ht:P.underlying t=some (.slice tE)) (hie:P.info? tE=some ie) (hz:ie.zero=some z)
  (hsize:ie.size=1) (hby:ie.bytes=bytes) (hzs:z.cells.size=1) (hb:(gs.getD q.toNat cY).l.length+1<=700000000000) (JL:bytes<=200)
  (hn:∀v' w',Hp w0 w' (A++((gs.set q.toNat ⟨v',(gs.getD q.toNat cY).l++[a]⟩).map (dI tE)++R))->AN P n lo (fun w=>Hp w0 w L') k fuel (listed.setIfInBounds j true) (lG σ d v') w'):AO P n lo (fun w=>Hp w0 w L') k fuel listed σ w j:=by
 obtain⟨v',w',hr,h2⟩:=abd (P:=P) (ty:=ty) (dst:=some d) (pos:=pos) (bK:=bK) (g:=g) hH hq hS hx hy ht hie hz hsize hby hzs hb JL
 exact B4 hj hg hd hr (h2.sub (hsub _)) (hn v' w' h2)
end
structure Mk where
 i:Nat
 d:Nat
 op:Op
 ty:TypeId
 pos:String
 bK:Array Edge
 f:Nat->Value
 o:Obj
abbrev Mk.q(p:Mk):Oper:=⟨some p.d,p.op,p.ty,p.pos,p.bK,none⟩
def ahX(l:List Oper):Nat->Array Bool->List Nat->Bool
 |0,_,is=>is.isEmpty
 |m+1,a,is=>(Region.ready .any l.toArray a==is)&&is.all fun i=>ahX l m (a.setIfInBounds i true) (is.erase i)
def ldM(a:Array Bool)(ps:List Mk):Array Bool:=ps.foldl (fun a p=>a.setIfInBounds p.i true) a
def DH(σ:Env)(β:Nat->Nat)(ps:List Mk):Env:=ps.foldl (fun σ p=>lG σ p.d (p.f (β p.d))) σ
abbrev Vd(β:Nat->Nat)(p:Mk):a7:= .blk (β p.d) p.o
theorem SA{a:Array Bool}:∀{ps:List Mk} {a:Array Bool} {j:Nat},(ldM a ps)[j]?=if j∈ps.map Mk.i/\j<a.size then some true else a[j]?
 |[],a,j=>by simp[ldM]
 |p::ps,a,j=>by
  show(ldM (a.setIfInBounds p.i true) ps)[j]?=_
  rw[SA (a:=a),Xa,Bz]
  by_cases h:j<a.size
  .by_cases h1:j∈ps.map Mk.i
   .rw[aS ⟨h1,h⟩,aS ⟨by simp[h1],h⟩]
   rw[aR fun q=>h1 q.1]
   by_cases h2:p.i=j
   .subst h2;rw[aS O,aS h,aS ⟨aF,h⟩]
   rw[aR h2,aR fun q=>by
    have:=q.1
    rw[lB,cQ]at this
    exact this.elim (fun e=>h2 e.symm) h1]
  have e1:(if j∈ps.map Mk.i/\j<a.size then some true else(if p.i=j then(if p.i<a.size then some true else none)else a[j]?))=a[j]?:=by
   rw[aR fun q=>h q.2]
   by_cases h2:p.i=j
   .subst h2;rw[aS O,aR h,Xc J]
   rw[aR h2]
  have e2:(if j∈(p::ps).map Mk.i/\j<a.size then some true else a[j]?)=a[j]?:=aR fun q=>h q.2
  exact e1.trans e2.symm
theorem ahY{a:Array Bool}{ps qs:List Mk}(h:ps.Perm qs):ldM a ps=ldM a qs:=by
 apply Q6
 intro j
 rw[SA (a:=a),SA (a:=a)]
 have:j∈ps.map Mk.i↔j∈qs.map Mk.i:=(h.map Mk.i).mem_iff
 by_cases c:j∈ps.map Mk.i
 .simp[c,this.1 c]
 rw[aR fun q=>c q.1,aR fun q=>c (this.2 q.1)]
theorem Cm{σ:Env}{β:Nat->Nat}:∀{ps:List Mk} {σ:Env} {s:Nat},s∉ps.map Mk.d->DH σ β ps s=σ s
 |[],σ,s,_=>rfl
 |p::ps,σ,s,h=>by
  rw[lB,cQ,not_or]at h
  show DH (lG σ p.d (p.f (β p.d))) β ps s=_
  rw[Cm (σ:=σ) h.2,Yb _ _ h.1]
theorem abe{β:Nat->Nat}(ps:List Mk):∀(σ:Env) (p:Mk),(ps.map Mk.d).Nodup->p∈ps->DH σ β ps p.d=p.f (β p.d):=by
 induction ps with
 |nil=>intro σ p _ h;cases h
 |cons q ps ih=>
  intro σ p hn h
  rw[lB,nP]at hn
  show DH (lG σ q.d (q.f (β q.d))) β ps p.d=_
  rcases cQ.1 h with e|e
  .rw[e,Cm (σ:=σ) hn.1,aqV]
  exact ih _ p hn.2 e
theorem adM{σ:Env}{β:Nat->Nat}{ps qs:List Mk}(h:ps.Perm qs)(hn:(ps.map Mk.d).Nodup):DH σ β ps=DH σ β qs:=by
 funext s
 have hm:s∈ps.map Mk.d↔s∈qs.map Mk.d:=(h.map Mk.d).mem_iff
 have PU:(qs.map Mk.d).Nodup:=(h.map Mk.d).nodup_iff.1 hn
 by_cases c:s∈ps.map Mk.d
 .obtain⟨p,h1,rfl⟩:=fX.1 c
  rw[abe ps σ p hn h1,abe qs σ p PU (h.mem_iff.1 h1)]
 rw[Cm (σ:=σ) c,Cm (σ:=σ) fun q=>c (hm.2 q)]
theorem MR{σ:Env}{β γ:Nat->Nat}:∀{ps:List Mk} {σ:Env},(∀p∈ps,β p.d=γ p.d)->DH σ β ps=DH σ γ ps
 |[],σ,_=>rfl
 |p::ps,σ,h=>by
  show DH (lG σ p.d (p.f (β p.d))) β ps=DH (lG σ p.d (p.f (γ p.d))) γ ps
  rw[h p aF,MR (σ:=σ) fun q hq=>h q (by simp[hq])]
theorem adN{σ:Env}{β:Nat->Nat}{ps:List Mk}{p:Mk}:DH σ β (ps++[p])=lG (DH σ β ps) p.d (p.f (β p.d)):=by simp[DH]
theorem Ve{a:Array Bool}{ps:List Mk}{p:Mk}:ldM a (ps++[p])=(ldM a ps).setIfInBounds p.i true:=by simp[ldM]
def allM{α:Type}(q:α->Prop):List α->Prop
 |[]=>True
 |a::l=>q a/\allM q l
theorem allM.mem{α:Type}{q:α->Prop}:∀{l:List α},allM q l->∀a∈l,q a
 |[],_,a,h=>by cases h
 |b::l,h,a,hm=>(cQ.1 hm).elim (fun e=>e▸h.1) fun e=>h.2.mem a e
theorem aw4{P:Program}{n:Nat}{l:List Oper}{k:K}{σ:Env}{w0 w:World}{L L':List a7}{fuel:Nat}{listed:Array Bool}(ps:List Mk)
  (hl:∀p∈ps,l[p.i]?=some p.q/\Nat.blt p.d n=true) (hr:∀p∈ps,∀σ' w,(∀s,s∉ps.map Mk.d->σ' s=σ s)->(execOp (ev σ') p.q).run P w= .ok (.value (p.f w.heap.size)) (w.alloc p.o))
  (hd:(ps.map Mk.d).Nodup) (hi:(ps.map Mk.i).Nodup) (hc:ahX l ps.length listed (ps.map Mk.i)=true) (hH:Hp w0 w L') (hs:L.Sublist L')
  (h:∀β w',Hp w0 w' (ps.map (Vd β)++L')->AN P n l (fun w=>Hp w0 w L) k fuel (ldM listed ps) (DH σ β ps) w'):AN P n l (fun w=>Hp w0 w L) k (fuel+ps.length) listed σ w:=by
 have key:∀(m:Nat) (dn pd:List Mk) (β:Nat->Nat) (w:World),pd.length=m->(dn++pd).Perm ps->ahX l m (ldM listed dn) (pd.map Mk.i)=true->Hp w0 w (dn.map (Vd β)++L')->
   AN P n l (fun w=>Hp w0 w L) k (fuel+m) (ldM listed dn) (DH σ β dn) w:=by
  intro m
  induction m with
  |zero=>
   intro dn pd β w hm hp _ hh
   have e:pd=[]:=yJ hm
   subst e
   rw[lY]at hp
   have hn:(dn.map Mk.d).Nodup:=(hp.map Mk.d).nodup_iff.2 hd
   rw[ahY hp,adM hp hn]
   exact h β w (hh.perm ((hp.map _).append_right _))
  |succ m ih=>
   intro dn pd β w hm hp hck hh
   simp only[ahX,cG,BN,iN]at hck
   obtain⟨c1,c2⟩:=hck
   refine afJ (pd.map Mk.i) c1 (by cases pd with|nil=>simp at hm|cons p pd=>rfl) fun i hii=> ?_
   obtain⟨p,hpm,rfl⟩:=fX.1 hii
   obtain⟨a,b,rfl⟩:=Xo hpm
   have hps:p∈ps:=hp.mem_iff.1 aF
   have hnd:=(hp.map Mk.d).nodup_iff.2 hd
   have hni:=(hp.map Mk.i).nodup_iff.2 hi
   have hpd:p.d∉dn.map Mk.d:=fun q=>by
    rw[gz]at hnd
    exact(BC.1 hnd).2.2 _ q p.d aF O
   have hpa:p.i∉a.map Mk.i:=fun q=>by
    rw[gz,gz]at hni
    exact(BC.1 (BC.1 hni).2.1).2.2 _ q p.i aF O
   have e1:((a++p::b).map Mk.i).erase p.i=(a++b).map Mk.i:=by
    rw[gz,lB,List.erase_append_right _ hpa,List.erase_cons_head,gz]
   have hp2:((dn++[p])++(a++b)).Perm ps:=List.Perm.trans (by
    rw[dG]
    exact uE dn (by simpa using(EH (a:=p) (l₁:=a) (l₂:=b)).symm)) hp
   refine B4 (hl p hps).1 aH (hl p hps).2 (hr p hps _ w fun s WS=>Cm (σ:=σ) fun q=>WS ?_) ?_ ?_
   .obtain⟨x,hx,e⟩:=fX.1 q
    exact e▸fX.2 ⟨x,hp.mem_iff.1 oN,rfl⟩
   .exact(hh.alloc p.o).sub ((List.Sublist.trans hs (W7 _ _)).cons _)
   let γ:Nat->Nat:=fun s=>if s=p.d then w.heap.size else β s
   have hγ:∀q∈dn,β q.d=γ q.d:=fun q hq=>(aR fun e=>hpd (by rw[<-e];exact fX.2 ⟨q,hq,rfl⟩)).symm
   have g1:γ p.d=w.heap.size:=aS O
   have:=ih (dn++[p]) (a++b) γ (w.alloc p.o) (by simp at hm⊢;omega) hp2 (by rw[Ve,<-e1];exact c2 _ hii) (by
    refine(hh.alloc p.o).perm ?_
    rw[gz,EE,Vd,g1,dG]
    have e2:dn.map (Vd β)=dn.map (Vd γ):=ED fun q hq=>by unfold Vd;rw[hγ q hq]
    rw[e2]
    exact EH.symm)
   rw[Ve,adN,g1,<-MR (σ:=σ) hγ]at this
   exact this
 exact key ps.length [] ps (fun _=>0) w O (Rh _) hc hH
theorem aw5{P:Program}{n:Nat}{l:List Oper}{k:K}{σ:Env}{w0 w:World}{L L':List a7}{fuel:Nat}{listed:Array Bool}(ds is:List Nat)(ps:List Mk)(e1:ps.map Mk.d=ds)(e2:ps.map Mk.i=is)
  (hl:allM (fun p=>l[p.i]?=some p.q/\Nat.blt p.d n=true) ps) (hr:allM (fun p=>∀σ' w,(∀s,ds.contains s=false->σ' s=σ s)->(execOp (ev σ') p.q).run P w= .ok (.value (p.f w.heap.size)) (w.alloc p.o)) ps)
  (hd:ds.Nodup) (hi:is.Nodup) (hc:ahX l ps.length listed is=true) (hH:Hp w0 w L') (hs:L.Sublist L')
  (h:∀β w',Hp w0 w' (ps.map (Vd β)++L')->AN P n l (fun w=>Hp w0 w L) k fuel (ldM listed ps) (DH σ β ps) w'):AN P n l (fun w=>Hp w0 w L) k (fuel+ps.length) listed σ w:=
 aw4 ps hl.mem (fun p hp σ' w q=>hr.mem p hp σ' w fun s hs=>q s (by rw[e1];intro c;rw[List.contains_iff_mem.2 c]at hs;cases hs)) (e1▸hd) (e2▸hi) (e2▸hc) hH hs h
section
variable{P:Program}{σ:Env}{w w0:World}{L:List a7}{dst:Option Tmp}{ty t e:TypeId}{pos:String}{bK:Array Edge}{g:Option (Nat×Bool)}{x y:Operand}{α:Type}{f:α->Value}{cl:α->List Value}{sz i b:Nat}{l:List α}
theorem Vf:∀{l:List α},l.flatMap (fun a=>[f a])=l.map f
 |[]=>rfl
 |a::l=>by rw[tS,Vf,lB];rfl
theorem zN{ie:TypeInfo}{z:Value}{z0:α}{n:Nat}(hu:P.underlying t=some (.slice e))(hie:P.info? e=some ie)(hz:ie.zero=some z)(hzc:z.cells=#[f z0])(hs:ie.size=1)
  (hx:ev σ x= .int .i64 n) (hy:ev σ y= .int .i64 n) (hb:ie.bytes<=1000) (hn:n<=1000000000):
  (execOp (ev σ) ⟨dst,.makeSlice t x y,ty,pos,bK,g⟩).run P w= .ok (.value (.slice (some ⟨w.heap.size,0,none⟩) n n)) (w.alloc (.cells ((List.replicate n z0).map f).toArray e)):=by
 have:=PG (P:=P) (w:=w) (dst:=dst) (ty:=ty) (pos:=pos) (bK:=bK) (g:=g) (cl:=fun a=>[f a]) (sz:=1) (z0:=z0) (fun _=>rfl) az hu hie hz hzc hs hx hy (kM (xd hb hn) az) (by unfold maxLen;omega)
 rwa[Vf]at this
theorem Hp.JR{n:Nat}(h:Hp w0 w L)(hi:L[i]?=some (.blk b (.cells (l.map f).toArray e (0,0))))(hl:l.length=n)(hn:n<=1000000000):Hp w0 w (L.set i (jG f (.slice (some ⟨b,0,none⟩) n n) e l)):=by
 subst hl
 have hx:=h.get hi
 refine h.wL hi O ⟨aF,.inr ⟨b,l.length,(l.map f).toArray,rfl,hx.1,hx.2,er _,by unfold maxLen;omega,aF,?_⟩⟩
 rw[lE,<-gB (f:=f)];exact EG
end
end
end Go.Proofs.YtlhjdflgjbkpmaaGreatDoor.E
namespace Go.Proofs.YtlhjdflgjbkpmaaGreatDoor.M
section
open Go
inductive jN(E:Nat->Nat->Prop):Nat->Nat->Prop
 |refl (a:Nat):jN E a a
 |step {a b c:Nat} (h:jN E a b) (e:E b c):jN E a c
theorem jN.one{E:Nat->Nat->Prop}{a b:Nat}(e:E a b):jN E a b:= .step (.refl a) e
theorem jN.trans{E:Nat->Nat->Prop}{a b c:Nat}(h:jN E a b)(h2:jN E b c):jN E a c:=by
 induction h2 with
 |refl=>exact h
 |step _ e ih=>exact ih.step e
theorem jN.mono{E E':Nat->Nat->Prop}{a b:Nat}(h:jN E a b)(hE:∀x y,E x y->E' x y):jN E' a b:=by
 induction h with
 |refl=>exact .refl _
 |step _ e ih=>exact ih.step (hE _ _ e)
abbrev TD:=List (Nat×List Nat)
def fl(F:TD):List Nat:=F.flatMap fun x=>x.2++[x.1]
structure FI(R:Nat->Nat->Prop)(ord low:Nat->Int)(F:TD):Prop where
 MS:(fl F).Pairwise fun a b=>ord b<ord a
 lo:∀k,k∈fl F->low k<=ord k/\∃m,m∈fl F/\ord m=low k/\R k m
 seg:∀x,x∈F->∀k,k∈x.2->R x.1 k/\low x.1<=low k/\low k<ord k
 way:F.Pairwise fun x y=>R y.1 x.1
def n9(f:Nat->Int)(k:Nat)(v:Int):Nat->Int:=fun i=>if i=k then v else f i
section
variable{R:Nat->Nat->Prop}{ord low:Nat->Int}{F:TD}{a p:Nat}{sg sp:List Nat}{t:Int}
theorem gF:fl ((a,sg)::F)=sg++a::fl F:=by simp[fl]
theorem Dy:a∈fl ((a,sg)::F):=by rw[gF];simp
theorem jd{x:Nat×List Nat}(h:x∈F):x.1∈fl F:=by grind[fl]
theorem KJ{x:Nat×List Nat}{k:Nat}(h:x∈F)(hk:k∈x.2):k∈fl F:=by grind[fl]
theorem FI.nil:FI R ord low []:=⟨List.Pairwise.nil,(fun k h=>by simp[fl]at h),(fun x h=>oO),List.Pairwise.nil⟩
theorem FI.below(h:FI R ord low ((a,sg)::F)):(∀k,k∈fl F->ord k<ord a)/\∀k,k∈sg->ord a<ord k:=by grind[FI,fl,gF]
theorem FI.ahZ(h:FI R ord low ((a,sg)::F))(ht:∀x y z,R x y->R y z->R x z)(he:low a=ord a):∀k,k∈sg->R a k/\R k a:=by
 have hs:=h.seg _ (tQ ..)
 have key:∀n:Nat,∀k,k∈sg->(ord k-ord a).toNat<=n->R k a:=fun n=>by
  induction n with
  |zero=>intro k hk hn;have:=h.below.2 k hk;omega
  |succ n ih=>
   intro k hk hn
   obtain⟨h1,h2,h3⟩:=hs k hk
   obtain⟨-,m,hm,e,hr⟩:=h.lo k (KJ (tQ ..) hk)
   rw[gF]at hm
   rcases eI.1 hm with q|q
   .exact ht _ _ _ hr (ih m q (by have:=h.below.2 m q;have:low a<=low k:=h2;omega))
   rcases cQ.1 q with q|q
   .subst q;exact hr
   have:=h.below.1 m q
   have:low a<=low k:=h2
   omega
 exact fun k hk=>⟨(hs k hk).1,key _ k hk (er _)⟩
theorem FI.enter(h:FI R ord low F)(hn:a∉fl F)(ht:∀k,k∈fl F->ord k<t)(hr:R a a)(hw:∀x,x∈F->R x.1 a):FI R (n9 ord a t) (n9 low a t) ((a,[])::F):=by
 have ne:∀k,k∈fl F->k≠a:=fun k hk e=>hn (e▸hk)
 have so:∀k,k∈fl F->n9 ord a t k=ord k:=fun k hk=>aR (ne k hk)
 have sl:∀k,k∈fl F->n9 low a t k=low k:=fun k hk=>aR (ne k hk)
 have ea:n9 ord a t a=t:=aS O
 have la:n9 low a t a=t:=aS O
 refine⟨?_,fun k hk=> ?_,fun x hx k hk=> ?_,lA.2 ⟨fun x hx=>hw x hx,h.way⟩⟩
 .rw[gF,eC]
  refine lA.2 ⟨fun k hk=>by rw[ea,so k hk];exact ht k hk,?_⟩
  exact h.MS.imp_of_mem fun{x y} hx hy q=>by rw[so x hx,so y hy];exact q
 .rw[gF,eC]at hk
  rcases cQ.1 hk with q|q
  .subst q;exact⟨by rw[ea,la];exact nc _,_,Dy,by rw[ea,la],hr⟩
  obtain⟨h1,m,h2,h3,h4⟩:=h.lo k q
  refine⟨by rw[so k q,sl k q];exact h1,m,by rw[gF];simp[h2],by rw[so m h2,sl k q];exact h3,h4⟩
 rcases cQ.1 hx with q|q
 .subst q;cases hk
 have k1:=KJ q hk
 have k2:=jd q
 rw[so k k1,sl k k1,sl _ k2];exact h.seg x q k hk
theorem FI.arc(h:FI R ord low ((a,sg)::F)){m:Nat}(hm:m∈fl ((a,sg)::F))(hr:R a m):FI R ord (n9 low a (min (low a) (ord m))) ((a,sg)::F):=by
 have la:n9 low a (min (low a) (ord m)) a=min (low a) (ord m):=aS O
 have sl:∀k,k≠a->n9 low a (min (low a) (ord m)) k=low k:=fun k hk=>aR hk
 have hb:=h.below
 refine⟨h.MS,fun k hk=> ?_,fun x hx k hk=> ?_,h.way⟩
 .obtain⟨h1,j,h2,h3,h4⟩:=h.lo k hk
  by_cases e:k=a
  .subst e
   rw[la]
   refine⟨J,?_⟩
   by_cases c:low k<=ord m
   .exact⟨j,h2,by rw[XE c];exact h3,h4⟩
   exact⟨m,hm,by rw[Int.min_eq_right J],hr⟩
  rw[sl k e];exact⟨h1,j,h2,h3,h4⟩
 obtain⟨h1,h2,h3⟩:=h.seg x hx k hk
 have hka:k≠a:=fun e=>by
  subst e
  rcases cQ.1 hx with q|q
  .subst q;have:=hb.2 k hk;omega
  have:=hb.1 k (KJ q hk);omega
 rw[sl k hka]
 refine⟨h1,?_,h3⟩
 by_cases e:x.1=a
 .rw[e,la];rw[e]at h2;omega
 rw[sl _ e];exact h2
theorem FI.Vg(h:FI R ord low ((a,sg)::(p,sp)::F))(ht:∀x y z,R x y->R y z->R x z)(hlt:low a<ord a):FI R ord (n9 low p (min (low p) (low a))) ((p,sg++a::sp)::F):=by
 have e0:fl ((p,sg++a::sp)::F)=fl ((a,sg)::(p,sp)::F):=by simp[fl]
 have hrp:R p a:=(lA.1 h.way).1 (p,sp) aF
 have hb:=h.below
 have hp:p∈fl ((a,sg)::(p,sp)::F):=jd (x:=(p,sp)) aF
 have hpa:p≠a:=fun e=>by have:=hb.1 p (jd (x:=(p,sp)) aF);rw[e]at this;omega
 have lp:n9 low p (min (low p) (low a)) p=min (low p) (low a):=aS O
 have sl:∀k,k≠p->n9 low p (min (low p) (low a)) k=low k:=fun k hk=>aR hk
 have hs:=h.MS
 have hsp:((fl ((p,sp)::F))).Pairwise fun a b=>ord b<ord a:=by
  rw[gF]at hs;exact(lA.1 (BC.1 hs).2.1).2
 have hbp:(∀k,k∈fl F->ord k<ord p)/\∀k,k∈sp->ord p<ord k:=by
  rw[gF]at hsp
  obtain⟨h2,h3,h4⟩:=BC.1 hsp
  exact⟨fun k hk=>(lA.1 h3).1 k hk,fun k hk=>h4 k hk p aF⟩
 refine⟨by rw[e0];exact hs,fun k hk=> ?_,fun x hx k hk=> ?_,?_⟩
 .rw[e0]at hk⊢
  obtain⟨h1,j,h2,h3,h4⟩:=h.lo k hk
  by_cases e:k=p
  .subst e
   rw[lp]
   refine⟨J,?_⟩
   by_cases c:low k<=low a
   .exact⟨j,h2,by rw[XE c];exact h3,h4⟩
   obtain⟨-,i,i2,i3,i4⟩:=h.lo a Dy
   exact⟨i,i2,by rw[Int.min_eq_right J];exact i3,ht _ _ _ hrp i4⟩
  rw[sl k e];exact⟨h1,j,h2,h3,h4⟩
 .rcases cQ.1 hx with q|q
  .subst q
   have hmem:k∈sg\/k=a\/k∈sp:=by simpa using hk
   rcases hmem with q|q|q
   .obtain⟨h1,h2,h3⟩:=h.seg (a,sg) aF k q
    have hkp:k≠p:=fun e=>by
     have:=hb.2 k q;have:=hb.1 p (jd (x:=(p,sp)) aF);rw[e]at*;omega
    rw[lp,sl k hkp]
    have:low a<=low k:=h2
    exact⟨ht _ _ _ hrp h1,J,h3⟩
   .subst q;rw[lp,sl k hpa.symm];exact⟨hrp,J,hlt⟩
   obtain⟨h1,h2,h3⟩:=h.seg (p,sp) aF k q
   have hkp:k≠p:=fun e=>by have:=hbp.2 k q;rw[e]at this;omega
   rw[lp,sl k hkp]
   have:low p<=low k:=h2
   exact⟨h1,J,h3⟩
  obtain⟨h1,h2,h3⟩:=h.seg x (by simp[q]) k hk
  have hkp:k≠p:=fun e=>by have:=hbp.1 k (KJ q hk);rw[e]at this;omega
  have hxp:x.1≠p:=fun e=>by have:=hbp.1 x.1 (jd q);rw[e]at this;omega
  rw[sl k hkp,sl _ hxp];exact⟨h1,h2,h3⟩
 obtain⟨-,h2⟩:=lA.1 h.way
 exact lA.2 ⟨fun x hx=>(lA.1 h2).1 x hx,(lA.1 h2).2⟩
theorem FI.close(h:FI R ord low ((a,sg)::F)):FI R ord low F:=by
 have hs:=h.MS
 rw[gF]at hs
 have hb:=h.below
 refine⟨(lA.1 (BC.1 hs).2.1).2,fun k hk=> ?_,fun x hx=>h.seg x oN,(lA.1 h.way).2⟩
 obtain⟨h1,m,h2,h3,h4⟩:=h.lo k (by rw[gF];simp[hk])
 refine⟨h1,m,?_,h3,h4⟩
 rw[gF]at h2
 have hka:=hb.1 k hk
 rcases eI.1 h2 with q|q
 .have:=hb.2 m q;omega
 rcases cQ.1 q with q|q
 .subst q;omega
 exact q
theorem FI.root(h:FI R ord low [(a,sg)]):low a=ord a:=by grind[FI,Dy,gF,fl]
end
def Jw(F:TD)(p c:Nat):Prop:=∃F1 sc sp F2,F=F1++(c,sc)::(p,sp)::F2
structure OB(E seen:Nat->Nat->Prop)(shut:Nat->Prop)(ord low:Nat->Int)(F:TD):Prop where
 out:∀k,k∈fl F->¬shut k
 Qa:∀k,shut k->∀j,E k j->shut j
 Y9:∀x,x∈F->∀k,k∈x.2->∀j,E k j->seen k j
 led:∀k,k∈fl F->∀j,seen k j->shut j\/j∈fl F/\(low k<=ord j\/Jw F k j)
section
variable{E seen:Nat->Nat->Prop}{shut:Nat->Prop}{R:Nat->Nat->Prop}{ord low:Nat->Int}{F:TD}{a p j:Nat}{sg sp:List Nat}{t:Int}
theorem OB.nil(h:∀k,shut k->∀j,E k j->shut j):OB E seen shut ord low []:=by grind[OB,fl]
theorem Jw.mem(h:Jw F p j):∃x,x∈F/\x.1=p:=by
 obtain⟨F1,sc,sp,F2,rfl⟩:=h;exact⟨(p,sp),aF,rfl⟩
theorem FI.top(h:FI R ord low ((a,sg)::F)){k:Nat}(hk:k∈sg\/k=a):¬Jw ((a,sg)::F) k j:=by
 rintro⟨F1,sc,sp,F2,e⟩
 have hb:=h.below
 have hm:(k,sp)∈F:=by
  cases F1 with
  |nil=>simp at e;rw[e.2];simp
  |cons b F1=>simp at e;rw[e.2];simp
 have h1:=hb.1 k (jd (x:=(k,sp)) hm)
 rcases hk with q|q
 .have:=hb.2 k q;omega
 subst q;omega
theorem OB.close(h:OB E seen shut ord low ((a,sg)::F))(hi:FI R ord low ((a,sg)::F))(he:low a=ord a)(ha:∀j,E a j->seen a j):OB E seen (fun k=>shut k\/k=a\/k∈sg) ord low F:=by
 have hb:=hi.below
 have mem:∀k,k∈fl ((a,sg)::F)↔k∈sg\/k=a\/k∈fl F:=fun k=>by rw[gF];simp
 refine⟨fun k hk=> ?_,fun k hk j hj=> ?_,fun x hx=>h.Y9 x oN,fun k hk j hj=> ?_⟩
 .rintro(q|q|q)
  .exact h.out k ((mem k).2 (.inr (.inr hk))) q
  .subst q;have:=hb.1 k hk;omega
  have:=hb.1 k hk;have:=hb.2 k q;omega
 .rcases hk with q|q
  .exact .inl (h.Qa k q j hj)
  have Du:k∈fl ((a,sg)::F):=(mem k).2 (q.elim (fun e=> .inr (.inl e)) .inl)
  have WS:seen k j:=by
   rcases q with q|q
   .subst q;exact ha j hj
   exact h.Y9 (a,sg) aF k q j hj
  have Yr:ord a<=low k:=by
   rcases q with q|q
   .subst q;omega
   have:=(hi.seg (a,sg) aF k q).2.1;have:low a<=low k:=this;omega
  rcases h.led k Du j WS with c|⟨c,d⟩
  .exact .inl c
  rcases d with d|d
  .rcases(mem j).1 c with e|e|e
   .exact .inr (.inr e)
   .exact .inr (.inl e)
   have:=hb.1 j e;omega
  exact absurd d (hi.top (q.elim .inr .inl))
 rcases h.led k ((mem k).2 (.inr (.inr hk))) j hj with c|⟨c,d⟩
 .exact .inl (.inl c)
 rcases(mem j).1 c with e|e|e
 .exact .inl (.inr (.inr e))
 .exact .inl (.inr (.inl e))
 refine .inr ⟨e,d.imp id fun q=> ?_⟩
 obtain⟨F1,sc,sp,F2,e1⟩:=q
 cases F1 with
 |nil=>simp at e1;rw[e1.1.1]at hb;have:=hb.1 j e;omega
 |cons b F1=>simp at e1;exact⟨F1,sc,sp,F2,e1.2⟩
theorem OB.Vg(h:OB E seen shut ord low ((a,sg)::(p,sp)::F))(hi:FI R ord low ((a,sg)::(p,sp)::F))(ha:∀j,E a j->seen a j):OB E seen shut ord (n9 low p (min (low p) (low a))) ((p,sg++a::sp)::F):=by
 have e0:fl ((p,sg++a::sp)::F)=fl ((a,sg)::(p,sp)::F):=by simp[fl]
 have le:∀k,n9 low p (min (low p) (low a)) k<=low k:=fun k=>by
  unfold n9;split
  .subst_vars;omega
  exact nc _
 have lp:n9 low p (min (low p) (low a)) p<=low a:=by unfold n9;rw[aS O];omega
 refine⟨fun k hk=>h.out k (e0▸hk),h.Qa,fun x hx k hk j hj=> ?_,fun k hk j hj=> ?_⟩
 .rcases cQ.1 hx with q|q
  .subst q
   have hm:k∈sg\/k=a\/k∈sp:=by simpa using hk
   rcases hm with q|q|q
   .exact h.Y9 (a,sg) aF k q j hj
   .subst q;exact ha j hj
   exact h.Y9 (p,sp) aF k q j hj
  exact h.Y9 x (by simp[q]) k hk j hj
 rw[e0]at hk⊢
 rcases h.led k hk j hj with c|⟨c,d⟩
 .exact .inl c
 refine .inr ⟨c,?_⟩
 rcases d with d|⟨F1,sc,s2,F2,e1⟩
 .exact .inl (BL (le k) d)
 .cases F1 with
  |nil=>
   simp at e1
   obtain⟨⟨rfl,rfl⟩,⟨rfl,rfl⟩,rfl⟩:=e1
   exact .inl (BL lp (hi.lo a Dy).1)
  |cons b F1=>
   simp at e1
   cases F1 with
   |nil=>
    simp at e1
    obtain⟨-,⟨rfl,rfl⟩,rfl⟩:=e1
    exact .inr ⟨[],_,_,_,rfl⟩
   |cons b2 F1=>
    simp at e1
    obtain⟨-,-,rfl⟩:=e1
    exact .inr ⟨(p,sg++a::sp)::F1,_,_,_,rfl⟩
end
section
variable{E seen seen':Nat->Nat->Prop}{shut:Nat->Prop}{R:Nat->Nat->Prop}{ord low:Nat->Int}{F:TD}{a p j:Nat}{sg sp:List Nat}{t:Int}
theorem Jw.cons{x:Nat×List Nat}(h:Jw F p j):Jw (x::F) p j:=by grind[Jw]
theorem OB.enter(h:OB E seen shut ord low F)(hn:a∉fl F)(hs:¬shut a)(hno:∀j,¬seen a j)(h1:∀k j,seen k j->seen' k j)(h2:∀k j,seen' k j->seen k j\/j=a/\∃sp F0,F=(k,sp)::F0):OB E seen' shut (n9 ord a t) (n9 low a t) ((a,[])::F):=by
 have ne:∀k,k∈fl F->k≠a:=fun k hk e=>hn (e▸hk)
 have mem:∀k,k∈fl ((a,[])::F)↔k=a\/k∈fl F:=fun k=>by rw[gF];simp
 refine⟨fun k hk=> ?_,h.Qa,fun x hx k hk j hj=> ?_,fun k hk j hj=> ?_⟩
 .rcases(mem k).1 hk with q|q
  .subst q;exact hs
  exact h.out k q
 .rcases cQ.1 hx with q|q
  .subst q;cases hk
  exact h1 _ _ (h.Y9 x q k hk j hj)
 rcases h2 k j hj with q|⟨rfl,sp,F0,rfl⟩
 .rcases(mem k).1 hk with e|e
  .subst e;exact absurd q (hno j)
  rcases h.led k e j q with c|⟨c,d⟩
  .exact .inl c
  refine .inr ⟨(mem j).2 (.inr c),d.imp (fun d=> ?_) fun d=>d.cons⟩
  unfold n9;rw[aR (ne k e),aR (ne j c)];exact d
 exact .inr ⟨(mem j).2 (.inl O),.inr ⟨[],_,_,_,rfl⟩⟩
theorem OB.look{v:Int}(h:OB E seen shut ord low ((a,sg)::F))(hv:v<=low a)(h1:∀k i,seen k i->seen' k i)(h2:∀k i,seen' k i->seen k i\/k=a/\i=j)(hj:shut j\/j∈fl ((a,sg)::F)/\v<=ord j):OB E seen' shut ord (n9 low a v) ((a,sg)::F):=by
 have la:n9 low a v a=v:=aS O
 have le:∀k,n9 low a v k<=low k:=fun k=>by
  unfold n9;split
  .subst_vars;exact hv
  exact nc _
 refine⟨h.out,h.Qa,fun x hx k hk i hi=>h1 _ _ (h.Y9 x hx k hk i hi),fun k hk i hi=> ?_⟩
 rcases h2 k i hi with q|⟨rfl,rfl⟩
 .exact(h.led k hk i q).imp id fun⟨c,d⟩=>⟨c,d.imp (fun d=>BL (le k) d) id⟩
 exact hj.imp id fun⟨c,d⟩=>⟨c,.inl (by rw[la];exact d)⟩
end
section
variable{E seen:Nat->Nat->Prop}{shut:Nat->Prop}{ord low:Nat->Int}{F:TD}{a:Nat}{sg:List Nat}
theorem jN.stay{C:Nat->Prop}(hC:∀k,C k->∀j,E k j->C j){x y:Nat}(h:jN E x y)(hx:C x):C y:=by
 induction h with
 |refl=>exact hx
 |step _ e ih=>exact hC _ (ih) _ e
theorem OB.whole(h:OB E seen shut ord low ((a,sg)::F))(hi:FI (jN E) ord low ((a,sg)::F))(he:low a=ord a)(ha:∀j,E a j->seen a j){k y:Nat}(hk:k=a\/k∈sg)(h1:jN E k y)(h2:jN E y k):y=a\/y∈sg:=by
 have hc:=h.close hi he ha
 rcases h1.stay hc.Qa (.inr hk)with q|q
 .have hm:k∈fl ((a,sg)::F):=by
   rw[gF]
   rcases hk with e|e
   .subst e;simp
   simp[e]
  exact absurd (h2.stay h.Qa q) (h.out k hm)
 exact q
theorem OB.iff(h:OB E seen shut ord low ((a,sg)::F))(hi:FI (jN E) ord low ((a,sg)::F))(he:low a=ord a)(ha:∀j,E a j->seen a j){k y:Nat}(hk:k=a\/k∈sg):(jN E k y/\jN E y k)↔(y=a\/y∈sg):=by
 refine⟨fun q=>h.whole hi he ha hk q.1 q.2,fun q=> ?_⟩
 have key:∀z,z=a\/z∈sg->jN E a z/\jN E z a:=fun z hz=>by
  rcases hz with e|e
  .subst e;exact⟨.refl _,.refl _⟩
  exact hi.ahZ (fun _ _ _=>jN.trans) he z e
 exact⟨(key k hk).2.trans (key y q).1,(key y q).2.trans (key k hk).1⟩
end
structure DI where
 node:Int
 next:Int
def ov(l:List Int):Nat->Int:=fun k=>l.getD k 0
def NI(l:List Nat):List Int:=l.map fun(k:Nat)=>(k:Int)
def vi(gl:List (List Int))(a b:Nat):Prop:=a<gl.length/\b<gl.length/\∃i,i<(gl.getD a []).length/\(gl.getD a []).getD i 0=(b:Int)
def tZ(gl:List (List Int))(nx:Nat->Nat)(a b:Nat):Prop:=a<gl.length/\b<gl.length/\∃i,i<nx a/\i<(gl.getD a []).length/\(gl.getD a []).getD i 0=(b:Int)
def AF(od:List Int)(F:TD)(k:Nat):Prop:=k<od.length/\ov od k≠0/\k∉fl F
def sY(E:Nat->Nat->Prop)(a b:Nat):Prop:=jN E a b/\jN E b a
structure OfK(E:Nat->Nat->Prop)(k:Nat)(o:Int):Prop where
 is:∃j:Nat,o=j/\sY E k j
 low:∀j:Nat,sY E k j->o<=j
def pe(F:TD)(nx:Nat->Nat):List DI:=F.reverse.map fun x=>⟨x.1,nx x.1⟩
structure q5(gl:List (List Int))(od lo:List Int)(on:List Bool)(tm:Int)(kO:List Int)(F:TD)(nx:Nat->Nat):Prop where
 TE:od.length=gl.length
 llo:lo.length=gl.length
 lon:on.length=gl.length
 lof:kO.length=gl.length
 onI:∀k,k<gl.length->(on.getD k false=true↔k∈fl F)
 lt:∀k,k∈fl F->k<gl.length/\0<ov od k
 odI:∀k,0<=ov od k/\ov od k<=tm
 cnt:tm+od.count 0=gl.length
 TF:FI (jN (vi gl)) (ov od) (ov lo) F
 kne:OB (vi gl) (tZ gl nx) (AF od F) (ov od) (ov lo) F
 nx0:∀k,ov od k=0->nx k=0
 fin:∀k,AF od F k->OfK (vi gl) k (ov kO k)
theorem zO{l:List Int}{k:Nat}{v:Int}(h:k<l.length):ov (l.set k v)=n9 (ov l) k v:=by grind[ov,n9]
theorem abf:∀{l:List Int} {k:Nat} {v:Int},k<l.length->l.getD k 0=0->v≠0->(l.set k v).count 0+1=l.count 0
 |[],k,v,h,_,_=>by simp at h
 |a::l,0,v,_,h2,h3=>by
  have:a=0:=h2
  subst this
  rw[iM,List.count_cons_self,List.count_cons_of_ne (by simpa using h3)]
 |a::l,k+1,v,h1,h2,h3=>by
  have ih:=abf (l:=l) (k:=k) (v:=v) ES h2 h3
  rw[kL,EI,EI];omega
theorem adP{f:Nat->Int}{k:Nat}{v:Int}(h:f k=v):n9 f k v=f:=by grind[n9]
section
variable{gl:List (List Int)}{od lo:List Int}{on:List Bool}{tm:Int}{kO:List Int}{F:TD}{nx:Nat->Nat}{a b p:Nat}{sg sp:List Nat}
def qm(nx:Nat->Nat)(p:Nat):Nat->Nat:=fun i=>if i=p then nx i+1 else nx i
theorem Dz{k j:Nat}(h:tZ gl nx k j):tZ gl (qm nx p) k j:=by grind[tZ,qm]
theorem Gs{k j:Nat}(h:tZ gl (qm nx p) k j):tZ gl nx k j\/k=p/\(gl.getD p []).getD (nx p) 0=(j:Int):=by grind[tZ,qm]
theorem q5.room(h:q5 gl od lo on tm kO F nx):0<=tm/\tm<=gl.length:=by grind[q5,kO]
theorem q5.skip(h:q5 gl od lo on tm kO ((p,sp)::F) nx)(hk:¬∃j,j<gl.length/\(gl.getD p []).getD (nx p) 0=((j:Nat):Int)):q5 gl od lo on tm kO ((p,sp)::F) (qm nx p):=by
 have hs:tZ gl (qm nx p)=tZ gl nx:=by
  funext k j;apply propext
  refine⟨fun q=> ?_,Dz⟩
  rcases Gs q with q2|⟨rfl,q2⟩
  .exact q2
  exact absurd ⟨j,q.2.1,q2⟩ hk
 have hp:=h.lt p (jd (x:=(p,sp)) aF)
 exact⟨h.TE,h.llo,h.lon,h.lof,h.onI,h.lt,h.odI,h.cnt,h.TF,by rw[hs];exact h.kne,fun k Du=>by unfold qm;rw[aR (fun e=>by rw[e]at Du;omega)];exact h.nx0 k Du,h.fin⟩
theorem q5.aw7(h:q5 gl od lo on tm kO ((p,sp)::F) nx)(hl:nx p<(gl.getD p []).length)(hb:b<gl.length)(hk:(gl.getD p []).getD (nx p) 0=(b:Int)):vi gl p b:=by grind[q5,kO,vi,jd]
theorem SB(h:q5 gl od lo on tm kO ((p,sp)::F) nx)(k:Nat)(hk:ov od k=0):qm nx p k=0:=by
 have hp:=h.lt p (jd (x:=(p,sp)) aF)
 unfold qm;rw[aR (fun e=>by rw[e]at hk;omega)];exact h.nx0 k hk
theorem q5.arc(h:q5 gl od lo on tm kO ((p,sp)::F) nx)(hl:nx p<(gl.getD p []).length)(hb:b<gl.length)(hk:(gl.getD p []).getD (nx p) 0=(b:Int))(hon:on.getD b false=true):
  q5 gl od (lo.set p (min (ov lo p) (ov od b))) on tm kO ((p,sp)::F) (qm nx p):=by
 have hm:=(h.onI b hb).1 hon
 have hp:=h.lt p (jd (x:=(p,sp)) aF)
 have e1:=zO (l:=lo) (k:=p) (v:=min (ov lo p) (ov od b)) RG
 refine⟨h.TE,by rw[m9];exact h.llo,h.lon,h.lof,h.onI,h.lt,h.odI,h.cnt,by rw[e1];exact h.TF.arc hm (.one (h.aw7 hl hb hk)),?_,SB h,h.fin⟩
 rw[e1]
 exact h.kne.look (j:=b) J (fun k i=>Dz) (fun k i q=>(Gs q).imp id fun⟨q1,q2⟩=>⟨q1,J⟩) (.inr ⟨hm,J⟩)
theorem q5.shut(h:q5 gl od lo on tm kO ((p,sp)::F) nx)(hl:nx p<(gl.getD p []).length)(hb:b<gl.length)(hk:(gl.getD p []).getD (nx p) 0=(b:Int))(h0:ov od b≠0)(hon:¬on.getD b false=true):
  q5 gl od lo on tm kO ((p,sp)::F) (qm nx p):=by
 have hm:b∉fl ((p,sp)::F):=fun q=>hon ((h.onI b hb).2 q)
 refine⟨h.TE,h.llo,h.lon,h.lof,h.onI,h.lt,h.odI,h.cnt,h.TF,?_,SB h,h.fin⟩
 have:=h.kne.look (seen':=tZ gl (qm nx p)) (j:=b) (v:=ov lo p) (nc _) (fun k i=>Dz) (fun k i q=>(Gs q).imp id fun⟨q1,q2⟩=>⟨q1,J⟩) (.inl ⟨by rw[h.TE];exact hb,h0,hm⟩)
 rwa[adP O]at this
theorem q5.aw8{nx':Nat->Nat}(h:q5 gl od lo on tm kO F nx)(ha:a<gl.length)(h0:ov od a=0)(hn:∀k,ov od k=0->nx' k=0)(h1:∀k j,tZ gl nx k j->tZ gl nx' k j)(h2:∀k j,tZ gl nx' k j->tZ gl nx k j\/j=a/\∃sp F0,F=(k,sp)::F0)(hw:∀x,x∈F->jN (vi gl) x.1 a):
  q5 gl (od.set a (tm+1)) (lo.set a (tm+1)) (on.set a true) (tm+1) kO ((a,[])::F) nx':=by
 have hr:=h.room
 have hna:a∉fl F:=fun q=>by have:=(h.lt a q).2;omega
 have ne:∀k,k∈fl F->k≠a:=fun k hk e=>hna (e▸hk)
 have mem:∀k,k∈fl ((a,[])::F)↔k=a\/k∈fl F:=fun k=>by rw[gF];simp
 have e1:=zO (l:=od) (k:=a) (v:=tm+1) (by rw[h.TE];exact ha)
 have e2:=zO (l:=lo) (k:=a) (v:=tm+1) (by rw[h.llo];exact ha)
 have es:AF (od.set a (tm+1)) ((a,[])::F)=AF od F:=by
  funext k;apply propext
  unfold AF
  rw[m9,e1,mem]
  unfold n9
  by_cases e:k=a
  .subst e;rw[aS O];exact⟨fun q=>absurd (.inl O) q.2.2,fun q=>absurd h0 q.2.1⟩
  rw[aR e];exact⟨fun q=>⟨q.1,q.2.1,fun c=>q.2.2 (.inr c)⟩,fun q=>⟨q.1,q.2.1,fun c=>c.elim e q.2.2⟩⟩
 refine⟨by rw[m9];exact h.TE,by rw[m9];exact h.llo,by rw[m9];exact h.lon,h.lof,fun k hk=> ?_,fun k hk=> ?_,fun k=> ?_,?_,?_,?_,fun k hk=> ?_,?_⟩
 .rw[mem,eS,pD]
  by_cases e:a=k
  .subst e;rw[aS O,aS (by rw[h.lon];exact ha)];simp
  rw[aR e,<-eS,h.onI k hk];exact⟨.inr,fun q=>q.elim (fun c=>absurd c.symm e) id⟩
 .rw[e1];unfold n9
  rcases(mem k).1 hk with e|q
  .subst e;rw[aS O];exact⟨ha,J⟩
  rw[aR (ne k q)];exact h.lt k q
 .rw[e1];unfold n9;have:=h.odI k;split<;>omega
 .have:=abf (l:=od) (k:=a) (v:=tm+1) (by rw[h.TE];exact ha) h0 J
  have:=h.cnt;omega
 .rw[e1,e2];exact h.TF.enter hna (fun k hk=>by have:=(h.odI k).2;omega) (.refl a) hw
 .rw[e1,e2,es];exact h.kne.enter hna (fun q=>q.2.1 h0) (fun j q=>by obtain⟨_,_,i,hi,_⟩:=q;have:=h.nx0 a h0;omega) h1 h2
 .rw[e1]at hk;unfold n9 at hk
  by_cases e:k=a
  .rw[aS e]at hk;omega
  rw[aR e]at hk;exact hn k hk
 rw[es];exact h.fin
theorem q5.first(h:q5 gl od lo on tm kO [] nx)(ha:a<gl.length)(h0:ov od a=0):q5 gl (od.set a (tm+1)) (lo.set a (tm+1)) (on.set a true) (tm+1) kO [(a,[])] nx:=
 h.aw8 ha h0 h.nx0 (fun _ _ q=>q) (fun _ _ q=> .inl q) fun x hx=>by cases hx
theorem q5.enter(h:q5 gl od lo on tm kO ((p,sp)::F) nx)(hl:nx p<(gl.getD p []).length)(hk:(gl.getD p []).getD (nx p) 0=(a:Int))(ha:a<gl.length)(h0:ov od a=0):
  q5 gl (od.set a (tm+1)) (lo.set a (tm+1)) (on.set a true) (tm+1) kO ((a,[])::(p,sp)::F) (qm nx p):=
 h.aw8 ha h0 (SB h) (fun k j=>Dz) (fun k j q=>(Gs q).imp id fun⟨q1,q2⟩=>⟨J,by subst q1;exact⟨_,_,rfl⟩⟩) fun x hx=>by
  have e:=h.aw7 hl ha hk
  rcases cQ.1 hx with q|q
  .subst q;exact .one e
  exact((lA.1 h.TF.way).1 x q).trans (.one e)
theorem q5.all(h:q5 gl od lo on tm kO ((a,sg)::F) nx)(hd:¬nx a<(gl.getD a []).length):∀j,vi gl a j->tZ gl nx a j:=by grind[q5,kO,vi,tZ]
theorem q5.Vg(h:q5 gl od lo on tm kO ((a,sg)::(p,sp)::F) nx)(hd:¬nx a<(gl.getD a []).length)(hne:ov lo a≠ov od a):
  q5 gl od (lo.set p (min (ov lo p) (ov lo a))) on tm kO ((p,sg++a::sp)::F) nx:=by
 have e0:fl ((p,sg++a::sp)::F)=fl ((a,sg)::(p,sp)::F):=by simp[fl]
 have hp:=h.lt p (jd (x:=(p,sp)) aF)
 have e1:=zO (l:=lo) (k:=p) (v:=min (ov lo p) (ov lo a)) RG
 have hlo:=(h.TF.lo a Dy).1
 have es:AF od ((p,sg++a::sp)::F)=AF od ((a,sg)::(p,sp)::F):=by unfold AF;rw[e0]
 refine⟨h.TE,by rw[m9];exact h.llo,h.lon,h.lof,by rw[e0];exact h.onI,by rw[e0];exact h.lt,h.odI,h.cnt,?_,?_,h.nx0,by rw[es];exact h.fin⟩
 .rw[e1];exact h.TF.Vg (fun _ _ _=>jN.trans) J
 rw[e1,es];exact h.kne.Vg h.TF (h.all hd)
theorem q5.close{on':List Bool}{of':List Int}(h:q5 gl od lo on tm kO ((a,sg)::F) nx)(hd:¬nx a<(gl.getD a []).length)(he:ov lo a=ov od a)
  (l1:on'.length=gl.length) (l2:of'.length=gl.length) {m:Int} (hm:∃j,(j=a\/j∈sg)/\m=((j:Nat):Int)) (Ol:∀j,(j=a\/j∈sg)->m<=((j:Nat):Int))
  (ho:∀k,k<gl.length->on'.getD k false=if k=a\/k∈sg then false else on.getD k false) (hf:∀k,k<gl.length->ov of' k=if k=a\/k∈sg then m else ov kO k):q5 gl od lo on' tm of' F nx:=by
 have hb:=h.TF.below
 have mem:∀k,k∈fl ((a,sg)::F)↔k∈sg\/k=a\/k∈fl F:=fun k=>by rw[gF];simp
 have ex:∀k,k∈fl F->¬(k=a\/k∈sg):=fun k hk q=>by
  have:=hb.1 k hk
  rcases q with q|q
  .subst q;omega
  have:=hb.2 k q;omega
 have es:AF od F=fun k=>AF od ((a,sg)::F) k\/k=a\/k∈sg:=by
  funext k;apply propext
  unfold AF
  rw[mem]
  constructor
  .intro⟨h1,h2,h3⟩
   by_cases e:k=a\/k∈sg
   .exact .inr e
   exact .inl ⟨h1,h2,fun q=>q.elim (fun q=>e (.inr q)) fun q=>q.elim (fun q=>e (.inl q)) h3⟩
  rintro(⟨h1,h2,h3⟩|q)
  .exact⟨h1,h2,fun q=>h3 (.inr (.inr q))⟩
  have hl:=h.lt k ((mem k).2 (q.elim (fun q=> .inr (.inl q)) .inl))
  exact⟨by rw[h.TE];exact hl.1,by have:=hl.2;omega,fun q2=>ex k q2 q⟩
 refine⟨h.TE,h.llo,l1,l2,fun k hk=> ?_,fun k hk=>h.lt k ((mem k).2 (.inr (.inr hk))),h.odI,h.cnt,h.TF.close,by rw[es];exact h.kne.close h.TF he (h.all hd),h.nx0,fun k hk=> ?_⟩
 .rw[ho k hk]
  by_cases e:k=a\/k∈sg
  .rw[aS e];exact⟨fun q=>by simp at q,fun q=>absurd e (ex k q)⟩
  rw[aR e,h.onI k hk,mem];exact⟨fun q=>q.elim (fun q=>absurd (.inr q) e) fun q=>q.elim (fun q=>absurd (.inl q) e) id,fun q=> .inr (.inr q)⟩
 rw[es]at hk
 rcases hk with q|q
 .have hl:k<gl.length:=by rw[<-h.TE];exact q.1
  have e:¬(k=a\/k∈sg):=fun c=>q.2.2 ((mem k).2 (c.elim (fun q=> .inr (.inl q)) .inl))
  rw[hf k hl,aR e];exact h.fin k q
 have hl:=(h.lt k ((mem k).2 (q.elim (fun q=> .inr (.inl q)) .inl))).1
 rw[hf k hl,aS q]
 have hi:=fun y=>h.kne.iff h.TF he (h.all hd) (k:=k) (y:=y) q
 obtain⟨j,hj,ej⟩:=hm
 exact⟨⟨j,ej,(hi j).2 hj⟩,fun y hy=>Ol y ((hi y).1 hy)⟩
theorem q5.root(h:q5 gl od lo on tm kO [(a,sg)] nx):ov lo a=ov od a:=h.TF.root
theorem q5.keep(h:q5 gl od lo on tm kO ((a,sg)::(p,sp)::F) nx)(he:ov lo a=ov od a):lo.set p (min (ov lo p) (ov lo a))=lo:=by
 have h1:=(h.TF.lo p (jd (x:=(p,sp)) aF)).1
 have h2:=h.TF.below.1 p (jd (x:=(p,sp)) aF)
 have hp:=h.lt p (jd (x:=(p,sp)) aF)
 apply tj
 intro i
 rw[pD]
 by_cases e:p=i
 .subst e
  rw[aS O,aS RG,XE J]
  unfold ov;rw[eS,ep RG];rfl
 rw[aR e]
end
def gx{α:Type}(l:List α)(ks:List Int)(v:α):List α:=ks.foldl (fun l k=>l.set k.toNat v) l
theorem iR{α:Type}{v:α}:∀{ks:List Int} {l:List α},(gx l ks v).length=l.length
 |[],l=>rfl
 |k::ks,l=>by
  show(gx (l.set k.toNat v) ks v).length=_
  rw[iR,m9]
theorem r9{α:Type}{v d:α}{i:Nat}:∀{ks:List Int} {l:List α},i<l.length->(∀k∈ks,0<=k)->(gx l ks v).getD i d=if(i:Int)∈ks then v else l.getD i d
 |[],l,_,_=>by simp[gx]
 |k::ks,l,hi,hk=>by
  have h0:=hk k aF
  show(gx (l.set k.toNat v) ks v).getD i d=_
  rw[r9 (by rw[m9];exact hi) fun q hq=>hk q (by simp[hq])]
  by_cases c:(i:Int)∈ks
  .rw[aS c,aS (by simp[c])]
  rw[aR c,eS,pD]
  by_cases e:k.toNat=i
  .rw[aS e,aS J,aS iP];rfl
  rw[aR e,<-eS,aR (by simp[c];omega)]
theorem Co{α:Type}{v:α}{l:List α}{ks:List Int}{k:Int}(h0:0<=k)(h1:k<ks.length):gx l (ks.take (k+1).toNat) v=(gx l (ks.take k.toNat) v).set (ks.getD k.toNat 0).toNat v:=by
 have hk:k.toNat<ks.length:=J
 unfold gx
 rw[show(k+1).toNat=k.toNat+1 by omega,DY hk,eS,ep hk,wZ]
 rfl
def Cp(m:Int)(ks:List Int):Int:=ks.foldl min m
theorem adQ{m:Int}{ks:List Int}{k:Int}(h0:0<=k)(h1:k<ks.length):Cp m (ks.take (k+1).toNat)=min (Cp m (ks.take k.toNat)) (ks.getD k.toNat 0):=by
 have hk:k.toNat<ks.length:=J
 unfold Cp
 rw[show(k+1).toNat=k.toNat+1 by omega,DY hk,eS,ep hk,wZ]
 rfl
theorem abg:∀{ks:List Int} {m:Int},(Cp m ks=m\/Cp m ks∈ks)/\Cp m ks<=m/\∀k∈ks,Cp m ks<=k
 |[],m=>⟨.inl O,nc _,fun k h=>oO⟩
 |a::ks,m=>by
  obtain⟨h1,h2,h3⟩:=abg (ks:=ks) (m:=min m a)
  have e:Cp m (a::ks)=Cp (min m a) ks:=rfl
  rw[e]
  refine⟨?_,J,fun k hk=> ?_⟩
  .rcases h1 with q|q
   .by_cases c:m<=a
    .exact .inl J
    exact .inr (by rw[cQ];exact .inl J)
   exact .inr (by simp[q])
  rcases cQ.1 hk with q|q
  .subst q;omega
  exact h3 k q
theorem ah1{l:List Nat}{k:Nat}:(k:Int)∈NI l↔k∈l:=by grind[NI]
theorem abh{l:List Nat}{x:Int}(h:x∈NI l):∃k,k∈l/\x=((k:Nat):Int):=by grind[NI]
section
variable{gl:List (List Int)}{od lo:List Int}{on:List Bool}{tm:Int}{kO:List Int}{F:TD}{nx:Nat->Nat}{a b p:Nat}{sg sp:List Nat}
theorem q5.axa{ks:List Int}(h:q5 gl od lo on tm kO ((a,sg)::F) nx)(hd:¬nx a<(gl.getD a []).length)(he:ov lo a=ov od a)(hks:ks=(a:Int)::NI sg.reverse):
  q5 gl od lo (gx on ks false) tm (gx kO ks (Cp a ks)) F nx:=by
 have hin:∀x,x∈ks->∃j,(j=a\/j∈sg)/\x=((j:Nat):Int):=fun x hx=>by
  rw[hks]at hx
  rcases cQ.1 hx with q|q
  .exact⟨a,.inl O,q⟩
  obtain⟨k,hk,e⟩:=abh q;exact⟨k,.inr (by simpa using hk),e⟩
 have hmem:∀k:Nat,(k:Int)∈ks↔(k=a\/k∈sg):=fun k=>by
  rw[hks,cQ,ah1,List.mem_reverse]
  exact or_congr J BS
 have hpos:∀x,x∈ks->0<=x:=fun x hx=>by obtain⟨j,_,e⟩:=hin x hx;omega
 obtain⟨m1,m2,m3⟩:=abg (ks:=ks) (m:=a)
 refine h.close hd he (by rw[iR];exact h.lon) (by rw[iR];exact h.lof) (m:=Cp a ks) ?_ (fun j hj=>m3 _ ((hmem j).2 hj)) (fun k hk=> ?_) fun k hk=> ?_
 .rcases m1 with q|q
  .exact⟨a,.inl O,q⟩
  exact hin _ q
 .rw[r9 (by rw[h.lon];exact hk) hpos]
  by_cases c:(k:Int)∈ks
  .rw[aS c,aS ((hmem k).1 c)]
  rw[aR c,aR fun q=>c ((hmem k).2 q)]
 show(gx kO ks (Cp a ks)).getD k 0=_
 rw[r9 (by rw[h.lof];exact hk) hpos]
 by_cases c:(k:Int)∈ks
 .rw[aS c,aS ((hmem k).1 c)]
 rw[aR c,aR fun q=>c ((hmem k).2 q)];rfl
theorem abi:NI (fl ((a,sg)::F)).reverse=NI (fl F).reverse++(a:Int)::NI sg.reverse:=by
 rw[gF];simp[NI]
theorem q5.arN(h:q5 gl od lo on tm kO ((a,sg)::F) nx):(a:Int)∉NI sg.reverse:=fun q=>by
 have:=h.TF.below.2 a (by simpa using ah1.1 q);omega
theorem vk:pe ((a,sg)::F) nx=pe F nx++[⟨a,nx a⟩]:=by simp[pe]
theorem ot:(pe F nx).length=F.length:=by simp[pe]
theorem ah2(h:q5 gl od lo on tm kO ((a,sg)::F) nx):(pe ((a,sg)::F) nx).set F.length ⟨a,(nx a:Int)+1⟩=pe ((a,sg)::F) (qm nx a):=by
 have e:pe F (qm nx a)=pe F nx:=by
  unfold pe
  apply ED
  intro x hx
  have hx':x∈F:=by simpa using hx
  have:=h.TF.below.1 x.1 (jd hx')
  unfold qm;rw[aR (fun e=>by rw[e]at this;omega)]
 rw[vk,vk,e,<-ot (F:=F) (nx:=nx),List.set_append_right _ _ (er _),Rm]
 unfold qm;rw[aS O];rfl
theorem SC:(pe ((a,sg)::F) nx).getD F.length ⟨0,0⟩=⟨a,nx a⟩:=by grind[vk,ot]
theorem Vh:(pe ((a,sg)::F) nx).take F.length=pe F nx:=by grind[vk,ot]
end
end
end Go.Proofs.YtlhjdflgjbkpmaaGreatDoor.M
namespace Go.Proofs.YtlhjdflgjbkpmaaGreatDoor.E
section
open Go Go.RowKit Go.Proofs.YtlhjdflgjbkpmaaGreatDoor.M
def JU:DI:=⟨0,0⟩
def Gt(x:DI):List Value:=[I x.node,I x.next]
theorem mH(x:DI):(Gt x).length=2:=rfl
theorem ah3{x:DI}:∀u∈Gt x,u.oneCell'=true:=fun u hu=>by
 simp only[Gt,cQ,Hw,BO]at hu
 rcases hu with rfl|rfl<;>rfl
end
end Go.Proofs.YtlhjdflgjbkpmaaGreatDoor.E
namespace Go.Proofs.YtlhjdflgjbkpmaaGreatDoor.M
section
open Go
section
variable{gl:List (List Int)}{od lo:List Int}{on:List Bool}{tm:Int}{kO:List Int}{F:TD}{nx:Nat->Nat}{a b p:Nat}{sg sp:List Nat}
theorem asm(h:((pe F nx).length:Int)>0):∃a sg F0,F=(a,sg)::F0:=by
 cases F with
 |nil=>simp[pe]at h
 |cons x F0=>exact⟨x.1,x.2,F0,rfl⟩
theorem ah4:NI (fl F).reverse++[(a:Int)]=NI (fl ((a,[])::F)).reverse:=by rw[abi];rfl
theorem ah5(h:nx a=0):pe F nx++[⟨a,0⟩]=pe ((a,[])::F) nx:=by rw[vk,h];rfl
theorem ah6:NI (fl ((a,sg)::(p,sp)::F)).reverse=NI (fl ((p,sg++a::sp)::F)).reverse:=by grind[fl]
theorem ah7:pe ((p,sp)::F) nx=pe ((p,sg++a::sp)::F) nx:=by rw[vk,vk]
theorem q5.EX(h:q5 gl od lo on tm kO ((a,sg)::F) nx):a<gl.length:=(h.lt a Dy).1
theorem abj(h:q5 gl od lo on tm kO F nx):(fl F).length<=gl.length:=by
 have hn:(fl F).Nodup:=h.TF.MS.imp fun q e=>by rw[e]at q;omega
 have:=KH hn (m:=List.range gl.length) fun k hk=>pX.2 (h.lt k hk).1
 rwa[Q8]at this
theorem amY(h:q5 gl od lo on tm kO F nx):F.length<=(fl F).length:=by
 clear h
 induction F with
 |nil=>simp
 |cons x F ih=>rw[show x=(x.1,x.2)from O,gF];simp;omega
theorem axb(h:(F.length:Int)>0):∃p sp F1,F=(p,sp)::F1:=by
 cases F with
 |nil=>simp at h
 |cons x F1=>exact⟨x.1,x.2,F1,rfl⟩
end
theorem OfK.same{E:Nat->Nat->Prop}{k:Nat}{o p:Int}(h:OfK E k o)(h2:OfK E k p):o=p:=by grind[OfK]
open Classical in
noncomputable def ofK(E:Nat->Nat->Prop)(k:Nat):Int:=if h:∃o,OfK E k o then Classical.choose h else 0
theorem ah8{E:Nat->Nat->Prop}{k:Nat}{o:Int}(h:OfK E k o):ofK E k=o:=by
 unfold ofK
 rw[dif_pos ⟨o,h⟩]
 exact(Classical.choose_spec (⟨o,h⟩:∃o,OfK E k o)).same h
noncomputable def oV(gl:List (List Int)):List Int:=(List.range gl.length).map (ofK (vi gl))
section
variable{gl:List (List Int)}{od lo:List Int}{on:List Bool}{tm:Int}{kO:List Int}{nx:Nat->Nat}
theorem q5.done(h:q5 gl od lo on tm kO [] nx)(ha:∀k,k<gl.length->ov od k≠0):kO=oV gl:=by
 apply tj
 intro k
 unfold oV
 rw[pW]
 by_cases c:k<gl.length
 .rw[yN c,ep (by rw[h.lof];exact c)]
  have:=h.fin k ⟨by rw[h.TE];exact c,ha k c,by simp[fl]⟩
  rw[qt,ah8 this]
  unfold ov;rw[eS,ep (by rw[h.lof];exact c)];rfl
 rw[ny (by rw[h.lof];omega),ny Lt];rfl
theorem amZ:(oV gl).length=gl.length:=by simp[oV]
theorem abk{n k:Nat}:ov (List.replicate n 0) k=0:=by grind[ov]
theorem q5.start{n:Nat}(h:gl.length=n):q5 gl (List.replicate n 0) (List.replicate n 0) (List.replicate n false) 0 (List.replicate n 0) [] (fun _=>0):=by
 have hs:∀k,¬AF (List.replicate n 0) [] k:=fun k q=>q.2.1 abk
 refine⟨by simp[h],by simp[h],by simp[h],by simp[h],fun k hk=> ?_,fun k hk=>by simp[fl]at hk,fun k=>by rw[abk];omega,by simp[h],FI.nil,OB.nil fun k q=>absurd q (hs k),fun _ _=>rfl,fun k q=>absurd q (hs k)⟩
 rw[eS,Xb]
 simp[fl]
 split<;>rfl
end
end
end Go.Proofs.YtlhjdflgjbkpmaaGreatDoor.M
namespace Go.Proofs.YtlhjdflgjbkpmaaGreatDoor.E
section
open Go Go.RowKit Go.Proofs.YtlhjdflgjbkpmaaGreatDoor.M
structure wN(T:FTy)(F m:Nat)(cs:List (List Nat))(vW vU:Value)(cW cU:Option (Nat×Array Value))(W:List (BitVec 64))(ul:List (Value×jD))(ts:List Int)(cn:Int)(L:List a7):Prop where
 fo:∃tn,ts=JT tn/\FoI T F m cs vW vU vW cW cU W ul tn L
 cn:cn=((leads (bq cs):Nat):Int)
section
variable{T:FTy}{F m m':Nat}{cs:List (List Nat)}{vW vU:Value}{cW cU:Option (Nat×Array Value)}{W:List (BitVec 64)}{ul:List (Value×jD)}{ts:List Int}{cn:Int}{L L':List a7}
theorem wN.mono(h:wN T F m cs vW vU cW cU W ul ts cn L)(hs:∀e∈L,e∈L'):wN T F m cs vW vU cW cU W ul ts cn L':=by
 obtain⟨tn,e,i⟩:=h.fo
 exact⟨⟨tn,e,i.hW,i.hU,i.hs,i.ok,fun x hx=>(i.un x hx).mono hs,i.lu,i.lt⟩,h.cn⟩
theorem wN.more(h:wN T F m cs vW vU cW cU W ul ts cn L)(hm:m<=m'):wN T F m' cs vW vU cW cU W ul ts cn L:=by
 obtain⟨tn,e,i⟩:=h.fo
 exact⟨⟨tn,e,i.hW,i.hU,i.hs,i.ok,i.un,by have:=i.lu;omega,by have:=i.lt;omega⟩,h.cn⟩
theorem wN.hW(h:wN T F m cs vW vU cW cU W ul ts cn L):cO cW vW (W.map U):=by obtain⟨tn,e,i⟩:=h.fo;exact i.hW
theorem wN.hU(h:wN T F m cs vW vU cW cU W ul ts cn L):cO cU vU (ul.map Prod.fst):=by obtain⟨tn,e,i⟩:=h.fo;exact i.hU
theorem wN.now(h:wN T F m cs vW vU cW cU W ul ts cn L):∃nd cl Av,cs=cl::Av/\W=bD nd/\Fo nd cl/\nd.length=cl.length/\cl.length<=m/\ts.length+1=cs.length/\leads cl<=m:=by
 obtain⟨tn,rfl,i⟩:=h.fo
 obtain⟨nd,cl,Av,h1,h2,h3,h4,h5,h6,h7⟩:=i.now
 exact⟨nd,cl,Av,h1,h2,h3,h4,h5,by rw[wM];exact h6,h7⟩
theorem wN.ne(h:wN T F m cs vW vU cW cU W ul ts cn L):0<cs.length:=by obtain⟨nd,cl,Av,e,_⟩:=h.now;subst e;simp
end
def qE(c:Option (Nat×Array Value))(v:Value)(e:TypeId)(xs:List Value):a7:=
 match c with
 |none=> .row v e 1 xs.length xs
 |some (b,cur)=> .blk b (.cells cur e (0,0))
def qO(c:Option (Nat×Array Value))(v:Value)(xs:List Value):Prop:=
 match c with
 |none=>True
 |some (b,cur)=>∃o cap,v= .slice (some ⟨b,o,none⟩) xs.length cap/\xs.length<=cap/\o+cap<=cur.size/\(cur.toList.drop o).take xs.length=xs/\cap<=maxLen
theorem abl{b o k cap:Nat}:oH (.slice (some ⟨b,o,none⟩) (k+1) cap) 1 1= .slice (some ⟨b,if cap=1 then o else o+1,none⟩) k (cap-1):=by grind[oH,Cg]
section
variable{P:Program}{σ:Env}{w0 w:World}{L:List a7}{c:Option (Nat×Array Value)}{v u x0:Value}{e t ty:TypeId}{xs news:List Value}{i m:Nat}{pos:String}{bK:Array Edge}{dst:Option Tmp}{g:Option (Nat×Bool)}{x y:Operand}
theorem Hp.slQ(h:Hp w0 w L)(hi:L[i]?=some (qE c v e xs))(hk:qO c v xs):Sl w v 1 xs.length xs:=by
 cases c with
 |none=>exact h.sl hi
 |some bc=>
  obtain⟨b,cur⟩:=bc
  obtain⟨o,cap,rfl,h1,h2,h3,h4⟩:=hk
  refine⟨⟨_,cap,rfl,h1,fun _=>rfl⟩,J,fun j u hu=> ?_,J⟩
  simp only[sb,so]
  rw[xf w _ _ cur e (0,0) (h.blk hi)]
  rw[<-h3,uF]at hu
  split at hu
  .rw[BD]at hu;simpa using hu
  .cases hu
theorem Hp.axc(h:Hp w0 w L)(hi:L[i]?=some (qE c v e (x0::xs)))(hk:qO c v (x0::xs)):∃c',qO c' (oH v 1 1) xs/\Hp w0 w (L.set i (qE c' (oH v 1 1) e xs)):=by
 cases c with
 |none=>
  have hr:w.ownsRow w0.heap.size e 1 v (x0::xs).length (x0::xs):=h.get hi
  obtain⟨h1,h2⟩:=hr
  rcases h2 with⟨rfl,q⟩|⟨gb,cap,cur,rfl,hb,hg,hn,hc,hs,ht⟩
  .simp at q
  rw[eR]at hn
  rw[lE]at hs ht
  refine⟨some (gb,cur),⟨if cap=1 then 0 else 0+1,cap-1,abl,J,by split<;>omega,?_,J⟩,h.wL hi O ⟨hb,hg⟩⟩
  rw[eR]at ht
  by_cases q:cap=1
  .have e0:xs.length=0:=J
   rw[e0,wY];exact(yJ e0).symm
  rw[aR q]
  cases kD:cur.toList with
  |nil=>rw[kD]at ht;simp at ht
  |cons a l=>
   rw[kD]at ht
   simp at ht⊢
   exact ht.2
 |some bc=>
  obtain⟨b,cur⟩:=bc
  obtain⟨o,cap,rfl,h1,h2,h3,h4⟩:=hk
  rw[eR]at h1
  refine⟨some (b,cur),⟨if cap=1 then o else o+1,cap-1,abl,J,by split<;>omega,?_,J⟩,h.wL hi O (h.get hi)⟩
  rw[eR]at h3
  by_cases q:cap=1
  .have e0:xs.length=0:=J
   rw[e0,wY];exact(yJ e0).symm
  rw[aR q,<-Rg]
  cases kD:cur.toList.drop o with
  |nil=>rw[kD]at h3;simp at h3
  |cons a l=>
   rw[kD]at h3
   simp at h3⊢
   exact h3.2
theorem am0{ie:TypeInfo}{z:Value}{bytes:Nat}(h:Hp w0 w L)(hi:L[i]?=some (qE c v e xs))(hk:qO c v xs)(hS:Sl w u 1 1 [x0])
  (hx:ev σ x=v) (hy:ev σ y=u) (ht:P.underlying t=some (.slice e)) (hie:P.info? e=some ie) (hz:ie.zero=some z)
  (hsize:ie.size=1) (hby:ie.bytes=bytes) (hzs:z.cells.size=1) (h1:x0.oneCell'=true) (hb:xs.length+1<=1000000000) (JL:bytes<=1000):
  ∃v' c' w',(execOp (ev σ) ⟨dst,.call {callee:= .builtin .append,args:=#[x,y],argTypes:=#[t,t]},ty,pos,bK,g⟩).run P w= .ok (.value v') w'/\qO c' v' (xs++[x0])/\Hp w0 w' (L.set i (qE c' v' e (xs++[x0]))):=by
 have hbytes:(xs.length+1)*bytes<=140737488355328:=kM (xd hb JL) az
 have h63:xs.length+1<=maxLen:=by simp only[maxLen];omega
 have hone:∀q∈[x0],q.oneCell'=true:=fun q hq=>by rw[dY.1 hq];exact h1
 cases c with
 |none=>
  obtain⟨v',w',hr,h2,h3,h4⟩:=sF (P:=P) (ty:=ty) ht hie hz hsize hby hzs J (h.get hi) hS hone h63 hbytes h.size
  refine⟨v',none,w',sB hx hy hr,trivial,?_⟩
  have:=h.xW hi h2 h3 h4
  unfold qE;rw[cZ];exact this
 |some bc=>
  have hX:=h.slQ hi hk
  obtain⟨b,cur⟩:=bc
  obtain⟨o,cap,rfl,k1,k2,k3,k4⟩:=hk
  obtain⟨a,UB,hu,huc,hua⟩:=hS.shape
  have aD4:=hua J
  generalize hB:sb u=B at*
  generalize hO:so u=Ozz at*
  subst aD4
  have hnews:∀j q,[x0][j]?=some q->w.cell? ((⟨B,Ozz,none⟩:Addr).add j)=some q:=fun j q hq=>by
   have:=hS.cell j q hq
   rw[hB,hO]at this
   rw[Cg];exact this
  subst hu
  by_cases room:xs.length+1<=cap
  .have hg:=h.blk hi
   have hf:=run_firstCells_some (P:=P) w 1 1 _ 1 UB [x0] O hnews
   have hst:=Xr P b (o+xs.length*1) e [x0] 0 cur w hg iP hone
   simp only[Lh]at hst
   have hr:(Builtin.append_ #[t,t] ty #[.slice (some ⟨b,o,none⟩) xs.length cap,.slice (some ⟨B,Ozz,none⟩) 1 UB]).run P w= .ok (.slice (some ⟨b,o,none⟩) (xs.length+1) cap) (w.setRow b (cur.toList.take (o+xs.length*1)++[x0]++cur.toList.drop (o+xs.length*1+[x0].length)).toArray):=by
    simp only[lE]at hst⊢
    simp[Builtin.append_,kr ht,sizeOf,typeInfo,hie,hsize,Builtin.lenOf,room,hf,Addr.add_lit,hst]
   refine⟨_,some (b,(cur.toList.take (o+xs.length*1)++[x0]++cur.toList.drop (o+xs.length*1+[x0].length)).toArray),_,sB hx hy hr,⟨o,cap,by rw[cZ,gN],by simpa using room,?_,?_,k4⟩,h.set hi⟩
   .simp only[Aq,cZ,eP,xS,gN,Ey];omega
   have hl:cur.toList.length=cur.size:=Ey
   have e1:((cur.toList.take (o+xs.length*1)++[x0]++cur.toList.drop (o+xs.length*1+[x0].length)).drop o)=(cur.toList.drop o).take xs.length++([x0]++cur.toList.drop (o+xs.length*1+[x0].length)):=by
    rw[dG,KU (by rw[eP];omega),List.drop_take]
    congr 2;omega
   show List.take (xs++[x0]).length (List.drop o (cur.toList.take (o+xs.length*1)++[x0]++cur.toList.drop (o+xs.length*1+[x0].length)))=_
   rw[e1,k3,cZ,W6]
   rfl
  have holds:∀j q,xs[j]?=some q->w.cell? ((⟨b,o,none⟩:Addr).add j)=some q:=fun j q hq=>by
   rw[Cg]
   have:=hX.cell j q hq
   simpa[sb,so]using this
  obtain⟨v',w',hr,h2,h3⟩:=run_append_arg_grows (P:=P) (w:=w) t ty e ie z 1 bytes ht hie hz hsize hby hzs J ⟨b,o,none⟩ xs.length cap xs J holds _ 1 UB [x0] O hnews J h63 hbytes
  refine⟨v',none,w',sB hx hy hr,trivial,?_⟩
  have aD5:Below w.heap.size w w':=(Below.refl w.heap.size w).grown h3 (er _) (fun k hk=>by cases hk)
  have:=(h.C8 aD5 h2).swap (m8.1 hi).1
  unfold qE;rw[cZ];exact this
variable{n d:Nat}{ops:Array Oper}{k:K}{rest:List Oper}
theorem asn{ie:TypeInfo}{z:Value}{bytes:Nat}{α:Type}{f:α->Value}{l:List α}{a:α}(hd:Nat.blt d n=true)(h:Hp w0 w L)(hi:L[i]?=some (qE c v e (l.map f)))(hk:qO c v (l.map f))(hS:Sl w u 1 1 [f a])
  (hx:ev σ x=v) (hy:ev σ y=u) (ht:P.underlying t=some (.slice e)) (hie:P.info? e=some ie) (hz:ie.zero=some z)
  (hsize:ie.size=1) (hby:ie.bytes=bytes) (hzs:z.cells.size=1) (h1:(f a).oneCell'=true) (hb:l.length+1<=1000000000) (JL:bytes<=1000)
  (hn:∀v' c' w',qO c' v' ((l++[a]).map f)->Hp w0 w' (L.set i (qE c' v' e ((l++[a]).map f)))->RL P n ops k rest (lG σ d v') w'):RL P n ops k (⟨some d,.call {callee:= .builtin .append,args:=#[x,y],argTypes:=#[t,t]},ty,pos,bK,none⟩::rest) σ w:=by
 obtain⟨v',c',w',hr,h2,h3⟩:=am0 (P:=P) (ty:=ty) (dst:=some d) (pos:=pos) (bK:=bK) (g:=none) h hi hk hS hx hy ht hie hz hsize hby hzs h1 (by rw[gB];exact hb) JL
 rw[<-EE (f:=f),<-gz]at h2 h3
 exact oP hd hr (hn v' c' w' h2 h3)
end
abbrev Va:=Nat->El
structure tg where
 sh:Sh
 ev:Va->El
 to:Option Nat
 c:El
 vars:List Nat
structure Sys where
 n:Nat
 sh:Nat->Sh
def pP(S:Sys)(u:Va):Prop:=∀i,i<S.n->cF (S.sh i) (u i)=true
def LeV(S:Sys)(u v:Va):Prop:=∀i,i<S.n->cT (u i) (v i)=true
structure ud(S:Sys)(q:tg):Prop where
 fit:∀u,pP S u->cF q.sh (q.ev u)=true
 lt:∀i,i∈q.vars->i<S.n
 Qb:∀u v,pP S u->pP S v->(∀i,i∈q.vars->cT (u i) (v i)=true)->cT (q.ev u) (q.ev v)=true
 to:∀k,q.to=some k->k<S.n/\S.sh k=q.sh
def tg.rhs(q:tg)(u:Va):El:=match q.to with
 |some k=>u k
 |none=>q.c
def e8(q:tg)(u:Va):Prop:=cT (q.ev u) (q.rhs u)=true
structure uv(S:Sys)(Q:tg->Prop)(u:Va):Prop where
 fit:pP S u
 hold:∀q,Q q->q.to≠none->e8 q u
def Gu(v:Va)(k:Nat)(e:El):Va:=fun i=>if i=k then e else v i
structure Cq(S:Sys)(Q:tg->Prop)(v:Va):Prop where
 fit:pP S v
 low:∀u,uv S Q u->LeV S v u
structure tG(S:Sys)(Q:tg->Prop)(v:Va):Prop where
 low:Cq S Q v
 sol:∀q,Q q->q.to≠none->e8 q v
theorem ud.mono{S:Sys}{q:tg}(h:ud S q)(u v:Va)(hu:pP S u)(hv:pP S v)(hl:LeV S u v):cT (q.ev u) (q.ev v)=true:=h.Qb u v hu hv fun i hi=>hl i (h.lt i hi)
section
variable{S:Sys}{Q Q':tg->Prop}{u v w:Va}{q:tg}{k:Nat}{e:El}
theorem fg{a b c:El}(h:cT a b=true)(h2:cT b c=true):cT a c=true:=by grind[pB,lM]
theorem kS{a b:El}(h:rC a b):cT a b=true:=pB.2 fun i hi=>by rw[h i hi];exact sS _
theorem tG.is(h:tG S Q v):uv S Q v:=⟨h.low.fit,h.sol⟩
theorem tG.same(h:tG S Q v)(h2:tG S Q w):∀i,i<S.n->rC (v i) (w i):=fun i hi=>YD (h.low.low w h2.is i hi) (h2.low.low v h.is i hi)
theorem abm(hs:∀i,i<S.n->lW (S.sh i)=true)(hv:∀i,i<S.n->v i=iu (S.sh i) eY):Cq S Q v:=
 ⟨fun i hi=>by rw[hv i hi];exact(Pu (hs i hi)).1,fun u hu i hi=>by rw[hv i hi];exact(Pu (hs i hi)).2 _ (hu.fit i hi)⟩
theorem Cq.raise(h:Cq S Q v)(hq:Q q)(ho:ud S q)(hk:q.to=some k):Cq S Q (Gu v k (fH q.sh (v k) (q.ev v))):=by
 obtain⟨k1,k2⟩:=ho.to k hk
 have fk:=h.fit k k1
 rw[k2]at fk
 refine⟨fun i hi=> ?_,fun u hu i hi=> ?_⟩
 .unfold Gu
  by_cases e:i=k
  .rw[aS e,e,k2];exact Io fk (ho.fit v h.fit)
  rw[aR e];exact h.fit i hi
 unfold Gu
 by_cases e:i=k
 .rw[aS e,e]
  have h1:=h.low u hu
  have h2:=hu.hold q hq (by rw[hk];simp)
  unfold e8 tg.rhs at h2
  rw[hk]at h2
  have fu:=hu.fit k k1
  rw[k2]at fu
  exact aaN fk (ho.fit v h.fit) fu (h1 k k1) (fg (ho.mono v u h.fit hu.fit h1) h2)
 rw[aR e];exact h.low u hu i hi
theorem Cq.more(h:Cq S Q v)(hq:∀q,Q q->Q' q):Cq S Q' v:=⟨h.fit,fun u hu=>h.low u ⟨hu.fit,fun q h1 h2=>hu.hold q (hq q h1) h2⟩⟩
theorem Cq.axe(h:Cq S Q v)(ho:ud S q)(hk:q.to=none)(hf:¬e8 q v):∀u,uv S Q u->¬e8 q u:=fun u hu hh=>hf (by
 unfold e8 tg.rhs at hh⊢
 rw[hk]at hh⊢
 exact fg (ho.mono v u h.fit hu.fit (h.low u hu)) hh)
def qb(S:Sys)(Q:tg->Prop)(C:Nat->Prop):Prop:=∀u,uv S Q u->∀i k,C i->C k->rC (u i) (u k)
def qP(v:Va)(C:Nat->Prop)[DecidablePred C](e:El):Va:=fun i=>if C i then e else v i
theorem Cq.ring{C:Nat->Prop}[DecidablePred C](h:Cq S Q v)(hC:qb S Q C)(hin:∀i,C i->i<S.n)(hk:C k)(hsh:∀i,C i->S.sh i=S.sh k)(he:cF (S.sh k) e=true)(hl:∀u,uv S Q u->cT e (u k)=true):Cq S Q (qP v C e):=by
 refine⟨fun i hi=> ?_,fun u hu i hi=> ?_⟩
 .unfold qP
  by_cases c:C i
  .rw[aS c,hsh i c];exact he
  rw[aR c];exact h.fit i hi
 unfold qP
 by_cases c:C i
 .rw[aS c];exact fg (hl u hu) (kS (hC u hu k i hk c))
 rw[aR c];exact h.low u hu i hi
theorem Cq.lub(h:Cq S Q v)(hq:Q q)(ho:ud S q)(hk:q.to=some k):cF (S.sh k) (fH q.sh (v k) (q.ev v))=true/\∀u,uv S Q u->cT (fH q.sh (v k) (q.ev v)) (u k)=true:=by
 have h1:=h.raise hq ho hk
 have k1:=(ho.to k hk).1
 have e:Gu v k (fH q.sh (v k) (q.ev v)) k=fH q.sh (v k) (q.ev v):=aS O
 refine⟨?_,fun u hu=> ?_⟩
 .have:=h1.fit k k1;rwa[e]at this
 have:=h1.low u hu k k1;rwa[e]at this
theorem qb.of{C:Nat->Prop}(hC:∀u,uv S Q u->∀i k,C i->C k->cT (u i) (u k)=true):qb S Q C:=fun u hu i k hi hk=>YD (hC u hu i k hi hk) (hC u hu k i hk hi)
abbrev Qm:=BitVec 64->tg->Prop
def adR(M:Qm):Prop:=∀a b q,dX a b=true->M a q->M b q
def Fh(S:Sys)(M:Qm)(v:Va)(ws:Nat->BitVec 64):Prop:=∀k,k<S.n->∀u,uv S (M (ws k)) u->cT (v k) (u k)=true
def OC(y:BitVec 64)(ws:Nat->BitVec 64)(l:List Nat):BitVec 64:=l.foldl (fun a i=>a|||ws i) y
theorem Gv:∀(l:List Nat) (y:BitVec 64) (ws:Nat->BitVec 64),dX y (OC y ws l)=true/\∀i∈l,dX (ws i) (OC y ws l)=true
 |[],y,ws=>⟨sS _,fun i hi=>by cases hi⟩
 |a::l,y,ws=>by
  obtain⟨h1,h2⟩:=Gv l (y|||ws a) ws
  refine⟨lM (H6 _ _) h1,fun i hi=> ?_⟩
  rcases cQ.1 hi with e|hi
  .rw[e];exact lM (Ga _ _) h1
  exact h2 i hi
theorem uv.less{Q Q':tg->Prop}(h:uv S Q' u)(hq:∀q,Q q->Q' q):uv S Q u:=⟨h.fit,fun q h1 h2=>h.hold q (hq q h1) h2⟩
section
variable{M:Qm}{ws:Nat->BitVec 64}{y:BitVec 64}
theorem Fh.ev(h:Fh S M v ws)(hM:adR M)(hv:pP S v)(ho:ud S q){W:BitVec 64}(hW:dX (OC y ws q.vars) W=true)(hu:uv S (M W) u):cT (q.ev v) (q.ev u)=true:=
 ho.Qb v u hv hu.fit fun i hi=>h i (ho.lt i hi) u (hu.less fun q hq=>hM _ _ _ (lM ((Gv _ y ws).2 i hi) hW) hq)
theorem Fh.stuck(h:Fh S M v ws)(hM:adR M)(hv:pP S v)(ho:ud S q)(hk:q.to=none)(hf:¬e8 q v):∀u,uv S (M (OC y ws q.vars)) u->¬e8 q u:=fun u hu hh=>hf (by
 unfold e8 tg.rhs at hh⊢
 rw[hk]at hh⊢
 exact fg (h.ev hM hv ho (sS _) hu) hh)
def Fi(ws:Nat->BitVec 64)(C:Nat->Prop)[DecidablePred C](W:BitVec 64):Nat->BitVec 64:=fun i=>if C i then W else ws i
theorem Fh.raise{C:Nat->Prop}[DecidablePred C](h:Fh S M v ws)(hM:adR M)(hv:pP S v)(ho:ud S q)(hk:q.to=some k)(hy:M y q)(hC:qb S (M (ws k)) C)(hck:C k){W:BitVec 64}(hW1:dX (ws k) W=true)(hW2:dX (OC y ws q.vars) W=true):
  Fh S M (qP v C (fH q.sh (v k) (q.ev v))) (Fi ws C W):=fun i hi u hu=>by
 unfold Fi at hu
 unfold qP
 by_cases c:C i
 .rw[aS c]at hu⊢
  obtain⟨k1,k2⟩:=ho.to k hk
  have hu1:uv S (M (ws k)) u:=hu.less fun q hq=>hM _ _ _ hW1 hq
  have h1:=h.ev hM hv ho hW2 hu
  have h2:=hu.hold q (hM _ _ _ (lM (Gv q.vars y ws).1 hW2) hy) (by rw[hk];simp)
  unfold e8 tg.rhs at h2
  rw[hk]at h2
  have fv:=hv k k1;have fu:=hu.fit k k1
  rw[k2]at fv fu
  exact fg (aaN fv (ho.fit v hv) fu (h k k1 u hu1) (fg h1 h2)) (kS (hC u hu1 k i hck c))
 rw[aR c]at hu⊢;exact h i hi u hu
theorem Fh.ring{C:Nat->Prop}[DecidablePred C](h:Fh S M v ws)(hM:adR M){W:BitVec 64}(hC:qb S (M W) C)(hW:∀i,C i->i<S.n/\dX (ws i) W=true)(he:∀u,uv S (M W) u->∀i,C i->cT e (u i)=true):Fh S M (qP v C e) (Fi ws C W):=fun i hi u hu=>by
 unfold Fi at hu
 unfold qP
 by_cases c:C i
 .rw[aS c]at hu⊢;exact he u hu i c
 rw[aR c]at hu⊢;exact h i hi u hu
end
def zP(H r:Int)(U:Nat):Int:=(H-r)*U
def oW(S:Sys)(U:Nat->Nat)(v:Va):Nat->Int
 |0=>0
 |n+1=>oW S U v n+zP (df (S.sh n)) (mF (S.sh n) (v n)) (U n)
theorem KK{U:Nat->Nat}(hv:pP S v):∀n,n<=S.n->0<=oW S U v n
 |0,_=>nc _
 |n+1,hn=>by
  have h1:=KK (U:=U) hv n J
  have h2:=agF (hv n J)
  have h3:0<=zP (df (S.sh n)) (mF (S.sh n) (v n)) (U n):=Hy J J
  show 0<=oW S U v n+_
  omega
theorem SD{U:Nat->Nat}:∀n,oW S U (Gu v k e) n=oW S U v n+(if k<n then zP (df (S.sh k)) (mF (S.sh k) e) (U k)-zP (df (S.sh k)) (mF (S.sh k) (v k)) (U k)else 0)
 |0=>by simp[oW]
 |n+1=>by
  have ih:=SD (U:=U) n
  show oW S U (Gu v k e) n+zP (df (S.sh n)) (mF (S.sh n) (Gu v k e n)) (U n)=oW S U v n+zP (df (S.sh n)) (mF (S.sh n) (v n)) (U n)+_
  rw[ih]
  by_cases h:n=k
  .subst h
   have e1:Gu v n e n=e:=aS O
   rw[e1,aR J,aS J];omega
  have e1:Gu v k e n=v n:=aR h
  rw[e1]
  by_cases h2:k<n
  .rw[aS h2,aS J];omega
  rw[aR h2,aR J];omega
theorem Qc{U:Nat->Nat}(hv:pP S v)(hk:k<S.n)(he:cF (S.sh k) e=true)(hl:cT (v k) e=true)(hne:¬rC e (v k)):oW S U (Gu v k e) S.n+U k<=oW S U v S.n:=by
 rw[SD,aS hk]
 have h1:=agG (hv k hk) he hl hne
 have h2:zP (df (S.sh k)) (mF (S.sh k) e) (U k)+U k<=zP (df (S.sh k)) (mF (S.sh k) (v k)) (U k):=by
  unfold zP
  have:(df (S.sh k)-mF (S.sh k) e+1)*(U k:Int)<=(df (S.sh k)-mF (S.sh k) (v k))*(U k:Int):=Int.mul_le_mul_of_nonneg_right J J
  rw[Int.add_mul,Int.one_mul]at this
  exact this
 omega
theorem SE{U U':Nat->Nat}:∀n,oW S (fun k=>U k+U' k) v n=oW S U v n+oW S U' v n
 |0=>rfl
 |n+1=>by
  have ih:=SE (U:=U) (U':=U') n
  show oW S (fun k=>U k+U' k) v n+zP _ _ (U n+U' n)=oW S U v n+zP _ _ (U n)+(oW S U' v n+zP _ _ (U' n))
  rw[ih]
  unfold zP
  rw[show((U n+U' n:Nat):Int)=(U n:Int)+(U' n:Int)by omega,Int.mul_add]
  omega
theorem MT:∀n,oW S (fun _=>0) v n=0
 |0=>rfl
 |n+1=>by
  show oW S (fun _=>0) v n+zP _ _ 0=0
  rw[MT n];simp[zP]
theorem abn{x:Nat}:∀n,oW S (fun k=>if k=x then 1 else 0) v n=if x<n then df (S.sh x)-mF (S.sh x) (v x)else 0
 |0=>by simp[oW]
 |n+1=>by
  show oW S (fun k=>if k=x then 1 else 0) v n+zP _ _ (if n=x then 1 else 0)=_
  rw[abn n]
  by_cases h:n=x
  .subst h;rw[aS O,aR J,aS J];simp[zP]
  rw[aR h]
  by_cases h2:x<n
  .rw[aS h2,aS J];simp[zP]
  rw[aR h2,aR J];simp[zP]
def SF(k:Nat):List Nat->Nat
 |[]=>0
 |x::l=>(if k=x then 1 else 0)+SF k l
theorem Vi{H:Int}:∀{l:List Nat},(∀x,x∈l->x<S.n/\df (S.sh x)<=H)->oW S (fun k=>SF k l) v S.n<=H*l.length
 |[],_=>by
  show oW S (fun _=>0) v S.n<=_
  rw[MT];simp
 |x::l,h=>by
  have ih:=Vi (l:=l) (H:=H) fun y hy=>h y (fC _ hy)
  have e:(fun k=>SF k (x::l))=fun k=>(if k=x then 1 else 0)+SF k l:=rfl
  rw[e,SE,abn,aS (h x aF).1]
  have h1:=(h x aF).2
  have h2:=agE (S.sh x) (v x)
  rw[eR,show((l.length+1:Nat):Int)=(l.length:Int)+1 by omega,Int.mul_add,Int.mul_one]
  omega
def Vj(l:List tg)(k:Nat):Nat:=match l with
 |[]=>0
 |q::l=>SF k q.vars+Vj l k
theorem Vk:∀{l:List tg},(∀q,q∈l->∀x,x∈q.vars->x<S.n/\S.sh x=q.sh)->oW S (Vj l) v S.n<=(l.map fun q=>df q.sh*q.vars.length).sum
 |[],_=>by
  show oW S (fun _=>0) v S.n<=_
  rw[MT];simp
 |q::l,h=>by
  have ih:=Vk (l:=l) fun p hp=>h p (fC _ hp)
  have e:Vj (q::l)=fun k=>SF k q.vars+Vj l k:=rfl
  rw[e,SE,lB,BJ]
  have:=Vi (S:=S) (v:=v) (l:=q.vars) (H:=df q.sh) fun x hx=>⟨(h q aF x hx).1,by rw[(h q aF x hx).2];exact nc _⟩
  omega
end
section
variable{sh:Sh}{l:List dz}{us vs:List El}
def ah9(sh:Sh)(l:List dz)(us vs:List El):Prop:=∀x,x∈l->(x.op=1->0<=x.n/\x.n<us.length/\cF sh (us.getD x.n.toNat dH)=true/\cF sh (vs.getD x.n.toNat dH)=true/\cT (us.getD x.n.toNat dH) (vs.getD x.n.toNat dH)=true)/\(x.op=2->cF sh x.c=true)
theorem MU(hr:gq l=true)(hl:us.length=vs.length)(hi:ah9 sh l us vs):
  (fY sh l us).2=true/\(fY sh l vs).2=true/\cF sh (fY sh l us).1=true/\cT (fY sh l us).1 (fY sh l vs).1=true:=by
 have key:∀n:Nat,n<=l.length->∃st su,ix sh us l n=some st/\ix sh vs l n=some su/\jx l n=some st.length/\uu st su/\(∀e∈st,cF sh e=true)/\∀e∈su,cF sh e=true:=by
  intro n
  induction n with
  |zero=>intro _;exact⟨[],[],rfl,rfl,rfl,trivial,(fun e he=>by cases he),fun e he=>by cases he⟩
  |succ n ih=>
   intro hn
   obtain⟨st,su,h1,h2,h3,h4,h5,h6⟩:=ih J
   have hx:=(lz (fG (d:=cB) (l:=l) (i:=(n:Int)) J J))
   rw[show((n+1:Nat):Int)=(n:Int)+1 by omega]
   have hlen:=h4.len
   rcases aaY hr (k:=(n:Int)) J J h3 with⟨ho,hd⟩|⟨⟨ho,hn1,PU⟩,hd⟩
   .rcases ho with ho|ho
    .obtain⟨hx1,WQ,fm,fa,hle⟩:=(hi _ hx).1 ho
     refine⟨_,_,aml J J h1 ho ⟨hx1,WQ⟩,aml J J h2 ho ⟨hx1,J⟩,by rw[hd];simp,h4.app ⟨hle,trivial⟩,fun e he=> ?_,fun e he=> ?_⟩
     .rcases eI.1 he with q|q
      .exact h5 e q
      rw[dY.1 q];exact fm
     rcases eI.1 he with q|q
     .exact h6 e q
     rw[dY.1 q];exact fa
    have hk:=(hi _ hx).2 ho
    refine⟨_,_,arI J J h1 ho,arI J J h2 ho,by rw[hd];simp,h4.app ⟨jR _,trivial⟩,fun e he=> ?_,fun e he=> ?_⟩
    .rcases eI.1 he with q|q
     .exact h5 e q
     rw[dY.1 q];exact hk
    rcases eI.1 he with q|q
    .exact h6 e q
    rw[dY.1 q];exact hk
   generalize hg:l.getD (n:Int).toNat cB=x at*
   have e1:=arJ (s:=sh) (v:=us) (l:=l) (st:=st) (k:=(n:Int)) J J h1 RK RK
   have e2:=arJ (s:=sh) (v:=vs) (l:=l) (st:=su) (k:=(n:Int)) J J h2 RK RK
   rw[hg]at e1 e2
   have d1:st.drop (st.length-x.n.toNat)≠[]:=fun q=>by
    have:=aJ List.length q
    rw[xS,Hx]at this;omega
   have g1:∀e∈st.drop (st.length-x.n.toNat),cF sh e=true:=fun e he=>h5 e (rI he)
   have g2:∀e∈su.drop (su.length-x.n.toNat),cF sh e=true:=fun e he=>h6 e (rI he)
   have hld:=h4.drop (st.length-x.n.toNat)
   have hlt:=h4.take (st.length-x.n.toNat)
   rw[hlen]at hld hlt
   rw[<-hlen]at hld hlt
   have d2:su.drop (su.length-x.n.toNat)≠[]:=fun q=>by
    have:=aJ List.length q
    rw[xS,Hx]at this;omega
   refine⟨_,_,e1,e2,?_,?_,fun e he=> ?_,fun e he=> ?_⟩
   .rw[hd,cZ,eP,gN];congr 1;omega
   .rw[<-hlen]
    refine hlt.app ⟨MC hld g1 (by rw[<-hlen]at g2;exact g2),trivial⟩
   .rcases eI.1 he with q|q
    .exact h5 e (rH q)
    rw[dY.1 q];exact zD d1 g1
   rcases eI.1 he with q|q
   .exact h6 e (rH q)
   rw[dY.1 q];exact zD d2 g2
 obtain⟨st,su,h1,h2,h3,h4,h5,_⟩:=key l.length (er _)
 rw[Sf hr J J h1,Sf hr J J h2]
 have l1:=TP hr (k:=(l.length:Int)) J J h3
 have n1:st≠[]:=fun q=>by rw[q]at l1;simp at l1
 refine⟨rfl,rfl,?_,h4.ov⟩
 cases st with
 |nil=>exact absurd O n1
 |cons a st=>exact h5 a aF
end
def sZ:List Int->Int->List Int
 |[],n=>[n]
 |a::l,n=>if a<n then a::sZ l n else if a=n then a::l else n::a::l
def bS(l:List dz):List Int:=l.foldl (fun o x=>if x.op=1/\0<=x.n then sZ o x.n else o) []
theorem MV{i n:Int}:∀{l:List Int},i∈sZ l n↔i∈l\/i=n
 |[]=>by simp[sZ]
 |a::l=>by
  unfold sZ
  split
  .rw[cQ,MV,cQ,or_assoc]
  split
  .rename_i h;subst h;simp only[cQ];constructor
   .intro h;exact .inl h
   rintro(h|h)
   .exact h
   exact .inl h
  simp only[cQ];constructor
  .rintro(h|h|h)
   .exact .inr h
   .exact .inl (.inl h)
   exact .inl (.inr h)
  rintro((h|h)|h)
  .exact .inr (.inl h)
  .exact .inr (.inr h)
  exact .inl h
theorem Qd{n:Int}:∀{l:List Int},l.Pairwise (· <·)->(sZ l n).Pairwise (· <·)
 |[],_=>by simp[sZ]
 |a::l,h=>by
  obtain⟨h1,h2⟩:=lA.1 h
  unfold sZ
  split
  .refine lA.2 ⟨fun x hx=> ?_,Qd h2⟩
   rcases MV.1 hx with q|q
   .exact h1 x q
   omega
  split
  .exact h
  refine lA.2 ⟨fun x hx=> ?_,h⟩
  rcases cQ.1 hx with q|q
  .omega
  have:=h1 x q;omega
theorem Qe(l:List dz):∀o:List Int,(∀i,i∈l.foldl (fun o x=>if x.op=1/\0<=x.n then sZ o x.n else o) o↔i∈o\/∃x∈l,x.op=1/\0<=x.n/\x.n=i)/\(o.Pairwise (· <·)->(l.foldl (fun o x=>if x.op=1/\0<=x.n then sZ o x.n else o) o).Pairwise (· <·)):=by
 induction l with
 |nil=>intro o;exact⟨fun i=>aF,fun h=>h⟩
 |cons a l ih=>
  intro o
  rw[rA]
  by_cases c:a.op=1/\0<=a.n
  .rw[aS c]
   obtain⟨h1,h2⟩:=ih (sZ o a.n)
   refine⟨fun i=> ?_,fun h=>h2 (Qd h)⟩
   rw[h1,MV]
   constructor
   .rintro((h|h)|⟨x,hx,h⟩)
    .exact .inl h
    .exact .inr ⟨a,aF,c.1,c.2,h.symm⟩
    exact .inr ⟨x,oN,h⟩
   rintro(h|⟨x,hx,h⟩)
   .exact .inl (.inl h)
   rcases cQ.1 hx with e|hx
   .subst e;exact .inl (.inr h.2.2.symm)
   exact .inr ⟨x,hx,h⟩
  rw[aR c]
  obtain⟨h1,h2⟩:=ih o
  refine⟨fun i=> ?_,h2⟩
  rw[h1]
  constructor
  .rintro(h|⟨x,hx,h⟩)
   .exact .inl h
   exact .inr ⟨x,oN,h⟩
  rintro(h|⟨x,hx,h⟩)
  .exact .inl h
  rcases cQ.1 hx with e|hx
  .subst e;exact absurd ⟨h.1,h.2.1⟩ c
  exact .inr ⟨x,hx,h⟩
theorem ow{l:List dz}{i:Int}:i∈bS l↔∃x∈l,x.op=1/\0<=x.n/\x.n=i:=by simp_all[bS,Qe]
theorem Fj(l:List dz):(bS l).Pairwise (· <·):=(Qe l []).2 List.Pairwise.nil
def Cr(n:Nat)(sh:Sh)(code:List dz)(to:iw):tg:=⟨sh,fun u=>(fY sh code ((List.range n).map u)).1,if to.var<0 then none else some to.var.toNat,to.c,(bS code).map Int.toNat⟩
structure Za(S:Sys)(sh:Sh)(code:List dz)(to:iw):Prop where
 right:gq code=true
 var:∀x,x∈code->x.op=1->0<=x.n/\x.n<S.n/\S.sh x.n.toNat=sh
 con:∀x,x∈code->x.op=2->cF sh x.c=true
 to0:to.var<0->cF sh to.c=true
 to1:0<=to.var->to.var<S.n/\S.sh to.var.toNat=sh
theorem qc{n:Nat}{u:Va}{i:Nat}(h:i<n):((List.range n).map u).getD i dH=u i:=by grind
theorem aia{S:Sys}{sh:Sh}{code:List dz}{to:iw}(h:Za S sh code to):ud S (Cr S.n sh code to):=by
 have key:∀u v:Va,pP S u->pP S v->(∀i,i∈(bS code).map Int.toNat->cT (u i) (v i)=true)->ah9 sh code ((List.range S.n).map u) ((List.range S.n).map v):=fun u v hu hv hl x hx=>by
  refine⟨fun ho=> ?_,h.con x hx⟩
  obtain⟨h0,h1,h2⟩:=h.var x hx ho
  rw[qc J,qc J]
  have f1:=hu x.n.toNat J;have f2:=hv x.n.toNat J
  rw[h2]at f1 f2
  exact⟨h0,ES,f1,f2,hl _ (fX.2 ⟨x.n,ow.2 ⟨x,hx,ho,h0,rfl⟩,rfl⟩)⟩
 refine⟨fun u hu=> ?_,fun i hi=> ?_,fun u v hu hv hl=> ?_,fun k hk=> ?_⟩
 .exact(MU h.right aF (key u u hu hu fun _ _=>jR _)).2.2.1
 .obtain⟨j,hj,rfl⟩:=fX.1 hi
  obtain⟨x,hx,ho,h0,rfl⟩:=ow.1 hj
  have:=(h.var x hx ho).2.1;omega
 .exact(MU h.right aF (key u v hu hv hl)).2.2.2
 unfold Cr at hk
 by_cases c:to.var<0
 .simp[c]at hk
 simp[c]at hk
 subst hk
 have:=h.to1 J
 exact⟨J,this.2⟩
theorem zQ:∀{m:List Int} {i:Nat} {n:Int},i<=m.length->(∀j:Nat,j<i->m.getD j 0<n)->(i<m.length->n<m.getD i 0)->sZ m n=m.take i++n::m.drop i
 |[],i,n,h,_,_=>by simp at h;subst h;rfl
 |a::m,0,n,_,_,h3=>by
  have:=h3 aF
  have:n<a:=this
  unfold sZ
  rw[aR J,aR J];rfl
 |a::m,i+1,n,h,h2,h3=>by
  have h0:a<n:=h2 0 J
  have ih:=zQ (m:=m) (i:=i) (n:=n) xl (fun j hj=>h2 (j+1) J) (fun hi=>h3 zg)
  unfold sZ
  rw[aS h0,ih];rfl
theorem aib:∀{m:List Int} {i:Nat} {n:Int},i<m.length->(∀j:Nat,j<i->m.getD j 0<n)->m.getD i 0=n->sZ m n=m
 |[],i,n,h,_,_=>by simp at h
 |a::m,0,n,_,_,h3=>by
  have:a=n:=h3
  unfold sZ
  rw[aR J,aS this]
 |a::m,i+1,n,h,h2,h3=>by
  have h0:a<n:=h2 0 J
  have ih:=aib (m:=m) (i:=i) (n:=n) xl (fun j hj=>h2 (j+1) J) h3
  unfold sZ
  rw[aS h0,ih]
theorem jy{l:List dz}{k:Int}(h0:0<=k)(h1:k<l.length):bS (l.take (k+1).toNat)=if(l.getD k.toNat cB).op=1/\0<=(l.getD k.toNat cB).n then sZ (bS (l.take k.toNat)) (l.getD k.toNat cB).n else bS (l.take k.toNat):=by grind[bS,Iu]
theorem DA(l:List dz):(bS l).length<=l.length:=by
 have key:∀(l:List dz) (o:List Int),(l.foldl (fun o x=>if x.op=1/\0<=x.n then sZ o x.n else o) o).length<=o.length+l.length:=fun l=>by
  induction l with
  |nil=>intro o;simp
  |cons a l ih=>
   intro o
   have hi:∀(o:List Int) (n:Int),(sZ o n).length<=o.length+1:=fun o n=>by
    induction o with
    |nil=>simp[sZ]
    |cons b o io=>
     unfold sZ
     split
     .simp only[eR];omega
     split
     .simp
     simp
   rw[rA]
   refine kM (ih _) ?_
   have:(if a.op=1/\0<=a.n then sZ o a.n else o).length<=o.length+1:=by
    split
    .exact hi o a.n
    omega
   simp only[eR];omega
 simpa[bS]using key l []
theorem ae9{m:List Int}{x z:Int}{p:Int}(h0:0<=p)(h1:p<=m.length):
  rX (rX (m.map I++[I z]) ((p+1).toNat*1) (((m.map I++[I z]).drop (p.toNat*1)).take ((m.length-p.toNat)*1))) (p.toNat*1) [I x]=(m.take p.toNat++x::m.drop p.toNat).map I:=by
 have hl:(m.map I).length=m.length:=aF
 have hq:p.toNat<=m.length:=J
 simp only[lE,show(p+1).toNat=p.toNat+1 by omega]
 generalize p.toNat=q at*
 have e1:((m.map I++[I z]).drop q).take (m.length-q)=(m.drop q).map I:=by
  rw[KU J,QX Ls,iV Ls]
  simp[XL]
 have l1:((m.drop q).map I).length=m.length-q:=aF
 rw[e1]
 have e2:rX (m.map I++[I z]) (q+1) ((m.drop q).map I)=(m.map I++[I z]).take (q+1)++(m.drop q).map I:=by
  have e0:(m.map I++[I z]).drop (q+1+(m.length-q))=[]:=KZ (by rw[cZ,hl,gN];omega)
  rw[rX,l1,e0,lY]
 have l2:((m.map I++[I z]).take (q+1)).length=q+1:=by rw[eP];simp;omega
 rw[e2,rX,QX J,BG,rz J,QX (by rw[hl];omega)]
 rw[gN,List.drop_append,l2,Rm,Lc,KZ (by rw[l2];exact er _),eC]
 simp[BI,XL]
theorem s0{m:List Int}{z:Int}{u:Value}(hu:u∈m.map I++[I z]):u.oneCell'=true:=by
 rcases eI.1 hu with h|h
 .obtain⟨x,_,rfl⟩:=fX.1 h;rfl
 rw[dY.1 h];rfl
theorem aic{S:Sys}{sh:Sh}{code:List dz}{to:iw}(h:Za S sh code to){x:Nat}(hx:x∈(Cr S.n sh code to).vars):x<S.n/\S.sh x=sh:=by
 obtain⟨j,hj,rfl⟩:=fX.1 hx
 obtain⟨y,hy,ho,h0,rfl⟩:=ow.1 hj
 have:=h.var y hy ho
 exact⟨J,this.2.2⟩
def j7(s:kE):Sys:=⟨s.vars.length,fun i=>iO s (s.vars.getD i gL).aX⟩
theorem aso{s:kE}{aX:Int}{code:List dz}{to:iw}(hc:codeOk s aX code=true)(ha:lO s aX to=true):Za (j7 s) (iO s aX) code to:=by
 simp only[codeOk,cG]at hc
 obtain⟨hi,hr⟩:=hc
 have kd:∀v kd:Int,qA s v kd aX=true->(0<=v/\v<s.vars.length)/\(s.vars.getD v.toNat gL).aX=aX:=fun v kd h=>by
  simp only[qA,cG,eo]at h
  exact⟨h.1.1,h.2⟩
 refine⟨hr,fun x hx ho=> ?_,fun x hx ho=> ?_,fun h0=> ?_,fun h0=> ?_⟩
 .have WQ:=iN.1 hi x hx
  simp only[u7,cG,pE,BE,wv]at WQ
  obtain⟨h1,h2⟩:=kd _ _ (WQ.1.resolve_left fun q=>q ho)
  exact⟨h1.1,h1.2,by show iO s _=_;rw[h2]⟩
 .have WQ:=iN.1 hi x hx
  simp only[u7,cG,pE,BE,wv]at WQ
  exact WQ.2.resolve_left fun q=>q ho
 .rw[lO,aS h0]at ha;exact ha
 rw[lO,aR J]at ha
 obtain⟨h1,h2⟩:=kd _ _ ha
 exact⟨h1.2,by show iO s _=_;rw[h2]⟩
structure pg where
 p:kW
 e:Value
 l:Value
 j:Value
 d:Wr
 low:El
def WT(x:pg):List Value:=zv x.p++([x.e,x.l,x.j]++s8 x.low)
theorem qQ(x:pg):(WT x).length=13:=by simp[WT,zv,fK]
structure dw where
 aX:Int
 cv:Value
 code:List dz
 to:iw
 why:BitVec 64
 vv:Value
 vars:List Int
def pQ(x:dw):List Value:=I x.aX::x.cv::(jq x.to++[U x.why,x.vv])
theorem ph(x:dw):(pQ x).length=13:=by simp[pQ,Dp]
structure DJ(K:Vu)(x:dw):Prop where
 code:pN K x.cv 10 x.code.length (x.code.flatMap j6)
 vars:pN K x.vv 1 x.vars.length (x.vars.map I)
theorem DJ.mono{K K':Vu}{x:dw}(h:DJ K x)(hl:Le K K'):DJ K' x:=⟨h.code.mono hl,h.vars.mono hl⟩
def cP:dw:=⟨0,.slice none 0 0,[],ag7,0,.slice none 0 0,[]⟩
def o3:pg:=⟨DE,.nilFunc,.nilFunc,.nilFunc,.base DE tb0,dH⟩
theorem s3{K:Vu}{x:dw}(h:DJ K x):∀u∈(pQ x).toArray,u.oneCell'=true:=by
 intro u hu
 simp only[pQ,K7,cQ,eI,Hw,BO]at hu
 rcases hu with rfl|rfl|hu|rfl|rfl
 .rfl
 .exact(Ge h.code).1
 .exact It x.to u qy
 .rfl
 exact(Ge h.vars).1
inductive lU
 |aX (i:Nat)
 |var (i:Nat) (m:Int)
 |add (i:Nat) (q:dw)
 |raise (v:Int) (was:El) (had:BitVec 64)
 |merge (m:Int)
 |seen (was:Int)
 |stuck
structure NTy where
 fL:FuncId
 fV:FuncId
 fA:FuncId
 fR:FuncId
 fM:FuncId
 fS:FuncId
 fE:FuncId
 tn:TypeId
 ti:TypeId
 te:TypeId
 tu:TypeId
 tq:TypeId
def mJ(T:NTy)(n:Nat)(L:List a7)(x:Value×lU):Prop:=
 match x.2 with
 | .aX i=>∃b1 b2,x.1=iH T.fL #[pt b1,pt b2]/\a7.blk b1 (.cells #[pt n] T.tn (0,0))∈L/\a7.blk b2 (.cells #[I i] T.ti (0,0))∈L
 | .var i m=>∃b1 b2 b3,x.1=iH T.fV #[pt b1,pt b2,pt b3]/\a7.blk b1 (.cells #[pt n] T.tn (0,0))∈L/\a7.blk b2 (.cells #[I i] T.ti (0,0))∈L/\a7.blk b3 (.cells #[I m] T.ti (0,0))∈L
 | .add i q=>∃b1 b2 b3,x.1=iH T.fA #[pt b1,pt b2,pt b3]/\a7.blk b1 (.cells #[pt n] T.tn (0,0))∈L/\a7.blk b2 (.cells #[I i] T.ti (0,0))∈L/\a7.blk b3 (.cells (pQ q).toArray T.tq (0,0))∈L
 | .raise v was had=>∃b1 b2 b3 b4,x.1=iH T.fR #[pt b1,pt b2,pt b3,pt b4]/\a7.blk b1 (.cells (jv was) T.te (0,0))∈L/\a7.blk b2 (.cells #[U had] T.tu (0,0))∈L/\a7.blk b3 (.cells #[pt n] T.tn (0,0))∈L/\a7.blk b4 (.cells #[I v] T.ti (0,0))∈L
 | .merge m=>∃b1 b2,x.1=iH T.fM #[pt b1,pt b2]/\a7.blk b1 (.cells #[pt n] T.tn (0,0))∈L/\a7.blk b2 (.cells #[I m] T.ti (0,0))∈L
 | .seen was=>∃b1 b2,x.1=iH T.fS #[pt b1,pt b2]/\a7.blk b1 (.cells #[I was] T.ti (0,0))∈L/\a7.blk b2 (.cells #[pt n] T.tn (0,0))∈L
 | .stuck=>∃b1,x.1=iH T.fE #[pt b1]/\a7.blk b1 (.cells #[pt n] T.tn (0,0))∈L
theorem mJ.mono{T:NTy}{n:Nat}{L L':List a7}{x:Value×lU}(h:mJ T n L x)(hs:∀e∈L,e∈L'):mJ T n L' x:=by
 obtain⟨v,c⟩:=x
 cases c with
 |aX i=>obtain⟨b1,b2,h0,h1,h2⟩:=h;exact⟨b1,b2,h0,hs _ h1,hs _ h2⟩
 |var i m=>obtain⟨b1,b2,b3,h0,h1,h2,h3⟩:=h;exact⟨b1,b2,b3,h0,hs _ h1,hs _ h2,hs _ h3⟩
 |add i q=>obtain⟨b1,b2,b3,h0,h1,h2,h3⟩:=h;exact⟨b1,b2,b3,h0,hs _ h1,hs _ h2,hs _ h3⟩
 |raise v was had=>obtain⟨b1,b2,b3,b4,h0,h1,h2,h3,h4⟩:=h;exact⟨b1,b2,b3,b4,h0,hs _ h1,hs _ h2,hs _ h3,hs _ h4⟩
 |merge m=>obtain⟨b1,b2,h0,h1,h2⟩:=h;exact⟨b1,b2,h0,hs _ h1,hs _ h2⟩
 |seen was=>obtain⟨b1,b2,h0,h1,h2⟩:=h;exact⟨b1,b2,h0,hs _ h1,hs _ h2⟩
 |stuck=>obtain⟨b1,h0,h1⟩:=h;exact⟨b1,h0,hs _ h1⟩
theorem getD_eq{α:Type}{l:List α}{d:α}{k:Nat}(h:k<l.length):l.getD k d=l[k]:=by grind
theorem mR{α β:Type}{f:β->α->β}{b:β}{l:List α}{d:α}{k:Int}(h0:0<=k)(h1:k<l.length):(l.take (k+1).toNat).foldl f b=f ((l.take k.toNat).foldl f b) (l.getD k.toNat d):=by
 have hk:k.toNat<l.length:=J
 rw[show(k+1).toNat=k.toNat+1 by omega,DY hk,getD_eq hk,wZ]
 rfl
theorem aid{α:Type}{l:List α}{d:α}{p:α->Bool}{k:Int}(h0:0<=k)(h1:k<l.length)(hp:p (l.getD k.toNat d)=true):l.any p=true:=by grind
theorem am2{α:Type}{l:List α}{d:α}{p:α->Bool}(h:∀j,j<l.length->p (l.getD j d)=false):l.any p=false:=by
 rw[Xv]
 intro x hx
 obtain⟨j,hj,rfl⟩:=yM.1 hx
 have:=h j hj
 rw[getD_eq hj]at this;rw[this];exact KV
def EP(q:dw):Bool:=decide (q.code.length=1)&&decide ((q.code.getD 0 cB).op=1)&&decide (0<=q.to.var)
def orW(y:BitVec 64)(ws:List (BitVec 64))(l:List Int):BitVec 64:=l.foldl (fun a v=>a|||ws.getD v.toNat 0) y
theorem aif{y:BitVec 64}{ws:List (BitVec 64)}{l:List Int}{k:Int}(h0:0<=k)(h1:k<l.length):orW y ws (l.take (k+1).toNat)=orW y ws (l.take k.toNat)|||ws.getD (l.getD k.toNat 0).toNat 0:=by
 have hk:k.toNat<l.length:=J
 rw[show(k+1).toNat=k.toNat+1 by omega,DY hk,getD_eq hk]
 unfold orW
 rw[wZ]
 rfl
def Zb(K:Vu)(qs:List dw):Prop:=∀q∈qs,DJ K q
theorem Zb.mono{K K':Vu}{qs:List dw}(h:Zb K qs)(hl:Le K K'):Zb K' qs:=fun q hq=>(h q hq).mono hl
theorem Zb.at{K:Vu}{qs:List dw}(h:Zb K qs){k:Int}(h0:0<=k)(h1:k<qs.length):DJ K (qs.getD k.toNat cP):=h _ (dh h0 h1)
def xO(q:dw):Int:=q.vars.getD 0 0
def grQ(g:List (List Int))(q:dw):List (List Int):=if EP q=true then g.set (xO q).toNat (g.getD (xO q).toNat []++[q.to.var])else g
def cz(n:Nat)(qs:List dw):List (List Int):=qs.foldl grQ (List.replicate n [])
theorem am3{g:List (List Int)}{q:dw}:(grQ g q).length=g.length:=by grind[grQ]
theorem Fk(n:Nat)(qs:List dw):(cz n qs).length=n:=by
 have key:∀(qs:List dw) (g:List (List Int)),(qs.foldl grQ g).length=g.length:=fun qs=>by
  induction qs with
  |nil=>intro g;rfl
  |cons q qs ih=>intro g;rw[rA,ih,am3]
 unfold cz;rw[key];simp
theorem abo{gs:List jM}{k:Nat}{x:jM}:pO (gs.set k x)=(pO gs).set k x.l:=by simp_all[pO]
theorem MW{n:Nat}{qs:List dw}{k:Int}(h0:0<=k)(h1:k<qs.length):cz n (qs.take (k+1).toNat)=grQ (cz n (qs.take k.toNat)) (qs.getD k.toNat cP):=mR h0 h1
theorem aih{gs:List jM}{i b:Nat}{x:jM}(h:∀y∈gs,y.l.length<=b)(hx:x.l.length<=b+1):∀y∈gs.set i x,y.l.length<=b+1:=by grind
def Vl(n:Nat)(qs:List dw):Prop:=∀q∈qs,EP q=true->0<q.vars.length/\(0<=xO q/\xO q<n)/\q.to.var<n
theorem Vl.at{n:Nat}{qs:List dw}(h:Vl n qs){k:Int}(h0:0<=k)(h1:k<qs.length)(hp:EP (qs.getD k.toNat cP)=true):0<(qs.getD k.toNat cP).vars.length/\(0<=xO (qs.getD k.toNat cP)/\xO (qs.getD k.toNat cP)<n)/\(qs.getD k.toNat cP).to.var<n:=h _ (dh h0 h1) hp
def MX(cl:List Nat)(ws:List (BitVec 64))(o:List (BitVec 64))(v:Nat):List (BitVec 64):=o.set (fw cl v).toNat (o.getD (fw cl v).toNat 0|||ws.getD v 0)
def JK(cl:List Nat)(q:dw):Bool:=EP q&&decide (fw cl (xO q)=fw cl q.to.var)&&decide (xO q≠q.to.var)
def JV(cl:List Nat)(o:List (BitVec 64))(q:dw):List (BitVec 64):=if JK cl q=true then o.set (fw cl q.to.var).toNat (o.getD (fw cl q.to.var).toNat 0|||q.why)else o
def Vm(cl:List Nat)(ws:List (BitVec 64))(n:Nat):List (BitVec 64):=(List.range n).foldl (MX cl ws) (List.replicate n 0)
def Cs(cl:List Nat)(ws:List (BitVec 64))(n:Nat)(qs:List dw):List (BitVec 64):=qs.foldl (JV cl) (Vm cl ws n)
theorem DB{α:Type}{f:List (BitVec 64)->α->List (BitVec 64)}(hf:∀o a,(f o a).length=o.length):∀(l:List α) (o:List (BitVec 64)),(l.foldl f o).length=o.length
 |[],o=>rfl
 |a::l,o=>by rw[rA,DB hf,hf]
theorem adS{cl:List Nat}{ws:List (BitVec 64)}{n:Nat}{k:Int}(h0:0<=k):((List.range (k+1).toNat).foldl (MX cl ws) (List.replicate n 0))=MX cl ws ((List.range k.toNat).foldl (MX cl ws) (List.replicate n 0)) k.toNat:=by
 rw[show(k+1).toNat=k.toNat+1 by omega,xa,wZ];rfl
theorem MY(cl:List Nat)(ws o:List (BitVec 64))(v:Nat):(MX cl ws o v).length=o.length:=by simp[MX]
theorem Vn(cl:List Nat)(o:List (BitVec 64))(q:dw):(JV cl o q).length=o.length:=by grind[JV]
theorem aii{cl:List Nat}{nd:List qa}{v:Int}(h:Fo nd cl)(hv:0<=v/\v<cl.length):0<=fw cl v/\fw cl v<cl.length:=by grind[qa,Fo,fw,mG]
theorem wN.find{T:FTy}{F m:Nat}{cs:List (List Nat)}{vW vU:Value}{cW cU:Option (Nat×Array Value)}{W:List (BitVec 64)}{ul:List (Value×jD)}{ts:List Int}{cn:Int}{L:List a7}{n:Nat}(h:wN T F m cs vW vU cW cU W ul ts cn L)(hl:(bq cs).length=n)(v:Int)(hv:0<=v/\v<n):0<=fw (bq cs) v/\fw (bq cs) v<n:=by
 obtain⟨nd,cl,Av,rfl,-,h2,-⟩:=h.now
 subst hl
 exact aii (cl:=cl) h2 hv
def oX(p:List Int×List Bool)(i:Int):List Int×List Bool:=if p.2.getD i.toNat false=true then p else(p.1++[i],p.2.set i.toNat true)
def rj(p:List Int×List Bool)(l:List Int):List Int×List Bool:=l.foldl oX p
theorem Qf{p:List Int×List Bool}{l:List Int}{k:Int}(h0:0<=k)(h1:k<l.length):rj p (l.take (k+1).toNat)=oX (rj p (l.take k.toNat)) (l.getD k.toNat 0):=mR h0 h1
theorem abp{wl:List Int}{wi:List Bool}{i:Int}(h:(!wi.getD i.toNat false)=true):oX (wl,wi) i=(wl++[i],wi.set i.toNat true):=by grind[oX]
theorem Vo{wl:List Int}{wi:List Bool}{i:Int}(h:(!wi.getD i.toNat false)=false):oX (wl,wi) i=(wl,wi):=by grind[oX]
theorem MZ(p:List Int×List Bool)(i:Int):(oX p i).2.length=p.2.length:=by grind[oX]
theorem yg:∀{l:List Int} {p:List Int×List Bool},(rj p l).2.length=p.2.length
 |[],p=>rfl
 |i::l,p=>by
  show(rj (oX p i) l).2.length=_
  rw[yg,MZ]
theorem am4(p:List Int×List Bool)(i:Int):(oX p i).1.length<=p.1.length+1:=by grind[oX]
theorem Gw:∀{l:List Int} {p:List Int×List Bool},(rj p l).1.length<=p.1.length+l.length
 |[],p=>by simp[rj]
 |i::l,p=>by
  have h1:=Gw (l:=l) (p:=oX p i)
  have h2:=am4 p i
  show(rj (oX p i) l).1.length<=_
  rw[eR];omega
def lQ(aj:List El)(us:List jM)(p:List Int×List Bool)(v:Int)(e:El):List Int×List Bool:=if rC (aj.getD v.toNat dH) e then p else rj p (us.getD v.toNat cY).l
theorem Hp.axg{w0 w:World}{R:List a7}{t:TypeId}(K:Vu):∀{gs:List jM} {A:List a7},Hp w0 w (A++(gs.map (dI t)++R))->∃Z,Hp w0 w (A++(Z++R))/\∀x∈gs,pN (Kz K Z) x.v 1 x.l.length (x.l.map I)
 |[],A,h=>⟨[],h,fun x hx=>by cases hx⟩
 |x::gs,A,h=>by
  have h1:Hp w0 w (dI t x::(A++(gs.map (dI t)++R))):=h.perm aF
  obtain⟨Z1,h2,h3,_⟩:=h1.Yx K
  have h4:Hp w0 w ((Z1++A)++(gs.map (dI t)++R)):=by rw[dG];exact h2
  obtain⟨Z,h5,h6⟩:=Hp.axg K h4
  refine⟨Z1++Z,h5.perm ?_,fun y hy=> ?_⟩
  .rw[dG,dG]
   exact wu _ _ _
  rcases cQ.1 hy with e|hy
  .subst e;exact h3.mono (Le.zz fun a ha=>dy _ ha)
  exact(h6 y hy).mono (Le.zz fun a ha=>bG _ ha)
theorem Hp.aD7{w0 w:World}{R:List a7}{t t2:TypeId}{v:Value}{gs:List jM}(K:Vu)(h:Hp w0 w (jG jM.v v t2 gs::(gs.map (dI t)++R))):∃Z,Hp w0 w (Z++R)/\GrV (Kz K Z) v gs:=by
 obtain⟨Z,h1,h2⟩:=Hp.axg K (A:=[jG jM.v v t2 gs]) h
 obtain⟨Z2,h3,h4,_⟩:=Hp.Yx (L:=Z++R) h1 K
 exact⟨Z2++Z,by rw[dG];exact h3,h4.mono (Le.zz fun a ha=>dy _ ha),fun x hx=>(h2 x hx).mono (Le.zz fun a ha=>bG _ ha)⟩
structure NP where
 au:List pg
 aX:List Int
 aj:List El
 a6:List (BitVec 64)
 us:List (List Int)
 qs:List dw
 sn:Int
 cs:List (List Nat)
 sk:Bool
 wy:BitVec 64
 wr:Value
def Gx(u:List (List Int))(v:Int):List (List Int):=u.set v.toNat (u.getD v.toNat []).dropLast
def vp:lU->NP->NP
 | .aX i,s=>{s with au:=s.au.take i}
 | .var i m,s=>{s with aX:=s.aX.take i,aj:=s.aj.take i,a6:=s.a6.take i,us:=s.us.take i,cs:=(Cl s.cs m).1}
 | .add i q,s=>{s with qs:=s.qs.take i,us:=q.vars.foldl Gx s.us}
 | .raise v was had,s=>{s with aj:=s.aj.set v.toNat was,a6:=s.a6.set v.toNat had}
 | .merge m,s=>{s with cs:=(Cl s.cs m).1}
 | .seen was,s=>{s with sn:=was}
 | .stuck,s=>{s with sk:=false,wy:=0}
def okN:lU->NP->Prop
 | .aX i,s=>i<=s.au.length
 | .var i m,s=>i<=s.aX.length/\i<=s.aj.length/\i<=s.a6.length/\i<=s.us.length
 | .add i q,s=>i<=s.qs.length/\q.vars.Nodup/\∀v∈q.vars,0<=v/\v<s.us.length/\s.us.getD v.toNat []≠[]
 | .raise v _ _,s=>0<=v/\v<s.aj.length/\v<s.a6.length
 | .merge _,_=>True
 | .seen _,_=>True
 | .stuck,_=>True
def DK:List lU->NP->NP
 |[],s=>s
 |c::l,s=>DK l (vp c s)
def okB:List lU->NP->Prop
 |[],_=>True
 |c::l,s=>okN c s/\okB l (vp c s)
theorem Vp(a b:List lU)(s:NP):DK (a++b) s=DK b (DK a s):=by
 induction a generalizing s with
 |nil=>rfl
 |cons c a ih=>exact ih _
theorem SG(a b:List lU)(s:NP):okB (a++b) s↔okB a s/\okB b (DK a s):=by
 induction a generalizing s with
 |nil=>simp[okB,DK]
 |cons c a ih=>simp only[gf,okB,DK,ih,and_assoc]
structure iD(new:List (Value×lU))(s s':NP):Prop where
 und:DK (new.map Prod.snd).reverse s'=s
 ok:okB (new.map Prod.snd).reverse s'
theorem iD.nil(s:NP):iD [] s s:=⟨rfl,trivial⟩
theorem iD.trans{a b:List (Value×lU)}{s s' s'':NP}(h:iD a s s')(h2:iD b s' s''):iD (a++b) s s'':=by grind[lU,NP,iD,Vp,SG]
theorem iD.one{f:Value}{c:lU}{s s':NP}(h:vp c s'=s)(ho:okN c s'):iD [(f,c)] s s':=⟨h,ho,trivial⟩
theorem Vq{α:Type}{l:List α}{k:Nat}{d e:α}(h:k<l.length):(l.set k e).set k (l.getD k d)=l:=jY
theorem Zd{f:Value}{s:NP}{v:Int}{e:El}{y:BitVec 64}(h1:0<=v/\v<s.aj.length)(h2:v<s.a6.length):
  iD [(f,.raise v (s.aj.getD v.toNat dH) (s.a6.getD v.toNat 0))] s {s with aj:=s.aj.set v.toNat e,a6:=s.a6.set v.toNat y}:=by
 refine iD.one ?_ ⟨h1.1,by simpa using h1.2,by simpa using h2⟩
 simp only[vp]
 rw[Vq J,Vq J]
def II:lU->Prop
 | .raise _ _ _=>True
 | .merge _=>True
 |_=>False
def rgS(us:List jM)(e:El)(s:List El×(List Int×List Bool))(k:Int):List El×(List Int×List Bool):=(s.1.set k.toNat e,lQ s.1 us s.2 k e)
def xz(aj:List El)(us:List jM)(p:List Int×List Bool)(ks:List Int)(e:El):List El×(List Int×List Bool):=ks.foldl (rgS us e) (aj,p)
theorem aij{aj:List El}{us:List jM}{p:List Int×List Bool}{ks:List Int}{e:El}{k:Int}(h0:0<=k)(h1:k<ks.length):xz aj us p (ks.take (k+1).toNat) e=rgS us e (xz aj us p (ks.take k.toNat) e) (ks.getD k.toNat 0):=mR h0 h1
theorem yh{us:List jM}{e:El}:∀{ks:List Int} {aj:List El} {p:List Int×List Bool},(xz aj us p ks e).1=gx aj ks e
 |[],aj,p=>rfl
 |k::ks,aj,p=>by
  show(xz (aj.set k.toNat e) us (lQ aj us p k e) ks e).1=gx (aj.set k.toNat e) ks e
  exact yh
theorem M0{aj:List El}{us:List jM}{p:List Int×List Bool}{v:Int}{e:El}:(lQ aj us p v e).2.length=p.2.length:=by grind[lQ,yg]
theorem KL{us:List jM}{e:El}:∀{ks:List Int} {aj:List El} {p:List Int×List Bool},(xz aj us p ks e).2.2.length=p.2.length
 |[],aj,p=>rfl
 |k::ks,aj,p=>by
  show(xz (aj.set k.toNat e) us (lQ aj us p k e) ks e).2.2.length=_
  rw[KL,M0]
theorem am5{aj:List El}{us:List jM}{p:List Int×List Bool}{v:Int}{e:El}(h:(us.getD v.toNat cY).l.length<=1000):(lQ aj us p v e).1.length<=p.1.length+1000:=by grind[lQ,Gw,cY]
theorem aik{us:List jM}{e:El}(hu:∀k:Nat,k<us.length->(us.getD k cY).l.length<=1000):∀{ks:List Int} {aj:List El} {p:List Int×List Bool},(∀k∈ks,0<=k/\k<us.length)->(xz aj us p ks e).2.1.length<=p.1.length+1000*ks.length
 |[],aj,p,_=>by simp[xz]
 |k::ks,aj,p,h=>by
  have h1:=aik (e:=e) hu (ks:=ks) (aj:=aj.set k.toNat e) (p:=lQ aj us p k e) fun q hq=>h q (by simp[hq])
  have h2:=am5 (aj:=aj) (p:=p) (v:=k) (e:=e) (hu k.toNat (by have:=h k aF;omega))
  show(xz (aj.set k.toNat e) us (lQ aj us p k e) ks e).2.1.length<=_
  rw[eR];omega
theorem mi{cl:List Nat}{i k:Int}(h:k∈bJ cl i):(0<=i/\i<cl.length)/\0<=k/\k<cl.length/\ct cl k.toNat=ct cl i.toNat:=by grind[bJ,zI]
theorem IJ{cl:List Nat}{i k:Int}:k∈bJ cl i↔(0<=i/\i<cl.length)/\0<=k/\k<cl.length/\ct cl k.toNat=ct cl i.toNat:=by grind[mi,bJ,Int.toNat_of_nonneg,zI]
theorem vx{cl:List Nat}{i:Int}:(bJ cl i).length<=cl.length:=by
 unfold bJ;split
 .rw[gB]
  exact kM (List.length_filter_le ..) aF
 simp
theorem Vr{cs:List (List Nat)}{i j:Int}:(jc cs i j).2=true/\(∃a,(jc cs i j).1=a::cs)\/(jc cs i j).2=false/\(jc cs i j).1=cs:=by grind[jc]
theorem Ze{f:Value}{s:NP}{i j:Int}(h:0<s.cs.length)(hu:(jc s.cs i j).2=true):
  iD [(f,.merge ((s.cs.length:Int)-1))] s {s with cs:=(jc s.cs i j).1}:=by
 refine iD.one ?_ trivial
 rcases Vr (cs:=s.cs) (i:=i) (j:=j)with⟨_,a,e⟩|⟨e,_⟩
 .rw[e]
  simp only[vp]
  have:Cl (a::s.cs) ((s.cs.length:Int)-1)=(s.cs,true):=by
   unfold Cl
   rw[aR (by simp only[eR];omega),show(a::s.cs).length-1-(max 0 ((s.cs.length:Int)-1)).toNat=1 by simp only[eR];omega]
   rfl
  rw[this]
 rw[hu]at e;cases e
theorem adT{cs:List (List Nat)}{i j:Int}(h:(jc cs i j).2=false):(jc cs i j).1=cs:=by grind[Vr]
structure WU(T:On)(K:Vu)(ids:List Nat)(tl:List (Nat×Rl))(x:pg):Prop where
 ops:yf T K x.d x.e x.l x.j
 EX:x.d.EX ids tl
 sh:x.d.sh.sh=x.p.sh
 zx:ld K x.p
 dep:x.d.dep<=1
theorem WU.mono{T:On}{K K':Vu}{ids:List Nat}{tl:List (Nat×Rl)}{x:pg}(h:WU T K ids tl x)(hl:Le K K'):WU T K' ids tl x:=⟨h.ops.mono hl,h.EX,h.sh,h.zx.mono hl,h.dep⟩
def Vs(T:On)(K:Vu)(ids:List Nat)(tl:List (Nat×Rl))(l:List pg):Prop:=∀x∈l,WU T K ids tl x
theorem Vs.mono{T:On}{K K':Vu}{ids:List Nat}{tl:List (Nat×Rl)}{l:List pg}(h:Vs T K ids tl l)(hl:Le K K'):Vs T K' ids tl l:=fun x hx=>(h x hx).mono hl
theorem Vs.at{T:On}{K:Vu}{ids:List Nat}{tl:List (Nat×Rl)}{l:List pg}(h:Vs T K ids tl l){k:Int}(h0:0<=k)(h1:k<l.length):WU T K ids tl (l.getD k.toNat o3):=h _ (dh h0 h1)
theorem apj{d:Wr}{ids:List Nat}{tl:List (Nat×Rl)}{s:Sh}(h:d.EX ids tl)(hs:d.sh.sh=s)(a b:El):jv (oS d.tb a b)=jv (fH s a b):=by
 subst hs
 refine rT ?_
 induction d with
 |base p tb=>exact adJ h.1 _ _
 |wrap m d ih=>exact ih h.2
def skQ(cl:List Nat)(q:dw):Bool:=EP q&&decide (fw cl (xO q)=fw cl q.to.var)
structure LkO where
 ok:Bool
 aj:List El
 a6:List (BitVec 64)
 wl:List Int
 wi:List Bool
 wy:BitVec 64
 ks:List Kd
def Vt(d:Wr)(ks:List Kd)(f:Ct):Ct:=ks.foldl (fun f k=>d.tick k f) f
section
variable(cl:List Nat)(us:List jM)(sh:Sh)(q:dw)(aj:List El)(a6:List (BitVec 64))(wl:List Int)(wi:List Bool)(wy:BitVec 64)
def lkE:El:=(fY sh q.code aj).1
def lkJ:El:=fH sh (aj.getD q.to.var.toNat dH) (lkE sh q aj)
def lkR:LkO:=
 ⟨true,(xz aj us (wl,wi) (bJ cl q.to.var) (lkJ sh q aj)).1,gx a6 (bJ cl q.to.var) (a6.getD q.to.var.toNat 0|||orW q.why a6 q.vars),(xz aj us (wl,wi) (bJ cl q.to.var) (lkJ sh q aj)).2.1,(xz aj us (wl,wi) (bJ cl q.to.var) (lkJ sh q aj)).2.2,wy,[.e,.l,.j]⟩
def ng:LkO:=
 if skQ cl q=true then⟨true,aj,a6,wl,wi,wy,[]⟩
 else if q.to.var<0 then
  if cT (lkE sh q aj) q.to.c=true then⟨true,aj,a6,wl,wi,wy,[.e,.l]⟩else⟨false,aj,a6,wl,wi,orW q.why a6 q.vars,[.e,.l]⟩
 else if cT (lkE sh q aj) (aj.getD q.to.var.toNat dH)=true then⟨true,aj,a6,wl,wi,wy,[.e,.l]⟩
 else lkR cl us sh q aj a6 wl wi wy
end
structure pn(f f':Ct)(a b c:Nat):Prop where
 e:∀i,(f i).e<=(f' i).e/\(f' i).e<=(f i).e+a
 l:∀i,(f i).l<=(f' i).l/\(f' i).l<=(f i).l+b
 j:∀i,(f i).j<=(f' i).j/\(f' i).j<=(f i).j+c
theorem pn.refl(f:Ct):pn f f 0 0 0:=⟨fun i=>J,fun i=>J,fun i=>J⟩
theorem pn.trans{f g h:Ct}{a b c a' b' c':Nat}(p:pn f g a b c)(q:pn g h a' b' c'):pn f h (a+a') (b+b') (c+c'):=
 ⟨fun i=>by have:=p.e i;have:=q.e i;omega,fun i=>by have:=p.l i;have:=q.l i;omega,fun i=>by have:=p.j i;have:=q.j i;omega⟩
theorem pn.more{f g:Ct}{a b c a' b' c':Nat}(p:pn f g a b c)(ha:a<=a')(hb:b<=b')(hc:c<=c'):pn f g a' b' c':=
 ⟨fun i=>by have:=p.e i;omega,fun i=>by have:=p.l i;omega,fun i=>by have:=p.j i;omega⟩
theorem pn.ok{f g:Ct}{a b c n:Nat}(p:pn f g a b c)(h:Fe n f):Fe (n+a+b+c) g:=fun i=>by
 obtain⟨⟨h1,h2⟩,⟨h3,h4⟩,h5,h6⟩:=h i
 have:=p.e i;have:=p.l i;have:=p.j i
 exact⟨⟨J,J⟩,⟨J,J⟩,J,J⟩
theorem yj{d:Wr}(h:d.dep<=1)(f:Ct):pn f (d.tick .e f) 1 0 0/\pn f (d.tick .l f) 0 1 0/\pn f (d.tick .j f) 0 0 1:=by
 cases d with
 |base p tb=>exact⟨(pn.refl f).more J J J,(pn.refl f).more J J J,(pn.refl f).more J J J⟩
 |wrap m d=>
  cases d with
  |wrap m' d=>simp[Wr.dep]at h
  |base p tb=>
   have key:∀i,(ve f m ((Kd.e).up (f m)) i).e=(f i).e+(if i=m then 1 else 0)/\(ve f m ((Kd.e).up (f m)) i).l=(f i).l/\(ve f m ((Kd.e).up (f m)) i).j=(f i).j/\
     (ve f m ((Kd.l).up (f m)) i).l=(f i).l+(if i=m then 1 else 0)/\(ve f m ((Kd.l).up (f m)) i).e=(f i).e/\(ve f m ((Kd.l).up (f m)) i).j=(f i).j/\
     (ve f m ((Kd.j).up (f m)) i).j=(f i).j+(if i=m then 1 else 0)/\(ve f m ((Kd.j).up (f m)) i).l=(f i).l/\(ve f m ((Kd.j).up (f m)) i).e=(f i).e:=fun i=>by
    unfold ve
    by_cases e:i=m
    .subst e;simp[Kd.up]
    simp[e]
   refine⟨⟨fun i=> ?_,fun i=> ?_,fun i=> ?_⟩,⟨fun i=> ?_,fun i=> ?_,fun i=> ?_⟩,⟨fun i=> ?_,fun i=> ?_,fun i=> ?_⟩⟩<;>(show _/\_;have:=key i;simp only[Wr.tick,jE];by_cases e:i=m<;>simp only[e,uL,xj]at this<;>(try subst e)<;>omega)
theorem Vv{d:Wr}(h:d.dep<=1)(cl:List Nat)(us:List jM)(sh:Sh)(q:dw)(aj:List El)(a6:List (BitVec 64))(wl:List Int)(wi:List Bool)(wy:BitVec 64)(f:Ct):
  pn f (Vt d (ng cl us sh q aj a6 wl wi wy).ks f) 1 1 1:=by
 have e2:pn f (Vt d [.e,.l] f) 1 1 1:=((yj h f).1.trans (yj h _).2.1).more J J J
 have e3:pn f (Vt d [.e,.l,.j] f) 1 1 1:=(((yj h f).1.trans (yj h _).2.1).trans (yj h _).2.2).more J J J
 unfold ng
 split
 .exact(pn.refl f).more J J J
 split
 .split
  .exact e2
  exact e2
 split
 .exact e2
 exact e3
theorem Vw{l:List Bool}{k j:Nat}{a:Bool}(hk:k<l.length):(l.set k a).getD j false=if k=j then a else l.getD j false:=by grind
structure uw(wl:List Int)(wi:List Bool):Prop where
 nd:wl.Nodup
 mem:∀i,i∈wl↔(0<=i/\i<wi.length)/\wi.getD i.toNat false=true
theorem uw.len{wl:List Int}{wi:List Bool}(h:uw wl wi):wl.length<=wi.length:=by
 have h1:(wl.map Int.toNat).Nodup:=by
  refine List.Pairwise.map _ ?_ (ae5 (S:=fun a b=>a.toNat≠b.toNat) ?_ h.nd)
  .exact fun a b q=>q
  intro a b ha hb hab e
  have:=((h.mem a).1 ha).1;have:=((h.mem b).1 hb).1
  exact hab J
 have h2:(wl.map Int.toNat).length<=(List.range wi.length).length:=by
  refine h1.length_le_of_subset fun x hx=> ?_
  obtain⟨a,ha,rfl⟩:=fX.1 hx
  have:=((h.mem a).1 ha).1
  exact pX.2 J
 simpa using h2
theorem uw.put{wl:List Int}{wi:List Bool}(h:uw wl wi){i:Int}(hi:0<=i/\i<wi.length):uw (oX (wl,wi) i).1 (oX (wl,wi) i).2:=by grind[uw,oX,Vw]
theorem uw.take{x:Int}{wl:List Int}{wi:List Bool}(h:uw (x::wl) wi):uw wl (wi.set x.toNat false):=by grind[uw,Vw]
theorem uw.rj{l:List Int}:∀{wl:List Int} {wi:List Bool},uw wl wi->(∀i∈l,0<=i/\i<wi.length)->uw (rj (wl,wi) l).1 (rj (wl,wi) l).2:=by
 induction l with
 |nil=>intro wl wi h _;exact h
 |cons i l ih=>
  intro wl wi h hl
  have h1:=h.put (hl i aF)
  have h2:=ih h1 (fun j hj=>by have:=hl j (fC _ hj);rw[MZ];exact this)
  exact h2
theorem uw.xz{us:List jM}{e:El}{b:Nat}(hu:∀k:Nat,k<us.length->∀i∈(us.getD k cY).l,0<=i/\i<b){ks:List Int}:∀{aj:List El} {wl:List Int} {wi:List Bool},uw wl wi->wi.length=b->(∀k∈ks,0<=k/\k<us.length)->uw (xz aj us (wl,wi) ks e).2.1 (xz aj us (wl,wi) ks e).2.2:=by
 induction ks with
 |nil=>intro aj wl wi h _ _;exact h
 |cons k ks ih=>
  intro aj wl wi h hb hk
  have hk0:=hk k aF
  have h1:uw (lQ aj us (wl,wi) k e).1 (lQ aj us (wl,wi) k e).2:=by
   unfold lQ
   split
   .exact h
   exact h.rj fun i hi=>by have:=hu k.toNat J i hi;omega
  exact ih (aj:=aj.set k.toNat e) (wl:=(lQ aj us (wl,wi) k e).1) (wi:=(lQ aj us (wl,wi) k e).2) h1 (M0.trans hb) fun q hq=>hk q (fC _ hq)
theorem Sl.frI{w:World}{v:Value}{l:List Int}(h:Sl w v 1 l.length (l.map I))(o:Nat)(ho:o<=l.length):Sl w (oH v 1 o) 1 (l.drop o).length ((l.drop o).map I):=by
 have:=h.fr o ho
 rw[lE,<-XL]at this
 rw[xS];exact this
def sC(cs:List (List Nat))(ks:List Int)(k:Nat):List (List Nat):=(List.range k).foldl (fun(c:List (List Nat)) (i:Nat)=>(jc c i (ks.getD i 0)).1) cs
theorem Gy{cs:List (List Nat)}{ks:List Int}{k:Int}(h0:0<=k):sC cs ks (k+1).toNat=(jc (sC cs ks k.toNat) k (ks.getD k.toNat 0)).1:=by
 unfold sC
 rw[show(k+1).toNat=k.toNat+1 by omega,xa,wZ,rA,List.foldl_nil,fW h0]
theorem adU{cs:List (List Nat)}{i j:Int}:(bq (jc cs i j).1).length=(bq cs).length:=by grind[bq,jc,IE]
theorem wO{cs:List (List Nat)}{ks:List Int}:∀k,(bq (sC cs ks k)).length=(bq cs).length
 |0=>rfl
 |k+1=>by
  have:=Gy (cs:=cs) (ks:=ks) (k:=(k:Int)) J
  rw[show((k:Int)+1).toNat=k+1 by omega]at this
  rw[this,adU,show((k:Int)).toNat=k by omega,wO k]
def vz(sh:Sh)(aj:List El)(e:El)(ks:List Int):El:=ks.foldl (fun e k=>if rC (aj.getD k.toNat dH) e then e else fH sh e (aj.getD k.toNat dH)) e
theorem HN{sh:Sh}{aj:List El}{e:El}{ks:List Int}{k:Int}(h0:0<=k)(h1:k<ks.length):vz sh aj e (ks.take (k+1).toNat)=(if rC (aj.getD (ks.getD k.toNat 0).toNat dH) (vz sh aj e (ks.take k.toNat))then vz sh aj e (ks.take k.toNat)else fH sh (vz sh aj e (ks.take k.toNat)) (aj.getD (ks.getD k.toNat 0).toNat dH)):=mR h0 h1
structure yl where
 aj:List El
 a6:List (BitVec 64)
 wl:List Int
 wi:List Bool
def co1(cl:List Nat)(us:List jM)(au:List pg)(aX:List Int)(rs:List (BitVec 64))(s:yl)(v:Nat):yl:=
 if fw cl v=v/\(bJ cl v).length≠1 then
  let e:=vz (au.getD (aX.getD v 0).toNat o3).p.sh s.aj (s.aj.getD v dH) ((bJ cl v).drop 1)
  ⟨(xz s.aj us (s.wl,s.wi) (bJ cl v) e).1,gx s.a6 (bJ cl v) (rs.getD v 0),(xz s.aj us (s.wl,s.wi) (bJ cl v) e).2.1,(xz s.aj us (s.wl,s.wi) (bJ cl v) e).2.2⟩
 else s
def coA(cl:List Nat)(us:List jM)(au:List pg)(aX:List Int)(rs:List (BitVec 64))(s:yl)(k:Nat):yl:=(List.range k).foldl (co1 cl us au aX rs) s
theorem Cu{cl:List Nat}{us:List jM}{au:List pg}{aX:List Int}{rs:List (BitVec 64)}{s:yl}{k:Int}(h0:0<=k):coA cl us au aX rs s (k+1).toNat=co1 cl us au aX rs (coA cl us au aX rs s k.toNat) k.toNat:=by
 unfold coA
 rw[show(k+1).toNat=k.toNat+1 by omega,xa,wZ];rfl
def coJ(cl:List Nat):Nat->Nat
 |0=>0
 |v+1=>coJ cl v+(if fw cl v=v then(bJ cl v).length-1 else 0)
theorem TQ{cl:List Nat}{k:Int}(h0:0<=k):coJ cl (k+1).toNat=coJ cl k.toNat+(if fw cl k=k then(bJ cl k).length-1 else 0):=by
 rw[show(k+1).toNat=k.toNat+1 by omega]
 show coJ cl k.toNat+(if fw cl ((k.toNat:Nat):Int)=((k.toNat:Nat):Int)then(bJ cl ((k.toNat:Nat):Int)).length-1 else 0)=_
 rw[fW h0]
theorem Zg{cl:List Nat}:∀v,coJ cl v<=cl.length*v
 |0=>er _
 |v+1=>by
  have h1:=Zg (cl:=cl) v
  have h2:=vx (cl:=cl) (i:=(v:Int))
  show coJ cl v+_<=_
  rw[Nat.mul_add,lE]
  split<;>omega
theorem aim{cl:List Nat}{k:Int}(h:0<=k/\k<cl.length):1<=(bJ cl k).length:=Q0 (IJ.2 ⟨h,h.1,h.2,rfl⟩)
theorem abr{cl:List Nat}{us:List jM}{au:List pg}{aX:List Int}{rs:List (BitVec 64)}{s:yl}{k:Int}(h0:0<=k)(h1:fw cl k=k)(h2:(bJ cl k).length≠1):
 co1 cl us au aX rs s k.toNat=⟨(xz s.aj us (s.wl,s.wi) (bJ cl k) (vz (au.getD (aX.getD k.toNat 0).toNat o3).p.sh s.aj (s.aj.getD k.toNat dH) ((bJ cl k).drop 1))).1,gx s.a6 (bJ cl k) (rs.getD k.toNat 0),(xz s.aj us (s.wl,s.wi) (bJ cl k) (vz (au.getD (aX.getD k.toNat 0).toNat o3).p.sh s.aj (s.aj.getD k.toNat dH) ((bJ cl k).drop 1))).2.1,(xz s.aj us (s.wl,s.wi) (bJ cl k) (vz (au.getD (aX.getD k.toNat 0).toNat o3).p.sh s.aj (s.aj.getD k.toNat dH) ((bJ cl k).drop 1))).2.2⟩:=by grind[co1]
theorem SH{cl:List Nat}{us:List jM}{au:List pg}{aX:List Int}{rs:List (BitVec 64)}{s:yl}{k:Int}(h0:0<=k)(h1:¬(fw cl k=k/\(bJ cl k).length≠1)):co1 cl us au aX rs s k.toNat=s:=by grind[co1]
structure Qg(b:Nat)(n k:Nat)(s:yl):Prop where
 lv:s.aj.length=n
 ly:s.a6.length=k
 li:s.wi.length=b
 wq:uw s.wl s.wi
theorem ain{cl:List Nat}{us:List jM}{au:List pg}{aX:List Int}{rs:List (BitVec 64)}{s:yl}{b n k v:Nat}(hu:∀k:Nat,k<us.length->∀i∈(us.getD k cY).l,0<=i/\i<b)(hl:cl.length=us.length)(h:Qg b n k s):Qg b n k (co1 cl us au aX rs s v):=by
 unfold co1
 split
 .exact⟨by simp only[yh,iR];exact h.lv,by simp only[iR];exact h.ly,by simp only[KL];exact h.li,h.wq.xz hu h.li fun q hq=>by have:=mi hq;omega⟩
 exact h
theorem Zh{cl:List Nat}{us:List jM}{au:List pg}{aX:List Int}{rs:List (BitVec 64)}{s:yl}{b n k:Nat}(hu:∀k:Nat,k<us.length->∀i∈(us.getD k cY).l,0<=i/\i<b)(hl:cl.length=us.length)(h:Qg b n k s):∀j,Qg b n k (coA cl us au aX rs s j)
 |0=>h
 |j+1=>by
  have:=Cu (cl:=cl) (us:=us) (au:=au) (aX:=aX) (rs:=rs) (s:=s) (k:=(j:Int)) J
  rw[show((j:Int)+1).toNat=j+1 by omega]at this
  rw[this]
  exact ain hu hl (Zh hu hl h j)
structure CoO where
 cs:List (List Nat)
 s:yl
 j:Nat
noncomputable def sj(cs:List (List Nat))(us:List jM)(au:List pg)(aX:List Int)(qs:List dw)(sn:Int)(n:Nat)(s:yl):CoO:=
 if(qs.drop sn.toNat).any EP=true then
  let cs':=sC cs (oV (cz n qs)) n
  if leads (bq cs')=leads (bq cs)then⟨cs',s,0⟩
  else⟨cs',coA (bq cs') us au aX (Cs (bq cs') s.a6 n qs) s n,coJ (bq cs') n⟩
 else⟨cs,s,0⟩
structure QOk(nl n:Nat)(q:dw):Prop where
 aX:0<=q.aX/\q.aX<nl
 code:q.code.length<=1000
 to:q.to.var<n
 pl:EP q=true->0<q.vars.length/\0<=xO q/\xO q<n
 vars:∀v∈q.vars,0<=v/\v<n
def Zi(nl n:Nat)(qs:List dw):Prop:=∀q∈qs,QOk nl n q
theorem Zi.pl{nl n:Nat}{qs:List dw}(h:Zi nl n qs):Vl n qs:=fun q hq hp=>⟨((h q hq).pl hp).1,((h q hq).pl hp).2,(h q hq).to⟩
theorem Zi.at{nl n:Nat}{qs:List dw}(h:Zi nl n qs){k:Int}(h0:0<=k)(h1:k<qs.length):QOk nl n (qs.getD k.toNat cP):=h _ (dh h0 h1)
def upI(a:Int)(k:Nat):List Int:=(List.range k).map fun i:Nat=>a+(i:Int)
theorem aio{a k:Int}(h:a<=k):upI a (k+1-a).toNat=upI a (k-a).toNat++[k]:=by
 unfold upI
 rw[show(k+1-a).toNat=(k-a).toNat+1 by omega,xa,gz]
 simp only[lB,BM]
 rw[show a+((k-a).toNat:Int)=k by omega]
theorem adV{p:List Int×List Bool}{l:List Int}{k:Int}:rj p (l++[k])=oX (rj p l) k:=by grind[rj]
def Vx(c:yl)(sn:Int)(n:Nat):yl:=⟨c.aj,c.a6,(rj (c.wl,c.wi) (upI sn ((n:Int)-sn).toNat)).1,(rj (c.wl,c.wi) (upI sn ((n:Int)-sn).toNat)).2⟩
section
variable{cl:List Nat}{us:List jM}{sh:Sh}{q:dw}{aj:List El}{a6:List (BitVec 64)}{wl:List Int}{wi:List Bool}{wy:BitVec 64}
theorem asr(h:(ng cl us sh q aj a6 wl wi wy).ok=true):(ng cl us sh q aj a6 wl wi wy).wy=wy:=by
 unfold ng at h⊢
 split
 .rfl
 rename_i h1
 rw[aR h1]at h
 split
 .rename_i h2
  rw[aS h2]at h
  split
  .rfl
  rename_i h3;rw[aR h3]at h;cases h
 split<;>rfl
theorem ass(h:(ng cl us sh q aj a6 wl wi wy).ok=false):(ng cl us sh q aj a6 wl wi wy).aj=aj/\(ng cl us sh q aj a6 wl wi wy).a6=a6:=by
 unfold ng at h⊢
 split
 .exact⟨rfl,rfl⟩
 rename_i h1
 rw[aR h1]at h
 split
 .split<;>exact⟨rfl,rfl⟩
 rename_i h2
 rw[aR h2]at h
 split
 .exact⟨rfl,rfl⟩
 rename_i h3;rw[aR h3]at h;cases h
theorem aip{b n k:Nat}(hu:∀k:Nat,k<us.length->∀i∈(us.getD k cY).l,0<=i/\i<b)(hl:cl.length=us.length)(h:Qg b n k ⟨aj,a6,wl,wi⟩):
  Qg b n k ⟨(ng cl us sh q aj a6 wl wi wy).aj,(ng cl us sh q aj a6 wl wi wy).a6,(ng cl us sh q aj a6 wl wi wy).wl,(ng cl us sh q aj a6 wl wi wy).wi⟩:=by
 unfold ng
 split
 .exact h
 split
 .split<;>exact h
 split
 .exact h
 exact⟨by simp only[lkR,yh,iR];exact h.lv,by simp only[lkR,iR];exact h.ly,by simp only[lkR,KL];exact h.li,h.wq.xz hu h.li fun q hq=>by have:=mi hq;omega⟩
end
theorem Qg.take{b n k:Nat}{aj:List El}{a6:List (BitVec 64)}{x:Int}{wl:List Int}{wi:List Bool}(h:Qg b n k ⟨aj,a6,x::wl,wi⟩):(0<=x/\x<b)/\Qg b n k ⟨aj,a6,wl,wi.set x.toNat false⟩:=by
 have hx:=((h.wq.mem x).1 aF).1
 have hl:=h.li
 simp only at hx hl
 exact⟨J,h.lv,h.ly,by simp only[m9];exact hl,h.wq.take⟩
theorem ast{b n k:Nat}{c:yl}(h:Qg b n k c){sn:Int}(h0:0<=sn):Qg b n k (Vx c sn b):=by
 have hl:∀i∈upI sn ((b:Int)-sn).toNat,0<=i/\i<(c.wi.length:Int):=fun i hi=>by
  obtain⟨j,hj,rfl⟩:=fX.1 hi
  have:=pX.1 hj
  have:=h.li
  omega
 exact⟨h.lv,h.ly,(yg).trans h.li,h.wq.rj hl⟩
theorem adW{f:Value}{s:NP}{k:Int}:iD [(f,.seen s.sn)] s {s with sn:=k}:=iD.one O trivial
def SpR(cl:List Nat)(us:List jM)(au:List pg)(qs:List dw)(s:yl)(ok:Bool)(wy wy':BitVec 64):Prop:=
 (ok=true/\s.wl=[]/\wy'=wy)\/(ok=false/\∃x wl,s.wl=x::wl/\(ng cl us (au.getD (qs.getD x.toNat cP).aX.toNat o3).p.sh (qs.getD x.toNat cP) s.aj s.a6 wl (s.wi.set x.toNat false) wy).ok=false/\wy'=(ng cl us (au.getD (qs.getD x.toNat cP).aX.toNat o3).p.sh (qs.getD x.toNat cP) s.aj s.a6 wl (s.wi.set x.toNat false) wy).wy)
theorem am7{b n k:Nat}{c:yl}(h:Qg b n k c){l:List Int}(hl:∀i∈l,0<=i/\i<(b:Int)):Qg b n k ⟨c.aj,c.a6,(rj (c.wl,c.wi) l).1,(rj (c.wl,c.wi) l).2⟩:=
 ⟨h.lv,h.ly,(yg).trans h.li,h.wq.rj fun i hi=>by have:=hl i hi;have:=h.li;omega⟩
theorem IK(n:Nat):uw [] (List.replicate n false):=by grind[uw]
theorem asu{cs:List (List Nat)}{us:List jM}{au:List pg}{aX:List Int}{qs:List dw}{sn:Int}{aj:List El}{a6:List (BitVec 64)}(hl:(bq cs).length=us.length)(hu:∀k:Nat,k<us.length->∀i∈(us.getD k cY).l,0<=i/\i<(qs.length:Int))(hn:aj.length=us.length):
 Qg qs.length aj.length a6.length (sj cs us au aX qs sn aj.length ⟨aj,a6,[],List.replicate qs.length false⟩).s:=by grind[Qg,IK,sj,Zh,wO]
theorem am8{cs:List (List Nat)}{us:List jM}{au:List pg}{aX:List Int}{qs:List dw}{sn:Int}{n:Nat}{s:yl}:(bq (sj cs us au aX qs sn n s).cs).length=(bq cs).length:=by grind[sj,wO]
theorem axi{cs:List (List Nat)}{us:List jM}{au:List pg}{aX:List Int}{qs:List dw}{sn:Int}{n:Nat}{s:yl}:(sj cs us au aX qs sn n s).j<=(bq cs).length*n:=by grind[sj,Zg,bq,sC,oV,cz,wO]
theorem abt:∀(l:List lU) (s:NP) (y:BitVec 64),(∀c∈l,II c)->DK l {s with wy:=y}={DK l s with wy:=y}/\(okB l s->okB l {s with wy:=y})
 |[],s,y,_=>⟨rfl,fun h=>h⟩
 |c::l,s,y,h=>by
  have e:vp c {s with wy:=y}={vp c s with wy:=y}/\(okN c s->okN c {s with wy:=y}):=by
   have:=h c aF
   cases c<;>first|exact this.elim|exact⟨rfl,fun h=>h⟩
  have ih:=abt l (vp c s) y fun c hc=>h c (fC _ hc)
  refine⟨?_,fun⟨h1,h2⟩=>⟨e.2 h1,?_⟩⟩
  .show DK l (vp c {s with wy:=y})=_
   rw[e.1];exact ih.1
  show okB l (vp c {s with wy:=y})
  rw[e.1];exact ih.2 h2
theorem iD.wy{new:List (Value×lU)}{s s':NP}(h:iD new s s')(hr:∀x∈new,II x.2)(y:BitVec 64):iD new {s with wy:=y} {s' with wy:=y}:=by grind[lU,NP,iD,II,abt]
theorem o9.Eb{T:UT}{F:Nat}{L L':List a7}{x:Value×jD}(h:o9 T F L x)(hs:∀b o,a7.blk b o∈L->a7.blk b o∈L'):o9 T F L' x:=by
 obtain⟨v,u⟩:=x
 cases u with
 |add n=>obtain⟨b1,b2,h1,h2,h3⟩:=h;exact⟨b1,b2,h1,hs _ _ h2,hs _ _ h3⟩
 |set i b=>obtain⟨b1,b2,b3,h1,h2,h3,h4⟩:=h;exact⟨b1,b2,b3,h1,hs _ _ h2,hs _ _ h3,hs _ _ h4⟩
theorem wN.Eb{T:FTy}{F m:Nat}{cs:List (List Nat)}{vW vU:Value}{cW cU:Option (Nat×Array Value)}{W:List (BitVec 64)}{ul:List (Value×jD)}{ts:List Int}{cn:Int}{L L':List a7}(h:wN T F m cs vW vU cW cU W ul ts cn L)(hs:∀b o,a7.blk b o∈L->a7.blk b o∈L'):wN T F m cs vW vU cW cU W ul ts cn L':=by
 obtain⟨tn,e,i⟩:=h.fo
 exact⟨⟨tn,e,i.hW,i.hU,i.hs,i.ok,fun x hx=>(i.un x hx).Eb hs,i.lu,i.lt⟩,h.cn⟩
theorem mJ.Eb{T:NTy}{n:Nat}{L L':List a7}{x:Value×lU}(h:mJ T n L x)(hs:∀b o,a7.blk b o∈L->a7.blk b o∈L'):mJ T n L' x:=by
 obtain⟨v,c⟩:=x
 cases c with
 |aX i=>obtain⟨b1,b2,h0,h1,h2⟩:=h;exact⟨b1,b2,h0,hs _ _ h1,hs _ _ h2⟩
 |var i m=>obtain⟨b1,b2,b3,h0,h1,h2,h3⟩:=h;exact⟨b1,b2,b3,h0,hs _ _ h1,hs _ _ h2,hs _ _ h3⟩
 |add i q=>obtain⟨b1,b2,b3,h0,h1,h2,h3⟩:=h;exact⟨b1,b2,b3,h0,hs _ _ h1,hs _ _ h2,hs _ _ h3⟩
 |raise v was had=>obtain⟨b1,b2,b3,b4,h0,h1,h2,h3,h4⟩:=h;exact⟨b1,b2,b3,b4,h0,hs _ _ h1,hs _ _ h2,hs _ _ h3,hs _ _ h4⟩
 |merge m=>obtain⟨b1,b2,h0,h1,h2⟩:=h;exact⟨b1,b2,h0,hs _ _ h1,hs _ _ h2⟩
 |seen was=>obtain⟨b1,b2,h0,h1,h2⟩:=h;exact⟨b1,b2,h0,hs _ _ h1,hs _ _ h2⟩
 |stuck=>obtain⟨b1,h0,h1⟩:=h;exact⟨b1,h0,hs _ _ h1⟩
theorem SI{t:TypeId}{gs:List jM}{A B:List a7}{b:Nat}{o:Obj}(h:a7.blk b o∈A++(gs.map (dI t)++B)):a7.blk b o∈A++B:=by
 rcases eI.1 h with q|q
 .exact dy _ q
 rcases eI.1 q with q|q
 .obtain⟨x,_,e⟩:=fX.1 q
  cases e
 exact bG _ q
structure NF where
 vL:Value
 vt:Value
 vv:Value
 vy:Value
 vu:Value
 vq:Value
 vW:Value
 vU:Value
 vT:Value
 cn:Int
 vd:Value
 vm:Value
 cW:Option (Nat×Array Value)
 cU:Option (Nat×Array Value)
 W:List (BitVec 64)
 ul:List (Value×jD)
 ts:List Int
 us:List jM
def Zj:Value×lU:=(.tuple #[],.stuck)
def Cv(lg:List (Value×lU))(k:Nat):List lU:=((lg.drop k).map Prod.snd).reverse
theorem Qh{lg:List (Value×lU)}{k:Nat}(h:k<lg.length):Cv lg k=Cv lg (k+1)++[(lg.getD k Zj).2]:=by grind[Cv,List.drop_eq_getElem_cons,List.reverse_cons,getD_eq]
theorem aiq{lg:List (Value×lU)}{k:Nat}(h:lg.length<=k):Cv lg k=[]:=by simp_all[Cv]
theorem Vy{lg new:List (Value×lU)}:Cv (lg++new) lg.length=(new.map Prod.snd).reverse:=by grind[Cv]
theorem adX{lg:List (Value×lU)}{s:NP}{k:Nat}(h:k<lg.length):DK (Cv lg k) s=vp (lg.getD k Zj).2 (DK (Cv lg (k+1)) s):=by
 rw[Qh h,Vp];rfl
theorem am9{lg:List (Value×lU)}{s:NP}{o k:Nat}(ho:o<=k)(hk:k<lg.length)(h:okB (Cv lg o) s):okN (lg.getD k Zj).2 (DK (Cv lg (k+1)) s):=by
 have e:Cv lg o=Cv lg k++(((lg.drop o).take (k-o)).map Prod.snd).reverse:=by
  unfold Cv
  rw[<-List.reverse_append,<-gz]
  congr 2
  rw[show lg.drop k=(lg.drop o).drop (k-o)by rw[Rg,show o+(k-o)=k by omega],BB]
 rw[e,SG,Qh hk,SG]at h
 exact h.1.2.1
theorem Le.zb{K:Vu}{Z Z':List a7}(h:∀b o,a7.blk b o∈Z->a7.blk b o∈Z'):Le (Kz K Z) (Kz K Z'):=fun b o hb=>hb.imp id (h b o)
structure DL(s:NP):Prop where
 TG:s.a6.length=s.aj.length
 Oo:s.us.length=s.aj.length
 kD:(bq s.cs).length=s.aj.length
 Qi:s.aj.length<=1000
 WS:0<=s.sn/\s.sn<=s.qs.length
 hqn:s.qs.length<=1000
 hqo:Zi s.au.length s.aj.length s.qs
 hlt:s.aX.length=s.aj.length
 hlr:∀k:Nat,k<s.aX.length->0<=s.aX.getD k 0/\s.aX.getD k 0<s.au.length
 xA:∀k:Nat,k<s.us.length->(s.us.getD k []).length<=1000/\∀i∈s.us.getD k [],0<=i/\i<(s.qs.length:Int)
theorem Hp.Zk{w0 w:World}{A Zf Lb E U L:List a7}(h:Hp w0 w (A++(Zf++(Lb++(E++(U++L)))))):Hp w0 w (A++(U++(Zf++(Lb++(E++L))))):=by
 refine h.perm (uE A ?_)
 rw[show Zf++(Lb++(E++(U++L)))=((Zf++(Lb++E))++U)++L by simp only[dG],show U++(Zf++(Lb++(E++L)))=(U++(Zf++(Lb++E)))++L by simp only[dG]]
 exact List.Perm.append_right L xR
theorem Cw{us:List jM}{k:Nat}:(pO us).getD k []=(us.getD k cY).l:=by grind[jM,pO,cY]
theorem Vz{s:NP}(h:DL s){us:List jM}(hu:pO us=s.us){t:TypeId}{L:List a7}:∀k:Nat,k<us.length->dI t (us.getD k cY)∈us.map (dI t)++L/\(us.getD k cY).l.length<=1000/\∀i∈(us.getD k cY).l,0<=i/\i<(s.qs.length:Int):=fun k hk=>by
 have e:=Cw (us:=us) (k:=k)
 rw[hu]at e
 have:=h.xA k (by rw[<-hu,gd];exact hk)
 rw[e]at this
 refine⟨dy _ (fX.2 ⟨us.getD k cY,?_,rfl⟩),this⟩
 rw[getD_eq hk]
 exact nM hk
theorem abu{lg new:List (Value×lU)}{k:Int}(h1:(lg.length:Int)<=k)(h2:k<(lg++new).length):(lg++new).getD k.toNat Zj∈new:=by grind
theorem VA{t:TypeId}{gs:List jM}{A E B:List a7}{b:Nat}{o:Obj}(h:a7.blk b o∈A++(E++(gs.map (dI t)++B))):a7.blk b o∈A++(E++B):=by grind[SI]
theorem Zl{f:Value}{s:NP}{y:BitVec 64}(h1:s.sk=false)(h2:s.wy=0):iD [(f,.stuck)] s {s with sk:=true,wy:=y}:=by
 refine iD.one ?_ trivial
 obtain⟨a,b,c,d,e,f,g,h,i,j,k⟩:=s
 simp only at h1 h2
 subst h1;subst h2;rfl
end
end Go.Proofs.YtlhjdflgjbkpmaaGreatDoor.E

/- Part 2 of the proof of FlowSteps: its plain laws and the walks of its functions. -/
import Derived.Test.YtlhjdflgjbkpmaaGreatDoorFlowStepsPartA
set_option linter.all false
namespace Go.Proofs.YtlhjdflgjbkpmaaGreatDoor.E
section
open Go Go.RowKit Go.Proofs.YtlhjdflgjbkpmaaGreatDoor.M
def Vc(a b:Tx):Bool:=Op.bytesLess a.toList b.toList
section
variable{P:Program}{σ:Env}{w:World}{dst:Option Tmp}{ty t u:TypeId}{pos:String}{bO:Array Edge}{g:Option (Nat×Bool)}{x y:Operand}{a b:Tx}
end
structure jN where
 name:Tx
 el:El
def SC:jN:=⟨qg,dg⟩
def ahy(v:jN):List Value:=S v.name::pJ v.el
def Qa(l:List jN)(f:Tx):Int:=tw (fun i=>decide ((l.getD i.toNat SC).name=f)) l.length
def adP(l:List jN)(f:Tx):El×Bool:=if Qa l f<0 then(dg,false)else((l.getD (Qa l f).toNat SC).el,true)
def spot(l:List jN)(f:Tx):Nat:=if 0<=tw (fun i=>Vc f (l.getD i.toNat SC).name) l.length then(tw (fun i=>Vc f (l.getD i.toNat SC).name) l.length).toNat else l.length
def apl(l:List jN)(f:Tx)(e:El):List jN:=if Qa l f<0 then l.take (spot l f)++⟨f,e⟩::l.drop (spot l f)else l.set (Qa l f).toNat ⟨f,e⟩
def awT(a b:jN):Bool:=decide (a.name=b.name)&&decide (rR a.el b.el)
def apm(l m:List jN):Bool:=decide (l.length=m.length)&&(upto l.length).all fun i=>awT (l.getD i.toNat SC) (m.getD i.toNat SC)
structure As where
 labels:List El
 rows:List (List jN)
def aDR(a:As)(i:Nat):El:=a.labels.getD i dg
def aNd(a:As)(i:Nat):List jN:=a.rows.getD i []
def aJP(a b:As):Bool:=decide (a.labels.length=b.labels.length/\a.rows.length=b.rows.length)&&((upto a.labels.length).all fun i=>decide (rR (a.labels.getD i.toNat dg) (b.labels.getD i.toNat dg)))&&(upto a.rows.length).all fun i=>apm (a.rows.getD i.toNat []) (b.rows.getD i.toNat [])
def ar1(l m:List jN):Bool:=l.all fun v=>(adP m v.name).2&&cS v.el (adP m v.name).1
def aNe(a b:As):Bool:=((upto a.labels.length).all fun i=>cS (a.labels.getD i.toNat dg) (b.labels.getD i.toNat dg))&&(upto a.rows.length).all fun i=>ar1 (a.rows.getD i.toNat []) (b.rows.getD i.toNat [])
def Qb(l m:List jN):List jN:=l.filterMap fun v=>if(adP m v.name).2 then some ⟨v.name,o7 v.el (adP m v.name).1⟩else none
def awU(a b:As):As:=⟨(a.labels.zip b.labels).map fun p=>o7 p.1 p.2,(a.rows.zip b.rows).map fun p=>Qb p.1 p.2⟩
theorem ahz{α β γ:Type}{F:α×β->γ}{l:List α}{m:List β}{k:Int}{da:α}{db:β}(h0:0<=k)(h1:k<l.length)(h2:k<m.length):
  ((l.zip m).take (k+1).toNat).map F=((l.zip m).take k.toNat).map F++[F (l.getD k.toNat da,m.getD k.toNat db)]:=by
 have h3:(l.zip m)[k.toNat]?=some (l.getD k.toNat da,m.getD k.toNat db):=by
  rw[List.getElem?_zip_eq_some];exact⟨fF (d:=da) h0 h1,fF (d:=db) h0 h2⟩
 rw[show(k+1).toNat=k.toNat+1 by omega,xM,h3,gV];rfl
theorem abv{α β γ:Type}{F:α×β->γ}{l:List α}{m:List β}{k:Int}(h:¬(k<l.length/\k<m.length)):((l.zip m).take k.toNat).map F=(l.zip m).map F:=by
 rw[jm];rw[List.length_zip];omega
section
variable{l m:List jN}{k:Int}
end
section
variable{a b:As}{k:Int}
end
def ahA(l:List jN):Bool:=(upto l.length).all fun i=>iS (l.getD i.toNat SC).name&&(decide (i<=0)||Vc (l.getD (i-1).toNat SC).name (l.getD i.toNat SC).name)
def awV(s:Sh)(l:List jN):Bool:=l.all fun v=>cJ s v.el
structure Sc where
 aq:List Sh
 vars:List vO
def okV(s:Sc)(v:vO)(e:El)(l:List jN):Bool:=decide (0<=v.bf/\v.bf<s.aq.length)&&
 (if v.kind=1 then decide (l.length=0)&&cJ (s.aq.getD v.bf.toNat ⟨false,[]⟩) e
  else if v.kind=2 then decide (rR e dg)&&ahA l&&awV (s.aq.getD v.bf.toNat ⟨false,[]⟩) l else false)
def SD(s:Sc)(a:As):Bool:=decide (a.labels.length=s.vars.length/\a.rows.length=s.vars.length)&&(upto s.vars.length).all fun i=>okV s (s.vars.getD i.toNat fq) (a.labels.getD i.toNat dg) (a.rows.getD i.toNat [])
def Ad(s:Sc)(v:vO):El:=if v.kind=1/\0<=v.bf/\v.bf<s.aq.length then gJ (s.aq.getD v.bf.toNat ⟨false,[]⟩) ew else dg
def MW(s:Sc):As:=⟨s.vars.map (Ad s),s.vars.map fun _=>[]⟩
def aDS(l:List jN):Prop:=l.Pairwise fun a b=>Vc a.name b.name=true
theorem kf(e:El):cS e e=true:=p7.2 fun i _=>tC _
theorem MX{a b c:El}(h:cS a b=true)(h':cS b c=true):cS a c=true:=by grind[p7,mc]
def awW(s:Sc)(v:vO):Sh:=s.aq.getD v.bf.toNat ⟨false,[]⟩
section
variable{s:Sc}{a b c:As}(ha:SD s a=true)(hb:SD s b=true)
include ha hb
end
def xf(b:Tx):List Tx->Tx
 |[]=>qg
 |x::l=>l.foldl (fun a y=>a++b++y) x
def ar2(s:Sh)(v:jN):Tx:=v.name++tc 61++ahu s v.el
def aDT(s:Sh)(l:List jN):Tx:=tc 91++xf (tc 44) (l.map (ar2 s))++tc 93
def awX(s:Sc)(v:vO)(e:El)(l:List jN):Tx:=v.name++tc 61++(if v.kind=1 then ahu (awW s v) e else aDT (awW s v) l)
def apn(s:Sc)(a:As)(k:Int):List Tx:=(upto k).map fun i=>awX s (s.vars.getD i.toNat fq) (a.labels.getD i.toNat dg) (a.rows.getD i.toNat [])
def aJR(s:Sc)(a:As):Tx:=if SD s a then xf (tc 32) (apn s a s.vars.length)else qg
def aNf(l:List By):By:=l.flatMap fun y=>32::y
def PT(s:Sc)(p:vO×El×List jN):By:=bl (awX s p.1 p.2.1 p.2.2)
def aNg(s:Sc)(a:As):List (vO×El×List jN):=(upto s.vars.length).map fun i=>(s.vars.getD i.toNat fq,a.labels.getD i.toNat dg,a.rows.getD i.toNat [])
theorem uQ(e:El):∀u∈pJ e,u.oneCell'=true:=fun u hu=>abk e u (by rw[ig];simpa using hu)
theorem gS(l:List El):∀u∈l.flatMap pJ,u.oneCell'=true:=by grind[uQ]
structure T5 where
 v:Value
 l:List jN
def HA:T5:=⟨.slice none 0 0,[]⟩
abbrev apo(l:List T5):List Value:=l.map T5.v
structure uG(K:Vu)(l:List T5):Prop where
 each:∀r∈l,oR K r.v 9 r.l.length (r.l.flatMap ahy)
theorem uG.mono{K K':Vu}{l:List T5}(h:uG K l)(hl:Le K K'):uG K' l:=⟨fun r hr=>(h.each r hr).mono hl⟩
theorem uG.at{K:Vu}{l:List T5}(h:uG K l){k:Int}(h0:0<=k)(h1:k<l.length):oR K (l.getD k.toNat HA).v 9 (l.getD k.toNat HA).l.length ((l.getD k.toNat HA).l.flatMap ahy):=h.each _ (lR (fF (d:=HA) h0 h1))
theorem uG.nil(K:Vu):uG K []:=⟨fun r hr=>by simp at hr⟩
theorem uG.snoc{K:Vu}{l:List T5}{r:T5}(h:uG K l)(hr:oR K r.v 9 r.l.length (r.l.flatMap ahy)):uG K (l++[r]):=⟨fun x hx=>by
 rcases e8.1 hx with hx|hx
 .exact h.each x hx
 rw[gG.1 hx];exact hr⟩
structure Gz where
 lv:Value
 labels:List El
 rv:Value
 rows:List T5
def adQ(a:Gz):List Value:=[a.lv,a.rv]
def amD:Gz:=⟨.slice none 0 0,[],.slice none 0 0,[]⟩
def Gz.HC(a:Gz):As:=⟨a.labels,a.rows.map T5.l⟩
structure MY(K:Vu)(a:Gz):Prop where
 labels:oR K a.lv 8 a.labels.length (a.labels.flatMap pJ)
 rows:oR K a.rv 1 a.rows.length (apo a.rows)
 each:uG K a.rows
theorem MY.mono{K K':Vu}{a:Gz}(h:MY K a)(hl:Le K K'):MY K' a:=⟨h.labels.mono hl,h.rows.mono hl,h.each.mono hl⟩
theorem MY.at{K:Vu}{a:Gz}(h:MY K a){k:Int}(h0:0<=k)(h1:k<a.rows.length):oR K (a.rows.getD k.toNat HA).v 9 (a.rows.getD k.toNat HA).l.length ((a.rows.getD k.toNat HA).l.flatMap ahy):=h.each.at h0 h1
theorem ahB{K:Vu}{a:Gz}(h:MY K a):∀u∈(adQ a).toArray,u.oneCell'=true:=by
 intro u hu
 simp[adQ]at hu
 rcases hu with rfl|rfl
 .exact(l9 h.labels).1
 exact(l9 h.rows).1
structure amE where
 a:Gz
 b:Gz
 c:Gz
def aNh(x:amE):List Value:=[x.a.lv,x.a.rv,x.b.lv,x.b.rv,x.c.lv,x.c.rv]
def aNi:amE:=⟨amD,amD,amD⟩
structure ahC(K:Vu)(x:amE):Prop where
 a:MY K x.a
 b:MY K x.b
 c:MY K x.c
theorem ahC.mono{K K':Vu}{x:amE}(h:ahC K x)(hl:Le K K'):ahC K' x:=⟨h.a.mono hl,h.b.mono hl,h.c.mono hl⟩
theorem JE(a:Gz):a.HC.rows.length=a.rows.length:=gF ..
def lM.sc(s:lM):Sc:=⟨s.aq.map fun l=>l.zx.sh,s.vars⟩
theorem ahD(s:lM):s.sc.aq.length=s.aq.length:=gF ..
theorem ar3(s:lM)(k:Nat):s.sc.aq.getD k ⟨false,[]⟩=(s.aq.getD k mJ).zx.sh:=by
 show(s.aq.map fun l=>l.zx.sh).getD k ⟨false,[]⟩=_
 rw[eT,eT,qu]
 cases s.aq[k]?<;>rfl
section
variable{P:Program}{σ:Env}{w:World}{dst:Option Tmp}{ty t u e:TypeId}{pos:String}{bO:Array Edge}{g:Option (Nat×Bool)}{x y:Operand}{b:Nat}{fr:Nat×Nat}
end
def aJS(l:List D3)(i:Int):D3:=if 0<=i/\i<l.length then l.getD i.toNat mJ else mJ
theorem uG.or{K:Vu}{l:List T5}(h:uG K l)(k:Nat):oR K (l.getD k HA).v 9 (l.getD k HA).l.length ((l.getD k HA).l.flatMap ahy):=by
 by_cases hk:k<l.length
 .have:=h.at (k:=(k:Int)) J J
  simpa using this
 rw[eT,og J];exact oR.nil _ _
section
variable{s:lM}{v:vO}{e:El}{l:List jN}{a:Gz}{k:Int}
abbrev shG(s:lM)(v:vO):Sh:=(s.aq.getD v.bf.toNat mJ).zx.sh
abbrev okG(s:lM)(a:Gz)(k:Int):Bool:=okV s.sc (s.vars.getD k.toNat fq) (a.labels.getD k.toNat dg) (a.rows.getD k.toNat HA).l
end
section
variable{a b:Gz}{k j:Int}
end
def aDU(l:List T5):Nat:=(l.map fun r=>r.l.length).sum
def awY(v:jN):Bool:=decide (40<v.name.size)
def aDV(r:T5):Bool:=r.l.any awY
def aNj(a:Gz):Bool:=decide (100<a.labels.length\/100<a.rows.length)||a.rows.any aDV||decide (200<(aDU a.rows:Int))
def aDW(b:Tx)(l:List Tx)(k:Int):Tx:=xf b (l.take k.toNat)
def szJ(b:Tx)(l:List Tx):Nat:=(l.map fun x=>x.size+b.size).sum
section
variable{s:lM}{a:Gz}{k:Int}
end
section
variable{P m:Tx}{sh:Sh}{l:List jN}{q:Int}
end
abbrev VS(s:lM)(a:Gz):List Tx:=apn s.sc a.HC s.vars.length
section
variable{s:lM}{a:Gz}{k:Int}
end
theorem abw{v:Value}(h1:v.oneCell'=true):∀x∈[v],x.oneCell'=true:=by grind
abbrev aNk(p:El×Bool):Value:= .tuple #[.agg (iM p.1),B p.2]
theorem IB{a b:As}{k:Int}(h0:0<=k)(h1:k<a.rows.length)(h2:k<b.rows.length):((a.rows.zip b.rows).take k.toNat).map (fun p=>Qb p.1 p.2)++[Qb (a.rows.getD k.toNat []) (b.rows.getD k.toNat [])]=((a.rows.zip b.rows).take (k+1).toNat).map fun p=>Qb p.1 p.2:=(ahz (F:=fun p:List jN×List jN=>Qb p.1 p.2) h0 h1 h2).symm
section
variable{P:Program}{σ:Env}{w:World}{dst:Option Tmp}{ty t e:TypeId}{pos:String}{bO:Array Edge}{g:Option (Nat×Bool)}{x:Operand}
theorem fY{a:El}{ie:TypeInfo}{z:Value}(hu:P.underlying t=some (.slice e))(hie:P.info? e=some ie)(hz:ie.zero=some z)(hsz:ie.size=8)(hx:ev σ x= .agg (iM a)):
  (execOp (ev σ) ⟨dst,.buildSlice t 1 #[(0,x)],ty,pos,bO,g⟩).run P w= .ok (.value (.slice (some ⟨w.heap.size,0,none⟩) 1 1)) (w.alloc (.cells ([a].flatMap pJ).toArray e)):=
 ox (ps:=[(0,x)]) (l:=[a]) cY hu hie hz hsz O az az (by rw[ig]at hx;simp[hx])
theorem yO{v:Value}{ie:TypeInfo}{z:Value}(h1:v.cells=#[v])(hu:P.underlying t=some (.slice e))(hie:P.info? e=some ie)(hz:ie.zero=some z)(hsz:ie.size=1)(hx:ev σ x=v):
  (execOp (ev σ) ⟨dst,.buildSlice t 1 #[(0,x)],ty,pos,bO,g⟩).run P w= .ok (.value (.slice (some ⟨w.heap.size,0,none⟩) 1 1)) (w.alloc (.cells ([v]:List Value).toArray e)):=by
 have:=cB (P:=P) (σ:=σ) (w:=w) (dst:=dst) (ty:=ty) (pos:=pos) (bO:=bO) (g:=g) (ps:=[(0,x)]) (vs:=[v]) (sz:=1) hu hie hz hsz O aJ aJ q7 (by simp[h1])
 simpa[h1]using this
end
section
variable{a b:Gz}{ls:List El}{gr:List T5}{v0 v1:Value}{k j:Int}
theorem KP(h1:ls=((a.labels.zip b.labels).take k.toNat).map fun p=>o7 p.1 p.2)(h2:gr.map T5.l=((a.HC.rows.zip b.HC.rows).take j.toNat).map fun p=>Qb p.1 p.2)(hk:¬(k<a.labels.length/\k<b.labels.length))(hj:¬(j<a.rows.length/\j<b.rows.length)):
  (⟨v0,ls,v1,gr⟩:Gz).HC=awU a.HC b.HC:=by
 show(⟨ls,gr.map T5.l⟩:As)=_
 rw[h1,h2,abv hk,abv (by rw[JE,JE];exact hj)];rfl
end
section
variable{s:lM}{ls:List El}{v0 v1:Value}{k:Int}
theorem awZ(hk:(s.vars.getD k.toNat fq).kind=1)(hl:0<=(s.vars.getD k.toNat fq).bf/\(s.vars.getD k.toNat fq).bf<s.aq.length):Ad s.sc (s.vars.getD k.toNat fq)=gJ (shG s (s.vars.getD k.toNat fq)) ew:=by grind[Ad,ahD,ar3]
theorem awb{v:vO}(h:¬(v.kind=1/\0<=v.bf/\v.bf<s.aq.length)):Ad s.sc v=dg:=by grind[Ad,ahD]
theorem DO(h0:0<=k)(h1:k<s.vars.length):(s.vars.take k.toNat).map (Ad s.sc)++[Ad s.sc (s.vars.getD k.toNat fq)]=(s.vars.take (k+1).toNat).map (Ad s.sc):=by
 rw[show(k+1).toNat=k.toNat+1 by omega,xM,show s.vars[k.toNat]?=some (s.vars.getD k.toNat fq)from fF h0 h1,gV];rfl
theorem DP(h0:0<=k):List.replicate k.toNat HA++[HA]=List.replicate (k+1).toNat HA:=by
 rw[show(k+1).toNat=k.toNat+1 by omega,List.replicate_succ']
theorem uG.amF(K:Vu)(n:Nat):uG K (List.replicate n HA):=⟨fun r hr=>by rw[(List.mem_replicate.1 hr).2];exact oR.nil _ _⟩
theorem UC(h1:ls=(s.vars.take k.toNat).map (Ad s.sc))(h0:0<=k)(hk:¬k<s.vars.length)(CH:k<=s.vars.length):(⟨v0,ls,v1,List.replicate k.toNat HA⟩:Gz).HC=MW s.sc:=by
 show(⟨ls,(List.replicate k.toNat HA).map T5.l⟩:As)=_
 rw[h1,jm J,MW,show k.toNat=s.vars.length by omega]
 congr 1
 rw[List.map_replicate]
 exact(List.map_const' (l:=s.vars) (b:=([]:List jN))).symm
end
theorem Dx{α:Type}{cl:α->List Value}{sz:Nat}(oy:∀a,(cl a).length=sz)(l:List α)(k:Nat):(l.flatMap cl).take (k*sz)=(l.take k).flatMap cl:=by
 by_cases h:k<=l.length
 .conv=>lhs;rw[<-HI k l,Gb]
  exact List.take_left' (by rw[fK oy,dW,qt h])
 rw[jm (by rw[fK oy];exact r6 _ J),jm J]
theorem adR{α:Type}{cl:α->List Value}{sz:Nat}(oy:∀a,(cl a).length=sz)(l:List α)(k:Nat)(h:k<=l.length):(l.flatMap cl).drop (k*sz)=(l.drop k).flatMap cl:=by
 conv=>lhs;rw[<-HI k l,Gb]
 exact List.drop_left' (by rw[fK oy,dW,qt h])
def lsK(s:lM)(k:Int):List El:=(s.vars.take k.toNat).map (Ad s.sc)++List.replicate (s.vars.length-k.toNat) dg
section
variable{s:lM}{k:Int}
end
section
variable{l:List jN}{f:Tx}{e:El}{k:Int}
end
def wM:List Tx:=[⟨#[108,111]⟩,⟨#[104,105]⟩]
def aDX:Sh:=⟨false,[⟨1,wM,Rl.none⟩]⟩
def exS:Sc:=⟨[aDX],[⟨⟨#[120]⟩,1,0⟩,⟨⟨#[114]⟩,2,0⟩]⟩
def exA:As:=⟨[tB dg 0 1#64,dg],[[],[⟨⟨#[102]⟩,dg⟩]]⟩
section
variable{P:Program}{σ:Env}{w:World}{dst:Option Tmp}{ty t e:TypeId}{pos:String}{bO:Array Edge}{g:Option (Nat×Bool)}{x y:Operand}
end
def apq(l:List jN)(f:Tx):Nat:=if Qa l f<0 then spot l f else(Qa l f).toNat
def wTo(l:List jN)(f:Tx)(e:El)(k:Int)(d:Bool):List jN:=(apl l f e).take (k.toNat+if d&& !(adP l f).2 then 1 else 0)
def wIs(l:List jN)(f:Tx)(k:Int)(d:Bool):Prop:=(d=true->(apq l f:Int)<k)/\(d=false->k<=(apq l f:Int))
section
variable{l m:List jN}{f:Tx}{e:El}{k:Int}{d:Bool}
theorem k1(h0:0<=k):(k+1).toNat=k.toNat+1:=J
end
def MZ(l:D3):Bool:=iS l.name&&mA l.zx.sh
def LM(n:Nat)(v:vO):Bool:=iS v.name&&decide ((v.kind=1\/v.kind=2)/\0<=v.bf/\v.bf<n)
def rB(s:lM):List Tx:=s.aq.map D3.name++s.vars.map vO.name
def jc(s:lM):Bool:=decide (s.aq.length<=16/\s.vars.length<=64)&&s.aq.all MZ&&s.vars.all (LM s.aq.length)&&decide (yL (rB s)<0)
section
variable{s:lM}
theorem Qc(h:¬(s.aq.length<=16/\s.vars.length<=64)):jc s=false:=by grind[jc]
theorem adS{k:Int}(h0:0<=k)(h1:k<s.aq.length)(h:MZ (s.aq.getD k.toNat mJ)=false):jc s=false:=by grind[jc,MS]
theorem yP{k:Int}(h0:0<=k)(h1:k<s.vars.length)(h:LM s.aq.length (s.vars.getD k.toNat fq)=false):jc s=false:=by grind[jc,MS]
theorem adT{k j:Int}(h:s.aq.length<=16/\s.vars.length<=64)(hk:¬k<s.aq.length)(hl:∀i:Int,0<=i->i<k->MZ (s.aq.getD i.toNat mJ)=true)(hj:¬j<s.vars.length)(hv:∀i:Int,0<=i->i<j->LM s.aq.length (s.vars.getD i.toNat fq)=true):
 jc s=decide (yL (rB s)<0):=by rw[jc,gW h,Gx hk hl,Gx hj hv];rfl
theorem Y7{k:Int}(h0:0<=k)(h1:k<(rB s).length)(h:iS ((rB s).getD k.toNat qg)=false):jc s=false:=by
 cases hc:jc s with
 |false=>rfl
 |true=>
  rw[jc,cM,cM,cM,iR,iR]at hc
  have hm:=lR (fF (d:=qg) h0 h1)
  rw[rB,e8,fZ,fZ]at hm
  rcases hm with⟨a,ha,e⟩|⟨a,ha,e⟩
  .have:=hc.1.1.2 a ha
   rw[MZ,cM,e]at this
   have h2:=this.1
   rw[rB]at h;rw[h]at h2;cases h2
  have:=hc.1.2 a ha
  rw[LM,cM,e]at this
  have h2:=this.1
  rw[rB]at h;rw[h]at h2;cases h2
theorem adU{k j i:Int}(k1:k<=s.aq.length)(j1:j<=s.vars.length)(h:s.aq.length<=16/\s.vars.length<=64)(hk:¬k<s.aq.length)(hl:∀i:Int,0<=i->i<k->mA (s.aq.getD i.toNat mJ).zx.sh=true)(hj:¬j<s.vars.length)(hv:∀i:Int,0<=i->i<j->((s.vars.getD i.toNat fq).kind=1\/(s.vars.getD i.toNat fq).kind=2)/\0<=(s.vars.getD i.toNat fq).bf/\(s.vars.getD i.toNat fq).bf<s.aq.length)
  (hi:¬i<(rB s).length) (hn:∀x:Int,0<=x->x<i->iS ((rB s).getD x.toNat qg)=true):jc s=decide (yL (rB s)<0):=by
 have hall:∀t∈rB s,iS t=true:=fun t ht=>by
  obtain⟨x,hx,rfl⟩:=uf ht
  have:=hn x J J
  rw[eT,eC,eF hx]at this
  simpa using this
 refine adT h hk (fun x x0 x1=> ?_) hj fun x x0 x1=> ?_
 .rw[MZ,hl x x0 x1,Ye]
  refine hall _ (dL _ (List.mem_map_of_mem (lR (fF (d:=mJ) x0 J))))
 rw[LM,gW (hv x x0 x1),Ye]
 refine hall _ (bH _ (List.mem_map_of_mem (lR (fF (d:=fq) x0 J))))
theorem Vd{k:Int}(h0:0<=k)(h1:k<s.aq.length):(s.aq.take (k+1).toNat).map D3.name=(s.aq.take k.toNat).map D3.name++[(s.aq.getD k.toNat mJ).name]:=by
 have h2:k.toNat<s.aq.length:=J
 rw[show(k+1).toNat=k.toNat+1 by omega,xM,gV,eT,eF h2];rfl
theorem JF{k:Int}(h0:0<=k)(h1:k<s.vars.length):(s.vars.take (k+1).toNat).map vO.name=(s.vars.take k.toNat).map vO.name++[(s.vars.getD k.toNat fq).name]:=by
 have h2:k.toNat<s.vars.length:=J
 rw[show(k+1).toNat=k.toNat+1 by omega,xM,gV,eT,eF h2];rfl
end
end
end Go.Proofs.YtlhjdflgjbkpmaaGreatDoor.E
namespace Go.Proofs.YtlhjdflgjbkpmaaGreatDoor.M
section
open Go
structure dV where
 op:Int
 n:Int
 c:El
structure iT where
 var:Int
 c:El
structure lD where
 name:Tx
 at_:iT
def bG:dV:=⟨0,0,dg⟩
def ahE:iT:=⟨0,dg⟩
def nO:lD:=⟨qg,ahE⟩
end
end Go.Proofs.YtlhjdflgjbkpmaaGreatDoor.M
namespace Go.Proofs.YtlhjdflgjbkpmaaGreatDoor.E
section
open Go Go.RowKit Go.Proofs.YtlhjdflgjbkpmaaGreatDoor.M
def kg(x:dV):List Value:=I x.op::I x.n::pJ x.c
theorem gP(x:dV):(kg x).length=10:=by simp[kg,cY]
def jJ(a:iT):List Value:=I a.var::pJ a.c
theorem DQ(a:iT):(jJ a).length=9:=by simp[jJ,cY]
def uv(f:lD):List Value:=S f.name::jJ f.at_
theorem sK(f:lD):(uv f).length=10:=by simp[uv,DQ]
structure BA where
 fv:Value
 fields:List lD
 tail:Int
def amG:BA:=⟨.slice none 0 0,[],0⟩
def SE(r:BA):List Value:=[r.fv,I r.tail]
structure iO where
 op:Int
 bf:Int
 cv:Value
 code:List dV
 to:iT
 a:BA
 b:BA
 var:Int
 field:Tx
def dQ:iO:=⟨0,0,.slice none 0 0,[],ahE,amG,amG,0,qg⟩
def uR(x:iO):List Value:=I x.op::I x.bf::x.cv::(jJ x.to++[x.a.fv,I x.a.tail,x.b.fv,I x.b.tail,I x.var,S x.field])
theorem vR(x:iO):(uR x).length=18:=by simp[uR,DQ]
structure n7 where
 s:lM
 av:Value
 aY:List iO
def xh(p:n7):List Value:=[p.s.lv,p.s.vv,p.av]
structure Y8(K:Vu)(r:BA):Prop where
 fields:oR K r.fv 10 r.fields.length (r.fields.flatMap uv)
structure J8(K:Vu)(x:iO):Prop where
 code:oR K x.cv 10 x.code.length (x.code.flatMap kg)
 a:Y8 K x.a
 b:Y8 K x.b
structure vS(K:Vu)(p:n7):Prop where
 s:D4 K p.s
 aY:oR K p.av 18 p.aY.length (p.aY.flatMap uR)
 each:∀x∈p.aY,J8 K x
theorem Y8.mono{K K':Vu}{r:BA}(h:Y8 K r)(hl:Le K K'):Y8 K' r:=⟨h.fields.mono hl⟩
theorem J8.mono{K K':Vu}{x:iO}(h:J8 K x)(hl:Le K K'):J8 K' x:=⟨h.code.mono hl,h.a.mono hl,h.b.mono hl⟩
theorem vS.mono{K K':Vu}{p:n7}(h:vS K p)(hl:Le K K'):vS K' p:=⟨h.s.mono hl,h.aY.mono hl,fun x hx=>(h.each x hx).mono hl⟩
theorem vS.at{K:Vu}{p:n7}(h:vS K p){k:Int}(h0:0<=k)(h1:k<p.aY.length):J8 K (p.aY.getD k.toNat dQ):=h.each _ (lR (fF (d:=dQ) h0 h1))
theorem SF(e:El):(pJ e).take 8=pJ e:=by grind[cY]
theorem DR(x:dV):((kg x).toArray.toList.drop 2).take 8=pJ x.c:=SF x.c
theorem Ve(x:iT):((jJ x).toArray.toList.drop 1).take 8=pJ x.c:=SF x.c
theorem Qd(x:lD):∀(j:Nat) (c:Value),(jJ x.at_)[j]?=some c->(uv x)[1+j]?=some c:=by grind[lD,jJ,uv]
theorem abx(x:iO):((uR x).toArray.toList.drop 3).take (jJ x.to).length=jJ x.to:=ve ..
theorem aby(x:iO):((uR x).toArray.toList.drop 4).take 8=pJ x.to.c:=by
 show(pJ x.to.c++_).take 8=_
 rw[Lf (by rw[cY];omega)];exact SF _
theorem Vf(x:iO):(uR x).toArray.toList.drop 12=[x.a.fv,I x.a.tail,x.b.fv,I x.b.tail,I x.var,S x.field]:=by
 show(jJ x.to++[x.a.fv,I x.a.tail,x.b.fv,I x.b.tail,I x.var,S x.field]).drop 9=_
 rw[show(9:Nat)=(jJ x.to).length by rw[DQ]];exact E7 ..
theorem ar4(x:iO):((uR x).toArray.toList.drop 12).take (SE x.a).length=SE x.a:=by rw[Vf];rfl
theorem ar5(x:iO):((uR x).toArray.toList.drop 14).take (SE x.b).length=SE x.b:=by
 rw[show(14:Nat)=12+2 by omega,<-RB,Vf];rfl
theorem DS(p:n7):((xh p).toArray.toList.drop 0).take (CE p.s).length=CE p.s:=rfl
theorem vV(x:dV):∀u∈(kg x).toArray,u.oneCell'=true:=by
 intro u hu;simp[kg]at hu
 rcases hu with rfl|rfl|hu
 .rfl
 .rfl
 exact uQ x.c u hu
theorem IN(x:iT):∀u∈(jJ x).toArray,u.oneCell'=true:=by
 intro u hu;simp[jJ]at hu
 rcases hu with rfl|hu
 .rfl
 exact uQ x.c u hu
theorem M0(x:lD):∀u∈(uv x).toArray,u.oneCell'=true:=by
 intro u hu;simp[uv]at hu
 rcases hu with rfl|hu
 .rfl
 exact IN x.at_ u q5
theorem GC{K:Vu}{x:iO}(h:J8 K x):∀u∈(uR x).toArray,u.oneCell'=true:=by
 intro u hu;simp[uR]at hu
 rcases hu with rfl|rfl|rfl|hu|rfl|rfl|rfl|rfl|rfl|rfl
 .rfl
 .rfl
 .exact(l9 h.code).1
 .exact IN x.to u q5
 .exact(l9 h.a.fields).1
 .rfl
 .exact(l9 h.b.fields).1
 .rfl
 .rfl
 rfl
section
variable{P:Program}{σ:Env}{w:World}{dst:Option Tmp}{ty t e:TypeId}{pos:String}{bO:Array Edge}{g:Option (Nat×Bool)}{x:Operand}{b o:Nat}{fr:Nat×Nat}
theorem nr{d:TypeDesc}{cs:Array Value}{el:El}(hu:P.underlying t=some d)(hd:d.isRow=true)(hi:(P.info? t).map (·.size)=some 8)(hx:ev σ x= .pointer (some ⟨b,o,none⟩))(hg:w.heap[b]?=some (.cells cs e fr))(hc:(cs.toList.drop o).take 8=pJ el):
 (execOp (ev σ) ⟨dst,.load t x,ty,pos,bO,g⟩).run P w= .ok (.value (.agg (iM el))) w:=by grind[ig,iN,pJ,cY]
theorem adV{α:Type}{cl:α->List Value}{sz:Nat}{v:Value}{l:List α}{k:Int}{d:TypeDesc}{dv:α}{off:Nat}{el:El}(hsz:∀a,(cl a).length=sz)(hS:Sl w v sz l.length (l.flatMap cl))(hu:P.underlying t=some d)(hd:d.isRow=true)(hi:(P.info? t).map (·.size)=some 8)
  (hx:ev σ x= .pointer (some ⟨sb v,so v+k.toNat*sz+off,none⟩)) (hk:0<=k/\k<l.length) (hc:((cl (l.getD k.toNat dv)).drop off).take 8=pJ el):(execOp (ev σ) ⟨dst,.load t x,ty,pos,bO,g⟩).run P w= .ok (.value (.agg (iM el))) w:=by
 rw[ig]
 exact l7 (dv:=dv) (off:=off) (cs:=pJ el) hsz hS hu hd (by rw[cY];exact hi) hx hk (ahm (by rw[cY];exact hc))
end
end
end Go.Proofs.YtlhjdflgjbkpmaaGreatDoor.E
namespace Go.Proofs.YtlhjdflgjbkpmaaGreatDoor.M
section
open Go
def xj(d:Option Int)(x:dV):Option Int:=d.bind fun k=>if x.op=1\/x.op=2 then some (k+1)else if x.op=3\/x.op=4 then(if x.n<1\/k<x.n then none else some (k-x.n+1))else none
def jx(l:List dV)(k:Int):Option Int:=(l.take k.toNat).foldl xj (some 0)
def fU(l:List dV):Bool:=decide (jx l l.length=some 1)
theorem IP{α β:Type}{f:β->α->β}{b:β}{l:List α}{d:α}{k:Int}(h0:0<=k)(h1:k<l.length):(l.take (k+1).toNat).foldl f b=f ((l.take k.toNat).foldl f b) (l.getD k.toNat d):=by
 have h2:k.toNat<l.length:=J
 rw[show(k+1).toNat=k.toNat+1 by omega,xM,xN,eT,eF h2]
 rfl
theorem jd{l:List dV}{k:Int}(h0:0<=k)(h1:k<l.length):jx l (k+1)=xj (jx l k) (l.getD k.toNat bG):=IP h0 h1
theorem adW(l:List dV):l.foldl xj none=none:=by
 induction l with
 |nil=>rfl
 |cons a l ih=>rw[pg];exact ih
theorem Vg{l:List dV}{k:Int}(hk:0<=k)(h:jx l k=none):jx l l.length=none:=by grind[jx,Int.toNat_natCast,List.take_length,List.take_append_drop,adW]
theorem yQ(l:List dV):jx l 0=some 0:=rfl
theorem KY{l:List dV}{k d:Int}(h0:0<=k)(h1:k<=l.length)(h:jx l k=some d):0<=d/\d<=k:=by
 have key:∀n:Nat,∀d:Int,(n:Int)<=l.length->jx l n=some d->0<=d/\d<=n:=fun n=>by
  induction n with
  |zero=>intro d _ h;have e:(some (0:Int))=some d:=(yQ l).symm.trans h;injection e;omega
  |succ n ih=>
   intro d hn h
   rw[show((n+1:Nat):Int)=(n:Int)+1 by omega,jd J J]at h
   cases hc:jx l n with
   |none=>rw[hc]at h;cases h
   |some q=>
    have:=ih q J hc
    rw[hc]at h
    unfold xj at h
    simp only[Ru]at h
    split at h
    .injection h;omega
    split at h
    .split at h
     .cases h
     injection h;omega
    .cases h
 have:=key k.toNat d J (by rw[show((k.toNat:Nat):Int)=k by omega];exact h)
 omega
theorem EB{l:List dV}{k d:Int}(h0:0<=k)(h1:k<l.length)(h:jx l k=some d)(hs:xj (some d) (l.getD k.toNat bG)=none):fU l=false:=
 gZ (by rw[Vg (k:=k+1) J (by rw[jd h0 h1,h,hs])];exact fun e=>by cases e)
theorem Y9{l:List dV}{k d:Int}(hk:k<=l.length)(h1:¬k<l.length)(h:jx l k=some d):fU l=decide (d=1):=by grind[fU]
theorem uS{x:dV}{d:Int}(h:x.op=1\/x.op=2):xj (some d) x=some (d+1):=by simp[xj,h]
theorem M1{x:dV}{d:Int}(h:x.op=3\/x.op=4)(h1:1<=x.n)(h2:x.n<=d):xj (some d) x=some (d-x.n+1):=by grind[xj]
theorem Ae{x:dV}{d:Int}(h:x.op=3\/x.op=4)(h1:x.n<1\/d<x.n):xj (some d) x=none:=by grind[xj]
theorem SG{x:dV}{d:Int}(h:¬(x.op=1\/x.op=2))(h1:¬(x.op=3\/x.op=4)):xj (some d) x=none:=by
 simp[xj,h,h1]
def pK(f:El->El->El):List El->El
 |[]=>dg
 |[e]=>e
 |a::b::l=>f a (pK f (b::l))
theorem M3{f:El->El->El}{l:List El}(h:l≠[]):pK f (l.drop (l.length-1))=l.getD (l.length-1) dg:=by
 have h2:l.length-1<l.length:=by have:=List.length_pos_iff.2 h;omega
 rw[Ri h2,Ll J,eT,eF h2];rfl
theorem Za{f:El->El->El}{l:List El}{i:Nat}(h:i+1<l.length):pK f (l.drop i)=f (l.getD i dg) (pK f (l.drop (i+1))):=by
 rw[Ri (by omega:i<l.length),Ri h,eT,eF J]
 rfl
def J9(s:Sh)(op:Int)(a b:El):El:=if op=3 then eo s a b else o7 a b
def Be(s:Sh)(v:List El)(o:Option (List El))(x:dV):Option (List El):=o.bind fun st=>
 if x.op=1 then(if 0<=x.n/\x.n<v.length then some (st++[v.getD x.n.toNat dg])else none)
 else if x.op=2 then some (st++[x.c])
 else some (st.take (st.length-x.n.toNat)++[pK (J9 s x.op) (st.drop (st.length-x.n.toNat))])
def ij(s:Sh)(v:List El)(l:List dV)(k:Int):Option (List El):=(l.take k.toNat).foldl (Be s v) (some [])
def ey(s:Sh)(l:List dV)(v:List El):El×Bool:=if fU l then(match ij s v l l.length with|some st=>(st.getD 0 dg,true)|none=>(dg,false))else(dg,false)
theorem Af{s:Sh}{v:List El}{l:List dV}{k:Int}(h0:0<=k)(h1:k<l.length):ij s v l (k+1)=Be s v (ij s v l k) (l.getD k.toNat bG):=IP h0 h1
theorem Zb(s:Sh)(v:List El)(l:List dV):l.foldl (Be s v) none=none:=by
 induction l with
 |nil=>rfl
 |cons a l ih=>rw[pg];exact ih
theorem adX{s:Sh}{v:List El}{l:List dV}{k:Int}(h:ij s v l k=none):ij s v l l.length=none:=by grind[ij,Int.toNat_natCast,List.take_length,List.take_append_drop,Zb]
theorem Zd{l:List dV}(h:fU l=true){k:Int}(hk:0<=k):∃d,jx l k=some d:=by
 cases hc:jx l k with
 |some d=>exact⟨d,rfl⟩
 |none=>rw[fU,Vg hk hc]at h;simp at h
theorem abz{l:List dV}(h:fU l=true){k d:Int}(h0:0<=k)(h1:k<l.length)(hd:jx l k=some d):
  ((l.getD k.toNat bG).op=1\/(l.getD k.toNat bG).op=2)/\jx l (k+1)=some (d+1)\/(((l.getD k.toNat bG).op=3\/(l.getD k.toNat bG).op=4)/\1<=(l.getD k.toNat bG).n/\(l.getD k.toNat bG).n<=d)/\jx l (k+1)=some (d-(l.getD k.toNat bG).n+1):=by
 obtain⟨q,hq⟩:=Zd h (k:=k+1) J
 have hn:=jd h0 h1
 rw[hd,hq]at hn
 by_cases c:(l.getD k.toNat bG).op=1\/(l.getD k.toNat bG).op=2
 .left;exact⟨c,by rw[hq,hn,uS c]⟩
 by_cases c2:(l.getD k.toNat bG).op=3\/(l.getD k.toNat bG).op=4
 .by_cases c3:(l.getD k.toNat bG).n<1\/d<(l.getD k.toNat bG).n
  .rw[Ae c2 c3]at hn;cases hn
  right;exact⟨⟨c2,J,J⟩,by rw[hq,hn,M1 c2 J J]⟩
 rw[SG c c2]at hn;cases hn
theorem apr{s:Sh}{l:List dV}{v:List El}(h:fU l=false):ey s l v=(dg,false):=by rw[ey,h];rfl
theorem KZ{s:Sh}{l:List dV}{v st:List El}{k:Int}(h0:0<=k)(h1:k<l.length)(hs:ij s v l k=some st)(ho:(l.getD k.toNat bG).op=1)(hv:(l.getD k.toNat bG).n<0\/v.length<=(l.getD k.toNat bG).n):ey s l v=(dg,false):=by
 have e:ij s v l (k+1)=none:=by
  have h3:¬(0<=(l.getD k.toNat bG).n/\(l.getD k.toNat bG).n<v.length):=J
  rw[Af h0 h1,hs];generalize l.getD k.toNat bG=x at*;simp[Be,ho,h3]
 rw[ey,adX e];cases fU l<;>rfl
theorem M4{s:Sh}{l:List dV}{v st:List El}{k:Int}(hr:fU l=true)(hk:k<=l.length)(h1:¬k<l.length)(hs:ij s v l k=some st):ey s l v=(st.getD 0 dg,true):=by grind[ey]
theorem ahF{s:Sh}{l:List dV}{v st:List El}{k:Int}(h0:0<=k)(h1:k<l.length)(hs:ij s v l k=some st)(ho:(l.getD k.toNat bG).op=1)(hv:0<=(l.getD k.toNat bG).n/\(l.getD k.toNat bG).n<v.length):ij s v l (k+1)=some (st++[v.getD (l.getD k.toNat bG).n.toNat dg]):=by grind[Af,bG,Be]
theorem amH{s:Sh}{l:List dV}{v st:List El}{k:Int}(h0:0<=k)(h1:k<l.length)(hs:ij s v l k=some st)(ho:(l.getD k.toNat bG).op=2):ij s v l (k+1)=some (st++[(l.getD k.toNat bG).c]):=by grind[Af,bG,Be]
theorem ar6{s:Sh}{l:List dV}{v st:List El}{k:Int}(h0:0<=k)(h1:k<l.length)(hs:ij s v l k=some st)(h2:¬(l.getD k.toNat bG).op=1)(h3:¬(l.getD k.toNat bG).op=2):ij s v l (k+1)=some (st.take (st.length-(l.getD k.toNat bG).n.toNat)++[pK (J9 s (l.getD k.toNat bG).op) (st.drop (st.length-(l.getD k.toNat bG).n.toNat))]):=by grind[Af,bG,Be]
theorem Bf{s:Sh}{l:List dV}{v st:List El}{k q:Int}(h0:0<=k)(h1:k<l.length)(hs:ij s v l k=some st)(h2:¬(l.getD k.toNat bG).op=1)(h3:¬(l.getD k.toNat bG).op=2)(hq:q=(st.length:Int)-(l.getD k.toNat bG).n)(hn:0<=(l.getD k.toNat bG).n):
  ij s v l (k+1)=some (st.take q.toNat++[pK (J9 s (l.getD k.toNat bG).op) (st.drop q.toNat)]):=by
 rw[ar6 h0 h1 hs h2 h3,show st.length-(l.getD k.toNat bG).n.toNat=q.toNat by omega]
theorem K0{f:El->El->El}{l:List El}{k:Int}(h0:0<=k)(h1:k+1<l.length):pK f (l.drop k.toNat)=f (l.getD k.toNat dg) (pK f (l.drop (k+1).toNat)):=by grind[Za]
theorem aps{s:Sh}{op:Int}{a b:El}(h:op=3):eo s a b=J9 s op a b:=by rw[J9,aX h]
theorem apt{s:Sh}{op:Int}{a b:El}(h:¬op=3):o7 a b=J9 s op a b:=by rw[J9,aT h]
theorem fQ{l:List dV}(h:fU l=true){k d:Int}(h0:0<=k)(h1:k<l.length)(hd:jx l k=some d)(h2:¬(l.getD k.toNat bG).op=1)(h3:¬(l.getD k.toNat bG).op=2):
  1<=(l.getD k.toNat bG).n/\(l.getD k.toNat bG).n<=d/\jx l (k+1)=some (d-(l.getD k.toNat bG).n+1):=by
 rcases abz h h0 h1 hd with⟨ho,_⟩|⟨⟨_,a,b⟩,c⟩
 .omega
 exact⟨a,b,c⟩
theorem Ug{l:List dV}(h:fU l=true){k d:Int}(hk:k<=l.length)(h1:¬k<l.length)(hd:jx l k=some d):d=1:=by grind[Y9]
end
end Go.Proofs.YtlhjdflgjbkpmaaGreatDoor.M
namespace Go.Proofs.YtlhjdflgjbkpmaaGreatDoor.E
section
open Go Go.RowKit Go.Proofs.YtlhjdflgjbkpmaaGreatDoor.M
def rf(s:lM)(v kd bf:Int):Bool:=decide (0<=v/\v<s.vars.length)&&decide ((s.vars.getD v.toNat fq).kind=kd)&&decide ((s.vars.getD v.toNat fq).bf=bf)
def iv(s:lM)(bf:Int):Sh:=(s.aq.getD bf.toNat mJ).zx.sh
def mh(s:lM)(bf:Int)(a:iT):Bool:=if a.var<0 then cJ (iv s bf) a.c else rf s a.var 1 bf
def rC(s:lM)(bf:Int)(f:lD):Bool:=iS f.name&&mh s bf f.at_
def SH(r:BA):List Tx:=r.fields.map lD.name
def vX(s:lM)(bf:Int)(r:BA):Bool:=decide (r.fields.length<=16)&&(decide (r.tail<0)||rf s r.tail 2 bf)&&r.fields.all (rC s bf)&&decide (yL (SH r)<0)
def vY(s:lM)(bf:Int)(x:dV):Bool:=(!decide (x.op=1)||rf s x.n 1 bf)&&(!decide (x.op=2)||cJ (iv s bf) x.c)
def codeOk(s:lM)(bf:Int)(l:List dV):Bool:=l.all (vY s bf)&&fU l
def kO(s:lM)(a:iO):Bool:=
 if a.op=10 then rf s a.var 2 a.bf&&iS a.field
 else if 0<=a.bf/\a.bf<s.aq.length then(if a.op=9 then vX s a.bf a.a&&vX s a.bf a.b else if a.op=8 then codeOk s a.bf a.code&&mh s a.bf a.to else false)
 else false
def kS(p:n7):Bool:=jc p.s&&decide (p.aY.length<=64)&&p.aY.all (kO p.s)
section
variable{s:lM}{v kd bf:Int}{a:iO}{r:BA}{l:List dV}{k:Int}
theorem Vh(h:¬(0<=v/\v<s.vars.length)):rf s v kd bf=false:=by grind[rf]
theorem ahG(h:¬(s.vars.getD v.toNat fq).kind=kd):rf s v kd bf=false:=by grind[rf]
theorem ahH(h:0<=v/\v<s.vars.length)(h2:(s.vars.getD v.toNat fq).kind=kd):rf s v kd bf=decide ((s.vars.getD v.toNat fq).bf=bf):=by grind[rf]
theorem atom_1{x:iT}(h:x.var<0):mh s bf x=cJ (iv s bf) x.c:=aX h
theorem ar7{x:iT}(h:¬x.var<0):mh s bf x=rf s x.var 1 bf:=aT h
theorem amI(h:¬r.fields.length<=16):vX s bf r=false:=by grind[vX]
theorem amJ(h1:¬r.tail<0)(h:rf s r.tail 2 bf=false):vX s bf r=false:=by grind[vX]
theorem K1(h0:0<=k)(h1:k<r.fields.length)(h:rC s bf (r.fields.getD k.toNat nO)=false):vX s bf r=false:=by grind[vX,MS]
theorem abA(h:r.fields.length<=16)(h1:r.tail<0\/rf s r.tail 2 bf=true)(hk:¬k<r.fields.length)(hg:∀j:Int,0<=j->j<k->rC s bf (r.fields.getD j.toNat nO)=true):vX s bf r=decide (yL (SH r)<0):=by
 rw[vX,gW h,Gx hk hg]
 rcases h1 with h1|h1
 .rw[gW h1];rfl
 rw[h1];simp
theorem Qe{f:lD}(h:iS f.name=false):rC s bf f=false:=by rw[rC,h];rfl
theorem Qf{f:lD}(h:mh s bf f.at_=false):rC s bf f=false:=by grind[rC]
theorem Qg{f:lD}(h:iS f.name=true)(h2:mh s bf f.at_=true):rC s bf f=true:=by rw[rC,h,h2];rfl
theorem JG(h0:0<=k)(h1:k<r.fields.length):(r.fields.take (k+1).toNat).map lD.name=(r.fields.take k.toNat).map lD.name++[(r.fields.getD k.toNat nO).name]:=by
 have h2:k.toNat<r.fields.length:=J
 rw[show(k+1).toNat=k.toNat+1 by omega,xM,gV,eT,eF h2];rfl
theorem Vi{m:List Tx}{x:Tx}{k:Int}(h:(m.length:Int)=k):(JD m++[S x])[k.toNat*1]?=some (S x):=by grind
theorem amK{x:dV}(h:x.op=1)(h2:rf s x.n 1 bf=false):vY s bf x=false:=by grind[vY]
theorem abB{x:dV}(h:x.op=2)(h2:cJ (iv s bf) x.c=false):vY s bf x=false:=by grind[vY]
theorem K2{x:dV}(h:¬x.op=1\/rf s x.n 1 bf=true)(h2:¬x.op=2\/cJ (iv s bf) x.c=true):vY s bf x=true:=by grind[vY]
theorem M5(h0:0<=k)(h1:k<l.length)(h:vY s bf (l.getD k.toNat bG)=false):codeOk s bf l=false:=by grind[codeOk,MS]
theorem ahI(h:fU l=false):codeOk s bf l=false:=by grind[codeOk]
theorem ahJ(hk:¬k<l.length)(hg:∀j:Int,0<=j->j<k->vY s bf (l.getD j.toNat bG)=true):codeOk s bf l=fU l:=by rw[codeOk,Gx hk hg];rfl
theorem adY(hk:¬k<l.length)(hg:∀j:Int,0<=j->j<k->vY s bf (l.getD j.toNat bG)=true)(h:fU l=true):codeOk s bf l=true:=by rw[ahJ hk hg,h]
theorem ahK(h:a.op=10):kO s a=(rf s a.var 2 a.bf&&iS a.field):=aX h
theorem ahL(h:¬a.op=10)(h2:¬(0<=a.bf/\a.bf<s.aq.length)):kO s a=false:=by grind[kO]
theorem apu(h:a.op=9)(h2:0<=a.bf/\a.bf<s.aq.length):kO s a=(vX s a.bf a.a&&vX s a.bf a.b):=by grind[kO]
theorem Qh(h:a.op=8)(h2:0<=a.bf/\a.bf<s.aq.length):kO s a=(codeOk s a.bf a.code&&mh s a.bf a.to):=by grind[kO]
theorem aw0(h:¬a.op=10)(h1:¬a.op=9)(h2:¬a.op=8):kO s a=false:=by grind[kO]
end
section
variable{p:n7}{k:Int}
theorem ahM(h:jc p.s=false):kS p=false:=by rw[kS,h];rfl
theorem ahN(h:¬p.aY.length<=64):kS p=false:=by grind[kS]
theorem ahO(h0:0<=k)(h1:k<p.aY.length)(h:kO p.s (p.aY.getD k.toNat dQ)=false):kS p=false:=by grind[kS,MS]
theorem ahP(h:jc p.s=true)(h2:p.aY.length<=64)(hk:¬k<p.aY.length)(hg:∀j:Int,0<=j->j<k->kO p.s (p.aY.getD j.toNat dQ)=true):kS p=true:=by rw[kS,h,gW h2,Gx hk hg];rfl
end
def abC(a:As)(t:iT):El×Bool:=if t.var<0 then(t.c,true)else if t.var<a.labels.length then(a.labels.getD t.var.toNat dg,true)else(dg,false)
def aDY(a:As)(f:lD):jN:=⟨f.name,(abC a f.at_).1⟩
def apv(a:As)(t:BA):List jN:=if 0<=t.tail then a.rows.getD t.tail.toNat []else[]
def aw1(a:As)(t:BA):List jN:=apv a t++t.fields.map (aDY a)
def aw2(a:As)(t:BA):Bool:=decide (t.tail<a.rows.length)&&t.fields.all fun f=>(abC a f.at_).2
def ar8(l:List jN):List Tx:=l.map jN.name
def aDZ(l:List jN):List jN:=l.foldl (fun m v=>apl m v.name v.el) []
def apw(l:List jN):Bool:=decide (ar8 l).Nodup
def Ka(a:As)(t:BA):List jN×Bool:=if(aw2 a t&&apw (aw1 a t))=true then(aDZ (aw1 a t),true)else([],false)
def abD(out:List Tx)(x:Tx):Int:=tw (fun k=> !Vc (out.getD k.toNat qg) x) out.length
def aD0(out:List Tx)(x:Tx):List Tx:=if abD out x<0 then out++[x]else if out.getD (abD out x).toNat qg=x then out else out.take (abD out x).toNat++x::out.drop (abD out x).toNat
def aJU(l:List Tx):List Tx:=l.foldl aD0 []
def JH(kv:List (Tx×El))(f:Tx):El×Bool:=match kv.find? (fun p=>decide (p.1=f))with
 |none=>(dg,false)
 |some p=>(p.2,true)
def aNl(kv:List (Tx×El))(f:Tx)(e:El):List (Tx×El):=if(JH kv f).2 then kv.map fun p=>if p.1=f then(f,e)else p else kv++[(f,e)]
def amL(s:lM)(a:As)(x:iO):Bool:=
 if x.op=10 then(if 0<=x.var/\x.var<a.rows.length then !(adP (a.rows.getD x.var.toNat []) x.field).2 else false)
 else if x.op=9 then(Ka a x.a).2&&(Ka a x.b).2&&apm (Ka a x.a).1 (Ka a x.b).1
 else if x.op=8/\0<=x.bf/\x.bf<s.aq.length then(ey (iv s x.bf) x.code a.labels).2&&(abC a x.to).2&&cS (ey (iv s x.bf) x.code a.labels).1 (abC a x.to).1
 else false
def Ze(s:lM)(a:As)(l:List iO):Int:=tw (fun i=> !amL s a (l.getD i.toNat dQ)) l.length
def aNm(s:lM)(a:As)(l:List iO):Bool:=SD s.sc a&&decide (Ze s a l<0)
section
variable{s:lM}{a:As}{x:iO}{l:List iO}
end
section
variable{s:lM}{a m:As}{bf:Int}{l:List dV}
theorem ahQ{sh:Sh}{op:Int}{a b:El}(fa:cJ sh a=true)(fb:cJ sh b=true):cJ sh (J9 sh op a b)=true:=by grind[J9,IJ,arL]
theorem Ag{sh:Sh}{op:Int}{l:List El}(h:l≠[])(hf:∀e∈l,cJ sh e=true):cJ sh (pK (J9 sh op) l)=true:=by
 induction l with
 |nil=>exact absurd O h
 |cons e l ih=>
  cases l with
  |nil=>exact hf e aJ
  |cons b l=>
   have:=ih aJ fun x hx=>hf x (fX _ hx)
   show cJ sh (J9 sh op e (pK (J9 sh op) (b::l)))=true
   exact ahQ (hf e aJ) this
theorem meet_mono{a b c d:El}(h:cS a b=true)(h2:cS c d=true):cS (o7 a c) (o7 b d)=true:=by grind[awz,MX,arM]
theorem join_mono{sh:Sh}{a b c d:El}(fa:cJ sh a=true)(fb:cJ sh b=true)(fc:cJ sh c=true)(fd:cJ sh d=true)(h:cS a b=true)(h2:cS c d=true):cS (eo sh a c) (eo sh b d)=true:=by grind[abl,IJ,MX,YV]
theorem ahR{sh:Sh}{op:Int}{a b c d:El}(fa:cJ sh a=true)(fb:cJ sh b=true)(fc:cJ sh c=true)(fd:cJ sh d=true)(h:cS a b=true)(h2:cS c d=true):cS (J9 sh op a c) (J9 sh op b d)=true:=by grind[J9,join_mono,meet_mono]
def uT:List El->List El->Prop
 |[],[]=>True
 |a::l,b::m=>cS a b=true/\uT l m
 |_,_=>False
theorem uT.len:∀{l m:List El},uT l m->l.length=m.length
 |[],[],_=>rfl
 |_::_,_::_,h=>by simp[uT.len h.2]
 |[],_::_,h=>h.elim
 |_::_,[],h=>h.elim
theorem uT.app:∀{l m l' m':List El},uT l m->uT l' m'->uT (l++l') (m++m')
 |[],[],_,_,_,h=>h
 |_::_,_::_,_,_,h,h'=>⟨h.1,uT.app h.2 h'⟩
 |[],_::_,_,_,h,_=>h.elim
 |_::_,[],_,_,h,_=>h.elim
theorem uT.take:∀{l m:List El} (n:Nat),uT l m->uT (l.take n) (m.take n)
 |[],[],n,_=>by simp[uT]
 |_::_,_::_,0,h=>by simp[uT]
 |_::_,_::_,n+1,h=>⟨h.1,uT.take n h.2⟩
 |[],_::_,_,h=>h.elim
 |_::_,[],_,h=>h.elim
theorem uT.drop:∀{l m:List El} (n:Nat),uT l m->uT (l.drop n) (m.drop n)
 |[],[],n,_=>by simp[uT]
 |_::_,_::_,0,h=>h
 |_::_,_::_,n+1,h=>uT.drop n h.2
 |[],_::_,_,h=>h.elim
 |_::_,[],_,h=>h.elim
theorem uT.oS:∀{l m:List El},uT l m->cS (l.getD 0 dg) (m.getD 0 dg)=true
 |[],[],_=>kf _
 |_::_,_::_,h=>h.1
 |[],_::_,h=>h.elim
 |_::_,[],h=>h.elim
theorem M6{sh:Sh}{op:Int}:∀{l m:List El},uT l m->(∀e∈l,cJ sh e=true)->(∀e∈m,cJ sh e=true)->cS (pK (J9 sh op) l) (pK (J9 sh op) m)=true
 |[],[],_,_,_=>kf _
 |[a],[b],h,_,_=>h.1
 |a::a'::l,b::b'::m,h,hf,hg=>by
  have ih:=M6 (sh:=sh) (op:=op) (l:=a'::l) (m:=b'::m) h.2 (fun x hx=>hf x (fX _ hx)) (fun x hx=>hg x (fX _ hx))
  have f1:=Ag (sh:=sh) (op:=op) (l:=a'::l) aJ fun x hx=>hf x (fX _ hx)
  have f2:=Ag (sh:=sh) (op:=op) (l:=b'::m) aJ fun x hx=>hg x (fX _ hx)
  exact ahR (hf a aJ) (hg b aJ) f1 f2 h.1 ih
 |[],_::_,h,_,_=>h.elim
 |_::_,[],h,_,_=>h.elim
 |[_],_::_::_,h,_,_=>h.2.elim
 |_::_::_,[_],h,_,_=>h.2.elim
end
section
variable{s:lM}{a b:As}{bf:Int}{T U:BA}
theorem ahS{a b:El}(h:rR a b):rR b a:=fun i hi=>(h i hi).symm
end
def tG:Value->Nat->Value
 | .slice a _ _,n=> .slice a n n
 |v,_=>v
theorem Sl.tG{w:World}{v:Value}{sz m n:Nat}{cells:List Value}(h:Sl w v sz m cells)(hn:n<=m):Sl w (tG v n) sz n (cells.take (n*sz)):=by
 obtain⟨a,cap,rfl,hc,ha⟩:=h.shape
 refine⟨⟨a,n,rfl,fh _,fun hp=> ?_⟩,?_,fun j c hj=> ?_,kL hn h.small⟩
 .have:=ha J
  cases a with
  |none=>cases this
  |some a=>exact this
 .rw[dW,h.len];exact qt (r6 _ hn)
 have hlt:j<n*sz:=by
  have:=(nX.1 hj).1
  rw[dW]at this;omega
 rw[u9,aX hlt]at hj
 have:=h.cell j c hj
 cases a<;>exact this
theorem M7{w:World}{v:Value}{sz m n:Nat}{cells:List Value}(h:Sl w v sz m cells):∃a,E.tG v n= .slice a n n:=by
 obtain⟨a,cap,rfl,_,_⟩:=h.shape
 exact⟨a,rfl⟩
theorem set_perm{α:Type}{x:α}:∀{l:List α} {i:Nat},i<l.length->(l.set i x).Perm (x::l.eraseIdx i)
 |a::l,0,_=>RC _
 |a::l,i+1,h=>(List.Perm.cons a (set_perm (l:=l) (i:=i) x7)).trans (List.Perm.swap _ _ _)
 |[],_,h=>absurd h aJ
theorem Hp.swap{w0 w:World}{L:List bu}{x:bu}{i:Nat}(h:Hp w0 w (x::L))(hi:i<L.length):Hp w0 w (L.set i x):=
 (h.sub (List.Sublist.cons_cons _ (List.eraseIdx_sublist _ _))).perm (set_perm hi).symm
section
variable{P:Program}{n:Nat}{ops:Array Oper}{k:K}{rest:List Oper}{σ:Env}{w0 w:World}{L L' Xk:List bu}{ty:TypeId}{pos:String}{bO:Array Edge}{d:Nat}{x y:Operand}{dst:Option Tmp}{g:Option (Nat×Bool)}
theorem vZ{t e:TypeId}{lo hi:Operand}{v:Value}{sz m:Nat}{q:Int}{cells:List Value}(hS:Sl w v sz m cells)(hu:P.underlying t=some (.slice e))(hs:∀w,(sizeOf e).run P w= .ok sz w)(hx:ev σ x=v)(hlo:ev σ lo=I q)(hhi:ev σ hi=I q)(h:0<=q/\q<=m):
  (execOp (ev σ) ⟨dst,.slice t x none (some lo) (some hi),ty,pos,bO,g⟩).run P w= .ok (.value (tG v q.toNat)) w:=by
 obtain⟨a,cap,rfl,hcap,ha⟩:=hS.shape
 have h1:0<=q/\q<=(cap:Int):=J
 have h2:0<=q/\q<=((q.toNat:Nat):Int):=J
 have h3:(Instr.slice t (.slice a m cap) none (some (I q)) (some (I q))).run P w= .ok (.slice a q.toNat q.toNat) w:=by
  have e0:Option.map (fun x:Addr=>x.add 0) a=a:=by cases a<;>simp[Addr.add]
  have h5:q<=max q 0:=J
  simp[Instr.slice,Instr.sliceBounds,Instr.sliceBound,kp hu,asIntOf,h1,h2,hs,e0,h5]
 have h4:(Instr.sliceAt t (.slice a m cap) none (some (I q)) (some (I q))).run P w= .ok (.slice a q.toNat q.toNat) w:=by
  simp[Instr.sliceAt,kp hu,h3]
 simp[execOp,hx,hlo,hhi,h4,tG]
theorem M8{base:Nat}{t ty e:TypeId}{i:TypeInfo}{z:Value}{size bytes:Nat}(ht:P.underlying t=some (.slice e))(hi:P.info? e=some i)(hz:i.zero=some z)
  (hsize:i.size=size) (hby:i.bytes=bytes) (hzs:z.cells.size=size) {v:Value} {n:Nat} {xs:List Value} (hv:∃a,v= .slice a n n) (hX:Sl w v size n xs) {y:Value} {m:Nat} {news:List Value} (hS:Sl w y size m news)
  (hm:0<m) (h63:n+m<=maxLen) (hbytes:(n+m)*bytes<=140737488355328):
  ∃v' w',(Builtin.append_ #[t,t] ty #[v,y]).run P w= .ok v' w'/\w'.ownsRow w.heap.size e size v' (n+m) (xs++news)/\Below w.heap.size w w':=by
 subst hsize
 subst hby
 obtain⟨a,rfl⟩:=hv
 obtain⟨b,c,hy,hmc,hb⟩:=hS.shape
 have hb':=hb hm
 have hyy:y= .slice (some ⟨sb y,so y,none⟩) m c:=by rw[<-hb'];exact hy
 have hnews:∀j u,news[j]?=some u->w.cell? ((⟨sb y,so y,none⟩:Addr).add j)=some u:=fun j u hu=>by rw[HQ];exact hS.cell j u hu
 have hlen:(xs++news).length=(n+m)*i.size:=by rw[ec,hX.len,hS.len,lz]
 have hsmall:n+m<=9223372036854775807:=by simp only[maxLen]at h63;omega
 have grown:∀(old:Nat),old<n+m->
   (w.drew.alloc (.cells (xs.toArray++news.toArray++Builtin.zeroCells z.cells (grownCap w (n+m) old e-(n+m))) e)).ownsRow w.heap.size e i.size
    (.slice (some ⟨w.heap.size,0,none⟩) (n+m) (grownCap w (n+m) old e)) (n+m) (xs++news)/\
   Below w.heap.size w (w.drew.alloc (.cells (xs.toArray++news.toArray++Builtin.zeroCells z.cells (grownCap w (n+m) old e-(n+m))) e)):=by
  intro old ho
  have hge:=grownCap_ge w (n+m) old e
  have hcm:grownCap w (n+m) old e<=maxLen:=grownCap_le_maxLen w (n+m) old e h63
  refine⟨⟨hlen,.inr ⟨w.heap.size,_,_,rfl,fh _,heap_alloc_new w.drew _,hge,hcm,?_,?_⟩⟩,⟨rfl,rfl,rfl,aJ,fun k hk=>heap_alloc_old w.drew _ hk⟩⟩
  .simp only[Array.size_append,vb,size_zeroCells,hzs,hX.len,hS.len,<-lz]
   congr 1
   omega
  simp only[Array.toList_append,dG]
  rw[<-dG,<-hlen]
  exact ve
 rw[hyy]
 cases a with
 |none=>
  have hn:n=0:=by
   rcases Rs n with h|h
   .exact h
   obtain⟨a',c',e1,_,h2⟩:=hX.shape
   injection e1 with e1
   rw[<-e1]at h2;cases h2 h
  subst hn
  have hx:xs=[]:=zC (by simpa using hX.len)
  subst hx
  have hr:=run_append_nil (P:=P) w t ty e i z ht hi hz ⟨sb y,so y,none⟩ m c news hS.len hnews J J aaY
  have hgr:=grown 0 J
  simp only[gO,eN,Array.empty_append]at hgr⊢
  exact⟨_,_,hr,hgr.1,hgr.2⟩
 |some a=>
  have holds:∀j u,xs[j]?=some u->w.cell? (a.add j)=some u:=fun j u hu=>by
   have hj:j<n*i.size:=by have:=(nX.1 hu).1;rw[hX.len]at this;exact this
   have hn:0<n:=by
    rcases Rs n with h|h
    .subst h;simp at hj
    exact h
   obtain⟨a',c',e1,_,h2⟩:=hX.shape
   injection e1 with e1
   have h3:=h2 hn
   rw[<-e1]at h3
   have h4:a=⟨sb (.slice (some a) n n),so (.slice (some a) n n),none⟩:=by injection h3
   rw[h4,HQ];exact hX.cell j u hu
  have hr:=run_append_grow (P:=P) w t ty e i z ht hi hz a n n xs hX.len holds ⟨sb y,so y,none⟩ m c news hS.len hnews J J (growslice_fits J hbytes)
  have hgr:=grown n J
  exact⟨_,_,hr,hgr.1,hgr.2⟩
theorem aD1{t e:TypeId}{i:Nat}{ie:TypeInfo}{z:Value}{size bytes:Nat}{v u:Value}{m m' q:Nat}{xs news:List Value}(hd:Nat.blt d n=true)(hH:Hp w0 w L)(hL:L[i]?=some (.row v e size m xs))(hq:q<=m)(hS:Sl w u size m' news)
  (hx:ev σ x=tG v q) (hy:ev σ y=u) (ht:P.underlying t=some (.slice e)) (hi:P.info? e=some ie) (hz:ie.zero=some z)
  (hsize:ie.size=size) (hby:ie.bytes=bytes) (hzs:z.cells.size=size) (hm:0<m')
  (hbytes:(q+m')*bytes<=140737488355328) (h63:q+m'<=maxLen)
  (hk:∀v' w',Hp w0 w' (L.set i (.row v' e size (q+m') (xs.take (q*size)++news)))->RL P n ops k rest (lZ σ d v') w'):
  RL P n ops k (⟨some d,.call {callee:= .builtin .append,args:=#[x,y],argTypes:=#[t,t]},ty,pos,bO,none⟩::rest) σ w:=by
 have hX:=hH.sl hL
 obtain⟨v',w',hr,h2,h3⟩:=M8 (P:=P) (base:=0) (ty:=ty) ht hi hz hsize hby hzs (M7 hX) (hX.tG hq) hS hm h63 hbytes
 exact pu hd (s0 hx hy hr) (hk v' w' ((hH.DD h3 h2).swap (nX.1 hL).1))
variable{l:List Oper}{fuel i:Nat}{listed:Array Bool}
theorem SI{t e:TypeId}{j:Nat}{ie:TypeInfo}{z:Value}{size bytes:Nat}{v u:Value}{m m' q:Nat}{xs news:List Value}(hi:l[i]?=some ⟨some d,.call {callee:= .builtin .append,args:=#[x,y],argTypes:=#[t,t]},ty,pos,bO,g⟩)
  (hg:∀a,Is n σ a->Region.wanted ⟨some d,.call {callee:= .builtin .append,args:=#[x,y],argTypes:=#[t,t]},ty,pos,bO,g⟩ (yielded l.toArray a.tmps)=true) (hd:Nat.blt d n=true) (hH:Hp w0 w Xk) (hL:Xk[j]?=some (.row v e size m xs)) (hq:q<=m)
  (hs:∀v',L'.Sublist (Xk.set j (.row v' e size (q+m') (xs.take (q*size)++news)))) (hS:Sl w u size m' news)
  (hx:ev σ x=tG v q) (hy:ev σ y=u) (ht:P.underlying t=some (.slice e)) (hie:P.info? e=some ie) (hz:ie.zero=some z)
  (hsize:ie.size=size) (hby:ie.bytes=bytes) (hzs:z.cells.size=size) (hm:0<m')
  (hbytes:(q+m')*bytes<=140737488355328) (h63:q+m'<=maxLen)
  (hk:∀v' w',Hp w0 w' (Xk.set j (.row v' e size (q+m') (xs.take (q*size)++news)))->AN P n l (fun w=>Hp w0 w L') k fuel (listed.setIfInBounds i true) (lZ σ d v') w'):AO P n l (fun w=>Hp w0 w L') k fuel listed σ w i:=by
 have hX:=hH.sl hL
 obtain⟨v',w',hr,h2,h3⟩:=M8 (P:=P) (base:=0) (ty:=ty) ht hie hz hsize hby hzs (M7 hX) (hX.tG hq) hS hm h63 hbytes
 have hH':=(hH.DD h3 h2).swap (i:=j) (nX.1 hL).1
 exact Cs hi hg hd (s0 hx hy hr) (hH'.sub (hs v')) (hk v' w' hH')
end
section
variable{P:Program}{n:Nat}{ops:Array Oper}{k:K}{rest l:List Oper}{σ:Env}{w0 w:World}{L:List bu}{op:Op}{ty t e et:TypeId}{pos:String}{bO:Array Edge}{d:Nat}{x y:Operand}{g:Option (Nat×Bool)}{v u:Value}{sz m i o:Nat}{xs:List Value}{dst:Option Tmp}
theorem GD(hH:Hp w0 w L)(hi:L[i]?=some (.row v e sz m xs))(hm:0<m)(hx:ev σ x= .pointer (some ⟨sb v,so v+o,none⟩))(hy:ev σ y=u)(hv:u.cells=#[u])(h1:u.oneCell'=true)(hs:(P.info? t).map (·.size)=some 1)(ho:o+1<=m*sz):
  ∃w',(execOp (ev σ) ⟨dst,.store t x y,ty,pos,bO,g⟩).run P w= .ok .skip w'/\Hp w0 w' (L.set i (.row v e sz m (qM xs o [u]))):=by
 obtain⟨gb,cap,rfl,hnc,cur,hg,hc,ht,hk⟩:=hH.KX hi hm
 have hcm:m*sz<=cap*sz:=r6 _ hnc
 have hx':ev σ x= .pointer (some ⟨gb,o,none⟩):=by rw[hx];simp only[sb,so,gO]
 have hr:=bM (P:=P) (dst:=dst) (ty:=ty) (pos:=pos) (bO:=bO) (g:=g) hs hx' hy hv h1 hg J
 have e1:(cur.setIfInBounds o u).toList=cur.toList.take o++[u]++cur.toList.drop (o+1):=by
  simp[Xw,show o<cur.size by omega]
 have h2:=hk (cur.setIfInBounds o u) aJ
 rw[e1,show cur.toList.take o++[u]++cur.toList.drop (o+1)=cur.toList.take o++[u]++cur.toList.drop (o+[u].length)from O,Gy (by simpa using ho) R8,ht]at h2
 exact⟨_,hr,h2⟩
theorem Ah(hH:Hp w0 w L)(hi:L[i]?=some (.row v e sz m xs))(hm:0<m)(hx:ev σ x= .pointer (some ⟨sb v,so v+o,none⟩))(hy:ev σ y=u)(hv:u.cells=#[u])(h1:u.oneCell'=true)(hs:(P.info? t).map (·.size)=some 1)(ho:o+1<=m*sz)
  (hk:∀w',Hp w0 w' (L.set i (.row v e sz m (qM xs o [u])))->RL P n ops k rest σ w'):RL P n ops k (⟨none,.store t x y,ty,pos,bO,none⟩::rest) σ w:=by
 obtain⟨w',hr,h2⟩:=GD (dst:=none) (ty:=ty) (pos:=pos) (bO:=bO) (g:=none) hH hi hm hx hy hv h1 hs ho
 exact Ie hr (hk w' h2)
variable{fuel j:Nat}{listed:Array Bool}{L':List bu}
theorem ar9(hj:l[j]?=some ⟨none,.store t x y,ty,pos,bO,g⟩)(hg:∀a,Is n σ a->Region.wanted ⟨none,.store t x y,ty,pos,bO,g⟩ (yielded l.toArray a.tmps)=true)(hH:Hp w0 w L)(hi:L[i]?=some (.row v e sz m xs))(hsub:∀ys,L'.Sublist (L.set i (.row v e sz m ys)))(hm:0<m)
  (hx:ev σ x= .pointer (some ⟨sb v,so v+o,none⟩)) (hy:ev σ y=u) (hv:u.cells=#[u]) (h1:u.oneCell'=true) (hs:(P.info? t).map (·.size)=some 1) (ho:o+1<=m*sz)
  (hk:∀w',Hp w0 w' (L.set i (.row v e sz m (qM xs o [u])))->AN P n l (fun w=>Hp w0 w L') k fuel (listed.setIfInBounds j true) σ w'):AO P n l (fun w=>Hp w0 w L') k fuel listed σ w j:=by
 obtain⟨w',hr,h2⟩:=GD (dst:=none) (ty:=ty) (pos:=pos) (bO:=bO) (g:=g) hH hi hm hx hy hv h1 hs ho
 exact Ii hj hg hr (h2.sub (hsub _)) (hk w' h2)
end
section
variable{P:Program}{σ:Env}{w:World}{ty:TypeId}{pos:String}{bO:Array Edge}{dst:Option Tmp}{g:Option (Nat×Bool)}{x:Operand}
end
theorem Sl.frE{α:Type}{cl:α->List Value}{sz:Nat}{w:World}{v:Value}{l:List α}(hsz:∀a,(cl a).length=sz)(h:Sl w v sz l.length (l.flatMap cl))(o:Nat)(ho:o<=l.length):Sl w (o8 v sz o) sz (l.drop o).length ((l.drop o).flatMap cl):=by
 have:=h.fr o ho
 rw[adR hsz _ _ ho]at this
 rw[yE];exact this
section
variable{w0 w:World}{L:List bu}
theorem SJ{B:Nat}{a:World}(h:Below B a w){b:Nat}(hb:B<=b)(o:Obj):Below B a {w with heap:=w.heap.setIfInBounds b o}:=
 h.trans ⟨rfl,rfl,rfl,aJ,fun k hk=>by
  show(w.heap.setIfInBounds b o)[k]?=_
  rw[Ep,aT J]⟩
theorem Hp.setObj{i b:Nat}{o:Obj}(h:Hp w0 w L)(hi:L[i]?=some (.blk b o))(o':Obj):Hp w0 {w with heap:=w.heap.setIfInBounds b o'} (L.set i (.blk b o')):=by
 have hx:=h.ok _ (lR hi)
 have hil:=(nX.1 hi).1
 have hb:=(B4.1 hx.2).1
 refine⟨SJ h.below hx.1 o',fun y hy=> ?_,Cq hi O h.LZ⟩
 obtain⟨j,hj,Fk⟩:=vc.1 hy
 rw[zG]at Fk
 split at Fk
 .subst Fk
  refine⟨hx.1,?_⟩
  show(w.heap.setIfInBounds b o')[b]?=_
  rw[Ep,aX O,aX hb]
 rename_i hne
 have hjL:j<L.length:=by simpa using hj
 have hyL:y∈L:=Fk▸r8 hjL
 refine bu.DC (h.ok y hyL) fun bb hf=> ?_
 have J4:b≠bb:=fun J4=>by
  subst J4
  have hp:=Rh.1 h.LZ
  have hLi:L[i]= .blk b o:=(nX.1 hi).2
  rcases XO hne with hlt|hgt
  .rcases hp i j hil hjL hlt with h0|h0
   .rw[hLi]at h0;cases h0
   rw[hLi,Fk,hf]at h0;exact h0 O
  rcases hp j i hjL hil hgt with h0|h0
  .rw[Fk,hf]at h0;cases h0
  rw[hLi,Fk,hf]at h0;exact h0 O
 show(w.heap.setIfInBounds b o')[bb]?=_
 rw[Ep,aT J4]
end
structure Vj(es:Array MapEntry)(clock:Nat)(kv:List (Tx×El)):Prop where
 at_:es.toList.map (fun e=>(e.key,e.val))=kv.map fun p=>(S p.1,Value.agg (iM p.2))
 born:(es.toList.map (·.born)).Nodup
 old:∀x∈es.toList,x.born<clock
 asa:(kv.map Prod.fst).Nodup
theorem aw3{a b:Tx}(h:S a=S b):a=b:=by injection h
section
variable{es:Array MapEntry}{clock:Nat}{kv:List (Tx×El)}
theorem Vj.get(h:Vj es clock kv){j:Nat}{e:MapEntry}(he:es.toList[j]?=some e):∃p,kv[j]?=some p/\e.key=S p.1/\e.val= .agg (iM p.2):=by
 have:=aK (·[j]?) h.at_
 simp only[qu,he,qV]at this
 cases hk:kv[j]? with
 |none=>rw[hk]at this;cases this
 |some p=>rw[hk]at this;injection this with q;injection q with q1 q2;exact⟨p,rfl,q1,q2⟩
theorem Vj.size(h:Vj es clock kv):es.size=kv.length:=by
 have:=aK List.length h.at_
 simpa using this
theorem Vj.keys(h:Vj es clock kv):∀x∈es.toList,MapKept.IsKey .string x.key:=fun x hx=>by
 obtain⟨j,hj⟩:=XG.1 hx
 obtain⟨p,_,hk,_⟩:=h.get hj
 rw[hk];trivial
theorem ahT{f:Tx}{e:El}(h:(kv.map Prod.fst).Nodup)(hm:(f,e)∈kv):JH kv f=(e,true):=by grind[JH,List.find?_eq_none,List.mem_of_find?_eq_some,List.getElem_of_mem,Nat.lt_trichotomy,List.pairwise_iff_getElem]
theorem amM{f:Tx}(h:∀p∈kv,p.1≠f):JH kv f=(dg,false):=by grind[JH]
theorem Vj.find(h:Vj es clock kv)(f:Tx):(Instr.findNow .string (S f) es.toList 0=some none/\JH kv f=(dg,false)/\∀p∈kv,p.1≠f)\/
  ∃j e el,Instr.findNow .string (S f) es.toList 0=some (some (j,.agg (iM el)))/\es.toList[j]?=some e/\e.key=S f/\kv[j]?=some (f,el)/\JH kv f=(el,true):=by
 rcases MapKept.findNow_spec (d:= .string) (k:=S f) trivial es.toList 0 h.keys with⟨h1,h2⟩|⟨j,e,h1,h2,h3⟩
 .have hno:∀p∈kv,p.1≠f:=fun p hp q=>by
   obtain⟨j,hj⟩:=XG.1 hp
   have hlt:j<es.toList.length:=by
    have:=(nX.1 hj).1
    have e:=h.size
    simp;omega
   obtain⟨p',hp',hk,_⟩:=h.get (eF hlt)
   rw[hj]at hp';injection hp' with hp';subst hp'
   exact h2 _ (r8 hlt) (by rw[hk,q])
  exact .inl ⟨h1,amM hno,hno⟩
 obtain⟨p,hp,hk,hv⟩:=h.get h2
 have hf:p.1=f:=aw3 (hk.symm.trans h3)
 have hp':kv[j]?=some (f,p.2):=by rw[hp,<-hf]
 exact .inr ⟨j,e,p.2,by rw[h1,hv,gO],h2,h3,hp',ahT h.asa (lR hp')⟩
end
section
variable{P:Program}{n:Nat}{ops:Array Oper}{k:K}{rest:List Oper}{σ:Env}{w0 w:World}{L:List bu}{ty:TypeId}{pos:String}{bO:Array Edge}{d:Nat}{dst:Option Tmp}{g:Option (Nat×Bool)}{x y z:Operand}{t kt et:TypeId}{es:Array MapEntry}{clock b:Nat}{kv:List (Tx×El)}{f:Tx}
theorem aD2{i bi since c0:Nat}{seen:Array Nat}(hd:Nat.blt d n=true)(hH:Hp w0 w L)(hi:L[i]?=some (.blk bi (.mapIter (some b) since seen c0)))(hb:w.heap[b]?=some (.map es clock))(hold:∀x∈es.toList,x.born<since)(hsc:since<=c0)(hx:ev σ x= .pointer (some ⟨bi,0,none⟩))
  (h1:(leftOf es seen).size=0->RL P n ops k rest (lZ σ d (.tuple #[B false])) w)
  (h2:∀e∈(leftOf es seen).toList,∀w',Hp w0 w' (L.set i (.blk bi (.mapIter (some b) since (seen.push e.born) clock)))->RL P n ops k rest (lZ σ d (.tuple #[B true,e.key,e.val])) w'):
  RL P n ops k (⟨some d,.next x false,ty,pos,bO,none⟩::rest) σ w:=by
 have hbi:=hH.blk hi
 have key:((leftOf es seen).size=0/\(Instr.next (.pointer (some ⟨bi,0,none⟩)) false ty).run P w= .ok (.tuple #[.bool false]) w)\/
   ∃e∈(leftOf es seen).toList,∃w1:World,(w1=w\/w1=w.drew)/\(Instr.next (.pointer (some ⟨bi,0,none⟩)) false ty).run P w= .ok (.tuple #[.bool true,e.key,e.val]) {w1 with heap:=w1.heap.setIfInBounds bi (.mapIter (some b) since (seen.push e.born) clock)}:=by
  simp only[Instr.next,getObj,uj,Sem.run,hbi,hb,Result.andThen,next_test_false seen es since c0 hold hsc,uB,xU]
  unfold leftOf
  have hmem:∀x∈(Array.filter (fun e=> !seen.contains e.born) es).toList,x.born<since:=fun x hx=>hold x (by simp at hx⊢;exact hx.1)
  generalize Array.filter (fun e=> !seen.contains e.born) es=Q at hmem⊢
  have e1:Q.filter (fun x=>decide (x.born<since))=Q:=Array.filter_eq_self.2 (fun x hx=>by simpa using hmem x (by simpa using hx))
  have e2:Q.filter (fun x=>decide (x.born>=since))=#[]:=by
   rw[Array.filter_eq_empty_iff]
   intro x hx
   have:=hmem x (by simpa using hx)
   simp
   omega
  simp only[e1,e2,Array.append_empty]
  by_cases h0:Q.size=0
  .left
   have:Q=#[]:=afr h0
   subst this
   refine⟨rfl,?_⟩
   simp[choose,Sem.run,Question.forced]
  right
  have hne:Q.isEmpty=false:=by simp[Array.isEmpty,h0]
  simp only[hne,uB,xU,Array.empty_append,Array.size_map]
  have hch:∃(j:Nat) (w1:World),j<Q.size/\(w1=w\/w1=w.drew)/\(choose (Question.mapNext Q.size)).run P w= .ok j w1:=by
   by_cases hf:Q.size<=1
   .exact⟨0,w,J,.inl O,by simp[choose,Sem.run,Question.forced,hf]⟩
   exact⟨_,w.drew,Nat.mod_lt _ J,.inr O,by
    simp only[choose,Sem.run,Question.forced,eD,hf,xU,Question.cut]
    rfl⟩
  obtain⟨j,w1,hj,SK,hrun⟩:=hch
  refine⟨Q[j],aJ,w1,SK,?_⟩
  have hb1:w1.heap[bi]?=some (.mapIter (some b) since seen c0):=by rcases SK with rfl|rfl<;>exact hbi
  simp only[hrun,Array.getElem?_map,afy hj,qV,uj,Result.andThen]
  simp[setObj,Sem.run,hb1]
 rcases key with⟨h0,hr⟩|⟨e,he,w1,hw,hr⟩
 .exact pu hd (by simp[execOp,hx,hr,Result.andThen]) (h1 h0)
 refine pu (w':={w1 with heap:=w1.heap.setIfInBounds bi (.mapIter (some b) since (seen.push e.born) clock)}) hd (by simp[execOp,hx,hr,Result.andThen]) (h2 e he _ (Hp.setObj (o:= .mapIter (some b) since seen c0) ?_ hi _))
 rcases hw with rfl|rfl
 .exact hH
 exact hH.drew
end
def aw4(v:jN):Tx×El:=(v.name,v.el)
def GSt(its:List jN)(g o:Bool)(kv:List (Tx×El)):Prop:=o=(g&&apw its)/\(o=true->kv=its.map aw4)
def aNn(a:As)(t:BA):List jN:=if t.tail<a.rows.length then apv a t else[]
section
variable{P:Program}{n:Nat}{ops:Array Oper}{k:K}{rest:List Oper}{σ:Env}{w0 w:World}{L:List bu}{ty:TypeId}{pos:String}{bO:Array Edge}{d:Nat}{dst:Option Tmp}{g:Option (Nat×Bool)}{x:Operand}{es:Array MapEntry}{clock b:Nat}{kv:List (Tx×El)}
def Seen(es:Array MapEntry)(kv:List (Tx×El))(seen:Array Nat)(ns:List Tx):Prop:=
 (∀t∈ns,t∈kv.map Prod.fst)/\(∀e∈es.toList,seen.contains e.born=true->∃t∈ns,e.key=S t)/\ns.length+(leftOf es seen).size<=es.size
end
section
variable{P:Program}{σ:Env}{w:World}{ty t u:TypeId}{pos:String}{bO:Array Edge}{dst:Option Tmp}{g:Option (Nat×Bool)}{x y:Operand}{a b:Tx}
end
def aD3(ns:List Tx)(kv:List (Tx×El))(k:Int):List jN:=(ns.take k.toNat).map fun n=>⟨n,(JH kv n).1⟩
section
variable{a:Gz}{r:BA}{k:Int}{m:List jN}
end
structure aJX(a:Gz):Prop where
 rl:∀x∈a.rows,x.l.length<=1000
 rn:∀x∈a.rows,∀v∈x.l,v.name.size<=1000
structure ahV(x:iO):Prop where
 c:x.code.length<=1000
 fa:x.a.fields.length<=1000
 fb:x.b.fields.length<=1000
 na:∀f∈x.a.fields,f.name.size<=1000
 nb:∀f∈x.b.fields,f.name.size<=1000
def xk(x:iO):Bool:=decide (200<x.code.length\/40<x.a.fields.length\/40<x.b.fields.length\/40<x.field.size)||(x.a.fields++x.b.fields).any fun f=>decide (40<f.name.size)
def O6(p:n7):Bool:=vP p.s||decide (80<p.aY.length)||p.aY.any xk
theorem amN{x:iO}(h:xk x=false):ahV x:=by grind[iO,xk,ahV]
theorem amO{p:n7}(h:O6 p=false):vP p.s=false/\p.aY.length<=80/\∀x∈p.aY,ahV x:=by grind[O6,amN]
theorem M9(l:List lD):∀u∈l.flatMap uv,u.oneCell'=true:=by grind[M0]
theorem qx{s:lM}{a:As}{l:List iO}{k:Int}(h0:0<=k)(h1:k<l.length)(h:amL s a (l.getD k.toNat dQ)=false)(hg:∀j:Int,0<=j->j<k->amL s a (l.getD j.toNat dQ)=true):Ze s a l=k:=
 vI h0 h1 (by rw[h];rfl) fun j a b=>by rw[hg j a b];rfl
theorem th{s:lM}{a:As}{l:List iO}{k:Int}(hk:¬k<l.length)(hg:∀j:Int,0<=j->j<k->amL s a (l.getD j.toNat dQ)=true):Ze s a l= -1:=
 Gq fun j a b=>by rw[hg j a J];rfl
theorem DT{x:iO}(h:200<x.code.length\/40<x.a.fields.length\/40<x.b.fields.length\/40<x.field.size):xk x=true:=by grind[xk]
theorem adZ{x:iO}{m:List lD}{k:Int}(hm:m=x.a.fields++x.b.fields)(h0:0<=k)(h1:k<m.length)(h:40<(m.getD k.toNat nO).name.size):xk x=true:=by grind[xk,Gw,nO]
theorem amP{x:iO}{m:List lD}{k:Int}(hm:m=x.a.fields++x.b.fields)(h:¬(200<x.code.length\/40<x.a.fields.length\/40<x.b.fields.length\/40<x.field.size))(h1:¬k<m.length)(h2:∀j:Int,0<=j->j<k->decide (40<(m.getD j.toNat nO).name.size)=false):xk x=false:=by
 rw[xk,<-hm,gZ h,SB (d:=nO) h1 h2];rfl
theorem Qi{p:n7}(h:vP p.s=true\/80<p.aY.length):O6 p=true:=by grind[O6]
theorem ad0{p:n7}{k:Int}(h0:0<=k)(h1:k<p.aY.length)(h:xk (p.aY.getD k.toNat dQ)=true):O6 p=true:=by grind[O6,Gw,dQ]
theorem ahW{p:n7}{k:Int}(h:vP p.s=false)(h2:¬80<p.aY.length)(h1:¬k<p.aY.length)(h3:∀j:Int,0<=j->j<k->xk (p.aY.getD j.toNat dQ)=false):O6 p=false:=by
 rw[O6,h,gZ h2,SB (d:=dQ) h1 h3];rfl
end
end Go.Proofs.YtlhjdflgjbkpmaaGreatDoor.E
namespace Go.Proofs.YtlhjdflgjbkpmaaGreatDoor.M
section
open Go
structure qD where
 up:Nat
 size:Nat
 next:Nat
 least:Nat
def FA:qD:=⟨0,0,0,0⟩
def Wk(f:Nat->Nat):Nat->List Nat->Nat->Prop
 |v,[],y=>v=y
 |v,z::l,y=>v=z/\Wk f (f z) l y
theorem Wk.app{f:Nat->Nat}{l m:List Nat}{v z y:Nat}:Wk f v (l++z::m) y↔Wk f v l z/\Wk f (f z) m y:=by
 induction l generalizing v with
 |nil=>exact Cg
 |cons a l ih=>simp only[gB,Wk,ih,and_assoc]
theorem Wk.congr{f g:Nat->Nat}{l:List Nat}{v y:Nat}(h:Wk f v l y)(he:∀x∈l,g x=f x):Wk g v l y:=by
 induction l generalizing v with
 |nil=>exact h
 |cons a l ih=>exact⟨h.1,by rw[he a aJ];exact ih h.2 fun x hx=>he x (fX _ hx)⟩
def Ring(f:Nat->Nat)(i:Nat)(t:List Nat):Prop:=Wk f (f i) t i/\(i::t).Nodup
theorem Ring.rot{f:Nat->Nat}{i j:Nat}{t:List Nat}(h:Ring f i t)(hj:j∈i::t):∃u,Ring f j u/\∀k,k∈j::u↔k∈i::t:=by
 rcases c8.1 hj with rfl|hj
 .exact⟨t,h,fun _=>Cg⟩
 obtain⟨l,m,rfl⟩:=XQ hj
 have h1:=Wk.app.1 h.1
 refine⟨m++i::l,⟨Wk.app.2 ⟨h1.2,h1.1⟩,?_⟩,fun k=>by simp only[c8,e8];constructor<;>(intro q;rcases q with q|q|q|q<;>simp[q])⟩
 have h2:=h.2
 have e:j::(m++i::l)=(j::m)++(i::l):=rfl
 have e2:i::(l++j::m)=(i::l)++(j::m):=rfl
 rw[e2]at h2
 rw[e]
 exact(ud.nodup_iff).1 h2
theorem Ring.join{f g:Nat->Nat}{a b:Nat}{la lb:List Nat}(ha:Ring f a la)(hb:Ring f b lb)(hd:∀x∈a::la,x∉b::lb)(ga:g a=f b)(gb:g b=f a)(ho:∀x,x≠a->x≠b->g x=f x):Ring g a (lb++b::la):=by
 have na:a∉la:=(om.1 ha.2).1
 have nb:b∉lb:=(om.1 hb.2).1
 have a1:a∉b::lb:=hd a aJ
 refine⟨Wk.app.2 ⟨?_,?_⟩,?_⟩
 .rw[ga]
  exact hb.1.congr fun x hx=>ho x (fun e=>a1 (by rw[<-e];exact fX _ hx)) fun e=>nb (by rw[<-e];exact hx)
 .rw[gb]
  exact ha.1.congr fun x hx=>ho x (fun e=>na (by rw[<-e];exact hx)) fun e=>hd x (fX _ hx) (by rw[e];simp)
 rw[om]
 constructor
 .intro h
  rcases e8.1 h with q|q
  .exact a1 (fX _ q)
  rcases c8.1 q with q|q
  .exact a1 (by rw[q];simp)
  exact na q
 rw[List.nodup_append]
 refine⟨(om.1 hb.2).2,om.2 ⟨fun q=>hd b (fX _ q) aJ,(om.1 ha.2).2⟩,fun x hx y hy e=> ?_⟩
 subst e
 rcases c8.1 hy with q|q
 .exact nb (by rw[<-q];exact hx)
 exact hd x (fX _ q) (fX _ hx)
theorem Ring.keep{f g:Nat->Nat}{i:Nat}{t:List Nat}(h:Ring f i t)(he:∀x∈i::t,g x=f x):Ring g i t:=
 ⟨by rw[he i aJ];exact h.1.congr fun x hx=>he x (fX _ hx),h.2⟩
def sL(nd:List qD)(i:Nat):Nat:=(nd.getD i FA).up
def kN(nd:List qD)(i:Nat):Nat:=(nd.getD i FA).size
def tH(nd:List qD)(i:Nat):Nat:=(nd.getD i FA).next
def qT(nd:List qD)(i:Nat):Nat:=(nd.getD i FA).least
def cm(cl:List Nat)(i:Nat):Nat:=cl.getD i 0
structure Fo(nd:List qD)(cl:List Nat):Prop where
 len:cl.length=nd.length
 up:∀i,i<nd.length->sL nd i<nd.length
 sz:∀i,i<nd.length->sL nd i≠i->kN nd i<kN nd (sL nd i)
 sn:∀i,i<nd.length->kN nd i<=nd.length
 si:∀i,i<nd.length->sL nd i=i->kN nd i=cl.count (cm cl i)
 uc:∀i,i<nd.length->cm cl (sL nd i)=cm cl i
 one:∀i j,i<nd.length->j<nd.length->sL nd i=i->sL nd j=j->cm cl i=cm cl j->i=j
 le:∀i,i<nd.length->sL nd i=i->qT nd i=cm cl i
 lc:∀i,i<nd.length->cm cl i<=i/\cm cl (cm cl i)=cm cl i
 ring:∀i,i<nd.length->∃t,Ring (tH nd) i t/\∀k,k∈i::t↔k<nd.length/\cm cl k=cm cl i
theorem Fo.nil:Fo [] []:=⟨rfl,fun i h=>mH,fun i h=>mH,fun i h=>mH,fun i h=>mH,fun i h=>mH,fun i j h=>mH,fun i h=>mH,fun i h=>mH,fun i h=>mH⟩
def rS(n:Nat):qD:=⟨n,1,n,n⟩
section
variable{nd:List qD}{cl:List Nat}{α:Type}{d x:α}{l:List α}{i:Nat}
theorem ahX(h:i<l.length):(l++[x]).getD i d=l.getD i d:=by grind
theorem ahY:(l++[x]).getD l.length d=x:=aJ
theorem Fo.add(h:Fo nd cl):Fo (nd++[rS nd.length]) (cl++[nd.length]):=by
 have hl:=h.len
 have gu:∀i,i<nd.length->(nd++[rS nd.length]).getD i FA=nd.getD i FA:=fun i hi=>ahX hi
 have gn:(nd++[rS nd.length]).getD nd.length FA=rS nd.length:=ahY
 have gc:∀i,i<nd.length->cm (cl++[nd.length]) i=cm cl i:=fun i hi=>ahX J
 have gcn:cm (cl++[nd.length]) nd.length=nd.length:=by unfold cm;rw[<-hl];exact ahY
 have cs:∀i,i<(nd++[rS nd.length]).length->i<nd.length\/i=nd.length:=fun i hi=>by rw[ec,eA]at hi;omega
 have ln:(nd++[rS nd.length]).length=nd.length+1:=aJ
 have clt:∀i,i<nd.length->cm cl i<nd.length:=fun i hi=>by have:=(h.lc i hi).1;omega
 have aD4:cl.count nd.length=0:=by
  rw[List.count_eq_zero];intro hm
  obtain⟨k,hk,e⟩:=uf hm
  have:=clt k J
  unfold cm at this
  rw[eT,eF hk,Ry,e]at this
  omega
 refine⟨by simp[hl],fun i hi=> ?_,fun i hi=> ?_,fun i hi=> ?_,fun i hi hu=> ?_,fun i hi=> ?_,fun i j hi hj hu hv hc=> ?_,fun i hi hu=> ?_,fun i hi=> ?_,fun i hi=> ?_⟩
 .rw[ln];unfold sL;rcases cs i hi with q|rfl
  .rw[gu i q];have:=h.up i q;unfold sL at this;omega
  rw[gn];show nd.length<_;omega
 .unfold sL kN;rcases cs i hi with q|rfl
  .have hu:=h.up i q
   unfold sL at hu
   rw[gu i q,gu _ hu];exact h.sz i q
  rw[gn];intro hh;exact absurd O hh
 .rw[ln];unfold kN;rcases cs i hi with q|rfl
  .rw[gu i q];have:=h.sn i q;unfold kN at this;omega
  rw[gn];show 1<=_;omega
 .unfold kN;unfold sL at hu;rcases cs i hi with q|rfl
  .rw[gu i q]at hu⊢;rw[gc i q,XY]
   have:=h.si i q hu;unfold kN at this
   rw[this,List.count_singleton]
   have:=clt i q
   rw[aT iY];omega
  rw[gn,gcn,XY,aD4,List.count_singleton,aX aJ];rfl
 .unfold sL;rcases cs i hi with q|rfl
  .have hu:=h.up i q
   have:=h.uc i q
   unfold sL at hu this
   rw[gu i q,gc i q,gc _ hu];exact this
  rw[gn];rfl
 .unfold sL at hu hv;rcases cs i hi with q|rfl<;>rcases cs j hj with r|rfl
  .rw[gu _ q]at hu;rw[gu _ r]at hv;rw[gc _ q,gc _ r]at hc;exact h.one i j q r hu hv hc
  .rw[gc _ q,gcn]at hc;have:=clt i q;omega
  .rw[gc _ r,gcn]at hc;have:=clt j r;omega
  rfl
 .unfold qT;unfold sL at hu;rcases cs i hi with q|rfl
  .rw[gu _ q]at hu⊢;rw[gc _ q];exact h.le i q hu
  rw[gn,gcn];rfl
 .rcases cs i hi with q|rfl
  .rw[gc _ q,gc _ (clt i q)];exact h.lc i q
  rw[gcn,gcn];exact⟨fh _,rfl⟩
 rcases cs i hi with q|rfl
 .obtain⟨t,ht,hm⟩:=h.ring i q
  refine⟨t,ht.keep fun x hx=> ?_,fun k=> ?_⟩
  .unfold tH;rw[gu x ((hm x).1 hx).1]
  rw[hm k,ln,gc i q]
  constructor
  .rintro⟨a,b⟩;exact⟨J,by rw[gc k a];exact b⟩
  rintro⟨a,b⟩
  rcases cs k (by rw[ln];exact a)with r|rfl
  .exact⟨r,by rw[<-gc k r];exact b⟩
  rw[gcn]at b;have:=clt i q;omega
 refine⟨[],⟨by show tH _ _=_;unfold tH;rw[gn];rfl,aJ⟩,fun k=> ?_⟩
 rw[gG,ln,gcn]
 constructor
 .rintro rfl;exact⟨J,gcn⟩
 rintro⟨a,b⟩
 rcases cs k (by rw[ln];exact a)with r|rfl
 .rw[gc k r]at b;have:=clt k r;omega
 rfl
theorem k9{j:Nat}:(l.set i x).getD j d=if j=i/\i<l.length then x else l.getD j d:=by grind
end
def pL(nd:List qD)(a b:Nat):List qD:=(nd.set b ⟨a,kN nd b,tH nd a,qT nd b⟩).set a ⟨sL nd a,kN nd a+kN nd b,tH nd b,min (qT nd a) (qT nd b)⟩
def IQ(x y c:Nat):Nat:=if c=x\/c=y then min x y else c
def iI(cl:List Nat)(x y:Nat):List Nat:=cl.map (IQ x y)
theorem kT{x y c:Nat}(h:c=x\/c=y):IQ x y c=min x y:=aX h
theorem ld{x y c:Nat}(h:¬(c=x\/c=y)):IQ x y c=c:=aT h
theorem x8(x y:Nat):min x y=x\/min x y=y:=J
theorem ad1{x y v:Nat}(h:¬(v=x\/v=y))(cl:List Nat):(iI cl x y).count v=cl.count v:=by
 induction cl with
 |nil=>rfl
 |cons c l ih=>
  show(IQ x y c::iI l x y).count v=_
  rw[E6,E6,ih]
  by_cases hc:c=x\/c=y
  .rw[kT hc,aT aa1,aT iY]
  rw[ld hc]
theorem Vk{x y:Nat}(h:x≠y)(cl:List Nat):(iI cl x y).count (min x y)=cl.count x+cl.count y:=by
 induction cl with
 |nil=>rfl
 |cons c l ih=>
  show(IQ x y c::iI l x y).count _=_
  rw[E6,E6,E6,ih]
  by_cases hc:c=x\/c=y
  .rw[kT hc,aX aJ]
   rcases hc with rfl|rfl
   .rw[aX aJ,aT iY];omega
   rw[aT iY,aX aJ];omega
  rw[ld hc,aT aa1,aT iY,aT iY]
  omega
theorem ad2{x y:Nat}(h:x≠y)(cl:List Nat):cl.count x+cl.count y<=cl.length:=by
 rw[<-Vk h]
 have:=List.count_le_length (a:=min x y) (l:=iI cl x y)
 rwa[show(iI cl x y).length=cl.length by simp[iI]]at this
section
variable{nd:List qD}{cl:List Nat}{a b:Nat}
theorem wc:(pL nd a b).length=nd.length:=by simp[pL]
theorem amR(hb:b<nd.length)(ha:a<nd.length)(hab:a≠b)(hu:sL nd a=a)(i:Nat):sL (pL nd a b) i=if i=b then a else sL nd i:=by grind[sL,pL,k9]
theorem amS(hb:b<nd.length)(ha:a<nd.length)(i:Nat):kN (pL nd a b) i=if i=a then kN nd a+kN nd b else kN nd i:=by grind[kN,pL,k9]
theorem amT(hb:b<nd.length)(ha:a<nd.length)(i:Nat):qT (pL nd a b) i=if i=a then min (qT nd a) (qT nd b)else qT nd i:=by grind[qT,pL,k9]
theorem amU(hb:b<nd.length)(ha:a<nd.length)(i:Nat):tH (pL nd a b) i=if i=a then tH nd b else if i=b then tH nd a else tH nd i:=by grind[tH,pL,k9]
theorem Ai{x y:Nat}{i:Nat}(hi:i<cl.length):cm (iI cl x y) i=IQ x y (cm cl i):=by grind[cm,iI]
theorem Fo.join(h:Fo nd cl)(ha:a<nd.length)(hb:b<nd.length)(hab:a≠b)(ua:sL nd a=a)(ub:sL nd b=b):Fo (pL nd a b) (iI cl (cm cl a) (cm cl b)):=by
 have hl:=h.len
 have hxy:cm cl a≠cm cl b:=fun e=>hab (h.one a b ha hb ua ub e)
 generalize hx:cm cl a=x at*
 generalize hy:cm cl b=y at*
 have gc:∀i,i<nd.length->cm (iI cl x y) i=IQ x y (cm cl i):=fun i hi=>Ai J
 have gu:=amR hb ha hab ua
 have gs:=amS hb ha (a:=a)
 have gl:=amT hb ha (a:=a)
 have gn:=amU hb ha (a:=a)
 have sa:=h.si a ha ua;have sb:=h.si b hb ub
 rw[hx]at sa;rw[hy]at sb
 have root:∀i,i<nd.length->sL (pL nd a b) i=i->i≠b/\sL nd i=i:=fun i hi q=>by
  rw[gu]at q
  by_cases e:i=b
  .rw[aX e]at q;exact absurd (q.trans e) hab
  rw[aT e]at q;exact⟨e,q⟩
 have isx:∀i,i<nd.length->sL nd i=i->i≠b->(cm cl i=x\/cm cl i=y)->i=a:=fun i hi q e hc=>by
  rcases hc with hc|hc
  .exact h.one i a hi ha q ua (hc.trans hx.symm)
  exact absurd (h.one i b hi hb q ub (hc.trans hy.symm)) e
 have clx:=h.lc a ha;have cly:=h.lc b hb
 rw[hx]at clx;rw[hy]at cly
 have pa:1<=kN nd a:=by
  rw[sa]
  have:x∈cl:=by
   rw[<-hx];unfold cm
   rw[eT,eF J,Ry];exact r8 J
  have:=List.count_pos_iff.2 this
  omega
 refine⟨by simp[iI,wc,hl],fun i hi=> ?_,fun i hi=> ?_,fun i hi=> ?_,fun i hi hu=> ?_,fun i hi=> ?_,fun i j hi hj hu hv hc=> ?_,fun i hi hu=> ?_,fun i hi=> ?_,fun i hi=> ?_⟩<;>rw[wc]at hi
 .rw[wc,gu];split
  .exact ha
  exact h.up i hi
 .rw[gu,gs i]
  by_cases e:i=b
  .rw[aX e,gs a,aX O,aT J,e];intro _;omega
  rw[aT e,gs (sL nd i)];intro q
  have e2:i≠a:=fun r=>q (by rw[r];exact ua)
  rw[aT e2]
  have:=h.sz i hi q
  split
  .rename_i r;rw[r]at this;omega
  exact this
 .rw[wc,gs i];split
  .have:=ad2 hxy cl;omega
  exact h.sn i hi
 .obtain⟨e,q⟩:=root i hi hu
  rw[gs i,gc i hi]
  by_cases e2:i=a
  .rw[aX e2,e2,hx,kT (.inl O),Vk hxy,sa,sb]
  rw[aT e2]
  have hc:¬(cm cl i=x\/cm cl i=y):=fun r=>e2 (isx i hi q e r)
  rw[ld hc,ad1 hc];exact h.si i hi q
 .rw[gu i];split
  .rename_i e;rw[gc a ha,gc i hi,e,hx,hy,kT (.inl O),kT (.inr O)]
  rw[gc _ (h.up i hi),gc i hi,h.uc i hi]
 .rw[wc]at hj
  obtain⟨e1,q1⟩:=root i hi hu
  obtain⟨e2,q2⟩:=root j hj hv
  rw[gc i hi,gc j hj]at hc
  by_cases c1:cm cl i=x\/cm cl i=y
  .rw[kT c1]at hc
   have c2:cm cl j=x\/cm cl j=y:=by
    refine Lk fun r=> ?_
    rw[ld r]at hc
    exact r (by rw[<-hc];exact x8 x y)
   rw[isx i hi q1 e1 c1,isx j hj q2 e2 c2]
  rw[ld c1]at hc
  have c2:¬(cm cl j=x\/cm cl j=y):=fun r=>by
   rw[kT r]at hc
   exact c1 (by rw[hc];exact x8 x y)
  rw[ld c2]at hc
  exact h.one i j hi hj q1 q2 hc
 .obtain⟨e,q⟩:=root i hi hu
  rw[gl i,gc i hi]
  by_cases e2:i=a
  .rw[aX e2,e2,hx,kT (.inl O),h.le a ha ua,h.le b hb ub,hx,hy]
  rw[aT e2]
  have hc:¬(cm cl i=x\/cm cl i=y):=fun r=>e2 (isx i hi q e r)
  rw[ld hc];exact h.le i hi q
 .have hi2:=h.lc i hi
  rw[gc i hi]
  by_cases c1:cm cl i=x\/cm cl i=y
  .rw[kT c1]
   refine⟨by rcases c1 with r|r<;>omega,?_⟩
   rw[gc _ J]
   refine kT ?_
   rcases x8 x y with r|r<;>rw[r]
   .exact .inl clx.2
   exact .inr cly.2
  rw[ld c1]
  refine⟨hi2.1,?_⟩
  rw[gc _ J,hi2.2,ld c1]
 by_cases c1:cm cl i=x\/cm cl i=y
 .obtain⟨la,ra,ma⟩:=h.ring a ha
  obtain⟨lb,rb,mb⟩:=h.ring b hb
  rw[hx]at ma;rw[hy]at mb
  have hj:Ring (tH (pL nd a b)) a (lb++b::la):=ra.join rb (fun k hk CH=>hxy (((ma k).1 hk).2.symm.trans ((mb k).1 CH).2)) (by rw[gn,aX O]) (by rw[gn,aT (Fe hab),aX O]) fun k k1 k2=>by rw[gn,aT k1,aT k2]
  have mm:∀k,k∈a::(lb++b::la)↔k<nd.length/\(cm cl k=x\/cm cl k=y):=fun k=>by
   have m1:=ma k;have m2:=mb k
   simp only[c8,e8]at m1 m2⊢
   constructor
   .rintro(q|q|q|q)
    .have:=m1.1 (.inl q);exact⟨this.1,.inl this.2⟩
    .have:=m2.1 (.inr q);exact⟨this.1,.inr this.2⟩
    .have:=m2.1 (.inl q);exact⟨this.1,.inr this.2⟩
    have:=m1.1 (.inr q);exact⟨this.1,.inl this.2⟩
   rintro⟨q,r|r⟩
   .rcases m1.2 ⟨q,r⟩with s|s
    .exact .inl s
    exact .inr (.inr (.inr s))
   rcases m2.2 ⟨q,r⟩with s|s
   .exact .inr (.inr (.inl s))
   exact .inr (.inl s)
  obtain⟨u,hu,mu⟩:=hj.rot ((mm i).2 ⟨hi,c1⟩)
  refine⟨u,hu,fun k=> ?_⟩
  rw[mu,mm,wc,gc i hi,kT c1]
  constructor
  .rintro⟨q,r⟩;exact⟨q,by rw[gc k q,kT r]⟩
  rintro⟨q,r⟩
  refine⟨q,Lk fun s=> ?_⟩
  rw[gc k q,ld s]at r
  exact s (by rw[r];exact x8 x y)
 obtain⟨t,ht,mt⟩:=h.ring i hi
 have out:∀k∈i::t,¬(cm cl k=x\/cm cl k=y):=fun k hk=>by rw[((mt k).1 hk).2];exact c1
 refine⟨t,ht.keep fun k hk=> ?_,fun k=> ?_⟩
 .have:=out k hk
  rw[gn,aT (fun e=>this (.inl (by rw[e];exact hx))),aT (fun e=>this (.inr (by rw[e];exact hy)))]
 rw[mt k,wc,gc i hi,ld c1]
 constructor
 .rintro⟨q,r⟩;exact⟨q,by rw[gc k q,r,ld c1]⟩
 rintro⟨q,r⟩
 refine⟨q,?_⟩
 rw[gc k q]at r
 by_cases c2:cm cl k=x\/cm cl k=y
 .rw[kT c2]at r;exact absurd (by rw[<-r];exact x8 x y) c1
 rw[ld c2]at r;exact r
end
inductive jS
 |add (n:Nat)
 |set (i:Nat) (was:BitVec 64)
def SL(W:List (BitVec 64)):jS->List (BitVec 64)
 | .add n=>W.take n
 | .set i was=>W.set i was
def Zg(W:List (BitVec 64))(us:List jS):List (BitVec 64):=us.foldr (fun u w=>SL w u) W
def jK(W:List (BitVec 64))(us:List jS)(t:Nat):List (BitVec 64):=Zg W (us.drop t)
def okR:Nat->List jS->Prop
 |_,[]=>True
 |L,.add n::r=>n<=L/\okR n r
 |L,.set i _::r=>i<L/\okR L r
def Na(L:Nat)(us:List jS):Prop:=okR L us.reverse
section
variable{W:List (BitVec 64)}{us:List jS}{u:jS}{t k:Nat}
theorem DU:jK W us us.length=W:=by simp[jK,Zg]
theorem FB(h:t<=us.length):jK W (us++[u]) t=jK (SL W u) us t:=by grind[jK,Zg]
theorem Nb(h:t<=us.length):(us++[u]).take t=us.take t:=by grind
theorem Nc(h:k<us.length):jK W us k=SL (jK W us (k+1)) us[k]:=by
 rw[jK,jK,Ri h];rfl
theorem tJ:Na W.length (us++[u])↔(match u with| .add n=>n<=W.length/\Na n us| .set i _=>i<W.length/\Na W.length us):=by
 unfold Na;rw[List.reverse_append];cases u<;>exact Cg
theorem ahZ(h:Na W.length (us++[u])):Na (SL W u).length us:=by grind[Na,SL,tJ]
end
def IS(W:List (BitVec 64))(us:List jS)(i:Nat)(b:BitVec 64):List jS:=if W.getD i 0=b then us else us++[.set i (W.getD i 0)]
theorem Nf{W:List (BitVec 64)}{i:Nat}{b:BitVec 64}(h:W.getD i 0=b):W.set i b=W:=by
 apply X5 aJ
 intro j h1 h2
 rw[zG]
 split
 .rename_i e;subst e
  rw[<-h,eT,eF h2];rfl
 rfl
theorem ah0{W:List (BitVec 64)}{us:List jS}{i t:Nat}{b:BitVec 64}(hi:i<W.length)(h:t<=us.length):jK (W.set i b) (IS W us i b) t=jK W us t/\(IS W us i b).take t=us.take t/\t<=(IS W us i b).length:=by
 unfold IS
 split
 .rename_i e;rw[Nf e];exact⟨rfl,rfl,h⟩
 refine⟨?_,Nb h,by rw[ec];omega⟩
 rw[FB h]
 congr 1
 show(W.set i b).set i (W.getD i 0)=W
 rw[List.set_set];exact Nf O
theorem amV{W:List (BitVec 64)}{us:List jS}{i:Nat}{b:BitVec 64}(hi:i<W.length)(h:Na W.length us):Na (W.set i b).length (IS W us i b):=by grind[IS,tJ]
def F7(d:qD):List (BitVec 64):=[BitVec.ofNat 64 d.up,BitVec.ofNat 64 d.size,BitVec.ofNat 64 d.next,BitVec.ofNat 64 d.least]
def bE(nd:List qD):List (BitVec 64):=nd.flatMap F7
theorem iG(nd:List qD):(bE nd).length=4*nd.length:=by
 induction nd with
 |nil=>rfl
 |cons d l ih=>show(F7 d++bE l).length=_;rw[ec,ih,fw];show 4+_=_;omega
theorem qw(nd:List qD)(d:qD):bE (nd++[d])=bE nd++F7 d:=by simp[bE]
theorem Aj(nd:List qD){i k:Nat}(hi:i<nd.length)(hk:k<4):(bE nd).getD (4*i+k) 0=(F7 (nd.getD i FA)).getD k 0:=by
 induction nd generalizing i with
 |nil=>cases hi
 |cons d l ih=>
  show(F7 d++bE l).getD _ _=_
  cases i with
  |zero=>
   rw[eT,zD (by show _<4;omega),<-eT]
   simp
  |succ i=>
   rw[eT,E1 (by show 4<=_;omega),show 4*(i+1)+k-(F7 d).length=4*i+k by show 4*(i+1)+k-4=_;omega,<-eT,ih zR]
   rfl
theorem Ak(nd:List qD){i k:Nat}{b:BitVec 64}{d':qD}(hi:i<nd.length)(hk:k<4)(h:(F7 (nd.getD i FA)).set k b=F7 d'):(bE nd).set (4*i+k) b=bE (nd.set i d'):=by
 induction nd generalizing i with
 |nil=>cases hi
 |cons d l ih=>
  cases i with
  |zero=>
   show(F7 d++bE l).set _ _=F7 d'++bE l
   rw[List.set_append_left _ _ (by show _<4;omega),<-h]
   simp
  |succ i=>
   show(F7 d++bE l).set _ _=F7 d++bE (l.set i d')
   rw[List.set_append_right _ _ (by show 4<=_;omega),show 4*(i+1)+k-(F7 d).length=4*i+k by show 4*(i+1)+k-4=_;omega,ih zR x7]
def leads(cl:List Nat):Nat:=((List.range cl.length).filter fun i=>cm cl i==i).length
def D5(cl:List Nat):List Nat:=cl.foldl (fun m c=>if c∈m then m else m++[c]) []
theorem K3{l m:List Nat}(hn:l.Nodup)(h:∀x∈l,x∈m):l.length<=m.length:=by
 induction l generalizing m with
 |nil=>simp
 |cons a l ih=>
  have ha:=h a aJ
  have Qj:=om.1 hn
  have:=ih (m:=m.erase a) Qj.2 fun x hx=>by
   refine(List.mem_erase_of_ne (fun e=>Qj.1 (by rw[<-e];exact hx))).2 (h x (fX _ hx))
  rw[XA ha]at this
  have:=Rk ha
  rw[fw];omega
theorem Vl{l m:List Nat}(hn:l.Nodup)(hm:m.Nodup)(h:∀x,x∈l↔x∈m):l.length=m.length:=
 Nat.le_antisymm (K3 hn fun x=>(h x).1) (K3 hm fun x=>(h x).2)
theorem ah1(cl:List Nat):(D5 cl).Nodup/\∀x,x∈D5 cl↔x∈cl:=by
 have key:∀r:List Nat,(D5 r.reverse).Nodup/\∀x,x∈D5 r.reverse↔x∈r.reverse:=by
  intro r
  induction r with
  |nil=>exact⟨List.nodup_nil,fun x=>Cg⟩
  |cons c r ih=>
   rw[List.reverse_cons]
   have e:D5 (r.reverse++[c])=if c∈D5 r.reverse then D5 r.reverse else D5 r.reverse++[c]:=by unfold D5;rw[xN];rfl
   rw[e]
   split
   .rename_i h
    refine⟨ih.1,fun x=> ?_⟩
    rw[ih.2,e8,gG]
    constructor
    .exact fun q=> .inl q
    rintro(q|rfl)
    .exact q
    exact(ih.2 _).1 h
   rename_i h
   refine⟨?_,fun x=>by rw[e8,e8,ih.2]⟩
   rw[List.nodup_append]
   exact⟨ih.1,aJ,fun a ha b hb e=>h (by rw[<-gG.1 hb,<-e];exact ha)⟩
 have:=key cl.reverse
 rwa[List.reverse_reverse]at this
section
variable{nd:List qD}{cl:List Nat}{a b:Nat}
theorem ah2(h:Fo nd cl)(x:Nat):x∈cl↔x<cl.length/\cm cl x=x:=by
 constructor
 .intro hx
  obtain⟨k,hk,e⟩:=uf hx
  have e2:cm cl k=x:=by unfold cm;rw[eT,eF hk];exact e
  have:=h.lc k (by rw[<-h.len];exact hk)
  rw[e2]at this
  exact⟨J,this.2⟩
 rintro⟨h1,h2⟩
 rw[<-h2];unfold cm
 rw[eT,eF h1];exact r8 h1
theorem GF(cl:List Nat)(x:Nat):x∈((List.range cl.length).filter fun i=>cm cl i==i)↔x<cl.length/\cm cl x=x:=aJ
theorem FC(cl:List Nat):((List.range cl.length).filter fun i=>cm cl i==i).Nodup:=List.nodup_range.filter _
theorem Vm(h:Fo nd cl):(D5 cl).length=leads cl:=by grind[Fo,D5,leads,Vl,ah1,FC,GF,ah2]
theorem Qk(h:Fo nd cl):leads (cl++[nd.length])=leads cl+1:=by
 rw[<-Vm h.add,<-Vm h]
 have e:D5 (cl++[nd.length])=if nd.length∈D5 cl then D5 cl else D5 cl++[nd.length]:=by unfold D5;rw[xN];rfl
 rw[e,aT]
 .simp
 intro q
 have:=((ah2 h _).1 (((ah1 cl).2 _).1 q)).1
 have:=h.len;omega
theorem Zh(h:Fo nd cl)(ha:a<nd.length)(hb:b<nd.length)(hab:a≠b)(ua:sL nd a=a)(ub:sL nd b=b):leads (iI cl (cm cl a) (cm cl b))+1=leads cl:=by
 have hj:=h.join ha hb hab ua ub
 have hl:=h.len
 have hxy:cm cl a≠cm cl b:=fun e=>hab (h.one a b ha hb ua ub e)
 have clx:=h.lc a ha;have cly:=h.lc b hb
 generalize hx:cm cl a=x at*
 generalize hy:cm cl b=y at*
 have jl:(iI cl x y).length=cl.length:=by simp[iI]
 have e:((List.range cl.length).filter fun i=>cm cl i==i).length=(max x y::((List.range (iI cl x y).length).filter fun i=>cm (iI cl x y) i==i)).length:=by
  refine Vl (FC cl) (om.2 ⟨fun q=> ?_,FC _⟩) fun k=> ?_
  .have q2:=(GF _ _).1 q
   rw[Ai J]at q2
   have e:cm cl (max x y)=max x y:=by rcases(by omega:max x y=x\/max x y=y)with r|r<;>rw[r];exact clx.2;exact cly.2
   rw[e,kT J]at q2
   omega
  rw[GF,c8,GF,jl]
  constructor
  .rintro⟨k1,k2⟩
   by_cases c:k=max x y
   .exact .inl c
   refine .inr ⟨k1,?_⟩
   rw[Ai k1,k2]
   by_cases c1:k=x\/k=y
   .rw[kT c1];omega
   exact ld c1
  rintro(rfl|⟨k1,k2⟩)
  .rcases(by omega:max x y=x\/max x y=y)with r|r<;>rw[r]
   .exact⟨J,clx.2⟩
   exact⟨J,cly.2⟩
  refine⟨k1,?_⟩
  rw[Ai k1]at k2
  by_cases c1:cm cl k=x\/cm cl k=y
  .rw[kT c1]at k2
   rcases x8 x y with r|r<;>rw[r]at k2<;>rw[<-k2]
   .exact clx.2
   exact cly.2
  rwa[ld c1]at k2
 unfold leads
 rw[e,fw]
theorem IT{f:Nat->Nat}{i at_:Nat}{t out m:List Nat}(h:Ring f i t)(e:i::t=out++at_::m):(m=[]/\f at_=i)\/∃z m',m=z::m'/\f at_=z/\z≠i:=by
 have key:Wk f (f at_) m i:=by
  cases out with
  |nil=>simp only[eN,Lv]at e;rw[<-e.1,<-e.2];exact h.1
  |cons o out=>
   simp only[gB,Lv]at e
   have:=h.1;rw[e.2]at this
   exact(Wk.app.1 this).2
 cases m with
 |nil=>exact .inl ⟨rfl,key⟩
 |cons z m'=>
  refine .inr ⟨z,m',rfl,key.1,fun q=> ?_⟩
  have hn:=h.2
  cases out with
  |nil=>
   simp only[eN,Lv]at e
   rw[e.2,q]at hn;exact(om.1 hn).1 aJ
  |cons o out=>
   simp only[gB,Lv]at e
   rw[e.2,q]at hn;exact(om.1 hn).1 aJ
end
def GG(cl c2:List Nat):Prop:=(cl.length=c2.length+1/\leads cl=leads c2+1)\/(cl.length=c2.length/\leads cl+1=leads c2)
def Hs:List (BitVec 64)->List jS->List Nat->List (List Nat)->Prop
 |W,us,[],[cl]=>us=[]/\cl=[]/\W=[]
 |W,us,t::ts,cl::c2::cs=>(∃nd,W=bE nd/\Fo nd cl)/\t<=us.length/\GG cl c2/\Hs (jK W us t) (us.take t) ts (c2::cs)
 |_,_,_,_=>False
section
variable{W:List (BitVec 64)}{us:List jS}{t:Nat}{ts:List Nat}{cl c2:List Nat}{cs:List (List Nat)}{nd:List qD}
theorem Hs.ne(h:Hs W us ts []):False:=by cases ts<;>exact h
theorem Hs.now(h:Hs W us ts (cl::cs)):∃nd,W=bE nd/\Fo nd cl:=by
 cases ts with
 |nil=>
  cases cs with
  |nil=>obtain⟨_,rfl,rfl⟩:=h;exact⟨[],rfl,Fo.nil⟩
  |cons c cs=>exact h.elim
 |cons t ts=>
  cases cs with
  |nil=>exact h.elim
  |cons c cs=>exact h.1
theorem Hs.len(h:Hs W us ts cs):cs.length=ts.length+1:=by
 induction ts generalizing W us cs with
 |nil=>
  cases cs with
  |nil=>exact h.elim
  |cons c cs=>cases cs with
   |nil=>rfl
   |cons c2 cs=>exact h.elim
 |cons t ts ih=>
  cases cs with
  |nil=>exact h.elim
  |cons c cs=>cases cs with
   |nil=>exact h.elim
   |cons c2 cs=>have:=ih h.2.2.2;simp only[fw]at this⊢;omega
theorem Hs.start:Hs [] [] [] [[]]:=⟨rfl,rfl,rfl⟩
theorem Hs.more{W':List (BitVec 64)}{Vn:List jS}{nd':List qD}{jV:List Nat}(h:Hs W us ts (cl::cs))(hw:W'=bE nd')(hf:Fo nd' jV)(hs:GG jV cl)(h1:jK W' Vn us.length=W)(h2:Vn.take us.length=us)(h3:us.length<=Vn.length):Hs W' Vn (us.length::ts) (jV::cl::cs):=
 ⟨⟨nd',hw,hf⟩,h3,hs,by rw[h1,h2];exact h⟩
theorem Hs.back(h:Hs W us (t::ts) (cl::c2::cs)):Hs (jK W us t) (us.take t) ts (c2::cs):=h.2.2.2
theorem Hs.le(h:Hs W us (t::ts) (cl::c2::cs)):t<=us.length:=h.2.1
theorem Hs.cnt(h:Hs W us (t::ts) (cl::c2::cs)):GG cl c2:=h.2.2.1
end
theorem Vo{W:List (BitVec 64)}{us:List jS}(h:Na W.length us){t:Nat}(ht:t<=us.length):Na (jK W us t).length (us.take t):=by
 have key:∀d,∀t,t+d=us.length->Na (jK W us t).length (us.take t):=by
  intro d
  induction d with
  |zero=>intro t e;rw[show t=us.length by omega,DU,HM];exact h
  |succ d ih=>
   intro t e
   have h2:=ih (t+1) J
   have ht:t<us.length:=J
   rw[xM,eF ht]at h2
   rw[Nc ht]
   exact ahZ h2
 exact key (us.length-t) t J
def O7(us:List jS)(n:Nat):List jS:=us++[.add n]++[.add (n+1)]++[.add (n+2)]++[.add (n+3)]
theorem amW{W:List (BitVec 64)}{us:List jS}{a b c d:BitVec 64}:jK (W++[a]++[b]++[c]++[d]) (O7 us W.length) us.length=W/\(O7 us W.length).take us.length=us/\us.length<=(O7 us W.length).length:=by grind[O7,FB,DU,SL]
theorem amX{W:List (BitVec 64)}{us:List jS}{a b c d:BitVec 64}(h:Na W.length us):Na (W++[a]++[b]++[c]++[d]).length (O7 us W.length):=by
 unfold O7
 rw[tJ];refine⟨aJ,?_⟩
 have e1:(W++[a]++[b]++[c]).length=W.length+3:=aJ
 have e2:(W++[a]++[b]).length=W.length+2:=aJ
 have e3:(W++[a]).length=W.length+1:=aJ
 rw[<-e1,tJ];refine⟨aJ,?_⟩
 rw[<-e2,tJ];refine⟨aJ,?_⟩
 rw[<-e3,tJ];exact⟨aJ,h⟩
def fN(cl:List Nat)(i:Int):Int:=if 0<=i/\i<cl.length then(cm cl i.toNat:Int)else-1
def aD6(cs:List (List Nat))(cl:List Nat)(i j:Int):List (List Nat)×Bool:=
 if fN cl i<0\/fN cl j<0\/fN cl i=fN cl j then(cl::cs,false)else(iI cl (fN cl i).toNat (fN cl j).toNat::cl::cs,true)
theorem nc{cl:List Nat}{i:Int}(h:0<=i/\i<cl.length):fN cl i=(cm cl i.toNat:Int):=aX h
theorem IU{cl:List Nat}{i:Int}(h:¬(0<=i/\i<cl.length)):fN cl i= -1:=aT h
theorem SM{nd:List qD}{cl:List Nat}(h:Fo nd cl){i k:Nat}(hi:i<nd.length)(hc:cm cl i=cm cl k):sL nd i<nd.length/\cm cl (sL nd i)=cm cl k/\(sL nd i≠i->nd.length-kN nd (sL nd i)<nd.length-kN nd i):=by grind[qD,Fo,cm,sL,kN]
theorem Ql{nd:List qD}{cl:List Nat}(h:Fo nd cl){i j a b:Nat}(ha:a<nd.length)(hb:b<nd.length)(ua:sL nd a=a)(ub:sL nd b=b)(ca:cm cl a=cm cl i)(cb:cm cl b=cm cl j):a=b↔cm cl i=cm cl j:=by grind[qD,Fo,sL,cm]
def Al(cl:List Nat)(i:Nat):List Nat:=(List.range cl.length).filter fun k=>cm cl i==cm cl k
theorem Qn{cl:List Nat}{i k:Nat}:k∈Al cl i↔k<cl.length/\cm cl k=cm cl i:=by grind[Al]
theorem ad3{l m:List Int}(hl:l.Pairwise (· <·))(hm:m.Pairwise (· <·))(h:∀x,x∈l↔x∈m):l=m:=by
 induction l generalizing m with
 |nil=>cases m with
  |nil=>rfl
  |cons b m=>have:=(h b).2 aJ;cases this
 |cons a l ih=>
  cases m with
  |nil=>have:=(h a).1 aJ;cases this
  |cons b m=>
   have pa:=lS.1 hl;have pb:=lS.1 hm
   have hab:a=b:=by
    rcases c8.1 ((h a).1 aJ)with q|q
    .exact q
    rcases c8.1 ((h b).2 aJ)with r|r
    .exact r.symm
    have:=pb.1 a q;have:=pa.1 b r;omega
   subst hab
   congr 1
   refine ih pa.2 pb.2 fun x=> ?_
   have:=h x
   simp only[c8]at this
   constructor
   .intro q
    rcases this.1 (.inr q)with r|r
    .have:=pa.1 x q;omega
    exact r
   intro q
   rcases this.2 (.inr q)with r|r
   .have:=pb.1 x q;omega
   exact r
theorem SO{nd:List qD}{cl:List Nat}(h:Fo nd cl){i:Nat}(hi:i<nd.length){t:List Nat}(ht:Ring (tH nd) i t)(hm:∀k,k∈i::t↔k<nd.length/\cm cl k=cm cl i){zs:List Int}(hp:zs.Perm ((i::t).map Int.ofNat))(hs:zs.Pairwise (· <=·)):zs=(Al cl i).map Int.ofNat:=by
 have hn:((i::t).map Int.ofNat).Nodup:=by
  unfold List.Nodup
  rw[HL]
  exact ht.2.imp fun q e=>q (by exact Int.ofNat.inj e)
 refine ad3 ?_ ?_ fun x=> ?_
 .have hz:zs.Nodup:=hp.nodup_iff.2 hn
  have:=List.Pairwise.and hs hz
  exact this.imp fun q=>by omega
 .unfold Al
  rw[HL]
  exact(XE.filter _).imp fun q=>by simpa using q
 rw[hp.mem_iff,fZ,fZ]
 constructor
 .rintro⟨k,hk,rfl⟩;exact⟨k,Qn.2 (by rw[h.len];exact(hm k).1 hk),rfl⟩
 rintro⟨k,hk,rfl⟩;exact⟨k,(hm k).2 (by rw[<-h.len];exact Qn.1 hk),rfl⟩
structure mC(W:List (BitVec 64))(us:List jS)(W':List (BitVec 64))(Vn:List jS):Prop where
 le:us.length<=Vn.length
 und:∀t,t<=us.length->jK W' Vn t=jK W us t/\Vn.take t=us.take t
 ok:Na W.length us->Na W'.length Vn
section
variable{W W' W2:List (BitVec 64)}{us Vn us2:List jS}{i:Nat}{b:BitVec 64}
theorem mC.refl:mC W us W us:=by grind[mC]
theorem mC.trans(h:mC W us W' Vn)(h2:mC W' Vn W2 us2):mC W us W2 us2:=
 ⟨kL h.le h2.le,fun t ht=>by
  have a:=h.und t ht;have c:=h2.und t (kL ht h.le)
  exact⟨c.1.trans a.1,c.2.trans a.2⟩,fun q=>h2.ok (h.ok q)⟩
theorem mC.set(hi:i<W.length):mC W us (W.set i b) (IS W us i b):=by grind[mC,IS,ah0,amV]
theorem mC.add:mC W us (W++[b]) (us++[.add W.length]):=
 ⟨aJ,fun t ht=>⟨by rw[FB ht];show jK ((W++[b]).take W.length) us t=_;rw[ve],Nb ht⟩,fun h=>by rw[tJ];exact⟨aJ,h⟩⟩
theorem mC.back(h:mC W us W' Vn):jK W' Vn us.length=W/\Vn.take us.length=us:=by grind[mC,jK,DU]
end
def kK(nd:List qD)(i x:Nat):List qD:=nd.set i {nd.getD i FA with up:=x}
def nP(nd:List qD)(i x:Nat):List qD:=nd.set i {nd.getD i FA with size:=x}
def we(nd:List qD)(i x:Nat):List qD:=nd.set i {nd.getD i FA with next:=x}
def rT(nd:List qD)(i x:Nat):List qD:=nd.set i {nd.getD i FA with least:=x}
section
variable{nd:List qD}{cl:List Nat}{i x a b:Nat}
theorem aw5(h:i<nd.length):(bE nd).set (4*i+0) (BitVec.ofNat 64 x)=bE (kK nd i x):=Ak nd h J O
theorem aw6(h:i<nd.length):(bE nd).set (4*i+1) (BitVec.ofNat 64 x)=bE (nP nd i x):=Ak nd h J O
theorem aw7(h:i<nd.length):(bE nd).set (4*i+2) (BitVec.ofNat 64 x)=bE (we nd i x):=Ak nd h J O
theorem aw8(h:i<nd.length):(bE nd).set (4*i+3) (BitVec.ofNat 64 x)=bE (rT nd i x):=Ak nd h J O
theorem aw9(h:i<nd.length):(bE nd).getD (4*i+0) 0=BitVec.ofNat 64 (sL nd i):=Aj nd h J
theorem axa(h:i<nd.length):(bE nd).getD (4*i+1) 0=BitVec.ofNat 64 (kN nd i):=Aj nd h J
theorem apx(h:i<nd.length):(bE nd).getD (4*i+2) 0=BitVec.ofNat 64 (tH nd i):=Aj nd h J
theorem apy(h:i<nd.length):(bE nd).getD (4*i+3) 0=BitVec.ofNat 64 (qT nd i):=Aj nd h J
theorem Qo{n:Nat}(h:n<9223372036854775808):(BitVec.ofNat 64 n).toInt=(n:Int):=by grind[BitVec.toInt_eq_toNat_cond,BitVec.toNat_ofNat,Nat.mod_eq_of_lt]
theorem DV(n:Nat):BitVec.ofInt 64 (n:Int)=BitVec.ofNat 64 n:=aJ
theorem asc{l m:List qD}(hl:l.length=m.length)(h:∀i,i<l.length->l.getD i FA=m.getD i FA):l=m:=by grind[List.ext_getElem,List.getElem?_eq_getElem]
theorem ah3(ha:a<nd.length)(hb:b<nd.length)(hab:a≠b):we (we (rT (nP (kK nd b a) a (kN nd a+kN nd b)) a (min (qT nd a) (qT nd b))) a (tH nd b)) b (tH nd a)=pL nd a b:=by
 have hba:¬b=a:=fun e=>hab e.symm
 refine asc (by simp[we,rT,nP,kK,pL]) fun i hi=> ?_
 have hi':i<nd.length:=by simpa[we,rT,nP,kK]using hi
 unfold we rT nP kK pL
 simp only[k9,nY,ha,hb,and_true]
 by_cases h1:i=a
 .subst h1;simp[hab,sL]
 by_cases h2:i=b
 .subst h2;simp[h1,hba,kN,qT]
 simp[h1,h2]
theorem Zi(cl:List Nat)(x y:Nat):iI cl x y=iI cl y x:=by grind[iI,List.map_congr_left,IQ]
theorem Fo.szb(h:Fo nd cl)(hi:i<nd.length):sL nd i<nd.length/\kN nd i<=nd.length/\∃t,Ring (tH nd) i t/\tH nd i<nd.length:=by
 refine⟨h.up i hi,h.sn i hi,?_⟩
 obtain⟨t,ht,hm⟩:=h.ring i hi
 refine⟨t,ht,?_⟩
 have h1:=ht.1
 cases t with
 |nil=>have:tH nd i=i:=h1;omega
 |cons z t=>have:tH nd i=z:=h1.1;rw[this];exact((hm z).1 aJ).1
theorem Fo.amY(h:Fo nd cl):∀d i,i<nd.length->nd.length-kN nd i<=d->∃r,r<nd.length/\sL nd r=r/\cm cl r=cm cl i:=by
 intro d
 induction d with
 |zero=>
  intro i hi hd
  refine⟨i,hi,Lk fun q=> ?_,rfl⟩
  have:=h.sz i hi q;have:=h.sn _ (h.up i hi);omega
 |succ d ih=>
  intro i hi hd
  by_cases q:sL nd i=i
  .exact⟨i,hi,q,rfl⟩
  have h1:=h.sz i hi q;have h2:=h.sn _ (h.up i hi)
  obtain⟨r,r1,r2,r3⟩:=ih (sL nd i) (h.up i hi) J
  exact⟨r,r1,r2,r3.trans (h.uc i hi)⟩
open Classical in
noncomputable def o9(nd:List qD)(cl:List Nat)(i:Nat):Nat:=if h:∃r,r<nd.length/\sL nd r=r/\cm cl r=cm cl i then h.choose else 0
theorem pH(h:Fo nd cl)(hi:i<nd.length):o9 nd cl i<nd.length/\sL nd (o9 nd cl i)=o9 nd cl i/\cm cl (o9 nd cl i)=cm cl i:=by
 have he:=h.amY _ i hi (fh _)
 rw[o9,dif_pos he];exact he.choose_spec
theorem ah4(h:Fo nd cl)(hi:i<nd.length){r:Nat}(h1:r<nd.length)(h2:sL nd r=r)(h3:cm cl r=cm cl i):r=o9 nd cl i:=by
 obtain⟨a,b,c⟩:=pH h hi
 exact h.one _ _ h1 a h2 b (h3.trans c.symm)
theorem amZ(h:Fo nd cl){j:Int}(h0:0<=j)(h1:j<nd.length):(qT nd (o9 nd cl j.toNat):Int)=fN cl j:=by grind[Fo,qT,o9,fN,pH,nc]
theorem ad4(h:Fo nd cl){j:Int}(h0:¬(0<=j/\j<nd.length)):(-1:Int)=fN cl j:=by grind[Fo,fN,IU]
theorem SP(h:Fo nd cl)(hn:nd.length<=1000000){j:Nat}(hj:j<nd.length)(k:Int)(v:Nat)(hk:0<=k/\k<4)(hv:(bE nd).getD (4*j+k.toNat) 0=BitVec.ofNat 64 v)(hs:v<=nd.length):((bE nd).getD (4*(j:Int)+k).toNat 0).toInt=(v:Int):=by grind[Qo]
theorem am0(h:Fo nd cl)(hn:nd.length<=1000000){j:Nat}(hj:j<nd.length):((bE nd).getD (4*(j:Int)+0).toNat 0).toInt=(sL nd j:Int):=
 SP h hn hj 0 _ ⟨J,J⟩ (aw9 hj) (by have:=h.up j hj;omega)
theorem abE(h:Fo nd cl)(hn:nd.length<=1000000){j:Nat}(hj:j<nd.length):((bE nd).getD (4*(j:Int)+2).toNat 0).toInt=(tH nd j:Int):=
 SP h hn hj 2 _ ⟨J,J⟩ (apx hj) (by obtain⟨_,_,t,_,q⟩:=h.szb hj;omega)
theorem am1(h:Fo nd cl)(hn:nd.length<=1000000){j:Nat}(hj:j<nd.length)(hu:sL nd j=j):((bE nd).getD (4*(j:Int)+3).toNat 0).toInt=(qT nd j:Int):=
 SP h hn hj 3 _ ⟨J,J⟩ (apy hj) (by rw[h.le j hj hu];have:=(h.lc j hj).1;omega)
theorem ad5(h:Fo nd cl)(hn:nd.length<=1000000){j:Int}(h0:0<=j/\j<nd.length):((bE nd).getD (4*((o9 nd cl j.toNat:Nat):Int)+3).toNat 0).toInt=fN cl j:=by grind[pH,am1,amZ]
theorem Vp{n:Nat}{l:List Nat}(hd:l.Nodup)(h:∀k∈l,k<n):l.length<=n:=by
 have:=K3 hd (m:=List.range n) fun x hx=>qv.2 (h x hx)
 rwa[Rt]at this
theorem Am{t o m:List Nat}{i:Int}{a:Nat}(ht:Ring (tH nd) i.toNat t)(hmt:∀k,k∈i.toNat::t↔k<nd.length/\cm cl k=cm cl i.toNat)(he:i.toNat::t=o++a::m)(hne:tH nd a≠i.toNat):
 i.toNat::t=(o++[a])++tH nd a::m.tail/\tH nd a<nd.length/\(o++[a]).length+1<=(i.toNat::t).length/\m.tail.length<m.length:=by grind[IT,tH]
def bP(cl:List Nat)(i:Int):List Int:=if 0<=i/\i<cl.length then(Al cl i.toNat).map Int.ofNat else[]
theorem Qp(h:Fo nd cl){i:Int}(hi:¬(0<=i/\i<nd.length)):bP cl i=[]:=by grind[Fo,bP]
theorem Ng(h:Fo nd cl){i:Int}(hi:0<=i/\i<nd.length){t o m:List Nat}{a:Nat}(ht:Ring (tH nd) i.toNat t)(hmt:∀k,k∈i.toNat::t↔k<nd.length/\cm cl k=cm cl i.toNat)(he:i.toNat::t=o++a::m)(hx:tH nd a=i.toNat):
  (((o++[a]).map Int.ofNat).mergeSort fun x y=>decide (x<=y))=bP cl i:=by
 have hm:m=[]:=by
  rcases IT ht he with⟨q,_⟩|⟨z,m',_,q,q2⟩
  .exact q
  exact absurd (q.symm.trans hx) q2
 subst hm
 rw[bP,aX (by have:=h.len;omega)]
 refine SO h J ht hmt ?_ ?_
 .rw[he];exact List.mergeSort_perm _ _
 have:=List.pairwise_mergeSort (le:=fun x y:Int=>decide (x<=y)) (fun a b c h1 h2=>by simp at*;omega) (fun a b=>by simp;omega) ((o++[a]).map Int.ofNat)
 exact this.imp fun q=>by simpa using q
end
theorem Vq{nd:List qD}{i x j:Nat}:kN (kK nd i x) j=kN nd j:=by grind[kN,kK,k9]
theorem Vr{nd:List qD}{i x j:Nat}:tH (kK nd i x) j=tH nd j:=by grind[tH,kK,k9]
theorem Vs{nd:List qD}{i x j:Nat}:qT (kK nd i x) j=qT nd j:=by grind[qT,kK,k9]
theorem Vt{nd:List qD}{i x j:Nat}:tH (nP nd i x) j=tH nd j:=by grind[tH,nP,k9]
theorem Vv{nd:List qD}{i x j:Nat}:qT (nP nd i x) j=qT nd j:=by grind[qT,nP,k9]
theorem Vw{nd:List qD}{i x j:Nat}:tH (rT nd i x) j=tH nd j:=by grind[tH,rT,k9]
theorem SQ{nd:List qD}{j:Nat}{k:Int}{v:Nat}(hk:0<=k/\k<4)(hv:(bE nd).getD (4*j+k.toNat) 0=BitVec.ofNat 64 v)(hs:v<=1000000):((bE nd).getD (4*(j:Int)+k).toNat 0).toInt=(v:Int):=by grind[Qo]
theorem ah6{nd:List qD}{i x:Nat}(h:i<nd.length):(bE nd).set (4*(i:Int)+0).toNat (BitVec.ofInt 64 (x:Int))=bE (kK nd i x):=by
 rw[show(4*(i:Int)+0).toNat=4*i+0 by omega,DV];exact aw5 h
theorem ah7{nd:List qD}{i x:Nat}(h:i<nd.length):(bE nd).set (4*(i:Int)+1).toNat (BitVec.ofInt 64 (x:Int))=bE (nP nd i x):=by
 rw[show(4*(i:Int)+1).toNat=4*i+1 by omega,DV];exact aw6 h
theorem SS{nd:List qD}{i x:Nat}(h:i<nd.length):(bE nd).set (4*(i:Int)+2).toNat (BitVec.ofInt 64 (x:Int))=bE (we nd i x):=by
 rw[show(4*(i:Int)+2).toNat=4*i+2 by omega,DV];exact aw7 h
theorem ah8{nd:List qD}{i x:Nat}(h:i<nd.length):(bE nd).set (4*(i:Int)+3).toNat (BitVec.ofInt 64 (x:Int))=bE (rT nd i x):=by
 rw[show(4*(i:Int)+3).toNat=4*i+3 by omega,DV];exact aw8 h
end
end Go.Proofs.YtlhjdflgjbkpmaaGreatDoor.M
namespace Go.Proofs.YtlhjdflgjbkpmaaGreatDoor.E
section
open Go Go.RowKit Go.Proofs.YtlhjdflgjbkpmaaGreatDoor.M
def Vx(c:Option (Nat×Array Value))(v:Value)(e:TypeId)(sz n:Nat)(xs:List Value):bu:=
 match c with
 |none=> .row v e sz n xs
 |some (b,cur)=> .blk b (.cells cur e (0,0))
def cOk(c:Option (Nat×Array Value))(v:Value)(sz n:Nat)(xs:List Value):Prop:=
 match c with
 |none=>True
 |some (b,cur)=>v= .slice (some ⟨b,0,none⟩) n n/\xs.length=n*sz/\cur.toList.take (n*sz)=xs/\n<=maxLen
section
variable{w0 w:World}{L:List bu}{c:Option (Nat×Array Value)}{v:Value}{e:TypeId}{sz n m i:Nat}{xs:List Value}
theorem Hp.xl{x x':bu}(h:Hp w0 w L)(hi:L[i]?=some x)(hf:x'.sD=x.sD)(hok:x'.ok w0.heap.size w):Hp w0 w (L.set i x'):=
 ⟨h.below,fun y hy=>(List.mem_or_eq_of_mem_set hy).elim (h.ok y) fun q=>q▸hok,Cq hi hf h.LZ⟩
theorem Hp.slC(h:Hp w0 w L)(hi:L[i]?=some (Vx c v e sz n xs))(hk:cOk c v sz n xs):Sl w v sz n xs:=by
 cases c with
 |none=>exact h.sl hi
 |some bc=>
  obtain⟨b,cur⟩:=bc
  obtain⟨rfl,h2,h3,h4⟩:=hk
  refine⟨⟨_,n,rfl,fh _,fun _=>rfl⟩,h2,fun j u hu=> ?_,h4⟩
  simp only[sb,so,gO]
  rw[xS w _ _ cur e (0,0) (h.blk hi)]
  rw[<-h3,u9]at hu
  split at hu
  .simpa using hu
  .cases hu
theorem Hp.aD8(h:Hp w0 w L)(hi:L[i]?=some (Vx c v e sz n xs))(hk:cOk c v sz n xs)(hm:m<=n):∃c',cOk c' (tG v m) sz m (xs.take (m*sz))/\Hp w0 w (L.set i (Vx c' (tG v m) e sz m (xs.take (m*sz)))):=by
 have hle:m*sz<=n*sz:=r6 _ hm
 cases c with
 |none=>
  have hr:w.ownsRow w0.heap.size e sz v n xs:=h.get hi
  obtain⟨h1,h2⟩:=hr
  rcases h2 with⟨rfl,rfl⟩|⟨gb,cap,cur,rfl,hb,hg,hn,hc,hs,ht⟩
  .have:m=0:=J
   subst this
   refine⟨none,trivial,h.xl hi O ?_⟩
   exact⟨aJ,.inl ⟨rfl,rfl⟩⟩
  refine⟨some (gb,cur),⟨rfl,?_,?_,J⟩,h.xl hi O ⟨hb,hg⟩⟩
  .rw[dW,h1];omega
  rw[<-ht,B8];congr 1;omega
 |some bc=>
  obtain⟨b,cur⟩:=bc
  obtain⟨rfl,h2,h3,h4⟩:=hk
  refine⟨some (b,cur),⟨rfl,?_,?_,J⟩,h.xl hi O (h.get hi)⟩
  .rw[dW,h2];omega
  rw[<-h3,B8];congr 1;omega
variable{P:Program}{σ:Env}{ty t:TypeId}{pos:String}{bO:Array Edge}{dst:Option Tmp}{g:Option (Nat×Bool)}{x y:Operand}{u:Value}{o:Nat}
theorem am2(h:Hp w0 w L)(hi:L[i]?=some (Vx c v e sz n xs))(hk:cOk c v sz n xs)(hn:0<n)(hx:ev σ x= .pointer (some ⟨sb v,so v+o,none⟩))(hy:ev σ y=u)(hv:u.cells=#[u])(h1:u.oneCell'=true)(hs:(P.info? t).map (·.size)=some 1)(ho:o+1<=n*sz):
  ∃c' w',(execOp (ev σ) ⟨dst,.store t x y,ty,pos,bO,g⟩).run P w= .ok .skip w'/\cOk c' v sz n (qM xs o [u])/\Hp w0 w' (L.set i (Vx c' v e sz n (qM xs o [u]))):=by
 cases c with
 |none=>
  obtain⟨w',hr,h2⟩:=GD (dst:=dst) (ty:=ty) (pos:=pos) (bO:=bO) (g:=g) h hi hn hx hy hv h1 hs ho
  exact⟨none,w',hr,trivial,h2⟩
 |some bc=>
  obtain⟨b,cur⟩:=bc
  obtain⟨rfl,h2,h3,h4⟩:=hk
  have hl:n*sz<=cur.size:=by
   have:=aK List.length h3
   rw[dW,h2,E0]at this;omega
  have hx':ev σ x= .pointer (some ⟨b,o,none⟩):=by rw[hx];simp only[sb,so,gO]
  have hr:=bM (P:=P) (dst:=dst) (ty:=ty) (pos:=pos) (bO:=bO) (g:=g) hs hx' hy hv h1 (h.blk hi) J
  have e1:(cur.setIfInBounds o u).toList=cur.toList.take o++[u]++cur.toList.drop (o+1):=by
   simp[Xw,show o<cur.size by omega]
  refine⟨some (b,cur.setIfInBounds o u),_,hr,⟨rfl,?_,?_,h4⟩,h.set hi⟩
  .rw[qM];simp only[ec,dW,yE,eA,h2];omega
  rw[e1,show cur.toList.take o++[u]++cur.toList.drop (o+1)=cur.toList.take o++[u]++cur.toList.drop (o+[u].length)from O,Gy (by simpa using ho) R8,h3]
theorem Vy{ie:TypeInfo}{z:Value}{size bytes:Nat}{m':Nat}{news:List Value}{ats:TypeId}(h:Hp w0 w L)(hi:L[i]?=some (Vx c v e size n xs))(hk:cOk c v size n xs)(hS:Sl w u size m' news)
  (hx:ev σ x=v) (hy:ev σ y=u) (ht:P.underlying t=some (.slice e)) (hie:P.info? e=some ie) (hz:ie.zero=some z)
  (hsize:ie.size=size) (hby:ie.bytes=bytes) (hzs:z.cells.size=size) (hsz:0<size) (h1:∀u∈news,u.oneCell'=true) (hm:0<m')
  (hbytes:(n+m')*bytes<=140737488355328) (h63:n+m'<=maxLen):
  ∃v' w',(execOp (ev σ) ⟨dst,.call {callee:= .builtin .append,args:=#[x,y],argTypes:=#[t,t]},ty,pos,bO,g⟩).run P w= .ok (.value v') w'/\Hp w0 w' (L.set i (.row v' e size (n+m') (xs++news))):=by
 cases c with
 |none=>
  obtain⟨v',w',hr,h2,h3,h4⟩:=s7 (P:=P) (ty:=ty) ht hie hz hsize hby hzs hsz (h.get hi) hS h1 h63 hbytes h.size
  exact⟨v',w',s0 hx hy hr,h.yH hi h2 h3 h4⟩
 |some bc=>
  have hX:=h.slC hi hk
  have hsh:∃a,v= .slice a n n:=by
   obtain⟨b,cur⟩:=bc
   exact⟨_,hk.1⟩
  obtain⟨v',w',hr,h2,h3⟩:=M8 (P:=P) (base:=0) (ty:=ty) ht hie hz hsize hby hzs hsh hX hS hm h63 hbytes
  exact⟨v',w',s0 hx hy hr,(h.DD h3 h2).swap (nX.1 hi).1⟩
end
section
variable{P:Program}{σ:Env}{w:World}{t te ty u:TypeId}{pos:String}{bO:Array Edge}{dst:Option Tmp}{g:Option (Nat×Bool)}{x y:Operand}{a:Addr}
theorem FD(d:Nat)(ht:P.underlying t=some (.pointer te)):(Op.equalIn (d+1) t (.pointer (some a)) (.pointer none)).run P w= .ok false w:=by
 simp[Op.equalIn,kp ht]
theorem Zj(d:Nat)(ht:P.underlying t=some (.pointer te)):(Op.equalIn (d+1) t (.pointer none) (.pointer none)).run P w= .ok true w:=by
 simp[Op.equalIn,kp ht]
theorem kX(ht:P.underlying t=some (.pointer te))(hx:ev σ x= .pointer (some a))(hy:ev σ y= .pointer none):
  (execOp (ev σ) ⟨dst,.binOp .eql t x y u,ty,pos,bO,g⟩).run P w= .ok (.value (.bool false)) w:=by
 have h:(binOp .eql t (.pointer (some a)) (.pointer none)).run P w= .ok (.bool false) w:=by
  simp only[binOp];simp[Op.equal,Op.maxDepth,FD 9999 ht]
 have he:(eqGuard .eql t x y (.pointer (some a)) (.pointer none))=pure ():=rfl
 simp only[execOp,hx,hy,he];simp[h]
end
theorem Sl.atU{w:World}{v:Value}{W:List (BitVec 64)}(h:Sl w v 1 W.length (W.map U)){i:Int}(h0:0<=i)(h1:i<W.length):w.cell? ⟨sb v,so v+i.toNat*1,none⟩=some (U (W.getD i.toNat 0)):=by
 refine h.cell _ _ ?_
 rw[lX,qu,eF J,eT,eF J];rfl
def cE(c:Option (Nat×Array Value))(v:Value)(e:TypeId)(xs:List Value):bu:=Vx c v e 1 xs.length xs
def cO(c:Option (Nat×Array Value))(v:Value)(xs:List Value):Prop:=cOk c v 1 xs.length xs
section
variable{P:Program}{n:Nat}{k:K}{l:List Oper}{σ:Env}{w0 w:World}{L L':List bu}{ty t e:TypeId}{pos:String}{bO:Array Edge}{d:Nat}{x y:Operand}{g:Option (Nat×Bool)}{v u:Value}{c:Option (Nat×Array Value)}{xs:List Value}{i m fuel j:Nat}{listed:Array Bool}{W:List (BitVec 64)}{y0:Value}
theorem Hp.BB(h:Hp w0 w L)(hi:L[i]?=some (cE c v e xs))(hk:cO c v xs):Sl w v 1 xs.length xs:=h.slC hi hk
theorem GH{o:Nat}{b:BitVec 64}:(W.map U).set o (U b)=(W.set o b).map U:=List.map_set.symm
theorem Hp.ah9{b:Nat}{o:Obj}(h:Hp w0 w L)(hm:bu.blk b o∈L):w.heap[b]?=some o:=(h.ok _ hm).2
theorem Hp.px{b off:Nat}{cs:Array Value}{te:TypeId}{fr:Nat×Nat}(h:Hp w0 w L)(hm:bu.blk b (.cells cs te fr)∈L)(hc:cs[off]?=some v):w.cell? ⟨b,off,none⟩=some v:=by
 rw[xS w b off cs te fr (h.ah9 hm)];exact hc
theorem Hp.yR(h:Hp w0 w L)(hi:L[i]?=some (cE c v e (W.map U)))(hk:cO c v (W.map U)):Sl w v 1 W.length (W.map U):=by
 have:=h.BB hi hk
 rwa[gF]at this
theorem Hp.ase(h:Hp w0 w L)(hi:L[i]?=some (cE c v e xs))(hk:cO c v xs)(hm:m<=xs.length):∃c',cO c' (tG v m) (xs.take m)/\Hp w0 w (L.set i (cE c' (tG v m) e (xs.take m))):=by
 obtain⟨c',h1,h2⟩:=h.aD8 hi hk hm
 have e:(xs.take m).length=m:=by rw[dW];omega
 rw[lX]at h1 h2
 exact⟨c',by unfold cO;rw[e];exact h1,by unfold cE;rw[e];exact h2⟩
theorem CI{o:Nat}(ho:o<xs.length):qM xs o [u]=xs.set o u:=by grind[qM,List.set_eq_take_append_cons_drop]
theorem aia(hj:l[j]?=some ⟨none,.store t x y,ty,pos,bO,g⟩)(hg:∀a,Is n σ a->Region.wanted ⟨none,.store t x y,ty,pos,bO,g⟩ (yielded l.toArray a.tmps)=true)(hH:Hp w0 w L)(hi:L[i]?=some (cE c v e xs))(hk:cO c v xs)(hsub:∀c' ys,L'.Sublist (L.set i (cE c' v e ys))){o:Nat}(ho:o<xs.length)
  (hx:ev σ x= .pointer (some ⟨sb v,so v+o*1,none⟩)) (hy:ev σ y=u) (hv:u.cells=#[u]) (h1:u.oneCell'=true) (hs:(P.info? t).map (·.size)=some 1)
  (hn:∀c' w',cO c' v (xs.set o u)->Hp w0 w' (L.set i (cE c' v e (xs.set o u)))->AN P n l (fun w=>Hp w0 w L') k fuel (listed.setIfInBounds j true) σ w'):AO P n l (fun w=>Hp w0 w L') k fuel listed σ w j:=by
 obtain⟨c',w',hr,h2,h3⟩:=am2 (dst:=none) (ty:=ty) (pos:=pos) (bO:=bO) (g:=g) hH hi hk J (o:=o) (by rw[hx,lX]) hy hv h1 hs J
 rw[CI ho]at h2 h3
 have e1:(xs.set o u).length=xs.length:=nY
 refine Ii hj hg hr ((show Hp w0 w' (L.set i (cE c' v e (xs.set o u)))by unfold cE;rw[e1];exact h3).sub (hsub _ _)) (hn c' w' (by unfold cO;rw[e1];exact h2) (by unfold cE;rw[e1];exact h3))
theorem CJ{ie:TypeInfo}{z:Value}{bytes:Nat}(hi:l[j]?=some ⟨some d,.call {callee:= .builtin .append,args:=#[x,y],argTypes:=#[t,t]},ty,pos,bO,g⟩)
  (hg:∀a,Is n σ a->Region.wanted ⟨some d,.call {callee:= .builtin .append,args:=#[x,y],argTypes:=#[t,t]},ty,pos,bO,g⟩ (yielded l.toArray a.tmps)=true) (hd:Nat.blt d n=true) (hH:Hp w0 w L) (hL:L[i]?=some (cE c v e xs)) (hk:cO c v xs)
  (hs:∀v' ys,L'.Sublist (L.set i (cE none v' e ys))) (hS:Sl w u 1 1 [y0])
  (hx:ev σ x=v) (hy:ev σ y=u) (ht:P.underlying t=some (.slice e)) (hie:P.info? e=some ie) (hz:ie.zero=some z)
  (hsize:ie.size=1) (hby:ie.bytes=bytes) (hzs:z.cells.size=1) (h1:y0.oneCell'=true)
  (hbytes:(xs.length+1)*bytes<=140737488355328) (h63:xs.length+1<=maxLen)
  (hn:∀v' w',Hp w0 w' (L.set i (cE none v' e (xs++[y0])))->AN P n l (fun w=>Hp w0 w L') k fuel (listed.setIfInBounds j true) (lZ σ d v') w'):AO P n l (fun w=>Hp w0 w L') k fuel listed σ w j:=by
 obtain⟨v',w',hr,h2⟩:=Vy (P:=P) (ty:=ty) (dst:=some d) (pos:=pos) (bO:=bO) (g:=g) (ats:=t) hH hL hk hS hx hy ht hie hz hsize hby hzs J (fun u hu=>by rw[gG.1 hu];exact h1) J hbytes h63
 have h3:Hp w0 w' (L.set i (cE none v' e (xs++[y0]))):=by unfold cE;rw[ec,eA];exact h2
 exact Cs hi hg hd hr (h3.sub (hs _ _)) (hn v' w' h3)
end
theorem Qq{W:List (BitVec 64)}{b:BitVec 64}:W.map U++[U b]=(W++[b]).map U:=aJ
theorem u6{ul:List (Value×jS)}{x:Value}(u:jS):ul.map Prod.fst++[x]=(ul++[(x,u)]).map Prod.fst:=aJ
structure UT where
 fA:FuncId
 fS:FuncId
 tc:TypeId
 ti:TypeId
 tu:TypeId
 o:Nat
def pM(T:UT)(F:Nat)(L:List bu)(x:Value×jS):Prop:=
 match x.2 with
 | .add n=>∃b1 b2,x.1= .func (.func T.fA) #[] #[.pointer (some ⟨b1,0,none⟩),.pointer (some ⟨b2,0,none⟩)]/\bu.blk b1 (.cells #[.pointer (some ⟨F,T.o,none⟩)] T.tc (0,0))∈L/\bu.blk b2 (.cells #[I n] T.ti (0,0))∈L
 | .set i b=>∃b1 b2 b3,x.1= .func (.func T.fS) #[] #[.pointer (some ⟨b1,0,none⟩),.pointer (some ⟨b2,0,none⟩),.pointer (some ⟨b3,0,none⟩)]/\bu.blk b1 (.cells #[U b] T.tu (0,0))∈L/\bu.blk b2 (.cells #[.pointer (some ⟨F,T.o,none⟩)] T.tc (0,0))∈L/\bu.blk b3 (.cells #[I i] T.ti (0,0))∈L
theorem pM.mono{T:UT}{F:Nat}{L L':List bu}{x:Value×jS}(h:pM T F L x)(hs:∀e∈L,e∈L'):pM T F L' x:=by
 obtain⟨v,u⟩:=x
 cases u with
 |add n=>obtain⟨b1,b2,h1,h2,h3⟩:=h;exact⟨b1,b2,h1,hs _ h2,hs _ h3⟩
 |set i b=>obtain⟨b1,b2,b3,h1,h2,h3,h4⟩:=h;exact⟨b1,b2,b3,h1,hs _ h2,hs _ h3,hs _ h4⟩
theorem am3{ul:List (Value×jS)}{j k:Int}(h0:0<=j/\j<k)(h1:k<=ul.length):((ul.take k.toNat).map Prod.fst)[j.toNat*1]?=some ((ul.getD j.toNat (.tuple #[],.add 0)).1):=by grind
theorem aib{ul:List (Value×jS)}{k:Int}(h0:0<k)(h1:(k-1).toNat<ul.length):(ul.getD (k-1).toNat (.tuple #[],.add 0)).1=(ul[(k-1).toNat]).1:=by
 rw[eT,eF h1];rfl
theorem asf{W:List (BitVec 64)}{ul:List (Value×jS)}{k:Int}(h0:0<k)(h1:(k-1).toNat<ul.length):SL (jK W (ul.map Prod.snd) k.toNat) (ul[(k-1).toNat]).2=jK W (ul.map Prod.snd) (k-1).toNat:=by
 rw[Nc (W:=W) (us:=ul.map Prod.snd) (k:=(k-1).toNat) Fj,List.getElem_map,show(k-1).toNat+1=k.toNat by omega]
theorem asg{W:List (BitVec 64)}{ul:List (Value×jS)}{k:Int}(h:Na W.length (ul.map Prod.snd))(h1:(k-1).toNat<ul.length)(h0:0<k):match(ul[(k-1).toNat]).2 with| .add n=>n<=(jK W (ul.map Prod.snd) k.toNat).length| .set i _=>i<(jK W (ul.map Prod.snd) k.toNat).length:=by
 have h2:=Vo h (t:=k.toNat) (by rw[gF];omega)
 have e:(ul.map Prod.snd).take k.toNat=(ul.map Prod.snd).take (k-1).toNat++[(ul[(k-1).toNat]).2]:=by
  rw[show k.toNat=(k-1).toNat+1 by omega,xM,qu,eF h1];rfl
 rw[e,tJ]at h2
 generalize(ul[(k-1).toNat]).2=u at h2⊢
 cases u with
 |add n=>exact h2.1
 |set i b=>exact h2.1
section
variable{P:Program}{n:Nat}{k:K}{xs:List (Nat×K)}{r:K}{σ:Env}{w:World}
theorem Zk{c:Code}(h:CW P n c k xs r σ w):CW P n (.scope c) k xs r σ w:=fun a ha=>wp_scope_straight (zK (fun e a' w' hq=>by cases e<;>exact hq) (h a ha))
theorem Zl{l:Nat}(h:k σ w):CW P n (.label l) k xs r σ w:=fun a ha=>wp_label ⟨σ,ha,h⟩
end
theorem Hp.mK{w0 w:World}{A R B L:List bu}(h:Hp w0 w (A++(B++(R++L)))):Hp w0 w (A++(R++(B++L))):=by
 refine h.perm (u7 A ?_)
 rw[<-dG,<-dG]
 exact List.Perm.append_right L ud
def asi(n:Nat)(k:Int):Int:=if k=1 then 1 else n
theorem Zm{n:Nat}{k:Int}(h0:0<=k)(h1:k<4):([I n,I 1,I n,I n]:List Value)[k.toNat*1]?=some (I (asi n k)):=by
 rcases(by omega:k=0\/k=1\/k=2\/k=3)with rfl|rfl|rfl|rfl<;>rfl
theorem KB{n:Nat}{k:Int}(h0:0<=k)(h1:k<4):(F7 (rS n)).take (k+1).toNat=(F7 (rS n)).take k.toNat++[BitVec.ofInt 64 (asi n k)]:=by
 rcases(by omega:k=0\/k=1\/k=2\/k=3)with rfl|rfl|rfl|rfl<;>simp[F7,rS,asi]
def Nh(m:Nat)(k:Int):List jS:=(List.range k.toNat).map fun j=>jS.add (m+j)
theorem IV{m:Nat}{k:Int}(h0:0<=k):Nh m (k+1)=Nh m k++[jS.add (m+k.toNat)]:=by
 rw[Nh,show(k+1).toNat=k.toNat+1 by omega,xO,gV];rfl
theorem Zp{m:Nat}{us:List jS}:us++Nh m 4=O7 us m:=by simp[Nh,O7,List.range,List.range.loop]
theorem pN{a b c:List (Value×jS)}{T:UT}{F:Nat}{B C:List bu}(h1:b.take a.length=a)(h2:c.take b.length=b)(hab:∀x∈b.drop a.length,pM T F B x)(hbc:∀x∈c.drop b.length,pM T F C x):c.take a.length=a/\∀x∈c.drop a.length,pM T F (C++B) x:=by
 have hl:a.length<=b.length:=by
  have:=aK List.length h1;rw[dW]at this;omega
 constructor
 .rw[show c.take a.length=(c.take b.length).take a.length by rw[B8,qt hl],h2,h1]
 intro x hx
 have e:c=b++c.drop b.length:=by conv=>lhs;rw[<-HI b.length c,h2]
 rw[e,Lg hl]at hx
 rcases e8.1 hx with q|q
 .exact(hab x q).mono fun e he=>bH _ he
 exact(hbc x q).mono fun e he=>dL _ he
end
end Go.Proofs.YtlhjdflgjbkpmaaGreatDoor.E
namespace Go.Proofs.YtlhjdflgjbkpmaaGreatDoor.M
section
open Go
theorem ad6(r:Rl)(w:BitVec 64):(∃k:Int,eX r w=(k,true)/\0<=k/\k<pts r/\bQ r k=w)\/eX r w=(0,false):=by grind[Rl,eX,pts,bQ,ov]
theorem afN(r:Rl)(i j:Int):(jj r i j).2=true->0<=(jj r i j).1/\(jj r i j).1<pts r:=by grind[ov,ow,gy,pts,jj,Bc]
def EC(r:Rl)(w:BitVec 64):Int:=if(eX r w).2=true then(eX r w).1 else-1
theorem asj{r:Rl}{w:BitVec 64}{k:Int}(h0:0<=k)(hk:k<pts r)(h:bQ r k=w)(hf:∀j:Int,0<=j->j<k->bQ r j≠w):EC r w=k:=by
 rw[EC,DJ h0 hk h hf];rfl
theorem axb{r:Rl}{w:BitVec 64}{k:Int}(hk:¬k<pts r)(hf:∀j:Int,0<=j->j<k->bQ r j≠w):EC r w= -1:=by
 rw[EC,Gn hk hf];rfl
theorem ED(r:Rl)(w:BitVec 64):(0<=EC r w/\EC r w<pts r/\bQ r (EC r w)=w/\eX r w=(EC r w,true))\/(EC r w= -1/\(eX r w).2=false):=by grind[EC,ad6]
def JI(r:Rl)(i j:Int):BitVec 64:=if(jj r (EC r (bQ r i)) (EC r (bQ r j))).2=true then bQ r (jj r (EC r (bQ r i)) (EC r (bQ r j))).1 else bQ r i|||bQ r j
theorem ad7{r:Rl}{i j:Int}(h:(jj r (EC r (bQ r i)) (EC r (bQ r j))).2=true):JI r i j=bQ r (jj r (EC r (bQ r i)) (EC r (bQ r j))).1:=aX h
theorem aic{r:Rl}{i j:Int}(h:(jj r (EC r (bQ r i)) (EC r (bQ r j))).2=false):JI r i j=bQ r i|||bQ r j:=aT (by rw[h];exact Lh)
theorem Qr{r:Rl}{a b:BitVec 64}(h:EC r a<0\/EC r b<0):a|||b=ju r a b:=by
 rcases h with h|h
 .rcases ED r a with q|q
  .omega
  exact(Iy q.2).symm
 rcases ED r b with q|q
 .omega
 exact(Iz q.2).symm
theorem aid{r:Rl}{a b:BitVec 64}(h:¬(EC r a<0\/EC r b<0)):JI r (EC r a) (EC r b)=ju r a b:=by grind[ED,JI,ju]
def oA(r:Rl)(k:Nat):List (BitVec 64):=(List.range k).map fun(i:Nat)=>bQ r (i:Int)
theorem An{r:Rl}{k:Nat}:(oA r k).length=k:=by simp[oA]
theorem ad8{r:Rl}{k:Nat}{i:Int}(h:0<=i/\i<k):(oA r k).getD i.toNat 0=bQ r i:=by grind[oA]
theorem Uh{r:Rl}{k:Int}(h:0<=k):oA r (k+1).toNat=oA r k.toNat++[bQ r k]:=by
 rw[oA,show(k+1).toNat=k.toNat+1 by omega,xO,gV,Lp,gk h];rfl
def Ao(r:Rl)(i:Int)(n k:Nat):List (BitVec 64):=(List.range n).map fun(j:Nat)=>if j<k then JI r i (j:Int)else 0
theorem Cp{r:Rl}{i:Int}{n k:Nat}:(Ao r i n k).length=n:=by simp[Ao]
theorem ad9{r:Rl}{i:Int}{n:Nat}:List.replicate n (0#64)=Ao r i n 0:=by
 apply X5 (by simp[Ao])
 intro j h1 h2
 simp[Ao]
theorem Vz{r:Rl}{i:Int}{n:Nat}{k:Int}{x:BitVec 64}(h:0<=k/\k<n)(hx:x=JI r i k):(Ao r i n k.toNat).set k.toNat x=Ao r i n (k+1).toNat:=by grind[List.ext_getElem,Ao,List.length_set,Cp,Int.toNat_of_nonneg]
theorem aea{r:Rl}{i:Int}{n:Nat}{k:Int}{x y:BitVec 64}(h:0<=k/\k<n)(hx:y=JI r i k):((Ao r i n k.toNat).set k.toNat x).set k.toNat y=Ao r i n (k+1).toNat:=by simp_all[Vz]
theorem am4{r:Rl}{i:Int}{n:Nat}{j:Int}(h:0<=j/\j<n):(Ao r i n n).getD j.toNat 0=JI r i j:=by grind[Ao]
end
end Go.Proofs.YtlhjdflgjbkpmaaGreatDoor.M
namespace Go.Proofs.YtlhjdflgjbkpmaaGreatDoor.E
section
open Go Go.RowKit Go.Proofs.YtlhjdflgjbkpmaaGreatDoor.M
def lJ(r:Rl)(d s:Int)(vw vj:Value):List Value:=wJ r++[.int .u32 d,.int .i32 s,.int .u32 0,vw,vj]
section
variable{r:Rl}{d s:Int}{vw vj v:Value}
theorem afD:(lJ r d s vw vj).length=70:=by simp[lJ,pI]
theorem axc:(lJ r d s vw vj).toArray[0]?=some (I r.n):=by simp[lJ,wJ]
theorem SU{k:Nat}(hk:k<5):(lJ r d s vw vj).toArray[65+k]?=([.int .u32 d,.int .i32 s,.int .u32 0,vw,vj]:List Value)[k]?:=by grind[lJ,pI]
theorem abF:(lJ r d s vw vj).toArray[65]?=some (.int .u32 d):=SU (k:=0) J
theorem apz:(lJ r d s vw vj).toArray[66]?=some (.int .i32 s):=SU (k:=1) J
theorem EE:(lJ r d s vw vj).toArray[68]?=some vw:=SU (k:=3) J
theorem apA:(lJ r d s vw vj).toArray[69]?=some vj:=SU (k:=4) J
theorem K4{k:Nat}:(lJ r d s vw vj).toArray.setIfInBounds (65+k) v=(wJ r++([.int .u32 d,.int .i32 s,.int .u32 0,vw,vj]:List Value).set k v).toArray:=by simp_all[lJ,pI]
theorem GI:(lJ r d s vw vj).toArray.setIfInBounds 68 v=(lJ r d s v vj).toArray:=K4 (k:=3)
theorem aie:(lJ r d s vw vj).toArray.setIfInBounds 69 v=(lJ r d s vw v).toArray:=K4 (k:=4)
theorem aif{e:Int}:(lJ r d s vw vj).toArray.setIfInBounds 65 (.int .u32 e)=(lJ r e s vw vj).toArray:=K4 (k:=0)
theorem VA{e:Int}:(lJ r d s vw vj).toArray.setIfInBounds 66 (.int .i32 e)=(lJ r d e vw vj).toArray:=K4 (k:=1)
theorem am5:((lJ r d s vw vj).toArray.toList.drop 0).take (wJ r).length=wJ r:=by simp[lJ]
end
structure SV where
 v:Value
 l:List (BitVec 64)
def ru0:SV:=⟨.slice none 0 0,[]⟩
theorem asm{rs:List SV}{k:Int}(h:0<=k/\k<rs.length):(rs.map SV.v)[k.toNat*1]?=some (rs.getD k.toNat ru0).v:=by grind
def FE(r:Rl)(n k:Nat):List (List (BitVec 64)):=(List.range k).map fun(i:Nat)=>Ao r (i:Int) n n
theorem Zu{r:Rl}{n:Nat}{k:Int}(h:0<=k):FE r n (k+1).toNat=FE r n k.toNat++[Ao r k n n]:=by
 rw[FE,show(k+1).toNat=k.toNat+1 by omega,xO,gV,Lp,gk h];rfl
structure IW(K:Vu)(r:Rl)(vw vj:Value)(rs:List SV):Prop where
 words:oR K vw 1 (oA r (pts r).toNat).length ((oA r (pts r).toNat).map U)
 aih:oR K vj 1 rs.length (rs.map SV.v)
 each:∀x∈rs,oR K x.v 1 x.l.length (x.l.map U)
 rs:rs.map SV.l=FE r (pts r).toNat (pts r).toNat
section
variable{K K':Vu}{r:Rl}{vw vj:Value}{rs:List SV}
theorem IW.mono(h:IW K r vw vj rs)(hl:Le K K'):IW K' r vw vj rs:=⟨h.words.mono hl,h.aih.mono hl,fun x hx=>(h.each x hx).mono hl,h.rs⟩
theorem IW.len(h:IW K r vw vj rs):rs.length=(pts r).toNat:=by
 have:=aK List.length h.rs
 simpa[FE]using this
theorem IW.row(h:IW K r vw vj rs){i:Int}(hi:0<=i/\i<pts r):(rs.getD i.toNat ru0).l=Ao r i (pts r).toNat (pts r).toNat/\oR K (rs.getD i.toNat ru0).v 1 (rs.getD i.toNat ru0).l.length ((rs.getD i.toNat ru0).l.map U):=by
 have hl:=h.len
 have hm:i.toNat<rs.length:=J
 have e:rs.getD i.toNat ru0=rs[i.toNat]:=by rw[eT,eF hm];rfl
 rw[e]
 refine⟨?_,h.each _ (r8 hm)⟩
 have h2:(rs.map SV.l)[i.toNat]?=some (Ao r i (pts r).toNat (pts r).toNat):=by
  rw[h.rs,FE,qu,zF J,qV,gk hi.1]
 rw[qu,eF hm]at h2
 simpa using h2
end
section
variable{P:Program}{σ:Env}{w0 w:World}{L:List bu}{dst:Option Tmp}{ty t:TypeId}{pos:String}{bO:Array Edge}{g:Option (Nat×Bool)}{x y:Operand}{v u:Value}{i b o m:Nat}{xs:List Value}{r:Rl}
theorem Hp.setCell{c:Array Value}{e:TypeId}(h:Hp w0 w L)(hi:L[i]?=some (.blk b (.cells c e (0,0)))):Hp w0 (w.setCell ⟨b,o,none⟩ v) (L.set i (.blk b (.cells (c.setIfInBounds o v) e (0,0)))):=by
 have e1:w.setCell ⟨b,o,none⟩ v=w.setRow b (c.setIfInBounds o v):=by
  unfold World.setCell World.setRow
  congr 1
  have hg:=h.blk hi
  have hlt:b<w.heap.size:=(B4.1 hg).1
  have hv:w.heap[b]= .cells c e (0,0):=(B4.1 hg).2
  apply Array.ext aJ
  intro k h1 h2
  rw[Array.getElem_modify,Array.getElem_modify]
  by_cases q:b=k
  .subst q;simp[hv]
  rw[aT q,aT q]
 rw[e1];exact h.set hi
theorem Hp.fz{c:Array Value}{e:TypeId}(h:Hp w0 w L)(hi:L[i]?=some (.blk b (.cells c e (0,0)))):w.frozen? ⟨b,o,none⟩=false:=by
 have hg:=h.blk hi
 unfold World.frozen?
 simp only[hg]
 simp
theorem IX{d:TypeDesc}{a s:Int}{vw vj:Value}{fr:Nat×Nat}{e:TypeId}(hu:P.underlying t=some d)(hd:d.isRow=true)(hi:(P.info? t).map (·.size)=some 65)(hx:ev σ x= .pointer (some ⟨b,0,none⟩))(hg:w.heap[b]?=some (.cells (lJ r a s vw vj).toArray e fr)):
 (execOp (ev σ) ⟨dst,.load t x,ty,pos,bO,g⟩).run P w= .ok (.value (.agg (dU r))) w:=by grind[jt,iN,wJ,pI,am5]
theorem sM{n:Nat}{k:Int}(h:Sl w v 1 (oA r n).length ((oA r n).map U))(hk:0<=k/\k<n):w.cell? ⟨sb v,so v+k.toNat*1,none⟩=some (U (bQ r k)):=by
 rw[<-ad8 hk]
 refine h.cell _ _ ?_
 rw[lX,qu,eT,eF (by rw[An];omega)];rfl
theorem mk_zero{i:Int}{n:Nat}:(List.replicate n (0#64)).flatMap (fun x:BitVec 64=>[U x])=(Ao r i n 0).map U:=by
 rw[<-ad9]
 induction n with
 |zero=>rfl
 |succ n ih=>rw[List.replicate_succ,uC,lT,ih];rfl
end
def KN:Vu:=fun _ _=>False
theorem KN.le{K:Vu}:Le KN K:=fun _ _ h=>h.elim
def TbZ(TT:TypeId)(r:Rl)(b:Nat)(Z:List bu):Prop:=
 Z=[.blk b (.cells (lJ r 0 0 (.slice none 0 0) (.slice none 0 0)).toArray TT (0,0))]\/
 ∃(v1 v2:Value) (rs:List SV) (Zr:List bu),Z= .blk b (.cells (lJ r 1 0 v1 v2).toArray TT (0,0))::Zr/\IW (Kz KN Zr) r v1 v2 rs
theorem aii{K:Vu}{Zr z:List bu}{rs:List SV}{v:Value}{n:Nat}{l:List (BitVec 64)}(h:∀x∈rs,oR (Kz K Zr) x.v 1 x.l.length (x.l.map U))(hv:oR (Kz K z) v 1 n (l.map U))(hn:n=l.length:=by first|rfl|(rw[Cp])):∀x∈rs++[SV.mk v l],oR (Kz K (z++Zr)) x.v 1 x.l.length (x.l.map U):=fun x hx=>by
 rcases e8.1 hx with q|q
 .exact(h x q).mono (Le.zz fun e he=>bH _ he)
 rw[gG.1 q];subst hn;exact hv.mono (Le.zz fun e he=>dL _ he)
theorem Hp.sN{w0 w:World}{A Zf R:List bu}(h:Hp w0 w (A++(Zf++R))):Hp w0 w (Zf++(A++R)):=h.perm (by
 rw[<-dG,<-dG]
 exact ud.append_right R)
theorem aij{P:Program}{σ:Env}{w:World}{dst:Option Tmp}{ty:TypeId}{pos:String}{bO:Array Edge}{g:Option (Nat×Bool)}{x:Operand}{fn:Fn}{v:Value}(hx:ev σ x=v):
  (execOp (ev σ) ⟨dst,.makeFunc fn #[x] #[],ty,pos,bO,g⟩).run P w= .ok (.value (.func fn #[v] #[])) w:=by
 simp[execOp,hx,Instr.makeFunc]
theorem apB(r:Rl)(w:BitVec 64): -1<=EC r w/\(EC r w<0\/EC r w<pts r):=by grind[ED]
abbrev Kb:=Nat->Option (Nat×Rl)
def aik(o:Option (Nat×Rl)):Value:= .pointer (o.map fun p=>⟨p.1,0,none⟩)
def VB(tb:Kb):List Value:=(List.range 8).map fun i=>aik (tb i)
theorem am6(tb:Kb):(VB tb).length=8:=by simp[VB]
def tb0:Kb:=fun _=>none
def VC(tb:Kb)(k:Nat)(p:Nat×Rl):Kb:=fun i=>if i=k then some p else tb i
theorem aso(tb:Kb){k:Nat}(h:k<8):(VB tb).toArray[0+k*1]?=some (aik (tb k)):=by grind[VB]
theorem am7(tb:Kb){k:Nat}{p:Nat×Rl}:(VB tb).toArray.setIfInBounds (0+k*1) (.pointer (some ⟨p.1,0,none⟩))=(VB (VC tb k p)).toArray:=by
 rw[gO,lX,nW]
 congr 1
 apply X5 (by simp[VB])
 intro j h1 h2
 rw[zG]
 simp only[VB,List.getElem_map,List.getElem_range,VC]
 by_cases e:k=j
 .subst e;rw[aX O,aX O];rfl
 rw[aT e,aT (fun q=>e q.symm)]
def py(tb:Kb)(a c:El):El:=fun i=>match tb i with
 |some p=>ju p.2 (a i) (c i)
 |none=>a i|||c i
def wN(TT:TypeId):List (Nat×Rl)->List bu->Prop
 |[],Z=>Z=[]
 |p::tl,Z=>∃z Y,Z=z++Y/\TbZ TT p.2 p.1 z/\wN TT tl Y
theorem wN.one{TT:TypeId}{b:Nat}{r:Rl}{z:List bu}(h:TbZ TT r b z):wN TT [(b,r)] z:=⟨z,[],aJ,h,rfl⟩
theorem wN.app{TT:TypeId}{tl tm:List (Nat×Rl)}{Z Y:List bu}(h:wN TT tl Z)(k:wN TT tm Y):wN TT (tl++tm) (Z++Y):=by
 induction tl generalizing Z with
 |nil=>have e:Z=[]:=h;subst e;exact k
 |cons p tl ih=>
  obtain⟨z,X,rfl,h1,h2⟩:=h
  exact⟨z,X++Y,aJ,h1,ih h2⟩
theorem wN.pick{TT:TypeId}{tl:List (Nat×Rl)}{Z:List bu}{b:Nat}{r:Rl}(h:wN TT tl Z)(hm:(b,r)∈tl):∃z Y,TbZ TT r b z/\Z.Perm (z++Y)/\∀z',TbZ TT r b z'->∃Z',wN TT tl Z'/\(z'++Y).Perm Z':=by
 induction tl generalizing Z with
 |nil=>cases hm
 |cons p tl ih=>
  obtain⟨z,X,rfl,h1,h2⟩:=h
  rcases c8.1 hm with e|hm
  .subst e
   exact⟨z,X,h1,RC _,fun z' hz'=>⟨z'++X,⟨z',X,rfl,hz',h2⟩,RC _⟩⟩
  obtain⟨z1,Y,k1,k2,k3⟩:=ih h2 hm
  refine⟨z1,z++Y,k1,?_,fun z' hz'=> ?_⟩
  .refine(u7 z k2).trans ?_
   rw[<-dG,<-dG]
   exact ud.append_right Y
  obtain⟨Z',q1,k5⟩:=k3 z' hz'
  refine⟨z++Z',⟨z,Z',rfl,h1,q1⟩,?_⟩
  refine List.Perm.trans ?_ (u7 z k5)
  rw[<-dG,<-dG]
  exact ud.append_right Y
theorem wg{w:World}{b off:Nat}{cs:Array Value}{te:TypeId}{fr:Nat×Nat}{v:Value}(h:w.heap[b]?=some (.cells cs te fr))(hc:cs[off]?=some v):w.cell? ⟨b,off,none⟩=some v:=by
 rw[xS w b off cs te fr h];exact hc
theorem asp(tb:Kb){k:Int}(h:0<=k/\k<8):(VB tb).toArray[k.toNat]?=some (aik (tb k.toNat)):=by grind[aso]
theorem Qs{P:Program}{σ:Env}{w:World}{dst:Option Tmp}{t te ty u:TypeId}{pos:String}{bO:Array Edge}{g:Option (Nat×Bool)}{x y:Operand}{o:Option (Nat×Rl)}(ht:P.underlying t=some (.pointer te))(hx:ev σ x=aik o)(hy:ev σ y= .pointer none):
  (execOp (ev σ) ⟨dst,.binOp .neq t x y u,ty,pos,bO,g⟩).run P w= .ok (.value (.bool o.isSome)) w:=by
 cases o with
 |none=>
  have h:(binOp .neq t (.pointer none) (.pointer none)).run P w= .ok (.bool false) w:=by
   simp only[binOp];simp[Op.equal,Op.maxDepth,Zj 9999 ht]
  have he:(eqGuard .neq t x y (.pointer none) (.pointer none))=pure ():=rfl
  have hx':ev σ x= .pointer none:=hx
  simp only[execOp,hx',hy,he];simp[h]
 |some p=>
  have h:(binOp .neq t (.pointer (some ⟨p.1,0,none⟩)) (.pointer none)).run P w= .ok (.bool true) w:=by
   simp only[binOp];simp[Op.equal,Op.maxDepth,FD 9999 ht]
  have he:(eqGuard .neq t x y (.pointer (some ⟨p.1,0,none⟩)) (.pointer none))=pure ():=rfl
  have hx':ev σ x= .pointer (some ⟨p.1,0,none⟩):=hx
  simp only[execOp,hx',hy,he];simp[h]
theorem Hp.axd{w0 w:World}{A Zt R z Y:List bu}(h:Hp w0 w (A++(Zt++R)))(hp:Zt.Perm (z++Y)):Hp w0 w (z++(Y++(A++R))):=by
 refine h.sN.perm ?_
 rw[<-dG z]
 exact hp.append_right _
theorem Hp.apC{w0 w:World}{A Z' R z Y:List bu}(h:Hp w0 w (z++(Y++(A++R))))(hp:(z++Y).Perm Z'):Hp w0 w (A++(Z'++R)):=by
 refine h.perm ?_
 rw[<-dG z]
 refine(hp.append_right _).trans ?_
 rw[<-dG,<-dG]
 exact ud.append_right R
theorem asq{tb:Kb}{a c:El}{k:Int}{e:El}{b:Nat}{r:Rl}(hr:e=m8 (py tb a c) a k)(h0:0<=k)(hp:tb k.toNat=some (b,r)):tB e k.toNat (ju r (e k.toNat) (c k.toNat))=m8 (py tb a c) a (k+1):=by
 subst hr
 refine uO h0 ?_
 have e1:m8 (py tb a c) a k k.toNat=a k.toNat:=aT J
 rw[e1];simp only[py,hp]
theorem axe{tb:Kb}{a c:El}{k:Int}{e:El}(hr:e=m8 (py tb a c) a k)(h0:0<=k)(hp:(tb k.toNat).isSome=false):tB e k.toNat (e k.toNat|||c k.toNat)=m8 (py tb a c) a (k+1):=by
 subst hr
 refine uO h0 ?_
 have e1:m8 (py tb a c) a k k.toNat=a k.toNat:=aT J
 have hp':tb k.toNat=none:=by cases h:tb k.toNat with
  |none=>rfl
  |some p=>rw[h]at hp;cases hp
 rw[e1];simp only[py,hp']
theorem ail(tb:Kb){k b:Nat}(r:Rl):(VB tb).toArray.setIfInBounds (0+k*1) (.pointer (some ⟨b,0,none⟩))=(VB (VC tb k (b,r))).toArray:=am7 (p:=(b,r)) tb
def IY(s:Sh)(k:Int)(tb:Kb):Prop:=∀i:Nat,i<8->if(i:Int)<k/\(i:Int)<s.aZ.length/\(s.aZ.getD i vJ).kind=4 then∃b,tb i=some (b,(s.aZ.getD i vJ).rel)else tb i=none
theorem IY.start(s:Sh):IY s 0 tb0:=by grind[Sh,IY,tb0]
theorem IY.put{s:Sh}{k:Int}{tb:Kb}{b:Nat}{r:Rl}(h:IY s k tb)(h0:0<=k)(h1:k<s.aZ.length)(h2:(s.aZ.getD k.toNat vJ).kind=4)(hr:(s.aZ.getD k.toNat vJ).rel=r):IY s (k+1) (VC tb k.toNat (b,r)):=fun i hi=>by
 have:=h i hi
 unfold VC
 by_cases e:i=k.toNat
 .subst e
  rw[aX ⟨J,J,h2⟩,aX O,hr];exact⟨b,rfl⟩
 rw[aT e]
 by_cases q:(i:Int)<k/\(i:Int)<s.aZ.length/\(s.aZ.getD i vJ).kind=4
 .rw[aX q]at this;rw[aX ⟨J,q.2⟩];exact this
 rw[aT q]at this;rw[aT fun w=>q ⟨J,w.2⟩];exact this
theorem IY.skip{s:Sh}{k:Int}{tb:Kb}(h:IY s k tb)(h0:0<=k)(h2:¬(k<8/\(s.aZ.getD k.toNat vJ).kind=4)):IY s (k+1) tb:=fun i hi=>by
 have:=h i hi
 by_cases e:i=k.toNat
 .subst e
  rw[aT J]at this
  rw[aT fun w=>h2 ⟨J,w.2.2⟩];exact this
 by_cases q:(i:Int)<k/\(i:Int)<s.aZ.length/\(s.aZ.getD i vJ).kind=4
 .rw[aX q]at this;rw[aX ⟨J,q.2⟩];exact this
 rw[aT q]at this;rw[aT fun w=>q ⟨J,w.2⟩];exact this
def aim(s:Sh)(tb:Kb):Prop:=∀i:Nat,i<8->if(i:Int)<s.aZ.length/\(s.aZ.getD i vJ).kind=4 then∃b,tb i=some (b,(s.aZ.getD i vJ).rel)else tb i=none
theorem IY.all{s:Sh}{k:Int}{tb:Kb}(h:IY s k tb)(hk:¬k<s.aZ.length):aim s tb:=fun i hi=>by
 have:=h i hi
 by_cases q:(i:Int)<s.aZ.length/\(s.aZ.getD i vJ).kind=4
 .rw[aX q];rw[aX ⟨J,q⟩]at this;exact this
 rw[aT q];rw[aT fun w=>q w.2]at this;exact this
theorem aeb{s:Sh}{tb:Kb}(h:aim s tb)(a c:El):rR (py tb a c) (eo s a c):=fun i hi=>by
 have:=h i hi
 unfold py eo US
 by_cases q:(i:Int)<s.aZ.length/\(s.aZ.getD i vJ).kind=4
 .rw[aX q]at this⊢
  obtain⟨b,e⟩:=this;simp only[e]
 rw[aT q]at this⊢
 simp only[this]
theorem am8{tb:Kb}{tl:List (Nat×Rl)}{k:Nat}{q:Nat×Rl}(h:∀i,i<8->∀p,tb i=some p->p∈tl):∀i,i<8->∀p,VC tb k q i=some p->p∈q::tl:=by grind[VC]
theorem wN.cons{TT:TypeId}{tl:List (Nat×Rl)}{Z:List bu}{b:Nat}{r:Rl}(h:wN TT tl Z):wN TT ((b,r)::tl) ([.blk b (.cells (lJ r 0 0 (.slice none 0 0) (.slice none 0 0)).toArray TT (0,0))]++Z):=⟨_,_,rfl,.inl O,h⟩
structure Cn where
 e:Int
 l:Int
 j:Int
def cn0:Cn:=⟨0,0,0⟩
def Cn.ok(c:Cn):Prop:=(0<=c.e/\c.e<=1000000000000)/\(0<=c.l/\c.l<=1000000000000)/\(0<=c.j/\c.j<=1000000000000)
inductive Kd
 |e
 |l
 |j
def Kd.up(c:Cn):Kd->Cn
 | .e=>⟨c.e+1,c.l,c.j⟩
 | .l=>⟨c.e,c.l+1,c.j⟩
 | .j=>⟨c.e,c.l,c.j+1⟩
inductive Wr
 |base (p:kR) (tb:Kb)
 |wrap (m:Nat) (d:Wr)
structure OW where
 ofE:FuncId
 leq:FuncId
 jn:FuncId
 w1:FuncId
 w2:FuncId
 w3:FuncId
 w4:FuncId
 tsh:TypeId
 t8:TypeId
 tfn:TypeId
 tm:TypeId
 aEa:TypeId
 axf:TypeId
 tt:TypeId
 fr:List bu
abbrev pt(b:Nat):Value:= .pointer (some ⟨b,0,none⟩)
abbrev jO(f:FuncId)(cs:Array Value):Value:= .func (.func f) #[] cs
def BC(T:OW)(K:Vu):Wr->Value->Value->Value->Prop
 | .base p tb,e,l,j=>∃B1 B2,e=jO T.ofE #[pt B1]/\l=jO T.leq #[]/\j=jO T.jn #[pt B2]/\K B1 (.cells (qL p) T.tsh (0,0))/\k8 K p/\K B2 (.cells (VB tb).toArray T.t8 (0,0))
 | .wrap m d,e,l,j=>∃b2 b3 b5 e' l' j',e=jO T.w2 #[pt b5,pt b3]/\l=jO T.w3 #[pt b5,pt b3]/\j=jO T.w4 #[pt b5,pt b3]/\K b5 (.cells #[jO T.w1 #[pt b2]] T.tfn (0,0))/\K b2 (.cells #[pt m] T.tm (0,0))/\K b3 (.cells #[e',l',j'] T.aEa (0,0))/\BC T K d e' l' j'
theorem BC.mono{T:OW}{K K':Vu}(hl:Le K K'){d:Wr}:∀{e l j:Value},BC T K d e l j->BC T K' d e l j:=by
 induction d with
 |base p tb=>rintro e l j ⟨B1,B2,h1,h2,h3,h4,h5,h6⟩;exact⟨B1,B2,h1,h2,h3,hl _ _ h4,h5.mono hl,hl _ _ h6⟩
 |wrap m d ih=>rintro e l j ⟨b2,b3,b5,e',l',j',h1,h2,h3,h4,h5,h6,h7⟩;exact⟨b2,b3,b5,e',l',j',h1,h2,h3,hl _ _ h4,hl _ _ h5,hl _ _ h6,ih h7⟩
theorem BC.one{T:OW}{K:Vu}{d:Wr}{e l j:Value}(h:BC T K d e l j):∃f g k a b c,e=jO f a/\l=jO g b/\j=jO k c:=by
 cases d with
 |base p tb=>obtain⟨B1,B2,h1,h2,h3,-⟩:=h;exact⟨_,_,_,_,_,_,h1,h2,h3⟩
 |wrap m d=>obtain⟨b2,b3,b5,e',l',j',h1,h2,h3,-⟩:=h;exact⟨_,_,_,_,_,_,h1,h2,h3⟩
def Wr.sh:Wr->kR
 | .base p _=>p
 | .wrap _ d=>d.sh
def Wr.tb:Wr->Kb
 | .base _ tb=>tb
 | .wrap _ d=>d.tb
def Wr.Fp(ids:List Nat)(tl:List (Nat×Rl)):Wr->Prop
 | .base p tb=>aim p.sh tb/\∀i,i<8->∀q,tb i=some q->q∈tl
 | .wrap m d=>m∈ids/\d.Fp ids tl
abbrev Ct:=Nat->Cn
def wO(f:Ct)(m:Nat)(c:Cn):Ct:=fun i=>if i=m then c else f i
def jT(k:Kd)(m:Nat)(f:Ct):Ct:=wO f m (k.up (f m))
def Wr.tick(k:Kd):Wr->Ct->Ct
 | .base _ _,f=>f
 | .wrap m d,f=>d.tick k (jT k m f)
def sO(T:OW)(m:Nat)(c:Cn):bu:= .blk m (.cells #[B true,I c.e,I c.l,I c.j] T.axf (0,0))
def kU(T:OW)(ids:List Nat)(f:Ct)(tl:List (Nat×Rl))(Z:List bu):Prop:=∃Zt,wN T.tt tl Zt/\Z=(ids.map (fun m=>sO T m (f m))++T.fr)++Zt
theorem kU.pick{T:OW}{ids:List Nat}{f:Ct}{tl:List (Nat×Rl)}{Z R:List bu}{m:Nat}{w0 w:World}(h:kU T ids f tl Z)(hm:m∈ids)(hH:Hp w0 w (Z++R)):
  ∃Y,Z.Perm ([sO T m (f m)]++Y)/\∀c,∃Z',kU T ids (wO f m c) tl Z'/\([sO T m c]++Y).Perm Z':=by
 obtain⟨Zt,h1,rfl⟩:=h
 obtain⟨pre,post,rfl⟩:=XQ hm
 have apD:∀q∈pre++post,q≠m:=by
  have e:((pre++m::post).map (fun i=>sO T i (f i))++T.fr++Zt++R).Perm (sO T m (f m)::((pre++post).map (fun i=>sO T i (f i))++T.fr++Zt++R)):=by
   simp only[gV,lT,dG,gB]
   exact E5
  have h2:=(hH.perm e).LZ
  intro q hq hqe
  have h3:=(lS.1 h2).1 (sO T q (f q)) (dL _ (dL _ (dL _ (fZ.2 ⟨q,hq,rfl⟩))))
  rcases h3 with h3|h3
  .cases h3
  exact h3 (by show some m=some q;rw[hqe])
 have same:∀(c:Cn) (l:List Nat),(∀q∈l,q≠m)->(l.map fun i=>sO T i (wO f m c i))=l.map fun i=>sO T i (f i):=fun c l hl=>by
  apply HK
  intro q hq
  unfold wO;rw[aT (hl q hq)]
 refine⟨(pre++post).map (fun i=>sO T i (f i))++T.fr++Zt,?_,fun c=>⟨_,⟨Zt,h1,rfl⟩,?_⟩⟩
 .simp only[gV,lT,dG,gB,eN]
  exact E5
 have e1:=same c pre fun q hq=>apD q (dL _ hq)
 have e2:=same c post fun q hq=>apD q (bH _ hq)
 have e3:wO f m c m=c:=aX O
 simp only[gV,lT,e1,e2,e3,dG,gB,eN]
 exact E5.symm
def Ap(P:Program)(v:Value)(args:List Value)(w:World)(Q:Ending->World->Prop):Prop:=
 ∃(f:FuncId) (cs:List Value),v=jO f cs.toArray/\(∀args w,(callFunc f args).run P w= .ok (.enter f args) w)/\Calls P f (args++cs).toArray w Q
theorem Ap.mono{P:Program}{v:Value}{args:List Value}{w:World}{Q Q':Ending->World->Prop}(h:Ap P v args w Q)(hq:∀e w',Q e w'->Q' e w'):Ap P v args w Q':=by
 obtain⟨f,cs,h1,h2,h3⟩:=h;exact⟨f,cs,h1,h2,h3.mono hq⟩
theorem Hp.pc{w0 w:World}{A Zf R:List bu}(h:Hp w0 w (Zf++(A++R))):Hp w0 w (A++(Zf++R)):=h.perm (by
 rw[<-dG,<-dG]
 exact ud.append_right R)
section
variable{P:Program}{σ:Env}{w w':World}{dst:Option Tmp}{t ty u:TypeId}{pos:String}{bO:Array Edge}{g:Option (Nat×Bool)}{x y x1 x2:Operand}{v v1 v2:Value}{f:FuncId}{ats:Array TypeId}
theorem aec{HC:List Operand}{vs:List Value}(hf:(callFunc f vs.toArray).run P w= .ok (.value v) w')(h:HC.map (ev σ)=vs):(execOp (ev σ) ⟨dst,.call {callee:= .value (.func f),args:=HC.toArray,argTypes:=ats},ty,pos,bO,g⟩).run P w= .ok (.value v) w':=by
 subst h
 have hf':(callFunc f (HC.map (ev σ)).toArray).run P w= .ok (.value v) w':=hf
 simp[execOp,resolve,ev,Deferred.ofValue,invoke]at hf'⊢
 rw[hf']
theorem Zv(hf:(callFunc f #[v1,v2]).run P w= .ok (.value v) w')(h1:ev σ x1=v1)(h2:ev σ x2=v2):(execOp (ev σ) ⟨dst,.call {callee:= .value (.func f),args:=#[x1,x2],argTypes:=ats},ty,pos,bO,g⟩).run P w= .ok (.value v) w':=by grind[aec]
theorem ana{a:Int}(h: -9223372036854775808<=a+1/\a+1<=9223372036854775807):(Op.intArith .add .i64 a 1).run P w= .ok (.int .i64 (a+1)) w:=by
 simp[Op.intArith,Dz h]
theorem Qt{fn:Fn}{a c:Array Value}(d:Nat){ps rs:Array TypeId}{vr:Bool}(ht:P.underlying t=some (.func ps rs vr)):(Op.equalIn (d+1) t (.func fn a c) .nilFunc).run P w= .ok false w:=by
 simp[Op.equalIn,kp ht]
theorem VD{fn:Fn}{a c:Array Value}{ps rs:Array TypeId}{vr:Bool}(ht:P.underlying t=some (.func ps rs vr))(hx:ev σ x= .func fn a c)(hy:ev σ y= .nilFunc):
  (execOp (ev σ) ⟨dst,.binOp .eql t x y u,ty,pos,bO,g⟩).run P w= .ok (.value (.bool false)) w:=by
 have h:(binOp .eql t (.func fn a c) .nilFunc).run P w= .ok (.bool false) w:=by
  simp only[binOp];simp[Op.equal,Op.maxDepth,Qt 9999 ht]
 have he:(eqGuard .eql t x y (.func fn a c) .nilFunc)=pure ():=rfl
 simp only[execOp,hx,hy,he];simp[h]
theorem VE{fn:Fn}{a c:Array Value}{ps rs:Array TypeId}{vr:Bool}(ht:P.underlying t=some (.func ps rs vr))(hx:ev σ x= .func fn a c)(hy:ev σ y= .nilFunc):
  (execOp (ev σ) ⟨dst,.binOp .neq t x y u,ty,pos,bO,g⟩).run P w= .ok (.value (.bool true)) w:=by
 have h:(binOp .neq t (.func fn a c) .nilFunc).run P w= .ok (.bool true) w:=by
  simp only[binOp];simp[Op.equal,Op.maxDepth,Qt 9999 ht]
 have he:(eqGuard .neq t x y (.func fn a c) .nilFunc)=pure ():=rfl
 simp only[execOp,hx,hy,he];simp[h]
end
structure Aq where
 kind:Int
 lv:Value
 l:List dV
 vv:Value
 v:List El
 a:El
 b:El
def anb:Aq:=⟨0,.slice none 0 0,[],.slice none 0 0,[],dg,dg⟩
def aNr(x:Aq):List Value:=I x.kind::x.lv::x.vv::(pJ x.a++pJ x.b)
structure ain(K:Vu)(x:Aq):Prop where
 ins:oR K x.lv 10 x.l.length (x.l.flatMap kg)
 ak:oR K x.vv 8 x.v.length (x.v.flatMap pJ)
theorem ain.mono{K K':Vu}{x:Aq}(h:ain K x)(hl:Le K K'):ain K' x:=⟨h.ins.mono hl,h.ak.mono hl⟩
def VF(K:Vu)(l:List Aq):Prop:=∀x∈l,ain K x
theorem VF.mono{K K':Vu}{l:List Aq}(h:VF K l)(hl:Le K K'):VF K' l:=fun x hx=>(h x hx).mono hl
theorem VF.at{K:Vu}{l:List Aq}(h:VF K l){k:Int}(h0:0<=k)(h1:k<l.length):ain K (l.getD k.toNat anb):=h _ (lR (fF (d:=anb) h0 h1))
def aNs(g:El×Bool):List Value:=pJ g.1++[B g.2]
def aNt(d:Wr)(x:Aq):El×Bool:=if x.kind=1 then(dg,cS x.a x.b)else if x.kind=2 then(py d.tb x.a x.b,false)else ey d.sh.sh x.l x.v
def aNu(s:Sh)(x:Aq):El×Bool:=if x.kind=1 then(dg,cS x.a x.b)else if x.kind=2 then(eo s x.a x.b,false)else ey s x.l x.v
def aio(x:Aq):Kd:=if x.kind=1 then .l else if x.kind=2 then .j else .e
def FF(n:Nat)(f:Ct):Prop:=∀m,(0<=(f m).e/\(f m).e<=n)/\(0<=(f m).l/\(f m).l<=n)/\(0<=(f m).j/\(f m).j<=n)
theorem FF.ok{n:Nat}{f:Ct}(h:FF n f)(hn:n<=1000000000000)(m:Nat):(f m).ok:=by
 obtain⟨⟨a,b⟩,⟨c,d⟩,e,g⟩:=h m
 exact⟨⟨a,J⟩,⟨c,J⟩,e,J⟩
theorem FF.tick{n:Nat}{f:Ct}(h:FF n f)(k:Kd)(m:Nat):FF (n+1) (jT k m f):=fun i=>by
 obtain⟨⟨a,b⟩,⟨c,d⟩,e,g⟩:=h i
 obtain⟨⟨a',b'⟩,⟨c',d'⟩,e',g'⟩:=h m
 unfold jT wO
 by_cases q:i=m
 .rw[aX q]
  cases k<;>simp only[Kd.up]<;>omega
 rw[aT q];omega
def Wr.dep:Wr->Nat
 | .base _ _=>0
 | .wrap _ d=>d.dep+1
theorem FF.abG{d:Wr}(k:Kd):∀{n:Nat} {f:Ct},FF n f->FF (n+d.dep) (d.tick k f):=by
 induction d with
 |base p tb=>exact fun h=>h
 |wrap m d ih=>
  intro n f h
  have:=ih (h.tick k m)
  rw[Nat.add_right_comm]at this;exact this
theorem Ap.get{P:Program}{f:FuncId}{cs:List Value}{args:List Value}{w:World}{Q:Ending->World->Prop}(h:Ap P (jO f cs.toArray) args w Q):Calls P f (args++cs).toArray w Q:=by
 obtain⟨g,ds,h1,-,h3⟩:=h
 injection h1 with e1 e2 e3
 injection e1 with e1
 have e4:cs=ds:=by simpa using aK Array.toList e3
 subst e1 e4;exact h3
def asr(P:Program)(v:Value):Prop:=∃(f:FuncId) (cs:List Value),v=jO f cs.toArray/\∀args w,(callFunc f args).run P w= .ok (.enter f args) w
def aEb(x:Aq):Bool:=decide (60<x.l.length)||decide (100<x.v.length)
def aEc(l:List Aq):Bool:=decide (60<l.length)||l.any aEb
def kdN(x:Aq):Int:=if x.kind=1\/x.kind=2 then x.kind else 0
def Zw(l:List Aq)(q:Int):Nat:=l.countP fun x=>decide (kdN x=q)
def ct0:Ct:=fun _=>cn0
theorem kU.nil{T:OW}:kU T [] ct0 [] (([]++T.fr)++[]):=⟨[],rfl,rfl⟩
theorem kU.add{T:OW}{ids:List Nat}{tl:List (Nat×Rl)}{Z:List bu}{m:Nat}(h:kU T ids ct0 tl Z):kU T (m::ids) ct0 tl ([sO T m cn0]++Z):=by
 obtain⟨Zt,h1,rfl⟩:=h;exact⟨Zt,h1,rfl⟩
theorem kU.app{T:OW}{ids:List Nat}{f:Ct}{tl tm:List (Nat×Rl)}{Z Zt:List bu}(h:kU T ids f tl Z)(ht:wN T.tt tm Zt):kU T ids f (tl++tm) (Z++Zt):=by
 obtain⟨Zs,h1,rfl⟩:=h;exact⟨Zs++Zt,h1.app ht,by rw[dG]⟩
theorem kU.blk{T:OW}{ids:List Nat}{f:Ct}{tl:List (Nat×Rl)}{Z L:List bu}{m:Nat}{w0 w:World}(h:kU T ids f tl Z)(hm:m∈ids)(hH:Hp w0 w L)(hs:∀x,x∈Z->x∈L):
  w.heap[m]?=some (.cells #[B true,I (f m).e,I (f m).l,I (f m).j] T.axf (0,0)):=by
 obtain⟨Zt,h1,rfl⟩:=h
 exact(hH.ok _ (hs _ (dL _ (dL _ (fZ.2 ⟨m,hm,rfl⟩))))).2
theorem Hp.apE{w0 w:World}{Zt Zq A Zf R:List bu}(h:Hp w0 w ((Zt++Zq)++(A++(Zf++R)))):Hp w0 w (A++((Zf++Zt)++(Zq++R))):=h.perm (by
 rw[dG,dG]
 refine((u7 Zt (wV Zq A _)).trans (wV Zt A _)).trans (u7 A ?_)
 refine(u7 Zt (wV Zq Zf R)).trans (wV Zt Zf _))
theorem Wr.Ni{d:Wr}{ids ids':List Nat}{tl tl':List (Nat×Rl)}(h:d.Fp ids tl)(h1:∀x,x∈ids->x∈ids')(h2:∀x,x∈tl->x∈tl'):d.Fp ids' tl':=by
 induction d with
 |base p tb=>exact⟨h.1,fun i hi q hq=>h2 _ (h.2 i hi q hq)⟩
 |wrap m d ih=>exact⟨h1 _ h.1,ih h.2⟩
theorem FF.zero:FF 0 ct0:=fun m=>by simp[ct0,cn0]
theorem FF.clear{n:Nat}{f:Ct}(h:FF n f)(m:Nat):FF n (wO f m cn0):=fun i=>by
 unfold wO
 by_cases q:i=m
 .rw[aX q];simp[cn0]
 rw[aT q];exact h i
theorem FF.mono{n k:Nat}{f:Ct}(h:FF n f)(hk:n<=k):FF k f:=fun m=>by
 obtain⟨⟨a,b⟩,⟨c,d⟩,e,g⟩:=h m
 exact⟨⟨a,J⟩,⟨c,J⟩,e,J⟩
def aEe:List Tx:=[⟨#[97]⟩,⟨#[98]⟩]
def exT:Sh:=⟨false,[⟨2,aEe,Rl.none⟩]⟩
def aNv:El:=tB dg 0 1#64
def aNw:El:=tB dg 0 2#64
def aNx:El:=tB dg 0 3#64
theorem Hp.swz{w0 w:World}{A z Zf R:List bu}(h:Hp w0 w (A++(z++(Zf++R)))):Hp w0 w (A++(Zf++(z++R))):=h.perm (u7 A (by
 rw[<-dG,<-dG]
 exact ud.append_right R))
def GJ(c:Cn)(l:List Aq):Prop:=c.e=Zw l 0/\c.l=Zw l 1/\c.j=Zw l 2
theorem GJ.nil:GJ cn0 []:=⟨rfl,rfl,rfl⟩
theorem GJ.tick{f:Ct}{m:Nat}{l:List Aq}{x:Aq}(h:GJ (f m) l):GJ ((jT (aio x) m f) m) (l++[x]):=by
 obtain⟨h1,h2,h3⟩:=h
 have e:jT (aio x) m f m=(aio x).up (f m):=by unfold jT wO;rw[aX O]
 have c:∀q,Zw (l++[x]) q=Zw l q+if kdN x=q then 1 else 0:=fun q=>by
  rw[Zw,List.countP_append];simp[Zw,List.countP_cons]
 rw[e]
 unfold GJ
 rw[c,c,c]
 unfold aio kdN
 by_cases a:x.kind=1
 .simp[a,Kd.up,h1,h2,h3]
 by_cases b:x.kind=2
 .simp[b,Kd.up,h1,h2,h3]
 simp[a,b,Kd.up,h1,h2,h3]
theorem aip{l:List Aq}{k fr:Int}(h0:0<=fr)(h1:fr<=k)(h2:k<l.length):(l.take (k+1).toNat).drop fr.toNat=(l.take k.toNat).drop fr.toNat++[l.getD k.toNat anb]:=by grind[List.take_append_getElem,List.length_take,List.getElem?_eq_getElem]
theorem GJ.next{f:Ct}{m:Nat}{l:List Aq}{k fr:Int}(h:GJ (f m) ((l.take k.toNat).drop fr.toNat))(h0:0<=fr)(h1:fr<=k)(h2:k<l.length):GJ ((jT (aio (l.getD k.toNat anb)) m f) m) ((l.take (k+1).toNat).drop fr.toNat):=by
 rw[aip h0 h1 h2];exact h.tick
def Qu(a b c:Nat)(f:Ct)(k:Int):Prop:=(f a).e=(f b).e/\(f a).l=(f b).l/\(f a).j=(f b).j/\(f c).e=2*(f a).e/\(f c).l=2*(f a).l/\(f c).j=2*(f a).j/\(f a).e+(f a).l+(f a).j=k
theorem Qu.zero{a b c:Nat}:Qu a b c ct0 0:=⟨rfl,rfl,rfl,rfl,rfl,rfl,rfl⟩
theorem Qu.next{a b c:Nat}{f:Ct}{k:Int}(h:Qu a b c f k)(hn:[c,b,a].Nodup)(q:Kd):Qu a b c (jT q c (jT q c (jT q b (jT q a f)))) (k+1):=by
 simp only[om,c8,List.not_mem_nil,Ce,not_or]at hn
 obtain⟨⟨h1,h2⟩,h3,-⟩:=hn
 obtain⟨e1,e2,e3,e4,e5,e6,e7⟩:=h
 have fa:jT q c (jT q c (jT q b (jT q a f))) a=q.up (f a):=by simp[jT,wO,h2,h3,Fe h2,Fe h3]
 have fb:jT q c (jT q c (jT q b (jT q a f))) b=q.up (f b):=by simp[jT,wO,h1,h3,Fe h1,Fe h3]
 have fc:jT q c (jT q c (jT q b (jT q a f))) c=q.up (q.up (f c)):=by simp[jT,wO,h1,h2,Fe h1,Fe h2]
 unfold Qu
 rw[fa,fb,fc]
 cases q<;>simp only[Kd.up]<;>omega
def SW(o:Oper):List Nat:=(o.after.toList.filter fun e=>Region.binds .any e).map (·.on)
def anc(l:List Oper):Nat->List Nat->Bool
 |0,_=>true
 |i+1,s=>s.contains i&&anc l i (s++((l[i]?).map SW).getD [])
def axg(l:List Oper)(z:Oper):Bool:=
 (l.zipIdx.all fun p=>(SW p.1).all (Nat.blt · p.2)&&(p.1.guard.map fun g=>Nat.blt g.1 l.length).getD true)&&(SW z).all (Nat.blt · l.length)&&anc l l.length (SW z)
section
variable{P:Program}{n:Nat}{l:List Oper}{z:Oper}{k:K}{listed:Array Bool}
theorem ane{o:Oper}{j:Nat}:j∈SW o↔∃e∈o.after,Region.binds .any e=true/\e.on=j:=by grind[SW]
theorem rdy{md:List Oper}{j:Nat}:j∈Region.ready .any md.toArray listed↔listed.getD j true=false/\∃o,md[j]?=some o/\∀i∈SW o,listed.getD i false=true:=by
 rw[mem_ready]
 simp only[HH,ane]
 refine and_congr Cg (exists_congr fun o=>and_congr Cg ⟨fun h i ⟨e,h1,h2,h3⟩=>h3▸h e h1 h2,fun h e h1 h2=>h e.on ⟨e,h1,h2,rfl⟩⟩)
def GK(l:List Oper)(listed:Array Bool):Prop:=listed.size=l.length/\∀j o,l[j]?=some o->listed.getD j false=true->∀i∈SW o,listed.getD i false=true
theorem abH(hc:GK l listed):∀(i:Nat) (s:List Nat),anc l i s=true->(∀j∈s,listed.getD j false=true)->∀j,j<i->listed.getD j false=true
 |0,_,_,_,j,hj=>by omega
 |i+1,s,h,hs,j,hj=>by
  simp only[anc,cM,List.contains_iff_mem]at h
  have hi:=hs i h.1
  by_cases e:j=i
  .subst e;exact hi
  refine abH hc i _ h.2 (fun q hq=> ?_) j J
  rcases e8.1 hq with hq|hq
  .exact hs q hq
  .cases ho:l[i]? with
   |none=>rw[ho]at hq;simp at hq
   |some o=>rw[ho]at hq;exact hc.2 i o ho hi q hq
theorem k9{a:Array Bool}{i j:Nat}{d:Bool}:(a.setIfInBounds i true).getD j d=if i=j/\j<a.size then true else a.getD j d:=by
 rw[wU,Ep,wU]
 by_cases e:i=j
 .subst e
  rw[aX O]
  by_cases h:i<a.size
  .rw[aX h,aX ⟨rfl,h⟩];rfl
  rw[aT h,aT fun q=>h q.2,XD J]
 rw[aT e,aT fun q=>e q.1]
theorem nu{a:Array Bool}{b d:Bool}{j:Nat}:(a.push b).getD j d=if j=a.size then b else a.getD j d:=by
 rw[wU,XK,wU]
 split<;>rfl
theorem Zx{o:Oper}{a:Act}{k':K}{F F':Act->World->Prop}{w:World}(hF:∀a w,F a w->F' a w)(h:o.wp P a w F (r9 n k')):o.wp P a w F' (r9 n k):=by
 unfold Oper.wp at*
 generalize(execOp a.eval o).run P w=r at*
 cases r with
 |ok x w'=>
  cases x<;>simp only[Oper.upon]at h⊢
  case value=>exact hF _ _ h
  case skip=>exact hF _ _ h
  case defer=>exact hF _ _ h
  case enter=>
   refine Calls.mono h fun e w'' he=> ?_
   cases e with
   |returned v=>exact hF _ _ he
   |panicked c=>exact he
   |outgrown=>exact he
  case row=>exact Rows.mono h fun _ _ he=>hF _ _ he
 |halt x w'=>cases x<;>simp only[Oper.upon]at h⊢<;>exact h
theorem fW{id:Nat}{ops:List Oper}{xs:List (Nat×K)}{r:K}{σ:Env}{w0 w:World}{L L0:List bu}(hm:P.follows .mixedOrders=true)(hz:ops=ops.dropLast++[z])(hc:axg ops.dropLast z=true)(hH:Hp w0 w L)(hs:L0.Sublist L)
  (h:∀w',Hp w0 w' L->AN P n ops.dropLast (fun w=>Hp w0 w L0) (fun σ w=>RL P n ops.toArray k [z] σ w) ops.dropLast.length (Array.replicate ops.dropLast.length false) σ w'):CW P n (.region id ops.toArray true) k xs r σ w:=by
 intro a ha
 refine zK (fun e a' w' hq=> ?_) (Yc (id:=id) (Q:=r9 n k) hm ?_)
 .cases e with
  |normal=>exact hq
  |exit id=>exact hq.elim
  |ret=>exact hq.elim
  |goto l=>exact hq.elim
  |panic c=>exact hq.elim
  |outgrown=>exact hq.elim
 have h1:=Yd _ _ _ _ (h _ hH.drew a ha)
 generalize hl:ops.dropLast=l at*
 simp only[axg,cM,iR]at hc
 obtain⟨⟨c1,c2⟩,c3⟩:=hc
 have gl:∀{j o},l[j]?=some o->(∀i∈SW o,i<j)/\∀g,o.guard=some g->g.1<l.length:=fun{j o} ho=>by
  have hmem:(o,j)∈l.zipIdx:=by
   rw[XG];exact⟨j,by simp[ho]⟩
  have:=c1 _ hmem
  refine⟨fun i hi=>by simpa using this.1 i hi,fun g hg=> ?_⟩
  have h2:=this.2
  rw[hg]at h2
  simpa using h2
 have get:∀{j},j<l.length->ops[j]?=l[j]?:=fun{j} hj=>by rw[hz,zD hj]
 have ast:ops[l.length]?=some z:=by rw[hz,E1 (fh _),RG];rfl
 have hlen:ops.length=l.length+1:=by rw[hz];simp
 have key:∀(fuel:Nat) (gL:Array Bool) (a:Act) (w:World),GK l gL->wpAny P .any l.toArray (r9 n fun σ w=>RL P n ops.toArray k [z] σ w) fuel gL a w->wpAny P .any ops.toArray (r9 n k) (fuel+1) (gL.push false) a w:=by
  intro fuel
  have last:∀(fuel:Nat) (gL:Array Bool) (a:Act) (w:World),GK l gL->(∀j,j<l.length->gL.getD j false=true)->r9 n (fun σ w=>RL P n ops.toArray k [z] σ w) .normal a w->wpAny P .any ops.toArray (r9 n k) (fuel+1) (gL.push false) a w:=by
   intro fuel gL a w oy hall hr
   have hsz:=oy.1
   refine⟨fun he=> ?_,fun i hi=> ?_⟩
   .have:l.length∈Region.ready .any ops.toArray (gL.push false):=by
     rw[rdy]
     refine⟨by rw[nu,hsz,aX O],z,ast,fun i hi=> ?_⟩
     have hi2:i<l.length:=by simpa using c2 i hi
     rw[nu,aT J]
     exact hall i hi2
    rw[he]at this;cases this
   rw[rdy]at hi
   obtain⟨h0,o,ho,_⟩:=hi
   have hio:i=l.length:=by
    by_cases e:i=l.length
    .exact e
    have hlt:i<ops.length:=(nX.1 ho).1
    have aEf:i<l.length:=J
    rw[nu,aT J]at h0
    have h3:=hall i aEf
    rw[wU]at h0 h3
    cases hq:gL[i]? with
    |none=>rw[hq]at h3;cases h3
    |some b=>rw[hq]at h0 h3;cases b<;>simp_all
   subst hio
   obtain⟨σ',hi',hrl⟩:=hr
   have:=hrl a hi'
   unfold wpOp
   rw[HH,ast]
   simp only[wpList]at this
   show(if Region.wanted z (yielded ops.toArray a.tmps)=true then _ else _)
   have done:∀a w,r9 n k .normal a w->wpAny P .any ops.toArray (r9 n k) fuel ((gL.push false).setIfInBounds l.length true) a w:=fun a w hq=>by
    have he:Region.ready .any ops.toArray ((gL.push false).setIfInBounds l.length true)=[]:=by
     rw[Rg]
     intro j hj
     rw[rdy]at hj
     obtain⟨h0,o,ho,_⟩:=hj
     have hlt:j<ops.length:=(nX.1 ho).1
     rw[k9,nu]at h0
     by_cases e:l.length=j
     .rw[aX ⟨e,by rw[Array.size_push];omega⟩]at h0;cases h0
     rw[aT fun q=>e q.1,aT J]at h0
     have h3:=hall j J
     rw[wU]at h0 h3
     cases hq:gL[j]? with
     |none=>rw[hq]at h3;cases h3
     |some b=>rw[hq]at h0 h3;cases b<;>simp_all
    cases fuel with
    |zero=>exact⟨he,hq⟩
    |succ f=>exact⟨fun _=>hq,fun i hi=>by rw[he]at hi;cases hi⟩
   split
   .rename_i hw
    rw[aX hw]at this
    refine this.imp (fun q=>Oper.wp_mono (fun a w h=>done a w h) q) fun q=>q
   rename_i hw
   rw[aT hw]at this
   exact done _ _ this
  have fin:∀(gL:Array Bool),GK l gL->Region.ready .any l.toArray gL=[]->∀j,j<l.length->gL.getD j false=true:=by
   intro gL oy he j
   induction j using Nat.strongRecOn with
   |_ j ih=>
    intro hj
    cases hq:gL.getD j false with
    |true=>rfl
    |false=>
     have hmem:j∈Region.ready .any l.toArray gL:=by
      rw[rdy]
      refine⟨?_,l[j],eF hj,fun i hi=> ?_⟩
      .rw[wU,afy (by rw[oy.1];exact hj)]at hq⊢;exact hq
      have:=(gl (eF hj)).1 i hi
      exact ih i this J
     rw[he]at hmem;cases hmem
  induction fuel with
  |zero=>intro gL a w oy hw;exact last 0 gL a w oy (fin gL oy hw.1) hw.2
  |succ fuel ih=>
   intro gL a w oy hw
   have hsz:=oy.1
   by_cases he:Region.ready .any l.toArray gL=[]
   .exact last _ gL a w oy (fin gL oy he) (hw.1 he)
   refine⟨fun hn=> ?_,fun i hi=> ?_⟩
   .refine absurd (Rg.2 fun j hj=> ?_) he
    have:j∈Region.ready .any ops.toArray (gL.push false):=by
     rw[rdy]at hj⊢
     obtain⟨h0,o,ho,hall⟩:=hj
     have hj2:j<l.length:=(nX.1 ho).1
     refine⟨by rw[nu,aT J];exact h0,o,by rw[get hj2];exact ho,fun i hi=> ?_⟩
     have:=(gl ho).1 i hi
     rw[nu,aT J];exact hall i hi
    rw[hn]at this;cases this
   rw[rdy]at hi
   obtain⟨h0,o,ho,hall⟩:=hi
   have hlt:i<ops.length:=(nX.1 ho).1
   by_cases e:i=l.length
   ·
    exfalso
    subst e
    rw[ast]at ho
    injection ho with ho
    subst ho
    have axh:∀j,j<l.length->gL.getD j false=true:=abH oy l.length _ c3 fun j hj=>by
     have h3:=hall j hj
     have hj2:j<l.length:=by simpa using c2 j hj
     rw[nu,aT J]at h3;exact h3
    refine he (Rg.2 fun j hj=> ?_)
    rw[rdy]at hj
    obtain⟨g0,o,go,_⟩:=hj
    have hj2:j<l.length:=(nX.1 go).1
    have h3:=axh j hj2
    rw[wU]at g0 h3
    cases hq:gL[j]? with
    |none=>rw[hq]at h3;cases h3
    |some b=>rw[hq]at g0 h3;cases b<;>simp_all
   have hi2:i<l.length:=J
   rw[get hi2]at ho
   have hrd:i∈Region.ready .any l.toArray gL:=by
    rw[rdy]
    refine⟨by rw[nu,aT J]at h0;exact h0,o,ho,fun j hj=> ?_⟩
    have:=(gl ho).1 j hj
    have h3:=hall j hj
    rw[nu,aT J]at h3;exact h3
   have hop:=hw.2 i hrd
   have anf:GK l (gL.setIfInBounds i true):=by
    refine⟨by rw[XB];exact hsz,fun j p hp hj q hq=> ?_⟩
    rw[k9]at hj⊢
    by_cases e2:i=q/\q<gL.size
    .rw[aX e2]
    rw[aT e2]
    by_cases e3:i=j
    .subst e3
     rw[ho]at hp;injection hp with hp;subst hp
     have:=(gl ho).1 q hq
     have h3:=hall q hq
     rw[nu,aT J]at h3;exact h3
    rw[aT fun c=>e3 c.1]at hj
    exact oy.2 j p hp hj q hq
   have apG:(gL.push false).setIfInBounds i true=(gL.setIfInBounds i true).push false:=by
    apply XP
    intro j
    rw[Ep,XK,XK,Ep,XB,Array.size_push]
    by_cases e2:i=j
    .subst e2;rw[aX O,aX J,aT J,aX O,aX J]
    rw[aT e2,aT e2]
   have hgd:Region.wanted o (yielded ops.toArray a.tmps)=Region.wanted o (yielded l.toArray a.tmps):=by
    unfold Region.wanted
    cases hg:o.guard with
    |none=>rfl
    |some g=>
     obtain⟨gi,gw⟩:=g
     have:=(gl ho).2 _ hg
     simp only[yielded,HH]
     rw[get this]
   unfold wpOp at hop⊢
   rw[HH]at hop⊢
   rw[get hi2]
   rw[ho]at hop⊢
   simp only[hgd]at*
   split
   .rename_i hwn
    rw[aX hwn]at hop
    rcases hop with hop|hop
    .refine .inl (Zx (fun a w hq=> ?_) hop)
     rw[apG];exact ih _ a w anf hq
    exact .inr ⟨hop.1,hop.2⟩
   rename_i hwn
   rw[aT hwn]at hop
   rw[apG];exact ih _ _ w anf hop
 have axi:=key l.length (Array.replicate l.length false) a _ ⟨aJ,fun j o _ hj=>by
  rw[wU,afz]at hj
  split at hj<;>cases hj⟩ h1
 rw[show(Array.replicate l.length false).push false=Array.replicate (l.length+1) false by rw[<-Array.replicate_succ],<-hlen]at axi
 simpa using axi
end
end
end Go.Proofs.YtlhjdflgjbkpmaaGreatDoor.E
namespace Go.Proofs.YtlhjdflgjbkpmaaGreatDoor.M
section
open Go
def IZ(n:Nat)(cl:List Nat)(i j:Int):Prop:=(0<=i/\i<n)/\(0<=j/\j<n)/\cm cl i.toNat≠cm cl j.toNat
structure UnP(nd:List qD)(cl:List Nat)(i j:Int)(a b:Nat):Prop where
 ok:IZ nd.length cl i j
 ha:a<nd.length
 hb:b<nd.length
 ab:a≠b
 ua:sL nd a=a
 ub:sL nd b=b
 c:cm cl a=cm cl i.toNat/\cm cl b=cm cl j.toNat\/cm cl a=cm cl j.toNat/\cm cl b=cm cl i.toNat
section
variable{nd:List qD}{cl:List Nat}{i j:Int}{a b:Nat}
theorem VG(h:Fo nd cl)(hi:0<=i/\i<nd.length)(hj:0<=j/\j<nd.length)(hne:((o9 nd cl i.toNat:Nat):Int)≠(o9 nd cl j.toNat:Nat)):UnP nd cl i j (o9 nd cl i.toNat) (o9 nd cl j.toNat):=by
 obtain⟨a1,a2,a3⟩:=pH h (i:=i.toNat) J
 obtain⟨b1,b2,b3⟩:=pH h (i:=j.toNat) J
 have hab:o9 nd cl i.toNat≠o9 nd cl j.toNat:=fun e=>hne (aK _ e)
 exact⟨⟨hi,hj,fun e=>hab ((Ql h a1 b1 a2 b2 a3 b3).2 e)⟩,a1,b1,hab,a2,b2,.inl ⟨a3,b3⟩⟩
theorem UnP.swap(h:UnP nd cl i j a b):UnP nd cl i j b a:=by grind[UnP]
theorem asu(h:¬(0<=i/\i<nd.length)):¬IZ nd.length cl i j:=fun q=>h q.1
theorem asv(h:¬(0<=j/\j<nd.length)):¬IZ nd.length cl i j:=fun q=>h q.2.1
theorem asw(h:Fo nd cl)(hi:0<=i/\i<nd.length)(hj:0<=j/\j<nd.length)(e:((o9 nd cl i.toNat:Nat):Int)=(o9 nd cl j.toNat:Nat)):¬IZ nd.length cl i j:=fun q=>q.2.2 (by
 obtain⟨a1,a2,a3⟩:=pH h (i:=i.toNat) J
 obtain⟨b1,b2,b3⟩:=pH h (i:=j.toNat) J
 exact(Ql h a1 b1 a2 b2 a3 b3).1 J)
theorem apI{v:Nat}(h:a<nd.length)(e:kN nd a=v)(hv:v<=1000000):((bE nd).getD (4*(a:Int)+1).toNat 0).toInt=(v:Int):=SQ ⟨J,J⟩ ((axa h).trans (by rw[e])) hv
theorem apJ{v:Nat}(h:a<nd.length)(e:tH nd a=v)(hv:v<=1000000):((bE nd).getD (4*(a:Int)+2).toNat 0).toInt=(v:Int):=SQ ⟨J,J⟩ ((apx h).trans (by rw[e])) hv
theorem apK{v:Nat}(h:a<nd.length)(e:qT nd a=v)(hv:v<=1000000):((bE nd).getD (4*(a:Int)+3).toNat 0).toInt=(v:Int):=SQ ⟨J,J⟩ ((apy h).trans (by rw[e])) hv
theorem Fo.small(h:Fo nd cl)(ha:a<nd.length):kN nd a<=nd.length/\tH nd a<=nd.length:=⟨h.sn a ha,by obtain⟨_,_,t,_,q⟩:=h.szb ha;omega⟩
theorem Fo.aiq(h:Fo nd cl)(ha:a<nd.length)(hu:sL nd a=a):qT nd a<=nd.length:=by grind[Fo,sL,qT]
theorem axj(h:Fo nd cl)(p:UnP nd cl i j a b):Fo (pL nd a b) (iI cl (cm cl i.toNat) (cm cl j.toNat))/\leads (iI cl (cm cl i.toNat) (cm cl j.toNat))+1=leads cl:=by
 have h1:=h.join p.ha p.hb p.ab p.ua p.ub
 have h2:=Zh h p.ha p.hb p.ab p.ua p.ub
 rcases p.c with⟨e1,e2⟩|⟨e1,e2⟩
 .rw[e1,e2]at h1 h2;exact⟨h1,h2⟩
 rw[e1,e2,Zi]at h1 h2;exact⟨h1,h2⟩
theorem I0{x y:Nat}:(iI cl x y).length=cl.length:=by simp[iI]
end
theorem asx{W:List (BitVec 64)}{us:List jS}{tn:List Nat}{cs:List (List Nat)}(h:Hs W us tn cs)(hk:0<tn.length):∃t tn2 cl c2 cs2,tn=t::tn2/\cs=cl::c2::cs2:=by
 cases tn with
 |nil=>simp at hk
 |cons t tn2=>
  cases cs with
  |nil=>exact h.elim
  |cons cl cs=>
   cases cs with
   |nil=>exact h.elim
   |cons c2 cs2=>exact⟨t,tn2,cl,c2,cs2,rfl,rfl⟩
def Kc(tn:List Nat):List Int:=tn.reverse.map Int.ofNat
theorem xm(tn:List Nat):(Kc tn).length=tn.length:=by simp[Kc]
theorem GL(t:Nat)(tn:List Nat):Kc (t::tn)=Kc tn++[(t:Int)]:=by simp[Kc]
theorem asy{t:Nat}{tn:List Nat}{k:Int}(h:k=(tn.length:Int)):((Kc (t::tn)).map E.I)[k.toNat*1]?=some (E.I t):=by grind[GL,xm]
theorem VH{t:Nat}{tn:List Nat}:((Kc (t::tn)).map E.I).take (tn.length*1)=(Kc tn).map E.I:=by grind[GL,xm]
theorem ang{W:List (BitVec 64)}{us:List jS}{t:Nat}{tn:List Nat}{cl c2:List Nat}{cs:List (List Nat)}(h:Hs W us (t::tn) (cl::c2::cs)):∃nd nd2,W=bE nd/\Fo nd cl/\jK W us t=bE nd2/\Fo nd2 c2/\Hs (bE nd2) (us.take t) tn (c2::cs):=by
 obtain⟨nd,h1,h2⟩:=h.now
 obtain⟨nd2,h3,h4⟩:=h.back.now
 have:=h.back
 rw[h3]at this
 exact⟨nd,nd2,h1,h2,h3,h4,this⟩
theorem Nj(cl:List Nat):leads cl<=cl.length:=by grind[leads,cm]
theorem Hs.Zy{W:List (BitVec 64)}{us:List jS}{tn:List Nat}{cs:List (List Nat)}{cl:List Nat}(h:Hs W us tn (cl::cs)):cl.length<=tn.length:=by
 induction tn generalizing W us cl cs with
 |nil=>
  cases cs with
  |nil=>obtain⟨_,rfl,_⟩:=h;simp
  |cons c cs=>exact h.elim
 |cons t tn ih=>
  cases cs with
  |nil=>exact h.elim
  |cons c2 cs=>
   have h1:=ih h.back
   have h2:=h.cnt
   unfold GG at h2
   simp only[fw];omega
structure GM(ul mv:List (Value×jS))(tn JJ:List Nat)(cs FG:List (List Nat))(W1:List (BitVec 64)):Prop where
 hs:Hs W1 (mv.map Prod.snd) JJ FG
 ok:Na W1.length (mv.map Prod.snd)
 sub:∀x∈mv,x∈ul
 le:mv.length<=ul.length
 cs:FG=cs.drop (tn.length-JJ.length)
 tn:JJ.length<=tn.length
section
variable{ul mv:List (Value×jS)}{tn JJ:List Nat}{cs FG:List (List Nat)}{W1:List (BitVec 64)}
theorem GM.start(h:Hs W1 (ul.map Prod.snd) tn cs)(hok:Na W1.length (ul.map Prod.snd)):GM ul ul tn tn cs cs W1:=by grind[Hs,Na,GM]
theorem GM.next{t:Nat}{cl c2:List Nat}{cs2:List (List Nat)}{nd2:List qD}(h:GM ul mv tn (t::JJ) cs (cl::c2::cs2) W1)(e:jK W1 (mv.map Prod.snd) t=bE nd2):GM ul (mv.take t) tn JJ cs (c2::cs2) (bE nd2):=by
 have ht:=h.hs.le
 rw[gF]at ht
 have hb:=h.hs.back
 rw[e,<-Ca]at hb
 have ho:=Vo h.ok (t:=t) (by rw[gF];exact ht)
 rw[e,<-Ca]at ho
 have hn:=h.tn
 rw[fw]at hn
 refine⟨hb,ho,fun x hx=>h.sub x (r7 hx),by rw[dW];have:=h.le;omega,?_,J⟩
 have hc:=h.cs
 rw[fw]at hc
 rw[show tn.length-JJ.length=tn.length-(JJ.length+1)+1 by omega,<-RB,<-hc];rfl
end
end
end Go.Proofs.YtlhjdflgjbkpmaaGreatDoor.M
namespace Go.Proofs.YtlhjdflgjbkpmaaGreatDoor.E
section
open Go Go.RowKit Go.Proofs.YtlhjdflgjbkpmaaGreatDoor.M
theorem Hp.anh{w0 w:World}{L:List bu}{v:Value}{e:TypeId}{sz n m i:Nat}{xs:List Value}(h:Hp w0 w L)(hi:L[i]?=some (.row v e sz n xs))(hm:m<=n):Hp w0 w (L.set i (.row (uL v m) e sz m (xs.take (m*sz)))):=by
 have hr:w.ownsRow w0.heap.size e sz v n xs:=h.get hi
 obtain⟨h1,h2⟩:=hr
 have hle:m*sz<=n*sz:=r6 _ hm
 rcases h2 with⟨rfl,rfl⟩|⟨gb,cap,cur,rfl,hb,hg,hn,hc,hs,ht⟩
 .have:m=0:=J
  subst this
  refine h.xl hi O ⟨aJ,.inl ⟨rfl,rfl⟩⟩
 refine h.xl hi O ⟨by rw[dW,h1];omega,.inr ⟨gb,cap,cur,rfl,hb,hg,J,hc,hs,?_⟩⟩
 rw[<-ht,B8];congr 1;omega
end
end Go.Proofs.YtlhjdflgjbkpmaaGreatDoor.E
namespace Go.Proofs.YtlhjdflgjbkpmaaGreatDoor.M
section
open Go
def bB(cs:List (List Nat)):List Nat:=cs.headD []
def SX(cs:List (List Nat)):List (List Nat):=(bB cs++[(bB cs).length])::cs
def jy(cs:List (List Nat))(i j:Int):List (List Nat)×Bool:=
 if fN (bB cs) i<0\/fN (bB cs) j<0\/fN (bB cs) i=fN (bB cs) j then(cs,false)
 else(iI (bB cs) (fN (bB cs) i).toNat (fN (bB cs) j).toNat::cs,true)
def CK(cs:List (List Nat))(m:Int):List (List Nat)×Bool:=
 if(cs.length:Int)-1<m then(cs,false)else(cs.drop (cs.length-1-(max 0 m).toNat),true)
theorem aed{cl:List Nat}{i:Int}:fN cl i<0↔¬(0<=i/\i<cl.length):=by grind[fN]
theorem I1{cs:List (List Nat)}{i j:Int}(h:IZ (bB cs).length (bB cs) i j):jy cs i j=(iI (bB cs) (cm (bB cs) i.toNat) (cm (bB cs) j.toNat)::cs,true):=by grind[IZ,bB,jy,iI,cm,nc]
theorem Nk{cs:List (List Nat)}{i j:Int}(h:¬IZ (bB cs).length (bB cs) i j):jy cs i j=(cs,false):=by grind[IZ,bB,jy,nc,aed]
end
end Go.Proofs.YtlhjdflgjbkpmaaGreatDoor.M
namespace Go.Proofs.YtlhjdflgjbkpmaaGreatDoor.E
section
open Go Go.RowKit Go.Proofs.YtlhjdflgjbkpmaaGreatDoor.M
structure FTy where
 ut:UT
 tf:TypeId
 tu:TypeId
 tfn:TypeId
 ti:TypeId
structure FoI(T:FTy)(F m:Nat)(cs:List (List Nat))(vW vU vT:Value)(cW cU:Option (Nat×Array Value))(W:List (BitVec 64))(ul:List (Value×jS))(tn:List Nat)(Lb:List bu):Prop where
 hW:cO cW vW (W.map U)
 hU:cO cU vU (ul.map Prod.fst)
 hs:Hs W (ul.map Prod.snd) tn cs
 ok:Na W.length (ul.map Prod.snd)
 un:∀x∈ul,pM T.ut F Lb x
 lu:ul.length<=5*m
 lt:tn.length<=m
def foL(T:FTy)(F:Nat)(cs:List (List Nat))(vW vU vT:Value)(cW cU:Option (Nat×Array Value))(W:List (BitVec 64))(ul:List (Value×jS))(tn:List Nat)(Lb:List bu):List bu:=
 .blk F (.cells #[vW,vU,vT,I ((leads (bB cs):Nat):Int)] T.tf (0,0))::cE cW vW T.tu (W.map U)::cE cU vU T.tfn (ul.map Prod.fst):: .row vT T.ti 1 tn.length ((Kc tn).map I)::Lb
def FoZ(T:FTy)(F m:Nat)(cs:List (List Nat))(Z:List bu):Prop:=
 ∃(vW vU vT:Value) (cW cU:Option (Nat×Array Value)) (W:List (BitVec 64)) (ul:List (Value×jS)) (tn:List Nat) (Lb:List bu),Z=foL T F cs vW vU vT cW cU W ul tn Lb/\FoI T F m cs vW vU vT cW cU W ul tn Lb
theorem FoZ.more{T:FTy}{F m m':Nat}{cs:List (List Nat)}{Z:List bu}(h:FoZ T F m cs Z)(hm:m<=m'):FoZ T F m' cs Z:=by
 obtain⟨vW,vU,vT,cW,cU,W,ul,tn,Lb,e,i⟩:=h
 exact⟨vW,vU,vT,cW,cU,W,ul,tn,Lb,e,i.hW,i.hU,i.hs,i.ok,i.un,by have:=i.lu;omega,by have:=i.lt;omega⟩
theorem FoI.now{T:FTy}{F m:Nat}{cs:List (List Nat)}{vW vU vT:Value}{cW cU:Option (Nat×Array Value)}{W:List (BitVec 64)}{ul:List (Value×jS)}{tn:List Nat}{Lb:List bu}(h:FoI T F m cs vW vU vT cW cU W ul tn Lb):
  ∃nd cl A7,cs=cl::A7/\W=bE nd/\Fo nd cl/\nd.length=cl.length/\cl.length<=m/\tn.length+1=cs.length/\leads cl<=m:=by
 cases cs with
 |nil=>exact h.hs.ne.elim
 |cons cl A7=>
  obtain⟨nd,h1,h2⟩:=h.hs.now
  have h3:=h.hs.Zy;have h4:=h.lt;have h5:=Nj cl;have h6:=h.hs.len
  exact⟨nd,cl,A7,rfl,h1,h2,h2.len.symm,J,J,J⟩
theorem FoZ.new{T:FTy}{F:Nat}:FoZ T F 0 [[]] [.blk F (.cells #[.slice none 0 0,.slice none 0 0,.slice none 0 0,I 0] T.tf (0,0)),.row (.slice none 0 0) T.tu 1 0 [],.row (.slice none 0 0) T.tfn 1 0 [],.row (.slice none 0 0) T.ti 1 0 []]:=by
 refine⟨.slice none 0 0,.slice none 0 0,.slice none 0 0,none,none,[],[],[],[],rfl,trivial,trivial,Hs.start,trivial,fun x hx=>(by cases hx),aJ,aJ⟩
section
variable{α:Type}{f:α->Value}{cl:α->List Value}{l:List α}{a:α}
theorem ais{k:Nat}(hk:k<l.length):qM (l.map f) (k*1) [f a]=(l.set k a).map f:=by simp_all[CI]
theorem DW{sz:Nat}(hsz:∀a,(cl a).length=sz):∀{l:List α} {k:Nat},k<l.length->qM (l.flatMap cl) (k*sz) (cl a)=(l.set k a).flatMap cl
 |[],k,h=>by simp at h
 |b::l,0,h=>by
  simp only[qM,RH,xK,eN,gO,uC,jh,hsz]
  rw[Lg (by rw[hsz];exact fh _),Ll (by rw[hsz];exact fh _),eN]
 |b::l,k+1,h=>by
  have ih:=DW hsz (l:=l) (k:=k) x7
  have hb:=hsz b
  simp only[qM,hsz,uC,kZ]at ih⊢
  rw[<-ih,show(k+1)*sz=(cl b).length+k*sz by rw[hb,lz];omega,Xx,show(cl b).length+k*sz+sz=(cl b).length+(k*sz+sz)by omega,List.drop_length_add_append,dG,dG,dG]
theorem Qv{sz:Nat}(hsz:∀a,(cl a).length=sz):∀{l:List α} {m:Nat},m<=l.length->(l.flatMap cl).take (m*sz)=(l.take m).flatMap cl
 |l,0,h=>by simp
 |[],m+1,h=>by simp at h
 |b::l,m+1,h=>by
  have ih:=Qv hsz (l:=l) (m:=m) x7
  have hb:=hsz b
  rw[uC,HE,uC,<-ih,show(m+1)*sz=(cl b).length+m*sz by rw[hb,lz];omega,Xx]
end
section
variable{P:Program}{n:Nat}{ops:Array Oper}{k:K}{rest lo:List Oper}{σ:Env}{w0 w:World}{L L':List bu}{ty t e:TypeId}{pos:String}{bO:Array Edge}{d:Nat}{x y:Operand}{g:Option (Nat×Bool)}{v u:Value}{sz m i fuel j:Nat}{q:Int}{dst:Option Tmp}{listed:Array Bool}
variable{α:Type}{f:α->Value}{cl:α->List Value}{l:List α}{a:α}
abbrev jW(f:α->Value)(v:Value)(e:TypeId)(l:List α):bu:= .row v e 1 l.length (l.map f)
abbrev wh(cl:α->List Value)(sz:Nat)(v:Value)(e:TypeId)(l:List α):bu:= .row v e sz l.length (l.flatMap cl)
theorem abJ(hH:Hp w0 w L)(hi:L[i]?=some (jW f v e l))(hk:0<=q/\q<l.length)(hx:ev σ x= .pointer (some ⟨sb v,so v+q.toNat*1,none⟩))(hy:ev σ y=f a)(hv:(f a).cells=#[f a])(h1:(f a).oneCell'=true)(hs:(P.info? t).map (·.size)=some 1):
  ∃w',(execOp (ev σ) ⟨dst,.store t x y,ty,pos,bO,g⟩).run P w= .ok .skip w'/\Hp w0 w' (L.set i (jW f v e (l.set q.toNat a))):=by
 obtain⟨w',hr,h2⟩:=GD (dst:=dst) (ty:=ty) (pos:=pos) (bO:=bO) (g:=g) hH hi J hx hy hv h1 hs J
 rw[ais J]at h2
 exact⟨w',hr,by unfold jW;rw[nY];exact h2⟩
theorem rD(hH:Hp w0 w L)(hi:L[i]?=some (jW f v e l))(hk:0<=q/\q<l.length)(hx:ev σ x= .pointer (some ⟨sb v,so v+q.toNat*1,none⟩))(hy:ev σ y=f a)(hv:(f a).cells=#[f a])(h1:(f a).oneCell'=true)(hs:(P.info? t).map (·.size)=some 1)
  (hn:∀w',Hp w0 w' (L.set i (jW f v e (l.set q.toNat a)))->RL P n ops k rest σ w'):RL P n ops k (⟨none,.store t x y,ty,pos,bO,none⟩::rest) σ w:=by
 obtain⟨w',hr,h2⟩:=abJ (dst:=none) (ty:=ty) (pos:=pos) (bO:=bO) (g:=none) hH hi hk hx hy hv h1 hs
 exact Ie hr (hn w' h2)
theorem Zz(hj:lo[j]?=some ⟨none,.store t x y,ty,pos,bO,g⟩)(hg:∀a,Is n σ a->Region.wanted ⟨none,.store t x y,ty,pos,bO,g⟩ (yielded lo.toArray a.tmps)=true)(hH:Hp w0 w L)(hi:L[i]?=some (jW f v e l))(hsub:∀r,L'.Sublist (L.set i r))(hk:0<=q/\q<l.length)
  (hx:ev σ x= .pointer (some ⟨sb v,so v+q.toNat*1,none⟩)) (hy:ev σ y=f a) (hv:(f a).cells=#[f a]) (h1:(f a).oneCell'=true) (hs:(P.info? t).map (·.size)=some 1)
  (hn:∀w',Hp w0 w' (L.set i (jW f v e (l.set q.toNat a)))->AN P n lo (fun w=>Hp w0 w L') k fuel (listed.setIfInBounds j true) σ w'):AO P n lo (fun w=>Hp w0 w L') k fuel listed σ w j:=by
 obtain⟨w',hr,h2⟩:=abJ (dst:=none) (ty:=ty) (pos:=pos) (bO:=bO) (g:=g) hH hi hk hx hy hv h1 hs
 exact Ii hj hg hr (h2.sub (hsub _)) (hn w' h2)
theorem abK(hsz:∀a,(cl a).length=sz)(hpos:0<sz)(hH:Hp w0 w L)(hi:L[i]?=some (wh cl sz v e l))(hk:0<=q/\q<l.length)(hx:ev σ x= .pointer (some ⟨sb v,so v+q.toNat*sz,none⟩))(hy:ev σ y= .agg (cl a).toArray)(h1:∀u∈cl a,u.oneCell'=true)(hs:(P.info? t).map (·.size)=some sz):
  ∃w',(execOp (ev σ) ⟨dst,.store t x y,ty,pos,bO,g⟩).run P w= .ok .skip w'/\Hp w0 w' (L.set i (wh cl sz v e (l.set q.toNat a))):=by
 obtain⟨w',hr,h2⟩:=Y5 (dst:=dst) (ty:=ty) (pos:=pos) (bO:=bO) (g:=g) hH hi J hx hy h1 (by rw[hsz];exact hs) (by
  rw[hsz]
  have:(q.toNat+1)*sz<=l.length*sz:=r6 _ J
  rw[lz]at this;omega)
 rw[DW hsz J]at h2
 exact⟨w',hr,by unfold wh;rw[nY];exact h2⟩
theorem aEg(hsz:∀a,(cl a).length=sz)(hpos:0<sz)(hH:Hp w0 w L)(hi:L[i]?=some (wh cl sz v e l))(hk:0<=q/\q<l.length)(hx:ev σ x= .pointer (some ⟨sb v,so v+q.toNat*sz,none⟩))(hy:ev σ y= .agg (cl a).toArray)(h1:∀u∈cl a,u.oneCell'=true)(hs:(P.info? t).map (·.size)=some sz)
  (hn:∀w',Hp w0 w' (L.set i (wh cl sz v e (l.set q.toNat a)))->RL P n ops k rest σ w'):RL P n ops k (⟨none,.store t x y,ty,pos,bO,none⟩::rest) σ w:=by
 obtain⟨w',hr,h2⟩:=abK (dst:=none) (ty:=ty) (pos:=pos) (bO:=bO) (g:=none) hsz hpos hH hi hk hx hy h1 hs
 exact Ie hr (hn w' h2)
theorem ZA(hj:lo[j]?=some ⟨none,.store t x y,ty,pos,bO,g⟩)(hg:∀a,Is n σ a->Region.wanted ⟨none,.store t x y,ty,pos,bO,g⟩ (yielded lo.toArray a.tmps)=true)(hsz:∀a,(cl a).length=sz)(hpos:0<sz)(hH:Hp w0 w L)(hi:L[i]?=some (wh cl sz v e l))(hsub:∀r,L'.Sublist (L.set i r))(hk:0<=q/\q<l.length)
  (hx:ev σ x= .pointer (some ⟨sb v,so v+q.toNat*sz,none⟩)) (hy:ev σ y= .agg (cl a).toArray) (h1:∀u∈cl a,u.oneCell'=true) (hs:(P.info? t).map (·.size)=some sz)
  (hn:∀w',Hp w0 w' (L.set i (wh cl sz v e (l.set q.toNat a)))->AN P n lo (fun w=>Hp w0 w L') k fuel (listed.setIfInBounds j true) σ w'):AO P n lo (fun w=>Hp w0 w L') k fuel listed σ w j:=by
 obtain⟨w',hr,h2⟩:=abK (dst:=none) (ty:=ty) (pos:=pos) (bO:=bO) (g:=g) hsz hpos hH hi hk hx hy h1 hs
 exact Ii hj hg hr (h2.sub (hsub _)) (hn w' h2)
theorem ani{off:Nat}{b:α}(hsz:∀a,(cl a).length=sz)(hH:Hp w0 w L)(hi:L[i]?=some (wh cl sz v e l))(hk:0<=q/\q<l.length)(hx:ev σ x= .pointer (some ⟨sb v,so v+q.toNat*sz+off,none⟩))(hy:ev σ y=u)(hv:u.cells=#[u])(h1:u.oneCell'=true)(hs:(P.info? t).map (·.size)=some 1)
  (ho:off<sz) (hb:cl b=(cl (l.getD q.toNat a)).set off u):
  ∃w',(execOp (ev σ) ⟨dst,.store t x y,ty,pos,bO,g⟩).run P w= .ok .skip w'/\Hp w0 w' (L.set i (wh cl sz v e (l.set q.toNat b))):=by
 have hle:(q.toNat+1)*sz<=l.length*sz:=r6 _ J
 rw[lz]at hle
 obtain⟨w',hr,h2⟩:=GD (dst:=dst) (ty:=ty) (pos:=pos) (bO:=bO) (g:=g) (o:=q.toNat*sz+off) hH hi J (by rw[hx,zH]) hy hv h1 hs J
 have e1:qM (l.flatMap cl) (q.toNat*sz+off) [u]=qM (l.flatMap cl) (q.toNat*sz) (cl b):=by
  rw[CI (by rw[fK hsz];omega)]
  apply ug
  intro p
  have hg:=fun j c h=>flat_get hsz l q.toNat (l.getD q.toNat a) (fF hk.1 hk.2) j c h
  rw[p9,fK hsz]
  have lb:=hsz b
  unfold qM
  by_cases h1:p<q.toNat*sz
  .rw[aT J,dG,zD (by rw[dW,fK hsz];omega),u9,aX h1]
  by_cases h2:p<q.toNat*sz+sz
  .rw[dG,E1 (by rw[dW,fK hsz];omega),dW,fK hsz,qt J,zD J,hb,p9,hsz]
   by_cases h3:q.toNat*sz+off=p
   .rw[aX h3,aX J,aX J,aX J]
   rw[aT h3,aT J]
   have hl:p-q.toNat*sz<(cl (l.getD q.toNat a)).length:=by rw[hsz];omega
   have:=hg (p-q.toNat*sz) _ (eF hl)
   rw[show q.toNat*sz+(p-q.toNat*sz)=p by omega]at this
   rw[this,eF hl]
  rw[aT J,E1 (by simp only[ec,dW,fK hsz,lb];omega),B5]
  congr 1
  simp only[ec,dW,fK hsz,lb];omega
 rw[e1,DW hsz J]at h2
 exact⟨w',hr,by unfold wh;rw[nY];exact h2⟩
theorem asA{off:Nat}{b:α}(hsz:∀a,(cl a).length=sz)(hH:Hp w0 w L)(hi:L[i]?=some (wh cl sz v e l))(hk:0<=q/\q<l.length)(hx:ev σ x= .pointer (some ⟨sb v,so v+q.toNat*sz+off,none⟩))(hy:ev σ y=u)(hv:u.cells=#[u])(h1:u.oneCell'=true)(hs:(P.info? t).map (·.size)=some 1)
  (ho:off<sz) (hb:cl b=(cl (l.getD q.toNat a)).set off u) (hn:∀w',Hp w0 w' (L.set i (wh cl sz v e (l.set q.toNat b)))->RL P n ops k rest σ w'):RL P n ops k (⟨none,.store t x y,ty,pos,bO,none⟩::rest) σ w:=by
 obtain⟨w',hr,h2⟩:=ani (dst:=none) (ty:=ty) (pos:=pos) (bO:=bO) (g:=none) (a:=a) hsz hH hi hk hx hy hv h1 hs ho hb
 exact Ie hr (hn w' h2)
theorem asB{ie:TypeInfo}{z:Value}{bytes:Nat}(hd:Nat.blt d n=true)(hH:Hp w0 w L)(hL:L[i]?=some (jW f v e l))(hS:Sl w u 1 1 [f a])(hx:ev σ x=v)(hy:ev σ y=u)(ht:P.underlying t=some (.slice e))(hie:P.info? e=some ie)(hz:ie.zero=some z)
  (hsize:ie.size=1) (hby:ie.bytes=bytes) (hzs:z.cells.size=1) (h1:(f a).oneCell'=true) (hb:l.length+1<=700000000000) (J4:bytes<=200)
  (hn:∀v' w',Hp w0 w' (L.set i (jW f v' e (l++[a])))->RL P n ops k rest (lZ σ d v') w'):RL P n ops k (⟨some d,.call {callee:= .builtin .append,args:=#[x,y],argTypes:=#[t,t]},ty,pos,bO,none⟩::rest) σ w:=by
 refine gf hd hH hL hS hx hy ht hie hz hsize hby hzs J (fun u hu=>by rw[gG.1 hu];exact h1) (kL (xQ hb J4) az) iz fun v' w' h=>hn v' w' ?_
 unfold jW;rw[ec,gV];exact h
theorem SY{ie:TypeInfo}{z:Value}{bytes:Nat}(hj:lo[j]?=some ⟨some d,.call {callee:= .builtin .append,args:=#[x,y],argTypes:=#[t,t]},ty,pos,bO,g⟩)(hg:∀a,Is n σ a->Region.wanted ⟨some d,.call {callee:= .builtin .append,args:=#[x,y],argTypes:=#[t,t]},ty,pos,bO,g⟩ (yielded lo.toArray a.tmps)=true)
  (hd:Nat.blt d n=true) (hH:Hp w0 w L) (hL:L[i]?=some (jW f v e l)) (hsub:∀r,L'.Sublist (L.set i r)) (hS:Sl w u 1 1 [f a]) (hx:ev σ x=v) (hy:ev σ y=u) (ht:P.underlying t=some (.slice e)) (hie:P.info? e=some ie) (hz:ie.zero=some z)
  (hsize:ie.size=1) (hby:ie.bytes=bytes) (hzs:z.cells.size=1) (h1:(f a).oneCell'=true) (hb:l.length+1<=700000000000) (J4:bytes<=200)
  (hn:∀v' w',Hp w0 w' (L.set i (jW f v' e (l++[a])))->AN P n lo (fun w=>Hp w0 w L') k fuel (listed.setIfInBounds j true) (lZ σ d v') w'):AO P n lo (fun w=>Hp w0 w L') k fuel listed σ w j:=by
 refine fT hj hg hd hH hL (fun _=>hsub _) hS hx hy ht hie hz hsize hby hzs J (fun u hu=>by rw[gG.1 hu];exact h1) (kL (xQ hb J4) az) iz fun v' w' h=>hn v' w' ?_
 unfold jW;rw[ec,gV];exact h
theorem asC{ie:TypeInfo}{z:Value}{bytes:Nat}(hsz:∀a,(cl a).length=sz)(hpos:0<sz)(hd:Nat.blt d n=true)(hH:Hp w0 w L)(hL:L[i]?=some (wh cl sz v e l))(hS:Sl w u sz [a].length ([a].flatMap cl))(hx:ev σ x=v)(hy:ev σ y=u)(ht:P.underlying t=some (.slice e))(hie:P.info? e=some ie)(hz:ie.zero=some z)
  (hsize:ie.size=sz) (hby:ie.bytes=bytes) (hzs:z.cells.size=sz) (h1:∀u∈cl a,u.oneCell'=true) (hb:l.length+1<=700000000000) (J4:bytes<=200)
  (hn:∀v' w',Hp w0 w' (L.set i (wh cl sz v' e (l++[a])))->RL P n ops k rest (lZ σ d v') w'):RL P n ops k (⟨some d,.call {callee:= .builtin .append,args:=#[x,y],argTypes:=#[t,t]},ty,pos,bO,none⟩::rest) σ w:=by
 refine gf hd hH hL hS hx hy ht hie hz hsize hby hzs hpos (fun u hu=>h1 u q5) (kL (xQ hb J4) az) (by simp only[maxLen,eA];omega) fun v' w' h=>hn v' w' ?_
 unfold wh;rw[ec,Gb];exact h
theorem SZ{ie:TypeInfo}{z:Value}{bytes:Nat}(hj:lo[j]?=some ⟨some d,.call {callee:= .builtin .append,args:=#[x,y],argTypes:=#[t,t]},ty,pos,bO,g⟩)(hg:∀a,Is n σ a->Region.wanted ⟨some d,.call {callee:= .builtin .append,args:=#[x,y],argTypes:=#[t,t]},ty,pos,bO,g⟩ (yielded lo.toArray a.tmps)=true)
  (hsz:∀a,(cl a).length=sz) (hpos:0<sz) (hd:Nat.blt d n=true) (hH:Hp w0 w L) (hL:L[i]?=some (wh cl sz v e l)) (hsub:∀r,L'.Sublist (L.set i r)) (hS:Sl w u sz [a].length ([a].flatMap cl)) (hx:ev σ x=v) (hy:ev σ y=u) (ht:P.underlying t=some (.slice e)) (hie:P.info? e=some ie) (hz:ie.zero=some z)
  (hsize:ie.size=sz) (hby:ie.bytes=bytes) (hzs:z.cells.size=sz) (h1:∀u∈cl a,u.oneCell'=true) (hb:l.length+1<=700000000000) (J4:bytes<=200)
  (hn:∀v' w',Hp w0 w' (L.set i (wh cl sz v' e (l++[a])))->AN P n lo (fun w=>Hp w0 w L') k fuel (listed.setIfInBounds j true) (lZ σ d v') w'):AO P n lo (fun w=>Hp w0 w L') k fuel listed σ w j:=by
 refine fT hj hg hd hH hL (fun _=>hsub _) hS hx hy ht hie hz hsize hby hzs hpos (fun u hu=>h1 u q5) (kL (xQ hb J4) az) (by simp only[maxLen,eA];omega) fun v' w' h=>hn v' w' ?_
 unfold wh;rw[ec,Gb];exact h
theorem asD{ie:TypeInfo}{z:Value}{bytes:Nat}{c:Option (Nat×Array Value)}(hd:Nat.blt d n=true)(hH:Hp w0 w L)(hL:L[i]?=some (cE c v e (l.map f)))(hk:cO c v (l.map f))(hS:Sl w u 1 1 [f a])(hx:ev σ x=v)(hy:ev σ y=u)(ht:P.underlying t=some (.slice e))(hie:P.info? e=some ie)(hz:ie.zero=some z)
  (hsize:ie.size=1) (hby:ie.bytes=bytes) (hzs:z.cells.size=1) (h1:(f a).oneCell'=true) (hb:l.length+1<=700000000000) (J4:bytes<=200)
  (hn:∀v' w',Hp w0 w' (L.set i (cE none v' e ((l++[a]).map f)))->RL P n ops k rest (lZ σ d v') w'):RL P n ops k (⟨some d,.call {callee:= .builtin .append,args:=#[x,y],argTypes:=#[t,t]},ty,pos,bO,none⟩::rest) σ w:=by
 have hll:(l.map f).length=l.length:=gF ..
 obtain⟨v',w',hr,h2⟩:=Vy (P:=P) (ty:=ty) (dst:=some d) (pos:=pos) (bO:=bO) (g:=none) (ats:=t) hH hL hk hS hx hy ht hie hz hsize hby hzs J (fun u hu=>by rw[gG.1 hu];exact h1) J (by rw[hll];exact kL (xQ hb J4) az) (by rw[hll];simp only[maxLen];omega)
 refine pu hd hr (hn v' w' ?_)
 unfold cE Vx;rw[gV,ec];exact h2
theorem lN{dv:α}{q:Int}(h:0<=q/\q<l.length):(l.map f)[q.toNat*1]?=some (f (l.getD q.toNat dv)):=by grind
theorem Hp.aEh(h:Hp w0 w L)(hi:L[i]?=some (jW f v e l))(hm:m<=l.length):Hp w0 w (L.set i (jW f (uL v m) e (l.take m))):=by
 have:=h.anh hi hm
 unfold jW;rw[dW,qt hm,Ca]
 rwa[lX]at this
theorem Hp.axl(hsz:∀a,(cl a).length=sz)(h:Hp w0 w L)(hi:L[i]?=some (wh cl sz v e l))(hm:m<=l.length):Hp w0 w (L.set i (wh cl sz (uL v m) e (l.take m))):=by
 have:=h.anh hi hm
 unfold wh;rw[dW,qt hm,<-Qv hsz hm];exact this
end
theorem ait{s1 s2:List Int}{a k:Int}(h:(s1++a::s2).getD k.toNat 0≠a)(h0:(s1.length:Int)<=k):(s1.length:Int)<k:=by grind
theorem asE{s1 s2:List Int}{a k:Int}(hn:a∉s2)(h:(s1++a::s2).getD k.toNat 0=a)(h0:(s1.length:Int)<=k)(h1:k<=s1.length+s2.length):k=s1.length:=by grind
theorem dy{α:Type}{l:List α}{d:α}{k:Int}(h0:0<=k)(h1:k<l.length):l.getD k.toNat d∈l:=by grind
theorem asF{p:Nat->Prop}{k:Int}(h0:0<=k)(h:∀q:Nat,q<k.toNat->p q)(hk:p k.toNat):∀q:Nat,q<(k+1).toNat->p q:=by grind
theorem DX{w:World}{v:Value}{s1 s2:List Int}{a k:Int}(hk:k=s1.length)(h:Sl w v 1 ((s1++a::s2).map I).length ((s1++a::s2).map I)):Sl w (o8 v 1 k.toNat) 1 (a::s2).length ((a::s2).map I):=by
 have:=Sl.fr h s1.length aJ
 subst hk
 rw[eC]
 rw[show((s1++a::s2).map I).length-s1.length=(a::s2).length by simp,lX,gV,Lg aJ,Ll aJ,eN]at this
 exact this
theorem aee{P:Program}{σ:Env}{w:World}{t te ty u:TypeId}{pos:String}{bO:Array Edge}{dst:Option Tmp}{g:Option (Nat×Bool)}{x y:Operand}{a:Addr}(ht:P.underlying t=some (.pointer te))(hx:ev σ x= .pointer (some a))(hy:ev σ y= .pointer none):
  (execOp (ev σ) ⟨dst,.binOp .neq t x y u,ty,pos,bO,g⟩).run P w= .ok (.value (.bool true)) w:=by
 have h:(binOp .neq t (.pointer (some a)) (.pointer none)).run P w= .ok (.bool true) w:=by
  simp only[binOp];simp[Op.equal,Op.maxDepth,FD 9999 ht]
 have he:(eqGuard .neq t x y (.pointer (some a)) (.pointer none))=pure ():=rfl
 simp only[execOp,hx,hy,he];simp[h]
theorem VI{P:Program}{σ:Env}{w:World}{ty:TypeId}{pos:String}{bO:Array Edge}{dst:Option Tmp}{g:Option (Nat×Bool)}{x1 x2 x3 x4:Operand}{v1 v2 v3 v4:Value}{fn:Fn}(h1:ev σ x1=v1)(h2:ev σ x2=v2)(h3:ev σ x3=v3)(h4:ev σ x4=v4):(execOp (ev σ) ⟨dst,.makeFunc fn #[] #[x1,x2,x3,x4],ty,pos,bO,g⟩).run P w= .ok (.value (.func fn #[] #[v1,v2,v3,v4])) w:=by simp_all[uK]
structure j4 where
 v:Value
 l:List Int
def de:j4:=⟨.slice none 0 0,[]⟩
def GrV(K:Vu)(v:Value)(g:List j4):Prop:=oR K v 1 g.length (g.map j4.v)/\∀x∈g,oR K x.v 1 x.l.length (x.l.map I)
theorem GrV.mono{K K':Vu}{v:Value}{g:List j4}(h:GrV K v g)(hl:Le K K'):GrV K' v g:=⟨h.1.mono hl,fun x hx=>(h.2 x hx).mono hl⟩
theorem GrV.row{K:Vu}{v:Value}{g:List j4}(h:GrV K v g){k:Int}(h0:0<=k)(h1:k<g.length):oR K (g.getD k.toNat de).v 1 (g.getD k.toNat de).l.length ((g.getD k.toNat de).l.map I):=h.2 _ (dy h0 h1)
theorem GrV.at{K:Vu}{v:Value}{g:List j4}(h:GrV K v g){k:Int}(h0:0<=k/\k<g.length):(g.map j4.v)[k.toNat*1]?=some (g.getD k.toNat de).v:=lN h0
def qh(g:List j4):List (List Int):=g.map j4.l
theorem FH{g:List j4}{k:Nat}:(qh g).getD k []=(g.getD k de).l:=by grind[j4,qh,de]
theorem gA{g:List j4}:(qh g).length=g.length:=gF ..
def dR(t:TypeId)(x:j4):bu:= .row x.v t 1 x.l.length (x.l.map I)
theorem Hp.Qw{w0 w:World}{L:List bu}{t:TypeId}{x:j4}(h:Hp w0 w L)(hm:dR t x∈L):Sl w x.v 1 x.l.length (x.l.map I):=Sl.Sf (h.ok _ hm)
theorem Hp.amF{w0 w:World}{L:List bu}(t:TypeId)(h:Hp w0 w L):∀n:Nat,Hp w0 w ((List.replicate n de).map (dR t)++L)
 |0=>h
 |n+1=>(h.amF t n).eR t 1
section
variable{P:Program}{n:Nat}{ops:Array Oper}{k:K}{rest lo:List Oper}{σ:Env}{w0 w:World}{A R L':List bu}{ty t e tE:TypeId}{pos:String}{bO:Array Edge}{d:Nat}{x y:Operand}{g:Option (Nat×Bool)}{v u:Value}{fuel j:Nat}{q:Int}{dst:Option Tmp}{listed:Array Bool}{gs:List j4}{a:Int}
theorem ZB(hq:0<=q/\q<gs.length):(A++(gs.map (dR tE)++R))[A.length+q.toNat]?=some (dR tE (gs.getD q.toNat de)):=by grind
theorem ank{x:j4}(hq:0<=q/\q<gs.length):(A++(gs.map (dR tE)++R)).set (A.length+q.toNat) (dR tE x)=A++((gs.set q.toNat x).map (dR tE)++R):=ku
theorem Hp.hdr(h:Hp w0 w (A++(gs.map (dR tE)++R)))(hq:0<=q/\q<gs.length):(gs.getD q.toNat de).v.cells=#[(gs.getD q.toNat de).v]/\(gs.getD q.toNat de).v.oneCell'=true:=a6 (h.get (ZB hq))
theorem Hp.axn{r:j4}(h:Hp w0 w (A++((gs.set q.toNat r).map (dR tE)++R)))(hq:0<=q/\q<gs.length):r.v.cells=#[r.v]/\r.v.oneCell'=true:=by
 have h1:=h.hdr (q:=q) (by rw[nY];exact hq)
 have e:(gs.set q.toNat r).getD q.toNat de=r:=by rw[eT,p9,aX O,aX J];rfl
 rwa[e]at h1
theorem abL{ie:TypeInfo}{z:Value}{bytes:Nat}(hH:Hp w0 w (A++(gs.map (dR tE)++R)))(hq:0<=q/\q<gs.length)(hS:Sl w u 1 1 [I a])(hx:ev σ x=(gs.getD q.toNat de).v)(hy:ev σ y=u)(ht:P.underlying t=some (.slice tE))(hie:P.info? tE=some ie)(hz:ie.zero=some z)
  (hsize:ie.size=1) (hby:ie.bytes=bytes) (hzs:z.cells.size=1) (hb:(gs.getD q.toNat de).l.length+1<=700000000000) (J4:bytes<=200):
  ∃v' w',(execOp (ev σ) ⟨dst,.call {callee:= .builtin .append,args:=#[x,y],argTypes:=#[t,t]},ty,pos,bO,g⟩).run P w= .ok (.value v') w'/\Hp w0 w' (A++((gs.set q.toNat ⟨v',(gs.getD q.toNat de).l++[a]⟩).map (dR tE)++R)):=by
 obtain⟨v',w',hr,h2,h3,h4⟩:=s7 (P:=P) (ty:=ty) ht hie hz hsize hby hzs J (hH.get (ZB hq)) hS (fun u hu=>by rw[gG.1 hu];rfl) iz (kL (xQ hb J4) az) hH.size
 have h5:=hH.yH (ZB hq) h2 h3 h4
 refine⟨v',w',s0 hx hy hr,?_⟩
 rw[<-ank hq]
 unfold dR;rw[ec,gV];exact h5
theorem aEi{ie:TypeInfo}{z:Value}{bytes:Nat}(hd:Nat.blt d n=true)(hH:Hp w0 w (A++(gs.map (dR tE)++R)))(hq:0<=q/\q<gs.length)(hS:Sl w u 1 1 [I a])(hx:ev σ x=(gs.getD q.toNat de).v)(hy:ev σ y=u)(ht:P.underlying t=some (.slice tE))(hie:P.info? tE=some ie)(hz:ie.zero=some z)
  (hsize:ie.size=1) (hby:ie.bytes=bytes) (hzs:z.cells.size=1) (hb:(gs.getD q.toNat de).l.length+1<=700000000000) (J4:bytes<=200)
  (hn:∀v' w',Hp w0 w' (A++((gs.set q.toNat ⟨v',(gs.getD q.toNat de).l++[a]⟩).map (dR tE)++R))->RL P n ops k rest (lZ σ d v') w'):RL P n ops k (⟨some d,.call {callee:= .builtin .append,args:=#[x,y],argTypes:=#[t,t]},ty,pos,bO,none⟩::rest) σ w:=by
 obtain⟨v',w',hr,h2⟩:=abL (P:=P) (ty:=ty) (dst:=some d) (pos:=pos) (bO:=bO) (g:=none) hH hq hS hx hy ht hie hz hsize hby hzs hb J4
 exact pu hd hr (hn v' w' h2)
theorem aiv{ie:TypeInfo}{z:Value}{bytes:Nat}(hj:lo[j]?=some ⟨some d,.call {callee:= .builtin .append,args:=#[x,y],argTypes:=#[t,t]},ty,pos,bO,g⟩)(hg:∀a,Is n σ a->Region.wanted ⟨some d,.call {callee:= .builtin .append,args:=#[x,y],argTypes:=#[t,t]},ty,pos,bO,g⟩ (yielded lo.toArray a.tmps)=true)
  (hd:Nat.blt d n=true) (hH:Hp w0 w (A++(gs.map (dR tE)++R))) (hsub:∀Y,L'.Sublist (A++(Y++R))) (hq:0<=q/\q<gs.length) (hS:Sl w u 1 1 [I a]) (hx:ev σ x=(gs.getD q.toNat de).v) (hy:ev σ y=u) (ht:P.underlying t=some (.slice tE)) (hie:P.info? tE=some ie) (hz:ie.zero=some z)
  (hsize:ie.size=1) (hby:ie.bytes=bytes) (hzs:z.cells.size=1) (hb:(gs.getD q.toNat de).l.length+1<=700000000000) (J4:bytes<=200)
  (hn:∀v' w',Hp w0 w' (A++((gs.set q.toNat ⟨v',(gs.getD q.toNat de).l++[a]⟩).map (dR tE)++R))->AN P n lo (fun w=>Hp w0 w L') k fuel (listed.setIfInBounds j true) (lZ σ d v') w'):AO P n lo (fun w=>Hp w0 w L') k fuel listed σ w j:=by
 obtain⟨v',w',hr,h2⟩:=abL (P:=P) (ty:=ty) (dst:=some d) (pos:=pos) (bO:=bO) (g:=g) hH hq hS hx hy ht hie hz hsize hby hzs hb J4
 exact Cs hj hg hd hr (h2.sub (hsub _)) (hn v' w' h2)
end
structure Mk where
 i:Nat
 d:Nat
 op:Op
 ty:TypeId
 pos:String
 bO:Array Edge
 f:Nat->Value
 o:Obj
abbrev Mk.q(p:Mk):Oper:=⟨some p.d,p.op,p.ty,p.pos,p.bO,none⟩
def aiw(l:List Oper):Nat->Array Bool->List Nat->Bool
 |0,_,is=>is.isEmpty
 |m+1,a,is=>(Region.ready .any l.toArray a==is)&&is.all fun i=>aiw l m (a.setIfInBounds i true) (is.erase i)
def ldM(a:Array Bool)(ps:List Mk):Array Bool:=ps.foldl (fun a p=>a.setIfInBounds p.i true) a
def D6(σ:Env)(β:Nat->Nat)(ps:List Mk):Env:=ps.foldl (fun σ p=>lZ σ p.d (p.f (β p.d))) σ
abbrev VJ(β:Nat->Nat)(p:Mk):bu:= .blk (β p.d) p.o
theorem S0{a:Array Bool}:∀{ps:List Mk} {a:Array Bool} {j:Nat},(ldM a ps)[j]?=if j∈ps.map Mk.i/\j<a.size then some true else a[j]?
 |[],a,j=>by simp[ldM]
 |p::ps,a,j=>by
  show(ldM (a.setIfInBounds p.i true) ps)[j]?=_
  rw[S0 (a:=a),XB,Ep]
  by_cases h:j<a.size
  .by_cases h1:j∈ps.map Mk.i
   .rw[aX ⟨h1,h⟩,aX ⟨by simp[h1],h⟩]
   rw[aT fun q=>h1 q.1]
   by_cases h2:p.i=j
   .subst h2;rw[aX O,aX h,aX ⟨aJ,h⟩]
   rw[aT h2,aT fun q=>by
    have:=q.1
    rw[lT,c8]at this
    exact this.elim (fun e=>h2 e.symm) h1]
  have e1:(if j∈ps.map Mk.i/\j<a.size then some true else(if p.i=j then(if p.i<a.size then some true else none)else a[j]?))=a[j]?:=by
   rw[aT fun q=>h q.2]
   by_cases h2:p.i=j
   .subst h2;rw[aX O,aT h,XD J]
   rw[aT h2]
  have e2:(if j∈(p::ps).map Mk.i/\j<a.size then some true else a[j]?)=a[j]?:=aT fun q=>h q.2
  exact e1.trans e2.symm
theorem aix{a:Array Bool}{ps qs:List Mk}(h:ps.Perm qs):ldM a ps=ldM a qs:=by
 apply XP
 intro j
 rw[S0 (a:=a),S0 (a:=a)]
 have:j∈ps.map Mk.i↔j∈qs.map Mk.i:=(h.map Mk.i).mem_iff
 by_cases c:j∈ps.map Mk.i
 .simp[c,this.1 c]
 rw[aT fun q=>c q.1,aT fun q=>c (this.2 q.1)]
theorem CL{σ:Env}{β:Nat->Nat}:∀{ps:List Mk} {σ:Env} {s:Nat},s∉ps.map Mk.d->D6 σ β ps s=σ s
 |[],σ,s,_=>rfl
 |p::ps,σ,s,h=>by
  rw[lT,c8,not_or]at h
  show D6 (lZ σ p.d (p.f (β p.d))) β ps s=_
  rw[CL (σ:=σ) h.2,Yx _ _ h.1]
theorem abM{β:Nat->Nat}(ps:List Mk):∀(σ:Env) (p:Mk),(ps.map Mk.d).Nodup->p∈ps->D6 σ β ps p.d=p.f (β p.d):=by
 induction ps with
 |nil=>intro σ p _ h;cases h
 |cons q ps ih=>
  intro σ p hn h
  rw[lT,om]at hn
  show D6 (lZ σ q.d (q.f (β q.d))) β ps p.d=_
  rcases c8.1 h with e|e
  .rw[e,CL (σ:=σ) hn.1,arp]
  exact ih _ p hn.2 e
theorem aef{σ:Env}{β:Nat->Nat}{ps qs:List Mk}(h:ps.Perm qs)(hn:(ps.map Mk.d).Nodup):D6 σ β ps=D6 σ β qs:=by
 funext s
 have hm:s∈ps.map Mk.d↔s∈qs.map Mk.d:=(h.map Mk.d).mem_iff
 have Qj:(qs.map Mk.d).Nodup:=(h.map Mk.d).nodup_iff.1 hn
 by_cases c:s∈ps.map Mk.d
 .obtain⟨p,h1,rfl⟩:=fZ.1 c
  rw[abM ps σ p hn h1,abM qs σ p Qj (h.mem_iff.1 h1)]
 rw[CL (σ:=σ) c,CL (σ:=σ) fun q=>c (hm.2 q)]
theorem Nl{σ:Env}{β γ:Nat->Nat}:∀{ps:List Mk} {σ:Env},(∀p∈ps,β p.d=γ p.d)->D6 σ β ps=D6 σ γ ps
 |[],σ,_=>rfl
 |p::ps,σ,h=>by
  show D6 (lZ σ p.d (p.f (β p.d))) β ps=D6 (lZ σ p.d (p.f (γ p.d))) γ ps
  rw[h p aJ,Nl (σ:=σ) fun q hq=>h q (by simp[hq])]
theorem aeg{σ:Env}{β:Nat->Nat}{ps:List Mk}{p:Mk}:D6 σ β (ps++[p])=lZ (D6 σ β ps) p.d (p.f (β p.d)):=by simp[D6]
theorem VK{a:Array Bool}{ps:List Mk}{p:Mk}:ldM a (ps++[p])=(ldM a ps).setIfInBounds p.i true:=by simp[ldM]
def allM{α:Type}(q:α->Prop):List α->Prop
 |[]=>True
 |a::l=>q a/\allM q l
theorem allM.mem{α:Type}{q:α->Prop}:∀{l:List α},allM q l->∀a∈l,q a
 |[],_,a,h=>by cases h
 |b::l,h,a,hm=>(c8.1 hm).elim (fun e=>e▸h.1) fun e=>h.2.mem a e
theorem axo{P:Program}{n:Nat}{l:List Oper}{k:K}{σ:Env}{w0 w:World}{L L':List bu}{fuel:Nat}{listed:Array Bool}(ps:List Mk)
  (hl:∀p∈ps,l[p.i]?=some p.q/\Nat.blt p.d n=true) (hr:∀p∈ps,∀σ' w,(∀s,s∉ps.map Mk.d->σ' s=σ s)->(execOp (ev σ') p.q).run P w= .ok (.value (p.f w.heap.size)) (w.alloc p.o))
  (hd:(ps.map Mk.d).Nodup) (hi:(ps.map Mk.i).Nodup) (hc:aiw l ps.length listed (ps.map Mk.i)=true) (hH:Hp w0 w L') (hs:L.Sublist L')
  (h:∀β w',Hp w0 w' (ps.map (VJ β)++L')->AN P n l (fun w=>Hp w0 w L) k fuel (ldM listed ps) (D6 σ β ps) w'):AN P n l (fun w=>Hp w0 w L) k (fuel+ps.length) listed σ w:=by
 have key:∀(m:Nat) (dn pd:List Mk) (β:Nat->Nat) (w:World),pd.length=m->(dn++pd).Perm ps->aiw l m (ldM listed dn) (pd.map Mk.i)=true->Hp w0 w (dn.map (VJ β)++L')->
   AN P n l (fun w=>Hp w0 w L) k (fuel+m) (ldM listed dn) (D6 σ β dn) w:=by
  intro m
  induction m with
  |zero=>
   intro dn pd β w hm hp _ hh
   have e:pd=[]:=zC hm
   subst e
   rw[mY]at hp
   have hn:(dn.map Mk.d).Nodup:=(hp.map Mk.d).nodup_iff.2 hd
   rw[aix hp,aef hp hn]
   exact h β w (hh.perm ((hp.map _).append_right _))
  |succ m ih=>
   intro dn pd β w hm hp hck hh
   simp only[aiw,cM,Cd,iR]at hck
   obtain⟨c1,c2⟩:=hck
   refine aa3 (pd.map Mk.i) c1 (by cases pd with|nil=>simp at hm|cons p pd=>rfl) fun i hii=> ?_
   obtain⟨p,hpm,rfl⟩:=fZ.1 hii
   obtain⟨a,b,rfl⟩:=XQ hpm
   have hps:p∈ps:=hp.mem_iff.1 aJ
   have hnd:=(hp.map Mk.d).nodup_iff.2 hd
   have hni:=(hp.map Mk.i).nodup_iff.2 hi
   have hpd:p.d∉dn.map Mk.d:=fun q=>by
    rw[gV]at hnd
    exact(E3.1 hnd).2.2 _ q p.d aJ O
   have hpa:p.i∉a.map Mk.i:=fun q=>by
    rw[gV,gV]at hni
    exact(E3.1 (E3.1 hni).2.1).2.2 _ q p.i aJ O
   have e1:((a++p::b).map Mk.i).erase p.i=(a++b).map Mk.i:=by
    rw[gV,lT,List.erase_append_right _ hpa,List.erase_cons_head,gV]
   have hp2:((dn++[p])++(a++b)).Perm ps:=List.Perm.trans (by
    rw[dG]
    exact u7 dn (by simpa using(E5 (a:=p) (l₁:=a) (l₂:=b)).symm)) hp
   refine Cs (hl p hps).1 aD (hl p hps).2 (hr p hps _ w fun s Xm=>CL (σ:=σ) fun q=>Xm ?_) ?_ ?_
   .obtain⟨x,hx,e⟩:=fZ.1 q
    exact e▸fZ.2 ⟨x,hp.mem_iff.1 q7,rfl⟩
   .exact(hh.alloc p.o).sub ((List.Sublist.trans hs (Xy _ _)).cons _)
   let γ:Nat->Nat:=fun s=>if s=p.d then w.heap.size else β s
   have hγ:∀q∈dn,β q.d=γ q.d:=fun q hq=>(aT fun e=>hpd (by rw[<-e];exact fZ.2 ⟨q,hq,rfl⟩)).symm
   have g1:γ p.d=w.heap.size:=aX O
   have:=ih (dn++[p]) (a++b) γ (w.alloc p.o) (by simp at hm⊢;omega) hp2 (by rw[VK,<-e1];exact c2 _ hii) (by
    refine(hh.alloc p.o).perm ?_
    rw[gV,Lp,VJ,g1,dG]
    have e2:dn.map (VJ β)=dn.map (VJ γ):=HK fun q hq=>by unfold VJ;rw[hγ q hq]
    rw[e2]
    exact E5.symm)
   rw[VK,aeg,g1,<-Nl (σ:=σ) hγ]at this
   exact this
 exact key ps.length [] ps (fun _=>0) w O (RC _) hc hH
theorem axp{P:Program}{n:Nat}{l:List Oper}{k:K}{σ:Env}{w0 w:World}{L L':List bu}{fuel:Nat}{listed:Array Bool}(ds is:List Nat)(ps:List Mk)(e1:ps.map Mk.d=ds)(e2:ps.map Mk.i=is)
  (hl:allM (fun p=>l[p.i]?=some p.q/\Nat.blt p.d n=true) ps) (hr:allM (fun p=>∀σ' w,(∀s,ds.contains s=false->σ' s=σ s)->(execOp (ev σ') p.q).run P w= .ok (.value (p.f w.heap.size)) (w.alloc p.o)) ps)
  (hd:ds.Nodup) (hi:is.Nodup) (hc:aiw l ps.length listed is=true) (hH:Hp w0 w L') (hs:L.Sublist L')
  (h:∀β w',Hp w0 w' (ps.map (VJ β)++L')->AN P n l (fun w=>Hp w0 w L) k fuel (ldM listed ps) (D6 σ β ps) w'):AN P n l (fun w=>Hp w0 w L) k (fuel+ps.length) listed σ w:=
 axo ps hl.mem (fun p hp σ' w q=>hr.mem p hp σ' w fun s hs=>q s (by rw[e1];intro c;rw[List.contains_iff_mem.2 c]at hs;cases hs)) (e1▸hd) (e2▸hi) (e2▸hc) hH hs h
section
variable{P:Program}{σ:Env}{w w0:World}{L:List bu}{dst:Option Tmp}{ty t e:TypeId}{pos:String}{bO:Array Edge}{g:Option (Nat×Bool)}{x y:Operand}{α:Type}{f:α->Value}{cl:α->List Value}{sz i b:Nat}{l:List α}
theorem VL:∀{l:List α},l.flatMap (fun a=>[f a])=l.map f
 |[]=>rfl
 |a::l=>by rw[uC,VL,lT];rfl
theorem Ar{ie:TypeInfo}{z:Value}{z0:α}{n:Nat}(hu:P.underlying t=some (.slice e))(hie:P.info? e=some ie)(hz:ie.zero=some z)(hzc:z.cells=#[f z0])(hs:ie.size=1)
  (hx:ev σ x= .int .i64 n) (hy:ev σ y= .int .i64 n) (hb:ie.bytes<=1000) (hn:n<=1000000000):
  (execOp (ev σ) ⟨dst,.makeSlice t x y,ty,pos,bO,g⟩).run P w= .ok (.value (.slice (some ⟨w.heap.size,0,none⟩) n n)) (w.alloc (.cells ((List.replicate n z0).map f).toArray e)):=by
 have:=P9 (P:=P) (w:=w) (dst:=dst) (ty:=ty) (pos:=pos) (bO:=bO) (g:=g) (cl:=fun a=>[f a]) (sz:=1) (z0:=z0) (fun _=>rfl) az hu hie hz hzc hs hx hy (kL (xQ hb hn) az) (by unfold maxLen;omega)
 rwa[VL]at this
theorem Hp.Ka{n:Nat}(h:Hp w0 w L)(hi:L[i]?=some (.blk b (.cells (l.map f).toArray e (0,0))))(hl:l.length=n)(hn:n<=1000000000):Hp w0 w (L.set i (jW f (.slice (some ⟨b,0,none⟩) n n) e l)):=by
 subst hl
 have hx:=h.get hi
 refine h.xl hi O ⟨aJ,.inr ⟨b,l.length,(l.map f).toArray,rfl,hx.1,hx.2,fh _,by unfold maxLen;omega,aJ,?_⟩⟩
 rw[lX,<-gF (f:=f)];exact HM
end
end
end Go.Proofs.YtlhjdflgjbkpmaaGreatDoor.E
namespace Go.Proofs.YtlhjdflgjbkpmaaGreatDoor.M
section
open Go
inductive j5(E:Nat->Nat->Prop):Nat->Nat->Prop
 |refl (a:Nat):j5 E a a
 |step {a b c:Nat} (h:j5 E a b) (e:E b c):j5 E a c
theorem j5.one{E:Nat->Nat->Prop}{a b:Nat}(e:E a b):j5 E a b:= .step (.refl a) e
theorem j5.trans{E:Nat->Nat->Prop}{a b c:Nat}(h:j5 E a b)(h2:j5 E b c):j5 E a c:=by
 induction h2 with
 |refl=>exact h
 |step _ e ih=>exact ih.step e
theorem j5.mono{E E':Nat->Nat->Prop}{a b:Nat}(h:j5 E a b)(hE:∀x y,E x y->E' x y):j5 E' a b:=by
 induction h with
 |refl=>exact .refl _
 |step _ e ih=>exact ih.step (hE _ _ e)
abbrev T6:=List (Nat×List Nat)
def fI(F:T6):List Nat:=F.flatMap fun x=>x.2++[x.1]
structure F8(R:Nat->Nat->Prop)(ord low:Nat->Int)(F:T6):Prop where
 Nn:(fI F).Pairwise fun a b=>ord b<ord a
 lo:∀k,k∈fI F->low k<=ord k/\∃m,m∈fI F/\ord m=low k/\R k m
 seg:∀x,x∈F->∀k,k∈x.2->R x.1 k/\low x.1<=low k/\low k<ord k
 way:F.Pairwise fun x y=>R y.1 x.1
def oC(f:Nat->Int)(k:Nat)(v:Int):Nat->Int:=fun i=>if i=k then v else f i
section
variable{R:Nat->Nat->Prop}{ord low:Nat->Int}{F:T6}{a p:Nat}{sg sp:List Nat}{t:Int}
theorem gQ:fI ((a,sg)::F)=sg++a::fI F:=by simp[fI]
theorem DY:a∈fI ((a,sg)::F):=by rw[gQ];simp
theorem jz{x:Nat×List Nat}(h:x∈F):x.1∈fI F:=by grind[fI]
theorem K5{x:Nat×List Nat}{k:Nat}(h:x∈F)(hk:k∈x.2):k∈fI F:=by grind[fI]
theorem F8.nil:F8 R ord low []:=⟨List.Pairwise.nil,(fun k h=>by simp[fI]at h),(fun x h=>mH),List.Pairwise.nil⟩
theorem F8.below(h:F8 R ord low ((a,sg)::F)):(∀k,k∈fI F->ord k<ord a)/\∀k,k∈sg->ord a<ord k:=by grind[F8,fI,gQ]
theorem F8.aiy(h:F8 R ord low ((a,sg)::F))(ht:∀x y z,R x y->R y z->R x z)(he:low a=ord a):∀k,k∈sg->R a k/\R k a:=by
 have hs:=h.seg _ (qU ..)
 have key:∀n:Nat,∀k,k∈sg->(ord k-ord a).toNat<=n->R k a:=fun n=>by
  induction n with
  |zero=>intro k hk hn;have:=h.below.2 k hk;omega
  |succ n ih=>
   intro k hk hn
   obtain⟨h1,h2,h3⟩:=hs k hk
   obtain⟨-,m,hm,e,hr⟩:=h.lo k (K5 (qU ..) hk)
   rw[gQ]at hm
   rcases e8.1 hm with q|q
   .exact ht _ _ _ hr (ih m q (by have:=h.below.2 m q;have:low a<=low k:=h2;omega))
   rcases c8.1 q with q|q
   .subst q;exact hr
   have:=h.below.1 m q
   have:low a<=low k:=h2
   omega
 exact fun k hk=>⟨(hs k hk).1,key _ k hk (fh _)⟩
theorem F8.enter(h:F8 R ord low F)(hn:a∉fI F)(ht:∀k,k∈fI F->ord k<t)(hr:R a a)(hw:∀x,x∈F->R x.1 a):F8 R (oC ord a t) (oC low a t) ((a,[])::F):=by
 have ne:∀k,k∈fI F->k≠a:=fun k hk e=>hn (e▸hk)
 have so:∀k,k∈fI F->oC ord a t k=ord k:=fun k hk=>aT (ne k hk)
 have sl:∀k,k∈fI F->oC low a t k=low k:=fun k hk=>aT (ne k hk)
 have ea:oC ord a t a=t:=aX O
 have la:oC low a t a=t:=aX O
 refine⟨?_,fun k hk=> ?_,fun x hx k hk=> ?_,lS.2 ⟨fun x hx=>hw x hx,h.way⟩⟩
 .rw[gQ,eN]
  refine lS.2 ⟨fun k hk=>by rw[ea,so k hk];exact ht k hk,?_⟩
  exact h.Nn.imp_of_mem fun{x y} hx hy q=>by rw[so x hx,so y hy];exact q
 .rw[gQ,eN]at hk
  rcases c8.1 hk with q|q
  .subst q;exact⟨by rw[ea,la];exact lY _,_,DY,by rw[ea,la],hr⟩
  obtain⟨h1,m,h2,h3,h4⟩:=h.lo k q
  refine⟨by rw[so k q,sl k q];exact h1,m,by rw[gQ];simp[h2],by rw[so m h2,sl k q];exact h3,h4⟩
 rcases c8.1 hx with q|q
 .subst q;cases hk
 have k1:=K5 q hk
 have k2:=jz q
 rw[so k k1,sl k k1,sl _ k2];exact h.seg x q k hk
theorem F8.arc(h:F8 R ord low ((a,sg)::F)){m:Nat}(hm:m∈fI ((a,sg)::F))(hr:R a m):F8 R ord (oC low a (min (low a) (ord m))) ((a,sg)::F):=by
 have la:oC low a (min (low a) (ord m)) a=min (low a) (ord m):=aX O
 have sl:∀k,k≠a->oC low a (min (low a) (ord m)) k=low k:=fun k hk=>aT hk
 have hb:=h.below
 refine⟨h.Nn,fun k hk=> ?_,fun x hx k hk=> ?_,h.way⟩
 .obtain⟨h1,j,h2,h3,h4⟩:=h.lo k hk
  by_cases e:k=a
  .subst e
   rw[la]
   refine⟨J,?_⟩
   by_cases c:low k<=ord m
   .exact⟨j,h2,by rw[X9 c];exact h3,h4⟩
   exact⟨m,hm,by rw[Int.min_eq_right J],hr⟩
  rw[sl k e];exact⟨h1,j,h2,h3,h4⟩
 obtain⟨h1,h2,h3⟩:=h.seg x hx k hk
 have hka:k≠a:=fun e=>by
  subst e
  rcases c8.1 hx with q|q
  .subst q;have:=hb.2 k hk;omega
  have:=hb.1 k (K5 q hk);omega
 rw[sl k hka]
 refine⟨h1,?_,h3⟩
 by_cases e:x.1=a
 .rw[e,la];rw[e]at h2;omega
 rw[sl _ e];exact h2
theorem F8.VM(h:F8 R ord low ((a,sg)::(p,sp)::F))(ht:∀x y z,R x y->R y z->R x z)(hlt:low a<ord a):F8 R ord (oC low p (min (low p) (low a))) ((p,sg++a::sp)::F):=by
 have e0:fI ((p,sg++a::sp)::F)=fI ((a,sg)::(p,sp)::F):=by simp[fI]
 have hrp:R p a:=(lS.1 h.way).1 (p,sp) aJ
 have hb:=h.below
 have hp:p∈fI ((a,sg)::(p,sp)::F):=jz (x:=(p,sp)) aJ
 have hpa:p≠a:=fun e=>by have:=hb.1 p (jz (x:=(p,sp)) aJ);rw[e]at this;omega
 have lp:oC low p (min (low p) (low a)) p=min (low p) (low a):=aX O
 have sl:∀k,k≠p->oC low p (min (low p) (low a)) k=low k:=fun k hk=>aT hk
 have hs:=h.Nn
 have hsp:((fI ((p,sp)::F))).Pairwise fun a b=>ord b<ord a:=by
  rw[gQ]at hs;exact(lS.1 (E3.1 hs).2.1).2
 have hbp:(∀k,k∈fI F->ord k<ord p)/\∀k,k∈sp->ord p<ord k:=by
  rw[gQ]at hsp
  obtain⟨h2,h3,h4⟩:=E3.1 hsp
  exact⟨fun k hk=>(lS.1 h3).1 k hk,fun k hk=>h4 k hk p aJ⟩
 refine⟨by rw[e0];exact hs,fun k hk=> ?_,fun x hx k hk=> ?_,?_⟩
 .rw[e0]at hk⊢
  obtain⟨h1,j,h2,h3,h4⟩:=h.lo k hk
  by_cases e:k=p
  .subst e
   rw[lp]
   refine⟨J,?_⟩
   by_cases c:low k<=low a
   .exact⟨j,h2,by rw[X9 c];exact h3,h4⟩
   obtain⟨-,i,i2,i3,i4⟩:=h.lo a DY
   exact⟨i,i2,by rw[Int.min_eq_right J];exact i3,ht _ _ _ hrp i4⟩
  rw[sl k e];exact⟨h1,j,h2,h3,h4⟩
 .rcases c8.1 hx with q|q
  .subst q
   have hmem:k∈sg\/k=a\/k∈sp:=by simpa using hk
   rcases hmem with q|q|q
   .obtain⟨h1,h2,h3⟩:=h.seg (a,sg) aJ k q
    have hkp:k≠p:=fun e=>by
     have:=hb.2 k q;have:=hb.1 p (jz (x:=(p,sp)) aJ);rw[e]at*;omega
    rw[lp,sl k hkp]
    have:low a<=low k:=h2
    exact⟨ht _ _ _ hrp h1,J,h3⟩
   .subst q;rw[lp,sl k hpa.symm];exact⟨hrp,J,hlt⟩
   obtain⟨h1,h2,h3⟩:=h.seg (p,sp) aJ k q
   have hkp:k≠p:=fun e=>by have:=hbp.2 k q;rw[e]at this;omega
   rw[lp,sl k hkp]
   have:low p<=low k:=h2
   exact⟨h1,J,h3⟩
  obtain⟨h1,h2,h3⟩:=h.seg x (by simp[q]) k hk
  have hkp:k≠p:=fun e=>by have:=hbp.1 k (K5 q hk);rw[e]at this;omega
  have hxp:x.1≠p:=fun e=>by have:=hbp.1 x.1 (jz q);rw[e]at this;omega
  rw[sl k hkp,sl _ hxp];exact⟨h1,h2,h3⟩
 obtain⟨-,h2⟩:=lS.1 h.way
 exact lS.2 ⟨fun x hx=>(lS.1 h2).1 x hx,(lS.1 h2).2⟩
theorem F8.close(h:F8 R ord low ((a,sg)::F)):F8 R ord low F:=by
 have hs:=h.Nn
 rw[gQ]at hs
 have hb:=h.below
 refine⟨(lS.1 (E3.1 hs).2.1).2,fun k hk=> ?_,fun x hx=>h.seg x q7,(lS.1 h.way).2⟩
 obtain⟨h1,m,h2,h3,h4⟩:=h.lo k (by rw[gQ];simp[hk])
 refine⟨h1,m,?_,h3,h4⟩
 rw[gQ]at h2
 have hka:=hb.1 k hk
 rcases e8.1 h2 with q|q
 .have:=hb.2 m q;omega
 rcases c8.1 q with q|q
 .subst q;omega
 exact q
theorem F8.root(h:F8 R ord low [(a,sg)]):low a=ord a:=by grind[F8,DY,gQ,fI]
end
def JK(F:T6)(p c:Nat):Prop:=∃F1 sc sp F2,F=F1++(c,sc)::(p,sp)::F2
structure O8(E seen:Nat->Nat->Prop)(shut:Nat->Prop)(ord low:Nat->Int)(F:T6):Prop where
 out:∀k,k∈fI F->¬shut k
 Qx:∀k,shut k->∀j,E k j->shut j
 ZC:∀x,x∈F->∀k,k∈x.2->∀j,E k j->seen k j
 led:∀k,k∈fI F->∀j,seen k j->shut j\/j∈fI F/\(low k<=ord j\/JK F k j)
section
variable{E seen:Nat->Nat->Prop}{shut:Nat->Prop}{R:Nat->Nat->Prop}{ord low:Nat->Int}{F:T6}{a p j:Nat}{sg sp:List Nat}{t:Int}
theorem O8.nil(h:∀k,shut k->∀j,E k j->shut j):O8 E seen shut ord low []:=by grind[O8,fI]
theorem JK.mem(h:JK F p j):∃x,x∈F/\x.1=p:=by
 obtain⟨F1,sc,sp,F2,rfl⟩:=h;exact⟨(p,sp),aJ,rfl⟩
theorem F8.top(h:F8 R ord low ((a,sg)::F)){k:Nat}(hk:k∈sg\/k=a):¬JK ((a,sg)::F) k j:=by
 rintro⟨F1,sc,sp,F2,e⟩
 have hb:=h.below
 have hm:(k,sp)∈F:=by
  cases F1 with
  |nil=>simp at e;rw[e.2];simp
  |cons b F1=>simp at e;rw[e.2];simp
 have h1:=hb.1 k (jz (x:=(k,sp)) hm)
 rcases hk with q|q
 .have:=hb.2 k q;omega
 subst q;omega
theorem O8.close(h:O8 E seen shut ord low ((a,sg)::F))(hi:F8 R ord low ((a,sg)::F))(he:low a=ord a)(ha:∀j,E a j->seen a j):O8 E seen (fun k=>shut k\/k=a\/k∈sg) ord low F:=by
 have hb:=hi.below
 have mem:∀k,k∈fI ((a,sg)::F)↔k∈sg\/k=a\/k∈fI F:=fun k=>by rw[gQ];simp
 refine⟨fun k hk=> ?_,fun k hk j hj=> ?_,fun x hx=>h.ZC x q7,fun k hk j hj=> ?_⟩
 .rintro(q|q|q)
  .exact h.out k ((mem k).2 (.inr (.inr hk))) q
  .subst q;have:=hb.1 k hk;omega
  have:=hb.1 k hk;have:=hb.2 k q;omega
 .rcases hk with q|q
  .exact .inl (h.Qx k q j hj)
  have CH:k∈fI ((a,sg)::F):=(mem k).2 (q.elim (fun e=> .inr (.inl e)) .inl)
  have Xm:seen k j:=by
   rcases q with q|q
   .subst q;exact ha j hj
   exact h.ZC (a,sg) aJ k q j hj
  have aeh:ord a<=low k:=by
   rcases q with q|q
   .subst q;omega
   have:=(hi.seg (a,sg) aJ k q).2.1;have:low a<=low k:=this;omega
  rcases h.led k CH j Xm with c|⟨c,d⟩
  .exact .inl c
  rcases d with d|d
  .rcases(mem j).1 c with e|e|e
   .exact .inr (.inr e)
   .exact .inr (.inl e)
   have:=hb.1 j e;omega
  exact absurd d (hi.top (q.elim .inr .inl))
 rcases h.led k ((mem k).2 (.inr (.inr hk))) j hj with c|⟨c,d⟩
 .exact .inl (.inl c)
 rcases(mem j).1 c with e|e|e
 .exact .inl (.inr (.inr e))
 .exact .inl (.inr (.inl e))
 refine .inr ⟨e,d.imp id fun q=> ?_⟩
 obtain⟨F1,sc,sp,F2,e1⟩:=q
 cases F1 with
 |nil=>simp at e1;rw[e1.1.1]at hb;have:=hb.1 j e;omega
 |cons b F1=>simp at e1;exact⟨F1,sc,sp,F2,e1.2⟩
theorem O8.VM(h:O8 E seen shut ord low ((a,sg)::(p,sp)::F))(hi:F8 R ord low ((a,sg)::(p,sp)::F))(ha:∀j,E a j->seen a j):O8 E seen shut ord (oC low p (min (low p) (low a))) ((p,sg++a::sp)::F):=by
 have e0:fI ((p,sg++a::sp)::F)=fI ((a,sg)::(p,sp)::F):=by simp[fI]
 have le:∀k,oC low p (min (low p) (low a)) k<=low k:=fun k=>by
  unfold oC;split
  .subst_vars;omega
  exact lY _
 have lp:oC low p (min (low p) (low a)) p<=low a:=by unfold oC;rw[aX O];omega
 refine⟨fun k hk=>h.out k (e0▸hk),h.Qx,fun x hx k hk j hj=> ?_,fun k hk j hj=> ?_⟩
 .rcases c8.1 hx with q|q
  .subst q
   have hm:k∈sg\/k=a\/k∈sp:=by simpa using hk
   rcases hm with q|q|q
   .exact h.ZC (a,sg) aJ k q j hj
   .subst q;exact ha j hj
   exact h.ZC (p,sp) aJ k q j hj
  exact h.ZC x (by simp[q]) k hk j hj
 rw[e0]at hk⊢
 rcases h.led k hk j hj with c|⟨c,d⟩
 .exact .inl c
 refine .inr ⟨c,?_⟩
 rcases d with d|⟨F1,sc,s2,F2,e1⟩
 .exact .inl (LC (le k) d)
 .cases F1 with
  |nil=>
   simp at e1
   obtain⟨⟨rfl,rfl⟩,⟨rfl,rfl⟩,rfl⟩:=e1
   exact .inl (LC lp (hi.lo a DY).1)
  |cons b F1=>
   simp at e1
   cases F1 with
   |nil=>
    simp at e1
    obtain⟨-,⟨rfl,rfl⟩,rfl⟩:=e1
    exact .inr ⟨[],_,_,_,rfl⟩
   |cons b2 F1=>
    simp at e1
    obtain⟨-,-,rfl⟩:=e1
    exact .inr ⟨(p,sg++a::sp)::F1,_,_,_,rfl⟩
end
section
variable{E seen seen':Nat->Nat->Prop}{shut:Nat->Prop}{R:Nat->Nat->Prop}{ord low:Nat->Int}{F:T6}{a p j:Nat}{sg sp:List Nat}{t:Int}
theorem JK.cons{x:Nat×List Nat}(h:JK F p j):JK (x::F) p j:=by grind[JK]
theorem O8.enter(h:O8 E seen shut ord low F)(hn:a∉fI F)(hs:¬shut a)(hno:∀j,¬seen a j)(h1:∀k j,seen k j->seen' k j)(h2:∀k j,seen' k j->seen k j\/j=a/\∃sp F0,F=(k,sp)::F0):O8 E seen' shut (oC ord a t) (oC low a t) ((a,[])::F):=by
 have ne:∀k,k∈fI F->k≠a:=fun k hk e=>hn (e▸hk)
 have mem:∀k,k∈fI ((a,[])::F)↔k=a\/k∈fI F:=fun k=>by rw[gQ];simp
 refine⟨fun k hk=> ?_,h.Qx,fun x hx k hk j hj=> ?_,fun k hk j hj=> ?_⟩
 .rcases(mem k).1 hk with q|q
  .subst q;exact hs
  exact h.out k q
 .rcases c8.1 hx with q|q
  .subst q;cases hk
  exact h1 _ _ (h.ZC x q k hk j hj)
 rcases h2 k j hj with q|⟨rfl,sp,F0,rfl⟩
 .rcases(mem k).1 hk with e|e
  .subst e;exact absurd q (hno j)
  rcases h.led k e j q with c|⟨c,d⟩
  .exact .inl c
  refine .inr ⟨(mem j).2 (.inr c),d.imp (fun d=> ?_) fun d=>d.cons⟩
  unfold oC;rw[aT (ne k e),aT (ne j c)];exact d
 exact .inr ⟨(mem j).2 (.inl O),.inr ⟨[],_,_,_,rfl⟩⟩
theorem O8.look{v:Int}(h:O8 E seen shut ord low ((a,sg)::F))(hv:v<=low a)(h1:∀k i,seen k i->seen' k i)(h2:∀k i,seen' k i->seen k i\/k=a/\i=j)(hj:shut j\/j∈fI ((a,sg)::F)/\v<=ord j):O8 E seen' shut ord (oC low a v) ((a,sg)::F):=by
 have la:oC low a v a=v:=aX O
 have le:∀k,oC low a v k<=low k:=fun k=>by
  unfold oC;split
  .subst_vars;exact hv
  exact lY _
 refine⟨h.out,h.Qx,fun x hx k hk i hi=>h1 _ _ (h.ZC x hx k hk i hi),fun k hk i hi=> ?_⟩
 rcases h2 k i hi with q|⟨rfl,rfl⟩
 .exact(h.led k hk i q).imp id fun⟨c,d⟩=>⟨c,d.imp (fun d=>LC (le k) d) id⟩
 exact hj.imp id fun⟨c,d⟩=>⟨c,.inl (by rw[la];exact d)⟩
end
section
variable{E seen:Nat->Nat->Prop}{shut:Nat->Prop}{ord low:Nat->Int}{F:T6}{a:Nat}{sg:List Nat}
theorem j5.stay{C:Nat->Prop}(hC:∀k,C k->∀j,E k j->C j){x y:Nat}(h:j5 E x y)(hx:C x):C y:=by
 induction h with
 |refl=>exact hx
 |step _ e ih=>exact hC _ (ih) _ e
theorem O8.whole(h:O8 E seen shut ord low ((a,sg)::F))(hi:F8 (j5 E) ord low ((a,sg)::F))(he:low a=ord a)(ha:∀j,E a j->seen a j){k y:Nat}(hk:k=a\/k∈sg)(h1:j5 E k y)(h2:j5 E y k):y=a\/y∈sg:=by
 have hc:=h.close hi he ha
 rcases h1.stay hc.Qx (.inr hk)with q|q
 .have hm:k∈fI ((a,sg)::F):=by
   rw[gQ]
   rcases hk with e|e
   .subst e;simp
   simp[e]
  exact absurd (h2.stay h.Qx q) (h.out k hm)
 exact q
theorem O8.iff(h:O8 E seen shut ord low ((a,sg)::F))(hi:F8 (j5 E) ord low ((a,sg)::F))(he:low a=ord a)(ha:∀j,E a j->seen a j){k y:Nat}(hk:k=a\/k∈sg):(j5 E k y/\j5 E y k)↔(y=a\/y∈sg):=by
 refine⟨fun q=>h.whole hi he ha hk q.1 q.2,fun q=> ?_⟩
 have key:∀z,z=a\/z∈sg->j5 E a z/\j5 E z a:=fun z hz=>by
  rcases hz with e|e
  .subst e;exact⟨.refl _,.refl _⟩
  exact hi.aiy (fun _ _ _=>j5.trans) he z e
 exact⟨(key k hk).2.trans (key y q).1,(key y q).2.trans (key k hk).1⟩
end
structure D7 where
 node:Int
 next:Int
def oS(l:List Int):Nat->Int:=fun k=>l.getD k 0
def NI(l:List Nat):List Int:=l.map fun(k:Nat)=>(k:Int)
def wj(gl:List (List Int))(a b:Nat):Prop:=a<gl.length/\b<gl.length/\∃i,i<(gl.getD a []).length/\(gl.getD a []).getD i 0=(b:Int)
def uH(gl:List (List Int))(nx:Nat->Nat)(a b:Nat):Prop:=a<gl.length/\b<gl.length/\∃i,i<nx a/\i<(gl.getD a []).length/\(gl.getD a []).getD i 0=(b:Int)
def Bg(od:List Int)(F:T6)(k:Nat):Prop:=k<od.length/\oS od k≠0/\k∉fI F
def tK(E:Nat->Nat->Prop)(a b:Nat):Prop:=j5 E a b/\j5 E b a
structure OfK(E:Nat->Nat->Prop)(k:Nat)(o:Int):Prop where
 is:∃j:Nat,o=j/\tK E k j
 low:∀j:Nat,tK E k j->o<=j
def pO(F:T6)(nx:Nat->Nat):List D7:=F.reverse.map fun x=>⟨x.1,nx x.1⟩
structure rQ(gl:List (List Int))(od lo:List Int)(on:List Bool)(tm:Int)(kW:List Int)(F:T6)(nx:Nat->Nat):Prop where
 T7:od.length=gl.length
 llo:lo.length=gl.length
 lon:on.length=gl.length
 lof:kW.length=gl.length
 onI:∀k,k<gl.length->(on.getD k false=true↔k∈fI F)
 lt:∀k,k∈fI F->k<gl.length/\0<oS od k
 odI:∀k,0<=oS od k/\oS od k<=tm
 cnt:tm+od.count 0=gl.length
 T8:F8 (j5 (wj gl)) (oS od) (oS lo) F
 kne:O8 (wj gl) (uH gl nx) (Bg od F) (oS od) (oS lo) F
 nx0:∀k,oS od k=0->nx k=0
 fin:∀k,Bg od F k->OfK (wj gl) k (oS kW k)
theorem Au{l:List Int}{k:Nat}{v:Int}(h:k<l.length):oS (l.set k v)=oC (oS l) k v:=by grind[oS,oC]
theorem abN:∀{l:List Int} {k:Nat} {v:Int},k<l.length->l.getD k 0=0->v≠0->(l.set k v).count 0+1=l.count 0
 |[],k,v,h,_,_=>by simp at h
 |a::l,0,v,_,h2,h3=>by
  have:a=0:=h2
  subst this
  rw[jh,List.count_cons_self,List.count_cons_of_ne (by simpa using h3)]
 |a::l,k+1,v,h1,h2,h3=>by
  have ih:=abN (l:=l) (k:=k) (v:=v) Fj h2 h3
  rw[kZ,E6,E6];omega
theorem aej{f:Nat->Int}{k:Nat}{v:Int}(h:f k=v):oC f k v=f:=by grind[oC]
section
variable{gl:List (List Int)}{od lo:List Int}{on:List Bool}{tm:Int}{kW:List Int}{F:T6}{nx:Nat->Nat}{a b p:Nat}{sg sp:List Nat}
def qN(nx:Nat->Nat)(p:Nat):Nat->Nat:=fun i=>if i=p then nx i+1 else nx i
theorem DZ{k j:Nat}(h:uH gl nx k j):uH gl (qN nx p) k j:=by grind[uH,qN]
theorem GN{k j:Nat}(h:uH gl (qN nx p) k j):uH gl nx k j\/k=p/\(gl.getD p []).getD (nx p) 0=(j:Int):=by grind[uH,qN]
theorem rQ.room(h:rQ gl od lo on tm kW F nx):0<=tm/\tm<=gl.length:=by grind[rQ,kW]
theorem rQ.skip(h:rQ gl od lo on tm kW ((p,sp)::F) nx)(hk:¬∃j,j<gl.length/\(gl.getD p []).getD (nx p) 0=((j:Nat):Int)):rQ gl od lo on tm kW ((p,sp)::F) (qN nx p):=by
 have hs:uH gl (qN nx p)=uH gl nx:=by
  funext k j;apply propext
  refine⟨fun q=> ?_,DZ⟩
  rcases GN q with q2|⟨rfl,q2⟩
  .exact q2
  exact absurd ⟨j,q.2.1,q2⟩ hk
 have hp:=h.lt p (jz (x:=(p,sp)) aJ)
 exact⟨h.T7,h.llo,h.lon,h.lof,h.onI,h.lt,h.odI,h.cnt,h.T8,by rw[hs];exact h.kne,fun k CH=>by unfold qN;rw[aT (fun e=>by rw[e]at CH;omega)];exact h.nx0 k CH,h.fin⟩
theorem rQ.axr(h:rQ gl od lo on tm kW ((p,sp)::F) nx)(hl:nx p<(gl.getD p []).length)(hb:b<gl.length)(hk:(gl.getD p []).getD (nx p) 0=(b:Int)):wj gl p b:=by grind[rQ,kW,wj,jz]
theorem S1(h:rQ gl od lo on tm kW ((p,sp)::F) nx)(k:Nat)(hk:oS od k=0):qN nx p k=0:=by
 have hp:=h.lt p (jz (x:=(p,sp)) aJ)
 unfold qN;rw[aT (fun e=>by rw[e]at hk;omega)];exact h.nx0 k hk
theorem rQ.arc(h:rQ gl od lo on tm kW ((p,sp)::F) nx)(hl:nx p<(gl.getD p []).length)(hb:b<gl.length)(hk:(gl.getD p []).getD (nx p) 0=(b:Int))(hon:on.getD b false=true):
  rQ gl od (lo.set p (min (oS lo p) (oS od b))) on tm kW ((p,sp)::F) (qN nx p):=by
 have hm:=(h.onI b hb).1 hon
 have hp:=h.lt p (jz (x:=(p,sp)) aJ)
 have e1:=Au (l:=lo) (k:=p) (v:=min (oS lo p) (oS od b)) R6
 refine⟨h.T7,by rw[nY];exact h.llo,h.lon,h.lof,h.onI,h.lt,h.odI,h.cnt,by rw[e1];exact h.T8.arc hm (.one (h.axr hl hb hk)),?_,S1 h,h.fin⟩
 rw[e1]
 exact h.kne.look (j:=b) J (fun k i=>DZ) (fun k i q=>(GN q).imp id fun⟨q1,q2⟩=>⟨q1,J⟩) (.inr ⟨hm,J⟩)
theorem rQ.shut(h:rQ gl od lo on tm kW ((p,sp)::F) nx)(hl:nx p<(gl.getD p []).length)(hb:b<gl.length)(hk:(gl.getD p []).getD (nx p) 0=(b:Int))(h0:oS od b≠0)(hon:¬on.getD b false=true):
  rQ gl od lo on tm kW ((p,sp)::F) (qN nx p):=by
 have hm:b∉fI ((p,sp)::F):=fun q=>hon ((h.onI b hb).2 q)
 refine⟨h.T7,h.llo,h.lon,h.lof,h.onI,h.lt,h.odI,h.cnt,h.T8,?_,S1 h,h.fin⟩
 have:=h.kne.look (seen':=uH gl (qN nx p)) (j:=b) (v:=oS lo p) (lY _) (fun k i=>DZ) (fun k i q=>(GN q).imp id fun⟨q1,q2⟩=>⟨q1,J⟩) (.inl ⟨by rw[h.T7];exact hb,h0,hm⟩)
 rwa[aej O]at this
theorem rQ.axs{nx':Nat->Nat}(h:rQ gl od lo on tm kW F nx)(ha:a<gl.length)(h0:oS od a=0)(hn:∀k,oS od k=0->nx' k=0)(h1:∀k j,uH gl nx k j->uH gl nx' k j)(h2:∀k j,uH gl nx' k j->uH gl nx k j\/j=a/\∃sp F0,F=(k,sp)::F0)(hw:∀x,x∈F->j5 (wj gl) x.1 a):
  rQ gl (od.set a (tm+1)) (lo.set a (tm+1)) (on.set a true) (tm+1) kW ((a,[])::F) nx':=by
 have hr:=h.room
 have hna:a∉fI F:=fun q=>by have:=(h.lt a q).2;omega
 have ne:∀k,k∈fI F->k≠a:=fun k hk e=>hna (e▸hk)
 have mem:∀k,k∈fI ((a,[])::F)↔k=a\/k∈fI F:=fun k=>by rw[gQ];simp
 have e1:=Au (l:=od) (k:=a) (v:=tm+1) (by rw[h.T7];exact ha)
 have e2:=Au (l:=lo) (k:=a) (v:=tm+1) (by rw[h.llo];exact ha)
 have es:Bg (od.set a (tm+1)) ((a,[])::F)=Bg od F:=by
  funext k;apply propext
  unfold Bg
  rw[nY,e1,mem]
  unfold oC
  by_cases e:k=a
  .subst e;rw[aX O];exact⟨fun q=>absurd (.inl O) q.2.2,fun q=>absurd h0 q.2.1⟩
  rw[aT e];exact⟨fun q=>⟨q.1,q.2.1,fun c=>q.2.2 (.inr c)⟩,fun q=>⟨q.1,q.2.1,fun c=>c.elim e q.2.2⟩⟩
 refine⟨by rw[nY];exact h.T7,by rw[nY];exact h.llo,by rw[nY];exact h.lon,h.lof,fun k hk=> ?_,fun k hk=> ?_,fun k=> ?_,?_,?_,?_,fun k hk=> ?_,?_⟩
 .rw[mem,eT,p9]
  by_cases e:a=k
  .subst e;rw[aX O,aX (by rw[h.lon];exact ha)];simp
  rw[aT e,<-eT,h.onI k hk];exact⟨.inr,fun q=>q.elim (fun c=>absurd c.symm e) id⟩
 .rw[e1];unfold oC
  rcases(mem k).1 hk with e|q
  .subst e;rw[aX O];exact⟨ha,J⟩
  rw[aT (ne k q)];exact h.lt k q
 .rw[e1];unfold oC;have:=h.odI k;split<;>omega
 .have:=abN (l:=od) (k:=a) (v:=tm+1) (by rw[h.T7];exact ha) h0 J
  have:=h.cnt;omega
 .rw[e1,e2];exact h.T8.enter hna (fun k hk=>by have:=(h.odI k).2;omega) (.refl a) hw
 .rw[e1,e2,es];exact h.kne.enter hna (fun q=>q.2.1 h0) (fun j q=>by obtain⟨_,_,i,hi,_⟩:=q;have:=h.nx0 a h0;omega) h1 h2
 .rw[e1]at hk;unfold oC at hk
  by_cases e:k=a
  .rw[aX e]at hk;omega
  rw[aT e]at hk;exact hn k hk
 rw[es];exact h.fin
theorem rQ.first(h:rQ gl od lo on tm kW [] nx)(ha:a<gl.length)(h0:oS od a=0):rQ gl (od.set a (tm+1)) (lo.set a (tm+1)) (on.set a true) (tm+1) kW [(a,[])] nx:=
 h.axs ha h0 h.nx0 (fun _ _ q=>q) (fun _ _ q=> .inl q) fun x hx=>by cases hx
theorem rQ.enter(h:rQ gl od lo on tm kW ((p,sp)::F) nx)(hl:nx p<(gl.getD p []).length)(hk:(gl.getD p []).getD (nx p) 0=(a:Int))(ha:a<gl.length)(h0:oS od a=0):
  rQ gl (od.set a (tm+1)) (lo.set a (tm+1)) (on.set a true) (tm+1) kW ((a,[])::(p,sp)::F) (qN nx p):=
 h.axs ha h0 (S1 h) (fun k j=>DZ) (fun k j q=>(GN q).imp id fun⟨q1,q2⟩=>⟨J,by subst q1;exact⟨_,_,rfl⟩⟩) fun x hx=>by
  have e:=h.axr hl ha hk
  rcases c8.1 hx with q|q
  .subst q;exact .one e
  exact((lS.1 h.T8.way).1 x q).trans (.one e)
theorem rQ.all(h:rQ gl od lo on tm kW ((a,sg)::F) nx)(hd:¬nx a<(gl.getD a []).length):∀j,wj gl a j->uH gl nx a j:=by grind[rQ,kW,wj,uH]
theorem rQ.VM(h:rQ gl od lo on tm kW ((a,sg)::(p,sp)::F) nx)(hd:¬nx a<(gl.getD a []).length)(hne:oS lo a≠oS od a):
  rQ gl od (lo.set p (min (oS lo p) (oS lo a))) on tm kW ((p,sg++a::sp)::F) nx:=by
 have e0:fI ((p,sg++a::sp)::F)=fI ((a,sg)::(p,sp)::F):=by simp[fI]
 have hp:=h.lt p (jz (x:=(p,sp)) aJ)
 have e1:=Au (l:=lo) (k:=p) (v:=min (oS lo p) (oS lo a)) R6
 have hlo:=(h.T8.lo a DY).1
 have es:Bg od ((p,sg++a::sp)::F)=Bg od ((a,sg)::(p,sp)::F):=by unfold Bg;rw[e0]
 refine⟨h.T7,by rw[nY];exact h.llo,h.lon,h.lof,by rw[e0];exact h.onI,by rw[e0];exact h.lt,h.odI,h.cnt,?_,?_,h.nx0,by rw[es];exact h.fin⟩
 .rw[e1];exact h.T8.VM (fun _ _ _=>j5.trans) J
 rw[e1,es];exact h.kne.VM h.T8 (h.all hd)
theorem rQ.close{on':List Bool}{of':List Int}(h:rQ gl od lo on tm kW ((a,sg)::F) nx)(hd:¬nx a<(gl.getD a []).length)(he:oS lo a=oS od a)
  (l1:on'.length=gl.length) (l2:of'.length=gl.length) {m:Int} (hm:∃j,(j=a\/j∈sg)/\m=((j:Nat):Int)) (Ke:∀j,(j=a\/j∈sg)->m<=((j:Nat):Int))
  (ho:∀k,k<gl.length->on'.getD k false=if k=a\/k∈sg then false else on.getD k false) (hf:∀k,k<gl.length->oS of' k=if k=a\/k∈sg then m else oS kW k):rQ gl od lo on' tm of' F nx:=by
 have hb:=h.T8.below
 have mem:∀k,k∈fI ((a,sg)::F)↔k∈sg\/k=a\/k∈fI F:=fun k=>by rw[gQ];simp
 have ex:∀k,k∈fI F->¬(k=a\/k∈sg):=fun k hk q=>by
  have:=hb.1 k hk
  rcases q with q|q
  .subst q;omega
  have:=hb.2 k q;omega
 have es:Bg od F=fun k=>Bg od ((a,sg)::F) k\/k=a\/k∈sg:=by
  funext k;apply propext
  unfold Bg
  rw[mem]
  constructor
  .intro⟨h1,h2,h3⟩
   by_cases e:k=a\/k∈sg
   .exact .inr e
   exact .inl ⟨h1,h2,fun q=>q.elim (fun q=>e (.inr q)) fun q=>q.elim (fun q=>e (.inl q)) h3⟩
  rintro(⟨h1,h2,h3⟩|q)
  .exact⟨h1,h2,fun q=>h3 (.inr (.inr q))⟩
  have hl:=h.lt k ((mem k).2 (q.elim (fun q=> .inr (.inl q)) .inl))
  exact⟨by rw[h.T7];exact hl.1,by have:=hl.2;omega,fun q2=>ex k q2 q⟩
 refine⟨h.T7,h.llo,l1,l2,fun k hk=> ?_,fun k hk=>h.lt k ((mem k).2 (.inr (.inr hk))),h.odI,h.cnt,h.T8.close,by rw[es];exact h.kne.close h.T8 he (h.all hd),h.nx0,fun k hk=> ?_⟩
 .rw[ho k hk]
  by_cases e:k=a\/k∈sg
  .rw[aX e];exact⟨fun q=>by simp at q,fun q=>absurd e (ex k q)⟩
  rw[aT e,h.onI k hk,mem];exact⟨fun q=>q.elim (fun q=>absurd (.inr q) e) fun q=>q.elim (fun q=>absurd (.inl q) e) id,fun q=> .inr (.inr q)⟩
 rw[es]at hk
 rcases hk with q|q
 .have hl:k<gl.length:=by rw[<-h.T7];exact q.1
  have e:¬(k=a\/k∈sg):=fun c=>q.2.2 ((mem k).2 (c.elim (fun q=> .inr (.inl q)) .inl))
  rw[hf k hl,aT e];exact h.fin k q
 have hl:=(h.lt k ((mem k).2 (q.elim (fun q=> .inr (.inl q)) .inl))).1
 rw[hf k hl,aX q]
 have hi:=fun y=>h.kne.iff h.T8 he (h.all hd) (k:=k) (y:=y) q
 obtain⟨j,hj,ej⟩:=hm
 exact⟨⟨j,ej,(hi j).2 hj⟩,fun y hy=>Ke y ((hi y).1 hy)⟩
theorem rQ.root(h:rQ gl od lo on tm kW [(a,sg)] nx):oS lo a=oS od a:=h.T8.root
theorem rQ.keep(h:rQ gl od lo on tm kW ((a,sg)::(p,sp)::F) nx)(he:oS lo a=oS od a):lo.set p (min (oS lo p) (oS lo a))=lo:=by
 have h1:=(h.T8.lo p (jz (x:=(p,sp)) aJ)).1
 have h2:=h.T8.below.1 p (jz (x:=(p,sp)) aJ)
 have hp:=h.lt p (jz (x:=(p,sp)) aJ)
 apply ug
 intro i
 rw[p9]
 by_cases e:p=i
 .subst e
  rw[aX O,aX R6,X9 J]
  unfold oS;rw[eT,eF R6];rfl
 rw[aT e]
end
def gE{α:Type}(l:List α)(ks:List Int)(v:α):List α:=ks.foldl (fun l k=>l.set k.toNat v) l
theorem je{α:Type}{v:α}:∀{ks:List Int} {l:List α},(gE l ks v).length=l.length
 |[],l=>rfl
 |k::ks,l=>by
  show(gE (l.set k.toNat v) ks v).length=_
  rw[je,nY]
theorem sS{α:Type}{v d:α}{i:Nat}:∀{ks:List Int} {l:List α},i<l.length->(∀k∈ks,0<=k)->(gE l ks v).getD i d=if(i:Int)∈ks then v else l.getD i d
 |[],l,_,_=>by simp[gE]
 |k::ks,l,hi,hk=>by
  have h0:=hk k aJ
  show(gE (l.set k.toNat v) ks v).getD i d=_
  rw[sS (by rw[nY];exact hi) fun q hq=>hk q (by simp[hq])]
  by_cases c:(i:Int)∈ks
  .rw[aX c,aX (by simp[c])]
  rw[aT c,eT,p9]
  by_cases e:k.toNat=i
  .rw[aX e,aX J,aX iY];rfl
  rw[aT e,<-eT,aT (by simp[c];omega)]
theorem CM{α:Type}{v:α}{l:List α}{ks:List Int}{k:Int}(h0:0<=k)(h1:k<ks.length):gE l (ks.take (k+1).toNat) v=(gE l (ks.take k.toNat) v).set (ks.getD k.toNat 0).toNat v:=by
 have hk:k.toNat<ks.length:=J
 unfold gE
 rw[show(k+1).toNat=k.toNat+1 by omega,EZ hk,eT,eF hk,xN]
 rfl
def CN(m:Int)(ks:List Int):Int:=ks.foldl min m
theorem aek{m:Int}{ks:List Int}{k:Int}(h0:0<=k)(h1:k<ks.length):CN m (ks.take (k+1).toNat)=min (CN m (ks.take k.toNat)) (ks.getD k.toNat 0):=by
 have hk:k.toNat<ks.length:=J
 unfold CN
 rw[show(k+1).toNat=k.toNat+1 by omega,EZ hk,eT,eF hk,xN]
 rfl
theorem abO:∀{ks:List Int} {m:Int},(CN m ks=m\/CN m ks∈ks)/\CN m ks<=m/\∀k∈ks,CN m ks<=k
 |[],m=>⟨.inl O,lY _,fun k h=>mH⟩
 |a::ks,m=>by
  obtain⟨h1,h2,h3⟩:=abO (ks:=ks) (m:=min m a)
  have e:CN m (a::ks)=CN (min m a) ks:=rfl
  rw[e]
  refine⟨?_,J,fun k hk=> ?_⟩
  .rcases h1 with q|q
   .by_cases c:m<=a
    .exact .inl J
    exact .inr (by rw[c8];exact .inl J)
   exact .inr (by simp[q])
  rcases c8.1 hk with q|q
  .subst q;omega
  exact h3 k q
theorem aiA{l:List Nat}{k:Nat}:(k:Int)∈NI l↔k∈l:=by grind[NI]
theorem abP{l:List Nat}{x:Int}(h:x∈NI l):∃k,k∈l/\x=((k:Nat):Int):=by grind[NI]
section
variable{gl:List (List Int)}{od lo:List Int}{on:List Bool}{tm:Int}{kW:List Int}{F:T6}{nx:Nat->Nat}{a b p:Nat}{sg sp:List Nat}
theorem rQ.axu{ks:List Int}(h:rQ gl od lo on tm kW ((a,sg)::F) nx)(hd:¬nx a<(gl.getD a []).length)(he:oS lo a=oS od a)(hks:ks=(a:Int)::NI sg.reverse):
  rQ gl od lo (gE on ks false) tm (gE kW ks (CN a ks)) F nx:=by
 have hin:∀x,x∈ks->∃j,(j=a\/j∈sg)/\x=((j:Nat):Int):=fun x hx=>by
  rw[hks]at hx
  rcases c8.1 hx with q|q
  .exact⟨a,.inl O,q⟩
  obtain⟨k,hk,e⟩:=abP q;exact⟨k,.inr (by simpa using hk),e⟩
 have hmem:∀k:Nat,(k:Int)∈ks↔(k=a\/k∈sg):=fun k=>by
  rw[hks,c8,aiA,List.mem_reverse]
  exact or_congr J Cg
 have hpos:∀x,x∈ks->0<=x:=fun x hx=>by obtain⟨j,_,e⟩:=hin x hx;omega
 obtain⟨m1,m2,m3⟩:=abO (ks:=ks) (m:=a)
 refine h.close hd he (by rw[je];exact h.lon) (by rw[je];exact h.lof) (m:=CN a ks) ?_ (fun j hj=>m3 _ ((hmem j).2 hj)) (fun k hk=> ?_) fun k hk=> ?_
 .rcases m1 with q|q
  .exact⟨a,.inl O,q⟩
  exact hin _ q
 .rw[sS (by rw[h.lon];exact hk) hpos]
  by_cases c:(k:Int)∈ks
  .rw[aX c,aX ((hmem k).1 c)]
  rw[aT c,aT fun q=>c ((hmem k).2 q)]
 show(gE kW ks (CN a ks)).getD k 0=_
 rw[sS (by rw[h.lof];exact hk) hpos]
 by_cases c:(k:Int)∈ks
 .rw[aX c,aX ((hmem k).1 c)]
 rw[aT c,aT fun q=>c ((hmem k).2 q)];rfl
theorem abQ:NI (fI ((a,sg)::F)).reverse=NI (fI F).reverse++(a:Int)::NI sg.reverse:=by
 rw[gQ];simp[NI]
theorem rQ.asa(h:rQ gl od lo on tm kW ((a,sg)::F) nx):(a:Int)∉NI sg.reverse:=fun q=>by
 have:=h.T8.below.2 a (by simpa using aiA.1 q);omega
theorem wk:pO ((a,sg)::F) nx=pO F nx++[⟨a,nx a⟩]:=by simp[pO]
theorem oP:(pO F nx).length=F.length:=by simp[pO]
theorem aiB(h:rQ gl od lo on tm kW ((a,sg)::F) nx):(pO ((a,sg)::F) nx).set F.length ⟨a,(nx a:Int)+1⟩=pO ((a,sg)::F) (qN nx a):=by
 have e:pO F (qN nx a)=pO F nx:=by
  unfold pO
  apply HK
  intro x hx
  have hx':x∈F:=by simpa using hx
  have:=h.T8.below.1 x.1 (jz hx')
  unfold qN;rw[aT (fun e=>by rw[e]at this;omega)]
 rw[wk,wk,e,<-oP (F:=F) (nx:=nx),List.set_append_right _ _ (fh _),RG]
 unfold qN;rw[aX O];rfl
theorem S2:(pO ((a,sg)::F) nx).getD F.length ⟨0,0⟩=⟨a,nx a⟩:=by grind[wk,oP]
theorem VN:(pO ((a,sg)::F) nx).take F.length=pO F nx:=by grind[wk,oP]
end
end
end Go.Proofs.YtlhjdflgjbkpmaaGreatDoor.M
namespace Go.Proofs.YtlhjdflgjbkpmaaGreatDoor.E
section
open Go Go.RowKit Go.Proofs.YtlhjdflgjbkpmaaGreatDoor.M
def Kf:D7:=⟨0,0⟩
def GO(x:D7):List Value:=[I x.node,I x.next]
theorem ng(x:D7):(GO x).length=2:=rfl
theorem aiC{x:D7}:∀u∈GO x,u.oneCell'=true:=fun u hu=>by
 simp only[GO,c8,HN,Ce]at hu
 rcases hu with rfl|rfl<;>rfl
end
end Go.Proofs.YtlhjdflgjbkpmaaGreatDoor.E
namespace Go.Proofs.YtlhjdflgjbkpmaaGreatDoor.M
section
open Go
section
variable{gl:List (List Int)}{od lo:List Int}{on:List Bool}{tm:Int}{kW:List Int}{F:T6}{nx:Nat->Nat}{a b p:Nat}{sg sp:List Nat}
theorem asK(h:((pO F nx).length:Int)>0):∃a sg F0,F=(a,sg)::F0:=by
 cases F with
 |nil=>simp[pO]at h
 |cons x F0=>exact⟨x.1,x.2,F0,rfl⟩
theorem aiD:NI (fI F).reverse++[(a:Int)]=NI (fI ((a,[])::F)).reverse:=by rw[abQ];rfl
theorem aiE(h:nx a=0):pO F nx++[⟨a,0⟩]=pO ((a,[])::F) nx:=by rw[wk,h];rfl
theorem aiF:NI (fI ((a,sg)::(p,sp)::F)).reverse=NI (fI ((p,sg++a::sp)::F)).reverse:=by grind[fI]
theorem aiG:pO ((p,sp)::F) nx=pO ((p,sg++a::sp)::F) nx:=by rw[wk,wk]
theorem rQ.Fp(h:rQ gl od lo on tm kW ((a,sg)::F) nx):a<gl.length:=(h.lt a DY).1
theorem abR(h:rQ gl od lo on tm kW F nx):(fI F).length<=gl.length:=by
 have hn:(fI F).Nodup:=h.T8.Nn.imp fun q e=>by rw[e]at q;omega
 have:=K3 hn (m:=List.range gl.length) fun k hk=>qv.2 (h.lt k hk).1
 rwa[Rt]at this
theorem anl(h:rQ gl od lo on tm kW F nx):F.length<=(fI F).length:=by
 clear h
 induction F with
 |nil=>simp
 |cons x F ih=>rw[show x=(x.1,x.2)from O,gQ];simp;omega
theorem axv(h:(F.length:Int)>0):∃p sp F1,F=(p,sp)::F1:=by
 cases F with
 |nil=>simp at h
 |cons x F1=>exact⟨x.1,x.2,F1,rfl⟩
end
theorem OfK.same{E:Nat->Nat->Prop}{k:Nat}{o p:Int}(h:OfK E k o)(h2:OfK E k p):o=p:=by grind[OfK]
open Classical in
noncomputable def ofK(E:Nat->Nat->Prop)(k:Nat):Int:=if h:∃o,OfK E k o then Classical.choose h else 0
theorem aiH{E:Nat->Nat->Prop}{k:Nat}{o:Int}(h:OfK E k o):ofK E k=o:=by
 unfold ofK
 rw[dif_pos ⟨o,h⟩]
 exact(Classical.choose_spec (⟨o,h⟩:∃o,OfK E k o)).same h
noncomputable def pz(gl:List (List Int)):List Int:=(List.range gl.length).map (ofK (wj gl))
section
variable{gl:List (List Int)}{od lo:List Int}{on:List Bool}{tm:Int}{kW:List Int}{nx:Nat->Nat}
theorem rQ.done(h:rQ gl od lo on tm kW [] nx)(ha:∀k,k<gl.length->oS od k≠0):kW=pz gl:=by
 apply ug
 intro k
 unfold pz
 rw[qu]
 by_cases c:k<gl.length
 .rw[zF c,eF (by rw[h.lof];exact c)]
  have:=h.fin k ⟨by rw[h.T7];exact c,ha k c,by simp[fI]⟩
  rw[qV,aiH this]
  unfold oS;rw[eT,eF (by rw[h.lof];exact c)];rfl
 rw[og (by rw[h.lof];omega),og LP];rfl
theorem anm:(pz gl).length=gl.length:=by simp[pz]
theorem abS{n k:Nat}:oS (List.replicate n 0) k=0:=by grind[oS]
theorem rQ.start{n:Nat}(h:gl.length=n):rQ gl (List.replicate n 0) (List.replicate n 0) (List.replicate n false) 0 (List.replicate n 0) [] (fun _=>0):=by
 have hs:∀k,¬Bg (List.replicate n 0) [] k:=fun k q=>q.2.1 abS
 refine⟨by simp[h],by simp[h],by simp[h],by simp[h],fun k hk=> ?_,fun k hk=>by simp[fI]at hk,fun k=>by rw[abS];omega,by simp[h],F8.nil,O8.nil fun k q=>absurd q (hs k),fun _ _=>rfl,fun k q=>absurd q (hs k)⟩
 rw[eT,XC]
 simp[fI]
 split<;>rfl
end
end
end Go.Proofs.YtlhjdflgjbkpmaaGreatDoor.M
namespace Go.Proofs.YtlhjdflgjbkpmaaGreatDoor.E
section
open Go Go.RowKit Go.Proofs.YtlhjdflgjbkpmaaGreatDoor.M
structure xn(T:FTy)(F m:Nat)(cs:List (List Nat))(vW vU:Value)(cW cU:Option (Nat×Array Value))(W:List (BitVec 64))(ul:List (Value×jS))(ts:List Int)(cn:Int)(L:List bu):Prop where
 fo:∃tn,ts=Kc tn/\FoI T F m cs vW vU vW cW cU W ul tn L
 cn:cn=((leads (bB cs):Nat):Int)
section
variable{T:FTy}{F m m':Nat}{cs:List (List Nat)}{vW vU:Value}{cW cU:Option (Nat×Array Value)}{W:List (BitVec 64)}{ul:List (Value×jS)}{ts:List Int}{cn:Int}{L L':List bu}
theorem xn.mono(h:xn T F m cs vW vU cW cU W ul ts cn L)(hs:∀e∈L,e∈L'):xn T F m cs vW vU cW cU W ul ts cn L':=by
 obtain⟨tn,e,i⟩:=h.fo
 exact⟨⟨tn,e,i.hW,i.hU,i.hs,i.ok,fun x hx=>(i.un x hx).mono hs,i.lu,i.lt⟩,h.cn⟩
theorem xn.more(h:xn T F m cs vW vU cW cU W ul ts cn L)(hm:m<=m'):xn T F m' cs vW vU cW cU W ul ts cn L:=by
 obtain⟨tn,e,i⟩:=h.fo
 exact⟨⟨tn,e,i.hW,i.hU,i.hs,i.ok,i.un,by have:=i.lu;omega,by have:=i.lt;omega⟩,h.cn⟩
theorem xn.hW(h:xn T F m cs vW vU cW cU W ul ts cn L):cO cW vW (W.map U):=by obtain⟨tn,e,i⟩:=h.fo;exact i.hW
theorem xn.hU(h:xn T F m cs vW vU cW cU W ul ts cn L):cO cU vU (ul.map Prod.fst):=by obtain⟨tn,e,i⟩:=h.fo;exact i.hU
theorem xn.now(h:xn T F m cs vW vU cW cU W ul ts cn L):∃nd cl A7,cs=cl::A7/\W=bE nd/\Fo nd cl/\nd.length=cl.length/\cl.length<=m/\ts.length+1=cs.length/\leads cl<=m:=by
 obtain⟨tn,rfl,i⟩:=h.fo
 obtain⟨nd,cl,A7,h1,h2,h3,h4,h5,h6,h7⟩:=i.now
 exact⟨nd,cl,A7,h1,h2,h3,h4,h5,by rw[xm];exact h6,h7⟩
theorem xn.ne(h:xn T F m cs vW vU cW cU W ul ts cn L):0<cs.length:=by obtain⟨nd,cl,A7,e,_⟩:=h.now;subst e;simp
end
def qE(c:Option (Nat×Array Value))(v:Value)(e:TypeId)(xs:List Value):bu:=
 match c with
 |none=> .row v e 1 xs.length xs
 |some (b,cur)=> .blk b (.cells cur e (0,0))
def qO(c:Option (Nat×Array Value))(v:Value)(xs:List Value):Prop:=
 match c with
 |none=>True
 |some (b,cur)=>∃o cap,v= .slice (some ⟨b,o,none⟩) xs.length cap/\xs.length<=cap/\o+cap<=cur.size/\(cur.toList.drop o).take xs.length=xs/\cap<=maxLen
theorem abT{b o k cap:Nat}:o8 (.slice (some ⟨b,o,none⟩) (k+1) cap) 1 1= .slice (some ⟨b,if cap=1 then o else o+1,none⟩) k (cap-1):=by grind[o8,CF]
section
variable{P:Program}{σ:Env}{w0 w:World}{L:List bu}{c:Option (Nat×Array Value)}{v u x0:Value}{e t ty:TypeId}{xs news:List Value}{i m:Nat}{pos:String}{bO:Array Edge}{dst:Option Tmp}{g:Option (Nat×Bool)}{x y:Operand}
theorem Hp.slQ(h:Hp w0 w L)(hi:L[i]?=some (qE c v e xs))(hk:qO c v xs):Sl w v 1 xs.length xs:=by
 cases c with
 |none=>exact h.sl hi
 |some bc=>
  obtain⟨b,cur⟩:=bc
  obtain⟨o,cap,rfl,h1,h2,h3,h4⟩:=hk
  refine⟨⟨_,cap,rfl,h1,fun _=>rfl⟩,J,fun j u hu=> ?_,J⟩
  simp only[sb,so]
  rw[xS w _ _ cur e (0,0) (h.blk hi)]
  rw[<-h3,u9]at hu
  split at hu
  .rw[B5]at hu;simpa using hu
  .cases hu
theorem Hp.axw(h:Hp w0 w L)(hi:L[i]?=some (qE c v e (x0::xs)))(hk:qO c v (x0::xs)):∃c',qO c' (o8 v 1 1) xs/\Hp w0 w (L.set i (qE c' (o8 v 1 1) e xs)):=by
 cases c with
 |none=>
  have hr:w.ownsRow w0.heap.size e 1 v (x0::xs).length (x0::xs):=h.get hi
  obtain⟨h1,h2⟩:=hr
  rcases h2 with⟨rfl,q⟩|⟨gb,cap,cur,rfl,hb,hg,hn,hc,hs,ht⟩
  .simp at q
  rw[fw]at hn
  rw[lX]at hs ht
  refine⟨some (gb,cur),⟨if cap=1 then 0 else 0+1,cap-1,abT,J,by split<;>omega,?_,J⟩,h.xl hi O ⟨hb,hg⟩⟩
  rw[fw]at ht
  by_cases q:cap=1
  .have e0:xs.length=0:=J
   rw[e0,xK];exact(zC e0).symm
  rw[aT q]
  cases oy:cur.toList with
  |nil=>rw[oy]at ht;simp at ht
  |cons a l=>
   rw[oy]at ht
   simp at ht⊢
   exact ht.2
 |some bc=>
  obtain⟨b,cur⟩:=bc
  obtain⟨o,cap,rfl,h1,h2,h3,h4⟩:=hk
  rw[fw]at h1
  refine⟨some (b,cur),⟨if cap=1 then o else o+1,cap-1,abT,J,by split<;>omega,?_,J⟩,h.xl hi O (h.get hi)⟩
  rw[fw]at h3
  by_cases q:cap=1
  .have e0:xs.length=0:=J
   rw[e0,xK];exact(zC e0).symm
  rw[aT q,<-RB]
  cases oy:cur.toList.drop o with
  |nil=>rw[oy]at h3;simp at h3
  |cons a l=>
   rw[oy]at h3
   simp at h3⊢
   exact h3.2
theorem ann{ie:TypeInfo}{z:Value}{bytes:Nat}(h:Hp w0 w L)(hi:L[i]?=some (qE c v e xs))(hk:qO c v xs)(hS:Sl w u 1 1 [x0])
  (hx:ev σ x=v) (hy:ev σ y=u) (ht:P.underlying t=some (.slice e)) (hie:P.info? e=some ie) (hz:ie.zero=some z)
  (hsize:ie.size=1) (hby:ie.bytes=bytes) (hzs:z.cells.size=1) (h1:x0.oneCell'=true) (hb:xs.length+1<=1000000000) (J4:bytes<=1000):
  ∃v' c' w',(execOp (ev σ) ⟨dst,.call {callee:= .builtin .append,args:=#[x,y],argTypes:=#[t,t]},ty,pos,bO,g⟩).run P w= .ok (.value v') w'/\qO c' v' (xs++[x0])/\Hp w0 w' (L.set i (qE c' v' e (xs++[x0]))):=by
 have hbytes:(xs.length+1)*bytes<=140737488355328:=kL (xQ hb J4) az
 have h63:xs.length+1<=maxLen:=by simp only[maxLen];omega
 have hone:∀q∈[x0],q.oneCell'=true:=fun q hq=>by rw[gG.1 hq];exact h1
 cases c with
 |none=>
  obtain⟨v',w',hr,h2,h3,h4⟩:=s7 (P:=P) (ty:=ty) ht hie hz hsize hby hzs J (h.get hi) hS hone h63 hbytes h.size
  refine⟨v',none,w',s0 hx hy hr,trivial,?_⟩
  have:=h.yH hi h2 h3 h4
  unfold qE;rw[ec];exact this
 |some bc=>
  have hX:=h.slQ hi hk
  obtain⟨b,cur⟩:=bc
  obtain⟨o,cap,rfl,k1,k2,k3,k4⟩:=hk
  obtain⟨a,Vb,hu,huc,hua⟩:=hS.shape
  have aEo:=hua J
  generalize hB:sb u=B at*
  generalize hO:so u=Ozz at*
  subst aEo
  have hnews:∀j q,[x0][j]?=some q->w.cell? ((⟨B,Ozz,none⟩:Addr).add j)=some q:=fun j q hq=>by
   have:=hS.cell j q hq
   rw[hB,hO]at this
   rw[CF];exact this
  subst hu
  by_cases room:xs.length+1<=cap
  .have hg:=h.blk hi
   have hf:=run_firstCells_some (P:=P) w 1 1 _ 1 Vb [x0] O hnews
   have hst:=XT P b (o+xs.length*1) e [x0] 0 cur w hg iY hone
   simp only[LB]at hst
   have hr:(Builtin.append_ #[t,t] ty #[.slice (some ⟨b,o,none⟩) xs.length cap,.slice (some ⟨B,Ozz,none⟩) 1 Vb]).run P w= .ok (.slice (some ⟨b,o,none⟩) (xs.length+1) cap) (w.setRow b (cur.toList.take (o+xs.length*1)++[x0]++cur.toList.drop (o+xs.length*1+[x0].length)).toArray):=by
    simp only[lX]at hst⊢
    simp[Builtin.append_,kp ht,sizeOf,typeInfo,hie,hsize,Builtin.lenOf,room,hf,Addr.add_lit,hst]
   refine⟨_,some (b,(cur.toList.take (o+xs.length*1)++[x0]++cur.toList.drop (o+xs.length*1+[x0].length)).toArray),_,s0 hx hy hr,⟨o,cap,by rw[ec,eA],by simpa using room,?_,?_,k4⟩,h.set hi⟩
   .simp only[vb,ec,dW,yE,eA,E0];omega
   have hl:cur.toList.length=cur.size:=E0
   have e1:((cur.toList.take (o+xs.length*1)++[x0]++cur.toList.drop (o+xs.length*1+[x0].length)).drop o)=(cur.toList.drop o).take xs.length++([x0]++cur.toList.drop (o+xs.length*1+[x0].length)):=by
    rw[dG,Lg (by rw[dW];omega),List.drop_take]
    congr 2;omega
   show List.take (xs++[x0]).length (List.drop o (cur.toList.take (o+xs.length*1)++[x0]++cur.toList.drop (o+xs.length*1+[x0].length)))=_
   rw[e1,k3,ec,Xx]
   rfl
  have holds:∀j q,xs[j]?=some q->w.cell? ((⟨b,o,none⟩:Addr).add j)=some q:=fun j q hq=>by
   rw[CF]
   have:=hX.cell j q hq
   simpa[sb,so]using this
  obtain⟨v',w',hr,h2,h3⟩:=run_append_arg_grows (P:=P) (w:=w) t ty e ie z 1 bytes ht hie hz hsize hby hzs J ⟨b,o,none⟩ xs.length cap xs J holds _ 1 Vb [x0] O hnews J h63 hbytes
  refine⟨v',none,w',s0 hx hy hr,trivial,?_⟩
  have aEp:Below w.heap.size w w':=(Below.refl w.heap.size w).grown h3 (fh _) (fun k hk=>by cases hk)
  have:=(h.DD aEp h2).swap (nX.1 hi).1
  unfold qE;rw[ec];exact this
variable{n d:Nat}{ops:Array Oper}{k:K}{rest:List Oper}
theorem asL{ie:TypeInfo}{z:Value}{bytes:Nat}{α:Type}{f:α->Value}{l:List α}{a:α}(hd:Nat.blt d n=true)(h:Hp w0 w L)(hi:L[i]?=some (qE c v e (l.map f)))(hk:qO c v (l.map f))(hS:Sl w u 1 1 [f a])
  (hx:ev σ x=v) (hy:ev σ y=u) (ht:P.underlying t=some (.slice e)) (hie:P.info? e=some ie) (hz:ie.zero=some z)
  (hsize:ie.size=1) (hby:ie.bytes=bytes) (hzs:z.cells.size=1) (h1:(f a).oneCell'=true) (hb:l.length+1<=1000000000) (J4:bytes<=1000)
  (hn:∀v' c' w',qO c' v' ((l++[a]).map f)->Hp w0 w' (L.set i (qE c' v' e ((l++[a]).map f)))->RL P n ops k rest (lZ σ d v') w'):RL P n ops k (⟨some d,.call {callee:= .builtin .append,args:=#[x,y],argTypes:=#[t,t]},ty,pos,bO,none⟩::rest) σ w:=by
 obtain⟨v',c',w',hr,h2,h3⟩:=ann (P:=P) (ty:=ty) (dst:=some d) (pos:=pos) (bO:=bO) (g:=none) h hi hk hS hx hy ht hie hz hsize hby hzs h1 (by rw[gF];exact hb) J4
 rw[<-Lp (f:=f),<-gV]at h2 h3
 exact pu hd hr (hn v' c' w' h2 h3)
end
abbrev Va:=Nat->El
structure s4 where
 sh:Sh
 ev:Va->El
 to:Option Nat
 c:El
 vars:List Nat
structure Sys where
 n:Nat
 sh:Nat->Sh
def qj(S:Sys)(u:Va):Prop:=∀i,i<S.n->cJ (S.sh i) (u i)=true
def LeV(S:Sys)(u v:Va):Prop:=∀i,i<S.n->cS (u i) (v i)=true
structure tL(S:Sys)(q:s4):Prop where
 fit:∀u,qj S u->cJ q.sh (q.ev u)=true
 lt:∀i,i∈q.vars->i<S.n
 Qy:∀u v,qj S u->qj S v->(∀i,i∈q.vars->cS (u i) (v i)=true)->cS (q.ev u) (q.ev v)=true
 to:∀k,q.to=some k->k<S.n/\S.sh k=q.sh
def s4.rhs(q:s4)(u:Va):El:=match q.to with
 |some k=>u k
 |none=>q.c
def fp(q:s4)(u:Va):Prop:=cS (q.ev u) (q.rhs u)=true
structure uU(S:Sys)(Q:s4->Prop)(u:Va):Prop where
 fit:qj S u
 hold:∀q,Q q->q.to≠none->fp q u
def GQ(v:Va)(k:Nat)(e:El):Va:=fun i=>if i=k then e else v i
structure CO(S:Sys)(Q:s4->Prop)(v:Va):Prop where
 fit:qj S v
 low:∀u,uU S Q u->LeV S v u
structure lE(S:Sys)(Q:s4->Prop)(v:Va):Prop where
 low:CO S Q v
 sol:∀q,Q q->q.to≠none->fp q v
theorem tL.mono{S:Sys}{q:s4}(h:tL S q)(u v:Va)(hu:qj S u)(hv:qj S v)(hl:LeV S u v):cS (q.ev u) (q.ev v)=true:=h.Qy u v hu hv fun i hi=>hl i (h.lt i hi)
section
variable{S:Sys}{Q Q':s4->Prop}{u v w:Va}{q:s4}{k:Nat}{e:El}
theorem fG{a b c:El}(h:cS a b=true)(h2:cS b c=true):cS a c=true:=by grind[p7,mc]
theorem lf{a b:El}(h:rR a b):cS a b=true:=p7.2 fun i hi=>by rw[h i hi];exact tC _
theorem lE.is(h:lE S Q v):uU S Q v:=⟨h.low.fit,h.sol⟩
theorem lE.same(h:lE S Q v)(h2:lE S Q w):∀i,i<S.n->rR (v i) (w i):=fun i hi=>YW (h.low.low w h2.is i hi) (h2.low.low v h.is i hi)
theorem abU(hs:∀i,i<S.n->mA (S.sh i)=true)(hv:∀i,i<S.n->v i=gJ (S.sh i) ew):CO S Q v:=
 ⟨fun i hi=>by rw[hv i hi];exact(P3 (hs i hi)).1,fun u hu i hi=>by rw[hv i hi];exact(P3 (hs i hi)).2 _ (hu.fit i hi)⟩
theorem CO.raise(h:CO S Q v)(hq:Q q)(ho:tL S q)(hk:q.to=some k):CO S Q (GQ v k (eo q.sh (v k) (q.ev v))):=by
 obtain⟨k1,k2⟩:=ho.to k hk
 have fk:=h.fit k k1
 rw[k2]at fk
 refine⟨fun i hi=> ?_,fun u hu i hi=> ?_⟩
 .unfold GQ
  by_cases e:i=k
  .rw[aX e,e,k2];exact IJ fk (ho.fit v h.fit)
  rw[aT e];exact h.fit i hi
 unfold GQ
 by_cases e:i=k
 .rw[aX e,e]
  have h1:=h.low u hu
  have h2:=hu.hold q hq (by rw[hk];simp)
  unfold fp s4.rhs at h2
  rw[hk]at h2
  have fu:=hu.fit k k1
  rw[k2]at fu
  exact abl fk (ho.fit v h.fit) fu (h1 k k1) (fG (ho.mono v u h.fit hu.fit h1) h2)
 rw[aT e];exact h.low u hu i hi
theorem CO.more(h:CO S Q v)(hq:∀q,Q q->Q' q):CO S Q' v:=⟨h.fit,fun u hu=>h.low u ⟨hu.fit,fun q h1 h2=>hu.hold q (hq q h1) h2⟩⟩
theorem CO.apP(h:CO S Q v)(ho:tL S q)(hk:q.to=none)(hf:¬fp q v):∀u,uU S Q u->¬fp q u:=fun u hu hh=>hf (by
 unfold fp s4.rhs at hh⊢
 rw[hk]at hh⊢
 exact fG (ho.mono v u h.fit hu.fit (h.low u hu)) hh)
def qF(S:Sys)(Q:s4->Prop)(C:Nat->Prop):Prop:=∀u,uU S Q u->∀i k,C i->C k->rR (u i) (u k)
def rE(v:Va)(C:Nat->Prop)[DecidablePred C](e:El):Va:=fun i=>if C i then e else v i
theorem CO.ring{C:Nat->Prop}[DecidablePred C](h:CO S Q v)(hC:qF S Q C)(hin:∀i,C i->i<S.n)(hk:C k)(hsh:∀i,C i->S.sh i=S.sh k)(he:cJ (S.sh k) e=true)(hl:∀u,uU S Q u->cS e (u k)=true):CO S Q (rE v C e):=by
 refine⟨fun i hi=> ?_,fun u hu i hi=> ?_⟩
 .unfold rE
  by_cases c:C i
  .rw[aX c,hsh i c];exact he
  rw[aT c];exact h.fit i hi
 unfold rE
 by_cases c:C i
 .rw[aX c];exact fG (hl u hu) (lf (hC u hu k i hk c))
 rw[aT c];exact h.low u hu i hi
theorem CO.lub(h:CO S Q v)(hq:Q q)(ho:tL S q)(hk:q.to=some k):cJ (S.sh k) (eo q.sh (v k) (q.ev v))=true/\∀u,uU S Q u->cS (eo q.sh (v k) (q.ev v)) (u k)=true:=by
 have h1:=h.raise hq ho hk
 have k1:=(ho.to k hk).1
 have e:GQ v k (eo q.sh (v k) (q.ev v)) k=eo q.sh (v k) (q.ev v):=aX O
 refine⟨?_,fun u hu=> ?_⟩
 .have:=h1.fit k k1;rwa[e]at this
 have:=h1.low u hu k k1;rwa[e]at this
theorem qF.of{C:Nat->Prop}(hC:∀u,uU S Q u->∀i k,C i->C k->cS (u i) (u k)=true):qF S Q C:=fun u hu i k hi hk=>YW (hC u hu i k hi hk) (hC u hu k i hk hi)
abbrev Qm:=BitVec 64->s4->Prop
def ael(M:Qm):Prop:=∀a b q,eu a b=true->M a q->M b q
def FI(S:Sys)(M:Qm)(v:Va)(ws:Nat->BitVec 64):Prop:=∀k,k<S.n->∀u,uU S (M (ws k)) u->cS (v k) (u k)=true
def O9(y:BitVec 64)(ws:Nat->BitVec 64)(l:List Nat):BitVec 64:=l.foldl (fun a i=>a|||ws i) y
theorem GR:∀(l:List Nat) (y:BitVec 64) (ws:Nat->BitVec 64),eu y (O9 y ws l)=true/\∀i∈l,eu (ws i) (O9 y ws l)=true
 |[],y,ws=>⟨tC _,fun i hi=>by cases hi⟩
 |a::l,y,ws=>by
  obtain⟨h1,h2⟩:=GR l (y|||ws a) ws
  refine⟨mc (Im _ _) h1,fun i hi=> ?_⟩
  rcases c8.1 hi with e|hi
  .rw[e];exact mc (Gu _ _) h1
  exact h2 i hi
theorem uU.less{Q Q':s4->Prop}(h:uU S Q' u)(hq:∀q,Q q->Q' q):uU S Q u:=⟨h.fit,fun q h1 h2=>h.hold q (hq q h1) h2⟩
section
variable{M:Qm}{ws:Nat->BitVec 64}{y:BitVec 64}
theorem FI.ev(h:FI S M v ws)(hM:ael M)(hv:qj S v)(ho:tL S q){W:BitVec 64}(hW:eu (O9 y ws q.vars) W=true)(hu:uU S (M W) u):cS (q.ev v) (q.ev u)=true:=
 ho.Qy v u hv hu.fit fun i hi=>h i (ho.lt i hi) u (hu.less fun q hq=>hM _ _ _ (mc ((GR _ y ws).2 i hi) hW) hq)
theorem FI.stuck(h:FI S M v ws)(hM:ael M)(hv:qj S v)(ho:tL S q)(hk:q.to=none)(hf:¬fp q v):∀u,uU S (M (O9 y ws q.vars)) u->¬fp q u:=fun u hu hh=>hf (by
 unfold fp s4.rhs at hh⊢
 rw[hk]at hh⊢
 exact fG (h.ev hM hv ho (tC _) hu) hh)
def FJ(ws:Nat->BitVec 64)(C:Nat->Prop)[DecidablePred C](W:BitVec 64):Nat->BitVec 64:=fun i=>if C i then W else ws i
theorem FI.raise{C:Nat->Prop}[DecidablePred C](h:FI S M v ws)(hM:ael M)(hv:qj S v)(ho:tL S q)(hk:q.to=some k)(hy:M y q)(hC:qF S (M (ws k)) C)(hck:C k){W:BitVec 64}(hW1:eu (ws k) W=true)(hW2:eu (O9 y ws q.vars) W=true):
  FI S M (rE v C (eo q.sh (v k) (q.ev v))) (FJ ws C W):=fun i hi u hu=>by
 unfold FJ at hu
 unfold rE
 by_cases c:C i
 .rw[aX c]at hu⊢
  obtain⟨k1,k2⟩:=ho.to k hk
  have hu1:uU S (M (ws k)) u:=hu.less fun q hq=>hM _ _ _ hW1 hq
  have h1:=h.ev hM hv ho hW2 hu
  have h2:=hu.hold q (hM _ _ _ (mc (GR q.vars y ws).1 hW2) hy) (by rw[hk];simp)
  unfold fp s4.rhs at h2
  rw[hk]at h2
  have fv:=hv k k1;have fu:=hu.fit k k1
  rw[k2]at fv fu
  exact fG (abl fv (ho.fit v hv) fu (h k k1 u hu1) (fG h1 h2)) (lf (hC u hu1 k i hck c))
 rw[aT c]at hu⊢;exact h i hi u hu
theorem FI.ring{C:Nat->Prop}[DecidablePred C](h:FI S M v ws)(hM:ael M){W:BitVec 64}(hC:qF S (M W) C)(hW:∀i,C i->i<S.n/\eu (ws i) W=true)(he:∀u,uU S (M W) u->∀i,C i->cS e (u i)=true):FI S M (rE v C e) (FJ ws C W):=fun i hi u hu=>by
 unfold FJ at hu
 unfold rE
 by_cases c:C i
 .rw[aX c]at hu⊢;exact he u hu i c
 rw[aT c]at hu⊢;exact h i hi u hu
end
def Av(H r:Int)(U:Nat):Int:=(H-r)*U
def pA(S:Sys)(U:Nat->Nat)(v:Va):Nat->Int
 |0=>0
 |n+1=>pA S U v n+Av (gK (S.sh n)) (m9 (S.sh n) (v n)) (U n)
theorem K6{U:Nat->Nat}(hv:qj S v):∀n,n<=S.n->0<=pA S U v n
 |0,_=>lY _
 |n+1,hn=>by
  have h1:=K6 (U:=U) hv n J
  have h2:=ahc (hv n J)
  have h3:0<=Av (gK (S.sh n)) (m9 (S.sh n) (v n)) (U n):=Int.mul_nonneg J J
  show 0<=pA S U v n+_
  omega
theorem S3{U:Nat->Nat}:∀n,pA S U (GQ v k e) n=pA S U v n+(if k<n then Av (gK (S.sh k)) (m9 (S.sh k) e) (U k)-Av (gK (S.sh k)) (m9 (S.sh k) (v k)) (U k)else 0)
 |0=>by simp[pA]
 |n+1=>by
  have ih:=S3 (U:=U) n
  show pA S U (GQ v k e) n+Av (gK (S.sh n)) (m9 (S.sh n) (GQ v k e n)) (U n)=pA S U v n+Av (gK (S.sh n)) (m9 (S.sh n) (v n)) (U n)+_
  rw[ih]
  by_cases h:n=k
  .subst h
   have e1:GQ v n e n=e:=aX O
   rw[e1,aT J,aX J];omega
  have e1:GQ v k e n=v n:=aT h
  rw[e1]
  by_cases h2:k<n
  .rw[aX h2,aX J];omega
  rw[aT h2,aT J];omega
theorem Qz{U:Nat->Nat}(hv:qj S v)(hk:k<S.n)(he:cJ (S.sh k) e=true)(hl:cS (v k) e=true)(hne:¬rR e (v k)):pA S U (GQ v k e) S.n+U k<=pA S U v S.n:=by
 rw[S3,aX hk]
 have h1:=ahd (hv k hk) he hl hne
 have h2:Av (gK (S.sh k)) (m9 (S.sh k) e) (U k)+U k<=Av (gK (S.sh k)) (m9 (S.sh k) (v k)) (U k):=by
  unfold Av
  have:(gK (S.sh k)-m9 (S.sh k) e+1)*(U k:Int)<=(gK (S.sh k)-m9 (S.sh k) (v k))*(U k:Int):=Int.mul_le_mul_of_nonneg_right J J
  rw[Int.add_mul,Int.one_mul]at this
  exact this
 omega
theorem S4{U U':Nat->Nat}:∀n,pA S (fun k=>U k+U' k) v n=pA S U v n+pA S U' v n
 |0=>rfl
 |n+1=>by
  have ih:=S4 (U:=U) (U':=U') n
  show pA S (fun k=>U k+U' k) v n+Av _ _ (U n+U' n)=pA S U v n+Av _ _ (U n)+(pA S U' v n+Av _ _ (U' n))
  rw[ih]
  unfold Av
  rw[show((U n+U' n:Nat):Int)=(U n:Int)+(U' n:Int)by omega,Int.mul_add]
  omega
theorem No:∀n,pA S (fun _=>0) v n=0
 |0=>rfl
 |n+1=>by
  show pA S (fun _=>0) v n+Av _ _ 0=0
  rw[No n];simp[Av]
theorem abV{x:Nat}:∀n,pA S (fun k=>if k=x then 1 else 0) v n=if x<n then gK (S.sh x)-m9 (S.sh x) (v x)else 0
 |0=>by simp[pA]
 |n+1=>by
  show pA S (fun k=>if k=x then 1 else 0) v n+Av _ _ (if n=x then 1 else 0)=_
  rw[abV n]
  by_cases h:n=x
  .subst h;rw[aX O,aT J,aX J];simp[Av]
  rw[aT h]
  by_cases h2:x<n
  .rw[aX h2,aX J];simp[Av]
  rw[aT h2,aT J];simp[Av]
def S5(k:Nat):List Nat->Nat
 |[]=>0
 |x::l=>(if k=x then 1 else 0)+S5 k l
theorem VO{H:Int}:∀{l:List Nat},(∀x,x∈l->x<S.n/\gK (S.sh x)<=H)->pA S (fun k=>S5 k l) v S.n<=H*l.length
 |[],_=>by
  show pA S (fun _=>0) v S.n<=_
  rw[No];simp
 |x::l,h=>by
  have ih:=VO (l:=l) (H:=H) fun y hy=>h y (fX _ hy)
  have e:(fun k=>S5 k (x::l))=fun k=>(if k=x then 1 else 0)+S5 k l:=rfl
  rw[e,S4,abV,aX (h x aJ).1]
  have h1:=(h x aJ).2
  have h2:=ahb (S.sh x) (v x)
  rw[fw,show((l.length+1:Nat):Int)=(l.length:Int)+1 by omega,Int.mul_add,Int.mul_one]
  omega
def VP(l:List s4)(k:Nat):Nat:=match l with
 |[]=>0
 |q::l=>S5 k q.vars+VP l k
theorem VQ:∀{l:List s4},(∀q,q∈l->∀x,x∈q.vars->x<S.n/\S.sh x=q.sh)->pA S (VP l) v S.n<=(l.map fun q=>gK q.sh*q.vars.length).sum
 |[],_=>by
  show pA S (fun _=>0) v S.n<=_
  rw[No];simp
 |q::l,h=>by
  have ih:=VQ (l:=l) fun p hp=>h p (fX _ hp)
  have e:VP (q::l)=fun k=>S5 k q.vars+VP l k:=rfl
  rw[e,S4,lT,E8]
  have:=VO (S:=S) (v:=v) (l:=q.vars) (H:=gK q.sh) fun x hx=>⟨(h q aJ x hx).1,by rw[(h q aJ x hx).2];exact lY _⟩
  omega
end
section
variable{sh:Sh}{l:List dV}{us vs:List El}
def aiI(sh:Sh)(l:List dV)(us vs:List El):Prop:=∀x,x∈l->(x.op=1->0<=x.n/\x.n<us.length/\cJ sh (us.getD x.n.toNat dg)=true/\cJ sh (vs.getD x.n.toNat dg)=true/\cS (us.getD x.n.toNat dg) (vs.getD x.n.toNat dg)=true)/\(x.op=2->cJ sh x.c=true)
theorem Np(hr:fU l=true)(hl:us.length=vs.length)(hi:aiI sh l us vs):
  (ey sh l us).2=true/\(ey sh l vs).2=true/\cJ sh (ey sh l us).1=true/\cS (ey sh l us).1 (ey sh l vs).1=true:=by
 have key:∀n:Nat,n<=l.length->∃st su,ij sh us l n=some st/\ij sh vs l n=some su/\jx l n=some st.length/\uT st su/\(∀e∈st,cJ sh e=true)/\∀e∈su,cJ sh e=true:=by
  intro n
  induction n with
  |zero=>intro _;exact⟨[],[],rfl,rfl,rfl,trivial,(fun e he=>by cases he),fun e he=>by cases he⟩
  |succ n ih=>
   intro hn
   obtain⟨st,su,h1,h2,h3,h4,h5,h6⟩:=ih J
   have hx:=(lR (fF (d:=bG) (l:=l) (i:=(n:Int)) J J))
   rw[show((n+1:Nat):Int)=(n:Int)+1 by omega]
   have hlen:=h4.len
   rcases abz hr (k:=(n:Int)) J J h3 with⟨ho,hd⟩|⟨⟨ho,hn1,Qj⟩,hd⟩
   .rcases ho with ho|ho
    .obtain⟨hx1,hx2,fm,fa,hle⟩:=(hi _ hx).1 ho
     refine⟨_,_,ahF J J h1 ho ⟨hx1,hx2⟩,ahF J J h2 ho ⟨hx1,J⟩,by rw[hd];simp,h4.app ⟨hle,trivial⟩,fun e he=> ?_,fun e he=> ?_⟩
     .rcases e8.1 he with q|q
      .exact h5 e q
      rw[gG.1 q];exact fm
     rcases e8.1 he with q|q
     .exact h6 e q
     rw[gG.1 q];exact fa
    have hk:=(hi _ hx).2 ho
    refine⟨_,_,amH J J h1 ho,amH J J h2 ho,by rw[hd];simp,h4.app ⟨kf _,trivial⟩,fun e he=> ?_,fun e he=> ?_⟩
    .rcases e8.1 he with q|q
     .exact h5 e q
     rw[gG.1 q];exact hk
    rcases e8.1 he with q|q
    .exact h6 e q
    rw[gG.1 q];exact hk
   generalize hg:l.getD (n:Int).toNat bG=x at*
   have e1:=ar6 (s:=sh) (v:=us) (l:=l) (st:=st) (k:=(n:Int)) J J h1 KC KC
   have e2:=ar6 (s:=sh) (v:=vs) (l:=l) (st:=su) (k:=(n:Int)) J J h2 KC KC
   rw[hg]at e1 e2
   have d1:st.drop (st.length-x.n.toNat)≠[]:=fun q=>by
    have:=aK List.length q
    rw[yE,HO]at this;omega
   have g1:∀e∈st.drop (st.length-x.n.toNat),cJ sh e=true:=fun e he=>h5 e (sw he)
   have g2:∀e∈su.drop (su.length-x.n.toNat),cJ sh e=true:=fun e he=>h6 e (sw he)
   have hld:=h4.drop (st.length-x.n.toNat)
   have hlt:=h4.take (st.length-x.n.toNat)
   rw[hlen]at hld hlt
   rw[<-hlen]at hld hlt
   have d2:su.drop (su.length-x.n.toNat)≠[]:=fun q=>by
    have:=aK List.length q
    rw[yE,HO]at this;omega
   refine⟨_,_,e1,e2,?_,?_,fun e he=> ?_,fun e he=> ?_⟩
   .rw[hd,ec,dW,eA];congr 1;omega
   .rw[<-hlen]
    refine hlt.app ⟨M6 hld g1 (by rw[<-hlen]at g2;exact g2),trivial⟩
   .rcases e8.1 he with q|q
    .exact h5 e (r7 q)
    rw[gG.1 q];exact Ag d1 g1
   rcases e8.1 he with q|q
   .exact h6 e (r7 q)
   rw[gG.1 q];exact Ag d2 g2
 obtain⟨st,su,h1,h2,h3,h4,h5,_⟩:=key l.length (fh _)
 rw[M4 hr J J h1,M4 hr J J h2]
 have l1:=Ug hr (k:=(l.length:Int)) J J h3
 have n1:st≠[]:=fun q=>by rw[q]at l1;simp at l1
 refine⟨rfl,rfl,?_,h4.oS⟩
 cases st with
 |nil=>exact absurd O n1
 |cons a st=>exact h5 a aJ
end
def tM:List Int->Int->List Int
 |[],n=>[n]
 |a::l,n=>if a<n then a::tM l n else if a=n then a::l else n::a::l
def dB(l:List dV):List Int:=l.foldl (fun o x=>if x.op=1/\0<=x.n then tM o x.n else o) []
theorem Nq{i n:Int}:∀{l:List Int},i∈tM l n↔i∈l\/i=n
 |[]=>by simp[tM]
 |a::l=>by
  unfold tM
  split
  .rw[c8,Nq,c8,or_assoc]
  split
  .rename_i h;subst h;simp only[c8];constructor
   .intro h;exact .inl h
   rintro(h|h)
   .exact h
   exact .inl h
  simp only[c8];constructor
  .rintro(h|h|h)
   .exact .inr h
   .exact .inl (.inl h)
   exact .inl (.inr h)
  rintro((h|h)|h)
  .exact .inr (.inl h)
  .exact .inr (.inr h)
  exact .inl h
theorem QA{n:Int}:∀{l:List Int},l.Pairwise (· <·)->(tM l n).Pairwise (· <·)
 |[],_=>by simp[tM]
 |a::l,h=>by
  obtain⟨h1,h2⟩:=lS.1 h
  unfold tM
  split
  .refine lS.2 ⟨fun x hx=> ?_,QA h2⟩
   rcases Nq.1 hx with q|q
   .exact h1 x q
   omega
  split
  .exact h
  refine lS.2 ⟨fun x hx=> ?_,h⟩
  rcases c8.1 hx with q|q
  .omega
  have:=h1 x q;omega
theorem QB(l:List dV):∀o:List Int,(∀i,i∈l.foldl (fun o x=>if x.op=1/\0<=x.n then tM o x.n else o) o↔i∈o\/∃x∈l,x.op=1/\0<=x.n/\x.n=i)/\(o.Pairwise (· <·)->(l.foldl (fun o x=>if x.op=1/\0<=x.n then tM o x.n else o) o).Pairwise (· <·)):=by
 induction l with
 |nil=>intro o;exact⟨fun i=>aJ,fun h=>h⟩
 |cons a l ih=>
  intro o
  rw[pg]
  by_cases c:a.op=1/\0<=a.n
  .rw[aX c]
   obtain⟨h1,h2⟩:=ih (tM o a.n)
   refine⟨fun i=> ?_,fun h=>h2 (QA h)⟩
   rw[h1,Nq]
   constructor
   .rintro((h|h)|⟨x,hx,h⟩)
    .exact .inl h
    .exact .inr ⟨a,aJ,c.1,c.2,h.symm⟩
    exact .inr ⟨x,q7,h⟩
   rintro(h|⟨x,hx,h⟩)
   .exact .inl (.inl h)
   rcases c8.1 hx with e|hx
   .subst e;exact .inl (.inr h.2.2.symm)
   exact .inr ⟨x,hx,h⟩
  rw[aT c]
  obtain⟨h1,h2⟩:=ih o
  refine⟨fun i=> ?_,h2⟩
  rw[h1]
  constructor
  .rintro(h|⟨x,hx,h⟩)
   .exact .inl h
   exact .inr ⟨x,q7,h⟩
  rintro(h|⟨x,hx,h⟩)
  .exact .inl h
  rcases c8.1 hx with e|hx
  .subst e;exact absurd ⟨h.1,h.2.1⟩ c
  exact .inr ⟨x,hx,h⟩
theorem sU{l:List dV}{i:Int}:i∈dB l↔∃x∈l,x.op=1/\0<=x.n/\x.n=i:=by simp_all[dB,QB]
theorem Nr(l:List dV):(dB l).Pairwise (· <·):=(QB l []).2 List.Pairwise.nil
def CP(n:Nat)(sh:Sh)(code:List dV)(to:iT):s4:=⟨sh,fun u=>(ey sh code ((List.range n).map u)).1,if to.var<0 then none else some to.var.toNat,to.c,(dB code).map Int.toNat⟩
structure ZD(S:Sys)(sh:Sh)(code:List dV)(to:iT):Prop where
 right:fU code=true
 var:∀x,x∈code->x.op=1->0<=x.n/\x.n<S.n/\S.sh x.n.toNat=sh
 con:∀x,x∈code->x.op=2->cJ sh x.c=true
 to0:to.var<0->cJ sh to.c=true
 to1:0<=to.var->to.var<S.n/\S.sh to.var.toNat=sh
theorem qG{n:Nat}{u:Va}{i:Nat}(h:i<n):((List.range n).map u).getD i dg=u i:=by grind
theorem aiJ{S:Sys}{sh:Sh}{code:List dV}{to:iT}(h:ZD S sh code to):tL S (CP S.n sh code to):=by
 have key:∀u v:Va,qj S u->qj S v->(∀i,i∈(dB code).map Int.toNat->cS (u i) (v i)=true)->aiI sh code ((List.range S.n).map u) ((List.range S.n).map v):=fun u v hu hv hl x hx=>by
  refine⟨fun ho=> ?_,h.con x hx⟩
  obtain⟨h0,h1,h2⟩:=h.var x hx ho
  rw[qG J,qG J]
  have f1:=hu x.n.toNat J;have f2:=hv x.n.toNat J
  rw[h2]at f1 f2
  exact⟨h0,Fj,f1,f2,hl _ (fZ.2 ⟨x.n,sU.2 ⟨x,hx,ho,h0,rfl⟩,rfl⟩)⟩
 refine⟨fun u hu=> ?_,fun i hi=> ?_,fun u v hu hv hl=> ?_,fun k hk=> ?_⟩
 .exact(Np h.right aJ (key u u hu hu fun _ _=>kf _)).2.2.1
 .obtain⟨j,hj,rfl⟩:=fZ.1 hi
  obtain⟨x,hx,ho,h0,rfl⟩:=sU.1 hj
  have:=(h.var x hx ho).2.1;omega
 .exact(Np h.right aJ (key u v hu hv hl)).2.2.2
 unfold CP at hk
 by_cases c:to.var<0
 .simp[c]at hk
 simp[c]at hk
 subst hk
 have:=h.to1 J
 exact⟨J,this.2⟩
theorem Aw:∀{m:List Int} {i:Nat} {n:Int},i<=m.length->(∀j:Nat,j<i->m.getD j 0<n)->(i<m.length->n<m.getD i 0)->tM m n=m.take i++n::m.drop i
 |[],i,n,h,_,_=>by simp at h;subst h;rfl
 |a::m,0,n,_,_,h3=>by
  have:=h3 aJ
  have:n<a:=this
  unfold tM
  rw[aT J,aT J];rfl
 |a::m,i+1,n,h,h2,h3=>by
  have h0:a<n:=h2 0 J
  have ih:=Aw (m:=m) (i:=i) (n:=n) x7 (fun j hj=>h2 (j+1) J) (fun hi=>h3 zR)
  unfold tM
  rw[aX h0,ih];rfl
theorem aiK:∀{m:List Int} {i:Nat} {n:Int},i<m.length->(∀j:Nat,j<i->m.getD j 0<n)->m.getD i 0=n->tM m n=m
 |[],i,n,h,_,_=>by simp at h
 |a::m,0,n,_,_,h3=>by
  have:a=n:=h3
  unfold tM
  rw[aT J,aX this]
 |a::m,i+1,n,h,h2,h3=>by
  have h0:a<n:=h2 0 J
  have ih:=aiK (m:=m) (i:=i) (n:=n) x7 (fun j hj=>h2 (j+1) J) h3
  unfold tM
  rw[aX h0,ih]
theorem jP{l:List dV}{k:Int}(h0:0<=k)(h1:k<l.length):dB (l.take (k+1).toNat)=if(l.getD k.toNat bG).op=1/\0<=(l.getD k.toNat bG).n then tM (dB (l.take k.toNat)) (l.getD k.toNat bG).n else dB (l.take k.toNat):=by grind[dB,IP]
theorem aem(l:List dV):(dB l).length<=l.length:=by
 have key:∀(l:List dV) (o:List Int),(l.foldl (fun o x=>if x.op=1/\0<=x.n then tM o x.n else o) o).length<=o.length+l.length:=fun l=>by
  induction l with
  |nil=>intro o;simp
  |cons a l ih=>
   intro o
   have hi:∀(o:List Int) (n:Int),(tM o n).length<=o.length+1:=fun o n=>by
    induction o with
    |nil=>simp[tM]
    |cons b o io=>
     unfold tM
     split
     .simp only[fw];omega
     split
     .simp
     simp
   rw[pg]
   refine kL (ih _) ?_
   have:(if a.op=1/\0<=a.n then tM o a.n else o).length<=o.length+1:=by
    split
    .exact hi o a.n
    omega
   simp only[fw];omega
 simpa[dB]using key l []
theorem afE{m:List Int}{x z:Int}{p:Int}(h0:0<=p)(h1:p<=m.length):
  qM (qM (m.map I++[I z]) ((p+1).toNat*1) (((m.map I++[I z]).drop (p.toNat*1)).take ((m.length-p.toNat)*1))) (p.toNat*1) [I x]=(m.take p.toNat++x::m.drop p.toNat).map I:=by
 have hl:(m.map I).length=m.length:=aJ
 have hq:p.toNat<=m.length:=J
 simp only[lX,show(p+1).toNat=p.toNat+1 by omega]
 generalize p.toNat=q at*
 have e1:((m.map I++[I z]).drop q).take (m.length-q)=(m.drop q).map I:=by
  rw[Lg J,Lf LO,jm LO]
  simp[Yf]
 have l1:((m.drop q).map I).length=m.length-q:=aJ
 rw[e1]
 have e2:qM (m.map I++[I z]) (q+1) ((m.drop q).map I)=(m.map I++[I z]).take (q+1)++(m.drop q).map I:=by
  have e0:(m.map I++[I z]).drop (q+1+(m.length-q))=[]:=Ll (by rw[ec,hl,eA];omega)
  rw[qM,l1,e0,mY]
 have l2:((m.map I++[I z]).take (q+1)).length=q+1:=by rw[dW];simp;omega
 rw[e2,qM,Lf J,B8,qt J,Lf (by rw[hl];omega)]
 rw[eA,List.drop_append,l2,RG,Lw,Ll (by rw[l2];exact fh _),eN]
 simp[Ca,Yf]
theorem tN{m:List Int}{z:Int}{u:Value}(hu:u∈m.map I++[I z]):u.oneCell'=true:=by
 rcases e8.1 hu with h|h
 .obtain⟨x,_,rfl⟩:=fZ.1 h;rfl
 rw[gG.1 h];rfl
theorem aiL{S:Sys}{sh:Sh}{code:List dV}{to:iT}(h:ZD S sh code to){x:Nat}(hx:x∈(CP S.n sh code to).vars):x<S.n/\S.sh x=sh:=by
 obtain⟨j,hj,rfl⟩:=fZ.1 hx
 obtain⟨y,hy,ho,h0,rfl⟩:=sU.1 hj
 have:=h.var y hy ho
 exact⟨J,this.2.2⟩
def iA(s:lM):Sys:=⟨s.vars.length,fun i=>iv s (s.vars.getD i fq).bf⟩
theorem asN{s:lM}{bf:Int}{code:List dV}{to:iT}(hc:codeOk s bf code=true)(ha:mh s bf to=true):ZD (iA s) (iv s bf) code to:=by
 simp only[codeOk,cM]at hc
 obtain⟨hi,hr⟩:=hc
 have kd:∀v kd:Int,rf s v kd bf=true->(0<=v/\v<s.vars.length)/\(s.vars.getD v.toNat fq).bf=bf:=fun v kd h=>by
  simp only[rf,cM,eD]at h
  exact⟨h.1.1,h.2⟩
 refine⟨hr,fun x hx ho=> ?_,fun x hx ho=> ?_,fun h0=> ?_,fun h0=> ?_⟩
 .have hx2:=iR.1 hi x hx
  simp only[vY,cM,qa,B6,wW]at hx2
  obtain⟨h1,h2⟩:=kd _ _ (hx2.1.resolve_left fun q=>q ho)
  exact⟨h1.1,h1.2,by show iv s _=_;rw[h2]⟩
 .have hx2:=iR.1 hi x hx
  simp only[vY,cM,qa,B6,wW]at hx2
  exact hx2.2.resolve_left fun q=>q ho
 .rw[mh,aX h0]at ha;exact ha
 rw[mh,aT J]at ha
 obtain⟨h1,h2⟩:=kd _ _ ha
 exact⟨h1.2,by show iv s _=_;rw[h2]⟩
structure pP where
 p:kR
 e:Value
 l:Value
 j:Value
 d:Wr
 low:El
def Xn(x:pP):List Value:=yd x.p++([x.e,x.l,x.j]++pJ x.low)
theorem rF(x:pP):(Xn x).length=13:=by simp[Xn,yd,cY]
structure dD where
 bf:Int
 cv:Value
 code:List dV
 to:iT
 why:BitVec 64
 vv:Value
 vars:List Int
def qk(x:dD):List Value:=I x.bf::x.cv::(jJ x.to++[U x.why,x.vv])
theorem pQ(x:dD):(qk x).length=13:=by simp[qk,DQ]
structure D8(K:Vu)(x:dD):Prop where
 code:oR K x.cv 10 x.code.length (x.code.flatMap kg)
 vars:oR K x.vv 1 x.vars.length (x.vars.map I)
theorem D8.mono{K K':Vu}{x:dD}(h:D8 K x)(hl:Le K K'):D8 K' x:=⟨h.code.mono hl,h.vars.mono hl⟩
def cX:dD:=⟨0,.slice none 0 0,[],ahE,0,.slice none 0 0,[]⟩
def pT:pP:=⟨D2,.nilFunc,.nilFunc,.nilFunc,.base D2 tb0,dg⟩
theorem tO{K:Vu}{x:dD}(h:D8 K x):∀u∈(qk x).toArray,u.oneCell'=true:=by
 intro u hu
 simp only[qk,Lu,c8,e8,HN,Ce]at hu
 rcases hu with rfl|rfl|hu|rfl|rfl
 .rfl
 .exact(KW h.code).1
 .exact IN x.to u q5
 .rfl
 exact(KW h.vars).1
inductive mw
 |bf (i:Nat)
 |var (i:Nat) (m:Int)
 |add (i:Nat) (q:dD)
 |raise (v:Int) (was:El) (had:BitVec 64)
 |merge (m:Int)
 |seen (was:Int)
 |stuck
structure NTy where
 fL:FuncId
 fV:FuncId
 fA:FuncId
 fR:FuncId
 fM:FuncId
 fS:FuncId
 fE:FuncId
 tn:TypeId
 ti:TypeId
 te:TypeId
 tu:TypeId
 tq:TypeId
def nh(T:NTy)(n:Nat)(L:List bu)(x:Value×mw):Prop:=
 match x.2 with
 | .bf i=>∃b1 b2,x.1=jO T.fL #[pt b1,pt b2]/\bu.blk b1 (.cells #[pt n] T.tn (0,0))∈L/\bu.blk b2 (.cells #[I i] T.ti (0,0))∈L
 | .var i m=>∃b1 b2 b3,x.1=jO T.fV #[pt b1,pt b2,pt b3]/\bu.blk b1 (.cells #[pt n] T.tn (0,0))∈L/\bu.blk b2 (.cells #[I i] T.ti (0,0))∈L/\bu.blk b3 (.cells #[I m] T.ti (0,0))∈L
 | .add i q=>∃b1 b2 b3,x.1=jO T.fA #[pt b1,pt b2,pt b3]/\bu.blk b1 (.cells #[pt n] T.tn (0,0))∈L/\bu.blk b2 (.cells #[I i] T.ti (0,0))∈L/\bu.blk b3 (.cells (qk q).toArray T.tq (0,0))∈L
 | .raise v was had=>∃b1 b2 b3 b4,x.1=jO T.fR #[pt b1,pt b2,pt b3,pt b4]/\bu.blk b1 (.cells (iM was) T.te (0,0))∈L/\bu.blk b2 (.cells #[U had] T.tu (0,0))∈L/\bu.blk b3 (.cells #[pt n] T.tn (0,0))∈L/\bu.blk b4 (.cells #[I v] T.ti (0,0))∈L
 | .merge m=>∃b1 b2,x.1=jO T.fM #[pt b1,pt b2]/\bu.blk b1 (.cells #[pt n] T.tn (0,0))∈L/\bu.blk b2 (.cells #[I m] T.ti (0,0))∈L
 | .seen was=>∃b1 b2,x.1=jO T.fS #[pt b1,pt b2]/\bu.blk b1 (.cells #[I was] T.ti (0,0))∈L/\bu.blk b2 (.cells #[pt n] T.tn (0,0))∈L
 | .stuck=>∃b1,x.1=jO T.fE #[pt b1]/\bu.blk b1 (.cells #[pt n] T.tn (0,0))∈L
theorem nh.mono{T:NTy}{n:Nat}{L L':List bu}{x:Value×mw}(h:nh T n L x)(hs:∀e∈L,e∈L'):nh T n L' x:=by
 obtain⟨v,c⟩:=x
 cases c with
 |bf i=>obtain⟨b1,b2,h0,h1,h2⟩:=h;exact⟨b1,b2,h0,hs _ h1,hs _ h2⟩
 |var i m=>obtain⟨b1,b2,b3,h0,h1,h2,h3⟩:=h;exact⟨b1,b2,b3,h0,hs _ h1,hs _ h2,hs _ h3⟩
 |add i q=>obtain⟨b1,b2,b3,h0,h1,h2,h3⟩:=h;exact⟨b1,b2,b3,h0,hs _ h1,hs _ h2,hs _ h3⟩
 |raise v was had=>obtain⟨b1,b2,b3,b4,h0,h1,h2,h3,h4⟩:=h;exact⟨b1,b2,b3,b4,h0,hs _ h1,hs _ h2,hs _ h3,hs _ h4⟩
 |merge m=>obtain⟨b1,b2,h0,h1,h2⟩:=h;exact⟨b1,b2,h0,hs _ h1,hs _ h2⟩
 |seen was=>obtain⟨b1,b2,h0,h1,h2⟩:=h;exact⟨b1,b2,h0,hs _ h1,hs _ h2⟩
 |stuck=>obtain⟨b1,h0,h1⟩:=h;exact⟨b1,h0,hs _ h1⟩
theorem getD_eq{α:Type}{l:List α}{d:α}{k:Nat}(h:k<l.length):l.getD k d=l[k]:=by grind
theorem oT{α β:Type}{f:β->α->β}{b:β}{l:List α}{d:α}{k:Int}(h0:0<=k)(h1:k<l.length):(l.take (k+1).toNat).foldl f b=f ((l.take k.toNat).foldl f b) (l.getD k.toNat d):=by
 have hk:k.toNat<l.length:=J
 rw[show(k+1).toNat=k.toNat+1 by omega,EZ hk,getD_eq hk,xN]
 rfl
theorem aiM{α:Type}{l:List α}{d:α}{p:α->Bool}{k:Int}(h0:0<=k)(h1:k<l.length)(hp:p (l.getD k.toNat d)=true):l.any p=true:=by grind
theorem anp{α:Type}{l:List α}{d:α}{p:α->Bool}(h:∀j,j<l.length->p (l.getD j d)=false):l.any p=false:=by
 rw[XX]
 intro x hx
 obtain⟨j,hj,rfl⟩:=vc.1 hx
 have:=h j hj
 rw[getD_eq hj]at this;rw[this];exact Lh
def Fh(q:dD):Bool:=decide (q.code.length=1)&&decide ((q.code.getD 0 bG).op=1)&&decide (0<=q.to.var)
def orW(y:BitVec 64)(ws:List (BitVec 64))(l:List Int):BitVec 64:=l.foldl (fun a v=>a|||ws.getD v.toNat 0) y
theorem aiO{y:BitVec 64}{ws:List (BitVec 64)}{l:List Int}{k:Int}(h0:0<=k)(h1:k<l.length):orW y ws (l.take (k+1).toNat)=orW y ws (l.take k.toNat)|||ws.getD (l.getD k.toNat 0).toNat 0:=by
 have hk:k.toNat<l.length:=J
 rw[show(k+1).toNat=k.toNat+1 by omega,EZ hk,getD_eq hk]
 unfold orW
 rw[xN]
 rfl
def ZE(K:Vu)(qs:List dD):Prop:=∀q∈qs,D8 K q
theorem ZE.mono{K K':Vu}{qs:List dD}(h:ZE K qs)(hl:Le K K'):ZE K' qs:=fun q hq=>(h q hq).mono hl
theorem ZE.at{K:Vu}{qs:List dD}(h:ZE K qs){k:Int}(h0:0<=k)(h1:k<qs.length):D8 K (qs.getD k.toNat cX):=h _ (dy h0 h1)
def yC(q:dD):Int:=q.vars.getD 0 0
def grQ(g:List (List Int))(q:dD):List (List Int):=if Fh q=true then g.set (yC q).toNat (g.getD (yC q).toNat []++[q.to.var])else g
def cz(n:Nat)(qs:List dD):List (List Int):=qs.foldl grQ (List.replicate n [])
theorem anq{g:List (List Int)}{q:dD}:(grQ g q).length=g.length:=by grind[grQ]
theorem FK(n:Nat)(qs:List dD):(cz n qs).length=n:=by
 have key:∀(qs:List dD) (g:List (List Int)),(qs.foldl grQ g).length=g.length:=fun qs=>by
  induction qs with
  |nil=>intro g;rfl
  |cons q qs ih=>intro g;rw[pg,ih,anq]
 unfold cz;rw[key];simp
theorem abW{gs:List j4}{k:Nat}{x:j4}:qh (gs.set k x)=(qh gs).set k x.l:=by simp_all[qh]
theorem Ns{n:Nat}{qs:List dD}{k:Int}(h0:0<=k)(h1:k<qs.length):cz n (qs.take (k+1).toNat)=grQ (cz n (qs.take k.toNat)) (qs.getD k.toNat cX):=oT h0 h1
theorem aiP{gs:List j4}{i b:Nat}{x:j4}(h:∀y∈gs,y.l.length<=b)(hx:x.l.length<=b+1):∀y∈gs.set i x,y.l.length<=b+1:=by grind
def VR(n:Nat)(qs:List dD):Prop:=∀q∈qs,Fh q=true->0<q.vars.length/\(0<=yC q/\yC q<n)/\q.to.var<n
theorem VR.at{n:Nat}{qs:List dD}(h:VR n qs){k:Int}(h0:0<=k)(h1:k<qs.length)(hp:Fh (qs.getD k.toNat cX)=true):0<(qs.getD k.toNat cX).vars.length/\(0<=yC (qs.getD k.toNat cX)/\yC (qs.getD k.toNat cX)<n)/\(qs.getD k.toNat cX).to.var<n:=h _ (dy h0 h1) hp
def Nt(cl:List Nat)(ws:List (BitVec 64))(o:List (BitVec 64))(v:Nat):List (BitVec 64):=o.set (fN cl v).toNat (o.getD (fN cl v).toNat 0|||ws.getD v 0)
def J3(cl:List Nat)(q:dD):Bool:=Fh q&&decide (fN cl (yC q)=fN cl q.to.var)&&decide (yC q≠q.to.var)
def Kg(cl:List Nat)(o:List (BitVec 64))(q:dD):List (BitVec 64):=if J3 cl q=true then o.set (fN cl q.to.var).toNat (o.getD (fN cl q.to.var).toNat 0|||q.why)else o
def VT(cl:List Nat)(ws:List (BitVec 64))(n:Nat):List (BitVec 64):=(List.range n).foldl (Nt cl ws) (List.replicate n 0)
def CQ(cl:List Nat)(ws:List (BitVec 64))(n:Nat)(qs:List dD):List (BitVec 64):=qs.foldl (Kg cl) (VT cl ws n)
theorem D0{α:Type}{f:List (BitVec 64)->α->List (BitVec 64)}(hf:∀o a,(f o a).length=o.length):∀(l:List α) (o:List (BitVec 64)),(l.foldl f o).length=o.length
 |[],o=>rfl
 |a::l,o=>by rw[pg,D0 hf,hf]
theorem aen{cl:List Nat}{ws:List (BitVec 64)}{n:Nat}{k:Int}(h0:0<=k):((List.range (k+1).toNat).foldl (Nt cl ws) (List.replicate n 0))=Nt cl ws ((List.range k.toNat).foldl (Nt cl ws) (List.replicate n 0)) k.toNat:=by
 rw[show(k+1).toNat=k.toNat+1 by omega,xO,xN];rfl
theorem Nu(cl:List Nat)(ws o:List (BitVec 64))(v:Nat):(Nt cl ws o v).length=o.length:=by simp[Nt]
theorem VU(cl:List Nat)(o:List (BitVec 64))(q:dD):(Kg cl o q).length=o.length:=by grind[Kg]
theorem aiQ{cl:List Nat}{nd:List qD}{v:Int}(h:Fo nd cl)(hv:0<=v/\v<cl.length):0<=fN cl v/\fN cl v<cl.length:=by grind[qD,Fo,fN,nc]
theorem xn.find{T:FTy}{F m:Nat}{cs:List (List Nat)}{vW vU:Value}{cW cU:Option (Nat×Array Value)}{W:List (BitVec 64)}{ul:List (Value×jS)}{ts:List Int}{cn:Int}{L:List bu}{n:Nat}(h:xn T F m cs vW vU cW cU W ul ts cn L)(hl:(bB cs).length=n)(v:Int)(hv:0<=v/\v<n):0<=fN (bB cs) v/\fN (bB cs) v<n:=by
 obtain⟨nd,cl,A7,rfl,-,h2,-⟩:=h.now
 subst hl
 exact aiQ (cl:=cl) h2 hv
def pB(p:List Int×List Bool)(i:Int):List Int×List Bool:=if p.2.getD i.toNat false=true then p else(p.1++[i],p.2.set i.toNat true)
def rU(p:List Int×List Bool)(l:List Int):List Int×List Bool:=l.foldl pB p
theorem QC{p:List Int×List Bool}{l:List Int}{k:Int}(h0:0<=k)(h1:k<l.length):rU p (l.take (k+1).toNat)=pB (rU p (l.take k.toNat)) (l.getD k.toNat 0):=oT h0 h1
theorem abX{wl:List Int}{wi:List Bool}{i:Int}(h:(!wi.getD i.toNat false)=true):pB (wl,wi) i=(wl++[i],wi.set i.toNat true):=by grind[pB]
theorem VV{wl:List Int}{wi:List Bool}{i:Int}(h:(!wi.getD i.toNat false)=false):pB (wl,wi) i=(wl,wi):=by grind[pB]
theorem Nv(p:List Int×List Bool)(i:Int):(pB p i).2.length=p.2.length:=by grind[pB]
theorem yS:∀{l:List Int} {p:List Int×List Bool},(rU p l).2.length=p.2.length
 |[],p=>rfl
 |i::l,p=>by
  show(rU (pB p i) l).2.length=_
  rw[yS,Nv]
theorem anr(p:List Int×List Bool)(i:Int):(pB p i).1.length<=p.1.length+1:=by grind[pB]
theorem GU:∀{l:List Int} {p:List Int×List Bool},(rU p l).1.length<=p.1.length+l.length
 |[],p=>by simp[rU]
 |i::l,p=>by
  have h1:=GU (l:=l) (p:=pB p i)
  have h2:=anr p i
  show(rU (pB p i) l).1.length<=_
  rw[fw];omega
def mi(ak:List El)(us:List j4)(p:List Int×List Bool)(v:Int)(e:El):List Int×List Bool:=if rR (ak.getD v.toNat dg) e then p else rU p (us.getD v.toNat de).l
theorem Hp.axy{w0 w:World}{R:List bu}{t:TypeId}(K:Vu):∀{gs:List j4} {A:List bu},Hp w0 w (A++(gs.map (dR t)++R))->∃Z,Hp w0 w (A++(Z++R))/\∀x∈gs,oR (Kz K Z) x.v 1 x.l.length (x.l.map I)
 |[],A,h=>⟨[],h,fun x hx=>by cases hx⟩
 |x::gs,A,h=>by
  have h1:Hp w0 w (dR t x::(A++(gs.map (dR t)++R))):=h.perm aJ
  obtain⟨Z1,h2,h3,_⟩:=h1.T4 K
  have h4:Hp w0 w ((Z1++A)++(gs.map (dR t)++R)):=by rw[dG];exact h2
  obtain⟨Z,h5,h6⟩:=Hp.axy K h4
  refine⟨Z1++Z,h5.perm ?_,fun y hy=> ?_⟩
  .rw[dG,dG]
   exact wV _ _ _
  rcases c8.1 hy with e|hy
  .subst e;exact h3.mono (Le.zz fun a ha=>dL _ ha)
  exact(h6 y hy).mono (Le.zz fun a ha=>bH _ ha)
theorem Hp.aEr{w0 w:World}{R:List bu}{t t2:TypeId}{v:Value}{gs:List j4}(K:Vu)(h:Hp w0 w (jW j4.v v t2 gs::(gs.map (dR t)++R))):∃Z,Hp w0 w (Z++R)/\GrV (Kz K Z) v gs:=by
 obtain⟨Z,h1,h2⟩:=Hp.axy K (A:=[jW j4.v v t2 gs]) h
 obtain⟨Z2,h3,h4,_⟩:=Hp.T4 (L:=Z++R) h1 K
 exact⟨Z2++Z,by rw[dG];exact h3,h4.mono (Le.zz fun a ha=>dL _ ha),fun x hx=>(h2 x hx).mono (Le.zz fun a ha=>bH _ ha)⟩
structure NP where
 aq:List pP
 bf:List Int
 ak:List El
 bq:List (BitVec 64)
 us:List (List Int)
 qs:List dD
 sn:Int
 cs:List (List Nat)
 sk:Bool
 wy:BitVec 64
 wr:Value
def GV(u:List (List Int))(v:Int):List (List Int):=u.set v.toNat (u.getD v.toNat []).dropLast
def wm:mw->NP->NP
 | .bf i,s=>{s with aq:=s.aq.take i}
 | .var i m,s=>{s with bf:=s.bf.take i,ak:=s.ak.take i,bq:=s.bq.take i,us:=s.us.take i,cs:=(CK s.cs m).1}
 | .add i q,s=>{s with qs:=s.qs.take i,us:=q.vars.foldl GV s.us}
 | .raise v was had,s=>{s with ak:=s.ak.set v.toNat was,bq:=s.bq.set v.toNat had}
 | .merge m,s=>{s with cs:=(CK s.cs m).1}
 | .seen was,s=>{s with sn:=was}
 | .stuck,s=>{s with sk:=false,wy:=0}
def okN:mw->NP->Prop
 | .bf i,s=>i<=s.aq.length
 | .var i m,s=>i<=s.bf.length/\i<=s.ak.length/\i<=s.bq.length/\i<=s.us.length
 | .add i q,s=>i<=s.qs.length/\q.vars.Nodup/\∀v∈q.vars,0<=v/\v<s.us.length/\s.us.getD v.toNat []≠[]
 | .raise v _ _,s=>0<=v/\v<s.ak.length/\v<s.bq.length
 | .merge _,_=>True
 | .seen _,_=>True
 | .stuck,_=>True
def D9:List mw->NP->NP
 |[],s=>s
 |c::l,s=>D9 l (wm c s)
def okB:List mw->NP->Prop
 |[],_=>True
 |c::l,s=>okN c s/\okB l (wm c s)
theorem VW(a b:List mw)(s:NP):D9 (a++b) s=D9 b (D9 a s):=by
 induction a generalizing s with
 |nil=>rfl
 |cons c a ih=>exact ih _
theorem S6(a b:List mw)(s:NP):okB (a++b) s↔okB a s/\okB b (D9 a s):=by
 induction a generalizing s with
 |nil=>simp[okB,D9]
 |cons c a ih=>simp only[gB,okB,D9,ih,and_assoc]
structure iP(new:List (Value×mw))(s s':NP):Prop where
 und:D9 (new.map Prod.snd).reverse s'=s
 ok:okB (new.map Prod.snd).reverse s'
theorem iP.nil(s:NP):iP [] s s:=⟨rfl,trivial⟩
theorem iP.trans{a b:List (Value×mw)}{s s' s'':NP}(h:iP a s s')(h2:iP b s' s''):iP (a++b) s s'':=by grind[mw,NP,iP,VW,S6]
theorem iP.one{f:Value}{c:mw}{s s':NP}(h:wm c s'=s)(ho:okN c s'):iP [(f,c)] s s':=⟨h,ho,trivial⟩
theorem VX{α:Type}{l:List α}{k:Nat}{d e:α}(h:k<l.length):(l.set k e).set k (l.getD k d)=l:=ku
theorem ZF{f:Value}{s:NP}{v:Int}{e:El}{y:BitVec 64}(h1:0<=v/\v<s.ak.length)(h2:v<s.bq.length):
  iP [(f,.raise v (s.ak.getD v.toNat dg) (s.bq.getD v.toNat 0))] s {s with ak:=s.ak.set v.toNat e,bq:=s.bq.set v.toNat y}:=by
 refine iP.one ?_ ⟨h1.1,by simpa using h1.2,by simpa using h2⟩
 simp only[wm]
 rw[VX J,VX J]
def I2:mw->Prop
 | .raise _ _ _=>True
 | .merge _=>True
 |_=>False
def rgS(us:List j4)(e:El)(s:List El×(List Int×List Bool))(k:Int):List El×(List Int×List Bool):=(s.1.set k.toNat e,mi s.1 us s.2 k e)
def yg(ak:List El)(us:List j4)(p:List Int×List Bool)(ks:List Int)(e:El):List El×(List Int×List Bool):=ks.foldl (rgS us e) (ak,p)
theorem aiR{ak:List El}{us:List j4}{p:List Int×List Bool}{ks:List Int}{e:El}{k:Int}(h0:0<=k)(h1:k<ks.length):yg ak us p (ks.take (k+1).toNat) e=rgS us e (yg ak us p (ks.take k.toNat) e) (ks.getD k.toNat 0):=oT h0 h1
theorem yT{us:List j4}{e:El}:∀{ks:List Int} {ak:List El} {p:List Int×List Bool},(yg ak us p ks e).1=gE ak ks e
 |[],ak,p=>rfl
 |k::ks,ak,p=>by
  show(yg (ak.set k.toNat e) us (mi ak us p k e) ks e).1=gE (ak.set k.toNat e) ks e
  exact yT
theorem Nw{ak:List El}{us:List j4}{p:List Int×List Bool}{v:Int}{e:El}:(mi ak us p v e).2.length=p.2.length:=by grind[mi,yS]
theorem K7{us:List j4}{e:El}:∀{ks:List Int} {ak:List El} {p:List Int×List Bool},(yg ak us p ks e).2.2.length=p.2.length
 |[],ak,p=>rfl
 |k::ks,ak,p=>by
  show(yg (ak.set k.toNat e) us (mi ak us p k e) ks e).2.2.length=_
  rw[K7,Nw]
theorem ans{ak:List El}{us:List j4}{p:List Int×List Bool}{v:Int}{e:El}(h:(us.getD v.toNat de).l.length<=1000):(mi ak us p v e).1.length<=p.1.length+1000:=by grind[mi,GU,de]
theorem aiS{us:List j4}{e:El}(hu:∀k:Nat,k<us.length->(us.getD k de).l.length<=1000):∀{ks:List Int} {ak:List El} {p:List Int×List Bool},(∀k∈ks,0<=k/\k<us.length)->(yg ak us p ks e).2.1.length<=p.1.length+1000*ks.length
 |[],ak,p,_=>by simp[yg]
 |k::ks,ak,p,h=>by
  have h1:=aiS (e:=e) hu (ks:=ks) (ak:=ak.set k.toNat e) (p:=mi ak us p k e) fun q hq=>h q (by simp[hq])
  have h2:=ans (ak:=ak) (p:=p) (v:=k) (e:=e) (hu k.toNat (by have:=h k aJ;omega))
  show(yg (ak.set k.toNat e) us (mi ak us p k e) ks e).2.1.length<=_
  rw[fw];omega
theorem mL{cl:List Nat}{i k:Int}(h:k∈bP cl i):(0<=i/\i<cl.length)/\0<=k/\k<cl.length/\cm cl k.toNat=cm cl i.toNat:=by grind[bP,Al]
theorem I3{cl:List Nat}{i k:Int}:k∈bP cl i↔(0<=i/\i<cl.length)/\0<=k/\k<cl.length/\cm cl k.toNat=cm cl i.toNat:=by grind[mL,bP,Int.toNat_of_nonneg,Al]
theorem wo{cl:List Nat}{i:Int}:(bP cl i).length<=cl.length:=by
 unfold bP;split
 .rw[gF]
  exact kL (List.length_filter_le ..) aJ
 simp
theorem VY{cs:List (List Nat)}{i j:Int}:(jy cs i j).2=true/\(∃a,(jy cs i j).1=a::cs)\/(jy cs i j).2=false/\(jy cs i j).1=cs:=by grind[jy]
theorem ZG{f:Value}{s:NP}{i j:Int}(h:0<s.cs.length)(hu:(jy s.cs i j).2=true):
  iP [(f,.merge ((s.cs.length:Int)-1))] s {s with cs:=(jy s.cs i j).1}:=by
 refine iP.one ?_ trivial
 rcases VY (cs:=s.cs) (i:=i) (j:=j)with⟨_,a,e⟩|⟨e,_⟩
 .rw[e]
  simp only[wm]
  have:CK (a::s.cs) ((s.cs.length:Int)-1)=(s.cs,true):=by
   unfold CK
   rw[aT xX,show(a::s.cs).length-1-(max 0 ((s.cs.length:Int)-1)).toNat=1 by simp only[fw];omega]
   rfl
  rw[this]
 rw[hu]at e;cases e
theorem aeo{cs:List (List Nat)}{i j:Int}(h:(jy cs i j).2=false):(jy cs i j).1=cs:=by grind[VY]
structure Xo(T:OW)(K:Vu)(ids:List Nat)(tl:List (Nat×Rl))(x:pP):Prop where
 ops:BC T K x.d x.e x.l x.j
 Fp:x.d.Fp ids tl
 sh:x.d.sh.sh=x.p.sh
 zx:k8 K x.p
 dep:x.d.dep<=1
theorem Xo.mono{T:OW}{K K':Vu}{ids:List Nat}{tl:List (Nat×Rl)}{x:pP}(h:Xo T K ids tl x)(hl:Le K K'):Xo T K' ids tl x:=⟨h.ops.mono hl,h.Fp,h.sh,h.zx.mono hl,h.dep⟩
def VZ(T:OW)(K:Vu)(ids:List Nat)(tl:List (Nat×Rl))(l:List pP):Prop:=∀x∈l,Xo T K ids tl x
theorem VZ.mono{T:OW}{K K':Vu}{ids:List Nat}{tl:List (Nat×Rl)}{l:List pP}(h:VZ T K ids tl l)(hl:Le K K'):VZ T K' ids tl l:=fun x hx=>(h x hx).mono hl
theorem VZ.at{T:OW}{K:Vu}{ids:List Nat}{tl:List (Nat×Rl)}{l:List pP}(h:VZ T K ids tl l){k:Int}(h0:0<=k)(h1:k<l.length):Xo T K ids tl (l.getD k.toNat pT):=h _ (dy h0 h1)
theorem apR{d:Wr}{ids:List Nat}{tl:List (Nat×Rl)}{s:Sh}(h:d.Fp ids tl)(hs:d.sh.sh=s)(a b:El):iM (py d.tb a b)=iM (eo s a b):=by
 subst hs
 refine l8 ?_
 induction d with
 |base p tb=>exact aeb h.1 _ _
 |wrap m d ih=>exact ih h.2
def skQ(cl:List Nat)(q:dD):Bool:=Fh q&&decide (fN cl (yC q)=fN cl q.to.var)
structure LkO where
 ok:Bool
 ak:List El
 bq:List (BitVec 64)
 wl:List Int
 wi:List Bool
 wy:BitVec 64
 ks:List Kd
def V0(d:Wr)(ks:List Kd)(f:Ct):Ct:=ks.foldl (fun f k=>d.tick k f) f
section
variable(cl:List Nat)(us:List j4)(sh:Sh)(q:dD)(ak:List El)(bq:List (BitVec 64))(wl:List Int)(wi:List Bool)(wy:BitVec 64)
def lkE:El:=(ey sh q.code ak).1
def lkJ:El:=eo sh (ak.getD q.to.var.toNat dg) (lkE sh q ak)
def lkR:LkO:=
 ⟨true,(yg ak us (wl,wi) (bP cl q.to.var) (lkJ sh q ak)).1,gE bq (bP cl q.to.var) (bq.getD q.to.var.toNat 0|||orW q.why bq q.vars),(yg ak us (wl,wi) (bP cl q.to.var) (lkJ sh q ak)).2.1,(yg ak us (wl,wi) (bP cl q.to.var) (lkJ sh q ak)).2.2,wy,[.e,.l,.j]⟩
def n8:LkO:=
 if skQ cl q=true then⟨true,ak,bq,wl,wi,wy,[]⟩
 else if q.to.var<0 then
  if cS (lkE sh q ak) q.to.c=true then⟨true,ak,bq,wl,wi,wy,[.e,.l]⟩else⟨false,ak,bq,wl,wi,orW q.why bq q.vars,[.e,.l]⟩
 else if cS (lkE sh q ak) (ak.getD q.to.var.toNat dg)=true then⟨true,ak,bq,wl,wi,wy,[.e,.l]⟩
 else lkR cl us sh q ak bq wl wi wy
end
structure pU(f f':Ct)(a b c:Nat):Prop where
 e:∀i,(f i).e<=(f' i).e/\(f' i).e<=(f i).e+a
 l:∀i,(f i).l<=(f' i).l/\(f' i).l<=(f i).l+b
 j:∀i,(f i).j<=(f' i).j/\(f' i).j<=(f i).j+c
theorem pU.refl(f:Ct):pU f f 0 0 0:=⟨fun i=>J,fun i=>J,fun i=>J⟩
theorem pU.trans{f g h:Ct}{a b c a' b' c':Nat}(p:pU f g a b c)(q:pU g h a' b' c'):pU f h (a+a') (b+b') (c+c'):=
 ⟨fun i=>by have:=p.e i;have:=q.e i;omega,fun i=>by have:=p.l i;have:=q.l i;omega,fun i=>by have:=p.j i;have:=q.j i;omega⟩
theorem pU.more{f g:Ct}{a b c a' b' c':Nat}(p:pU f g a b c)(ha:a<=a')(hb:b<=b')(hc:c<=c'):pU f g a' b' c':=
 ⟨fun i=>by have:=p.e i;omega,fun i=>by have:=p.l i;omega,fun i=>by have:=p.j i;omega⟩
theorem pU.ok{f g:Ct}{a b c n:Nat}(p:pU f g a b c)(h:FF n f):FF (n+a+b+c) g:=fun i=>by
 obtain⟨⟨h1,h2⟩,⟨h3,h4⟩,h5,h6⟩:=h i
 have:=p.e i;have:=p.l i;have:=p.j i
 exact⟨⟨J,J⟩,⟨J,J⟩,J,J⟩
theorem yU{d:Wr}(h:d.dep<=1)(f:Ct):pU f (d.tick .e f) 1 0 0/\pU f (d.tick .l f) 0 1 0/\pU f (d.tick .j f) 0 0 1:=by
 cases d with
 |base p tb=>exact⟨(pU.refl f).more J J J,(pU.refl f).more J J J,(pU.refl f).more J J J⟩
 |wrap m d=>
  cases d with
  |wrap m' d=>simp[Wr.dep]at h
  |base p tb=>
   have key:∀i,(wO f m ((Kd.e).up (f m)) i).e=(f i).e+(if i=m then 1 else 0)/\(wO f m ((Kd.e).up (f m)) i).l=(f i).l/\(wO f m ((Kd.e).up (f m)) i).j=(f i).j/\
     (wO f m ((Kd.l).up (f m)) i).l=(f i).l+(if i=m then 1 else 0)/\(wO f m ((Kd.l).up (f m)) i).e=(f i).e/\(wO f m ((Kd.l).up (f m)) i).j=(f i).j/\
     (wO f m ((Kd.j).up (f m)) i).j=(f i).j+(if i=m then 1 else 0)/\(wO f m ((Kd.j).up (f m)) i).l=(f i).l/\(wO f m ((Kd.j).up (f m)) i).e=(f i).e:=fun i=>by
    unfold wO
    by_cases e:i=m
    .subst e;simp[Kd.up]
    simp[e]
   refine⟨⟨fun i=> ?_,fun i=> ?_,fun i=> ?_⟩,⟨fun i=> ?_,fun i=> ?_,fun i=> ?_⟩,⟨fun i=> ?_,fun i=> ?_,fun i=> ?_⟩⟩<;>(show _/\_;have:=key i;simp only[Wr.tick,jT];by_cases e:i=m<;>simp only[e,ur,xU]at this<;>(try subst e)<;>omega)
theorem V1{d:Wr}(h:d.dep<=1)(cl:List Nat)(us:List j4)(sh:Sh)(q:dD)(ak:List El)(bq:List (BitVec 64))(wl:List Int)(wi:List Bool)(wy:BitVec 64)(f:Ct):
  pU f (V0 d (n8 cl us sh q ak bq wl wi wy).ks f) 1 1 1:=by
 have e2:pU f (V0 d [.e,.l] f) 1 1 1:=((yU h f).1.trans (yU h _).2.1).more J J J
 have e3:pU f (V0 d [.e,.l,.j] f) 1 1 1:=(((yU h f).1.trans (yU h _).2.1).trans (yU h _).2.2).more J J J
 unfold n8
 split
 .exact(pU.refl f).more J J J
 split
 .split
  .exact e2
  exact e2
 split
 .exact e2
 exact e3
theorem V2{l:List Bool}{k j:Nat}{a:Bool}(hk:k<l.length):(l.set k a).getD j false=if k=j then a else l.getD j false:=by grind
structure uV(wl:List Int)(wi:List Bool):Prop where
 nd:wl.Nodup
 mem:∀i,i∈wl↔(0<=i/\i<wi.length)/\wi.getD i.toNat false=true
theorem uV.len{wl:List Int}{wi:List Bool}(h:uV wl wi):wl.length<=wi.length:=by
 have h1:(wl.map Int.toNat).Nodup:=by
  refine List.Pairwise.map _ ?_ (afA (S:=fun a b=>a.toNat≠b.toNat) ?_ h.nd)
  .exact fun a b q=>q
  intro a b ha hb hab e
  have:=((h.mem a).1 ha).1;have:=((h.mem b).1 hb).1
  exact hab J
 have h2:(wl.map Int.toNat).length<=(List.range wi.length).length:=by
  refine h1.length_le_of_subset fun x hx=> ?_
  obtain⟨a,ha,rfl⟩:=fZ.1 hx
  have:=((h.mem a).1 ha).1
  exact qv.2 J
 simpa using h2
theorem uV.put{wl:List Int}{wi:List Bool}(h:uV wl wi){i:Int}(hi:0<=i/\i<wi.length):uV (pB (wl,wi) i).1 (pB (wl,wi) i).2:=by grind[uV,pB,V2]
theorem uV.take{x:Int}{wl:List Int}{wi:List Bool}(h:uV (x::wl) wi):uV wl (wi.set x.toNat false):=by grind[uV,V2]
theorem uV.rU{l:List Int}:∀{wl:List Int} {wi:List Bool},uV wl wi->(∀i∈l,0<=i/\i<wi.length)->uV (rU (wl,wi) l).1 (rU (wl,wi) l).2:=by
 induction l with
 |nil=>intro wl wi h _;exact h
 |cons i l ih=>
  intro wl wi h hl
  have h1:=h.put (hl i aJ)
  have h2:=ih h1 (fun j hj=>by have:=hl j (fX _ hj);rw[Nv];exact this)
  exact h2
theorem uV.yg{us:List j4}{e:El}{b:Nat}(hu:∀k:Nat,k<us.length->∀i∈(us.getD k de).l,0<=i/\i<b){ks:List Int}:∀{ak:List El} {wl:List Int} {wi:List Bool},uV wl wi->wi.length=b->(∀k∈ks,0<=k/\k<us.length)->uV (yg ak us (wl,wi) ks e).2.1 (yg ak us (wl,wi) ks e).2.2:=by
 induction ks with
 |nil=>intro ak wl wi h _ _;exact h
 |cons k ks ih=>
  intro ak wl wi h hb hk
  have hk0:=hk k aJ
  have h1:uV (mi ak us (wl,wi) k e).1 (mi ak us (wl,wi) k e).2:=by
   unfold mi
   split
   .exact h
   exact h.rU fun i hi=>by have:=hu k.toNat J i hi;omega
  exact ih (ak:=ak.set k.toNat e) (wl:=(mi ak us (wl,wi) k e).1) (wi:=(mi ak us (wl,wi) k e).2) h1 (Nw.trans hb) fun q hq=>hk q (fX _ hq)
theorem Sl.frI{w:World}{v:Value}{l:List Int}(h:Sl w v 1 l.length (l.map I))(o:Nat)(ho:o<=l.length):Sl w (o8 v 1 o) 1 (l.drop o).length ((l.drop o).map I):=by
 have:=h.fr o ho
 rw[lX,<-Yf]at this
 rw[yE];exact this
def s5(cs:List (List Nat))(ks:List Int)(k:Nat):List (List Nat):=(List.range k).foldl (fun(c:List (List Nat)) (i:Nat)=>(jy c i (ks.getD i 0)).1) cs
theorem GX{cs:List (List Nat)}{ks:List Int}{k:Int}(h0:0<=k):s5 cs ks (k+1).toNat=(jy (s5 cs ks k.toNat) k (ks.getD k.toNat 0)).1:=by
 unfold s5
 rw[show(k+1).toNat=k.toNat+1 by omega,xO,xN,pg,List.foldl_nil,gk h0]
theorem aep{cs:List (List Nat)}{i j:Int}:(bB (jy cs i j).1).length=(bB cs).length:=by grind[bB,jy,I0]
theorem xo{cs:List (List Nat)}{ks:List Int}:∀k,(bB (s5 cs ks k)).length=(bB cs).length
 |0=>rfl
 |k+1=>by
  have:=GX (cs:=cs) (ks:=ks) (k:=(k:Int)) J
  rw[show((k:Int)+1).toNat=k+1 by omega]at this
  rw[this,aep,show((k:Int)).toNat=k by omega,xo k]
def wu(sh:Sh)(ak:List El)(e:El)(ks:List Int):El:=ks.foldl (fun e k=>if rR (ak.getD k.toNat dg) e then e else eo sh e (ak.getD k.toNat dg)) e
theorem H7{sh:Sh}{ak:List El}{e:El}{ks:List Int}{k:Int}(h0:0<=k)(h1:k<ks.length):wu sh ak e (ks.take (k+1).toNat)=(if rR (ak.getD (ks.getD k.toNat 0).toNat dg) (wu sh ak e (ks.take k.toNat))then wu sh ak e (ks.take k.toNat)else eo sh (wu sh ak e (ks.take k.toNat)) (ak.getD (ks.getD k.toNat 0).toNat dg)):=oT h0 h1
structure yV where
 ak:List El
 bq:List (BitVec 64)
 wl:List Int
 wi:List Bool
def co1(cl:List Nat)(us:List j4)(aq:List pP)(bf:List Int)(rs:List (BitVec 64))(s:yV)(v:Nat):yV:=
 if fN cl v=v/\(bP cl v).length≠1 then
  let e:=wu (aq.getD (bf.getD v 0).toNat pT).p.sh s.ak (s.ak.getD v dg) ((bP cl v).drop 1)
  ⟨(yg s.ak us (s.wl,s.wi) (bP cl v) e).1,gE s.bq (bP cl v) (rs.getD v 0),(yg s.ak us (s.wl,s.wi) (bP cl v) e).2.1,(yg s.ak us (s.wl,s.wi) (bP cl v) e).2.2⟩
 else s
def coA(cl:List Nat)(us:List j4)(aq:List pP)(bf:List Int)(rs:List (BitVec 64))(s:yV)(k:Nat):yV:=(List.range k).foldl (co1 cl us aq bf rs) s
theorem CR{cl:List Nat}{us:List j4}{aq:List pP}{bf:List Int}{rs:List (BitVec 64)}{s:yV}{k:Int}(h0:0<=k):coA cl us aq bf rs s (k+1).toNat=co1 cl us aq bf rs (coA cl us aq bf rs s k.toNat) k.toNat:=by
 unfold coA
 rw[show(k+1).toNat=k.toNat+1 by omega,xO,xN];rfl
def coJ(cl:List Nat):Nat->Nat
 |0=>0
 |v+1=>coJ cl v+(if fN cl v=v then(bP cl v).length-1 else 0)
theorem Ui{cl:List Nat}{k:Int}(h0:0<=k):coJ cl (k+1).toNat=coJ cl k.toNat+(if fN cl k=k then(bP cl k).length-1 else 0):=by
 rw[show(k+1).toNat=k.toNat+1 by omega]
 show coJ cl k.toNat+(if fN cl ((k.toNat:Nat):Int)=((k.toNat:Nat):Int)then(bP cl ((k.toNat:Nat):Int)).length-1 else 0)=_
 rw[gk h0]
theorem ZH{cl:List Nat}:∀v,coJ cl v<=cl.length*v
 |0=>fh _
 |v+1=>by
  have h1:=ZH (cl:=cl) v
  have h2:=wo (cl:=cl) (i:=(v:Int))
  show coJ cl v+_<=_
  rw[Nat.mul_add,lX]
  split<;>omega
theorem aiU{cl:List Nat}{k:Int}(h:0<=k/\k<cl.length):1<=(bP cl k).length:=Rk (I3.2 ⟨h,h.1,h.2,rfl⟩)
theorem abZ{cl:List Nat}{us:List j4}{aq:List pP}{bf:List Int}{rs:List (BitVec 64)}{s:yV}{k:Int}(h0:0<=k)(h1:fN cl k=k)(h2:(bP cl k).length≠1):
 co1 cl us aq bf rs s k.toNat=⟨(yg s.ak us (s.wl,s.wi) (bP cl k) (wu (aq.getD (bf.getD k.toNat 0).toNat pT).p.sh s.ak (s.ak.getD k.toNat dg) ((bP cl k).drop 1))).1,gE s.bq (bP cl k) (rs.getD k.toNat 0),(yg s.ak us (s.wl,s.wi) (bP cl k) (wu (aq.getD (bf.getD k.toNat 0).toNat pT).p.sh s.ak (s.ak.getD k.toNat dg) ((bP cl k).drop 1))).2.1,(yg s.ak us (s.wl,s.wi) (bP cl k) (wu (aq.getD (bf.getD k.toNat 0).toNat pT).p.sh s.ak (s.ak.getD k.toNat dg) ((bP cl k).drop 1))).2.2⟩:=by grind[co1]
theorem S7{cl:List Nat}{us:List j4}{aq:List pP}{bf:List Int}{rs:List (BitVec 64)}{s:yV}{k:Int}(h0:0<=k)(h1:¬(fN cl k=k/\(bP cl k).length≠1)):co1 cl us aq bf rs s k.toNat=s:=by grind[co1]
structure QD(b:Nat)(n k:Nat)(s:yV):Prop where
 lv:s.ak.length=n
 ly:s.bq.length=k
 li:s.wi.length=b
 wq:uV s.wl s.wi
theorem aiV{cl:List Nat}{us:List j4}{aq:List pP}{bf:List Int}{rs:List (BitVec 64)}{s:yV}{b n k v:Nat}(hu:∀k:Nat,k<us.length->∀i∈(us.getD k de).l,0<=i/\i<b)(hl:cl.length=us.length)(h:QD b n k s):QD b n k (co1 cl us aq bf rs s v):=by
 unfold co1
 split
 .exact⟨by simp only[yT,je];exact h.lv,by simp only[je];exact h.ly,by simp only[K7];exact h.li,h.wq.yg hu h.li fun q hq=>by have:=mL hq;omega⟩
 exact h
theorem ZI{cl:List Nat}{us:List j4}{aq:List pP}{bf:List Int}{rs:List (BitVec 64)}{s:yV}{b n k:Nat}(hu:∀k:Nat,k<us.length->∀i∈(us.getD k de).l,0<=i/\i<b)(hl:cl.length=us.length)(h:QD b n k s):∀j,QD b n k (coA cl us aq bf rs s j)
 |0=>h
 |j+1=>by
  have:=CR (cl:=cl) (us:=us) (aq:=aq) (bf:=bf) (rs:=rs) (s:=s) (k:=(j:Int)) J
  rw[show((j:Int)+1).toNat=j+1 by omega]at this
  rw[this]
  exact aiV hu hl (ZI hu hl h j)
structure CoO where
 cs:List (List Nat)
 s:yV
 j:Nat
noncomputable def sV(cs:List (List Nat))(us:List j4)(aq:List pP)(bf:List Int)(qs:List dD)(sn:Int)(n:Nat)(s:yV):CoO:=
 if(qs.drop sn.toNat).any Fh=true then
  let cs':=s5 cs (pz (cz n qs)) n
  if leads (bB cs')=leads (bB cs)then⟨cs',s,0⟩
  else⟨cs',coA (bB cs') us aq bf (CQ (bB cs') s.bq n qs) s n,coJ (bB cs') n⟩
 else⟨cs,s,0⟩
structure QOk(nl n:Nat)(q:dD):Prop where
 bf:0<=q.bf/\q.bf<nl
 code:q.code.length<=1000
 to:q.to.var<n
 pl:Fh q=true->0<q.vars.length/\0<=yC q/\yC q<n
 vars:∀v∈q.vars,0<=v/\v<n
def ZJ(nl n:Nat)(qs:List dD):Prop:=∀q∈qs,QOk nl n q
theorem ZJ.pl{nl n:Nat}{qs:List dD}(h:ZJ nl n qs):VR n qs:=fun q hq hp=>⟨((h q hq).pl hp).1,((h q hq).pl hp).2,(h q hq).to⟩
theorem ZJ.at{nl n:Nat}{qs:List dD}(h:ZJ nl n qs){k:Int}(h0:0<=k)(h1:k<qs.length):QOk nl n (qs.getD k.toNat cX):=h _ (dy h0 h1)
def upI(a:Int)(k:Nat):List Int:=(List.range k).map fun i:Nat=>a+(i:Int)
theorem aiW{a k:Int}(h:a<=k):upI a (k+1-a).toNat=upI a (k-a).toNat++[k]:=by
 unfold upI
 rw[show(k+1-a).toNat=(k-a).toNat+1 by omega,xO,gV]
 simp only[lT,Cc]
 rw[show a+((k-a).toNat:Int)=k by omega]
theorem aeq{p:List Int×List Bool}{l:List Int}{k:Int}:rU p (l++[k])=pB (rU p l) k:=by grind[rU]
def V3(c:yV)(sn:Int)(n:Nat):yV:=⟨c.ak,c.bq,(rU (c.wl,c.wi) (upI sn ((n:Int)-sn).toNat)).1,(rU (c.wl,c.wi) (upI sn ((n:Int)-sn).toNat)).2⟩
section
variable{cl:List Nat}{us:List j4}{sh:Sh}{q:dD}{ak:List El}{bq:List (BitVec 64)}{wl:List Int}{wi:List Bool}{wy:BitVec 64}
theorem asQ(h:(n8 cl us sh q ak bq wl wi wy).ok=true):(n8 cl us sh q ak bq wl wi wy).wy=wy:=by
 unfold n8 at h⊢
 split
 .rfl
 rename_i h1
 rw[aT h1]at h
 split
 .rename_i h2
  rw[aX h2]at h
  split
  .rfl
  rename_i h3;rw[aT h3]at h;cases h
 split<;>rfl
theorem asR(h:(n8 cl us sh q ak bq wl wi wy).ok=false):(n8 cl us sh q ak bq wl wi wy).ak=ak/\(n8 cl us sh q ak bq wl wi wy).bq=bq:=by
 unfold n8 at h⊢
 split
 .exact⟨rfl,rfl⟩
 rename_i h1
 rw[aT h1]at h
 split
 .split<;>exact⟨rfl,rfl⟩
 rename_i h2
 rw[aT h2]at h
 split
 .exact⟨rfl,rfl⟩
 rename_i h3;rw[aT h3]at h;cases h
theorem aiX{b n k:Nat}(hu:∀k:Nat,k<us.length->∀i∈(us.getD k de).l,0<=i/\i<b)(hl:cl.length=us.length)(h:QD b n k ⟨ak,bq,wl,wi⟩):
  QD b n k ⟨(n8 cl us sh q ak bq wl wi wy).ak,(n8 cl us sh q ak bq wl wi wy).bq,(n8 cl us sh q ak bq wl wi wy).wl,(n8 cl us sh q ak bq wl wi wy).wi⟩:=by
 unfold n8
 split
 .exact h
 split
 .split<;>exact h
 split
 .exact h
 exact⟨by simp only[lkR,yT,je];exact h.lv,by simp only[lkR,je];exact h.ly,by simp only[lkR,K7];exact h.li,h.wq.yg hu h.li fun q hq=>by have:=mL hq;omega⟩
end
theorem QD.take{b n k:Nat}{ak:List El}{bq:List (BitVec 64)}{x:Int}{wl:List Int}{wi:List Bool}(h:QD b n k ⟨ak,bq,x::wl,wi⟩):(0<=x/\x<b)/\QD b n k ⟨ak,bq,wl,wi.set x.toNat false⟩:=by
 have hx:=((h.wq.mem x).1 aJ).1
 have hl:=h.li
 simp only at hx hl
 exact⟨J,h.lv,h.ly,by simp only[nY];exact hl,h.wq.take⟩
theorem asS{b n k:Nat}{c:yV}(h:QD b n k c){sn:Int}(h0:0<=sn):QD b n k (V3 c sn b):=by
 have hl:∀i∈upI sn ((b:Int)-sn).toNat,0<=i/\i<(c.wi.length:Int):=fun i hi=>by
  obtain⟨j,hj,rfl⟩:=fZ.1 hi
  have:=qv.1 hj
  have:=h.li
  omega
 exact⟨h.lv,h.ly,(yS).trans h.li,h.wq.rU hl⟩
theorem aer{f:Value}{s:NP}{k:Int}:iP [(f,.seen s.sn)] s {s with sn:=k}:=iP.one O trivial
def SpR(cl:List Nat)(us:List j4)(aq:List pP)(qs:List dD)(s:yV)(ok:Bool)(wy wy':BitVec 64):Prop:=
 (ok=true/\s.wl=[]/\wy'=wy)\/(ok=false/\∃x wl,s.wl=x::wl/\(n8 cl us (aq.getD (qs.getD x.toNat cX).bf.toNat pT).p.sh (qs.getD x.toNat cX) s.ak s.bq wl (s.wi.set x.toNat false) wy).ok=false/\wy'=(n8 cl us (aq.getD (qs.getD x.toNat cX).bf.toNat pT).p.sh (qs.getD x.toNat cX) s.ak s.bq wl (s.wi.set x.toNat false) wy).wy)
theorem anu{b n k:Nat}{c:yV}(h:QD b n k c){l:List Int}(hl:∀i∈l,0<=i/\i<(b:Int)):QD b n k ⟨c.ak,c.bq,(rU (c.wl,c.wi) l).1,(rU (c.wl,c.wi) l).2⟩:=
 ⟨h.lv,h.ly,(yS).trans h.li,h.wq.rU fun i hi=>by have:=hl i hi;have:=h.li;omega⟩
theorem I4(n:Nat):uV [] (List.replicate n false):=by grind[uV]
theorem asT{cs:List (List Nat)}{us:List j4}{aq:List pP}{bf:List Int}{qs:List dD}{sn:Int}{ak:List El}{bq:List (BitVec 64)}(hl:(bB cs).length=us.length)(hu:∀k:Nat,k<us.length->∀i∈(us.getD k de).l,0<=i/\i<(qs.length:Int))(hn:ak.length=us.length):
 QD qs.length ak.length bq.length (sV cs us aq bf qs sn ak.length ⟨ak,bq,[],List.replicate qs.length false⟩).s:=by grind[QD,I4,sV,ZI,xo]
theorem anv{cs:List (List Nat)}{us:List j4}{aq:List pP}{bf:List Int}{qs:List dD}{sn:Int}{n:Nat}{s:yV}:(bB (sV cs us aq bf qs sn n s).cs).length=(bB cs).length:=by grind[sV,xo]
theorem axA{cs:List (List Nat)}{us:List j4}{aq:List pP}{bf:List Int}{qs:List dD}{sn:Int}{n:Nat}{s:yV}:(sV cs us aq bf qs sn n s).j<=(bB cs).length*n:=by grind[sV,ZH,bB,s5,pz,cz,xo]
theorem ab0:∀(l:List mw) (s:NP) (y:BitVec 64),(∀c∈l,I2 c)->D9 l {s with wy:=y}={D9 l s with wy:=y}/\(okB l s->okB l {s with wy:=y})
 |[],s,y,_=>⟨rfl,fun h=>h⟩
 |c::l,s,y,h=>by
  have e:wm c {s with wy:=y}={wm c s with wy:=y}/\(okN c s->okN c {s with wy:=y}):=by
   have:=h c aJ
   cases c<;>first|exact this.elim|exact⟨rfl,fun h=>h⟩
  have ih:=ab0 l (wm c s) y fun c hc=>h c (fX _ hc)
  refine⟨?_,fun⟨h1,h2⟩=>⟨e.2 h1,?_⟩⟩
  .show D9 l (wm c {s with wy:=y})=_
   rw[e.1];exact ih.1
  show okB l (wm c {s with wy:=y})
  rw[e.1];exact ih.2 h2
theorem iP.wy{new:List (Value×mw)}{s s':NP}(h:iP new s s')(hr:∀x∈new,I2 x.2)(y:BitVec 64):iP new {s with wy:=y} {s' with wy:=y}:=by grind[mw,NP,iP,I2,ab0]
theorem pM.EF{T:UT}{F:Nat}{L L':List bu}{x:Value×jS}(h:pM T F L x)(hs:∀b o,bu.blk b o∈L->bu.blk b o∈L'):pM T F L' x:=by
 obtain⟨v,u⟩:=x
 cases u with
 |add n=>obtain⟨b1,b2,h1,h2,h3⟩:=h;exact⟨b1,b2,h1,hs _ _ h2,hs _ _ h3⟩
 |set i b=>obtain⟨b1,b2,b3,h1,h2,h3,h4⟩:=h;exact⟨b1,b2,b3,h1,hs _ _ h2,hs _ _ h3,hs _ _ h4⟩
theorem xn.EF{T:FTy}{F m:Nat}{cs:List (List Nat)}{vW vU:Value}{cW cU:Option (Nat×Array Value)}{W:List (BitVec 64)}{ul:List (Value×jS)}{ts:List Int}{cn:Int}{L L':List bu}(h:xn T F m cs vW vU cW cU W ul ts cn L)(hs:∀b o,bu.blk b o∈L->bu.blk b o∈L'):xn T F m cs vW vU cW cU W ul ts cn L':=by
 obtain⟨tn,e,i⟩:=h.fo
 exact⟨⟨tn,e,i.hW,i.hU,i.hs,i.ok,fun x hx=>(i.un x hx).EF hs,i.lu,i.lt⟩,h.cn⟩
theorem nh.EF{T:NTy}{n:Nat}{L L':List bu}{x:Value×mw}(h:nh T n L x)(hs:∀b o,bu.blk b o∈L->bu.blk b o∈L'):nh T n L' x:=by
 obtain⟨v,c⟩:=x
 cases c with
 |bf i=>obtain⟨b1,b2,h0,h1,h2⟩:=h;exact⟨b1,b2,h0,hs _ _ h1,hs _ _ h2⟩
 |var i m=>obtain⟨b1,b2,b3,h0,h1,h2,h3⟩:=h;exact⟨b1,b2,b3,h0,hs _ _ h1,hs _ _ h2,hs _ _ h3⟩
 |add i q=>obtain⟨b1,b2,b3,h0,h1,h2,h3⟩:=h;exact⟨b1,b2,b3,h0,hs _ _ h1,hs _ _ h2,hs _ _ h3⟩
 |raise v was had=>obtain⟨b1,b2,b3,b4,h0,h1,h2,h3,h4⟩:=h;exact⟨b1,b2,b3,b4,h0,hs _ _ h1,hs _ _ h2,hs _ _ h3,hs _ _ h4⟩
 |merge m=>obtain⟨b1,b2,h0,h1,h2⟩:=h;exact⟨b1,b2,h0,hs _ _ h1,hs _ _ h2⟩
 |seen was=>obtain⟨b1,b2,h0,h1,h2⟩:=h;exact⟨b1,b2,h0,hs _ _ h1,hs _ _ h2⟩
 |stuck=>obtain⟨b1,h0,h1⟩:=h;exact⟨b1,h0,hs _ _ h1⟩
theorem S8{t:TypeId}{gs:List j4}{A B:List bu}{b:Nat}{o:Obj}(h:bu.blk b o∈A++(gs.map (dR t)++B)):bu.blk b o∈A++B:=by
 rcases e8.1 h with q|q
 .exact dL _ q
 rcases e8.1 q with q|q
 .obtain⟨x,_,e⟩:=fZ.1 q
  cases e
 exact bH _ q
end
end Go.Proofs.YtlhjdflgjbkpmaaGreatDoor.E

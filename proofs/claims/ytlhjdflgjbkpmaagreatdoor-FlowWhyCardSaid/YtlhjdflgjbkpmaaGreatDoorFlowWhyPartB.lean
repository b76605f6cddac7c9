/- Part 2 of the proof of FlowWhy: its plain laws and the walks of its functions. -/
import Derived.Test.YtlhjdflgjbkpmaaGreatDoorFlowWhyPartA
set_option linter.all false
namespace Go.Proofs.YtlhjdflgjbkpmaaGreatDoor.E
section
open Go Go.RowKit Go.Proofs.YtlhjdflgjbkpmaaGreatDoor.M
def Vq(a b:Tx):Bool:=Op.bytesLess a.toList b.toList
section
variable{P:Program}{σ:Env}{w:World}{dst:Option Tmp}{ty t u:TypeId}{pos:String}{bO:Array Edge}{g:Option (Nat×Bool)}{x y:Operand}{a b:Tx}
end
structure jN where
 name:Tx
 el:El
def SQ:jN:=⟨qt,df⟩
def ahI(v:jN):List Value:=S v.name::pM v.el
def Qf(l:List jN)(f:Tx):Int:=tH (fun i=>decide ((l.getD i.toNat SQ).name=f)) l.length
def adZ(l:List jN)(f:Tx):El×Bool:=if Qf l f<0 then(df,false)else((l.getD (Qf l f).toNat SQ).el,true)
def spot(l:List jN)(f:Tx):Nat:=if 0<=tH (fun i=>Vq f (l.getD i.toNat SQ).name) l.length then(tH (fun i=>Vq f (l.getD i.toNat SQ).name) l.length).toNat else l.length
def apz(l:List jN)(f:Tx)(e:El):List jN:=if Qf l f<0 then l.take (spot l f)++⟨f,e⟩::l.drop (spot l f)else l.set (Qf l f).toNat ⟨f,e⟩
def axa(a b:jN):Bool:=decide (a.name=b.name)&&decide (sx a.el b.el)
def apA(l m:List jN):Bool:=decide (l.length=m.length)&&(upto l.length).all fun i=>axa (l.getD i.toNat SQ) (m.getD i.toNat SQ)
structure As where
 labels:List El
 rows:List (List jN)
def aEd(a:As)(i:Nat):El:=a.labels.getD i df
def aNt(a:As)(i:Nat):List jN:=a.rows.getD i []
def aKf(a b:As):Bool:=decide (a.labels.length=b.labels.length/\a.rows.length=b.rows.length)&&((upto a.labels.length).all fun i=>decide (sx (a.labels.getD i.toNat df) (b.labels.getD i.toNat df)))&&(upto a.rows.length).all fun i=>apA (a.rows.getD i.toNat []) (b.rows.getD i.toNat [])
def asp(l m:List jN):Bool:=l.all fun v=>(adZ m v.name).2&&cS v.el (adZ m v.name).1
def aNu(a b:As):Bool:=((upto a.labels.length).all fun i=>cS (a.labels.getD i.toNat df) (b.labels.getD i.toNat df))&&(upto a.rows.length).all fun i=>asp (a.rows.getD i.toNat []) (b.rows.getD i.toNat [])
def Qg(l m:List jN):List jN:=l.filterMap fun v=>if(adZ m v.name).2 then some ⟨v.name,pe v.el (adZ m v.name).1⟩else none
def axb(a b:As):As:=⟨(a.labels.zip b.labels).map fun p=>pe p.1 p.2,(a.rows.zip b.rows).map fun p=>Qg p.1 p.2⟩
theorem ahJ{α β γ:Type}{F:α×β->γ}{l:List α}{m:List β}{k:Int}{da:α}{db:β}(h0:0<=k)(h1:k<l.length)(h2:k<m.length):
  ((l.zip m).take (k+1).toNat).map F=((l.zip m).take k.toNat).map F++[F (l.getD k.toNat da,m.getD k.toNat db)]:=by
 have h3:(l.zip m)[k.toNat]?=some (l.getD k.toNat da,m.getD k.toNat db):=by
  rw[List.getElem?_zip_eq_some];exact⟨fG (d:=da) h0 h1,fG (d:=db) h0 h2⟩
 rw[show(k+1).toNat=k.toNat+1 by omega,xS,h3,gP];rfl
theorem abD{α β γ:Type}{F:α×β->γ}{l:List α}{m:List β}{k:Int}(h:¬(k<l.length/\k<m.length)):((l.zip m).take k.toNat).map F=(l.zip m).map F:=by
 rw[jg];rw[List.length_zip];omega
section
variable{l m:List jN}{k:Int}
end
section
variable{a b:As}{k:Int}
end
def ahK(l:List jN):Bool:=(upto l.length).all fun i=>iR (l.getD i.toNat SQ).name&&(decide (i<=0)||Vq (l.getD (i-1).toNat SQ).name (l.getD i.toNat SQ).name)
def axc(s:Sh)(l:List jN):Bool:=l.all fun v=>cI s v.el
structure Sc where
 aq:List Sh
 vars:List sV
def okV(s:Sc)(v:sV)(e:El)(l:List jN):Bool:=decide (0<=v.bf/\v.bf<s.aq.length)&&
 (if v.kind=1 then decide (l.length=0)&&cI (s.aq.getD v.bf.toNat ⟨false,[]⟩) e
  else if v.kind=2 then decide (sx e df)&&ahK l&&axc (s.aq.getD v.bf.toNat ⟨false,[]⟩) l else false)
def SS(s:Sc)(a:As):Bool:=decide (a.labels.length=s.vars.length/\a.rows.length=s.vars.length)&&(upto s.vars.length).all fun i=>okV s (s.vars.getD i.toNat fq) (a.labels.getD i.toNat df) (a.rows.getD i.toNat [])
def Al(s:Sc)(v:sV):El:=if v.kind=1/\0<=v.bf/\v.bf<s.aq.length then gI (s.aq.getD v.bf.toNat ⟨false,[]⟩) ez else df
def M4(s:Sc):As:=⟨s.vars.map (Al s),s.vars.map fun _=>[]⟩
def aEe(l:List jN):Prop:=l.Pairwise fun a b=>Vq a.name b.name=true
theorem kp(e:El):cS e e=true:=qf.2 fun i _=>tL _
theorem M5{a b c:El}(h:cS a b=true)(h':cS b c=true):cS a c=true:=by grind[qf,mq]
def axd(s:Sc)(v:sV):Sh:=s.aq.getD v.bf.toNat ⟨false,[]⟩
section
variable{s:Sc}{a b c:As}(ha:SS s a=true)(hb:SS s b=true)
include ha hb
end
def xp(b:Tx):List Tx->Tx
 |[]=>qt
 |x::l=>l.foldl (fun a y=>a++b++y) x
def asq(s:Sh)(v:jN):Tx:=v.name++tc 61++ahE s v.el
def aEf(s:Sh)(l:List jN):Tx:=tc 91++xp (tc 44) (l.map (asq s))++tc 93
def axe(s:Sc)(v:sV)(e:El)(l:List jN):Tx:=v.name++tc 61++(if v.kind=1 then ahE (axd s v) e else aEf (axd s v) l)
def apB(s:Sc)(a:As)(k:Int):List Tx:=(upto k).map fun i=>axe s (s.vars.getD i.toNat fq) (a.labels.getD i.toNat df) (a.rows.getD i.toNat [])
def aKh(s:Sc)(a:As):Tx:=if SS s a then xp (tc 32) (apB s a s.vars.length)else qt
def aNv(l:List By):By:=l.flatMap fun y=>32::y
def PT(s:Sc)(p:sV×El×List jN):By:=bl (axe s p.1 p.2.1 p.2.2)
def aNw(s:Sc)(a:As):List (sV×El×List jN):=(upto s.vars.length).map fun i=>(s.vars.getD i.toNat fq,a.labels.getD i.toNat df,a.rows.getD i.toNat [])
theorem uZ(e:El):∀u∈pM e,u.oneCell'=true:=fun u hu=>abt e u (by rw[iq];simpa using hu)
theorem gV(l:List El):∀u∈l.flatMap pM,u.oneCell'=true:=by grind[uZ]
structure Uj where
 v:Value
 l:List jN
def HJ:Uj:=⟨.slice none 0 0,[]⟩
abbrev apC(l:List Uj):List Value:=l.map Uj.v
structure uQ(K:Vu)(l:List Uj):Prop where
 each:∀r∈l,oE K r.v 9 r.l.length (r.l.flatMap ahI)
theorem uQ.mono{K K':Vu}{l:List Uj}(h:uQ K l)(hl:Le K K'):uQ K' l:=⟨fun r hr=>(h.each r hr).mono hl⟩
theorem uQ.at{K:Vu}{l:List Uj}(h:uQ K l){k:Int}(h0:0<=k)(h1:k<l.length):oE K (l.getD k.toNat HJ).v 9 (l.getD k.toNat HJ).l.length ((l.getD k.toNat HJ).l.flatMap ahI):=h.each _ (lX (fG (d:=HJ) h0 h1))
theorem uQ.nil(K:Vu):uQ K []:=⟨fun r hr=>by simp at hr⟩
theorem uQ.snoc{K:Vu}{l:List Uj}{r:Uj}(h:uQ K l)(hr:oE K r.v 9 r.l.length (r.l.flatMap ahI)):uQ K (l++[r]):=⟨fun x hx=>by
 rcases fh.1 hx with hx|hx
 .exact h.each x hx
 rw[gG.1 hx];exact hr⟩
structure GO where
 lv:Value
 labels:List El
 rv:Value
 rows:List Uj
def ad0(a:GO):List Value:=[a.lv,a.rv]
def amT:GO:=⟨.slice none 0 0,[],.slice none 0 0,[]⟩
def GO.HK(a:GO):As:=⟨a.labels,a.rows.map Uj.l⟩
structure M6(K:Vu)(a:GO):Prop where
 labels:oE K a.lv 8 a.labels.length (a.labels.flatMap pM)
 rows:oE K a.rv 1 a.rows.length (apC a.rows)
 each:uQ K a.rows
theorem M6.mono{K K':Vu}{a:GO}(h:M6 K a)(hl:Le K K'):M6 K' a:=⟨h.labels.mono hl,h.rows.mono hl,h.each.mono hl⟩
theorem M6.at{K:Vu}{a:GO}(h:M6 K a){k:Int}(h0:0<=k)(h1:k<a.rows.length):oE K (a.rows.getD k.toNat HJ).v 9 (a.rows.getD k.toNat HJ).l.length ((a.rows.getD k.toNat HJ).l.flatMap ahI):=h.each.at h0 h1
theorem ahL{K:Vu}{a:GO}(h:M6 K a):∀u∈(ad0 a).toArray,u.oneCell'=true:=by
 intro u hu
 simp[ad0]at hu
 rcases hu with rfl|rfl
 .exact(jG h.labels).1
 exact(jG h.rows).1
structure amU where
 a:GO
 b:GO
 c:GO
def aNx(x:amU):List Value:=[x.a.lv,x.a.rv,x.b.lv,x.b.rv,x.c.lv,x.c.rv]
def aNy:amU:=⟨amT,amT,amT⟩
structure ahM(K:Vu)(x:amU):Prop where
 a:M6 K x.a
 b:M6 K x.b
 c:M6 K x.c
theorem ahM.mono{K K':Vu}{x:amU}(h:ahM K x)(hl:Le K K'):ahM K' x:=⟨h.a.mono hl,h.b.mono hl,h.c.mono hl⟩
theorem JM(a:GO):a.HK.rows.length=a.rows.length:=gA ..
def lQ.sc(s:lQ):Sc:=⟨s.aq.map fun l=>l.zH.sh,s.vars⟩
theorem ahN(s:lQ):s.sc.aq.length=s.aq.length:=gA ..
theorem asr(s:lQ)(k:Nat):s.sc.aq.getD k ⟨false,[]⟩=(s.aq.getD k mP).zH.sh:=by
 show(s.aq.map fun l=>l.zH.sh).getD k ⟨false,[]⟩=_
 rw[eV,eV,qC]
 cases s.aq[k]?<;>rfl
section
variable{P:Program}{σ:Env}{w:World}{dst:Option Tmp}{ty t u e:TypeId}{pos:String}{bO:Array Edge}{g:Option (Nat×Bool)}{x y:Operand}{b:Nat}{fr:Nat×Nat}
end
def aKi(l:List Ee)(i:Int):Ee:=if 0<=i/\i<l.length then l.getD i.toNat mP else mP
theorem uQ.or{K:Vu}{l:List Uj}(h:uQ K l)(k:Nat):oE K (l.getD k HJ).v 9 (l.getD k HJ).l.length ((l.getD k HJ).l.flatMap ahI):=by
 by_cases hk:k<l.length
 .have:=h.at (k:=(k:Int)) J J
  simpa using this
 rw[eV,ot J];exact oE.nil _ _
section
variable{s:lQ}{v:sV}{e:El}{l:List jN}{a:GO}{k:Int}
abbrev shG(s:lQ)(v:sV):Sh:=(s.aq.getD v.bf.toNat mP).zH.sh
abbrev okG(s:lQ)(a:GO)(k:Int):Bool:=okV s.sc (s.vars.getD k.toNat fq) (a.labels.getD k.toNat df) (a.rows.getD k.toNat HJ).l
end
section
variable{a b:GO}{k j:Int}
end
def aEg(l:List Uj):Nat:=(l.map fun r=>r.l.length).sum
def axf(v:jN):Bool:=decide (40<v.name.size)
def aEh(r:Uj):Bool:=r.l.any axf
def aNz(a:GO):Bool:=decide (100<a.labels.length\/100<a.rows.length)||a.rows.any aEh||decide (200<(aEg a.rows:Int))
def aEi(b:Tx)(l:List Tx)(k:Int):Tx:=xp b (l.take k.toNat)
def szJ(b:Tx)(l:List Tx):Nat:=(l.map fun x=>x.size+b.size).sum
section
variable{s:lQ}{a:GO}{k:Int}
end
section
variable{P m:Tx}{sh:Sh}{l:List jN}{q:Int}
end
abbrev VS(s:lQ)(a:GO):List Tx:=apB s.sc a.HK s.vars.length
section
variable{s:lQ}{a:GO}{k:Int}
end
theorem abE{v:Value}(h1:v.oneCell'=true):∀x∈[v],x.oneCell'=true:=by grind
abbrev aNA(p:El×Bool):Value:= .tuple #[.agg (iM p.1),B p.2]
theorem IJ{a b:As}{k:Int}(h0:0<=k)(h1:k<a.rows.length)(h2:k<b.rows.length):((a.rows.zip b.rows).take k.toNat).map (fun p=>Qg p.1 p.2)++[Qg (a.rows.getD k.toNat []) (b.rows.getD k.toNat [])]=((a.rows.zip b.rows).take (k+1).toNat).map fun p=>Qg p.1 p.2:=(ahJ (F:=fun p:List jN×List jN=>Qg p.1 p.2) h0 h1 h2).symm
section
variable{P:Program}{σ:Env}{w:World}{dst:Option Tmp}{ty t e:TypeId}{pos:String}{bO:Array Edge}{g:Option (Nat×Bool)}{x:Operand}
theorem gf{a:El}{ie:TypeInfo}{z:Value}(hu:P.underlying t=some (.slice e))(hie:P.info? e=some ie)(hz:ie.zero=some z)(hsz:ie.size=8)(hx:ev σ x= .agg (iM a)):
  (execOp (ev σ) ⟨dst,.buildSlice t 1 #[(0,x)],ty,pos,bO,g⟩).run P w= .ok (.value (.slice (some ⟨w.heap.size,0,none⟩) 1 1)) (w.alloc (.cells ([a].flatMap pM).toArray e)):=
 lJ (ps:=[(0,x)]) (l:=[a]) cY hu hie hz hsz O az az (by rw[iq]at hx;simp[hx])
theorem yU{v:Value}{ie:TypeInfo}{z:Value}(h1:v.cells=#[v])(hu:P.underlying t=some (.slice e))(hie:P.info? e=some ie)(hz:ie.zero=some z)(hsz:ie.size=1)(hx:ev σ x=v):
  (execOp (ev σ) ⟨dst,.buildSlice t 1 #[(0,x)],ty,pos,bO,g⟩).run P w= .ok (.value (.slice (some ⟨w.heap.size,0,none⟩) 1 1)) (w.alloc (.cells ([v]:List Value).toArray e)):=by
 have:=cA (P:=P) (σ:=σ) (w:=w) (dst:=dst) (ty:=ty) (pos:=pos) (bO:=bO) (g:=g) (ps:=[(0,x)]) (vs:=[v]) (sz:=1) hu hie hz hsz O aJ aJ rz (by simp[h1])
 simpa[h1]using this
end
section
variable{a b:GO}{ls:List El}{gr:List Uj}{v0 v1:Value}{k j:Int}
theorem KU(h1:ls=((a.labels.zip b.labels).take k.toNat).map fun p=>pe p.1 p.2)(h2:gr.map Uj.l=((a.HK.rows.zip b.HK.rows).take j.toNat).map fun p=>Qg p.1 p.2)(hk:¬(k<a.labels.length/\k<b.labels.length))(hj:¬(j<a.rows.length/\j<b.rows.length)):
  (⟨v0,ls,v1,gr⟩:GO).HK=axb a.HK b.HK:=by
 show(⟨ls,gr.map Uj.l⟩:As)=_
 rw[h1,h2,abD hk,abD (by rw[JM,JM];exact hj)];rfl
end
section
variable{s:lQ}{ls:List El}{v0 v1:Value}{k:Int}
theorem axg(hk:(s.vars.getD k.toNat fq).kind=1)(hl:0<=(s.vars.getD k.toNat fq).bf/\(s.vars.getD k.toNat fq).bf<s.aq.length):Al s.sc (s.vars.getD k.toNat fq)=gI (shG s (s.vars.getD k.toNat fq)) ez:=by grind[Al,ahN,asr]
theorem aws{v:sV}(h:¬(v.kind=1/\0<=v.bf/\v.bf<s.aq.length)):Al s.sc v=df:=by grind[Al,ahN]
theorem DZ(h0:0<=k)(h1:k<s.vars.length):(s.vars.take k.toNat).map (Al s.sc)++[Al s.sc (s.vars.getD k.toNat fq)]=(s.vars.take (k+1).toNat).map (Al s.sc):=by
 rw[show(k+1).toNat=k.toNat+1 by omega,xS,show s.vars[k.toNat]?=some (s.vars.getD k.toNat fq)from fG h0 h1,gP];rfl
theorem D0(h0:0<=k):List.replicate k.toNat HJ++[HJ]=List.replicate (k+1).toNat HJ:=by
 rw[show(k+1).toNat=k.toNat+1 by omega,List.replicate_succ']
theorem uQ.amV(K:Vu)(n:Nat):uQ K (List.replicate n HJ):=⟨fun r hr=>by rw[(List.mem_replicate.1 hr).2];exact oE.nil _ _⟩
theorem UR(h1:ls=(s.vars.take k.toNat).map (Al s.sc))(h0:0<=k)(hk:¬k<s.vars.length)(CP:k<=s.vars.length):(⟨v0,ls,v1,List.replicate k.toNat HJ⟩:GO).HK=M4 s.sc:=by
 show(⟨ls,(List.replicate k.toNat HJ).map Uj.l⟩:As)=_
 rw[h1,jg J,M4,show k.toNat=s.vars.length by omega]
 congr 1
 rw[List.map_replicate]
 exact(List.map_const' (l:=s.vars) (b:=([]:List jN))).symm
end
theorem DI{α:Type}{cl:α->List Value}{sz:Nat}(oF:∀a,(cl a).length=sz)(l:List α)(k:Nat):(l.flatMap cl).take (k*sz)=(l.take k).flatMap cl:=by
 by_cases h:k<=l.length
 .conv=>lhs;rw[<-HP k l,Gn]
  exact List.take_left' (by rw[fO oF,ef,qB h])
 rw[jg (by rw[fO oF];exact sr _ J),jg J]
theorem ad1{α:Type}{cl:α->List Value}{sz:Nat}(oF:∀a,(cl a).length=sz)(l:List α)(k:Nat)(h:k<=l.length):(l.flatMap cl).drop (k*sz)=(l.drop k).flatMap cl:=by
 conv=>lhs;rw[<-HP k l,Gn]
 exact List.drop_left' (by rw[fO oF,ef,qB h])
def lsK(s:lQ)(k:Int):List El:=(s.vars.take k.toNat).map (Al s.sc)++List.replicate (s.vars.length-k.toNat) df
section
variable{s:lQ}{k:Int}
end
section
variable{l:List jN}{f:Tx}{e:El}{k:Int}
end
def wV:List Tx:=[⟨#[108,111]⟩,⟨#[104,105]⟩]
def aEj:Sh:=⟨false,[⟨1,wV,Rl.none⟩]⟩
def exS:Sc:=⟨[aEj],[⟨⟨#[120]⟩,1,0⟩,⟨⟨#[114]⟩,2,0⟩]⟩
def exA:As:=⟨[tK df 0 1#64,df],[[],[⟨⟨#[102]⟩,df⟩]]⟩
section
variable{P:Program}{σ:Env}{w:World}{dst:Option Tmp}{ty t e:TypeId}{pos:String}{bO:Array Edge}{g:Option (Nat×Bool)}{x y:Operand}
end
def apD(l:List jN)(f:Tx):Nat:=if Qf l f<0 then spot l f else(Qf l f).toNat
def wTo(l:List jN)(f:Tx)(e:El)(k:Int)(d:Bool):List jN:=(apz l f e).take (k.toNat+if d&& !(adZ l f).2 then 1 else 0)
def wIs(l:List jN)(f:Tx)(k:Int)(d:Bool):Prop:=(d=true->(apD l f:Int)<k)/\(d=false->k<=(apD l f:Int))
section
variable{l m:List jN}{f:Tx}{e:El}{k:Int}{d:Bool}
theorem k1(h0:0<=k):(k+1).toNat=k.toNat+1:=J
end
def M7(l:Ee):Bool:=iR l.name&&mJ l.zH.sh
def LW(n:Nat)(v:sV):Bool:=iR v.name&&decide ((v.kind=1\/v.kind=2)/\0<=v.bf/\v.bf<n)
def rK(s:lQ):List Tx:=s.aq.map Ee.name++s.vars.map sV.name
def iZ(s:lQ):Bool:=decide (s.aq.length<=16/\s.vars.length<=64)&&s.aq.all M7&&s.vars.all (LW s.aq.length)&&decide (yR (rK s)<0)
section
variable{s:lQ}
theorem Qh(h:¬(s.aq.length<=16/\s.vars.length<=64)):iZ s=false:=by grind[iZ]
theorem ad2{k:Int}(h0:0<=k)(h1:k<s.aq.length)(h:M7 (s.aq.getD k.toNat mP)=false):iZ s=false:=by grind[iZ,MZ]
theorem yV{k:Int}(h0:0<=k)(h1:k<s.vars.length)(h:LW s.aq.length (s.vars.getD k.toNat fq)=false):iZ s=false:=by grind[iZ,MZ]
theorem ad3{k j:Int}(h:s.aq.length<=16/\s.vars.length<=64)(hk:¬k<s.aq.length)(hl:∀i:Int,0<=i->i<k->M7 (s.aq.getD i.toNat mP)=true)(hj:¬j<s.vars.length)(hv:∀i:Int,0<=i->i<j->LW s.aq.length (s.vars.getD i.toNat fq)=true):
 iZ s=decide (yR (rK s)<0):=by rw[iZ,gY h,GM hk hl,GM hj hv];rfl
theorem Zi{k:Int}(h0:0<=k)(h1:k<(rK s).length)(h:iR ((rK s).getD k.toNat qt)=false):iZ s=false:=by
 cases hc:iZ s with
 |false=>rfl
 |true=>
  rw[iZ,cL,cL,cL,iQ,iQ]at hc
  have hm:=lX (fG (d:=qt) h0 h1)
  rw[rK,fh,fN,fN]at hm
  rcases hm with⟨a,ha,e⟩|⟨a,ha,e⟩
  .have:=hc.1.1.2 a ha
   rw[M7,cL,e]at this
   have h2:=this.1
   rw[rK]at h;rw[h]at h2;cases h2
  have:=hc.1.2 a ha
  rw[LW,cL,e]at this
  have h2:=this.1
  rw[rK]at h;rw[h]at h2;cases h2
theorem ad4{k j i:Int}(k1:k<=s.aq.length)(j1:j<=s.vars.length)(h:s.aq.length<=16/\s.vars.length<=64)(hk:¬k<s.aq.length)(hl:∀i:Int,0<=i->i<k->mJ (s.aq.getD i.toNat mP).zH.sh=true)(hj:¬j<s.vars.length)(hv:∀i:Int,0<=i->i<j->((s.vars.getD i.toNat fq).kind=1\/(s.vars.getD i.toNat fq).kind=2)/\0<=(s.vars.getD i.toNat fq).bf/\(s.vars.getD i.toNat fq).bf<s.aq.length)
  (hi:¬i<(rK s).length) (hn:∀x:Int,0<=x->x<i->iR ((rK s).getD x.toNat qt)=true):iZ s=decide (yR (rK s)<0):=by
 have hall:∀t∈rK s,iR t=true:=fun t ht=>by
  obtain⟨x,hx,rfl⟩:=ur ht
  have:=hn x J J
  rw[eV,eC,eF hx]at this
  simpa using this
 refine ad3 h hk (fun x x0 x1=> ?_) hj fun x x0 x1=> ?_
 .rw[M7,hl x x0 x1,Yp]
  refine hall _ (dI _ (List.mem_map_of_mem (lX (fG (d:=mP) x0 J))))
 rw[LW,gY (hv x x0 x1),Yp]
 refine hall _ (bH _ (List.mem_map_of_mem (lX (fG (d:=fq) x0 J))))
theorem Vr{k:Int}(h0:0<=k)(h1:k<s.aq.length):(s.aq.take (k+1).toNat).map Ee.name=(s.aq.take k.toNat).map Ee.name++[(s.aq.getD k.toNat mP).name]:=by
 have h2:k.toNat<s.aq.length:=J
 rw[show(k+1).toNat=k.toNat+1 by omega,xS,gP,eV,eF h2];rfl
theorem JO{k:Int}(h0:0<=k)(h1:k<s.vars.length):(s.vars.take (k+1).toNat).map sV.name=(s.vars.take k.toNat).map sV.name++[(s.vars.getD k.toNat fq).name]:=by
 have h2:k.toNat<s.vars.length:=J
 rw[show(k+1).toNat=k.toNat+1 by omega,xS,gP,eV,eF h2];rfl
end
end
end Go.Proofs.YtlhjdflgjbkpmaaGreatDoor.E
namespace Go.Proofs.YtlhjdflgjbkpmaaGreatDoor.M
section
open Go
structure dX where
 op:Int
 n:Int
 c:El
structure iS where
 var:Int
 c:El
structure lK where
 name:Tx
 at_:iS
def bG:dX:=⟨0,0,df⟩
def ahO:iS:=⟨0,df⟩
def nS:lK:=⟨qt,ahO⟩
end
end Go.Proofs.YtlhjdflgjbkpmaaGreatDoor.M
namespace Go.Proofs.YtlhjdflgjbkpmaaGreatDoor.E
section
open Go Go.RowKit Go.Proofs.YtlhjdflgjbkpmaaGreatDoor.M
def kq(x:dX):List Value:=I x.op::I x.n::pM x.c
theorem gS(x:dX):(kq x).length=10:=by simp[kq,cY]
def jH(a:iS):List Value:=I a.var::pM a.c
theorem D1(a:iS):(jH a).length=9:=by simp[jH,cY]
def uE(f:lK):List Value:=S f.name::jH f.at_
theorem sW(f:lK):(uE f).length=10:=by simp[uE,D1]
structure BI where
 fv:Value
 fields:List lK
 tail:Int
def amW:BI:=⟨.slice none 0 0,[],0⟩
def SU(r:BI):List Value:=[r.fv,I r.tail]
structure gL where
 op:Int
 bf:Int
 cv:Value
 code:List dX
 to:iS
 a:BI
 b:BI
 var:Int
 field:Tx
def dN:gL:=⟨0,0,.slice none 0 0,[],ahO,amW,amW,0,qt⟩
def u3(x:gL):List Value:=I x.op::I x.bf::x.cv::(jH x.to++[x.a.fv,I x.a.tail,x.b.fv,I x.b.tail,I x.var,S x.field])
theorem ni(x:gL):(u3 x).length=18:=by simp[u3,D1]
structure ko where
 s:lQ
 av:Value
 aO:List gL
def sy(p:ko):List Value:=[p.s.lv,p.s.vv,p.av]
structure Zj(K:Vu)(r:BI):Prop where
 fields:oE K r.fv 10 r.fields.length (r.fields.flatMap uE)
structure Ke(K:Vu)(x:gL):Prop where
 code:oE K x.cv 10 x.code.length (x.code.flatMap kq)
 a:Zj K x.a
 b:Zj K x.b
structure rL(K:Vu)(p:ko):Prop where
 s:Ef K p.s
 aO:oE K p.av 18 p.aO.length (p.aO.flatMap u3)
 each:∀x∈p.aO,Ke K x
theorem Zj.mono{K K':Vu}{r:BI}(h:Zj K r)(hl:Le K K'):Zj K' r:=⟨h.fields.mono hl⟩
theorem Ke.mono{K K':Vu}{x:gL}(h:Ke K x)(hl:Le K K'):Ke K' x:=⟨h.code.mono hl,h.a.mono hl,h.b.mono hl⟩
theorem rL.mono{K K':Vu}{p:ko}(h:rL K p)(hl:Le K K'):rL K' p:=⟨h.s.mono hl,h.aO.mono hl,fun x hx=>(h.each x hx).mono hl⟩
theorem rL.at{K:Vu}{p:ko}(h:rL K p){k:Int}(h0:0<=k)(h1:k<p.aO.length):Ke K (p.aO.getD k.toNat dN):=h.each _ (lX (fG (d:=dN) h0 h1))
theorem SV(e:El):(pM e).take 8=pM e:=by grind[cY]
theorem D2(x:dX):((kq x).toArray.toList.drop 2).take 8=pM x.c:=SV x.c
theorem Vs(x:iS):((jH x).toArray.toList.drop 1).take 8=pM x.c:=SV x.c
theorem Qi(x:lK):∀(j:Nat) (c:Value),(jH x.at_)[j]?=some c->(uE x)[1+j]?=some c:=by grind[lK,jH,uE]
theorem abF(x:gL):((u3 x).toArray.toList.drop 3).take (jH x.to).length=jH x.to:=vC ..
theorem abG(x:gL):((u3 x).toArray.toList.drop 4).take 8=pM x.to.c:=by
 show(pM x.to.c++_).take 8=_
 rw[Lk (by rw[cY];omega)];exact SV _
theorem Vt(x:gL):(u3 x).toArray.toList.drop 12=[x.a.fv,I x.a.tail,x.b.fv,I x.b.tail,I x.var,S x.field]:=by
 show(jH x.to++[x.a.fv,I x.a.tail,x.b.fv,I x.b.tail,I x.var,S x.field]).drop 9=_
 rw[show(9:Nat)=(jH x.to).length by rw[D1]];exact Fi ..
theorem ass(x:gL):((u3 x).toArray.toList.drop 12).take (SU x.a).length=SU x.a:=by rw[Vt];rfl
theorem ast(x:gL):((u3 x).toArray.toList.drop 14).take (SU x.b).length=SU x.b:=by
 rw[show(14:Nat)=12+2 by omega,<-RK,Vt];rfl
theorem D3(p:ko):((sy p).toArray.toList.drop 0).take (CM p.s).length=CM p.s:=rfl
theorem we(x:dX):∀u∈(kq x).toArray,u.oneCell'=true:=by
 intro u hu;simp[kq]at hu
 rcases hu with rfl|rfl|hu
 .rfl
 .rfl
 exact uZ x.c u hu
theorem IV(x:iS):∀u∈(jH x).toArray,u.oneCell'=true:=by
 intro u hu;simp[jH]at hu
 rcases hu with rfl|hu
 .rfl
 exact uZ x.c u hu
theorem M8(x:lK):∀u∈(uE x).toArray,u.oneCell'=true:=by
 intro u hu;simp[uE]at hu
 rcases hu with rfl|hu
 .rfl
 exact IV x.at_ u pz
theorem yW{K:Vu}{x:gL}(h:Ke K x):∀u∈(u3 x).toArray,u.oneCell'=true:=by
 intro u hu;simp[u3]at hu
 rcases hu with rfl|rfl|rfl|hu|rfl|rfl|rfl|rfl|rfl|rfl
 .rfl
 .rfl
 .exact(jG h.code).1
 .exact IV x.to u pz
 .exact(jG h.a.fields).1
 .rfl
 .exact(jG h.b.fields).1
 .rfl
 .rfl
 rfl
theorem Qj{K:Vu}{p:ko}(h:rL K p):∀u∈(sy p).toArray,u.oneCell'=true:=by
 intro u hu;simp[sy]at hu
 rcases hu with rfl|rfl|rfl
 .exact(jG h.s.aq).1
 .exact(jG h.s.vars).1
 exact(jG h.aO).1
section
variable{P:Program}{σ:Env}{w:World}{dst:Option Tmp}{ty t e:TypeId}{pos:String}{bO:Array Edge}{g:Option (Nat×Bool)}{x:Operand}{b o:Nat}{fr:Nat×Nat}
theorem nN{d:TypeDesc}{cs:Array Value}{el:El}(hu:P.underlying t=some d)(hd:d.isRow=true)(hi:(P.info? t).map (·.size)=some 8)(hx:ev σ x= .pointer (some ⟨b,o,none⟩))(hg:w.heap[b]?=some (.cells cs e fr))(hc:(cs.toList.drop o).take 8=pM el):
 (execOp (ev σ) ⟨dst,.load t x,ty,pos,bO,g⟩).run P w= .ok (.value (.agg (iM el))) w:=by grind[iq,iN,pM,cY]
theorem ad5{α:Type}{cl:α->List Value}{sz:Nat}{v:Value}{l:List α}{k:Int}{d:TypeDesc}{dv:α}{off:Nat}{el:El}(hsz:∀a,(cl a).length=sz)(hS:Sl w v sz l.length (l.flatMap cl))(hu:P.underlying t=some d)(hd:d.isRow=true)(hi:(P.info? t).map (·.size)=some 8)
  (hx:ev σ x= .pointer (some ⟨sb v,so v+k.toNat*sz+off,none⟩)) (hk:0<=k/\k<l.length) (hc:((cl (l.getD k.toNat dv)).drop off).take 8=pM el):(execOp (ev σ) ⟨dst,.load t x,ty,pos,bO,g⟩).run P w= .ok (.value (.agg (iM el))) w:=by
 rw[iq]
 exact mj (dv:=dv) (off:=off) (cs:=pM el) hsz hS hu hd (by rw[cY];exact hi) hx hk (ahw (by rw[cY];exact hc))
end
end
end Go.Proofs.YtlhjdflgjbkpmaaGreatDoor.E
namespace Go.Proofs.YtlhjdflgjbkpmaaGreatDoor.M
section
open Go
def xu(d:Option Int)(x:dX):Option Int:=d.bind fun k=>if x.op=1\/x.op=2 then some (k+1)else if x.op=3\/x.op=4 then(if x.n<1\/k<x.n then none else some (k-x.n+1))else none
def jt(l:List dX)(k:Int):Option Int:=(l.take k.toNat).foldl xu (some 0)
def fY(l:List dX):Bool:=decide (jt l l.length=some 1)
theorem IW{α β:Type}{f:β->α->β}{b:β}{l:List α}{d:α}{k:Int}(h0:0<=k)(h1:k<l.length):(l.take (k+1).toNat).foldl f b=f ((l.take k.toNat).foldl f b) (l.getD k.toNat d):=by
 have h2:k.toNat<l.length:=J
 rw[show(k+1).toNat=k.toNat+1 by omega,xS,xT,eV,eF h2]
 rfl
theorem ja{l:List dX}{k:Int}(h0:0<=k)(h1:k<l.length):jt l (k+1)=xu (jt l k) (l.getD k.toNat bG):=IW h0 h1
theorem ad6(l:List dX):l.foldl xu none=none:=by
 induction l with
 |nil=>rfl
 |cons a l ih=>rw[pq];exact ih
theorem Vv{l:List dX}{k:Int}(hk:0<=k)(h:jt l k=none):jt l l.length=none:=by grind[jt,Int.toNat_natCast,List.take_length,List.take_append_drop,ad6]
theorem yX(l:List dX):jt l 0=some 0:=rfl
theorem K2{l:List dX}{k d:Int}(h0:0<=k)(h1:k<=l.length)(h:jt l k=some d):0<=d/\d<=k:=by
 have key:∀n:Nat,∀d:Int,(n:Int)<=l.length->jt l n=some d->0<=d/\d<=n:=fun n=>by
  induction n with
  |zero=>intro d _ h;have e:(some (0:Int))=some d:=(yX l).symm.trans h;injection e;omega
  |succ n ih=>
   intro d hn h
   rw[show((n+1:Nat):Int)=(n:Int)+1 by omega,ja J J]at h
   cases hc:jt l n with
   |none=>rw[hc]at h;cases h
   |some q=>
    have:=ih q J hc
    rw[hc]at h
    unfold xu at h
    simp only[RE]at h
    split at h
    .injection h;omega
    split at h
    .split at h
     .cases h
     injection h;omega
    .cases h
 have:=key k.toNat d J (by rw[show((k.toNat:Nat):Int)=k by omega];exact h)
 omega
theorem EL{l:List dX}{k d:Int}(h0:0<=k)(h1:k<l.length)(h:jt l k=some d)(hs:xu (some d) (l.getD k.toNat bG)=none):fY l=false:=
 hG (by rw[Vv (k:=k+1) J (by rw[ja h0 h1,h,hs])];exact fun e=>by cases e)
theorem Zk{l:List dX}{k d:Int}(hk:k<=l.length)(h1:¬k<l.length)(h:jt l k=some d):fY l=decide (d=1):=by grind[fY]
theorem u5{x:dX}{d:Int}(h:x.op=1\/x.op=2):xu (some d) x=some (d+1):=by simp[xu,h]
theorem M9{x:dX}{d:Int}(h:x.op=3\/x.op=4)(h1:1<=x.n)(h2:x.n<=d):xu (some d) x=some (d-x.n+1):=by grind[xu]
theorem Am{x:dX}{d:Int}(h:x.op=3\/x.op=4)(h1:x.n<1\/d<x.n):xu (some d) x=none:=by grind[xu]
theorem SW{x:dX}{d:Int}(h:¬(x.op=1\/x.op=2))(h1:¬(x.op=3\/x.op=4)):xu (some d) x=none:=by
 simp[xu,h,h1]
def pT(f:El->El->El):List El->El
 |[]=>df
 |[e]=>e
 |a::b::l=>f a (pT f (b::l))
theorem Na{f:El->El->El}{l:List El}(h:l≠[]):pT f (l.drop (l.length-1))=l.getD (l.length-1) df:=by
 have h2:l.length-1<l.length:=by have:=List.length_pos_iff.2 h;omega
 rw[Rr h2,Lr J,eV,eF h2];rfl
theorem Zl{f:El->El->El}{l:List El}{i:Nat}(h:i+1<l.length):pT f (l.drop i)=f (l.getD i df) (pT f (l.drop (i+1))):=by
 rw[Rr (by omega:i<l.length),Rr h,eV,eF J]
 rfl
def Kf(s:Sh)(op:Int)(a b:El):El:=if op=3 then eo s a b else pe a b
def Bl(s:Sh)(v:List El)(o:Option (List El))(x:dX):Option (List El):=o.bind fun st=>
 if x.op=1 then(if 0<=x.n/\x.n<v.length then some (st++[v.getD x.n.toNat df])else none)
 else if x.op=2 then some (st++[x.c])
 else some (st.take (st.length-x.n.toNat)++[pT (Kf s x.op) (st.drop (st.length-x.n.toNat))])
def ir(s:Sh)(v:List El)(l:List dX)(k:Int):Option (List El):=(l.take k.toNat).foldl (Bl s v) (some [])
def eA(s:Sh)(l:List dX)(v:List El):El×Bool:=if fY l then(match ir s v l l.length with|some st=>(st.getD 0 df,true)|none=>(df,false))else(df,false)
theorem An{s:Sh}{v:List El}{l:List dX}{k:Int}(h0:0<=k)(h1:k<l.length):ir s v l (k+1)=Bl s v (ir s v l k) (l.getD k.toNat bG):=IW h0 h1
theorem Zm(s:Sh)(v:List El)(l:List dX):l.foldl (Bl s v) none=none:=by
 induction l with
 |nil=>rfl
 |cons a l ih=>rw[pq];exact ih
theorem ad7{s:Sh}{v:List El}{l:List dX}{k:Int}(h:ir s v l k=none):ir s v l l.length=none:=by grind[ir,Int.toNat_natCast,List.take_length,List.take_append_drop,Zm]
theorem Zp{l:List dX}(h:fY l=true){k:Int}(hk:0<=k):∃d,jt l k=some d:=by
 cases hc:jt l k with
 |some d=>exact⟨d,rfl⟩
 |none=>rw[fY,Vv hk hc]at h;simp at h
theorem abH{l:List dX}(h:fY l=true){k d:Int}(h0:0<=k)(h1:k<l.length)(hd:jt l k=some d):
  ((l.getD k.toNat bG).op=1\/(l.getD k.toNat bG).op=2)/\jt l (k+1)=some (d+1)\/(((l.getD k.toNat bG).op=3\/(l.getD k.toNat bG).op=4)/\1<=(l.getD k.toNat bG).n/\(l.getD k.toNat bG).n<=d)/\jt l (k+1)=some (d-(l.getD k.toNat bG).n+1):=by
 obtain⟨q,hq⟩:=Zp h (k:=k+1) J
 have hn:=ja h0 h1
 rw[hd,hq]at hn
 by_cases c:(l.getD k.toNat bG).op=1\/(l.getD k.toNat bG).op=2
 .left;exact⟨c,by rw[hq,hn,u5 c]⟩
 by_cases c2:(l.getD k.toNat bG).op=3\/(l.getD k.toNat bG).op=4
 .by_cases c3:(l.getD k.toNat bG).n<1\/d<(l.getD k.toNat bG).n
  .rw[Am c2 c3]at hn;cases hn
  right;exact⟨⟨c2,J,J⟩,by rw[hq,hn,M9 c2 J J]⟩
 rw[SW c c2]at hn;cases hn
theorem apE{s:Sh}{l:List dX}{v:List El}(h:fY l=false):eA s l v=(df,false):=by rw[eA,h];rfl
theorem K3{s:Sh}{l:List dX}{v st:List El}{k:Int}(h0:0<=k)(h1:k<l.length)(hs:ir s v l k=some st)(ho:(l.getD k.toNat bG).op=1)(hv:(l.getD k.toNat bG).n<0\/v.length<=(l.getD k.toNat bG).n):eA s l v=(df,false):=by
 have e:ir s v l (k+1)=none:=by
  have h3:¬(0<=(l.getD k.toNat bG).n/\(l.getD k.toNat bG).n<v.length):=J
  rw[An h0 h1,hs];generalize l.getD k.toNat bG=x at*;simp[Bl,ho,h3]
 rw[eA,ad7 e];cases fY l<;>rfl
theorem Nb{s:Sh}{l:List dX}{v st:List El}{k:Int}(hr:fY l=true)(hk:k<=l.length)(h1:¬k<l.length)(hs:ir s v l k=some st):eA s l v=(st.getD 0 df,true):=by grind[eA]
theorem ahP{s:Sh}{l:List dX}{v st:List El}{k:Int}(h0:0<=k)(h1:k<l.length)(hs:ir s v l k=some st)(ho:(l.getD k.toNat bG).op=1)(hv:0<=(l.getD k.toNat bG).n/\(l.getD k.toNat bG).n<v.length):ir s v l (k+1)=some (st++[v.getD (l.getD k.toNat bG).n.toNat df]):=by grind[An,bG,Bl]
theorem amX{s:Sh}{l:List dX}{v st:List El}{k:Int}(h0:0<=k)(h1:k<l.length)(hs:ir s v l k=some st)(ho:(l.getD k.toNat bG).op=2):ir s v l (k+1)=some (st++[(l.getD k.toNat bG).c]):=by grind[An,bG,Bl]
theorem asu{s:Sh}{l:List dX}{v st:List El}{k:Int}(h0:0<=k)(h1:k<l.length)(hs:ir s v l k=some st)(h2:¬(l.getD k.toNat bG).op=1)(h3:¬(l.getD k.toNat bG).op=2):ir s v l (k+1)=some (st.take (st.length-(l.getD k.toNat bG).n.toNat)++[pT (Kf s (l.getD k.toNat bG).op) (st.drop (st.length-(l.getD k.toNat bG).n.toNat))]):=by grind[An,bG,Bl]
theorem Bm{s:Sh}{l:List dX}{v st:List El}{k q:Int}(h0:0<=k)(h1:k<l.length)(hs:ir s v l k=some st)(h2:¬(l.getD k.toNat bG).op=1)(h3:¬(l.getD k.toNat bG).op=2)(hq:q=(st.length:Int)-(l.getD k.toNat bG).n)(hn:0<=(l.getD k.toNat bG).n):
  ir s v l (k+1)=some (st.take q.toNat++[pT (Kf s (l.getD k.toNat bG).op) (st.drop q.toNat)]):=by
 rw[asu h0 h1 hs h2 h3,show st.length-(l.getD k.toNat bG).n.toNat=q.toNat by omega]
theorem K4{f:El->El->El}{l:List El}{k:Int}(h0:0<=k)(h1:k+1<l.length):pT f (l.drop k.toNat)=f (l.getD k.toNat df) (pT f (l.drop (k+1).toNat)):=by grind[Zl]
theorem apF{s:Sh}{op:Int}{a b:El}(h:op=3):eo s a b=Kf s op a b:=by rw[Kf,aY h]
theorem apG{s:Sh}{op:Int}{a b:El}(h:¬op=3):pe a b=Kf s op a b:=by rw[Kf,aW h]
theorem fW{l:List dX}(h:fY l=true){k d:Int}(h0:0<=k)(h1:k<l.length)(hd:jt l k=some d)(h2:¬(l.getD k.toNat bG).op=1)(h3:¬(l.getD k.toNat bG).op=2):
  1<=(l.getD k.toNat bG).n/\(l.getD k.toNat bG).n<=d/\jt l (k+1)=some (d-(l.getD k.toNat bG).n+1):=by
 rcases abH h h0 h1 hd with⟨ho,_⟩|⟨⟨_,a,b⟩,c⟩
 .omega
 exact⟨a,b,c⟩
theorem Uv{l:List dX}(h:fY l=true){k d:Int}(hk:k<=l.length)(h1:¬k<l.length)(hd:jt l k=some d):d=1:=by grind[Zk]
end
end Go.Proofs.YtlhjdflgjbkpmaaGreatDoor.M
namespace Go.Proofs.YtlhjdflgjbkpmaaGreatDoor.E
section
open Go Go.RowKit Go.Proofs.YtlhjdflgjbkpmaaGreatDoor.M
def rB(s:lQ)(v kd bf:Int):Bool:=decide (0<=v/\v<s.vars.length)&&decide ((s.vars.getD v.toNat fq).kind=kd)&&decide ((s.vars.getD v.toNat fq).bf=bf)
def iw(s:lQ)(bf:Int):Sh:=(s.aq.getD bf.toNat mP).zH.sh
def mv(s:lQ)(bf:Int)(a:iS):Bool:=if a.var<0 then cI (iw s bf) a.c else rB s a.var 1 bf
def rM(s:lQ)(bf:Int)(f:lK):Bool:=iR f.name&&mv s bf f.at_
def SX(r:BI):List Tx:=r.fields.map lK.name
def wg(s:lQ)(bf:Int)(r:BI):Bool:=decide (r.fields.length<=16)&&(decide (r.tail<0)||rB s r.tail 2 bf)&&r.fields.all (rM s bf)&&decide (yR (SX r)<0)
def wh(s:lQ)(bf:Int)(x:dX):Bool:=(!decide (x.op=1)||rB s x.n 1 bf)&&(!decide (x.op=2)||cI (iw s bf) x.c)
def codeOk(s:lQ)(bf:Int)(l:List dX):Bool:=l.all (wh s bf)&&fY l
def kT(s:lQ)(a:gL):Bool:=
 if a.op=10 then rB s a.var 2 a.bf&&iR a.field
 else if 0<=a.bf/\a.bf<s.aq.length then(if a.op=9 then wg s a.bf a.a&&wg s a.bf a.b else if a.op=8 then codeOk s a.bf a.code&&mv s a.bf a.to else false)
 else false
def lM(p:ko):Bool:=iZ p.s&&decide (p.aO.length<=64)&&p.aO.all (kT p.s)
section
variable{s:lQ}{v kd bf:Int}{a:gL}{r:BI}{l:List dX}{k:Int}
theorem Vw(h:¬(0<=v/\v<s.vars.length)):rB s v kd bf=false:=by grind[rB]
theorem ahQ(h:¬(s.vars.getD v.toNat fq).kind=kd):rB s v kd bf=false:=by grind[rB]
theorem ahR(h:0<=v/\v<s.vars.length)(h2:(s.vars.getD v.toNat fq).kind=kd):rB s v kd bf=decide ((s.vars.getD v.toNat fq).bf=bf):=by grind[rB]
theorem atom_1{x:iS}(h:x.var<0):mv s bf x=cI (iw s bf) x.c:=aY h
theorem asv{x:iS}(h:¬x.var<0):mv s bf x=rB s x.var 1 bf:=aW h
theorem amY(h:¬r.fields.length<=16):wg s bf r=false:=by grind[wg]
theorem amZ(h1:¬r.tail<0)(h:rB s r.tail 2 bf=false):wg s bf r=false:=by grind[wg]
theorem K5(h0:0<=k)(h1:k<r.fields.length)(h:rM s bf (r.fields.getD k.toNat nS)=false):wg s bf r=false:=by grind[wg,MZ]
theorem abI(h:r.fields.length<=16)(h1:r.tail<0\/rB s r.tail 2 bf=true)(hk:¬k<r.fields.length)(hg:∀j:Int,0<=j->j<k->rM s bf (r.fields.getD j.toNat nS)=true):wg s bf r=decide (yR (SX r)<0):=by
 rw[wg,gY h,GM hk hg]
 rcases h1 with h1|h1
 .rw[gY h1];rfl
 rw[h1];simp
theorem Qk{f:lK}(h:iR f.name=false):rM s bf f=false:=by rw[rM,h];rfl
theorem Ql{f:lK}(h:mv s bf f.at_=false):rM s bf f=false:=by grind[rM]
theorem Qn{f:lK}(h:iR f.name=true)(h2:mv s bf f.at_=true):rM s bf f=true:=by rw[rM,h,h2];rfl
theorem JP(h0:0<=k)(h1:k<r.fields.length):(r.fields.take (k+1).toNat).map lK.name=(r.fields.take k.toNat).map lK.name++[(r.fields.getD k.toNat nS).name]:=by
 have h2:k.toNat<r.fields.length:=J
 rw[show(k+1).toNat=k.toNat+1 by omega,xS,gP,eV,eF h2];rfl
theorem Vx{m:List Tx}{x:Tx}{k:Int}(h:(m.length:Int)=k):(JL m++[S x])[k.toNat*1]?=some (S x):=by grind
theorem am0{x:dX}(h:x.op=1)(h2:rB s x.n 1 bf=false):wh s bf x=false:=by grind[wh]
theorem abJ{x:dX}(h:x.op=2)(h2:cI (iw s bf) x.c=false):wh s bf x=false:=by grind[wh]
theorem K6{x:dX}(h:¬x.op=1\/rB s x.n 1 bf=true)(h2:¬x.op=2\/cI (iw s bf) x.c=true):wh s bf x=true:=by grind[wh]
theorem Nc(h0:0<=k)(h1:k<l.length)(h:wh s bf (l.getD k.toNat bG)=false):codeOk s bf l=false:=by grind[codeOk,MZ]
theorem ahS(h:fY l=false):codeOk s bf l=false:=by grind[codeOk]
theorem ahT(hk:¬k<l.length)(hg:∀j:Int,0<=j->j<k->wh s bf (l.getD j.toNat bG)=true):codeOk s bf l=fY l:=by rw[codeOk,GM hk hg];rfl
theorem ad8(hk:¬k<l.length)(hg:∀j:Int,0<=j->j<k->wh s bf (l.getD j.toNat bG)=true)(h:fY l=true):codeOk s bf l=true:=by rw[ahT hk hg,h]
theorem ahU(h:a.op=10):kT s a=(rB s a.var 2 a.bf&&iR a.field):=aY h
theorem ahV(h:¬a.op=10)(h2:¬(0<=a.bf/\a.bf<s.aq.length)):kT s a=false:=by grind[kT]
theorem apH(h:a.op=9)(h2:0<=a.bf/\a.bf<s.aq.length):kT s a=(wg s a.bf a.a&&wg s a.bf a.b):=by grind[kT]
theorem Qo(h:a.op=8)(h2:0<=a.bf/\a.bf<s.aq.length):kT s a=(codeOk s a.bf a.code&&mv s a.bf a.to):=by grind[kT]
theorem axh(h:¬a.op=10)(h1:¬a.op=9)(h2:¬a.op=8):kT s a=false:=by grind[kT]
end
section
variable{p:ko}{k:Int}
theorem ahW(h:iZ p.s=false):lM p=false:=by rw[lM,h];rfl
theorem ahX(h:¬p.aO.length<=64):lM p=false:=by grind[lM]
theorem ahY(h0:0<=k)(h1:k<p.aO.length)(h:kT p.s (p.aO.getD k.toNat dN)=false):lM p=false:=by grind[lM,MZ]
theorem ahZ(h:iZ p.s=true)(h2:p.aO.length<=64)(hk:¬k<p.aO.length)(hg:∀j:Int,0<=j->j<k->kT p.s (p.aO.getD j.toNat dN)=true):lM p=true:=by rw[lM,h,gY h2,GM hk hg];rfl
end
def abK(a:As)(t:iS):El×Bool:=if t.var<0 then(t.c,true)else if t.var<a.labels.length then(a.labels.getD t.var.toNat df,true)else(df,false)
def aEk(a:As)(f:lK):jN:=⟨f.name,(abK a f.at_).1⟩
def apI(a:As)(t:BI):List jN:=if 0<=t.tail then a.rows.getD t.tail.toNat []else[]
def axi(a:As)(t:BI):List jN:=apI a t++t.fields.map (aEk a)
def axj(a:As)(t:BI):Bool:=decide (t.tail<a.rows.length)&&t.fields.all fun f=>(abK a f.at_).2
def asw(l:List jN):List Tx:=l.map jN.name
def aEl(l:List jN):List jN:=l.foldl (fun m v=>apz m v.name v.el) []
def apJ(l:List jN):Bool:=decide (asw l).Nodup
def Kg(a:As)(t:BI):List jN×Bool:=if(axj a t&&apJ (axi a t))=true then(aEl (axi a t),true)else([],false)
def abL(out:List Tx)(x:Tx):Int:=tH (fun k=> !Vq (out.getD k.toNat qt) x) out.length
def aEm(out:List Tx)(x:Tx):List Tx:=if abL out x<0 then out++[x]else if out.getD (abL out x).toNat qt=x then out else out.take (abL out x).toNat++x::out.drop (abL out x).toNat
def aKk(l:List Tx):List Tx:=l.foldl aEm []
def JQ(kv:List (Tx×El))(f:Tx):El×Bool:=match kv.find? (fun p=>decide (p.1=f))with
 |none=>(df,false)
 |some p=>(p.2,true)
def aNB(kv:List (Tx×El))(f:Tx)(e:El):List (Tx×El):=if(JQ kv f).2 then kv.map fun p=>if p.1=f then(f,e)else p else kv++[(f,e)]
def am1(s:lQ)(a:As)(x:gL):Bool:=
 if x.op=10 then(if 0<=x.var/\x.var<a.rows.length then !(adZ (a.rows.getD x.var.toNat []) x.field).2 else false)
 else if x.op=9 then(Kg a x.a).2&&(Kg a x.b).2&&apA (Kg a x.a).1 (Kg a x.b).1
 else if x.op=8/\0<=x.bf/\x.bf<s.aq.length then(eA (iw s x.bf) x.code a.labels).2&&(abK a x.to).2&&cS (eA (iw s x.bf) x.code a.labels).1 (abK a x.to).1
 else false
def Zu(s:lQ)(a:As)(l:List gL):Int:=tH (fun i=> !am1 s a (l.getD i.toNat dN)) l.length
def aNC(s:lQ)(a:As)(l:List gL):Bool:=SS s.sc a&&decide (Zu s a l<0)
section
variable{s:lQ}{a:As}{x:gL}{l:List gL}
end
section
variable{s:lQ}{a m:As}{bf:Int}{l:List dX}
theorem ah0{sh:Sh}{op:Int}{a b:El}(fa:cI sh a=true)(fb:cI sh b=true):cI sh (Kf sh op a b)=true:=by grind[Kf,IS,ar7]
theorem Ao{sh:Sh}{op:Int}{l:List El}(h:l≠[])(hf:∀e∈l,cI sh e=true):cI sh (pT (Kf sh op) l)=true:=by
 induction l with
 |nil=>exact absurd O h
 |cons e l ih=>
  cases l with
  |nil=>exact hf e aJ
  |cons b l=>
   have:=ih aJ fun x hx=>hf x (gd _ hx)
   show cI sh (Kf sh op e (pT (Kf sh op) (b::l)))=true
   exact ah0 (hf e aJ) this
theorem meet_mono{a b c d:El}(h:cS a b=true)(h2:cS c d=true):cS (pe a c) (pe b d)=true:=by grind[awQ,M5,ar8]
theorem join_mono{sh:Sh}{a b c d:El}(fa:cI sh a=true)(fb:cI sh b=true)(fc:cI sh c=true)(fd:cI sh d=true)(h:cS a b=true)(h2:cS c d=true):cS (eo sh a c) (eo sh b d)=true:=by grind[abu,IS,M5,Y4]
theorem ah1{sh:Sh}{op:Int}{a b c d:El}(fa:cI sh a=true)(fb:cI sh b=true)(fc:cI sh c=true)(fd:cI sh d=true)(h:cS a b=true)(h2:cS c d=true):cS (Kf sh op a c) (Kf sh op b d)=true:=by grind[Kf,join_mono,meet_mono]
def u6:List El->List El->Prop
 |[],[]=>True
 |a::l,b::m=>cS a b=true/\u6 l m
 |_,_=>False
theorem u6.len:∀{l m:List El},u6 l m->l.length=m.length
 |[],[],_=>rfl
 |_::_,_::_,h=>by simp[u6.len h.2]
 |[],_::_,h=>h.elim
 |_::_,[],h=>h.elim
theorem u6.app:∀{l m l' m':List El},u6 l m->u6 l' m'->u6 (l++l') (m++m')
 |[],[],_,_,_,h=>h
 |_::_,_::_,_,_,h,h'=>⟨h.1,u6.app h.2 h'⟩
 |[],_::_,_,_,h,_=>h.elim
 |_::_,[],_,_,h,_=>h.elim
theorem u6.take:∀{l m:List El} (n:Nat),u6 l m->u6 (l.take n) (m.take n)
 |[],[],n,_=>by simp[u6]
 |_::_,_::_,0,h=>by simp[u6]
 |_::_,_::_,n+1,h=>⟨h.1,u6.take n h.2⟩
 |[],_::_,_,h=>h.elim
 |_::_,[],_,h=>h.elim
theorem u6.drop:∀{l m:List El} (n:Nat),u6 l m->u6 (l.drop n) (m.drop n)
 |[],[],n,_=>by simp[u6]
 |_::_,_::_,0,h=>h
 |_::_,_::_,n+1,h=>u6.drop n h.2
 |[],_::_,_,h=>h.elim
 |_::_,[],_,h=>h.elim
theorem u6.oW:∀{l m:List El},u6 l m->cS (l.getD 0 df) (m.getD 0 df)=true
 |[],[],_=>kp _
 |_::_,_::_,h=>h.1
 |[],_::_,h=>h.elim
 |_::_,[],h=>h.elim
theorem Nf{sh:Sh}{op:Int}:∀{l m:List El},u6 l m->(∀e∈l,cI sh e=true)->(∀e∈m,cI sh e=true)->cS (pT (Kf sh op) l) (pT (Kf sh op) m)=true
 |[],[],_,_,_=>kp _
 |[a],[b],h,_,_=>h.1
 |a::a'::l,b::b'::m,h,hf,hg=>by
  have ih:=Nf (sh:=sh) (op:=op) (l:=a'::l) (m:=b'::m) h.2 (fun x hx=>hf x (gd _ hx)) (fun x hx=>hg x (gd _ hx))
  have f1:=Ao (sh:=sh) (op:=op) (l:=a'::l) aJ fun x hx=>hf x (gd _ hx)
  have f2:=Ao (sh:=sh) (op:=op) (l:=b'::m) aJ fun x hx=>hg x (gd _ hx)
  exact ah1 (hf a aJ) (hg b aJ) f1 f2 h.1 ih
 |[],_::_,h,_,_=>h.elim
 |_::_,[],h,_,_=>h.elim
 |[_],_::_::_,h,_,_=>h.2.elim
 |_::_::_,[_],h,_,_=>h.2.elim
end
section
variable{s:lQ}{a b:As}{bf:Int}{T U:BI}
theorem ah2{a b:El}(h:sx a b):sx b a:=fun i hi=>(h i hi).symm
end
def tO:Value->Nat->Value
 | .slice a _ _,n=> .slice a n n
 |v,_=>v
theorem Sl.tO{w:World}{v:Value}{sz m n:Nat}{cells:List Value}(h:Sl w v sz m cells)(hn:n<=m):Sl w (tO v n) sz n (cells.take (n*sz)):=by
 obtain⟨a,cap,rfl,hc,ha⟩:=h.shape
 refine⟨⟨a,n,rfl,eu _,fun hp=> ?_⟩,?_,fun j c hj=> ?_,kf hn h.small⟩
 .have:=ha J
  cases a with
  |none=>cases this
  |some a=>exact this
 .rw[ef,h.len];exact qB (sr _ hn)
 have hlt:j<n*sz:=by
  have:=(n7.1 hj).1
  rw[ef]at this;omega
 rw[vx,aY hlt]at hj
 have:=h.cell j c hj
 cases a<;>exact this
theorem Ng{w:World}{v:Value}{sz m n:Nat}{cells:List Value}(h:Sl w v sz m cells):∃a,E.tO v n= .slice a n n:=by
 obtain⟨a,cap,rfl,_,_⟩:=h.shape
 exact⟨a,rfl⟩
theorem set_perm{α:Type}{x:α}:∀{l:List α} {i:Nat},i<l.length->(l.set i x).Perm (x::l.eraseIdx i)
 |a::l,0,_=>RM _
 |a::l,i+1,h=>(List.Perm.cons a (set_perm (l:=l) (i:=i) yc)).trans (List.Perm.swap _ _ _)
 |[],_,h=>absurd h aJ
theorem Hp.swap{w0 w:World}{L:List bu}{x:bu}{i:Nat}(h:Hp w0 w (x::L))(hi:i<L.length):Hp w0 w (L.set i x):=
 (h.sub (List.Sublist.cons_cons _ (List.eraseIdx_sublist _ _))).perm (set_perm hi).symm
section
variable{P:Program}{n:Nat}{ops:Array Oper}{k:K}{rest:List Oper}{σ:Env}{w0 w:World}{L L' Xz:List bu}{ty:TypeId}{pos:String}{bO:Array Edge}{d:Nat}{x y:Operand}{dst:Option Tmp}{g:Option (Nat×Bool)}
theorem wj{t e:TypeId}{lo hi:Operand}{v:Value}{sz m:Nat}{q:Int}{cells:List Value}(hS:Sl w v sz m cells)(hu:P.underlying t=some (.slice e))(hs:∀w,(sizeOf e).run P w= .ok sz w)(hx:ev σ x=v)(hlo:ev σ lo=I q)(hhi:ev σ hi=I q)(h:0<=q/\q<=m):
  (execOp (ev σ) ⟨dst,.slice t x none (some lo) (some hi),ty,pos,bO,g⟩).run P w= .ok (.value (tO v q.toNat)) w:=by
 obtain⟨a,cap,rfl,hcap,ha⟩:=hS.shape
 have h1:0<=q/\q<=(cap:Int):=J
 have h2:0<=q/\q<=((q.toNat:Nat):Int):=J
 have h3:(Instr.slice t (.slice a m cap) none (some (I q)) (some (I q))).run P w= .ok (.slice a q.toNat q.toNat) w:=by
  have e0:Option.map (fun x:Addr=>x.add 0) a=a:=by cases a<;>simp[Addr.add]
  have h5:q<=max q 0:=J
  simp[Instr.slice,Instr.sliceBounds,Instr.sliceBound,kP hu,asIntOf,h1,h2,hs,e0,h5]
 have h4:(Instr.sliceAt t (.slice a m cap) none (some (I q)) (some (I q))).run P w= .ok (.slice a q.toNat q.toNat) w:=by
  simp[Instr.sliceAt,kP hu,h3]
 simp[execOp,hx,hlo,hhi,h4,tO]
theorem Nh{base:Nat}{t ty e:TypeId}{i:TypeInfo}{z:Value}{size bytes:Nat}(ht:P.underlying t=some (.slice e))(hi:P.info? e=some i)(hz:i.zero=some z)
  (hsize:i.size=size) (hby:i.bytes=bytes) (hzs:z.cells.size=size) {v:Value} {n:Nat} {xs:List Value} (hv:∃a,v= .slice a n n) (hX:Sl w v size n xs) {y:Value} {m:Nat} {news:List Value} (hS:Sl w y size m news)
  (hm:0<m) (h63:n+m<=maxLen) (hbytes:(n+m)*bytes<=140737488355328):
  ∃v' w',(Builtin.append_ #[t,t] ty #[v,y]).run P w= .ok v' w'/\w'.ownsRow w.heap.size e size v' (n+m) (xs++news)/\Below w.heap.size w w':=by
 subst hsize
 subst hby
 obtain⟨a,rfl⟩:=hv
 obtain⟨b,c,hy,hmc,hb⟩:=hS.shape
 have hb':=hb hm
 have hyy:y= .slice (some ⟨sb y,so y,none⟩) m c:=by rw[<-hb'];exact hy
 have hnews:∀j u,news[j]?=some u->w.cell? ((⟨sb y,so y,none⟩:Addr).add j)=some u:=fun j u hu=>by rw[HW];exact hS.cell j u hu
 have hlen:(xs++news).length=(n+m)*i.size:=by rw[ed,hX.len,hS.len,lF]
 have hsmall:n+m<=9223372036854775807:=by simp only[maxLen]at h63;omega
 have grown:∀(old:Nat),old<n+m->
   (w.drew.alloc (.cells (xs.toArray++news.toArray++Builtin.zeroCells z.cells (grownCap w (n+m) old e-(n+m))) e)).ownsRow w.heap.size e i.size
    (.slice (some ⟨w.heap.size,0,none⟩) (n+m) (grownCap w (n+m) old e)) (n+m) (xs++news)/\
   Below w.heap.size w (w.drew.alloc (.cells (xs.toArray++news.toArray++Builtin.zeroCells z.cells (grownCap w (n+m) old e-(n+m))) e)):=by
  intro old ho
  have hge:=grownCap_ge w (n+m) old e
  have hcm:grownCap w (n+m) old e<=maxLen:=grownCap_le_maxLen w (n+m) old e h63
  refine⟨⟨hlen,.inr ⟨w.heap.size,_,_,rfl,eu _,heap_alloc_new w.drew _,hge,hcm,?_,?_⟩⟩,⟨rfl,rfl,rfl,aJ,fun k hk=>heap_alloc_old w.drew _ hk⟩⟩
  .simp only[Array.size_append,vz,size_zeroCells,hzs,hX.len,hS.len,<-lF]
   congr 1
   omega
  simp only[Array.toList_append,dH]
  rw[<-dH,<-hlen]
  exact vC
 rw[hyy]
 cases a with
 |none=>
  have hn:n=0:=by
   rcases RC n with h|h
   .exact h
   obtain⟨a',c',e1,_,h2⟩:=hX.shape
   injection e1 with e1
   rw[<-e1]at h2;cases h2 h
  subst hn
  have hx:xs=[]:=zK (by simpa using hX.len)
  subst hx
  have hr:=run_append_nil (P:=P) w t ty e i z ht hi hz ⟨sb y,so y,none⟩ m c news hS.len hnews J J aa6
  have hgr:=grown 0 J
  simp only[gQ,eR,Array.empty_append]at hgr⊢
  exact⟨_,_,hr,hgr.1,hgr.2⟩
 |some a=>
  have holds:∀j u,xs[j]?=some u->w.cell? (a.add j)=some u:=fun j u hu=>by
   have hj:j<n*i.size:=by have:=(n7.1 hu).1;rw[hX.len]at this;exact this
   have hn:0<n:=by
    rcases RC n with h|h
    .subst h;simp at hj
    exact h
   obtain⟨a',c',e1,_,h2⟩:=hX.shape
   injection e1 with e1
   have h3:=h2 hn
   rw[<-e1]at h3
   have h4:a=⟨sb (.slice (some a) n n),so (.slice (some a) n n),none⟩:=by injection h3
   rw[h4,HW];exact hX.cell j u hu
  have hr:=run_append_grow (P:=P) w t ty e i z ht hi hz a n n xs hX.len holds ⟨sb y,so y,none⟩ m c news hS.len hnews J J (growslice_fits J hbytes)
  have hgr:=grown n J
  exact⟨_,_,hr,hgr.1,hgr.2⟩
theorem aEn{t e:TypeId}{i:Nat}{ie:TypeInfo}{z:Value}{size bytes:Nat}{v u:Value}{m m' q:Nat}{xs news:List Value}(hd:Nat.blt d n=true)(hH:Hp w0 w L)(hL:L[i]?=some (.row v e size m xs))(hq:q<=m)(hS:Sl w u size m' news)
  (hx:ev σ x=tO v q) (hy:ev σ y=u) (ht:P.underlying t=some (.slice e)) (hi:P.info? e=some ie) (hz:ie.zero=some z)
  (hsize:ie.size=size) (hby:ie.bytes=bytes) (hzs:z.cells.size=size) (hm:0<m')
  (hbytes:(q+m')*bytes<=140737488355328) (h63:q+m'<=maxLen)
  (hk:∀v' w',Hp w0 w' (L.set i (.row v' e size (q+m') (xs.take (q*size)++news)))->RL P n ops k rest (me σ d v') w'):
  RL P n ops k (⟨some d,.call {callee:= .builtin .append,args:=#[x,y],argTypes:=#[t,t]},ty,pos,bO,none⟩::rest) σ w:=by
 have hX:=hH.sl hL
 obtain⟨v',w',hr,h2,h3⟩:=Nh (P:=P) (base:=0) (ty:=ty) ht hi hz hsize hby hzs (Ng hX) (hX.tO hq) hS hm h63 hbytes
 exact pA hd (th hx hy hr) (hk v' w' ((hH.DO h3 h2).swap (n7.1 hL).1))
variable{l:List Oper}{fuel i:Nat}{listed:Array Bool}
theorem SY{t e:TypeId}{j:Nat}{ie:TypeInfo}{z:Value}{size bytes:Nat}{v u:Value}{m m' q:Nat}{xs news:List Value}(hi:l[i]?=some ⟨some d,.call {callee:= .builtin .append,args:=#[x,y],argTypes:=#[t,t]},ty,pos,bO,g⟩)
  (hg:∀a,Is n σ a->Region.wanted ⟨some d,.call {callee:= .builtin .append,args:=#[x,y],argTypes:=#[t,t]},ty,pos,bO,g⟩ (yielded l.toArray a.tmps)=true) (hd:Nat.blt d n=true) (hH:Hp w0 w Xz) (hL:Xz[j]?=some (.row v e size m xs)) (hq:q<=m)
  (hs:∀v',L'.Sublist (Xz.set j (.row v' e size (q+m') (xs.take (q*size)++news)))) (hS:Sl w u size m' news)
  (hx:ev σ x=tO v q) (hy:ev σ y=u) (ht:P.underlying t=some (.slice e)) (hie:P.info? e=some ie) (hz:ie.zero=some z)
  (hsize:ie.size=size) (hby:ie.bytes=bytes) (hzs:z.cells.size=size) (hm:0<m')
  (hbytes:(q+m')*bytes<=140737488355328) (h63:q+m'<=maxLen)
  (hk:∀v' w',Hp w0 w' (Xz.set j (.row v' e size (q+m') (xs.take (q*size)++news)))->AN P n l (fun w=>Hp w0 w L') k fuel (listed.setIfInBounds i true) (me σ d v') w'):AO P n l (fun w=>Hp w0 w L') k fuel listed σ w i:=by
 have hX:=hH.sl hL
 obtain⟨v',w',hr,h2,h3⟩:=Nh (P:=P) (base:=0) (ty:=ty) ht hie hz hsize hby hzs (Ng hX) (hX.tO hq) hS hm h63 hbytes
 have hH':=(hH.DO h3 h2).swap (i:=j) (n7.1 hL).1
 exact CB hi hg hd (th hx hy hr) (hH'.sub (hs v')) (hk v' w' hH')
end
section
variable{P:Program}{n:Nat}{ops:Array Oper}{k:K}{rest l:List Oper}{σ:Env}{w0 w:World}{L:List bu}{op:Op}{ty t e et:TypeId}{pos:String}{bO:Array Edge}{d:Nat}{x y:Operand}{g:Option (Nat×Bool)}{v u:Value}{sz m i o:Nat}{xs:List Value}{dst:Option Tmp}
theorem GQ(hH:Hp w0 w L)(hi:L[i]?=some (.row v e sz m xs))(hm:0<m)(hx:ev σ x= .pointer (some ⟨sb v,so v+o,none⟩))(hy:ev σ y=u)(hv:u.cells=#[u])(h1:u.oneCell'=true)(hs:(P.info? t).map (·.size)=some 1)(ho:o+1<=m*sz):
  ∃w',(execOp (ev σ) ⟨dst,.store t x y,ty,pos,bO,g⟩).run P w= .ok .skip w'/\Hp w0 w' (L.set i (.row v e sz m (qX xs o [u]))):=by
 obtain⟨gb,cap,rfl,hnc,cur,hg,hc,ht,hk⟩:=hH.K1 hi hm
 have hcm:m*sz<=cap*sz:=sr _ hnc
 have hx':ev σ x= .pointer (some ⟨gb,o,none⟩):=by rw[hx];simp only[sb,so,gQ]
 have hr:=bK (P:=P) (dst:=dst) (ty:=ty) (pos:=pos) (bO:=bO) (g:=g) hs hx' hy hv h1 hg J
 have e1:(cur.setIfInBounds o u).toList=cur.toList.take o++[u]++cur.toList.drop (o+1):=by
  simp[XL,show o<cur.size by omega]
 have h2:=hk (cur.setIfInBounds o u) aJ
 rw[e1,show cur.toList.take o++[u]++cur.toList.drop (o+1)=cur.toList.take o++[u]++cur.toList.drop (o+[u].length)from O,GN (by simpa using ho) Sj,ht]at h2
 exact⟨_,hr,h2⟩
theorem Ap(hH:Hp w0 w L)(hi:L[i]?=some (.row v e sz m xs))(hm:0<m)(hx:ev σ x= .pointer (some ⟨sb v,so v+o,none⟩))(hy:ev σ y=u)(hv:u.cells=#[u])(h1:u.oneCell'=true)(hs:(P.info? t).map (·.size)=some 1)(ho:o+1<=m*sz)
  (hk:∀w',Hp w0 w' (L.set i (.row v e sz m (qX xs o [u])))->RL P n ops k rest σ w'):RL P n ops k (⟨none,.store t x y,ty,pos,bO,none⟩::rest) σ w:=by
 obtain⟨w',hr,h2⟩:=GQ (dst:=none) (ty:=ty) (pos:=pos) (bO:=bO) (g:=none) hH hi hm hx hy hv h1 hs ho
 exact Il hr (hk w' h2)
variable{fuel j:Nat}{listed:Array Bool}{L':List bu}
theorem asx(hj:l[j]?=some ⟨none,.store t x y,ty,pos,bO,g⟩)(hg:∀a,Is n σ a->Region.wanted ⟨none,.store t x y,ty,pos,bO,g⟩ (yielded l.toArray a.tmps)=true)(hH:Hp w0 w L)(hi:L[i]?=some (.row v e sz m xs))(hsub:∀ys,L'.Sublist (L.set i (.row v e sz m ys)))(hm:0<m)
  (hx:ev σ x= .pointer (some ⟨sb v,so v+o,none⟩)) (hy:ev σ y=u) (hv:u.cells=#[u]) (h1:u.oneCell'=true) (hs:(P.info? t).map (·.size)=some 1) (ho:o+1<=m*sz)
  (hk:∀w',Hp w0 w' (L.set i (.row v e sz m (qX xs o [u])))->AN P n l (fun w=>Hp w0 w L') k fuel (listed.setIfInBounds j true) σ w'):AO P n l (fun w=>Hp w0 w L') k fuel listed σ w j:=by
 obtain⟨w',hr,h2⟩:=GQ (dst:=none) (ty:=ty) (pos:=pos) (bO:=bO) (g:=g) hH hi hm hx hy hv h1 hs ho
 exact Iq hj hg hr (h2.sub (hsub _)) (hk w' h2)
end
section
variable{P:Program}{σ:Env}{w:World}{ty:TypeId}{pos:String}{bO:Array Edge}{dst:Option Tmp}{g:Option (Nat×Bool)}{x:Operand}
end
theorem Sl.frE{α:Type}{cl:α->List Value}{sz:Nat}{w:World}{v:Value}{l:List α}(hsz:∀a,(cl a).length=sz)(h:Sl w v sz l.length (l.flatMap cl))(o:Nat)(ho:o<=l.length):Sl w (pg v sz o) sz (l.drop o).length ((l.drop o).flatMap cl):=by
 have:=h.fr o ho
 rw[ad1 hsz _ _ ho]at this
 rw[yK];exact this
section
variable{w0 w:World}{L:List bu}
theorem SZ{B:Nat}{a:World}(h:Below B a w){b:Nat}(hb:B<=b)(o:Obj):Below B a {w with heap:=w.heap.setIfInBounds b o}:=
 h.trans ⟨rfl,rfl,rfl,aJ,fun k hk=>by
  show(w.heap.setIfInBounds b o)[k]?=_
  rw[EA,aW J]⟩
theorem Hp.setObj{i b:Nat}{o:Obj}(h:Hp w0 w L)(hi:L[i]?=some (.blk b o))(o':Obj):Hp w0 {w with heap:=w.heap.setIfInBounds b o'} (L.set i (.blk b o')):=by
 have hx:=h.ok _ (lX hi)
 have hil:=(n7.1 hi).1
 have hb:=(Ca.1 hx.2).1
 refine⟨SZ h.below hx.1 o',fun y hy=> ?_,Cz hi O h.L8⟩
 obtain⟨j,hj,Fw⟩:=vA.1 hy
 rw[zO]at Fw
 split at Fw
 .subst Fw
  refine⟨hx.1,?_⟩
  show(w.heap.setIfInBounds b o')[b]?=_
  rw[EA,aY O,aY hb]
 rename_i hne
 have hjL:j<L.length:=by simpa using hj
 have hyL:y∈L:=Fw▸qD hjL
 refine bu.DN (h.ok y hyL) fun bb hf=> ?_
 have Ip:b≠bb:=fun Ip=>by
  subst Ip
  have hp:=Rq.1 h.L8
  have hLi:L[i]= .blk b o:=(n7.1 hi).2
  rcases X0 hne with hlt|hgt
  .rcases hp i j hil hjL hlt with h0|h0
   .rw[hLi]at h0;cases h0
   rw[hLi,Fw,hf]at h0;exact h0 O
  rcases hp j i hjL hil hgt with h0|h0
  .rw[Fw,hf]at h0;cases h0
  rw[hLi,Fw,hf]at h0;exact h0 O
 show(w.heap.setIfInBounds b o')[bb]?=_
 rw[EA,aW Ip]
end
structure Vy(es:Array MapEntry)(clock:Nat)(kv:List (Tx×El)):Prop where
 at_:es.toList.map (fun e=>(e.key,e.val))=kv.map fun p=>(S p.1,Value.agg (iM p.2))
 born:(es.toList.map (·.born)).Nodup
 old:∀x∈es.toList,x.born<clock
 asy:(kv.map Prod.fst).Nodup
theorem axk{a b:Tx}(h:S a=S b):a=b:=by injection h
section
variable{es:Array MapEntry}{clock:Nat}{kv:List (Tx×El)}
theorem Vy.get(h:Vy es clock kv){j:Nat}{e:MapEntry}(he:es.toList[j]?=some e):∃p,kv[j]?=some p/\e.key=S p.1/\e.val= .agg (iM p.2):=by
 have:=aK (·[j]?) h.at_
 simp only[qC,he,rp]at this
 cases hk:kv[j]? with
 |none=>rw[hk]at this;cases this
 |some p=>rw[hk]at this;injection this with q;injection q with q1 q2;exact⟨p,rfl,q1,q2⟩
theorem Vy.size(h:Vy es clock kv):es.size=kv.length:=by
 have:=aK List.length h.at_
 simpa using this
theorem Vy.keys(h:Vy es clock kv):∀x∈es.toList,MapKept.IsKey .string x.key:=fun x hx=>by
 obtain⟨j,hj⟩:=XX.1 hx
 obtain⟨p,_,hk,_⟩:=h.get hj
 rw[hk];trivial
theorem ah3{f:Tx}{e:El}(h:(kv.map Prod.fst).Nodup)(hm:(f,e)∈kv):JQ kv f=(e,true):=by grind[JQ,List.find?_eq_none,List.mem_of_find?_eq_some,List.getElem_of_mem,Nat.lt_trichotomy,List.pairwise_iff_getElem]
theorem am2{f:Tx}(h:∀p∈kv,p.1≠f):JQ kv f=(df,false):=by grind[JQ]
theorem Vy.find(h:Vy es clock kv)(f:Tx):(Instr.findNow .string (S f) es.toList 0=some none/\JQ kv f=(df,false)/\∀p∈kv,p.1≠f)\/
  ∃j e el,Instr.findNow .string (S f) es.toList 0=some (some (j,.agg (iM el)))/\es.toList[j]?=some e/\e.key=S f/\kv[j]?=some (f,el)/\JQ kv f=(el,true):=by
 rcases MapKept.findNow_spec (d:= .string) (k:=S f) trivial es.toList 0 h.keys with⟨h1,h2⟩|⟨j,e,h1,h2,h3⟩
 .have hno:∀p∈kv,p.1≠f:=fun p hp q=>by
   obtain⟨j,hj⟩:=XX.1 hp
   have hlt:j<es.toList.length:=by
    have:=(n7.1 hj).1
    have e:=h.size
    simp;omega
   obtain⟨p',hp',hk,_⟩:=h.get (eF hlt)
   rw[hj]at hp';injection hp' with hp';subst hp'
   exact h2 _ (qD hlt) (by rw[hk,q])
  exact .inl ⟨h1,am2 hno,hno⟩
 obtain⟨p,hp,hk,hv⟩:=h.get h2
 have hf:p.1=f:=axk (hk.symm.trans h3)
 have hp':kv[j]?=some (f,p.2):=by rw[hp,<-hf]
 exact .inr ⟨j,e,p.2,by rw[h1,hv,gQ],h2,h3,hp',ah3 h.asy (lX hp')⟩
end
section
variable{P:Program}{n:Nat}{ops:Array Oper}{k:K}{rest:List Oper}{σ:Env}{w0 w:World}{L:List bu}{ty:TypeId}{pos:String}{bO:Array Edge}{d:Nat}{dst:Option Tmp}{g:Option (Nat×Bool)}{x y z:Operand}{t kt et:TypeId}{es:Array MapEntry}{clock b:Nat}{kv:List (Tx×El)}{f:Tx}
theorem aEo{i bi since c0:Nat}{seen:Array Nat}(hd:Nat.blt d n=true)(hH:Hp w0 w L)(hi:L[i]?=some (.blk bi (.mapIter (some b) since seen c0)))(hb:w.heap[b]?=some (.map es clock))(hold:∀x∈es.toList,x.born<since)(hsc:since<=c0)(hx:ev σ x= .pointer (some ⟨bi,0,none⟩))
  (h1:(leftOf es seen).size=0->RL P n ops k rest (me σ d (.tuple #[B false])) w)
  (h2:∀e∈(leftOf es seen).toList,∀w',Hp w0 w' (L.set i (.blk bi (.mapIter (some b) since (seen.push e.born) clock)))->RL P n ops k rest (me σ d (.tuple #[B true,e.key,e.val])) w'):
  RL P n ops k (⟨some d,.next x false,ty,pos,bO,none⟩::rest) σ w:=by
 have hbi:=hH.blk hi
 have key:((leftOf es seen).size=0/\(Instr.next (.pointer (some ⟨bi,0,none⟩)) false ty).run P w= .ok (.tuple #[.bool false]) w)\/
   ∃e∈(leftOf es seen).toList,∃w1:World,(w1=w\/w1=w.drew)/\(Instr.next (.pointer (some ⟨bi,0,none⟩)) false ty).run P w= .ok (.tuple #[.bool true,e.key,e.val]) {w1 with heap:=w1.heap.setIfInBounds bi (.mapIter (some b) since (seen.push e.born) clock)}:=by
  simp only[Instr.next,getObj,uw,Sem.run,hbi,hb,Result.andThen,next_test_false seen es since c0 hold hsc,uL,x7]
  unfold leftOf
  have hmem:∀x∈(Array.filter (fun e=> !seen.contains e.born) es).toList,x.born<since:=fun x hx=>hold x (by simp at hx⊢;exact hx.1)
  generalize Array.filter (fun e=> !seen.contains e.born) es=Q at hmem⊢
  have e1:Q.filter (fun x=>decide (x.born<since))=Q:=Array.filter_eq_self.2 (fun x hx=>by simpa using hmem x (by simpa using hx))
  have e2:Q.filter (fun x=>decide (x.born>=since))=#[]:=by
   rw[Array.filter_eq_empty_iff]
   intro x hx
   have:=hmem x (by simpa using hx)
   simp
   omega
  simp only[e1,e2,Array.append_empty]
  by_cases h0:Q.size=0
  .left
   have:Q=#[]:=afE h0
   subst this
   refine⟨rfl,?_⟩
   simp[choose,Sem.run,Question.forced]
  right
  have hne:Q.isEmpty=false:=by simp[Array.isEmpty,h0]
  simp only[hne,uL,x7,Array.empty_append,Array.size_map]
  have hch:∃(j:Nat) (w1:World),j<Q.size/\(w1=w\/w1=w.drew)/\(choose (Question.mapNext Q.size)).run P w= .ok j w1:=by
   by_cases hf:Q.size<=1
   .exact⟨0,w,J,.inl O,by simp[choose,Sem.run,Question.forced,hf]⟩
   exact⟨_,w.drew,Nat.mod_lt _ J,.inr O,by
    simp only[choose,Sem.run,Question.forced,eD,hf,x7,Question.cut]
    rfl⟩
  obtain⟨j,w1,hj,Vz,hrun⟩:=hch
  refine⟨Q[j],aJ,w1,Vz,?_⟩
  have hb1:w1.heap[bi]?=some (.mapIter (some b) since seen c0):=by rcases Vz with rfl|rfl<;>exact hbi
  simp only[hrun,Array.getElem?_map,afJ hj,rp,uw,Result.andThen]
  simp[setObj,Sem.run,hb1]
 rcases key with⟨h0,hr⟩|⟨e,he,w1,hw,hr⟩
 .exact pA hd (by simp[execOp,hx,hr,Result.andThen]) (h1 h0)
 refine pA (w':={w1 with heap:=w1.heap.setIfInBounds bi (.mapIter (some b) since (seen.push e.born) clock)}) hd (by simp[execOp,hx,hr,Result.andThen]) (h2 e he _ (Hp.setObj (o:= .mapIter (some b) since seen c0) ?_ hi _))
 rcases hw with rfl|rfl
 .exact hH
 exact hH.drew
end
def axl(v:jN):Tx×El:=(v.name,v.el)
def GSt(its:List jN)(g o:Bool)(kv:List (Tx×El)):Prop:=o=(g&&apJ its)/\(o=true->kv=its.map axl)
def aND(a:As)(t:BI):List jN:=if t.tail<a.rows.length then apI a t else[]
section
variable{P:Program}{n:Nat}{ops:Array Oper}{k:K}{rest:List Oper}{σ:Env}{w0 w:World}{L:List bu}{ty:TypeId}{pos:String}{bO:Array Edge}{d:Nat}{dst:Option Tmp}{g:Option (Nat×Bool)}{x:Operand}{es:Array MapEntry}{clock b:Nat}{kv:List (Tx×El)}
def Seen(es:Array MapEntry)(kv:List (Tx×El))(seen:Array Nat)(ns:List Tx):Prop:=
 (∀t∈ns,t∈kv.map Prod.fst)/\(∀e∈es.toList,seen.contains e.born=true->∃t∈ns,e.key=S t)/\ns.length+(leftOf es seen).size<=es.size
end
section
variable{P:Program}{σ:Env}{w:World}{ty t u:TypeId}{pos:String}{bO:Array Edge}{dst:Option Tmp}{g:Option (Nat×Bool)}{x y:Operand}{a b:Tx}
end
def aEp(ns:List Tx)(kv:List (Tx×El))(k:Int):List jN:=(ns.take k.toNat).map fun n=>⟨n,(JQ kv n).1⟩
section
variable{a:GO}{r:BI}{k:Int}{m:List jN}
end
structure aKn(a:GO):Prop where
 rl:∀x∈a.rows,x.l.length<=1000
 rn:∀x∈a.rows,∀v∈x.l,v.name.size<=1000
structure ah5(x:gL):Prop where
 c:x.code.length<=1000
 fa:x.a.fields.length<=1000
 fb:x.b.fields.length<=1000
 na:∀f∈x.a.fields,f.name.size<=1000
 nb:∀f∈x.b.fields,f.name.size<=1000
def xw(x:gL):Bool:=decide (200<x.code.length\/40<x.a.fields.length\/40<x.b.fields.length\/40<x.field.size)||(x.a.fields++x.b.fields).any fun f=>decide (40<f.name.size)
def Pd(p:ko):Bool:=wc p.s||decide (80<p.aO.length)||p.aO.any xw
theorem am3{x:gL}(h:xw x=false):ah5 x:=by grind[gL,xw,ah5]
theorem am4{p:ko}(h:Pd p=false):wc p.s=false/\p.aO.length<=80/\∀x∈p.aO,ah5 x:=by grind[Pd,am3]
theorem Ni(l:List lK):∀u∈l.flatMap uE,u.oneCell'=true:=by grind[M8]
theorem qG{s:lQ}{a:As}{l:List gL}{k:Int}(h0:0<=k)(h1:k<l.length)(h:am1 s a (l.getD k.toNat dN)=false)(hg:∀j:Int,0<=j->j<k->am1 s a (l.getD j.toNat dN)=true):Zu s a l=k:=
 vS h0 h1 (by rw[h];rfl) fun j a b=>by rw[hg j a b];rfl
theorem tF{s:lQ}{a:As}{l:List gL}{k:Int}(hk:¬k<l.length)(hg:∀j:Int,0<=j->j<k->am1 s a (l.getD j.toNat dN)=true):Zu s a l= -1:=
 GG fun j a b=>by rw[hg j a J];rfl
theorem D4{x:gL}(h:200<x.code.length\/40<x.a.fields.length\/40<x.b.fields.length\/40<x.field.size):xw x=true:=by grind[xw]
theorem ad9{x:gL}{m:List lK}{k:Int}(hm:m=x.a.fields++x.b.fields)(h0:0<=k)(h1:k<m.length)(h:40<(m.getD k.toNat nS).name.size):xw x=true:=by grind[xw,GL,nS]
theorem am5{x:gL}{m:List lK}{k:Int}(hm:m=x.a.fields++x.b.fields)(h:¬(200<x.code.length\/40<x.a.fields.length\/40<x.b.fields.length\/40<x.field.size))(h1:¬k<m.length)(h2:∀j:Int,0<=j->j<k->decide (40<(m.getD j.toNat nS).name.size)=false):xw x=false:=by
 rw[xw,<-hm,hG h,SO (d:=nS) h1 h2];rfl
theorem Qp{p:ko}(h:wc p.s=true\/80<p.aO.length):Pd p=true:=by grind[Pd]
theorem aea{p:ko}{k:Int}(h0:0<=k)(h1:k<p.aO.length)(h:xw (p.aO.getD k.toNat dN)=true):Pd p=true:=by grind[Pd,GL,dN]
theorem ah6{p:ko}{k:Int}(h:wc p.s=false)(h2:¬80<p.aO.length)(h1:¬k<p.aO.length)(h3:∀j:Int,0<=j->j<k->xw (p.aO.getD j.toNat dN)=false):Pd p=false:=by
 rw[Pd,h,hG h2,SO (d:=dN) h1 h3];rfl
end
end Go.Proofs.YtlhjdflgjbkpmaaGreatDoor.E
namespace Go.Proofs.YtlhjdflgjbkpmaaGreatDoor.M
section
open Go
structure qN where
 up:Nat
 size:Nat
 next:Nat
 least:Nat
def FJ:qN:=⟨0,0,0,0⟩
def Wk(f:Nat->Nat):Nat->List Nat->Nat->Prop
 |v,[],y=>v=y
 |v,z::l,y=>v=z/\Wk f (f z) l y
theorem Wk.app{f:Nat->Nat}{l m:List Nat}{v z y:Nat}:Wk f v (l++z::m) y↔Wk f v l z/\Wk f (f z) m y:=by
 induction l generalizing v with
 |nil=>exact Cm
 |cons a l ih=>simp only[gB,Wk,ih,and_assoc]
theorem Wk.congr{f g:Nat->Nat}{l:List Nat}{v y:Nat}(h:Wk f v l y)(he:∀x∈l,g x=f x):Wk g v l y:=by
 induction l generalizing v with
 |nil=>exact h
 |cons a l ih=>exact⟨h.1,by rw[he a aJ];exact ih h.2 fun x hx=>he x (gd _ hx)⟩
def Ring(f:Nat->Nat)(i:Nat)(t:List Nat):Prop:=Wk f (f i) t i/\(i::t).Nodup
theorem Ring.rot{f:Nat->Nat}{i j:Nat}{t:List Nat}(h:Ring f i t)(hj:j∈i::t):∃u,Ring f j u/\∀k,k∈j::u↔k∈i::t:=by
 rcases c8.1 hj with rfl|hj
 .exact⟨t,h,fun _=>Cm⟩
 obtain⟨l,m,rfl⟩:=X4 hj
 have h1:=Wk.app.1 h.1
 refine⟨m++i::l,⟨Wk.app.2 ⟨h1.2,h1.1⟩,?_⟩,fun k=>by simp only[c8,fh];constructor<;>(intro q;rcases q with q|q|q|q<;>simp[q])⟩
 have h2:=h.2
 have e:j::(m++i::l)=(j::m)++(i::l):=rfl
 have e2:i::(l++j::m)=(i::l)++(j::m):=rfl
 rw[e2]at h2
 rw[e]
 exact(uq.nodup_iff).1 h2
theorem Ring.join{f g:Nat->Nat}{a b:Nat}{la lb:List Nat}(ha:Ring f a la)(hb:Ring f b lb)(hd:∀x∈a::la,x∉b::lb)(ga:g a=f b)(gb:g b=f a)(ho:∀x,x≠a->x≠b->g x=f x):Ring g a (lb++b::la):=by
 have na:a∉la:=(ow.1 ha.2).1
 have nb:b∉lb:=(ow.1 hb.2).1
 have a1:a∉b::lb:=hd a aJ
 refine⟨Wk.app.2 ⟨?_,?_⟩,?_⟩
 .rw[ga]
  exact hb.1.congr fun x hx=>ho x (fun e=>a1 (by rw[<-e];exact gd _ hx)) fun e=>nb (by rw[<-e];exact hx)
 .rw[gb]
  exact ha.1.congr fun x hx=>ho x (fun e=>na (by rw[<-e];exact hx)) fun e=>hd x (gd _ hx) (by rw[e];simp)
 rw[ow]
 constructor
 .intro h
  rcases fh.1 h with q|q
  .exact a1 (gd _ q)
  rcases c8.1 q with q|q
  .exact a1 (by rw[q];simp)
  exact na q
 rw[List.nodup_append]
 refine⟨(ow.1 hb.2).2,ow.2 ⟨fun q=>hd b (gd _ q) aJ,(ow.1 ha.2).2⟩,fun x hx y hy e=> ?_⟩
 subst e
 rcases c8.1 hy with q|q
 .exact nb (by rw[<-q];exact hx)
 exact hd x (gd _ q) (gd _ hx)
theorem Ring.keep{f g:Nat->Nat}{i:Nat}{t:List Nat}(h:Ring f i t)(he:∀x∈i::t,g x=f x):Ring g i t:=
 ⟨by rw[he i aJ];exact h.1.congr fun x hx=>he x (gd _ hx),h.2⟩
def sX(nd:List qN)(i:Nat):Nat:=(nd.getD i FJ).up
def kS(nd:List qN)(i:Nat):Nat:=(nd.getD i FJ).size
def tQ(nd:List qN)(i:Nat):Nat:=(nd.getD i FJ).next
def rf(nd:List qN)(i:Nat):Nat:=(nd.getD i FJ).least
def cr(cl:List Nat)(i:Nat):Nat:=cl.getD i 0
structure Fo(nd:List qN)(cl:List Nat):Prop where
 len:cl.length=nd.length
 up:∀i,i<nd.length->sX nd i<nd.length
 sz:∀i,i<nd.length->sX nd i≠i->kS nd i<kS nd (sX nd i)
 sn:∀i,i<nd.length->kS nd i<=nd.length
 si:∀i,i<nd.length->sX nd i=i->kS nd i=cl.count (cr cl i)
 uc:∀i,i<nd.length->cr cl (sX nd i)=cr cl i
 one:∀i j,i<nd.length->j<nd.length->sX nd i=i->sX nd j=j->cr cl i=cr cl j->i=j
 le:∀i,i<nd.length->sX nd i=i->rf nd i=cr cl i
 lc:∀i,i<nd.length->cr cl i<=i/\cr cl (cr cl i)=cr cl i
 ring:∀i,i<nd.length->∃t,Ring (tQ nd) i t/\∀k,k∈i::t↔k<nd.length/\cr cl k=cr cl i
theorem Fo.nil:Fo [] []:=⟨rfl,fun i h=>mO,fun i h=>mO,fun i h=>mO,fun i h=>mO,fun i h=>mO,fun i j h=>mO,fun i h=>mO,fun i h=>mO,fun i h=>mO⟩
def r5(n:Nat):qN:=⟨n,1,n,n⟩
section
variable{nd:List qN}{cl:List Nat}{α:Type}{d x:α}{l:List α}{i:Nat}
theorem ah7(h:i<l.length):(l++[x]).getD i d=l.getD i d:=by grind
theorem ah8:(l++[x]).getD l.length d=x:=aJ
theorem Fo.add(h:Fo nd cl):Fo (nd++[r5 nd.length]) (cl++[nd.length]):=by
 have hl:=h.len
 have gu:∀i,i<nd.length->(nd++[r5 nd.length]).getD i FJ=nd.getD i FJ:=fun i hi=>ah7 hi
 have gn:(nd++[r5 nd.length]).getD nd.length FJ=r5 nd.length:=ah8
 have gc:∀i,i<nd.length->cr (cl++[nd.length]) i=cr cl i:=fun i hi=>ah7 J
 have gcn:cr (cl++[nd.length]) nd.length=nd.length:=by unfold cr;rw[<-hl];exact ah8
 have cs:∀i,i<(nd++[r5 nd.length]).length->i<nd.length\/i=nd.length:=fun i hi=>by rw[ed,ey]at hi;omega
 have ln:(nd++[r5 nd.length]).length=nd.length+1:=aJ
 have clt:∀i,i<nd.length->cr cl i<nd.length:=fun i hi=>by have:=(h.lc i hi).1;omega
 have aEq:cl.count nd.length=0:=by
  rw[List.count_eq_zero];intro hm
  obtain⟨k,hk,e⟩:=ur hm
  have:=clt k J
  unfold cr at this
  rw[eV,eF hk,RI,e]at this
  omega
 refine⟨by simp[hl],fun i hi=> ?_,fun i hi=> ?_,fun i hi=> ?_,fun i hi hu=> ?_,fun i hi=> ?_,fun i j hi hj hu hv hc=> ?_,fun i hi hu=> ?_,fun i hi=> ?_,fun i hi=> ?_⟩
 .rw[ln];unfold sX;rcases cs i hi with q|rfl
  .rw[gu i q];have:=h.up i q;unfold sX at this;omega
  rw[gn];show nd.length<_;omega
 .unfold sX kS;rcases cs i hi with q|rfl
  .have hu:=h.up i q
   unfold sX at hu
   rw[gu i q,gu _ hu];exact h.sz i q
  rw[gn];intro hh;exact absurd O hh
 .rw[ln];unfold kS;rcases cs i hi with q|rfl
  .rw[gu i q];have:=h.sn i q;unfold kS at this;omega
  rw[gn];show 1<=_;omega
 .unfold kS;unfold sX at hu;rcases cs i hi with q|rfl
  .rw[gu i q]at hu⊢;rw[gc i q,Yc]
   have:=h.si i q hu;unfold kS at this
   rw[this,List.count_singleton]
   have:=clt i q
   rw[aW iW];omega
  rw[gn,gcn,Yc,aEq,List.count_singleton,aY aJ];rfl
 .unfold sX;rcases cs i hi with q|rfl
  .have hu:=h.up i q
   have:=h.uc i q
   unfold sX at hu this
   rw[gu i q,gc i q,gc _ hu];exact this
  rw[gn];rfl
 .unfold sX at hu hv;rcases cs i hi with q|rfl<;>rcases cs j hj with r|rfl
  .rw[gu _ q]at hu;rw[gu _ r]at hv;rw[gc _ q,gc _ r]at hc;exact h.one i j q r hu hv hc
  .rw[gc _ q,gcn]at hc;have:=clt i q;omega
  .rw[gc _ r,gcn]at hc;have:=clt j r;omega
  rfl
 .unfold rf;unfold sX at hu;rcases cs i hi with q|rfl
  .rw[gu _ q]at hu⊢;rw[gc _ q];exact h.le i q hu
  rw[gn,gcn];rfl
 .rcases cs i hi with q|rfl
  .rw[gc _ q,gc _ (clt i q)];exact h.lc i q
  rw[gcn,gcn];exact⟨eu _,rfl⟩
 rcases cs i hi with q|rfl
 .obtain⟨t,ht,hm⟩:=h.ring i q
  refine⟨t,ht.keep fun x hx=> ?_,fun k=> ?_⟩
  .unfold tQ;rw[gu x ((hm x).1 hx).1]
  rw[hm k,ln,gc i q]
  constructor
  .rintro⟨a,b⟩;exact⟨J,by rw[gc k a];exact b⟩
  rintro⟨a,b⟩
  rcases cs k (by rw[ln];exact a)with r|rfl
  .exact⟨r,by rw[<-gc k r];exact b⟩
  rw[gcn]at b;have:=clt i q;omega
 refine⟨[],⟨by show tQ _ _=_;unfold tQ;rw[gn];rfl,aJ⟩,fun k=> ?_⟩
 rw[gG,ln,gcn]
 constructor
 .rintro rfl;exact⟨J,gcn⟩
 rintro⟨a,b⟩
 rcases cs k (by rw[ln];exact a)with r|rfl
 .rw[gc k r]at b;have:=clt k r;omega
 rfl
theorem lz{j:Nat}:(l.set i x).getD j d=if j=i/\i<l.length then x else l.getD j d:=by grind
end
def pU(nd:List qN)(a b:Nat):List qN:=(nd.set b ⟨a,kS nd b,tQ nd a,rf nd b⟩).set a ⟨sX nd a,kS nd a+kS nd b,tQ nd b,min (rf nd a) (rf nd b)⟩
def IX(x y c:Nat):Nat:=if c=x\/c=y then min x y else c
def iH(cl:List Nat)(x y:Nat):List Nat:=cl.map (IX x y)
theorem kX{x y c:Nat}(h:c=x\/c=y):IX x y c=min x y:=aY h
theorem lA{x y c:Nat}(h:¬(c=x\/c=y)):IX x y c=c:=aW h
theorem yd(x y:Nat):min x y=x\/min x y=y:=J
theorem aeb{x y v:Nat}(h:¬(v=x\/v=y))(cl:List Nat):(iH cl x y).count v=cl.count v:=by
 induction cl with
 |nil=>rfl
 |cons c l ih=>
  show(IX x y c::iH l x y).count v=_
  rw[Fh,Fh,ih]
  by_cases hc:c=x\/c=y
  .rw[kX hc,aW aa9,aW iW]
  rw[lA hc]
theorem VA{x y:Nat}(h:x≠y)(cl:List Nat):(iH cl x y).count (min x y)=cl.count x+cl.count y:=by
 induction cl with
 |nil=>rfl
 |cons c l ih=>
  show(IX x y c::iH l x y).count _=_
  rw[Fh,Fh,Fh,ih]
  by_cases hc:c=x\/c=y
  .rw[kX hc,aY aJ]
   rcases hc with rfl|rfl
   .rw[aY aJ,aW iW];omega
   rw[aW iW,aY aJ];omega
  rw[lA hc,aW aa9,aW iW,aW iW]
  omega
theorem aec{x y:Nat}(h:x≠y)(cl:List Nat):cl.count x+cl.count y<=cl.length:=by
 rw[<-VA h]
 have:=List.count_le_length (a:=min x y) (l:=iH cl x y)
 rwa[show(iH cl x y).length=cl.length by simp[iH]]at this
section
variable{nd:List qN}{cl:List Nat}{a b:Nat}
theorem wk:(pU nd a b).length=nd.length:=by simp[pU]
theorem am7(hb:b<nd.length)(ha:a<nd.length)(hab:a≠b)(hu:sX nd a=a)(i:Nat):sX (pU nd a b) i=if i=b then a else sX nd i:=by grind[sX,pU,lz]
theorem am8(hb:b<nd.length)(ha:a<nd.length)(i:Nat):kS (pU nd a b) i=if i=a then kS nd a+kS nd b else kS nd i:=by grind[kS,pU,lz]
theorem am9(hb:b<nd.length)(ha:a<nd.length)(i:Nat):rf (pU nd a b) i=if i=a then min (rf nd a) (rf nd b)else rf nd i:=by grind[rf,pU,lz]
theorem ana(hb:b<nd.length)(ha:a<nd.length)(i:Nat):tQ (pU nd a b) i=if i=a then tQ nd b else if i=b then tQ nd a else tQ nd i:=by grind[tQ,pU,lz]
theorem Aq{x y:Nat}{i:Nat}(hi:i<cl.length):cr (iH cl x y) i=IX x y (cr cl i):=by grind[cr,iH]
theorem Fo.join(h:Fo nd cl)(ha:a<nd.length)(hb:b<nd.length)(hab:a≠b)(ua:sX nd a=a)(ub:sX nd b=b):Fo (pU nd a b) (iH cl (cr cl a) (cr cl b)):=by
 have hl:=h.len
 have hxy:cr cl a≠cr cl b:=fun e=>hab (h.one a b ha hb ua ub e)
 generalize hx:cr cl a=x at*
 generalize hy:cr cl b=y at*
 have gc:∀i,i<nd.length->cr (iH cl x y) i=IX x y (cr cl i):=fun i hi=>Aq J
 have gu:=am7 hb ha hab ua
 have gs:=am8 hb ha (a:=a)
 have gl:=am9 hb ha (a:=a)
 have gn:=ana hb ha (a:=a)
 have sa:=h.si a ha ua;have sb:=h.si b hb ub
 rw[hx]at sa;rw[hy]at sb
 have root:∀i,i<nd.length->sX (pU nd a b) i=i->i≠b/\sX nd i=i:=fun i hi q=>by
  rw[gu]at q
  by_cases e:i=b
  .rw[aY e]at q;exact absurd (q.trans e) hab
  rw[aW e]at q;exact⟨e,q⟩
 have isx:∀i,i<nd.length->sX nd i=i->i≠b->(cr cl i=x\/cr cl i=y)->i=a:=fun i hi q e hc=>by
  rcases hc with hc|hc
  .exact h.one i a hi ha q ua (hc.trans hx.symm)
  exact absurd (h.one i b hi hb q ub (hc.trans hy.symm)) e
 have clx:=h.lc a ha;have cly:=h.lc b hb
 rw[hx]at clx;rw[hy]at cly
 have pa:1<=kS nd a:=by
  rw[sa]
  have:x∈cl:=by
   rw[<-hx];unfold cr
   rw[eV,eF J,RI];exact qD J
  have:=List.count_pos_iff.2 this
  omega
 refine⟨by simp[iH,wk,hl],fun i hi=> ?_,fun i hi=> ?_,fun i hi=> ?_,fun i hi hu=> ?_,fun i hi=> ?_,fun i j hi hj hu hv hc=> ?_,fun i hi hu=> ?_,fun i hi=> ?_,fun i hi=> ?_⟩<;>rw[wk]at hi
 .rw[wk,gu];split
  .exact ha
  exact h.up i hi
 .rw[gu,gs i]
  by_cases e:i=b
  .rw[aY e,gs a,aY O,aW J,e];intro _;omega
  rw[aW e,gs (sX nd i)];intro q
  have e2:i≠a:=fun r=>q (by rw[r];exact ua)
  rw[aW e2]
  have:=h.sz i hi q
  split
  .rename_i r;rw[r]at this;omega
  exact this
 .rw[wk,gs i];split
  .have:=aec hxy cl;omega
  exact h.sn i hi
 .obtain⟨e,q⟩:=root i hi hu
  rw[gs i,gc i hi]
  by_cases e2:i=a
  .rw[aY e2,e2,hx,kX (.inl O),VA hxy,sa,sb]
  rw[aW e2]
  have hc:¬(cr cl i=x\/cr cl i=y):=fun r=>e2 (isx i hi q e r)
  rw[lA hc,aeb hc];exact h.si i hi q
 .rw[gu i];split
  .rename_i e;rw[gc a ha,gc i hi,e,hx,hy,kX (.inl O),kX (.inr O)]
  rw[gc _ (h.up i hi),gc i hi,h.uc i hi]
 .rw[wk]at hj
  obtain⟨e1,q1⟩:=root i hi hu
  obtain⟨e2,q2⟩:=root j hj hv
  rw[gc i hi,gc j hj]at hc
  by_cases c1:cr cl i=x\/cr cl i=y
  .rw[kX c1]at hc
   have c2:cr cl j=x\/cr cl j=y:=by
    refine Lp fun r=> ?_
    rw[lA r]at hc
    exact r (by rw[<-hc];exact yd x y)
   rw[isx i hi q1 e1 c1,isx j hj q2 e2 c2]
  rw[lA c1]at hc
  have c2:¬(cr cl j=x\/cr cl j=y):=fun r=>by
   rw[kX r]at hc
   exact c1 (by rw[hc];exact yd x y)
  rw[lA c2]at hc
  exact h.one i j hi hj q1 q2 hc
 .obtain⟨e,q⟩:=root i hi hu
  rw[gl i,gc i hi]
  by_cases e2:i=a
  .rw[aY e2,e2,hx,kX (.inl O),h.le a ha ua,h.le b hb ub,hx,hy]
  rw[aW e2]
  have hc:¬(cr cl i=x\/cr cl i=y):=fun r=>e2 (isx i hi q e r)
  rw[lA hc];exact h.le i hi q
 .have hi2:=h.lc i hi
  rw[gc i hi]
  by_cases c1:cr cl i=x\/cr cl i=y
  .rw[kX c1]
   refine⟨by rcases c1 with r|r<;>omega,?_⟩
   rw[gc _ J]
   refine kX ?_
   rcases yd x y with r|r<;>rw[r]
   .exact .inl clx.2
   exact .inr cly.2
  rw[lA c1]
  refine⟨hi2.1,?_⟩
  rw[gc _ J,hi2.2,lA c1]
 by_cases c1:cr cl i=x\/cr cl i=y
 .obtain⟨la,ra,ma⟩:=h.ring a ha
  obtain⟨lb,rb,mb⟩:=h.ring b hb
  rw[hx]at ma;rw[hy]at mb
  have hj:Ring (tQ (pU nd a b)) a (lb++b::la):=ra.join rb (fun k hk CP=>hxy (((ma k).1 hk).2.symm.trans ((mb k).1 CP).2)) (by rw[gn,aY O]) (by rw[gn,aW (Fp hab),aY O]) fun k k1 k2=>by rw[gn,aW k1,aW k2]
  have mm:∀k,k∈a::(lb++b::la)↔k<nd.length/\(cr cl k=x\/cr cl k=y):=fun k=>by
   have m1:=ma k;have m2:=mb k
   simp only[c8,fh]at m1 m2⊢
   constructor
   .rintro(q|q|q|q)
    .have:=m1.1 (.inl q);exact⟨this.1,.inl this.2⟩
    .have:=m2.1 (.inr q);exact⟨this.1,.inr this.2⟩
    .have:=m2.1 (.inl q);exact⟨this.1,.inr this.2⟩
    have:=m1.1 (.inr q);exact⟨this.1,.inl this.2⟩
   rintro⟨q,r|r⟩
   .rcases m1.2 ⟨q,r⟩with s|s
    .exact .inl s
    exact .inr (.inr (.inr s))
   rcases m2.2 ⟨q,r⟩with s|s
   .exact .inr (.inr (.inl s))
   exact .inr (.inl s)
  obtain⟨u,hu,mu⟩:=hj.rot ((mm i).2 ⟨hi,c1⟩)
  refine⟨u,hu,fun k=> ?_⟩
  rw[mu,mm,wk,gc i hi,kX c1]
  constructor
  .rintro⟨q,r⟩;exact⟨q,by rw[gc k q,kX r]⟩
  rintro⟨q,r⟩
  refine⟨q,Lp fun s=> ?_⟩
  rw[gc k q,lA s]at r
  exact s (by rw[r];exact yd x y)
 obtain⟨t,ht,mt⟩:=h.ring i hi
 have out:∀k∈i::t,¬(cr cl k=x\/cr cl k=y):=fun k hk=>by rw[((mt k).1 hk).2];exact c1
 refine⟨t,ht.keep fun k hk=> ?_,fun k=> ?_⟩
 .have:=out k hk
  rw[gn,aW (fun e=>this (.inl (by rw[e];exact hx))),aW (fun e=>this (.inr (by rw[e];exact hy)))]
 rw[mt k,wk,gc i hi,lA c1]
 constructor
 .rintro⟨q,r⟩;exact⟨q,by rw[gc k q,r,lA c1]⟩
 rintro⟨q,r⟩
 refine⟨q,?_⟩
 rw[gc k q]at r
 by_cases c2:cr cl k=x\/cr cl k=y
 .rw[kX c2]at r;exact absurd (by rw[<-r];exact yd x y) c1
 rw[lA c2]at r;exact r
end
inductive jU
 |add (n:Nat)
 |set (i:Nat) (was:BitVec 64)
def S0(W:List (BitVec 64)):jU->List (BitVec 64)
 | .add n=>W.take n
 | .set i was=>W.set i was
def Zv(W:List (BitVec 64))(us:List jU):List (BitVec 64):=us.foldr (fun u w=>S0 w u) W
def jI(W:List (BitVec 64))(us:List jU)(t:Nat):List (BitVec 64):=Zv W (us.drop t)
def okR:Nat->List jU->Prop
 |_,[]=>True
 |L,.add n::r=>n<=L/\okR n r
 |L,.set i _::r=>i<L/\okR L r
def Nj(L:Nat)(us:List jU):Prop:=okR L us.reverse
section
variable{W:List (BitVec 64)}{us:List jU}{u:jU}{t k:Nat}
theorem D5:jI W us us.length=W:=by simp[jI,Zv]
theorem FK(h:t<=us.length):jI W (us++[u]) t=jI (S0 W u) us t:=by grind[jI,Zv]
theorem Nk(h:t<=us.length):(us++[u]).take t=us.take t:=by grind
theorem Nl(h:k<us.length):jI W us k=S0 (jI W us (k+1)) us[k]:=by
 rw[jI,jI,Rr h];rfl
theorem tR:Nj W.length (us++[u])↔(match u with| .add n=>n<=W.length/\Nj n us| .set i _=>i<W.length/\Nj W.length us):=by
 unfold Nj;rw[List.reverse_append];cases u<;>exact Cm
theorem ah9(h:Nj W.length (us++[u])):Nj (S0 W u).length us:=by grind[Nj,S0,tR]
end
def IY(W:List (BitVec 64))(us:List jU)(i:Nat)(b:BitVec 64):List jU:=if W.getD i 0=b then us else us++[.set i (W.getD i 0)]
theorem Nn{W:List (BitVec 64)}{i:Nat}{b:BitVec 64}(h:W.getD i 0=b):W.set i b=W:=by
 apply Yg aJ
 intro j h1 h2
 rw[zO]
 split
 .rename_i e;subst e
  rw[<-h,eV,eF h2];rfl
 rfl
theorem aia{W:List (BitVec 64)}{us:List jU}{i t:Nat}{b:BitVec 64}(hi:i<W.length)(h:t<=us.length):jI (W.set i b) (IY W us i b) t=jI W us t/\(IY W us i b).take t=us.take t/\t<=(IY W us i b).length:=by
 unfold IY
 split
 .rename_i e;rw[Nn e];exact⟨rfl,rfl,h⟩
 refine⟨?_,Nk h,by rw[ed];omega⟩
 rw[FK h]
 congr 1
 show(W.set i b).set i (W.getD i 0)=W
 rw[List.set_set];exact Nn O
theorem anb{W:List (BitVec 64)}{us:List jU}{i:Nat}{b:BitVec 64}(hi:i<W.length)(h:Nj W.length us):Nj (W.set i b).length (IY W us i b):=by grind[IY,tR]
def Gi(d:qN):List (BitVec 64):=[BitVec.ofNat 64 d.up,BitVec.ofNat 64 d.size,BitVec.ofNat 64 d.next,BitVec.ofNat 64 d.least]
def bE(nd:List qN):List (BitVec 64):=nd.flatMap Gi
theorem iF(nd:List qN):(bE nd).length=4*nd.length:=by
 induction nd with
 |nil=>rfl
 |cons d l ih=>show(Gi d++bE l).length=_;rw[ed,ih,eG];show 4+_=_;omega
theorem qF(nd:List qN)(d:qN):bE (nd++[d])=bE nd++Gi d:=by simp[bE]
theorem Ar(nd:List qN){i k:Nat}(hi:i<nd.length)(hk:k<4):(bE nd).getD (4*i+k) 0=(Gi (nd.getD i FJ)).getD k 0:=by
 induction nd generalizing i with
 |nil=>cases hi
 |cons d l ih=>
  show(Gi d++bE l).getD _ _=_
  cases i with
  |zero=>
   rw[eV,zL (by show _<4;omega),<-eV]
   simp
  |succ i=>
   rw[eV,E9 (by show 4<=_;omega),show 4*(i+1)+k-(Gi d).length=4*i+k by show 4*(i+1)+k-4=_;omega,<-eV,ih z6]
   rfl
theorem Au(nd:List qN){i k:Nat}{b:BitVec 64}{d':qN}(hi:i<nd.length)(hk:k<4)(h:(Gi (nd.getD i FJ)).set k b=Gi d'):(bE nd).set (4*i+k) b=bE (nd.set i d'):=by
 induction nd generalizing i with
 |nil=>cases hi
 |cons d l ih=>
  cases i with
  |zero=>
   show(Gi d++bE l).set _ _=Gi d'++bE l
   rw[List.set_append_left _ _ (by show _<4;omega),<-h]
   simp
  |succ i=>
   show(Gi d++bE l).set _ _=Gi d++bE (l.set i d')
   rw[List.set_append_right _ _ (by show 4<=_;omega),show 4*(i+1)+k-(Gi d).length=4*i+k by show 4*(i+1)+k-4=_;omega,ih z6 yc]
def leads(cl:List Nat):Nat:=((List.range cl.length).filter fun i=>cr cl i==i).length
def Eg(cl:List Nat):List Nat:=cl.foldl (fun m c=>if c∈m then m else m++[c]) []
theorem K7{l m:List Nat}(hn:l.Nodup)(h:∀x∈l,x∈m):l.length<=m.length:=by
 induction l generalizing m with
 |nil=>simp
 |cons a l ih=>
  have ha:=h a aJ
  have Qq:=ow.1 hn
  have:=ih (m:=m.erase a) Qq.2 fun x hx=>by
   refine(List.mem_erase_of_ne (fun e=>Qq.1 (by rw[<-e];exact hx))).2 (h x (gd _ hx))
  rw[XP ha]at this
  have:=Rt ha
  rw[eG];omega
theorem VB{l m:List Nat}(hn:l.Nodup)(hm:m.Nodup)(h:∀x,x∈l↔x∈m):l.length=m.length:=
 Nat.le_antisymm (K7 hn fun x=>(h x).1) (K7 hm fun x=>(h x).2)
theorem aib(cl:List Nat):(Eg cl).Nodup/\∀x,x∈Eg cl↔x∈cl:=by
 have key:∀r:List Nat,(Eg r.reverse).Nodup/\∀x,x∈Eg r.reverse↔x∈r.reverse:=by
  intro r
  induction r with
  |nil=>exact⟨List.nodup_nil,fun x=>Cm⟩
  |cons c r ih=>
   rw[List.reverse_cons]
   have e:Eg (r.reverse++[c])=if c∈Eg r.reverse then Eg r.reverse else Eg r.reverse++[c]:=by unfold Eg;rw[xT];rfl
   rw[e]
   split
   .rename_i h
    refine⟨ih.1,fun x=> ?_⟩
    rw[ih.2,fh,gG]
    constructor
    .exact fun q=> .inl q
    rintro(q|rfl)
    .exact q
    exact(ih.2 _).1 h
   rename_i h
   refine⟨?_,fun x=>by rw[fh,fh,ih.2]⟩
   rw[List.nodup_append]
   exact⟨ih.1,aJ,fun a ha b hb e=>h (by rw[<-gG.1 hb,<-e];exact ha)⟩
 have:=key cl.reverse
 rwa[List.reverse_reverse]at this
section
variable{nd:List qN}{cl:List Nat}{a b:Nat}
theorem aic(h:Fo nd cl)(x:Nat):x∈cl↔x<cl.length/\cr cl x=x:=by
 constructor
 .intro hx
  obtain⟨k,hk,e⟩:=ur hx
  have e2:cr cl k=x:=by unfold cr;rw[eV,eF hk];exact e
  have:=h.lc k (by rw[<-h.len];exact hk)
  rw[e2]at this
  exact⟨J,this.2⟩
 rintro⟨h1,h2⟩
 rw[<-h2];unfold cr
 rw[eV,eF h1];exact qD h1
theorem GR(cl:List Nat)(x:Nat):x∈((List.range cl.length).filter fun i=>cr cl i==i)↔x<cl.length/\cr cl x=x:=aJ
theorem FL(cl:List Nat):((List.range cl.length).filter fun i=>cr cl i==i).Nodup:=List.nodup_range.filter _
theorem VC(h:Fo nd cl):(Eg cl).length=leads cl:=by grind[Fo,Eg,leads,VB,aib,FL,GR,aic]
theorem Qr(h:Fo nd cl):leads (cl++[nd.length])=leads cl+1:=by
 rw[<-VC h.add,<-VC h]
 have e:Eg (cl++[nd.length])=if nd.length∈Eg cl then Eg cl else Eg cl++[nd.length]:=by unfold Eg;rw[xT];rfl
 rw[e,aW]
 .simp
 intro q
 have:=((aic h _).1 (((aib cl).2 _).1 q)).1
 have:=h.len;omega
theorem Zw(h:Fo nd cl)(ha:a<nd.length)(hb:b<nd.length)(hab:a≠b)(ua:sX nd a=a)(ub:sX nd b=b):leads (iH cl (cr cl a) (cr cl b))+1=leads cl:=by
 have hj:=h.join ha hb hab ua ub
 have hl:=h.len
 have hxy:cr cl a≠cr cl b:=fun e=>hab (h.one a b ha hb ua ub e)
 have clx:=h.lc a ha;have cly:=h.lc b hb
 generalize hx:cr cl a=x at*
 generalize hy:cr cl b=y at*
 have jl:(iH cl x y).length=cl.length:=by simp[iH]
 have e:((List.range cl.length).filter fun i=>cr cl i==i).length=(max x y::((List.range (iH cl x y).length).filter fun i=>cr (iH cl x y) i==i)).length:=by
  refine VB (FL cl) (ow.2 ⟨fun q=> ?_,FL _⟩) fun k=> ?_
  .have q2:=(GR _ _).1 q
   rw[Aq J]at q2
   have e:cr cl (max x y)=max x y:=by rcases(by omega:max x y=x\/max x y=y)with r|r<;>rw[r];exact clx.2;exact cly.2
   rw[e,kX J]at q2
   omega
  rw[GR,c8,GR,jl]
  constructor
  .rintro⟨k1,k2⟩
   by_cases c:k=max x y
   .exact .inl c
   refine .inr ⟨k1,?_⟩
   rw[Aq k1,k2]
   by_cases c1:k=x\/k=y
   .rw[kX c1];omega
   exact lA c1
  rintro(rfl|⟨k1,k2⟩)
  .rcases(by omega:max x y=x\/max x y=y)with r|r<;>rw[r]
   .exact⟨J,clx.2⟩
   exact⟨J,cly.2⟩
  refine⟨k1,?_⟩
  rw[Aq k1]at k2
  by_cases c1:cr cl k=x\/cr cl k=y
  .rw[kX c1]at k2
   rcases yd x y with r|r<;>rw[r]at k2<;>rw[<-k2]
   .exact clx.2
   exact cly.2
  rwa[lA c1]at k2
 unfold leads
 rw[e,eG]
theorem IZ{f:Nat->Nat}{i at_:Nat}{t out m:List Nat}(h:Ring f i t)(e:i::t=out++at_::m):(m=[]/\f at_=i)\/∃z m',m=z::m'/\f at_=z/\z≠i:=by
 have key:Wk f (f at_) m i:=by
  cases out with
  |nil=>simp only[eR,LG]at e;rw[<-e.1,<-e.2];exact h.1
  |cons o out=>
   simp only[gB,LG]at e
   have:=h.1;rw[e.2]at this
   exact(Wk.app.1 this).2
 cases m with
 |nil=>exact .inl ⟨rfl,key⟩
 |cons z m'=>
  refine .inr ⟨z,m',rfl,key.1,fun q=> ?_⟩
  have hn:=h.2
  cases out with
  |nil=>
   simp only[eR,LG]at e
   rw[e.2,q]at hn;exact(ow.1 hn).1 aJ
  |cons o out=>
   simp only[gB,LG]at e
   rw[e.2,q]at hn;exact(ow.1 hn).1 aJ
end
def GU(cl c2:List Nat):Prop:=(cl.length=c2.length+1/\leads cl=leads c2+1)\/(cl.length=c2.length/\leads cl+1=leads c2)
def Hs:List (BitVec 64)->List jU->List Nat->List (List Nat)->Prop
 |W,us,[],[cl]=>us=[]/\cl=[]/\W=[]
 |W,us,t::ts,cl::c2::cs=>(∃nd,W=bE nd/\Fo nd cl)/\t<=us.length/\GU cl c2/\Hs (jI W us t) (us.take t) ts (c2::cs)
 |_,_,_,_=>False
section
variable{W:List (BitVec 64)}{us:List jU}{t:Nat}{ts:List Nat}{cl c2:List Nat}{cs:List (List Nat)}{nd:List qN}
theorem Hs.ne(h:Hs W us ts []):False:=by cases ts<;>exact h
theorem Hs.now(h:Hs W us ts (cl::cs)):∃nd,W=bE nd/\Fo nd cl:=by
 cases ts with
 |nil=>
  cases cs with
  |nil=>obtain⟨_,rfl,rfl⟩:=h;exact⟨[],rfl,Fo.nil⟩
  |cons c cs=>exact h.elim
 |cons t ts=>
  cases cs with
  |nil=>exact h.elim
  |cons c cs=>exact h.1
theorem Hs.len(h:Hs W us ts cs):cs.length=ts.length+1:=by
 induction ts generalizing W us cs with
 |nil=>
  cases cs with
  |nil=>exact h.elim
  |cons c cs=>cases cs with
   |nil=>rfl
   |cons c2 cs=>exact h.elim
 |cons t ts ih=>
  cases cs with
  |nil=>exact h.elim
  |cons c cs=>cases cs with
   |nil=>exact h.elim
   |cons c2 cs=>have:=ih h.2.2.2;simp only[eG]at this⊢;omega
theorem Hs.start:Hs [] [] [] [[]]:=⟨rfl,rfl,rfl⟩
theorem Hs.more{W':List (BitVec 64)}{VD:List jU}{nd':List qN}{jX:List Nat}(h:Hs W us ts (cl::cs))(hw:W'=bE nd')(hf:Fo nd' jX)(hs:GU jX cl)(h1:jI W' VD us.length=W)(h2:VD.take us.length=us)(h3:us.length<=VD.length):Hs W' VD (us.length::ts) (jX::cl::cs):=
 ⟨⟨nd',hw,hf⟩,h3,hs,by rw[h1,h2];exact h⟩
theorem Hs.back(h:Hs W us (t::ts) (cl::c2::cs)):Hs (jI W us t) (us.take t) ts (c2::cs):=h.2.2.2
theorem Hs.le(h:Hs W us (t::ts) (cl::c2::cs)):t<=us.length:=h.2.1
theorem Hs.cnt(h:Hs W us (t::ts) (cl::c2::cs)):GU cl c2:=h.2.2.1
end
theorem VE{W:List (BitVec 64)}{us:List jU}(h:Nj W.length us){t:Nat}(ht:t<=us.length):Nj (jI W us t).length (us.take t):=by
 have key:∀d,∀t,t+d=us.length->Nj (jI W us t).length (us.take t):=by
  intro d
  induction d with
  |zero=>intro t e;rw[show t=us.length by omega,D5,HT];exact h
  |succ d ih=>
   intro t e
   have h2:=ih (t+1) J
   have ht:t<us.length:=J
   rw[xS,eF ht]at h2
   rw[Nl ht]
   exact ah9 h2
 exact key (us.length-t) t J
def Pe(us:List jU)(n:Nat):List jU:=us++[.add n]++[.add (n+1)]++[.add (n+2)]++[.add (n+3)]
theorem anc{W:List (BitVec 64)}{us:List jU}{a b c d:BitVec 64}:jI (W++[a]++[b]++[c]++[d]) (Pe us W.length) us.length=W/\(Pe us W.length).take us.length=us/\us.length<=(Pe us W.length).length:=by grind[Pe,FK,D5,S0]
theorem ane{W:List (BitVec 64)}{us:List jU}{a b c d:BitVec 64}(h:Nj W.length us):Nj (W++[a]++[b]++[c]++[d]).length (Pe us W.length):=by
 unfold Pe
 rw[tR];refine⟨aJ,?_⟩
 have e1:(W++[a]++[b]++[c]).length=W.length+3:=aJ
 have e2:(W++[a]++[b]).length=W.length+2:=aJ
 have e3:(W++[a]).length=W.length+1:=aJ
 rw[<-e1,tR];refine⟨aJ,?_⟩
 rw[<-e2,tR];refine⟨aJ,?_⟩
 rw[<-e3,tR];exact⟨aJ,h⟩
def fP(cl:List Nat)(i:Int):Int:=if 0<=i/\i<cl.length then(cr cl i.toNat:Int)else-1
def aEs(cs:List (List Nat))(cl:List Nat)(i j:Int):List (List Nat)×Bool:=
 if fP cl i<0\/fP cl j<0\/fP cl i=fP cl j then(cl::cs,false)else(iH cl (fP cl i).toNat (fP cl j).toNat::cl::cs,true)
theorem nj{cl:List Nat}{i:Int}(h:0<=i/\i<cl.length):fP cl i=(cr cl i.toNat:Int):=aY h
theorem I0{cl:List Nat}{i:Int}(h:¬(0<=i/\i<cl.length)):fP cl i= -1:=aW h
theorem S1{nd:List qN}{cl:List Nat}(h:Fo nd cl){i k:Nat}(hi:i<nd.length)(hc:cr cl i=cr cl k):sX nd i<nd.length/\cr cl (sX nd i)=cr cl k/\(sX nd i≠i->nd.length-kS nd (sX nd i)<nd.length-kS nd i):=by grind[qN,Fo,cr,sX,kS]
theorem Qs{nd:List qN}{cl:List Nat}(h:Fo nd cl){i j a b:Nat}(ha:a<nd.length)(hb:b<nd.length)(ua:sX nd a=a)(ub:sX nd b=b)(ca:cr cl a=cr cl i)(cb:cr cl b=cr cl j):a=b↔cr cl i=cr cl j:=by grind[qN,Fo,sX,cr]
def Av(cl:List Nat)(i:Nat):List Nat:=(List.range cl.length).filter fun k=>cr cl i==cr cl k
theorem Qt{cl:List Nat}{i k:Nat}:k∈Av cl i↔k<cl.length/\cr cl k=cr cl i:=by grind[Av]
theorem aed{l m:List Int}(hl:l.Pairwise (· <·))(hm:m.Pairwise (· <·))(h:∀x,x∈l↔x∈m):l=m:=by
 induction l generalizing m with
 |nil=>cases m with
  |nil=>rfl
  |cons b m=>have:=(h b).2 aJ;cases this
 |cons a l ih=>
  cases m with
  |nil=>have:=(h a).1 aJ;cases this
  |cons b m=>
   have pa:=lY.1 hl;have pb:=lY.1 hm
   have hab:a=b:=by
    rcases c8.1 ((h a).1 aJ)with q|q
    .exact q
    rcases c8.1 ((h b).2 aJ)with r|r
    .exact r.symm
    have:=pb.1 a q;have:=pa.1 b r;omega
   subst hab
   congr 1
   refine ih pa.2 pb.2 fun x=> ?_
   have:=h x
   simp only[c8]at this
   constructor
   .intro q
    rcases this.1 (.inr q)with r|r
    .have:=pa.1 x q;omega
    exact r
   intro q
   rcases this.2 (.inr q)with r|r
   .have:=pb.1 x q;omega
   exact r
theorem S2{nd:List qN}{cl:List Nat}(h:Fo nd cl){i:Nat}(hi:i<nd.length){t:List Nat}(ht:Ring (tQ nd) i t)(hm:∀k,k∈i::t↔k<nd.length/\cr cl k=cr cl i){zs:List Int}(hp:zs.Perm ((i::t).map Int.ofNat))(hs:zs.Pairwise (· <=·)):zs=(Av cl i).map Int.ofNat:=by
 have hn:((i::t).map Int.ofNat).Nodup:=by
  unfold List.Nodup
  rw[HS]
  exact ht.2.imp fun q e=>q (by exact Int.ofNat.inj e)
 refine aed ?_ ?_ fun x=> ?_
 .have hz:zs.Nodup:=hp.nodup_iff.2 hn
  have:=List.Pairwise.and hs hz
  exact this.imp fun q=>by omega
 .unfold Av
  rw[HS]
  exact(XU.filter _).imp fun q=>by simpa using q
 rw[hp.mem_iff,fN,fN]
 constructor
 .rintro⟨k,hk,rfl⟩;exact⟨k,Qt.2 (by rw[h.len];exact(hm k).1 hk),rfl⟩
 rintro⟨k,hk,rfl⟩;exact⟨k,(hm k).2 (by rw[<-h.len];exact Qt.1 hk),rfl⟩
structure mK(W:List (BitVec 64))(us:List jU)(W':List (BitVec 64))(VD:List jU):Prop where
 le:us.length<=VD.length
 und:∀t,t<=us.length->jI W' VD t=jI W us t/\VD.take t=us.take t
 ok:Nj W.length us->Nj W'.length VD
section
variable{W W' W2:List (BitVec 64)}{us VD us2:List jU}{i:Nat}{b:BitVec 64}
theorem mK.refl:mK W us W us:=by grind[mK]
theorem mK.trans(h:mK W us W' VD)(h2:mK W' VD W2 us2):mK W us W2 us2:=
 ⟨kf h.le h2.le,fun t ht=>by
  have a:=h.und t ht;have c:=h2.und t (kf ht h.le)
  exact⟨c.1.trans a.1,c.2.trans a.2⟩,fun q=>h2.ok (h.ok q)⟩
theorem mK.set(hi:i<W.length):mK W us (W.set i b) (IY W us i b):=by grind[mK,IY,aia,anb]
theorem mK.add:mK W us (W++[b]) (us++[.add W.length]):=
 ⟨aJ,fun t ht=>⟨by rw[FK ht];show jI ((W++[b]).take W.length) us t=_;rw[vC],Nk ht⟩,fun h=>by rw[tR];exact⟨aJ,h⟩⟩
theorem mK.back(h:mK W us W' VD):jI W' VD us.length=W/\VD.take us.length=us:=by grind[mK,jI,D5]
end
def kO(nd:List qN)(i x:Nat):List qN:=nd.set i {nd.getD i FJ with up:=x}
def nT(nd:List qN)(i x:Nat):List qN:=nd.set i {nd.getD i FJ with size:=x}
def wm(nd:List qN)(i x:Nat):List qN:=nd.set i {nd.getD i FJ with next:=x}
def r6(nd:List qN)(i x:Nat):List qN:=nd.set i {nd.getD i FJ with least:=x}
section
variable{nd:List qN}{cl:List Nat}{i x a b:Nat}
theorem axm(h:i<nd.length):(bE nd).set (4*i+0) (BitVec.ofNat 64 x)=bE (kO nd i x):=Au nd h J O
theorem axn(h:i<nd.length):(bE nd).set (4*i+1) (BitVec.ofNat 64 x)=bE (nT nd i x):=Au nd h J O
theorem axo(h:i<nd.length):(bE nd).set (4*i+2) (BitVec.ofNat 64 x)=bE (wm nd i x):=Au nd h J O
theorem axp(h:i<nd.length):(bE nd).set (4*i+3) (BitVec.ofNat 64 x)=bE (r6 nd i x):=Au nd h J O
theorem axq(h:i<nd.length):(bE nd).getD (4*i+0) 0=BitVec.ofNat 64 (sX nd i):=Ar nd h J
theorem axr(h:i<nd.length):(bE nd).getD (4*i+1) 0=BitVec.ofNat 64 (kS nd i):=Ar nd h J
theorem apK(h:i<nd.length):(bE nd).getD (4*i+2) 0=BitVec.ofNat 64 (tQ nd i):=Ar nd h J
theorem apL(h:i<nd.length):(bE nd).getD (4*i+3) 0=BitVec.ofNat 64 (rf nd i):=Ar nd h J
theorem Qu{n:Nat}(h:n<9223372036854775808):(BitVec.ofNat 64 n).toInt=(n:Int):=by grind[BitVec.toInt_eq_toNat_cond,BitVec.toNat_ofNat,Nat.mod_eq_of_lt]
theorem D6(n:Nat):BitVec.ofInt 64 (n:Int)=BitVec.ofNat 64 n:=aJ
theorem asB{l m:List qN}(hl:l.length=m.length)(h:∀i,i<l.length->l.getD i FJ=m.getD i FJ):l=m:=by grind[List.ext_getElem,List.getElem?_eq_getElem]
theorem aid(ha:a<nd.length)(hb:b<nd.length)(hab:a≠b):wm (wm (r6 (nT (kO nd b a) a (kS nd a+kS nd b)) a (min (rf nd a) (rf nd b))) a (tQ nd b)) b (tQ nd a)=pU nd a b:=by
 have hba:¬b=a:=fun e=>hab e.symm
 refine asB (by simp[wm,r6,nT,kO,pU]) fun i hi=> ?_
 have hi':i<nd.length:=by simpa[wm,r6,nT,kO]using hi
 unfold wm r6 nT kO pU
 simp only[lz,n8,ha,hb,and_true]
 by_cases h1:i=a
 .subst h1;simp[hab,sX]
 by_cases h2:i=b
 .subst h2;simp[h1,hba,kS,rf]
 simp[h1,h2]
theorem Zx(cl:List Nat)(x y:Nat):iH cl x y=iH cl y x:=by grind[iH,List.map_congr_left,IX]
theorem Fo.szb(h:Fo nd cl)(hi:i<nd.length):sX nd i<nd.length/\kS nd i<=nd.length/\∃t,Ring (tQ nd) i t/\tQ nd i<nd.length:=by
 refine⟨h.up i hi,h.sn i hi,?_⟩
 obtain⟨t,ht,hm⟩:=h.ring i hi
 refine⟨t,ht,?_⟩
 have h1:=ht.1
 cases t with
 |nil=>have:tQ nd i=i:=h1;omega
 |cons z t=>have:tQ nd i=z:=h1.1;rw[this];exact((hm z).1 aJ).1
theorem Fo.anf(h:Fo nd cl):∀d i,i<nd.length->nd.length-kS nd i<=d->∃r,r<nd.length/\sX nd r=r/\cr cl r=cr cl i:=by
 intro d
 induction d with
 |zero=>
  intro i hi hd
  refine⟨i,hi,Lp fun q=> ?_,rfl⟩
  have:=h.sz i hi q;have:=h.sn _ (h.up i hi);omega
 |succ d ih=>
  intro i hi hd
  by_cases q:sX nd i=i
  .exact⟨i,hi,q,rfl⟩
  have h1:=h.sz i hi q;have h2:=h.sn _ (h.up i hi)
  obtain⟨r,r1,r2,r3⟩:=ih (sX nd i) (h.up i hi) J
  exact⟨r,r1,r2,r3.trans (h.uc i hi)⟩
open Classical in
noncomputable def ph(nd:List qN)(cl:List Nat)(i:Nat):Nat:=if h:∃r,r<nd.length/\sX nd r=r/\cr cl r=cr cl i then h.choose else 0
theorem pP(h:Fo nd cl)(hi:i<nd.length):ph nd cl i<nd.length/\sX nd (ph nd cl i)=ph nd cl i/\cr cl (ph nd cl i)=cr cl i:=by
 have he:=h.anf _ i hi (eu _)
 rw[ph,dif_pos he];exact he.choose_spec
theorem aie(h:Fo nd cl)(hi:i<nd.length){r:Nat}(h1:r<nd.length)(h2:sX nd r=r)(h3:cr cl r=cr cl i):r=ph nd cl i:=by
 obtain⟨a,b,c⟩:=pP h hi
 exact h.one _ _ h1 a h2 b (h3.trans c.symm)
theorem ang(h:Fo nd cl){j:Int}(h0:0<=j)(h1:j<nd.length):(rf nd (ph nd cl j.toNat):Int)=fP cl j:=by grind[Fo,rf,ph,fP,pP,nj]
theorem aee(h:Fo nd cl){j:Int}(h0:¬(0<=j/\j<nd.length)):(-1:Int)=fP cl j:=by grind[Fo,fP,I0]
theorem S3(h:Fo nd cl)(hn:nd.length<=1000000){j:Nat}(hj:j<nd.length)(k:Int)(v:Nat)(hk:0<=k/\k<4)(hv:(bE nd).getD (4*j+k.toNat) 0=BitVec.ofNat 64 v)(hs:v<=nd.length):((bE nd).getD (4*(j:Int)+k).toNat 0).toInt=(v:Int):=by grind[Qu]
theorem anh(h:Fo nd cl)(hn:nd.length<=1000000){j:Nat}(hj:j<nd.length):((bE nd).getD (4*(j:Int)+0).toNat 0).toInt=(sX nd j:Int):=
 S3 h hn hj 0 _ ⟨J,J⟩ (axq hj) (by have:=h.up j hj;omega)
theorem abM(h:Fo nd cl)(hn:nd.length<=1000000){j:Nat}(hj:j<nd.length):((bE nd).getD (4*(j:Int)+2).toNat 0).toInt=(tQ nd j:Int):=
 S3 h hn hj 2 _ ⟨J,J⟩ (apK hj) (by obtain⟨_,_,t,_,q⟩:=h.szb hj;omega)
theorem ani(h:Fo nd cl)(hn:nd.length<=1000000){j:Nat}(hj:j<nd.length)(hu:sX nd j=j):((bE nd).getD (4*(j:Int)+3).toNat 0).toInt=(rf nd j:Int):=
 S3 h hn hj 3 _ ⟨J,J⟩ (apL hj) (by rw[h.le j hj hu];have:=(h.lc j hj).1;omega)
theorem aef(h:Fo nd cl)(hn:nd.length<=1000000){j:Int}(h0:0<=j/\j<nd.length):((bE nd).getD (4*((ph nd cl j.toNat:Nat):Int)+3).toNat 0).toInt=fP cl j:=by grind[pP,ani,ang]
theorem VF{n:Nat}{l:List Nat}(hd:l.Nodup)(h:∀k∈l,k<n):l.length<=n:=by
 have:=K7 hd (m:=List.range n) fun x hx=>ou.2 (h x hx)
 rwa[RD]at this
theorem Aw{t o m:List Nat}{i:Int}{a:Nat}(ht:Ring (tQ nd) i.toNat t)(hmt:∀k,k∈i.toNat::t↔k<nd.length/\cr cl k=cr cl i.toNat)(he:i.toNat::t=o++a::m)(hne:tQ nd a≠i.toNat):
 i.toNat::t=(o++[a])++tQ nd a::m.tail/\tQ nd a<nd.length/\(o++[a]).length+1<=(i.toNat::t).length/\m.tail.length<m.length:=by grind[IZ,tQ]
def bP(cl:List Nat)(i:Int):List Int:=if 0<=i/\i<cl.length then(Av cl i.toNat).map Int.ofNat else[]
theorem Qv(h:Fo nd cl){i:Int}(hi:¬(0<=i/\i<nd.length)):bP cl i=[]:=by grind[Fo,bP]
theorem No(h:Fo nd cl){i:Int}(hi:0<=i/\i<nd.length){t o m:List Nat}{a:Nat}(ht:Ring (tQ nd) i.toNat t)(hmt:∀k,k∈i.toNat::t↔k<nd.length/\cr cl k=cr cl i.toNat)(he:i.toNat::t=o++a::m)(hx:tQ nd a=i.toNat):
  (((o++[a]).map Int.ofNat).mergeSort fun x y=>decide (x<=y))=bP cl i:=by
 have hm:m=[]:=by
  rcases IZ ht he with⟨q,_⟩|⟨z,m',_,q,q2⟩
  .exact q
  exact absurd (q.symm.trans hx) q2
 subst hm
 rw[bP,aY (by have:=h.len;omega)]
 refine S2 h J ht hmt ?_ ?_
 .rw[he];exact List.mergeSort_perm _ _
 have:=List.pairwise_mergeSort (le:=fun x y:Int=>decide (x<=y)) (fun a b c h1 h2=>by simp at*;omega) (fun a b=>by simp;omega) ((o++[a]).map Int.ofNat)
 exact this.imp fun q=>by simpa using q
end
theorem VG{nd:List qN}{i x j:Nat}:kS (kO nd i x) j=kS nd j:=by grind[kS,kO,lz]
theorem VH{nd:List qN}{i x j:Nat}:tQ (kO nd i x) j=tQ nd j:=by grind[tQ,kO,lz]
theorem VI{nd:List qN}{i x j:Nat}:rf (kO nd i x) j=rf nd j:=by grind[rf,kO,lz]
theorem VJ{nd:List qN}{i x j:Nat}:tQ (nT nd i x) j=tQ nd j:=by grind[tQ,nT,lz]
theorem VK{nd:List qN}{i x j:Nat}:rf (nT nd i x) j=rf nd j:=by grind[rf,nT,lz]
theorem VL{nd:List qN}{i x j:Nat}:tQ (r6 nd i x) j=tQ nd j:=by grind[tQ,r6,lz]
theorem S4{nd:List qN}{j:Nat}{k:Int}{v:Nat}(hk:0<=k/\k<4)(hv:(bE nd).getD (4*j+k.toNat) 0=BitVec.ofNat 64 v)(hs:v<=1000000):((bE nd).getD (4*(j:Int)+k).toNat 0).toInt=(v:Int):=by grind[Qu]
theorem aih{nd:List qN}{i x:Nat}(h:i<nd.length):(bE nd).set (4*(i:Int)+0).toNat (BitVec.ofInt 64 (x:Int))=bE (kO nd i x):=by
 rw[show(4*(i:Int)+0).toNat=4*i+0 by omega,D6];exact axm h
theorem aii{nd:List qN}{i x:Nat}(h:i<nd.length):(bE nd).set (4*(i:Int)+1).toNat (BitVec.ofInt 64 (x:Int))=bE (nT nd i x):=by
 rw[show(4*(i:Int)+1).toNat=4*i+1 by omega,D6];exact axn h
theorem S5{nd:List qN}{i x:Nat}(h:i<nd.length):(bE nd).set (4*(i:Int)+2).toNat (BitVec.ofInt 64 (x:Int))=bE (wm nd i x):=by
 rw[show(4*(i:Int)+2).toNat=4*i+2 by omega,D6];exact axo h
theorem aij{nd:List qN}{i x:Nat}(h:i<nd.length):(bE nd).set (4*(i:Int)+3).toNat (BitVec.ofInt 64 (x:Int))=bE (r6 nd i x):=by
 rw[show(4*(i:Int)+3).toNat=4*i+3 by omega,D6];exact axp h
end
end Go.Proofs.YtlhjdflgjbkpmaaGreatDoor.M
namespace Go.Proofs.YtlhjdflgjbkpmaaGreatDoor.E
section
open Go Go.RowKit Go.Proofs.YtlhjdflgjbkpmaaGreatDoor.M
def VM(c:Option (Nat×Array Value))(v:Value)(e:TypeId)(sz n:Nat)(xs:List Value):bu:=
 match c with
 |none=> .row v e sz n xs
 |some (b,cur)=> .blk b (.cells cur e (0,0))
def cOk(c:Option (Nat×Array Value))(v:Value)(sz n:Nat)(xs:List Value):Prop:=
 match c with
 |none=>True
 |some (b,cur)=>v= .slice (some ⟨b,0,none⟩) n n/\xs.length=n*sz/\cur.toList.take (n*sz)=xs/\n<=maxLen
section
variable{w0 w:World}{L:List bu}{c:Option (Nat×Array Value)}{v:Value}{e:TypeId}{sz n m i:Nat}{xs:List Value}
theorem Hp.xx{x x':bu}(h:Hp w0 w L)(hi:L[i]?=some x)(hf:x'.sK=x.sK)(hok:x'.ok w0.heap.size w):Hp w0 w (L.set i x'):=
 ⟨h.below,fun y hy=>(List.mem_or_eq_of_mem_set hy).elim (h.ok y) fun q=>q▸hok,Cz hi hf h.L8⟩
theorem Hp.slC(h:Hp w0 w L)(hi:L[i]?=some (VM c v e sz n xs))(hk:cOk c v sz n xs):Sl w v sz n xs:=by
 cases c with
 |none=>exact h.sl hi
 |some bc=>
  obtain⟨b,cur⟩:=bc
  obtain⟨rfl,h2,h3,h4⟩:=hk
  refine⟨⟨_,n,rfl,eu _,fun _=>rfl⟩,h2,fun j u hu=> ?_,h4⟩
  simp only[sb,so,gQ]
  rw[xX w _ _ cur e (0,0) (h.blk hi)]
  rw[<-h3,vx]at hu
  split at hu
  .simpa using hu
  .cases hu
theorem Hp.aEu(h:Hp w0 w L)(hi:L[i]?=some (VM c v e sz n xs))(hk:cOk c v sz n xs)(hm:m<=n):∃c',cOk c' (tO v m) sz m (xs.take (m*sz))/\Hp w0 w (L.set i (VM c' (tO v m) e sz m (xs.take (m*sz)))):=by
 have hle:m*sz<=n*sz:=sr _ hm
 cases c with
 |none=>
  have hr:w.ownsRow w0.heap.size e sz v n xs:=h.get hi
  obtain⟨h1,h2⟩:=hr
  rcases h2 with⟨rfl,rfl⟩|⟨gb,cap,cur,rfl,hb,hg,hn,hc,hs,ht⟩
  .have:m=0:=J
   subst this
   refine⟨none,trivial,h.xx hi O ?_⟩
   exact⟨aJ,.inl ⟨rfl,rfl⟩⟩
  refine⟨some (gb,cur),⟨rfl,?_,?_,J⟩,h.xx hi O ⟨hb,hg⟩⟩
  .rw[ef,h1];omega
  rw[<-ht,Ce];congr 1;omega
 |some bc=>
  obtain⟨b,cur⟩:=bc
  obtain⟨rfl,h2,h3,h4⟩:=hk
  refine⟨some (b,cur),⟨rfl,?_,?_,J⟩,h.xx hi O (h.get hi)⟩
  .rw[ef,h2];omega
  rw[<-h3,Ce];congr 1;omega
variable{P:Program}{σ:Env}{ty t:TypeId}{pos:String}{bO:Array Edge}{dst:Option Tmp}{g:Option (Nat×Bool)}{x y:Operand}{u:Value}{o:Nat}
theorem anj(h:Hp w0 w L)(hi:L[i]?=some (VM c v e sz n xs))(hk:cOk c v sz n xs)(hn:0<n)(hx:ev σ x= .pointer (some ⟨sb v,so v+o,none⟩))(hy:ev σ y=u)(hv:u.cells=#[u])(h1:u.oneCell'=true)(hs:(P.info? t).map (·.size)=some 1)(ho:o+1<=n*sz):
  ∃c' w',(execOp (ev σ) ⟨dst,.store t x y,ty,pos,bO,g⟩).run P w= .ok .skip w'/\cOk c' v sz n (qX xs o [u])/\Hp w0 w' (L.set i (VM c' v e sz n (qX xs o [u]))):=by
 cases c with
 |none=>
  obtain⟨w',hr,h2⟩:=GQ (dst:=dst) (ty:=ty) (pos:=pos) (bO:=bO) (g:=g) h hi hn hx hy hv h1 hs ho
  exact⟨none,w',hr,trivial,h2⟩
 |some bc=>
  obtain⟨b,cur⟩:=bc
  obtain⟨rfl,h2,h3,h4⟩:=hk
  have hl:n*sz<=cur.size:=by
   have:=aK List.length h3
   rw[ef,h2,E8]at this;omega
  have hx':ev σ x= .pointer (some ⟨b,o,none⟩):=by rw[hx];simp only[sb,so,gQ]
  have hr:=bK (P:=P) (dst:=dst) (ty:=ty) (pos:=pos) (bO:=bO) (g:=g) hs hx' hy hv h1 (h.blk hi) J
  have e1:(cur.setIfInBounds o u).toList=cur.toList.take o++[u]++cur.toList.drop (o+1):=by
   simp[XL,show o<cur.size by omega]
  refine⟨some (b,cur.setIfInBounds o u),_,hr,⟨rfl,?_,?_,h4⟩,h.set hi⟩
  .rw[qX];simp only[ed,ef,yK,ey,h2];omega
  rw[e1,show cur.toList.take o++[u]++cur.toList.drop (o+1)=cur.toList.take o++[u]++cur.toList.drop (o+[u].length)from O,GN (by simpa using ho) Sj,h3]
theorem VN{ie:TypeInfo}{z:Value}{size bytes:Nat}{m':Nat}{news:List Value}{ats:TypeId}(h:Hp w0 w L)(hi:L[i]?=some (VM c v e size n xs))(hk:cOk c v size n xs)(hS:Sl w u size m' news)
  (hx:ev σ x=v) (hy:ev σ y=u) (ht:P.underlying t=some (.slice e)) (hie:P.info? e=some ie) (hz:ie.zero=some z)
  (hsize:ie.size=size) (hby:ie.bytes=bytes) (hzs:z.cells.size=size) (hsz:0<size) (h1:∀u∈news,u.oneCell'=true) (hm:0<m')
  (hbytes:(n+m')*bytes<=140737488355328) (h63:n+m'<=maxLen):
  ∃v' w',(execOp (ev σ) ⟨dst,.call {callee:= .builtin .append,args:=#[x,y],argTypes:=#[t,t]},ty,pos,bO,g⟩).run P w= .ok (.value v') w'/\Hp w0 w' (L.set i (.row v' e size (n+m') (xs++news))):=by
 cases c with
 |none=>
  obtain⟨v',w',hr,h2,h3,h4⟩:=tB (P:=P) (ty:=ty) ht hie hz hsize hby hzs hsz (h.get hi) hS h1 h63 hbytes h.size
  exact⟨v',w',th hx hy hr,h.yN hi h2 h3 h4⟩
 |some bc=>
  have hX:=h.slC hi hk
  have hsh:∃a,v= .slice a n n:=by
   obtain⟨b,cur⟩:=bc
   exact⟨_,hk.1⟩
  obtain⟨v',w',hr,h2,h3⟩:=Nh (P:=P) (base:=0) (ty:=ty) ht hie hz hsize hby hzs hsh hX hS hm h63 hbytes
  exact⟨v',w',th hx hy hr,(h.DO h3 h2).swap (n7.1 hi).1⟩
end
section
variable{P:Program}{σ:Env}{w:World}{t te ty u:TypeId}{pos:String}{bO:Array Edge}{dst:Option Tmp}{g:Option (Nat×Bool)}{x y:Operand}{a:Addr}
theorem FM(d:Nat)(ht:P.underlying t=some (.pointer te)):(Op.equalIn (d+1) t (.pointer (some a)) (.pointer none)).run P w= .ok false w:=by
 simp[Op.equalIn,kP ht]
theorem Zy(d:Nat)(ht:P.underlying t=some (.pointer te)):(Op.equalIn (d+1) t (.pointer none) (.pointer none)).run P w= .ok true w:=by
 simp[Op.equalIn,kP ht]
theorem k9(ht:P.underlying t=some (.pointer te))(hx:ev σ x= .pointer (some a))(hy:ev σ y= .pointer none):
  (execOp (ev σ) ⟨dst,.binOp .eql t x y u,ty,pos,bO,g⟩).run P w= .ok (.value (.bool false)) w:=by
 have h:(binOp .eql t (.pointer (some a)) (.pointer none)).run P w= .ok (.bool false) w:=by
  simp only[binOp];simp[Op.equal,Op.maxDepth,FM 9999 ht]
 have he:(eqGuard .eql t x y (.pointer (some a)) (.pointer none))=pure ():=rfl
 simp only[execOp,hx,hy,he];simp[h]
end
theorem Sl.atU{w:World}{v:Value}{W:List (BitVec 64)}(h:Sl w v 1 W.length (W.map U)){i:Int}(h0:0<=i)(h1:i<W.length):w.cell? ⟨sb v,so v+i.toNat*1,none⟩=some (U (W.getD i.toNat 0)):=by
 refine h.cell _ _ ?_
 rw[l9,qC,eF J,eV,eF J];rfl
def cE(c:Option (Nat×Array Value))(v:Value)(e:TypeId)(xs:List Value):bu:=VM c v e 1 xs.length xs
def cO(c:Option (Nat×Array Value))(v:Value)(xs:List Value):Prop:=cOk c v 1 xs.length xs
section
variable{P:Program}{n:Nat}{k:K}{l:List Oper}{σ:Env}{w0 w:World}{L L':List bu}{ty t e:TypeId}{pos:String}{bO:Array Edge}{d:Nat}{x y:Operand}{g:Option (Nat×Bool)}{v u:Value}{c:Option (Nat×Array Value)}{xs:List Value}{i m fuel j:Nat}{listed:Array Bool}{W:List (BitVec 64)}{y0:Value}
theorem Hp.BJ(h:Hp w0 w L)(hi:L[i]?=some (cE c v e xs))(hk:cO c v xs):Sl w v 1 xs.length xs:=h.slC hi hk
theorem GV{o:Nat}{b:BitVec 64}:(W.map U).set o (U b)=(W.set o b).map U:=List.map_set.symm
theorem Hp.aik{b:Nat}{o:Obj}(h:Hp w0 w L)(hm:bu.blk b o∈L):w.heap[b]?=some o:=(h.ok _ hm).2
theorem Hp.pD{b off:Nat}{cs:Array Value}{te:TypeId}{fr:Nat×Nat}(h:Hp w0 w L)(hm:bu.blk b (.cells cs te fr)∈L)(hc:cs[off]?=some v):w.cell? ⟨b,off,none⟩=some v:=by
 rw[xX w b off cs te fr (h.aik hm)];exact hc
theorem Hp.yY(h:Hp w0 w L)(hi:L[i]?=some (cE c v e (W.map U)))(hk:cO c v (W.map U)):Sl w v 1 W.length (W.map U):=by
 have:=h.BJ hi hk
 rwa[gA]at this
theorem Hp.asD(h:Hp w0 w L)(hi:L[i]?=some (cE c v e xs))(hk:cO c v xs)(hm:m<=xs.length):∃c',cO c' (tO v m) (xs.take m)/\Hp w0 w (L.set i (cE c' (tO v m) e (xs.take m))):=by
 obtain⟨c',h1,h2⟩:=h.aEu hi hk hm
 have e:(xs.take m).length=m:=by rw[ef];omega
 rw[l9]at h1 h2
 exact⟨c',by unfold cO;rw[e];exact h1,by unfold cE;rw[e];exact h2⟩
theorem CQ{o:Nat}(ho:o<xs.length):qX xs o [u]=xs.set o u:=by grind[qX,List.set_eq_take_append_cons_drop]
theorem ail(hj:l[j]?=some ⟨none,.store t x y,ty,pos,bO,g⟩)(hg:∀a,Is n σ a->Region.wanted ⟨none,.store t x y,ty,pos,bO,g⟩ (yielded l.toArray a.tmps)=true)(hH:Hp w0 w L)(hi:L[i]?=some (cE c v e xs))(hk:cO c v xs)(hsub:∀c' ys,L'.Sublist (L.set i (cE c' v e ys))){o:Nat}(ho:o<xs.length)
  (hx:ev σ x= .pointer (some ⟨sb v,so v+o*1,none⟩)) (hy:ev σ y=u) (hv:u.cells=#[u]) (h1:u.oneCell'=true) (hs:(P.info? t).map (·.size)=some 1)
  (hn:∀c' w',cO c' v (xs.set o u)->Hp w0 w' (L.set i (cE c' v e (xs.set o u)))->AN P n l (fun w=>Hp w0 w L') k fuel (listed.setIfInBounds j true) σ w'):AO P n l (fun w=>Hp w0 w L') k fuel listed σ w j:=by
 obtain⟨c',w',hr,h2,h3⟩:=anj (dst:=none) (ty:=ty) (pos:=pos) (bO:=bO) (g:=g) hH hi hk J (o:=o) (by rw[hx,l9]) hy hv h1 hs J
 rw[CQ ho]at h2 h3
 have e1:(xs.set o u).length=xs.length:=n8
 refine Iq hj hg hr ((show Hp w0 w' (L.set i (cE c' v e (xs.set o u)))by unfold cE;rw[e1];exact h3).sub (hsub _ _)) (hn c' w' (by unfold cO;rw[e1];exact h2) (by unfold cE;rw[e1];exact h3))
theorem CR{ie:TypeInfo}{z:Value}{bytes:Nat}(hi:l[j]?=some ⟨some d,.call {callee:= .builtin .append,args:=#[x,y],argTypes:=#[t,t]},ty,pos,bO,g⟩)
  (hg:∀a,Is n σ a->Region.wanted ⟨some d,.call {callee:= .builtin .append,args:=#[x,y],argTypes:=#[t,t]},ty,pos,bO,g⟩ (yielded l.toArray a.tmps)=true) (hd:Nat.blt d n=true) (hH:Hp w0 w L) (hL:L[i]?=some (cE c v e xs)) (hk:cO c v xs)
  (hs:∀v' ys,L'.Sublist (L.set i (cE none v' e ys))) (hS:Sl w u 1 1 [y0])
  (hx:ev σ x=v) (hy:ev σ y=u) (ht:P.underlying t=some (.slice e)) (hie:P.info? e=some ie) (hz:ie.zero=some z)
  (hsize:ie.size=1) (hby:ie.bytes=bytes) (hzs:z.cells.size=1) (h1:y0.oneCell'=true)
  (hbytes:(xs.length+1)*bytes<=140737488355328) (h63:xs.length+1<=maxLen)
  (hn:∀v' w',Hp w0 w' (L.set i (cE none v' e (xs++[y0])))->AN P n l (fun w=>Hp w0 w L') k fuel (listed.setIfInBounds j true) (me σ d v') w'):AO P n l (fun w=>Hp w0 w L') k fuel listed σ w j:=by
 obtain⟨v',w',hr,h2⟩:=VN (P:=P) (ty:=ty) (dst:=some d) (pos:=pos) (bO:=bO) (g:=g) (ats:=t) hH hL hk hS hx hy ht hie hz hsize hby hzs J (fun u hu=>by rw[gG.1 hu];exact h1) J hbytes h63
 have h3:Hp w0 w' (L.set i (cE none v' e (xs++[y0]))):=by unfold cE;rw[ed,ey];exact h2
 exact CB hi hg hd hr (h3.sub (hs _ _)) (hn v' w' h3)
end
theorem Qw{W:List (BitVec 64)}{b:BitVec 64}:W.map U++[U b]=(W++[b]).map U:=aJ
theorem vk{ul:List (Value×jU)}{x:Value}(u:jU):ul.map Prod.fst++[x]=(ul++[(x,u)]).map Prod.fst:=aJ
structure UT where
 fA:FuncId
 fS:FuncId
 tc:TypeId
 ti:TypeId
 tu:TypeId
 o:Nat
def pV(T:UT)(F:Nat)(L:List bu)(x:Value×jU):Prop:=
 match x.2 with
 | .add n=>∃b1 b2,x.1= .func (.func T.fA) #[] #[.pointer (some ⟨b1,0,none⟩),.pointer (some ⟨b2,0,none⟩)]/\bu.blk b1 (.cells #[.pointer (some ⟨F,T.o,none⟩)] T.tc (0,0))∈L/\bu.blk b2 (.cells #[I n] T.ti (0,0))∈L
 | .set i b=>∃b1 b2 b3,x.1= .func (.func T.fS) #[] #[.pointer (some ⟨b1,0,none⟩),.pointer (some ⟨b2,0,none⟩),.pointer (some ⟨b3,0,none⟩)]/\bu.blk b1 (.cells #[U b] T.tu (0,0))∈L/\bu.blk b2 (.cells #[.pointer (some ⟨F,T.o,none⟩)] T.tc (0,0))∈L/\bu.blk b3 (.cells #[I i] T.ti (0,0))∈L
theorem pV.mono{T:UT}{F:Nat}{L L':List bu}{x:Value×jU}(h:pV T F L x)(hs:∀e∈L,e∈L'):pV T F L' x:=by
 obtain⟨v,u⟩:=x
 cases u with
 |add n=>obtain⟨b1,b2,h1,h2,h3⟩:=h;exact⟨b1,b2,h1,hs _ h2,hs _ h3⟩
 |set i b=>obtain⟨b1,b2,b3,h1,h2,h3,h4⟩:=h;exact⟨b1,b2,b3,h1,hs _ h2,hs _ h3,hs _ h4⟩
theorem ank{ul:List (Value×jU)}{j k:Int}(h0:0<=j/\j<k)(h1:k<=ul.length):((ul.take k.toNat).map Prod.fst)[j.toNat*1]?=some ((ul.getD j.toNat (.tuple #[],.add 0)).1):=by grind
theorem aim{ul:List (Value×jU)}{k:Int}(h0:0<k)(h1:(k-1).toNat<ul.length):(ul.getD (k-1).toNat (.tuple #[],.add 0)).1=(ul[(k-1).toNat]).1:=by
 rw[eV,eF h1];rfl
theorem asE{W:List (BitVec 64)}{ul:List (Value×jU)}{k:Int}(h0:0<k)(h1:(k-1).toNat<ul.length):S0 (jI W (ul.map Prod.snd) k.toNat) (ul[(k-1).toNat]).2=jI W (ul.map Prod.snd) (k-1).toNat:=by
 rw[Nl (W:=W) (us:=ul.map Prod.snd) (k:=(k-1).toNat) Fv,List.getElem_map,show(k-1).toNat+1=k.toNat by omega]
theorem asF{W:List (BitVec 64)}{ul:List (Value×jU)}{k:Int}(h:Nj W.length (ul.map Prod.snd))(h1:(k-1).toNat<ul.length)(h0:0<k):match(ul[(k-1).toNat]).2 with| .add n=>n<=(jI W (ul.map Prod.snd) k.toNat).length| .set i _=>i<(jI W (ul.map Prod.snd) k.toNat).length:=by
 have h2:=VE h (t:=k.toNat) (by rw[gA];omega)
 have e:(ul.map Prod.snd).take k.toNat=(ul.map Prod.snd).take (k-1).toNat++[(ul[(k-1).toNat]).2]:=by
  rw[show k.toNat=(k-1).toNat+1 by omega,xS,qC,eF h1];rfl
 rw[e,tR]at h2
 generalize(ul[(k-1).toNat]).2=u at h2⊢
 cases u with
 |add n=>exact h2.1
 |set i b=>exact h2.1
section
variable{P:Program}{n:Nat}{k:K}{xs:List (Nat×K)}{r:K}{σ:Env}{w:World}
theorem Zz{c:Code}(h:CW P n c k xs r σ w):CW P n (.scope c) k xs r σ w:=fun a ha=>wp_scope_straight (zR (fun e a' w' hq=>by cases e<;>exact hq) (h a ha))
theorem ZA{l:Nat}(h:k σ w):CW P n (.label l) k xs r σ w:=fun a ha=>wp_label ⟨σ,ha,h⟩
end
theorem Hp.mQ{w0 w:World}{A R B L:List bu}(h:Hp w0 w (A++(B++(R++L)))):Hp w0 w (A++(R++(B++L))):=by
 refine h.perm (vp A ?_)
 rw[<-dH,<-dH]
 exact List.Perm.append_right L uq
def asG(n:Nat)(k:Int):Int:=if k=1 then 1 else n
theorem ZB{n:Nat}{k:Int}(h0:0<=k)(h1:k<4):([I n,I 1,I n,I n]:List Value)[k.toNat*1]?=some (I (asG n k)):=by
 rcases(by omega:k=0\/k=1\/k=2\/k=3)with rfl|rfl|rfl|rfl<;>rfl
theorem KG{n:Nat}{k:Int}(h0:0<=k)(h1:k<4):(Gi (r5 n)).take (k+1).toNat=(Gi (r5 n)).take k.toNat++[BitVec.ofInt 64 (asG n k)]:=by
 rcases(by omega:k=0\/k=1\/k=2\/k=3)with rfl|rfl|rfl|rfl<;>simp[Gi,r5,asG]
def Np(m:Nat)(k:Int):List jU:=(List.range k.toNat).map fun j=>jU.add (m+j)
theorem I1{m:Nat}{k:Int}(h0:0<=k):Np m (k+1)=Np m k++[jU.add (m+k.toNat)]:=by
 rw[Np,show(k+1).toNat=k.toNat+1 by omega,vB,gP];rfl
theorem ZC{m:Nat}{us:List jU}:us++Np m 4=Pe us m:=by simp[Np,Pe,List.range,List.range.loop]
theorem pW{a b c:List (Value×jU)}{T:UT}{F:Nat}{B C:List bu}(h1:b.take a.length=a)(h2:c.take b.length=b)(hab:∀x∈b.drop a.length,pV T F B x)(hbc:∀x∈c.drop b.length,pV T F C x):c.take a.length=a/\∀x∈c.drop a.length,pV T F (C++B) x:=by
 have hl:a.length<=b.length:=by
  have:=aK List.length h1;rw[ef]at this;omega
 constructor
 .rw[show c.take a.length=(c.take b.length).take a.length by rw[Ce,qB hl],h2,h1]
 intro x hx
 have e:c=b++c.drop b.length:=by conv=>lhs;rw[<-HP b.length c,h2]
 rw[e,Ll hl]at hx
 rcases fh.1 hx with q|q
 .exact(hab x q).mono fun e he=>bH _ he
 exact(hbc x q).mono fun e he=>dI _ he
end
end Go.Proofs.YtlhjdflgjbkpmaaGreatDoor.E
namespace Go.Proofs.YtlhjdflgjbkpmaaGreatDoor.M
section
open Go
theorem aeg(r:Rl)(w:BitVec 64):(∃k:Int,eZ r w=(k,true)/\0<=k/\k<pts r/\bQ r k=w)\/eZ r w=(0,false):=by grind[Rl,eZ,pts,bQ,oC]
theorem afZ(r:Rl)(i j:Int):(jf r i j).2=true->0<=(jf r i j).1/\(jf r i j).1<pts r:=by grind[oC,oD,gx,pts,jf,Bi]
def EM(r:Rl)(w:BitVec 64):Int:=if(eZ r w).2=true then(eZ r w).1 else-1
theorem asH{r:Rl}{w:BitVec 64}{k:Int}(h0:0<=k)(hk:k<pts r)(h:bQ r k=w)(hf:∀j:Int,0<=j->j<k->bQ r j≠w):EM r w=k:=by
 rw[EM,DU h0 hk h hf];rfl
theorem axs{r:Rl}{w:BitVec 64}{k:Int}(hk:¬k<pts r)(hf:∀j:Int,0<=j->j<k->bQ r j≠w):EM r w= -1:=by
 rw[EM,GD hk hf];rfl
theorem EN(r:Rl)(w:BitVec 64):(0<=EM r w/\EM r w<pts r/\bQ r (EM r w)=w/\eZ r w=(EM r w,true))\/(EM r w= -1/\(eZ r w).2=false):=by grind[EM,aeg]
def JR(r:Rl)(i j:Int):BitVec 64:=if(jf r (EM r (bQ r i)) (EM r (bQ r j))).2=true then bQ r (jf r (EM r (bQ r i)) (EM r (bQ r j))).1 else bQ r i|||bQ r j
theorem aeh{r:Rl}{i j:Int}(h:(jf r (EM r (bQ r i)) (EM r (bQ r j))).2=true):JR r i j=bQ r (jf r (EM r (bQ r i)) (EM r (bQ r j))).1:=aY h
theorem ain{r:Rl}{i j:Int}(h:(jf r (EM r (bQ r i)) (EM r (bQ r j))).2=false):JR r i j=bQ r i|||bQ r j:=aW (by rw[h];exact Lm)
theorem Qx{r:Rl}{a b:BitVec 64}(h:EM r a<0\/EM r b<0):a|||b=jr r a b:=by
 rcases h with h|h
 .rcases EN r a with q|q
  .omega
  exact(IF q.2).symm
 rcases EN r b with q|q
 .omega
 exact(IG q.2).symm
theorem aio{r:Rl}{a b:BitVec 64}(h:¬(EM r a<0\/EM r b<0)):JR r (EM r a) (EM r b)=jr r a b:=by grind[EN,JR,jr]
def oH(r:Rl)(k:Nat):List (BitVec 64):=(List.range k).map fun(i:Nat)=>bQ r (i:Int)
theorem Ax{r:Rl}{k:Nat}:(oH r k).length=k:=by simp[oH]
theorem aei{r:Rl}{k:Nat}{i:Int}(h:0<=i/\i<k):(oH r k).getD i.toNat 0=bQ r i:=by grind[oH]
theorem Uw{r:Rl}{k:Int}(h:0<=k):oH r (k+1).toNat=oH r k.toNat++[bQ r k]:=by
 rw[oH,show(k+1).toNat=k.toNat+1 by omega,vB,gP,Lx,gm h];rfl
def Ay(r:Rl)(i:Int)(n k:Nat):List (BitVec 64):=(List.range n).map fun(j:Nat)=>if j<k then JR r i (j:Int)else 0
theorem Cx{r:Rl}{i:Int}{n k:Nat}:(Ay r i n k).length=n:=by simp[Ay]
theorem aej{r:Rl}{i:Int}{n:Nat}:List.replicate n (0#64)=Ay r i n 0:=by
 apply Yg (by simp[Ay])
 intro j h1 h2
 simp[Ay]
theorem VO{r:Rl}{i:Int}{n:Nat}{k:Int}{x:BitVec 64}(h:0<=k/\k<n)(hx:x=JR r i k):(Ay r i n k.toNat).set k.toNat x=Ay r i n (k+1).toNat:=by grind[List.ext_getElem,Ay,List.length_set,Cx,Int.toNat_of_nonneg]
theorem aek{r:Rl}{i:Int}{n:Nat}{k:Int}{x y:BitVec 64}(h:0<=k/\k<n)(hx:y=JR r i k):((Ay r i n k.toNat).set k.toNat x).set k.toNat y=Ay r i n (k+1).toNat:=by simp_all[VO]
theorem anl{r:Rl}{i:Int}{n:Nat}{j:Int}(h:0<=j/\j<n):(Ay r i n n).getD j.toNat 0=JR r i j:=by grind[Ay]
end
end Go.Proofs.YtlhjdflgjbkpmaaGreatDoor.M
namespace Go.Proofs.YtlhjdflgjbkpmaaGreatDoor.E
section
open Go Go.RowKit Go.Proofs.YtlhjdflgjbkpmaaGreatDoor.M
def lS(r:Rl)(d s:Int)(vw vj:Value):List Value:=wS r++[.int .u32 d,.int .i32 s,.int .u32 0,vw,vj]
section
variable{r:Rl}{d s:Int}{vw vj v:Value}
theorem afP:(lS r d s vw vj).length=70:=by simp[lS,pQ]
theorem axt:(lS r d s vw vj).toArray[0]?=some (I r.n):=by simp[lS,wS]
theorem S6{k:Nat}(hk:k<5):(lS r d s vw vj).toArray[65+k]?=([.int .u32 d,.int .i32 s,.int .u32 0,vw,vj]:List Value)[k]?:=by grind[lS,pQ]
theorem abN:(lS r d s vw vj).toArray[65]?=some (.int .u32 d):=S6 (k:=0) J
theorem apM:(lS r d s vw vj).toArray[66]?=some (.int .i32 s):=S6 (k:=1) J
theorem EO:(lS r d s vw vj).toArray[68]?=some vw:=S6 (k:=3) J
theorem apN:(lS r d s vw vj).toArray[69]?=some vj:=S6 (k:=4) J
theorem K8{k:Nat}:(lS r d s vw vj).toArray.setIfInBounds (65+k) v=(wS r++([.int .u32 d,.int .i32 s,.int .u32 0,vw,vj]:List Value).set k v).toArray:=by simp_all[lS,pQ]
theorem GX:(lS r d s vw vj).toArray.setIfInBounds 68 v=(lS r d s v vj).toArray:=K8 (k:=3)
theorem aip:(lS r d s vw vj).toArray.setIfInBounds 69 v=(lS r d s vw v).toArray:=K8 (k:=4)
theorem aiq{e:Int}:(lS r d s vw vj).toArray.setIfInBounds 65 (.int .u32 e)=(lS r e s vw vj).toArray:=K8 (k:=0)
theorem VP{e:Int}:(lS r d s vw vj).toArray.setIfInBounds 66 (.int .i32 e)=(lS r d e vw vj).toArray:=K8 (k:=1)
theorem anm:((lS r d s vw vj).toArray.toList.drop 0).take (wS r).length=wS r:=by simp[lS]
end
structure S7 where
 v:Value
 l:List (BitVec 64)
def ru0:S7:=⟨.slice none 0 0,[]⟩
theorem asJ{rs:List S7}{k:Int}(h:0<=k/\k<rs.length):(rs.map S7.v)[k.toNat*1]?=some (rs.getD k.toNat ru0).v:=by grind
def FN(r:Rl)(n k:Nat):List (List (BitVec 64)):=(List.range k).map fun(i:Nat)=>Ay r (i:Int) n n
theorem ZD{r:Rl}{n:Nat}{k:Int}(h:0<=k):FN r n (k+1).toNat=FN r n k.toNat++[Ay r k n n]:=by
 rw[FN,show(k+1).toNat=k.toNat+1 by omega,vB,gP,Lx,gm h];rfl
structure I2(K:Vu)(r:Rl)(vw vj:Value)(rs:List S7):Prop where
 words:oE K vw 1 (oH r (pts r).toNat).length ((oH r (pts r).toNat).map U)
 air:oE K vj 1 rs.length (rs.map S7.v)
 each:∀x∈rs,oE K x.v 1 x.l.length (x.l.map U)
 rs:rs.map S7.l=FN r (pts r).toNat (pts r).toNat
section
variable{K K':Vu}{r:Rl}{vw vj:Value}{rs:List S7}
theorem I2.mono(h:I2 K r vw vj rs)(hl:Le K K'):I2 K' r vw vj rs:=⟨h.words.mono hl,h.air.mono hl,fun x hx=>(h.each x hx).mono hl,h.rs⟩
theorem I2.len(h:I2 K r vw vj rs):rs.length=(pts r).toNat:=by
 have:=aK List.length h.rs
 simpa[FN]using this
theorem I2.row(h:I2 K r vw vj rs){i:Int}(hi:0<=i/\i<pts r):(rs.getD i.toNat ru0).l=Ay r i (pts r).toNat (pts r).toNat/\oE K (rs.getD i.toNat ru0).v 1 (rs.getD i.toNat ru0).l.length ((rs.getD i.toNat ru0).l.map U):=by
 have hl:=h.len
 have hm:i.toNat<rs.length:=J
 have e:rs.getD i.toNat ru0=rs[i.toNat]:=by rw[eV,eF hm];rfl
 rw[e]
 refine⟨?_,h.each _ (qD hm)⟩
 have h2:(rs.map S7.l)[i.toNat]?=some (Ay r i (pts r).toNat (pts r).toNat):=by
  rw[h.rs,FN,qC,zN J,rp,gm hi.1]
 rw[qC,eF hm]at h2
 simpa using h2
end
section
variable{P:Program}{σ:Env}{w0 w:World}{L:List bu}{dst:Option Tmp}{ty t:TypeId}{pos:String}{bO:Array Edge}{g:Option (Nat×Bool)}{x y:Operand}{v u:Value}{i b o m:Nat}{xs:List Value}{r:Rl}
theorem Hp.setCell{c:Array Value}{e:TypeId}(h:Hp w0 w L)(hi:L[i]?=some (.blk b (.cells c e (0,0)))):Hp w0 (w.setCell ⟨b,o,none⟩ v) (L.set i (.blk b (.cells (c.setIfInBounds o v) e (0,0)))):=by
 have e1:w.setCell ⟨b,o,none⟩ v=w.setRow b (c.setIfInBounds o v):=by
  unfold World.setCell World.setRow
  congr 1
  have hg:=h.blk hi
  have hlt:b<w.heap.size:=(Ca.1 hg).1
  have hv:w.heap[b]= .cells c e (0,0):=(Ca.1 hg).2
  apply Array.ext aJ
  intro k h1 h2
  rw[Array.getElem_modify,Array.getElem_modify]
  by_cases q:b=k
  .subst q;simp[hv]
  rw[aW q,aW q]
 rw[e1];exact h.set hi
theorem Hp.fz{c:Array Value}{e:TypeId}(h:Hp w0 w L)(hi:L[i]?=some (.blk b (.cells c e (0,0)))):w.frozen? ⟨b,o,none⟩=false:=by
 have hg:=h.blk hi
 unfold World.frozen?
 simp only[hg]
 simp
theorem I3{d:TypeDesc}{a s:Int}{vw vj:Value}{fr:Nat×Nat}{e:TypeId}(hu:P.underlying t=some d)(hd:d.isRow=true)(hi:(P.info? t).map (·.size)=some 65)(hx:ev σ x= .pointer (some ⟨b,0,none⟩))(hg:w.heap[b]?=some (.cells (lS r a s vw vj).toArray e fr)):
 (execOp (ev σ) ⟨dst,.load t x,ty,pos,bO,g⟩).run P w= .ok (.value (.agg (dV r))) w:=by grind[jq,iN,wS,pQ,anm]
theorem sY{n:Nat}{k:Int}(h:Sl w v 1 (oH r n).length ((oH r n).map U))(hk:0<=k/\k<n):w.cell? ⟨sb v,so v+k.toNat*1,none⟩=some (U (bQ r k)):=by
 rw[<-aei hk]
 refine h.cell _ _ ?_
 rw[l9,qC,eV,eF (by rw[Ax];omega)];rfl
theorem mk_zero{i:Int}{n:Nat}:(List.replicate n (0#64)).flatMap (fun x:BitVec 64=>[U x])=(Ay r i n 0).map U:=by
 rw[<-aej]
 induction n with
 |zero=>rfl
 |succ n ih=>rw[List.replicate_succ,uM,lZ,ih];rfl
end
def KN:Vu:=fun _ _=>False
theorem KN.le{K:Vu}:Le KN K:=fun _ _ h=>h.elim
def TbZ(TT:TypeId)(r:Rl)(b:Nat)(Z:List bu):Prop:=
 Z=[.blk b (.cells (lS r 0 0 (.slice none 0 0) (.slice none 0 0)).toArray TT (0,0))]\/
 ∃(v1 v2:Value) (rs:List S7) (Zr:List bu),Z= .blk b (.cells (lS r 1 0 v1 v2).toArray TT (0,0))::Zr/\I2 (Kz KN Zr) r v1 v2 rs
theorem ais{K:Vu}{Zr z:List bu}{rs:List S7}{v:Value}{n:Nat}{l:List (BitVec 64)}(h:∀x∈rs,oE (Kz K Zr) x.v 1 x.l.length (x.l.map U))(hv:oE (Kz K z) v 1 n (l.map U))(hn:n=l.length:=by first|rfl|(rw[Cx])):∀x∈rs++[S7.mk v l],oE (Kz K (z++Zr)) x.v 1 x.l.length (x.l.map U):=fun x hx=>by
 rcases fh.1 hx with q|q
 .exact(h x q).mono (Le.zz fun e he=>bH _ he)
 rw[gG.1 q];subst hn;exact hv.mono (Le.zz fun e he=>dI _ he)
theorem Hp.sZ{w0 w:World}{A Zf R:List bu}(h:Hp w0 w (A++(Zf++R))):Hp w0 w (Zf++(A++R)):=h.perm (by
 rw[<-dH,<-dH]
 exact uq.append_right R)
theorem ait{P:Program}{σ:Env}{w:World}{dst:Option Tmp}{ty:TypeId}{pos:String}{bO:Array Edge}{g:Option (Nat×Bool)}{x:Operand}{fn:Fn}{v:Value}(hx:ev σ x=v):
  (execOp (ev σ) ⟨dst,.makeFunc fn #[x] #[],ty,pos,bO,g⟩).run P w= .ok (.value (.func fn #[v] #[])) w:=by
 simp[execOp,hx,Instr.makeFunc]
theorem apO(r:Rl)(w:BitVec 64): -1<=EM r w/\(EM r w<0\/EM r w<pts r):=by grind[EN]
abbrev Kh:=Nat->Option (Nat×Rl)
def aiu(o:Option (Nat×Rl)):Value:= .pointer (o.map fun p=>⟨p.1,0,none⟩)
def VQ(tb:Kh):List Value:=(List.range 8).map fun i=>aiu (tb i)
theorem ann(tb:Kh):(VQ tb).length=8:=by simp[VQ]
def tb0:Kh:=fun _=>none
def VR(tb:Kh)(k:Nat)(p:Nat×Rl):Kh:=fun i=>if i=k then some p else tb i
theorem asL(tb:Kh){k:Nat}(h:k<8):(VQ tb).toArray[0+k*1]?=some (aiu (tb k)):=by grind[VQ]
theorem ano(tb:Kh){k:Nat}{p:Nat×Rl}:(VQ tb).toArray.setIfInBounds (0+k*1) (.pointer (some ⟨p.1,0,none⟩))=(VQ (VR tb k p)).toArray:=by
 rw[gQ,l9,n5]
 congr 1
 apply Yg (by simp[VQ])
 intro j h1 h2
 rw[zO]
 simp only[VQ,List.getElem_map,List.getElem_range,VR]
 by_cases e:k=j
 .subst e;rw[aY O,aY O];rfl
 rw[aW e,aW (fun q=>e q.symm)]
def pE(tb:Kh)(a c:El):El:=fun i=>match tb i with
 |some p=>jr p.2 (a i) (c i)
 |none=>a i|||c i
def wW(TT:TypeId):List (Nat×Rl)->List bu->Prop
 |[],Z=>Z=[]
 |p::tl,Z=>∃z Y,Z=z++Y/\TbZ TT p.2 p.1 z/\wW TT tl Y
theorem wW.one{TT:TypeId}{b:Nat}{r:Rl}{z:List bu}(h:TbZ TT r b z):wW TT [(b,r)] z:=⟨z,[],aJ,h,rfl⟩
theorem wW.app{TT:TypeId}{tl tm:List (Nat×Rl)}{Z Y:List bu}(h:wW TT tl Z)(k:wW TT tm Y):wW TT (tl++tm) (Z++Y):=by
 induction tl generalizing Z with
 |nil=>have e:Z=[]:=h;subst e;exact k
 |cons p tl ih=>
  obtain⟨z,X,rfl,h1,h2⟩:=h
  exact⟨z,X++Y,aJ,h1,ih h2⟩
theorem wW.pick{TT:TypeId}{tl:List (Nat×Rl)}{Z:List bu}{b:Nat}{r:Rl}(h:wW TT tl Z)(hm:(b,r)∈tl):∃z Y,TbZ TT r b z/\Z.Perm (z++Y)/\∀z',TbZ TT r b z'->∃Z',wW TT tl Z'/\(z'++Y).Perm Z':=by
 induction tl generalizing Z with
 |nil=>cases hm
 |cons p tl ih=>
  obtain⟨z,X,rfl,h1,h2⟩:=h
  rcases c8.1 hm with e|hm
  .subst e
   exact⟨z,X,h1,RM _,fun z' hz'=>⟨z'++X,⟨z',X,rfl,hz',h2⟩,RM _⟩⟩
  obtain⟨z1,Y,k1,k2,k3⟩:=ih h2 hm
  refine⟨z1,z++Y,k1,?_,fun z' hz'=> ?_⟩
  .refine(vp z k2).trans ?_
   rw[<-dH,<-dH]
   exact uq.append_right Y
  obtain⟨Z',q1,k5⟩:=k3 z' hz'
  refine⟨z++Z',⟨z,Z',rfl,h1,q1⟩,?_⟩
  refine List.Perm.trans ?_ (vp z k5)
  rw[<-dH,<-dH]
  exact uq.append_right Y
theorem wo{w:World}{b off:Nat}{cs:Array Value}{te:TypeId}{fr:Nat×Nat}{v:Value}(h:w.heap[b]?=some (.cells cs te fr))(hc:cs[off]?=some v):w.cell? ⟨b,off,none⟩=some v:=by
 rw[xX w b off cs te fr h];exact hc
theorem asM(tb:Kh){k:Int}(h:0<=k/\k<8):(VQ tb).toArray[k.toNat]?=some (aiu (tb k.toNat)):=by grind[asL]
theorem Qy{P:Program}{σ:Env}{w:World}{dst:Option Tmp}{t te ty u:TypeId}{pos:String}{bO:Array Edge}{g:Option (Nat×Bool)}{x y:Operand}{o:Option (Nat×Rl)}(ht:P.underlying t=some (.pointer te))(hx:ev σ x=aiu o)(hy:ev σ y= .pointer none):
  (execOp (ev σ) ⟨dst,.binOp .neq t x y u,ty,pos,bO,g⟩).run P w= .ok (.value (.bool o.isSome)) w:=by
 cases o with
 |none=>
  have h:(binOp .neq t (.pointer none) (.pointer none)).run P w= .ok (.bool false) w:=by
   simp only[binOp];simp[Op.equal,Op.maxDepth,Zy 9999 ht]
  have he:(eqGuard .neq t x y (.pointer none) (.pointer none))=pure ():=rfl
  have hx':ev σ x= .pointer none:=hx
  simp only[execOp,hx',hy,he];simp[h]
 |some p=>
  have h:(binOp .neq t (.pointer (some ⟨p.1,0,none⟩)) (.pointer none)).run P w= .ok (.bool true) w:=by
   simp only[binOp];simp[Op.equal,Op.maxDepth,FM 9999 ht]
  have he:(eqGuard .neq t x y (.pointer (some ⟨p.1,0,none⟩)) (.pointer none))=pure ():=rfl
  have hx':ev σ x= .pointer (some ⟨p.1,0,none⟩):=hx
  simp only[execOp,hx',hy,he];simp[h]
theorem Hp.axu{w0 w:World}{A Zt R z Y:List bu}(h:Hp w0 w (A++(Zt++R)))(hp:Zt.Perm (z++Y)):Hp w0 w (z++(Y++(A++R))):=by
 refine h.sZ.perm ?_
 rw[<-dH z]
 exact hp.append_right _
theorem Hp.apP{w0 w:World}{A Z' R z Y:List bu}(h:Hp w0 w (z++(Y++(A++R))))(hp:(z++Y).Perm Z'):Hp w0 w (A++(Z'++R)):=by
 refine h.perm ?_
 rw[<-dH z]
 refine(hp.append_right _).trans ?_
 rw[<-dH,<-dH]
 exact uq.append_right R
theorem asN{tb:Kh}{a c:El}{k:Int}{e:El}{b:Nat}{r:Rl}(hr:e=ng (pE tb a c) a k)(h0:0<=k)(hp:tb k.toNat=some (b,r)):tK e k.toNat (jr r (e k.toNat) (c k.toNat))=ng (pE tb a c) a (k+1):=by
 subst hr
 refine uX h0 ?_
 have e1:ng (pE tb a c) a k k.toNat=a k.toNat:=aW J
 rw[e1];simp only[pE,hp]
theorem axv{tb:Kh}{a c:El}{k:Int}{e:El}(hr:e=ng (pE tb a c) a k)(h0:0<=k)(hp:(tb k.toNat).isSome=false):tK e k.toNat (e k.toNat|||c k.toNat)=ng (pE tb a c) a (k+1):=by
 subst hr
 refine uX h0 ?_
 have e1:ng (pE tb a c) a k k.toNat=a k.toNat:=aW J
 have hp':tb k.toNat=none:=by cases h:tb k.toNat with
  |none=>rfl
  |some p=>rw[h]at hp;cases hp
 rw[e1];simp only[pE,hp']
theorem aiv(tb:Kh){k b:Nat}(r:Rl):(VQ tb).toArray.setIfInBounds (0+k*1) (.pointer (some ⟨b,0,none⟩))=(VQ (VR tb k (b,r))).toArray:=ano (p:=(b,r)) tb
def I4(s:Sh)(k:Int)(tb:Kh):Prop:=∀i:Nat,i<8->if(i:Int)<k/\(i:Int)<s.a6.length/\(s.a6.getD i vV).kind=4 then∃b,tb i=some (b,(s.a6.getD i vV).rel)else tb i=none
theorem I4.start(s:Sh):I4 s 0 tb0:=by grind[Sh,I4,tb0]
theorem I4.put{s:Sh}{k:Int}{tb:Kh}{b:Nat}{r:Rl}(h:I4 s k tb)(h0:0<=k)(h1:k<s.a6.length)(h2:(s.a6.getD k.toNat vV).kind=4)(hr:(s.a6.getD k.toNat vV).rel=r):I4 s (k+1) (VR tb k.toNat (b,r)):=fun i hi=>by
 have:=h i hi
 unfold VR
 by_cases e:i=k.toNat
 .subst e
  rw[aY ⟨J,J,h2⟩,aY O,hr];exact⟨b,rfl⟩
 rw[aW e]
 by_cases q:(i:Int)<k/\(i:Int)<s.a6.length/\(s.a6.getD i vV).kind=4
 .rw[aY q]at this;rw[aY ⟨J,q.2⟩];exact this
 rw[aW q]at this;rw[aW fun w=>q ⟨J,w.2⟩];exact this
theorem I4.skip{s:Sh}{k:Int}{tb:Kh}(h:I4 s k tb)(h0:0<=k)(h2:¬(k<8/\(s.a6.getD k.toNat vV).kind=4)):I4 s (k+1) tb:=fun i hi=>by
 have:=h i hi
 by_cases e:i=k.toNat
 .subst e
  rw[aW J]at this
  rw[aW fun w=>h2 ⟨J,w.2.2⟩];exact this
 by_cases q:(i:Int)<k/\(i:Int)<s.a6.length/\(s.a6.getD i vV).kind=4
 .rw[aY q]at this;rw[aY ⟨J,q.2⟩];exact this
 rw[aW q]at this;rw[aW fun w=>q ⟨J,w.2⟩];exact this
def aiw(s:Sh)(tb:Kh):Prop:=∀i:Nat,i<8->if(i:Int)<s.a6.length/\(s.a6.getD i vV).kind=4 then∃b,tb i=some (b,(s.a6.getD i vV).rel)else tb i=none
theorem I4.all{s:Sh}{k:Int}{tb:Kh}(h:I4 s k tb)(hk:¬k<s.a6.length):aiw s tb:=fun i hi=>by
 have:=h i hi
 by_cases q:(i:Int)<s.a6.length/\(s.a6.getD i vV).kind=4
 .rw[aY q];rw[aY ⟨J,q⟩]at this;exact this
 rw[aW q];rw[aW fun w=>q w.2]at this;exact this
theorem ael{s:Sh}{tb:Kh}(h:aiw s tb)(a c:El):sx (pE tb a c) (eo s a c):=fun i hi=>by
 have:=h i hi
 unfold pE eo U9
 by_cases q:(i:Int)<s.a6.length/\(s.a6.getD i vV).kind=4
 .rw[aY q]at this⊢
  obtain⟨b,e⟩:=this;simp only[e]
 rw[aW q]at this⊢
 simp only[this]
theorem anp{tb:Kh}{tl:List (Nat×Rl)}{k:Nat}{q:Nat×Rl}(h:∀i,i<8->∀p,tb i=some p->p∈tl):∀i,i<8->∀p,VR tb k q i=some p->p∈q::tl:=by grind[VR]
theorem wW.cons{TT:TypeId}{tl:List (Nat×Rl)}{Z:List bu}{b:Nat}{r:Rl}(h:wW TT tl Z):wW TT ((b,r)::tl) ([.blk b (.cells (lS r 0 0 (.slice none 0 0) (.slice none 0 0)).toArray TT (0,0))]++Z):=⟨_,_,rfl,.inl O,h⟩
structure Cn where
 e:Int
 l:Int
 j:Int
def cn0:Cn:=⟨0,0,0⟩
def Cn.ok(c:Cn):Prop:=(0<=c.e/\c.e<=1000000000000)/\(0<=c.l/\c.l<=1000000000000)/\(0<=c.j/\c.j<=1000000000000)
inductive Kd
 |e
 |l
 |j
def Kd.up(c:Cn):Kd->Cn
 | .e=>⟨c.e+1,c.l,c.j⟩
 | .l=>⟨c.e,c.l+1,c.j⟩
 | .j=>⟨c.e,c.l,c.j+1⟩
inductive Wr
 |base (p:kW) (tb:Kh)
 |wrap (m:Nat) (d:Wr)
structure O3 where
 ofE:FuncId
 leq:FuncId
 jn:FuncId
 w1:FuncId
 w2:FuncId
 w3:FuncId
 w4:FuncId
 tsh:TypeId
 t8:TypeId
 tfn:TypeId
 tm:TypeId
 aEw:TypeId
 axw:TypeId
 tt:TypeId
 fr:List bu
abbrev pt(b:Nat):Value:= .pointer (some ⟨b,0,none⟩)
abbrev jO(f:FuncId)(cs:Array Value):Value:= .func (.func f) #[] cs
def BK(T:O3)(K:Vu):Wr->Value->Value->Value->Prop
 | .base p tb,e,l,j=>∃B1 B2,e=jO T.ofE #[pt B1]/\l=jO T.leq #[]/\j=jO T.jn #[pt B2]/\K B1 (.cells (qW p) T.tsh (0,0))/\lm K p/\K B2 (.cells (VQ tb).toArray T.t8 (0,0))
 | .wrap m d,e,l,j=>∃b2 b3 b5 e' l' j',e=jO T.w2 #[pt b5,pt b3]/\l=jO T.w3 #[pt b5,pt b3]/\j=jO T.w4 #[pt b5,pt b3]/\K b5 (.cells #[jO T.w1 #[pt b2]] T.tfn (0,0))/\K b2 (.cells #[pt m] T.tm (0,0))/\K b3 (.cells #[e',l',j'] T.aEw (0,0))/\BK T K d e' l' j'
theorem BK.mono{T:O3}{K K':Vu}(hl:Le K K'){d:Wr}:∀{e l j:Value},BK T K d e l j->BK T K' d e l j:=by
 induction d with
 |base p tb=>rintro e l j ⟨B1,B2,h1,h2,h3,h4,h5,h6⟩;exact⟨B1,B2,h1,h2,h3,hl _ _ h4,h5.mono hl,hl _ _ h6⟩
 |wrap m d ih=>rintro e l j ⟨b2,b3,b5,e',l',j',h1,h2,h3,h4,h5,h6,h7⟩;exact⟨b2,b3,b5,e',l',j',h1,h2,h3,hl _ _ h4,hl _ _ h5,hl _ _ h6,ih h7⟩
theorem BK.one{T:O3}{K:Vu}{d:Wr}{e l j:Value}(h:BK T K d e l j):∃f g k a b c,e=jO f a/\l=jO g b/\j=jO k c:=by
 cases d with
 |base p tb=>obtain⟨B1,B2,h1,h2,h3,-⟩:=h;exact⟨_,_,_,_,_,_,h1,h2,h3⟩
 |wrap m d=>obtain⟨b2,b3,b5,e',l',j',h1,h2,h3,-⟩:=h;exact⟨_,_,_,_,_,_,h1,h2,h3⟩
def Wr.sh:Wr->kW
 | .base p _=>p
 | .wrap _ d=>d.sh
def Wr.tb:Wr->Kh
 | .base _ tb=>tb
 | .wrap _ d=>d.tb
def Wr.Fz(ids:List Nat)(tl:List (Nat×Rl)):Wr->Prop
 | .base p tb=>aiw p.sh tb/\∀i,i<8->∀q,tb i=some q->q∈tl
 | .wrap m d=>m∈ids/\d.Fz ids tl
abbrev Ct:=Nat->Cn
def wX(f:Ct)(m:Nat)(c:Cn):Ct:=fun i=>if i=m then c else f i
def jV(k:Kd)(m:Nat)(f:Ct):Ct:=wX f m (k.up (f m))
def Wr.tick(k:Kd):Wr->Ct->Ct
 | .base _ _,f=>f
 | .wrap m d,f=>d.tick k (jV k m f)
def s0(T:O3)(m:Nat)(c:Cn):bu:= .blk m (.cells #[B true,I c.e,I c.l,I c.j] T.axw (0,0))
def kY(T:O3)(ids:List Nat)(f:Ct)(tl:List (Nat×Rl))(Z:List bu):Prop:=∃Zt,wW T.tt tl Zt/\Z=(ids.map (fun m=>s0 T m (f m))++T.fr)++Zt
theorem kY.pick{T:O3}{ids:List Nat}{f:Ct}{tl:List (Nat×Rl)}{Z R:List bu}{m:Nat}{w0 w:World}(h:kY T ids f tl Z)(hm:m∈ids)(hH:Hp w0 w (Z++R)):
  ∃Y,Z.Perm ([s0 T m (f m)]++Y)/\∀c,∃Z',kY T ids (wX f m c) tl Z'/\([s0 T m c]++Y).Perm Z':=by
 obtain⟨Zt,h1,rfl⟩:=h
 obtain⟨pre,post,rfl⟩:=X4 hm
 have apQ:∀q∈pre++post,q≠m:=by
  have e:((pre++m::post).map (fun i=>s0 T i (f i))++T.fr++Zt++R).Perm (s0 T m (f m)::((pre++post).map (fun i=>s0 T i (f i))++T.fr++Zt++R)):=by
   simp only[gP,lZ,dH,gB]
   exact Fg
  have h2:=(hH.perm e).L8
  intro q hq hqe
  have h3:=(lY.1 h2).1 (s0 T q (f q)) (dI _ (dI _ (dI _ (fN.2 ⟨q,hq,rfl⟩))))
  rcases h3 with h3|h3
  .cases h3
  exact h3 (by show some m=some q;rw[hqe])
 have same:∀(c:Cn) (l:List Nat),(∀q∈l,q≠m)->(l.map fun i=>s0 T i (wX f m c i))=l.map fun i=>s0 T i (f i):=fun c l hl=>by
  apply HR
  intro q hq
  unfold wX;rw[aW (hl q hq)]
 refine⟨(pre++post).map (fun i=>s0 T i (f i))++T.fr++Zt,?_,fun c=>⟨_,⟨Zt,h1,rfl⟩,?_⟩⟩
 .simp only[gP,lZ,dH,gB,eR]
  exact Fg
 have e1:=same c pre fun q hq=>apQ q (dI _ hq)
 have e2:=same c post fun q hq=>apQ q (bH _ hq)
 have e3:wX f m c m=c:=aY O
 simp only[gP,lZ,e1,e2,e3,dH,gB,eR]
 exact Fg.symm
def Az(P:Program)(v:Value)(args:List Value)(w:World)(Q:Ending->World->Prop):Prop:=
 ∃(f:FuncId) (cs:List Value),v=jO f cs.toArray/\(∀args w,(callFunc f args).run P w= .ok (.enter f args) w)/\Calls P f (args++cs).toArray w Q
theorem Az.mono{P:Program}{v:Value}{args:List Value}{w:World}{Q Q':Ending->World->Prop}(h:Az P v args w Q)(hq:∀e w',Q e w'->Q' e w'):Az P v args w Q':=by
 obtain⟨f,cs,h1,h2,h3⟩:=h;exact⟨f,cs,h1,h2,h3.mono hq⟩
theorem Hp.pn{w0 w:World}{A Zf R:List bu}(h:Hp w0 w (Zf++(A++R))):Hp w0 w (A++(Zf++R)):=h.perm (by
 rw[<-dH,<-dH]
 exact uq.append_right R)
section
variable{P:Program}{σ:Env}{w w':World}{dst:Option Tmp}{t ty u:TypeId}{pos:String}{bO:Array Edge}{g:Option (Nat×Bool)}{x y x1 x2:Operand}{v v1 v2:Value}{f:FuncId}{ats:Array TypeId}
theorem aem{HK:List Operand}{vs:List Value}(hf:(callFunc f vs.toArray).run P w= .ok (.value v) w')(h:HK.map (ev σ)=vs):(execOp (ev σ) ⟨dst,.call {callee:= .value (.func f),args:=HK.toArray,argTypes:=ats},ty,pos,bO,g⟩).run P w= .ok (.value v) w':=by
 subst h
 have hf':(callFunc f (HK.map (ev σ)).toArray).run P w= .ok (.value v) w':=hf
 simp[execOp,resolve,ev,Deferred.ofValue,invoke]at hf'⊢
 rw[hf']
theorem ZE(hf:(callFunc f #[v1,v2]).run P w= .ok (.value v) w')(h1:ev σ x1=v1)(h2:ev σ x2=v2):(execOp (ev σ) ⟨dst,.call {callee:= .value (.func f),args:=#[x1,x2],argTypes:=ats},ty,pos,bO,g⟩).run P w= .ok (.value v) w':=by grind[aem]
theorem anr{a:Int}(h: -9223372036854775808<=a+1/\a+1<=9223372036854775807):(Op.intArith .add .i64 a 1).run P w= .ok (.int .i64 (a+1)) w:=by
 simp[Op.intArith,DK h]
theorem Qz{fn:Fn}{a c:Array Value}(d:Nat){ps rs:Array TypeId}{vr:Bool}(ht:P.underlying t=some (.func ps rs vr)):(Op.equalIn (d+1) t (.func fn a c) .nilFunc).run P w= .ok false w:=by
 simp[Op.equalIn,kP ht]
theorem VT{fn:Fn}{a c:Array Value}{ps rs:Array TypeId}{vr:Bool}(ht:P.underlying t=some (.func ps rs vr))(hx:ev σ x= .func fn a c)(hy:ev σ y= .nilFunc):
  (execOp (ev σ) ⟨dst,.binOp .eql t x y u,ty,pos,bO,g⟩).run P w= .ok (.value (.bool false)) w:=by
 have h:(binOp .eql t (.func fn a c) .nilFunc).run P w= .ok (.bool false) w:=by
  simp only[binOp];simp[Op.equal,Op.maxDepth,Qz 9999 ht]
 have he:(eqGuard .eql t x y (.func fn a c) .nilFunc)=pure ():=rfl
 simp only[execOp,hx,hy,he];simp[h]
theorem VU{fn:Fn}{a c:Array Value}{ps rs:Array TypeId}{vr:Bool}(ht:P.underlying t=some (.func ps rs vr))(hx:ev σ x= .func fn a c)(hy:ev σ y= .nilFunc):
  (execOp (ev σ) ⟨dst,.binOp .neq t x y u,ty,pos,bO,g⟩).run P w= .ok (.value (.bool true)) w:=by
 have h:(binOp .neq t (.func fn a c) .nilFunc).run P w= .ok (.bool true) w:=by
  simp only[binOp];simp[Op.equal,Op.maxDepth,Qz 9999 ht]
 have he:(eqGuard .neq t x y (.func fn a c) .nilFunc)=pure ():=rfl
 simp only[execOp,hx,hy,he];simp[h]
end
structure AA where
 kind:Int
 lv:Value
 l:List dX
 vv:Value
 v:List El
 a:El
 b:El
def ans:AA:=⟨0,.slice none 0 0,[],.slice none 0 0,[],df,df⟩
def aNH(x:AA):List Value:=I x.kind::x.lv::x.vv::(pM x.a++pM x.b)
structure aix(K:Vu)(x:AA):Prop where
 ins:oE K x.lv 10 x.l.length (x.l.flatMap kq)
 ak:oE K x.vv 8 x.v.length (x.v.flatMap pM)
theorem aix.mono{K K':Vu}{x:AA}(h:aix K x)(hl:Le K K'):aix K' x:=⟨h.ins.mono hl,h.ak.mono hl⟩
def VV(K:Vu)(l:List AA):Prop:=∀x∈l,aix K x
theorem VV.mono{K K':Vu}{l:List AA}(h:VV K l)(hl:Le K K'):VV K' l:=fun x hx=>(h x hx).mono hl
theorem VV.at{K:Vu}{l:List AA}(h:VV K l){k:Int}(h0:0<=k)(h1:k<l.length):aix K (l.getD k.toNat ans):=h _ (lX (fG (d:=ans) h0 h1))
def aNI(g:El×Bool):List Value:=pM g.1++[B g.2]
def aNJ(d:Wr)(x:AA):El×Bool:=if x.kind=1 then(df,cS x.a x.b)else if x.kind=2 then(pE d.tb x.a x.b,false)else eA d.sh.sh x.l x.v
def aNK(s:Sh)(x:AA):El×Bool:=if x.kind=1 then(df,cS x.a x.b)else if x.kind=2 then(eo s x.a x.b,false)else eA s x.l x.v
def aiy(x:AA):Kd:=if x.kind=1 then .l else if x.kind=2 then .j else .e
def FO(n:Nat)(f:Ct):Prop:=∀m,(0<=(f m).e/\(f m).e<=n)/\(0<=(f m).l/\(f m).l<=n)/\(0<=(f m).j/\(f m).j<=n)
theorem FO.ok{n:Nat}{f:Ct}(h:FO n f)(hn:n<=1000000000000)(m:Nat):(f m).ok:=by
 obtain⟨⟨a,b⟩,⟨c,d⟩,e,g⟩:=h m
 exact⟨⟨a,J⟩,⟨c,J⟩,e,J⟩
theorem FO.tick{n:Nat}{f:Ct}(h:FO n f)(k:Kd)(m:Nat):FO (n+1) (jV k m f):=fun i=>by
 obtain⟨⟨a,b⟩,⟨c,d⟩,e,g⟩:=h i
 obtain⟨⟨a',b'⟩,⟨c',d'⟩,e',g'⟩:=h m
 unfold jV wX
 by_cases q:i=m
 .rw[aY q]
  cases k<;>simp only[Kd.up]<;>omega
 rw[aW q];omega
def Wr.dep:Wr->Nat
 | .base _ _=>0
 | .wrap _ d=>d.dep+1
theorem FO.abO{d:Wr}(k:Kd):∀{n:Nat} {f:Ct},FO n f->FO (n+d.dep) (d.tick k f):=by
 induction d with
 |base p tb=>exact fun h=>h
 |wrap m d ih=>
  intro n f h
  have:=ih (h.tick k m)
  rw[Nat.add_right_comm]at this;exact this
theorem Az.get{P:Program}{f:FuncId}{cs:List Value}{args:List Value}{w:World}{Q:Ending->World->Prop}(h:Az P (jO f cs.toArray) args w Q):Calls P f (args++cs).toArray w Q:=by
 obtain⟨g,ds,h1,-,h3⟩:=h
 injection h1 with e1 e2 e3
 injection e1 with e1
 have e4:cs=ds:=by simpa using aK Array.toList e3
 subst e1 e4;exact h3
def asO(P:Program)(v:Value):Prop:=∃(f:FuncId) (cs:List Value),v=jO f cs.toArray/\∀args w,(callFunc f args).run P w= .ok (.enter f args) w
def aEx(x:AA):Bool:=decide (60<x.l.length)||decide (100<x.v.length)
def aEy(l:List AA):Bool:=decide (60<l.length)||l.any aEx
def kdN(x:AA):Int:=if x.kind=1\/x.kind=2 then x.kind else 0
def ZF(l:List AA)(q:Int):Nat:=l.countP fun x=>decide (kdN x=q)
def ct0:Ct:=fun _=>cn0
theorem kY.nil{T:O3}:kY T [] ct0 [] (([]++T.fr)++[]):=⟨[],rfl,rfl⟩
theorem kY.add{T:O3}{ids:List Nat}{tl:List (Nat×Rl)}{Z:List bu}{m:Nat}(h:kY T ids ct0 tl Z):kY T (m::ids) ct0 tl ([s0 T m cn0]++Z):=by
 obtain⟨Zt,h1,rfl⟩:=h;exact⟨Zt,h1,rfl⟩
theorem kY.app{T:O3}{ids:List Nat}{f:Ct}{tl tm:List (Nat×Rl)}{Z Zt:List bu}(h:kY T ids f tl Z)(ht:wW T.tt tm Zt):kY T ids f (tl++tm) (Z++Zt):=by
 obtain⟨Zs,h1,rfl⟩:=h;exact⟨Zs++Zt,h1.app ht,by rw[dH]⟩
theorem kY.blk{T:O3}{ids:List Nat}{f:Ct}{tl:List (Nat×Rl)}{Z L:List bu}{m:Nat}{w0 w:World}(h:kY T ids f tl Z)(hm:m∈ids)(hH:Hp w0 w L)(hs:∀x,x∈Z->x∈L):
  w.heap[m]?=some (.cells #[B true,I (f m).e,I (f m).l,I (f m).j] T.axw (0,0)):=by
 obtain⟨Zt,h1,rfl⟩:=h
 exact(hH.ok _ (hs _ (dI _ (dI _ (fN.2 ⟨m,hm,rfl⟩))))).2
theorem Hp.apS{w0 w:World}{Zt Zq A Zf R:List bu}(h:Hp w0 w ((Zt++Zq)++(A++(Zf++R)))):Hp w0 w (A++((Zf++Zt)++(Zq++R))):=h.perm (by
 rw[dH,dH]
 refine((vp Zt (xf Zq A _)).trans (xf Zt A _)).trans (vp A ?_)
 refine(vp Zt (xf Zq Zf R)).trans (xf Zt Zf _))
theorem Wr.Nq{d:Wr}{ids ids':List Nat}{tl tl':List (Nat×Rl)}(h:d.Fz ids tl)(h1:∀x,x∈ids->x∈ids')(h2:∀x,x∈tl->x∈tl'):d.Fz ids' tl':=by
 induction d with
 |base p tb=>exact⟨h.1,fun i hi q hq=>h2 _ (h.2 i hi q hq)⟩
 |wrap m d ih=>exact⟨h1 _ h.1,ih h.2⟩
theorem FO.zero:FO 0 ct0:=fun m=>by simp[ct0,cn0]
theorem FO.clear{n:Nat}{f:Ct}(h:FO n f)(m:Nat):FO n (wX f m cn0):=fun i=>by
 unfold wX
 by_cases q:i=m
 .rw[aY q];simp[cn0]
 rw[aW q];exact h i
theorem FO.mono{n k:Nat}{f:Ct}(h:FO n f)(hk:n<=k):FO k f:=fun m=>by
 obtain⟨⟨a,b⟩,⟨c,d⟩,e,g⟩:=h m
 exact⟨⟨a,J⟩,⟨c,J⟩,e,J⟩
def aEA:List Tx:=[⟨#[97]⟩,⟨#[98]⟩]
def exT:Sh:=⟨false,[⟨2,aEA,Rl.none⟩]⟩
def aNL:El:=tK df 0 1#64
def aNM:El:=tK df 0 2#64
def aNN:El:=tK df 0 3#64
theorem Hp.swz{w0 w:World}{A z Zf R:List bu}(h:Hp w0 w (A++(z++(Zf++R)))):Hp w0 w (A++(Zf++(z++R))):=h.perm (vp A (by
 rw[<-dH,<-dH]
 exact uq.append_right R))
def GY(c:Cn)(l:List AA):Prop:=c.e=ZF l 0/\c.l=ZF l 1/\c.j=ZF l 2
theorem GY.nil:GY cn0 []:=⟨rfl,rfl,rfl⟩
theorem GY.tick{f:Ct}{m:Nat}{l:List AA}{x:AA}(h:GY (f m) l):GY ((jV (aiy x) m f) m) (l++[x]):=by
 obtain⟨h1,h2,h3⟩:=h
 have e:jV (aiy x) m f m=(aiy x).up (f m):=by unfold jV wX;rw[aY O]
 have c:∀q,ZF (l++[x]) q=ZF l q+if kdN x=q then 1 else 0:=fun q=>by
  rw[ZF,List.countP_append];simp[ZF,List.countP_cons]
 rw[e]
 unfold GY
 rw[c,c,c]
 unfold aiy kdN
 by_cases a:x.kind=1
 .simp[a,Kd.up,h1,h2,h3]
 by_cases b:x.kind=2
 .simp[b,Kd.up,h1,h2,h3]
 simp[a,b,Kd.up,h1,h2,h3]
theorem aiz{l:List AA}{k fr:Int}(h0:0<=fr)(h1:fr<=k)(h2:k<l.length):(l.take (k+1).toNat).drop fr.toNat=(l.take k.toNat).drop fr.toNat++[l.getD k.toNat ans]:=by grind[List.take_append_getElem,List.length_take,List.getElem?_eq_getElem]
theorem GY.next{f:Ct}{m:Nat}{l:List AA}{k fr:Int}(h:GY (f m) ((l.take k.toNat).drop fr.toNat))(h0:0<=fr)(h1:fr<=k)(h2:k<l.length):GY ((jV (aiy (l.getD k.toNat ans)) m f) m) ((l.take (k+1).toNat).drop fr.toNat):=by
 rw[aiz h0 h1 h2];exact h.tick
def QA(a b c:Nat)(f:Ct)(k:Int):Prop:=(f a).e=(f b).e/\(f a).l=(f b).l/\(f a).j=(f b).j/\(f c).e=2*(f a).e/\(f c).l=2*(f a).l/\(f c).j=2*(f a).j/\(f a).e+(f a).l+(f a).j=k
theorem QA.zero{a b c:Nat}:QA a b c ct0 0:=⟨rfl,rfl,rfl,rfl,rfl,rfl,rfl⟩
theorem QA.next{a b c:Nat}{f:Ct}{k:Int}(h:QA a b c f k)(hn:[c,b,a].Nodup)(q:Kd):QA a b c (jV q c (jV q c (jV q b (jV q a f)))) (k+1):=by
 simp only[ow,c8,List.not_mem_nil,Ck,not_or]at hn
 obtain⟨⟨h1,h2⟩,h3,-⟩:=hn
 obtain⟨e1,e2,e3,e4,e5,e6,e7⟩:=h
 have fa:jV q c (jV q c (jV q b (jV q a f))) a=q.up (f a):=by simp[jV,wX,h2,h3,Fp h2,Fp h3]
 have fb:jV q c (jV q c (jV q b (jV q a f))) b=q.up (f b):=by simp[jV,wX,h1,h3,Fp h1,Fp h3]
 have fc:jV q c (jV q c (jV q b (jV q a f))) c=q.up (q.up (f c)):=by simp[jV,wX,h1,h2,Fp h1,Fp h2]
 unfold QA
 rw[fa,fb,fc]
 cases q<;>simp only[Kd.up]<;>omega
def S8(o:Oper):List Nat:=(o.after.toList.filter fun e=>Region.binds .any e).map (·.on)
def ant(l:List Oper):Nat->List Nat->Bool
 |0,_=>true
 |i+1,s=>s.contains i&&ant l i (s++((l[i]?).map S8).getD [])
def axx(l:List Oper)(z:Oper):Bool:=
 (l.zipIdx.all fun p=>(S8 p.1).all (Nat.blt · p.2)&&(p.1.guard.map fun g=>Nat.blt g.1 l.length).getD true)&&(S8 z).all (Nat.blt · l.length)&&ant l l.length (S8 z)
section
variable{P:Program}{n:Nat}{l:List Oper}{z:Oper}{k:K}{listed:Array Bool}
theorem anu{o:Oper}{j:Nat}:j∈S8 o↔∃e∈o.after,Region.binds .any e=true/\e.on=j:=by grind[S8]
theorem rdy{md:List Oper}{j:Nat}:j∈Region.ready .any md.toArray listed↔listed.getD j true=false/\∃o,md[j]?=some o/\∀i∈S8 o,listed.getD i false=true:=by
 rw[mem_ready]
 simp only[HO,anu]
 refine and_congr Cm (exists_congr fun o=>and_congr Cm ⟨fun h i ⟨e,h1,h2,h3⟩=>h3▸h e h1 h2,fun h e h1 h2=>h e.on ⟨e,h1,h2,rfl⟩⟩)
def GZ(l:List Oper)(listed:Array Bool):Prop:=listed.size=l.length/\∀j o,l[j]?=some o->listed.getD j false=true->∀i∈S8 o,listed.getD i false=true
theorem abP(hc:GZ l listed):∀(i:Nat) (s:List Nat),ant l i s=true->(∀j∈s,listed.getD j false=true)->∀j,j<i->listed.getD j false=true
 |0,_,_,_,j,hj=>by omega
 |i+1,s,h,hs,j,hj=>by
  simp only[ant,cL,List.contains_iff_mem]at h
  have hi:=hs i h.1
  by_cases e:j=i
  .subst e;exact hi
  refine abP hc i _ h.2 (fun q hq=> ?_) j J
  rcases fh.1 hq with hq|hq
  .exact hs q hq
  .cases ho:l[i]? with
   |none=>rw[ho]at hq;simp at hq
   |some o=>rw[ho]at hq;exact hc.2 i o ho hi q hq
theorem lz{a:Array Bool}{i j:Nat}{d:Bool}:(a.setIfInBounds i true).getD j d=if i=j/\j<a.size then true else a.getD j d:=by
 rw[xe,EA,xe]
 by_cases e:i=j
 .subst e
  rw[aY O]
  by_cases h:i<a.size
  .rw[aY h,aY ⟨rfl,h⟩];rfl
  rw[aW h,aW fun q=>h q.2,XT J]
 rw[aW e,aW fun q=>e q.1]
theorem nO{a:Array Bool}{b d:Bool}{j:Nat}:(a.push b).getD j d=if j=a.size then b else a.getD j d:=by
 rw[xe,XY,xe]
 split<;>rfl
theorem ZG{o:Oper}{a:Act}{k':K}{F F':Act->World->Prop}{w:World}(hF:∀a w,F a w->F' a w)(h:o.wp P a w F (sw n k')):o.wp P a w F' (sw n k):=by
 unfold Oper.wp at*
 generalize(execOp a.eval o).run P w=r at*
 cases r with
 |ok x w'=>
  cases x<;>simp only[Oper.upon]at h⊢
  case value=>exact hF _ _ h
  case skip=>exact hF _ _ h
  case defer=>exact hF _ _ h
  case enter=>
   refine Calls.mono h fun e w'' he=> ?_
   cases e with
   |returned v=>exact hF _ _ he
   |panicked c=>exact he
   |outgrown=>exact he
  case row=>exact Rows.mono h fun _ _ he=>hF _ _ he
 |halt x w'=>cases x<;>simp only[Oper.upon]at h⊢<;>exact h
theorem fZ{id:Nat}{ops:List Oper}{xs:List (Nat×K)}{r:K}{σ:Env}{w0 w:World}{L L0:List bu}(hm:P.follows .mixedOrders=true)(hz:ops=ops.dropLast++[z])(hc:axx ops.dropLast z=true)(hH:Hp w0 w L)(hs:L0.Sublist L)
  (h:∀w',Hp w0 w' L->AN P n ops.dropLast (fun w=>Hp w0 w L0) (fun σ w=>RL P n ops.toArray k [z] σ w) ops.dropLast.length (Array.replicate ops.dropLast.length false) σ w'):CW P n (.region id ops.toArray true) k xs r σ w:=by
 intro a ha
 refine zR (fun e a' w' hq=> ?_) (Yn (id:=id) (Q:=sw n k) hm ?_)
 .cases e with
  |normal=>exact hq
  |exit id=>exact hq.elim
  |ret=>exact hq.elim
  |goto l=>exact hq.elim
  |panic c=>exact hq.elim
  |outgrown=>exact hq.elim
 have h1:=Yo _ _ _ _ (h _ hH.drew a ha)
 generalize hl:ops.dropLast=l at*
 simp only[axx,cL,iQ]at hc
 obtain⟨⟨c1,c2⟩,c3⟩:=hc
 have gl:∀{j o},l[j]?=some o->(∀i∈S8 o,i<j)/\∀g,o.guard=some g->g.1<l.length:=fun{j o} ho=>by
  have hmem:(o,j)∈l.zipIdx:=by
   rw[XX];exact⟨j,by simp[ho]⟩
  have:=c1 _ hmem
  refine⟨fun i hi=>by simpa using this.1 i hi,fun g hg=> ?_⟩
  have h2:=this.2
  rw[hg]at h2
  simpa using h2
 have get:∀{j},j<l.length->ops[j]?=l[j]?:=fun{j} hj=>by rw[hz,zL hj]
 have asP:ops[l.length]?=some z:=by rw[hz,E9 (eu _),RQ];rfl
 have hlen:ops.length=l.length+1:=by rw[hz];simp
 have key:∀(fuel:Nat) (gK:Array Bool) (a:Act) (w:World),GZ l gK->wpAny P .any l.toArray (sw n fun σ w=>RL P n ops.toArray k [z] σ w) fuel gK a w->wpAny P .any ops.toArray (sw n k) (fuel+1) (gK.push false) a w:=by
  intro fuel
  have last:∀(fuel:Nat) (gK:Array Bool) (a:Act) (w:World),GZ l gK->(∀j,j<l.length->gK.getD j false=true)->sw n (fun σ w=>RL P n ops.toArray k [z] σ w) .normal a w->wpAny P .any ops.toArray (sw n k) (fuel+1) (gK.push false) a w:=by
   intro fuel gK a w oF hall hr
   have hsz:=oF.1
   refine⟨fun he=> ?_,fun i hi=> ?_⟩
   .have:l.length∈Region.ready .any ops.toArray (gK.push false):=by
     rw[rdy]
     refine⟨by rw[nO,hsz,aY O],z,asP,fun i hi=> ?_⟩
     have hi2:i<l.length:=by simpa using c2 i hi
     rw[nO,aW J]
     exact hall i hi2
    rw[he]at this;cases this
   rw[rdy]at hi
   obtain⟨h0,o,ho,_⟩:=hi
   have hio:i=l.length:=by
    by_cases e:i=l.length
    .exact e
    have hlt:i<ops.length:=(n7.1 ho).1
    have aEB:i<l.length:=J
    rw[nO,aW J]at h0
    have h3:=hall i aEB
    rw[xe]at h0 h3
    cases hq:gK[i]? with
    |none=>rw[hq]at h3;cases h3
    |some b=>rw[hq]at h0 h3;cases b<;>simp_all
   subst hio
   obtain⟨σ',hi',hrl⟩:=hr
   have:=hrl a hi'
   unfold wpOp
   rw[HO,asP]
   simp only[wpList]at this
   show(if Region.wanted z (yielded ops.toArray a.tmps)=true then _ else _)
   have done:∀a w,sw n k .normal a w->wpAny P .any ops.toArray (sw n k) fuel ((gK.push false).setIfInBounds l.length true) a w:=fun a w hq=>by
    have he:Region.ready .any ops.toArray ((gK.push false).setIfInBounds l.length true)=[]:=by
     rw[Rp]
     intro j hj
     rw[rdy]at hj
     obtain⟨h0,o,ho,_⟩:=hj
     have hlt:j<ops.length:=(n7.1 ho).1
     rw[lz,nO]at h0
     by_cases e:l.length=j
     .rw[aY ⟨e,by rw[Array.size_push];omega⟩]at h0;cases h0
     rw[aW fun q=>e q.1,aW J]at h0
     have h3:=hall j J
     rw[xe]at h0 h3
     cases hq:gK[j]? with
     |none=>rw[hq]at h3;cases h3
     |some b=>rw[hq]at h0 h3;cases b<;>simp_all
    cases fuel with
    |zero=>exact⟨he,hq⟩
    |succ f=>exact⟨fun _=>hq,fun i hi=>by rw[he]at hi;cases hi⟩
   split
   .rename_i hw
    rw[aY hw]at this
    refine this.imp (fun q=>Oper.wp_mono (fun a w h=>done a w h) q) fun q=>q
   rename_i hw
   rw[aW hw]at this
   exact done _ _ this
  have fin:∀(gK:Array Bool),GZ l gK->Region.ready .any l.toArray gK=[]->∀j,j<l.length->gK.getD j false=true:=by
   intro gK oF he j
   induction j using Nat.strongRecOn with
   |_ j ih=>
    intro hj
    cases hq:gK.getD j false with
    |true=>rfl
    |false=>
     have hmem:j∈Region.ready .any l.toArray gK:=by
      rw[rdy]
      refine⟨?_,l[j],eF hj,fun i hi=> ?_⟩
      .rw[xe,afJ (by rw[oF.1];exact hj)]at hq⊢;exact hq
      have:=(gl (eF hj)).1 i hi
      exact ih i this J
     rw[he]at hmem;cases hmem
  induction fuel with
  |zero=>intro gK a w oF hw;exact last 0 gK a w oF (fin gK oF hw.1) hw.2
  |succ fuel ih=>
   intro gK a w oF hw
   have hsz:=oF.1
   by_cases he:Region.ready .any l.toArray gK=[]
   .exact last _ gK a w oF (fin gK oF he) (hw.1 he)
   refine⟨fun hn=> ?_,fun i hi=> ?_⟩
   .refine absurd (Rp.2 fun j hj=> ?_) he
    have:j∈Region.ready .any ops.toArray (gK.push false):=by
     rw[rdy]at hj⊢
     obtain⟨h0,o,ho,hall⟩:=hj
     have hj2:j<l.length:=(n7.1 ho).1
     refine⟨by rw[nO,aW J];exact h0,o,by rw[get hj2];exact ho,fun i hi=> ?_⟩
     have:=(gl ho).1 i hi
     rw[nO,aW J];exact hall i hi
    rw[hn]at this;cases this
   rw[rdy]at hi
   obtain⟨h0,o,ho,hall⟩:=hi
   have hlt:i<ops.length:=(n7.1 ho).1
   by_cases e:i=l.length
   ·
    exfalso
    subst e
    rw[asP]at ho
    injection ho with ho
    subst ho
    have axy:∀j,j<l.length->gK.getD j false=true:=abP oF l.length _ c3 fun j hj=>by
     have h3:=hall j hj
     have hj2:j<l.length:=by simpa using c2 j hj
     rw[nO,aW J]at h3;exact h3
    refine he (Rp.2 fun j hj=> ?_)
    rw[rdy]at hj
    obtain⟨g0,o,go,_⟩:=hj
    have hj2:j<l.length:=(n7.1 go).1
    have h3:=axy j hj2
    rw[xe]at g0 h3
    cases hq:gK[j]? with
    |none=>rw[hq]at h3;cases h3
    |some b=>rw[hq]at g0 h3;cases b<;>simp_all
   have hi2:i<l.length:=J
   rw[get hi2]at ho
   have hrd:i∈Region.ready .any l.toArray gK:=by
    rw[rdy]
    refine⟨by rw[nO,aW J]at h0;exact h0,o,ho,fun j hj=> ?_⟩
    have:=(gl ho).1 j hj
    have h3:=hall j hj
    rw[nO,aW J]at h3;exact h3
   have hop:=hw.2 i hrd
   have anv:GZ l (gK.setIfInBounds i true):=by
    refine⟨by rw[XQ];exact hsz,fun j p hp hj q hq=> ?_⟩
    rw[lz]at hj⊢
    by_cases e2:i=q/\q<gK.size
    .rw[aY e2]
    rw[aW e2]
    by_cases e3:i=j
    .subst e3
     rw[ho]at hp;injection hp with hp;subst hp
     have:=(gl ho).1 q hq
     have h3:=hall q hq
     rw[nO,aW J]at h3;exact h3
    rw[aW fun c=>e3 c.1]at hj
    exact oF.2 j p hp hj q hq
   have apU:(gK.push false).setIfInBounds i true=(gK.setIfInBounds i true).push false:=by
    apply X3
    intro j
    rw[EA,XY,XY,EA,XQ,Array.size_push]
    by_cases e2:i=j
    .subst e2;rw[aY O,aY J,aW J,aY O,aY J]
    rw[aW e2,aW e2]
   have hgd:Region.wanted o (yielded ops.toArray a.tmps)=Region.wanted o (yielded l.toArray a.tmps):=by
    unfold Region.wanted
    cases hg:o.guard with
    |none=>rfl
    |some g=>
     obtain⟨gi,gw⟩:=g
     have:=(gl ho).2 _ hg
     simp only[yielded,HO]
     rw[get this]
   unfold wpOp at hop⊢
   rw[HO]at hop⊢
   rw[get hi2]
   rw[ho]at hop⊢
   simp only[hgd]at*
   split
   .rename_i hwn
    rw[aY hwn]at hop
    rcases hop with hop|hop
    .refine .inl (ZG (fun a w hq=> ?_) hop)
     rw[apU];exact ih _ a w anv hq
    exact .inr ⟨hop.1,hop.2⟩
   rename_i hwn
   rw[aW hwn]at hop
   rw[apU];exact ih _ _ w anv hop
 have axz:=key l.length (Array.replicate l.length false) a _ ⟨aJ,fun j o _ hj=>by
  rw[xe,afK]at hj
  split at hj<;>cases hj⟩ h1
 rw[show(Array.replicate l.length false).push false=Array.replicate (l.length+1) false by rw[<-Array.replicate_succ],<-hlen]at axz
 simpa using axz
end
end
end Go.Proofs.YtlhjdflgjbkpmaaGreatDoor.E
namespace Go.Proofs.YtlhjdflgjbkpmaaGreatDoor.M
section
open Go
def I5(n:Nat)(cl:List Nat)(i j:Int):Prop:=(0<=i/\i<n)/\(0<=j/\j<n)/\cr cl i.toNat≠cr cl j.toNat
structure UnP(nd:List qN)(cl:List Nat)(i j:Int)(a b:Nat):Prop where
 ok:I5 nd.length cl i j
 ha:a<nd.length
 hb:b<nd.length
 ab:a≠b
 ua:sX nd a=a
 ub:sX nd b=b
 c:cr cl a=cr cl i.toNat/\cr cl b=cr cl j.toNat\/cr cl a=cr cl j.toNat/\cr cl b=cr cl i.toNat
section
variable{nd:List qN}{cl:List Nat}{i j:Int}{a b:Nat}
theorem VW(h:Fo nd cl)(hi:0<=i/\i<nd.length)(hj:0<=j/\j<nd.length)(hne:((ph nd cl i.toNat:Nat):Int)≠(ph nd cl j.toNat:Nat)):UnP nd cl i j (ph nd cl i.toNat) (ph nd cl j.toNat):=by
 obtain⟨a1,a2,a3⟩:=pP h (i:=i.toNat) J
 obtain⟨b1,b2,b3⟩:=pP h (i:=j.toNat) J
 have hab:ph nd cl i.toNat≠ph nd cl j.toNat:=fun e=>hne (aK _ e)
 exact⟨⟨hi,hj,fun e=>hab ((Qs h a1 b1 a2 b2 a3 b3).2 e)⟩,a1,b1,hab,a2,b2,.inl ⟨a3,b3⟩⟩
theorem UnP.swap(h:UnP nd cl i j a b):UnP nd cl i j b a:=by grind[UnP]
theorem asQ(h:¬(0<=i/\i<nd.length)):¬I5 nd.length cl i j:=fun q=>h q.1
theorem asR(h:¬(0<=j/\j<nd.length)):¬I5 nd.length cl i j:=fun q=>h q.2.1
theorem asS(h:Fo nd cl)(hi:0<=i/\i<nd.length)(hj:0<=j/\j<nd.length)(e:((ph nd cl i.toNat:Nat):Int)=(ph nd cl j.toNat:Nat)):¬I5 nd.length cl i j:=fun q=>q.2.2 (by
 obtain⟨a1,a2,a3⟩:=pP h (i:=i.toNat) J
 obtain⟨b1,b2,b3⟩:=pP h (i:=j.toNat) J
 exact(Qs h a1 b1 a2 b2 a3 b3).1 J)
theorem apW{v:Nat}(h:a<nd.length)(e:kS nd a=v)(hv:v<=1000000):((bE nd).getD (4*(a:Int)+1).toNat 0).toInt=(v:Int):=S4 ⟨J,J⟩ ((axr h).trans (by rw[e])) hv
theorem apX{v:Nat}(h:a<nd.length)(e:tQ nd a=v)(hv:v<=1000000):((bE nd).getD (4*(a:Int)+2).toNat 0).toInt=(v:Int):=S4 ⟨J,J⟩ ((apK h).trans (by rw[e])) hv
theorem apY{v:Nat}(h:a<nd.length)(e:rf nd a=v)(hv:v<=1000000):((bE nd).getD (4*(a:Int)+3).toNat 0).toInt=(v:Int):=S4 ⟨J,J⟩ ((apL h).trans (by rw[e])) hv
theorem Fo.small(h:Fo nd cl)(ha:a<nd.length):kS nd a<=nd.length/\tQ nd a<=nd.length:=⟨h.sn a ha,by obtain⟨_,_,t,_,q⟩:=h.szb ha;omega⟩
theorem Fo.aiA(h:Fo nd cl)(ha:a<nd.length)(hu:sX nd a=a):rf nd a<=nd.length:=by grind[Fo,sX,rf]
theorem axA(h:Fo nd cl)(p:UnP nd cl i j a b):Fo (pU nd a b) (iH cl (cr cl i.toNat) (cr cl j.toNat))/\leads (iH cl (cr cl i.toNat) (cr cl j.toNat))+1=leads cl:=by
 have h1:=h.join p.ha p.hb p.ab p.ua p.ub
 have h2:=Zw h p.ha p.hb p.ab p.ua p.ub
 rcases p.c with⟨e1,e2⟩|⟨e1,e2⟩
 .rw[e1,e2]at h1 h2;exact⟨h1,h2⟩
 rw[e1,e2,Zx]at h1 h2;exact⟨h1,h2⟩
theorem I6{x y:Nat}:(iH cl x y).length=cl.length:=by simp[iH]
end
theorem asT{W:List (BitVec 64)}{us:List jU}{tn:List Nat}{cs:List (List Nat)}(h:Hs W us tn cs)(hk:0<tn.length):∃t tn2 cl c2 cs2,tn=t::tn2/\cs=cl::c2::cs2:=by
 cases tn with
 |nil=>simp at hk
 |cons t tn2=>
  cases cs with
  |nil=>exact h.elim
  |cons cl cs=>
   cases cs with
   |nil=>exact h.elim
   |cons c2 cs2=>exact⟨t,tn2,cl,c2,cs2,rfl,rfl⟩
def Ki(tn:List Nat):List Int:=tn.reverse.map Int.ofNat
theorem xz(tn:List Nat):(Ki tn).length=tn.length:=by simp[Ki]
theorem G0(t:Nat)(tn:List Nat):Ki (t::tn)=Ki tn++[(t:Int)]:=by simp[Ki]
theorem asU{t:Nat}{tn:List Nat}{k:Int}(h:k=(tn.length:Int)):((Ki (t::tn)).map E.I)[k.toNat*1]?=some (E.I t):=by grind[G0,xz]
theorem VX{t:Nat}{tn:List Nat}:((Ki (t::tn)).map E.I).take (tn.length*1)=(Ki tn).map E.I:=by grind[G0,xz]
theorem anw{W:List (BitVec 64)}{us:List jU}{t:Nat}{tn:List Nat}{cl c2:List Nat}{cs:List (List Nat)}(h:Hs W us (t::tn) (cl::c2::cs)):∃nd nd2,W=bE nd/\Fo nd cl/\jI W us t=bE nd2/\Fo nd2 c2/\Hs (bE nd2) (us.take t) tn (c2::cs):=by
 obtain⟨nd,h1,h2⟩:=h.now
 obtain⟨nd2,h3,h4⟩:=h.back.now
 have:=h.back
 rw[h3]at this
 exact⟨nd,nd2,h1,h2,h3,h4,this⟩
theorem Nr(cl:List Nat):leads cl<=cl.length:=by grind[leads,cr]
theorem Hs.ZH{W:List (BitVec 64)}{us:List jU}{tn:List Nat}{cs:List (List Nat)}{cl:List Nat}(h:Hs W us tn (cl::cs)):cl.length<=tn.length:=by
 induction tn generalizing W us cl cs with
 |nil=>
  cases cs with
  |nil=>obtain⟨_,rfl,_⟩:=h;simp
  |cons c cs=>exact h.elim
 |cons t tn ih=>
  cases cs with
  |nil=>exact h.elim
  |cons c2 cs=>
   have h1:=ih h.back
   have h2:=h.cnt
   unfold GU at h2
   simp only[eG];omega
structure G1(ul mD:List (Value×jU))(tn JS:List Nat)(cs FP:List (List Nat))(W1:List (BitVec 64)):Prop where
 hs:Hs W1 (mD.map Prod.snd) JS FP
 ok:Nj W1.length (mD.map Prod.snd)
 sub:∀x∈mD,x∈ul
 le:mD.length<=ul.length
 cs:FP=cs.drop (tn.length-JS.length)
 tn:JS.length<=tn.length
section
variable{ul mD:List (Value×jU)}{tn JS:List Nat}{cs FP:List (List Nat)}{W1:List (BitVec 64)}
theorem G1.start(h:Hs W1 (ul.map Prod.snd) tn cs)(hok:Nj W1.length (ul.map Prod.snd)):G1 ul ul tn tn cs cs W1:=by grind[Hs,Nj,G1]
theorem G1.next{t:Nat}{cl c2:List Nat}{cs2:List (List Nat)}{nd2:List qN}(h:G1 ul mD tn (t::JS) cs (cl::c2::cs2) W1)(e:jI W1 (mD.map Prod.snd) t=bE nd2):G1 ul (mD.take t) tn JS cs (c2::cs2) (bE nd2):=by
 have ht:=h.hs.le
 rw[gA]at ht
 have hb:=h.hs.back
 rw[e,<-Cg]at hb
 have ho:=VE h.ok (t:=t) (by rw[gA];exact ht)
 rw[e,<-Cg]at ho
 have hn:=h.tn
 rw[eG]at hn
 refine⟨hb,ho,fun x hx=>h.sub x (uK hx),by rw[ef];have:=h.le;omega,?_,J⟩
 have hc:=h.cs
 rw[eG]at hc
 rw[show tn.length-JS.length=tn.length-(JS.length+1)+1 by omega,<-RK,<-hc];rfl
end
end
end Go.Proofs.YtlhjdflgjbkpmaaGreatDoor.M
namespace Go.Proofs.YtlhjdflgjbkpmaaGreatDoor.E
section
open Go Go.RowKit Go.Proofs.YtlhjdflgjbkpmaaGreatDoor.M
theorem Hp.anx{w0 w:World}{L:List bu}{v:Value}{e:TypeId}{sz n m i:Nat}{xs:List Value}(h:Hp w0 w L)(hi:L[i]?=some (.row v e sz n xs))(hm:m<=n):Hp w0 w (L.set i (.row (wR v m) e sz m (xs.take (m*sz)))):=by
 have hr:w.ownsRow w0.heap.size e sz v n xs:=h.get hi
 obtain⟨h1,h2⟩:=hr
 have hle:m*sz<=n*sz:=sr _ hm
 rcases h2 with⟨rfl,rfl⟩|⟨gb,cap,cur,rfl,hb,hg,hn,hc,hs,ht⟩
 .have:m=0:=J
  subst this
  refine h.xx hi O ⟨aJ,.inl ⟨rfl,rfl⟩⟩
 refine h.xx hi O ⟨by rw[ef,h1];omega,.inr ⟨gb,cap,cur,rfl,hb,hg,J,hc,hs,?_⟩⟩
 rw[<-ht,Ce];congr 1;omega
end
end Go.Proofs.YtlhjdflgjbkpmaaGreatDoor.E
namespace Go.Proofs.YtlhjdflgjbkpmaaGreatDoor.M
section
open Go
def bB(cs:List (List Nat)):List Nat:=cs.headD []
def S9(cs:List (List Nat)):List (List Nat):=(bB cs++[(bB cs).length])::cs
def ju(cs:List (List Nat))(i j:Int):List (List Nat)×Bool:=
 if fP (bB cs) i<0\/fP (bB cs) j<0\/fP (bB cs) i=fP (bB cs) j then(cs,false)
 else(iH (bB cs) (fP (bB cs) i).toNat (fP (bB cs) j).toNat::cs,true)
def CS(cs:List (List Nat))(m:Int):List (List Nat)×Bool:=
 if(cs.length:Int)-1<m then(cs,false)else(cs.drop (cs.length-1-(max 0 m).toNat),true)
theorem aen{cl:List Nat}{i:Int}:fP cl i<0↔¬(0<=i/\i<cl.length):=by grind[fP]
theorem I7{cs:List (List Nat)}{i j:Int}(h:I5 (bB cs).length (bB cs) i j):ju cs i j=(iH (bB cs) (cr (bB cs) i.toNat) (cr (bB cs) j.toNat)::cs,true):=by grind[I5,bB,ju,iH,cr,nj]
theorem Ns{cs:List (List Nat)}{i j:Int}(h:¬I5 (bB cs).length (bB cs) i j):ju cs i j=(cs,false):=by grind[I5,bB,ju,nj,aen]
end
end Go.Proofs.YtlhjdflgjbkpmaaGreatDoor.M
namespace Go.Proofs.YtlhjdflgjbkpmaaGreatDoor.E
section
open Go Go.RowKit Go.Proofs.YtlhjdflgjbkpmaaGreatDoor.M
structure FTy where
 ut:UT
 tf:TypeId
 tu:TypeId
 tfn:TypeId
 ti:TypeId
structure FoI(T:FTy)(F m:Nat)(cs:List (List Nat))(vW vU vT:Value)(cW cU:Option (Nat×Array Value))(W:List (BitVec 64))(ul:List (Value×jU))(tn:List Nat)(Lb:List bu):Prop where
 hW:cO cW vW (W.map U)
 hU:cO cU vU (ul.map Prod.fst)
 hs:Hs W (ul.map Prod.snd) tn cs
 ok:Nj W.length (ul.map Prod.snd)
 un:∀x∈ul,pV T.ut F Lb x
 lu:ul.length<=5*m
 lt:tn.length<=m
def foL(T:FTy)(F:Nat)(cs:List (List Nat))(vW vU vT:Value)(cW cU:Option (Nat×Array Value))(W:List (BitVec 64))(ul:List (Value×jU))(tn:List Nat)(Lb:List bu):List bu:=
 .blk F (.cells #[vW,vU,vT,I ((leads (bB cs):Nat):Int)] T.tf (0,0))::cE cW vW T.tu (W.map U)::cE cU vU T.tfn (ul.map Prod.fst):: .row vT T.ti 1 tn.length ((Ki tn).map I)::Lb
def FoZ(T:FTy)(F m:Nat)(cs:List (List Nat))(Z:List bu):Prop:=
 ∃(vW vU vT:Value) (cW cU:Option (Nat×Array Value)) (W:List (BitVec 64)) (ul:List (Value×jU)) (tn:List Nat) (Lb:List bu),Z=foL T F cs vW vU vT cW cU W ul tn Lb/\FoI T F m cs vW vU vT cW cU W ul tn Lb
theorem FoZ.more{T:FTy}{F m m':Nat}{cs:List (List Nat)}{Z:List bu}(h:FoZ T F m cs Z)(hm:m<=m'):FoZ T F m' cs Z:=by
 obtain⟨vW,vU,vT,cW,cU,W,ul,tn,Lb,e,i⟩:=h
 exact⟨vW,vU,vT,cW,cU,W,ul,tn,Lb,e,i.hW,i.hU,i.hs,i.ok,i.un,by have:=i.lu;omega,by have:=i.lt;omega⟩
theorem FoI.now{T:FTy}{F m:Nat}{cs:List (List Nat)}{vW vU vT:Value}{cW cU:Option (Nat×Array Value)}{W:List (BitVec 64)}{ul:List (Value×jU)}{tn:List Nat}{Lb:List bu}(h:FoI T F m cs vW vU vT cW cU W ul tn Lb):
  ∃nd cl Be,cs=cl::Be/\W=bE nd/\Fo nd cl/\nd.length=cl.length/\cl.length<=m/\tn.length+1=cs.length/\leads cl<=m:=by
 cases cs with
 |nil=>exact h.hs.ne.elim
 |cons cl Be=>
  obtain⟨nd,h1,h2⟩:=h.hs.now
  have h3:=h.hs.ZH;have h4:=h.lt;have h5:=Nr cl;have h6:=h.hs.len
  exact⟨nd,cl,Be,rfl,h1,h2,h2.len.symm,J,J,J⟩
theorem FoZ.new{T:FTy}{F:Nat}:FoZ T F 0 [[]] [.blk F (.cells #[.slice none 0 0,.slice none 0 0,.slice none 0 0,I 0] T.tf (0,0)),.row (.slice none 0 0) T.tu 1 0 [],.row (.slice none 0 0) T.tfn 1 0 [],.row (.slice none 0 0) T.ti 1 0 []]:=by
 refine⟨.slice none 0 0,.slice none 0 0,.slice none 0 0,none,none,[],[],[],[],rfl,trivial,trivial,Hs.start,trivial,fun x hx=>(by cases hx),aJ,aJ⟩
section
variable{α:Type}{f:α->Value}{cl:α->List Value}{l:List α}{a:α}
theorem aiC{k:Nat}(hk:k<l.length):qX (l.map f) (k*1) [f a]=(l.set k a).map f:=by simp_all[CQ]
theorem D7{sz:Nat}(hsz:∀a,(cl a).length=sz):∀{l:List α} {k:Nat},k<l.length->qX (l.flatMap cl) (k*sz) (cl a)=(l.set k a).flatMap cl
 |[],k,h=>by simp at h
 |b::l,0,h=>by
  simp only[qX,RR,xQ,eR,gQ,uM,jd,hsz]
  rw[Ll (by rw[hsz];exact eu _),Lr (by rw[hsz];exact eu _),eR]
 |b::l,k+1,h=>by
  have ih:=D7 hsz (l:=l) (k:=k) yc
  have hb:=hsz b
  simp only[qX,hsz,uM,lf]at ih⊢
  rw[<-ih,show(k+1)*sz=(cl b).length+k*sz by rw[hb,lF];omega,XM,show(cl b).length+k*sz+sz=(cl b).length+(k*sz+sz)by omega,List.drop_length_add_append,dH,dH,dH]
theorem QB{sz:Nat}(hsz:∀a,(cl a).length=sz):∀{l:List α} {m:Nat},m<=l.length->(l.flatMap cl).take (m*sz)=(l.take m).flatMap cl
 |l,0,h=>by simp
 |[],m+1,h=>by simp at h
 |b::l,m+1,h=>by
  have ih:=QB hsz (l:=l) (m:=m) yc
  have hb:=hsz b
  rw[uM,HM,uM,<-ih,show(m+1)*sz=(cl b).length+m*sz by rw[hb,lF];omega,XM]
end
section
variable{P:Program}{n:Nat}{ops:Array Oper}{k:K}{rest lo:List Oper}{σ:Env}{w0 w:World}{L L':List bu}{ty t e:TypeId}{pos:String}{bO:Array Edge}{d:Nat}{x y:Operand}{g:Option (Nat×Bool)}{v u:Value}{sz m i fuel j:Nat}{q:Int}{dst:Option Tmp}{listed:Array Bool}
variable{α:Type}{f:α->Value}{cl:α->List Value}{l:List α}{a:α}
abbrev jY(f:α->Value)(v:Value)(e:TypeId)(l:List α):bu:= .row v e 1 l.length (l.map f)
abbrev wu(cl:α->List Value)(sz:Nat)(v:Value)(e:TypeId)(l:List α):bu:= .row v e sz l.length (l.flatMap cl)
theorem abR(hH:Hp w0 w L)(hi:L[i]?=some (jY f v e l))(hk:0<=q/\q<l.length)(hx:ev σ x= .pointer (some ⟨sb v,so v+q.toNat*1,none⟩))(hy:ev σ y=f a)(hv:(f a).cells=#[f a])(h1:(f a).oneCell'=true)(hs:(P.info? t).map (·.size)=some 1):
  ∃w',(execOp (ev σ) ⟨dst,.store t x y,ty,pos,bO,g⟩).run P w= .ok .skip w'/\Hp w0 w' (L.set i (jY f v e (l.set q.toNat a))):=by
 obtain⟨w',hr,h2⟩:=GQ (dst:=dst) (ty:=ty) (pos:=pos) (bO:=bO) (g:=g) hH hi J hx hy hv h1 hs J
 rw[aiC J]at h2
 exact⟨w',hr,by unfold jY;rw[n8];exact h2⟩
theorem rN(hH:Hp w0 w L)(hi:L[i]?=some (jY f v e l))(hk:0<=q/\q<l.length)(hx:ev σ x= .pointer (some ⟨sb v,so v+q.toNat*1,none⟩))(hy:ev σ y=f a)(hv:(f a).cells=#[f a])(h1:(f a).oneCell'=true)(hs:(P.info? t).map (·.size)=some 1)
  (hn:∀w',Hp w0 w' (L.set i (jY f v e (l.set q.toNat a)))->RL P n ops k rest σ w'):RL P n ops k (⟨none,.store t x y,ty,pos,bO,none⟩::rest) σ w:=by
 obtain⟨w',hr,h2⟩:=abR (dst:=none) (ty:=ty) (pos:=pos) (bO:=bO) (g:=none) hH hi hk hx hy hv h1 hs
 exact Il hr (hn w' h2)
theorem ZI(hj:lo[j]?=some ⟨none,.store t x y,ty,pos,bO,g⟩)(hg:∀a,Is n σ a->Region.wanted ⟨none,.store t x y,ty,pos,bO,g⟩ (yielded lo.toArray a.tmps)=true)(hH:Hp w0 w L)(hi:L[i]?=some (jY f v e l))(hsub:∀r,L'.Sublist (L.set i r))(hk:0<=q/\q<l.length)
  (hx:ev σ x= .pointer (some ⟨sb v,so v+q.toNat*1,none⟩)) (hy:ev σ y=f a) (hv:(f a).cells=#[f a]) (h1:(f a).oneCell'=true) (hs:(P.info? t).map (·.size)=some 1)
  (hn:∀w',Hp w0 w' (L.set i (jY f v e (l.set q.toNat a)))->AN P n lo (fun w=>Hp w0 w L') k fuel (listed.setIfInBounds j true) σ w'):AO P n lo (fun w=>Hp w0 w L') k fuel listed σ w j:=by
 obtain⟨w',hr,h2⟩:=abR (dst:=none) (ty:=ty) (pos:=pos) (bO:=bO) (g:=g) hH hi hk hx hy hv h1 hs
 exact Iq hj hg hr (h2.sub (hsub _)) (hn w' h2)
theorem abS(hsz:∀a,(cl a).length=sz)(hpos:0<sz)(hH:Hp w0 w L)(hi:L[i]?=some (wu cl sz v e l))(hk:0<=q/\q<l.length)(hx:ev σ x= .pointer (some ⟨sb v,so v+q.toNat*sz,none⟩))(hy:ev σ y= .agg (cl a).toArray)(h1:∀u∈cl a,u.oneCell'=true)(hs:(P.info? t).map (·.size)=some sz):
  ∃w',(execOp (ev σ) ⟨dst,.store t x y,ty,pos,bO,g⟩).run P w= .ok .skip w'/\Hp w0 w' (L.set i (wu cl sz v e (l.set q.toNat a))):=by
 obtain⟨w',hr,h2⟩:=Zg (dst:=dst) (ty:=ty) (pos:=pos) (bO:=bO) (g:=g) hH hi J hx hy h1 (by rw[hsz];exact hs) (by
  rw[hsz]
  have:(q.toNat+1)*sz<=l.length*sz:=sr _ J
  rw[lF]at this;omega)
 rw[D7 hsz J]at h2
 exact⟨w',hr,by unfold wu;rw[n8];exact h2⟩
theorem aEC(hsz:∀a,(cl a).length=sz)(hpos:0<sz)(hH:Hp w0 w L)(hi:L[i]?=some (wu cl sz v e l))(hk:0<=q/\q<l.length)(hx:ev σ x= .pointer (some ⟨sb v,so v+q.toNat*sz,none⟩))(hy:ev σ y= .agg (cl a).toArray)(h1:∀u∈cl a,u.oneCell'=true)(hs:(P.info? t).map (·.size)=some sz)
  (hn:∀w',Hp w0 w' (L.set i (wu cl sz v e (l.set q.toNat a)))->RL P n ops k rest σ w'):RL P n ops k (⟨none,.store t x y,ty,pos,bO,none⟩::rest) σ w:=by
 obtain⟨w',hr,h2⟩:=abS (dst:=none) (ty:=ty) (pos:=pos) (bO:=bO) (g:=none) hsz hpos hH hi hk hx hy h1 hs
 exact Il hr (hn w' h2)
theorem ZJ(hj:lo[j]?=some ⟨none,.store t x y,ty,pos,bO,g⟩)(hg:∀a,Is n σ a->Region.wanted ⟨none,.store t x y,ty,pos,bO,g⟩ (yielded lo.toArray a.tmps)=true)(hsz:∀a,(cl a).length=sz)(hpos:0<sz)(hH:Hp w0 w L)(hi:L[i]?=some (wu cl sz v e l))(hsub:∀r,L'.Sublist (L.set i r))(hk:0<=q/\q<l.length)
  (hx:ev σ x= .pointer (some ⟨sb v,so v+q.toNat*sz,none⟩)) (hy:ev σ y= .agg (cl a).toArray) (h1:∀u∈cl a,u.oneCell'=true) (hs:(P.info? t).map (·.size)=some sz)
  (hn:∀w',Hp w0 w' (L.set i (wu cl sz v e (l.set q.toNat a)))->AN P n lo (fun w=>Hp w0 w L') k fuel (listed.setIfInBounds j true) σ w'):AO P n lo (fun w=>Hp w0 w L') k fuel listed σ w j:=by
 obtain⟨w',hr,h2⟩:=abS (dst:=none) (ty:=ty) (pos:=pos) (bO:=bO) (g:=g) hsz hpos hH hi hk hx hy h1 hs
 exact Iq hj hg hr (h2.sub (hsub _)) (hn w' h2)
theorem anz{off:Nat}{b:α}(hsz:∀a,(cl a).length=sz)(hH:Hp w0 w L)(hi:L[i]?=some (wu cl sz v e l))(hk:0<=q/\q<l.length)(hx:ev σ x= .pointer (some ⟨sb v,so v+q.toNat*sz+off,none⟩))(hy:ev σ y=u)(hv:u.cells=#[u])(h1:u.oneCell'=true)(hs:(P.info? t).map (·.size)=some 1)
  (ho:off<sz) (hb:cl b=(cl (l.getD q.toNat a)).set off u):
  ∃w',(execOp (ev σ) ⟨dst,.store t x y,ty,pos,bO,g⟩).run P w= .ok .skip w'/\Hp w0 w' (L.set i (wu cl sz v e (l.set q.toNat b))):=by
 have hle:(q.toNat+1)*sz<=l.length*sz:=sr _ J
 rw[lF]at hle
 obtain⟨w',hr,h2⟩:=GQ (dst:=dst) (ty:=ty) (pos:=pos) (bO:=bO) (g:=g) (o:=q.toNat*sz+off) hH hi J (by rw[hx,xW]) hy hv h1 hs J
 have e1:qX (l.flatMap cl) (q.toNat*sz+off) [u]=qX (l.flatMap cl) (q.toNat*sz) (cl b):=by
  rw[CQ (by rw[fO hsz];omega)]
  apply uu
  intro p
  have hg:=fun j c h=>flat_get hsz l q.toNat (l.getD q.toNat a) (fG hk.1 hk.2) j c h
  rw[qh,fO hsz]
  have lb:=hsz b
  unfold qX
  by_cases h1:p<q.toNat*sz
  .rw[aW J,dH,zL (by rw[ef,fO hsz];omega),vx,aY h1]
  by_cases h2:p<q.toNat*sz+sz
  .rw[dH,E9 (by rw[ef,fO hsz];omega),ef,fO hsz,qB J,zL J,hb,qh,hsz]
   by_cases h3:q.toNat*sz+off=p
   .rw[aY h3,aY J,aY J,aY J]
   rw[aW h3,aW J]
   have hl:p-q.toNat*sz<(cl (l.getD q.toNat a)).length:=by rw[hsz];omega
   have:=hg (p-q.toNat*sz) _ (eF hl)
   rw[show q.toNat*sz+(p-q.toNat*sz)=p by omega]at this
   rw[this,eF hl]
  rw[aW J,E9 (by simp only[ed,ef,fO hsz,lb];omega),Cb]
  congr 1
  simp only[ed,ef,fO hsz,lb];omega
 rw[e1,D7 hsz J]at h2
 exact⟨w',hr,by unfold wu;rw[n8];exact h2⟩
theorem asV{off:Nat}{b:α}(hsz:∀a,(cl a).length=sz)(hH:Hp w0 w L)(hi:L[i]?=some (wu cl sz v e l))(hk:0<=q/\q<l.length)(hx:ev σ x= .pointer (some ⟨sb v,so v+q.toNat*sz+off,none⟩))(hy:ev σ y=u)(hv:u.cells=#[u])(h1:u.oneCell'=true)(hs:(P.info? t).map (·.size)=some 1)
  (ho:off<sz) (hb:cl b=(cl (l.getD q.toNat a)).set off u) (hn:∀w',Hp w0 w' (L.set i (wu cl sz v e (l.set q.toNat b)))->RL P n ops k rest σ w'):RL P n ops k (⟨none,.store t x y,ty,pos,bO,none⟩::rest) σ w:=by
 obtain⟨w',hr,h2⟩:=anz (dst:=none) (ty:=ty) (pos:=pos) (bO:=bO) (g:=none) (a:=a) hsz hH hi hk hx hy hv h1 hs ho hb
 exact Il hr (hn w' h2)
theorem asW{ie:TypeInfo}{z:Value}{bytes:Nat}(hd:Nat.blt d n=true)(hH:Hp w0 w L)(hL:L[i]?=some (jY f v e l))(hS:Sl w u 1 1 [f a])(hx:ev σ x=v)(hy:ev σ y=u)(ht:P.underlying t=some (.slice e))(hie:P.info? e=some ie)(hz:ie.zero=some z)
  (hsize:ie.size=1) (hby:ie.bytes=bytes) (hzs:z.cells.size=1) (h1:(f a).oneCell'=true) (hb:l.length+1<=700000000000) (Ip:bytes<=200)
  (hn:∀v' w',Hp w0 w' (L.set i (jY f v' e (l++[a])))->RL P n ops k rest (me σ d v') w'):RL P n ops k (⟨some d,.call {callee:= .builtin .append,args:=#[x,y],argTypes:=#[t,t]},ty,pos,bO,none⟩::rest) σ w:=by
 refine gh hd hH hL hS hx hy ht hie hz hsize hby hzs J (fun u hu=>by rw[gG.1 hu];exact h1) (kf (xV hb Ip) az) iA fun v' w' h=>hn v' w' ?_
 unfold jY;rw[ed,gP];exact h
theorem Ta{ie:TypeInfo}{z:Value}{bytes:Nat}(hj:lo[j]?=some ⟨some d,.call {callee:= .builtin .append,args:=#[x,y],argTypes:=#[t,t]},ty,pos,bO,g⟩)(hg:∀a,Is n σ a->Region.wanted ⟨some d,.call {callee:= .builtin .append,args:=#[x,y],argTypes:=#[t,t]},ty,pos,bO,g⟩ (yielded lo.toArray a.tmps)=true)
  (hd:Nat.blt d n=true) (hH:Hp w0 w L) (hL:L[i]?=some (jY f v e l)) (hsub:∀r,L'.Sublist (L.set i r)) (hS:Sl w u 1 1 [f a]) (hx:ev σ x=v) (hy:ev σ y=u) (ht:P.underlying t=some (.slice e)) (hie:P.info? e=some ie) (hz:ie.zero=some z)
  (hsize:ie.size=1) (hby:ie.bytes=bytes) (hzs:z.cells.size=1) (h1:(f a).oneCell'=true) (hb:l.length+1<=700000000000) (Ip:bytes<=200)
  (hn:∀v' w',Hp w0 w' (L.set i (jY f v' e (l++[a])))->AN P n lo (fun w=>Hp w0 w L') k fuel (listed.setIfInBounds j true) (me σ d v') w'):AO P n lo (fun w=>Hp w0 w L') k fuel listed σ w j:=by
 refine fB hj hg hd hH hL (fun _=>hsub _) hS hx hy ht hie hz hsize hby hzs J (fun u hu=>by rw[gG.1 hu];exact h1) (kf (xV hb Ip) az) iA fun v' w' h=>hn v' w' ?_
 unfold jY;rw[ed,gP];exact h
theorem asX{ie:TypeInfo}{z:Value}{bytes:Nat}(hsz:∀a,(cl a).length=sz)(hpos:0<sz)(hd:Nat.blt d n=true)(hH:Hp w0 w L)(hL:L[i]?=some (wu cl sz v e l))(hS:Sl w u sz [a].length ([a].flatMap cl))(hx:ev σ x=v)(hy:ev σ y=u)(ht:P.underlying t=some (.slice e))(hie:P.info? e=some ie)(hz:ie.zero=some z)
  (hsize:ie.size=sz) (hby:ie.bytes=bytes) (hzs:z.cells.size=sz) (h1:∀u∈cl a,u.oneCell'=true) (hb:l.length+1<=700000000000) (Ip:bytes<=200)
  (hn:∀v' w',Hp w0 w' (L.set i (wu cl sz v' e (l++[a])))->RL P n ops k rest (me σ d v') w'):RL P n ops k (⟨some d,.call {callee:= .builtin .append,args:=#[x,y],argTypes:=#[t,t]},ty,pos,bO,none⟩::rest) σ w:=by
 refine gh hd hH hL hS hx hy ht hie hz hsize hby hzs hpos (fun u hu=>h1 u pz) (kf (xV hb Ip) az) (by simp only[maxLen,ey];omega) fun v' w' h=>hn v' w' ?_
 unfold wu;rw[ed,Gn];exact h
theorem Tb{ie:TypeInfo}{z:Value}{bytes:Nat}(hj:lo[j]?=some ⟨some d,.call {callee:= .builtin .append,args:=#[x,y],argTypes:=#[t,t]},ty,pos,bO,g⟩)(hg:∀a,Is n σ a->Region.wanted ⟨some d,.call {callee:= .builtin .append,args:=#[x,y],argTypes:=#[t,t]},ty,pos,bO,g⟩ (yielded lo.toArray a.tmps)=true)
  (hsz:∀a,(cl a).length=sz) (hpos:0<sz) (hd:Nat.blt d n=true) (hH:Hp w0 w L) (hL:L[i]?=some (wu cl sz v e l)) (hsub:∀r,L'.Sublist (L.set i r)) (hS:Sl w u sz [a].length ([a].flatMap cl)) (hx:ev σ x=v) (hy:ev σ y=u) (ht:P.underlying t=some (.slice e)) (hie:P.info? e=some ie) (hz:ie.zero=some z)
  (hsize:ie.size=sz) (hby:ie.bytes=bytes) (hzs:z.cells.size=sz) (h1:∀u∈cl a,u.oneCell'=true) (hb:l.length+1<=700000000000) (Ip:bytes<=200)
  (hn:∀v' w',Hp w0 w' (L.set i (wu cl sz v' e (l++[a])))->AN P n lo (fun w=>Hp w0 w L') k fuel (listed.setIfInBounds j true) (me σ d v') w'):AO P n lo (fun w=>Hp w0 w L') k fuel listed σ w j:=by
 refine fB hj hg hd hH hL (fun _=>hsub _) hS hx hy ht hie hz hsize hby hzs hpos (fun u hu=>h1 u pz) (kf (xV hb Ip) az) (by simp only[maxLen,ey];omega) fun v' w' h=>hn v' w' ?_
 unfold wu;rw[ed,Gn];exact h
theorem asY{ie:TypeInfo}{z:Value}{bytes:Nat}{c:Option (Nat×Array Value)}(hd:Nat.blt d n=true)(hH:Hp w0 w L)(hL:L[i]?=some (cE c v e (l.map f)))(hk:cO c v (l.map f))(hS:Sl w u 1 1 [f a])(hx:ev σ x=v)(hy:ev σ y=u)(ht:P.underlying t=some (.slice e))(hie:P.info? e=some ie)(hz:ie.zero=some z)
  (hsize:ie.size=1) (hby:ie.bytes=bytes) (hzs:z.cells.size=1) (h1:(f a).oneCell'=true) (hb:l.length+1<=700000000000) (Ip:bytes<=200)
  (hn:∀v' w',Hp w0 w' (L.set i (cE none v' e ((l++[a]).map f)))->RL P n ops k rest (me σ d v') w'):RL P n ops k (⟨some d,.call {callee:= .builtin .append,args:=#[x,y],argTypes:=#[t,t]},ty,pos,bO,none⟩::rest) σ w:=by
 have hll:(l.map f).length=l.length:=gA ..
 obtain⟨v',w',hr,h2⟩:=VN (P:=P) (ty:=ty) (dst:=some d) (pos:=pos) (bO:=bO) (g:=none) (ats:=t) hH hL hk hS hx hy ht hie hz hsize hby hzs J (fun u hu=>by rw[gG.1 hu];exact h1) J (by rw[hll];exact kf (xV hb Ip) az) (by rw[hll];simp only[maxLen];omega)
 refine pA hd hr (hn v' w' ?_)
 unfold cE VM;rw[gP,ed];exact h2
theorem lT{dv:α}{q:Int}(h:0<=q/\q<l.length):(l.map f)[q.toNat*1]?=some (f (l.getD q.toNat dv)):=by grind
theorem Hp.aED(h:Hp w0 w L)(hi:L[i]?=some (jY f v e l))(hm:m<=l.length):Hp w0 w (L.set i (jY f (wR v m) e (l.take m))):=by
 have:=h.anx hi hm
 unfold jY;rw[ef,qB hm,Cg]
 rwa[l9]at this
theorem Hp.axC(hsz:∀a,(cl a).length=sz)(h:Hp w0 w L)(hi:L[i]?=some (wu cl sz v e l))(hm:m<=l.length):Hp w0 w (L.set i (wu cl sz (wR v m) e (l.take m))):=by
 have:=h.anx hi hm
 unfold wu;rw[ef,qB hm,<-QB hsz hm];exact this
end
theorem aiD{s1 s2:List Int}{a k:Int}(h:(s1++a::s2).getD k.toNat 0≠a)(h0:(s1.length:Int)<=k):(s1.length:Int)<k:=by grind
theorem asZ{s1 s2:List Int}{a k:Int}(hn:a∉s2)(h:(s1++a::s2).getD k.toNat 0=a)(h0:(s1.length:Int)<=k)(h1:k<=s1.length+s2.length):k=s1.length:=by grind
theorem dy{α:Type}{l:List α}{d:α}{k:Int}(h0:0<=k)(h1:k<l.length):l.getD k.toNat d∈l:=by grind
theorem as0{p:Nat->Prop}{k:Int}(h0:0<=k)(h:∀q:Nat,q<k.toNat->p q)(hk:p k.toNat):∀q:Nat,q<(k+1).toNat->p q:=by grind
theorem D8{w:World}{v:Value}{s1 s2:List Int}{a k:Int}(hk:k=s1.length)(h:Sl w v 1 ((s1++a::s2).map I).length ((s1++a::s2).map I)):Sl w (pg v 1 k.toNat) 1 (a::s2).length ((a::s2).map I):=by
 have:=Sl.fr h s1.length aJ
 subst hk
 rw[eC]
 rw[show((s1++a::s2).map I).length-s1.length=(a::s2).length by simp,l9,gP,Ll aJ,Lr aJ,eR]at this
 exact this
theorem aeo{P:Program}{σ:Env}{w:World}{t te ty u:TypeId}{pos:String}{bO:Array Edge}{dst:Option Tmp}{g:Option (Nat×Bool)}{x y:Operand}{a:Addr}(ht:P.underlying t=some (.pointer te))(hx:ev σ x= .pointer (some a))(hy:ev σ y= .pointer none):
  (execOp (ev σ) ⟨dst,.binOp .neq t x y u,ty,pos,bO,g⟩).run P w= .ok (.value (.bool true)) w:=by
 have h:(binOp .neq t (.pointer (some a)) (.pointer none)).run P w= .ok (.bool true) w:=by
  simp only[binOp];simp[Op.equal,Op.maxDepth,FM 9999 ht]
 have he:(eqGuard .neq t x y (.pointer (some a)) (.pointer none))=pure ():=rfl
 simp only[execOp,hx,hy,he];simp[h]
theorem VY{P:Program}{σ:Env}{w:World}{ty:TypeId}{pos:String}{bO:Array Edge}{dst:Option Tmp}{g:Option (Nat×Bool)}{x1 x2 x3 x4:Operand}{v1 v2 v3 v4:Value}{fn:Fn}(h1:ev σ x1=v1)(h2:ev σ x2=v2)(h3:ev σ x3=v3)(h4:ev σ x4=v4):(execOp (ev σ) ⟨dst,.makeFunc fn #[] #[x1,x2,x3,x4],ty,pos,bO,g⟩).run P w= .ok (.value (.func fn #[] #[v1,v2,v3,v4])) w:=by simp_all[uU]
structure j5 where
 v:Value
 l:List Int
def de:j5:=⟨.slice none 0 0,[]⟩
def GrV(K:Vu)(v:Value)(g:List j5):Prop:=oE K v 1 g.length (g.map j5.v)/\∀x∈g,oE K x.v 1 x.l.length (x.l.map I)
theorem GrV.mono{K K':Vu}{v:Value}{g:List j5}(h:GrV K v g)(hl:Le K K'):GrV K' v g:=⟨h.1.mono hl,fun x hx=>(h.2 x hx).mono hl⟩
theorem GrV.row{K:Vu}{v:Value}{g:List j5}(h:GrV K v g){k:Int}(h0:0<=k)(h1:k<g.length):oE K (g.getD k.toNat de).v 1 (g.getD k.toNat de).l.length ((g.getD k.toNat de).l.map I):=h.2 _ (dy h0 h1)
theorem GrV.at{K:Vu}{v:Value}{g:List j5}(h:GrV K v g){k:Int}(h0:0<=k/\k<g.length):(g.map j5.v)[k.toNat*1]?=some (g.getD k.toNat de).v:=lT h0
def qu(g:List j5):List (List Int):=g.map j5.l
theorem FQ{g:List j5}{k:Nat}:(qu g).getD k []=(g.getD k de).l:=by grind[j5,qu,de]
theorem gz{g:List j5}:(qu g).length=g.length:=gA ..
def dS(t:TypeId)(x:j5):bu:= .row x.v t 1 x.l.length (x.l.map I)
theorem Hp.QC{w0 w:World}{L:List bu}{t:TypeId}{x:j5}(h:Hp w0 w L)(hm:dS t x∈L):Sl w x.v 1 x.l.length (x.l.map I):=Sl.Ss (h.ok _ hm)
theorem Hp.amV{w0 w:World}{L:List bu}(t:TypeId)(h:Hp w0 w L):∀n:Nat,Hp w0 w ((List.replicate n de).map (dS t)++L)
 |0=>h
 |n+1=>(h.amV t n).eI t 1
section
variable{P:Program}{n:Nat}{ops:Array Oper}{k:K}{rest lo:List Oper}{σ:Env}{w0 w:World}{A R L':List bu}{ty t e tE:TypeId}{pos:String}{bO:Array Edge}{d:Nat}{x y:Operand}{g:Option (Nat×Bool)}{v u:Value}{fuel j:Nat}{q:Int}{dst:Option Tmp}{listed:Array Bool}{gs:List j5}{a:Int}
theorem ZK(hq:0<=q/\q<gs.length):(A++(gs.map (dS tE)++R))[A.length+q.toNat]?=some (dS tE (gs.getD q.toNat de)):=by grind
theorem anB{x:j5}(hq:0<=q/\q<gs.length):(A++(gs.map (dS tE)++R)).set (A.length+q.toNat) (dS tE x)=A++((gs.set q.toNat x).map (dS tE)++R):=kD
theorem Hp.hdr(h:Hp w0 w (A++(gs.map (dS tE)++R)))(hq:0<=q/\q<gs.length):(gs.getD q.toNat de).v.cells=#[(gs.getD q.toNat de).v]/\(gs.getD q.toNat de).v.oneCell'=true:=aZ (h.get (ZK hq))
theorem Hp.axE{r:j5}(h:Hp w0 w (A++((gs.set q.toNat r).map (dS tE)++R)))(hq:0<=q/\q<gs.length):r.v.cells=#[r.v]/\r.v.oneCell'=true:=by
 have h1:=h.hdr (q:=q) (by rw[n8];exact hq)
 have e:(gs.set q.toNat r).getD q.toNat de=r:=by rw[eV,qh,aY O,aY J];rfl
 rwa[e]at h1
theorem abT{ie:TypeInfo}{z:Value}{bytes:Nat}(hH:Hp w0 w (A++(gs.map (dS tE)++R)))(hq:0<=q/\q<gs.length)(hS:Sl w u 1 1 [I a])(hx:ev σ x=(gs.getD q.toNat de).v)(hy:ev σ y=u)(ht:P.underlying t=some (.slice tE))(hie:P.info? tE=some ie)(hz:ie.zero=some z)
  (hsize:ie.size=1) (hby:ie.bytes=bytes) (hzs:z.cells.size=1) (hb:(gs.getD q.toNat de).l.length+1<=700000000000) (Ip:bytes<=200):
  ∃v' w',(execOp (ev σ) ⟨dst,.call {callee:= .builtin .append,args:=#[x,y],argTypes:=#[t,t]},ty,pos,bO,g⟩).run P w= .ok (.value v') w'/\Hp w0 w' (A++((gs.set q.toNat ⟨v',(gs.getD q.toNat de).l++[a]⟩).map (dS tE)++R)):=by
 obtain⟨v',w',hr,h2,h3,h4⟩:=tB (P:=P) (ty:=ty) ht hie hz hsize hby hzs J (hH.get (ZK hq)) hS (fun u hu=>by rw[gG.1 hu];rfl) iA (kf (xV hb Ip) az) hH.size
 have h5:=hH.yN (ZK hq) h2 h3 h4
 refine⟨v',w',th hx hy hr,?_⟩
 rw[<-anB hq]
 unfold dS;rw[ed,gP];exact h5
theorem aEE{ie:TypeInfo}{z:Value}{bytes:Nat}(hd:Nat.blt d n=true)(hH:Hp w0 w (A++(gs.map (dS tE)++R)))(hq:0<=q/\q<gs.length)(hS:Sl w u 1 1 [I a])(hx:ev σ x=(gs.getD q.toNat de).v)(hy:ev σ y=u)(ht:P.underlying t=some (.slice tE))(hie:P.info? tE=some ie)(hz:ie.zero=some z)
  (hsize:ie.size=1) (hby:ie.bytes=bytes) (hzs:z.cells.size=1) (hb:(gs.getD q.toNat de).l.length+1<=700000000000) (Ip:bytes<=200)
  (hn:∀v' w',Hp w0 w' (A++((gs.set q.toNat ⟨v',(gs.getD q.toNat de).l++[a]⟩).map (dS tE)++R))->RL P n ops k rest (me σ d v') w'):RL P n ops k (⟨some d,.call {callee:= .builtin .append,args:=#[x,y],argTypes:=#[t,t]},ty,pos,bO,none⟩::rest) σ w:=by
 obtain⟨v',w',hr,h2⟩:=abT (P:=P) (ty:=ty) (dst:=some d) (pos:=pos) (bO:=bO) (g:=none) hH hq hS hx hy ht hie hz hsize hby hzs hb Ip
 exact pA hd hr (hn v' w' h2)
theorem aiF{ie:TypeInfo}{z:Value}{bytes:Nat}(hj:lo[j]?=some ⟨some d,.call {callee:= .builtin .append,args:=#[x,y],argTypes:=#[t,t]},ty,pos,bO,g⟩)(hg:∀a,Is n σ a->Region.wanted ⟨some d,.call {callee:= .builtin .append,args:=#[x,y],argTypes:=#[t,t]},ty,pos,bO,g⟩ (yielded lo.toArray a.tmps)=true)
  (hd:Nat.blt d n=true) (hH:Hp w0 w (A++(gs.map (dS tE)++R))) (hsub:∀Y,L'.Sublist (A++(Y++R))) (hq:0<=q/\q<gs.length) (hS:Sl w u 1 1 [I a]) (hx:ev σ x=(gs.getD q.toNat de).v) (hy:ev σ y=u) (ht:P.underlying t=some (.slice tE)) (hie:P.info? tE=some ie) (hz:ie.zero=some z)
  (hsize:ie.size=1) (hby:ie.bytes=bytes) (hzs:z.cells.size=1) (hb:(gs.getD q.toNat de).l.length+1<=700000000000) (Ip:bytes<=200)
  (hn:∀v' w',Hp w0 w' (A++((gs.set q.toNat ⟨v',(gs.getD q.toNat de).l++[a]⟩).map (dS tE)++R))->AN P n lo (fun w=>Hp w0 w L') k fuel (listed.setIfInBounds j true) (me σ d v') w'):AO P n lo (fun w=>Hp w0 w L') k fuel listed σ w j:=by
 obtain⟨v',w',hr,h2⟩:=abT (P:=P) (ty:=ty) (dst:=some d) (pos:=pos) (bO:=bO) (g:=g) hH hq hS hx hy ht hie hz hsize hby hzs hb Ip
 exact CB hj hg hd hr (h2.sub (hsub _)) (hn v' w' h2)
end
structure Mk where
 i:Nat
 d:Nat
 op:Op
 ty:TypeId
 pos:String
 bO:Array Edge
 f:Nat->Value
 o:Obj
abbrev Mk.q(p:Mk):Oper:=⟨some p.d,p.op,p.ty,p.pos,p.bO,none⟩
def aiG(l:List Oper):Nat->Array Bool->List Nat->Bool
 |0,_,is=>is.isEmpty
 |m+1,a,is=>(Region.ready .any l.toArray a==is)&&is.all fun i=>aiG l m (a.setIfInBounds i true) (is.erase i)
def ldM(a:Array Bool)(ps:List Mk):Array Bool:=ps.foldl (fun a p=>a.setIfInBounds p.i true) a
def Eh(σ:Env)(β:Nat->Nat)(ps:List Mk):Env:=ps.foldl (fun σ p=>me σ p.d (p.f (β p.d))) σ
abbrev VZ(β:Nat->Nat)(p:Mk):bu:= .blk (β p.d) p.o
theorem Tc{a:Array Bool}:∀{ps:List Mk} {a:Array Bool} {j:Nat},(ldM a ps)[j]?=if j∈ps.map Mk.i/\j<a.size then some true else a[j]?
 |[],a,j=>by simp[ldM]
 |p::ps,a,j=>by
  show(ldM (a.setIfInBounds p.i true) ps)[j]?=_
  rw[Tc (a:=a),XQ,EA]
  by_cases h:j<a.size
  .by_cases h1:j∈ps.map Mk.i
   .rw[aY ⟨h1,h⟩,aY ⟨by simp[h1],h⟩]
   rw[aW fun q=>h1 q.1]
   by_cases h2:p.i=j
   .subst h2;rw[aY O,aY h,aY ⟨aJ,h⟩]
   rw[aW h2,aW fun q=>by
    have:=q.1
    rw[lZ,c8]at this
    exact this.elim (fun e=>h2 e.symm) h1]
  have e1:(if j∈ps.map Mk.i/\j<a.size then some true else(if p.i=j then(if p.i<a.size then some true else none)else a[j]?))=a[j]?:=by
   rw[aW fun q=>h q.2]
   by_cases h2:p.i=j
   .subst h2;rw[aY O,aW h,XT J]
   rw[aW h2]
  have e2:(if j∈(p::ps).map Mk.i/\j<a.size then some true else a[j]?)=a[j]?:=aW fun q=>h q.2
  exact e1.trans e2.symm
theorem aiH{a:Array Bool}{ps qs:List Mk}(h:ps.Perm qs):ldM a ps=ldM a qs:=by
 apply X3
 intro j
 rw[Tc (a:=a),Tc (a:=a)]
 have:j∈ps.map Mk.i↔j∈qs.map Mk.i:=(h.map Mk.i).mem_iff
 by_cases c:j∈ps.map Mk.i
 .simp[c,this.1 c]
 rw[aW fun q=>c q.1,aW fun q=>c (this.2 q.1)]
theorem CT{σ:Env}{β:Nat->Nat}:∀{ps:List Mk} {σ:Env} {s:Nat},s∉ps.map Mk.d->Eh σ β ps s=σ s
 |[],σ,s,_=>rfl
 |p::ps,σ,s,h=>by
  rw[lZ,c8,not_or]at h
  show Eh (me σ p.d (p.f (β p.d))) β ps s=_
  rw[CT (σ:=σ) h.2,YH _ _ h.1]
theorem abU{β:Nat->Nat}(ps:List Mk):∀(σ:Env) (p:Mk),(ps.map Mk.d).Nodup->p∈ps->Eh σ β ps p.d=p.f (β p.d):=by
 induction ps with
 |nil=>intro σ p _ h;cases h
 |cons q ps ih=>
  intro σ p hn h
  rw[lZ,ow]at hn
  show Eh (me σ q.d (q.f (β q.d))) β ps p.d=_
  rcases c8.1 h with e|e
  .rw[e,CT (σ:=σ) hn.1,arM]
  exact ih _ p hn.2 e
theorem aep{σ:Env}{β:Nat->Nat}{ps qs:List Mk}(h:ps.Perm qs)(hn:(ps.map Mk.d).Nodup):Eh σ β ps=Eh σ β qs:=by
 funext s
 have hm:s∈ps.map Mk.d↔s∈qs.map Mk.d:=(h.map Mk.d).mem_iff
 have Qq:(qs.map Mk.d).Nodup:=(h.map Mk.d).nodup_iff.1 hn
 by_cases c:s∈ps.map Mk.d
 .obtain⟨p,h1,rfl⟩:=fN.1 c
  rw[abU ps σ p hn h1,abU qs σ p Qq (h.mem_iff.1 h1)]
 rw[CT (σ:=σ) c,CT (σ:=σ) fun q=>c (hm.2 q)]
theorem Nt{σ:Env}{β γ:Nat->Nat}:∀{ps:List Mk} {σ:Env},(∀p∈ps,β p.d=γ p.d)->Eh σ β ps=Eh σ γ ps
 |[],σ,_=>rfl
 |p::ps,σ,h=>by
  show Eh (me σ p.d (p.f (β p.d))) β ps=Eh (me σ p.d (p.f (γ p.d))) γ ps
  rw[h p aJ,Nt (σ:=σ) fun q hq=>h q (by simp[hq])]
theorem aeq{σ:Env}{β:Nat->Nat}{ps:List Mk}{p:Mk}:Eh σ β (ps++[p])=me (Eh σ β ps) p.d (p.f (β p.d)):=by simp[Eh]
theorem V0{a:Array Bool}{ps:List Mk}{p:Mk}:ldM a (ps++[p])=(ldM a ps).setIfInBounds p.i true:=by simp[ldM]
def allM{α:Type}(q:α->Prop):List α->Prop
 |[]=>True
 |a::l=>q a/\allM q l
theorem allM.mem{α:Type}{q:α->Prop}:∀{l:List α},allM q l->∀a∈l,q a
 |[],_,a,h=>by cases h
 |b::l,h,a,hm=>(c8.1 hm).elim (fun e=>e▸h.1) fun e=>h.2.mem a e
theorem axF{P:Program}{n:Nat}{l:List Oper}{k:K}{σ:Env}{w0 w:World}{L L':List bu}{fuel:Nat}{listed:Array Bool}(ps:List Mk)
  (hl:∀p∈ps,l[p.i]?=some p.q/\Nat.blt p.d n=true) (hr:∀p∈ps,∀σ' w,(∀s,s∉ps.map Mk.d->σ' s=σ s)->(execOp (ev σ') p.q).run P w= .ok (.value (p.f w.heap.size)) (w.alloc p.o))
  (hd:(ps.map Mk.d).Nodup) (hi:(ps.map Mk.i).Nodup) (hc:aiG l ps.length listed (ps.map Mk.i)=true) (hH:Hp w0 w L') (hs:L.Sublist L')
  (h:∀β w',Hp w0 w' (ps.map (VZ β)++L')->AN P n l (fun w=>Hp w0 w L) k fuel (ldM listed ps) (Eh σ β ps) w'):AN P n l (fun w=>Hp w0 w L) k (fuel+ps.length) listed σ w:=by
 have key:∀(m:Nat) (dn pd:List Mk) (β:Nat->Nat) (w:World),pd.length=m->(dn++pd).Perm ps->aiG l m (ldM listed dn) (pd.map Mk.i)=true->Hp w0 w (dn.map (VZ β)++L')->
   AN P n l (fun w=>Hp w0 w L) k (fuel+m) (ldM listed dn) (Eh σ β dn) w:=by
  intro m
  induction m with
  |zero=>
   intro dn pd β w hm hp _ hh
   have e:pd=[]:=zK hm
   subst e
   rw[mG]at hp
   have hn:(dn.map Mk.d).Nodup:=(hp.map Mk.d).nodup_iff.2 hd
   rw[aiH hp,aep hp hn]
   exact h β w (hh.perm ((hp.map _).append_right _))
  |succ m ih=>
   intro dn pd β w hm hp hck hh
   simp only[aiG,cL,Cj,iQ]at hck
   obtain⟨c1,c2⟩:=hck
   refine abb (pd.map Mk.i) c1 (by cases pd with|nil=>simp at hm|cons p pd=>rfl) fun i hii=> ?_
   obtain⟨p,hpm,rfl⟩:=fN.1 hii
   obtain⟨a,b,rfl⟩:=X4 hpm
   have hps:p∈ps:=hp.mem_iff.1 aJ
   have hnd:=(hp.map Mk.d).nodup_iff.2 hd
   have hni:=(hp.map Mk.i).nodup_iff.2 hi
   have hpd:p.d∉dn.map Mk.d:=fun q=>by
    rw[gP]at hnd
    exact(Fe.1 hnd).2.2 _ q p.d aJ O
   have hpa:p.i∉a.map Mk.i:=fun q=>by
    rw[gP,gP]at hni
    exact(Fe.1 (Fe.1 hni).2.1).2.2 _ q p.i aJ O
   have e1:((a++p::b).map Mk.i).erase p.i=(a++b).map Mk.i:=by
    rw[gP,lZ,List.erase_append_right _ hpa,List.erase_cons_head,gP]
   have hp2:((dn++[p])++(a++b)).Perm ps:=List.Perm.trans (by
    rw[dH]
    exact vp dn (by simpa using(Fg (a:=p) (l₁:=a) (l₂:=b)).symm)) hp
   refine CB (hl p hps).1 aC (hl p hps).2 (hr p hps _ w fun s XB=>CT (σ:=σ) fun q=>XB ?_) ?_ ?_
   .obtain⟨x,hx,e⟩:=fN.1 q
    exact e▸fN.2 ⟨x,hp.mem_iff.1 rz,rfl⟩
   .exact(hh.alloc p.o).sub ((List.Sublist.trans hs (XO _ _)).cons _)
   let γ:Nat->Nat:=fun s=>if s=p.d then w.heap.size else β s
   have hγ:∀q∈dn,β q.d=γ q.d:=fun q hq=>(aW fun e=>hpd (by rw[<-e];exact fN.2 ⟨q,hq,rfl⟩)).symm
   have g1:γ p.d=w.heap.size:=aY O
   have:=ih (dn++[p]) (a++b) γ (w.alloc p.o) (by simp at hm⊢;omega) hp2 (by rw[V0,<-e1];exact c2 _ hii) (by
    refine(hh.alloc p.o).perm ?_
    rw[gP,Lx,VZ,g1,dH]
    have e2:dn.map (VZ β)=dn.map (VZ γ):=HR fun q hq=>by unfold VZ;rw[hγ q hq]
    rw[e2]
    exact Fg.symm)
   rw[V0,aeq,g1,<-Nt (σ:=σ) hγ]at this
   exact this
 exact key ps.length [] ps (fun _=>0) w O (RM _) hc hH
theorem axG{P:Program}{n:Nat}{l:List Oper}{k:K}{σ:Env}{w0 w:World}{L L':List bu}{fuel:Nat}{listed:Array Bool}(ds is:List Nat)(ps:List Mk)(e1:ps.map Mk.d=ds)(e2:ps.map Mk.i=is)
  (hl:allM (fun p=>l[p.i]?=some p.q/\Nat.blt p.d n=true) ps) (hr:allM (fun p=>∀σ' w,(∀s,ds.contains s=false->σ' s=σ s)->(execOp (ev σ') p.q).run P w= .ok (.value (p.f w.heap.size)) (w.alloc p.o)) ps)
  (hd:ds.Nodup) (hi:is.Nodup) (hc:aiG l ps.length listed is=true) (hH:Hp w0 w L') (hs:L.Sublist L')
  (h:∀β w',Hp w0 w' (ps.map (VZ β)++L')->AN P n l (fun w=>Hp w0 w L) k fuel (ldM listed ps) (Eh σ β ps) w'):AN P n l (fun w=>Hp w0 w L) k (fuel+ps.length) listed σ w:=
 axF ps hl.mem (fun p hp σ' w q=>hr.mem p hp σ' w fun s hs=>q s (by rw[e1];intro c;rw[List.contains_iff_mem.2 c]at hs;cases hs)) (e1▸hd) (e2▸hi) (e2▸hc) hH hs h
section
variable{P:Program}{σ:Env}{w w0:World}{L:List bu}{dst:Option Tmp}{ty t e:TypeId}{pos:String}{bO:Array Edge}{g:Option (Nat×Bool)}{x y:Operand}{α:Type}{f:α->Value}{cl:α->List Value}{sz i b:Nat}{l:List α}
theorem V1:∀{l:List α},l.flatMap (fun a=>[f a])=l.map f
 |[]=>rfl
 |a::l=>by rw[uM,V1,lZ];rfl
theorem AB{ie:TypeInfo}{z:Value}{z0:α}{n:Nat}(hu:P.underlying t=some (.slice e))(hie:P.info? e=some ie)(hz:ie.zero=some z)(hzc:z.cells=#[f z0])(hs:ie.size=1)
  (hx:ev σ x= .int .i64 n) (hy:ev σ y= .int .i64 n) (hb:ie.bytes<=1000) (hn:n<=1000000000):
  (execOp (ev σ) ⟨dst,.makeSlice t x y,ty,pos,bO,g⟩).run P w= .ok (.value (.slice (some ⟨w.heap.size,0,none⟩) n n)) (w.alloc (.cells ((List.replicate n z0).map f).toArray e)):=by
 have:=Qe (P:=P) (w:=w) (dst:=dst) (ty:=ty) (pos:=pos) (bO:=bO) (g:=g) (cl:=fun a=>[f a]) (sz:=1) (z0:=z0) (fun _=>rfl) az hu hie hz hzc hs hx hy (kf (xV hb hn) az) (by unfold maxLen;omega)
 rwa[V1]at this
theorem Hp.Kg{n:Nat}(h:Hp w0 w L)(hi:L[i]?=some (.blk b (.cells (l.map f).toArray e (0,0))))(hl:l.length=n)(hn:n<=1000000000):Hp w0 w (L.set i (jY f (.slice (some ⟨b,0,none⟩) n n) e l)):=by
 subst hl
 have hx:=h.get hi
 refine h.xx hi O ⟨aJ,.inr ⟨b,l.length,(l.map f).toArray,rfl,hx.1,hx.2,eu _,by unfold maxLen;omega,aJ,?_⟩⟩
 rw[l9,<-gA (f:=f)];exact HT
end
end
end Go.Proofs.YtlhjdflgjbkpmaaGreatDoor.E
namespace Go.Proofs.YtlhjdflgjbkpmaaGreatDoor.M
section
open Go
inductive j6(E:Nat->Nat->Prop):Nat->Nat->Prop
 |refl (a:Nat):j6 E a a
 |step {a b c:Nat} (h:j6 E a b) (e:E b c):j6 E a c
theorem j6.one{E:Nat->Nat->Prop}{a b:Nat}(e:E a b):j6 E a b:= .step (.refl a) e
theorem j6.trans{E:Nat->Nat->Prop}{a b c:Nat}(h:j6 E a b)(h2:j6 E b c):j6 E a c:=by
 induction h2 with
 |refl=>exact h
 |step _ e ih=>exact ih.step e
theorem j6.mono{E E':Nat->Nat->Prop}{a b:Nat}(h:j6 E a b)(hE:∀x y,E x y->E' x y):j6 E' a b:=by
 induction h with
 |refl=>exact .refl _
 |step _ e ih=>exact ih.step (hE _ _ e)
abbrev Uk:=List (Nat×List Nat)
def fJ(F:Uk):List Nat:=F.flatMap fun x=>x.2++[x.1]
structure Gj(R:Nat->Nat->Prop)(ord low:Nat->Int)(F:Uk):Prop where
 Nu:(fJ F).Pairwise fun a b=>ord b<ord a
 lo:∀k,k∈fJ F->low k<=ord k/\∃m,m∈fJ F/\ord m=low k/\R k m
 seg:∀x,x∈F->∀k,k∈x.2->R x.1 k/\low x.1<=low k/\low k<ord k
 way:F.Pairwise fun x y=>R y.1 x.1
def oJ(f:Nat->Int)(k:Nat)(v:Int):Nat->Int:=fun i=>if i=k then v else f i
section
variable{R:Nat->Nat->Prop}{ord low:Nat->Int}{F:Uk}{a p:Nat}{sg sp:List Nat}{t:Int}
theorem gT:fJ ((a,sg)::F)=sg++a::fJ F:=by simp[fJ]
theorem D9:a∈fJ ((a,sg)::F):=by rw[gT];simp
theorem jv{x:Nat×List Nat}(h:x∈F):x.1∈fJ F:=by grind[fJ]
theorem K9{x:Nat×List Nat}{k:Nat}(h:x∈F)(hk:k∈x.2):k∈fJ F:=by grind[fJ]
theorem Gj.nil:Gj R ord low []:=⟨List.Pairwise.nil,(fun k h=>by simp[fJ]at h),(fun x h=>mO),List.Pairwise.nil⟩
theorem Gj.below(h:Gj R ord low ((a,sg)::F)):(∀k,k∈fJ F->ord k<ord a)/\∀k,k∈sg->ord a<ord k:=by grind[Gj,fJ,gT]
theorem Gj.aiI(h:Gj R ord low ((a,sg)::F))(ht:∀x y z,R x y->R y z->R x z)(he:low a=ord a):∀k,k∈sg->R a k/\R k a:=by
 have hs:=h.seg _ (rj ..)
 have key:∀n:Nat,∀k,k∈sg->(ord k-ord a).toNat<=n->R k a:=fun n=>by
  induction n with
  |zero=>intro k hk hn;have:=h.below.2 k hk;omega
  |succ n ih=>
   intro k hk hn
   obtain⟨h1,h2,h3⟩:=hs k hk
   obtain⟨-,m,hm,e,hr⟩:=h.lo k (K9 (rj ..) hk)
   rw[gT]at hm
   rcases fh.1 hm with q|q
   .exact ht _ _ _ hr (ih m q (by have:=h.below.2 m q;have:low a<=low k:=h2;omega))
   rcases c8.1 q with q|q
   .subst q;exact hr
   have:=h.below.1 m q
   have:low a<=low k:=h2
   omega
 exact fun k hk=>⟨(hs k hk).1,key _ k hk (eu _)⟩
theorem Gj.enter(h:Gj R ord low F)(hn:a∉fJ F)(ht:∀k,k∈fJ F->ord k<t)(hr:R a a)(hw:∀x,x∈F->R x.1 a):Gj R (oJ ord a t) (oJ low a t) ((a,[])::F):=by
 have ne:∀k,k∈fJ F->k≠a:=fun k hk e=>hn (e▸hk)
 have so:∀k,k∈fJ F->oJ ord a t k=ord k:=fun k hk=>aW (ne k hk)
 have sl:∀k,k∈fJ F->oJ low a t k=low k:=fun k hk=>aW (ne k hk)
 have ea:oJ ord a t a=t:=aY O
 have la:oJ low a t a=t:=aY O
 refine⟨?_,fun k hk=> ?_,fun x hx k hk=> ?_,lY.2 ⟨fun x hx=>hw x hx,h.way⟩⟩
 .rw[gT,eR]
  refine lY.2 ⟨fun k hk=>by rw[ea,so k hk];exact ht k hk,?_⟩
  exact h.Nu.imp_of_mem fun{x y} hx hy q=>by rw[so x hx,so y hy];exact q
 .rw[gT,eR]at hk
  rcases c8.1 hk with q|q
  .subst q;exact⟨by rw[ea,la];exact mc _,_,D9,by rw[ea,la],hr⟩
  obtain⟨h1,m,h2,h3,h4⟩:=h.lo k q
  refine⟨by rw[so k q,sl k q];exact h1,m,by rw[gT];simp[h2],by rw[so m h2,sl k q];exact h3,h4⟩
 rcases c8.1 hx with q|q
 .subst q;cases hk
 have k1:=K9 q hk
 have k2:=jv q
 rw[so k k1,sl k k1,sl _ k2];exact h.seg x q k hk
theorem Gj.arc(h:Gj R ord low ((a,sg)::F)){m:Nat}(hm:m∈fJ ((a,sg)::F))(hr:R a m):Gj R ord (oJ low a (min (low a) (ord m))) ((a,sg)::F):=by
 have la:oJ low a (min (low a) (ord m)) a=min (low a) (ord m):=aY O
 have sl:∀k,k≠a->oJ low a (min (low a) (ord m)) k=low k:=fun k hk=>aW hk
 have hb:=h.below
 refine⟨h.Nu,fun k hk=> ?_,fun x hx k hk=> ?_,h.way⟩
 .obtain⟨h1,j,h2,h3,h4⟩:=h.lo k hk
  by_cases e:k=a
  .subst e
   rw[la]
   refine⟨J,?_⟩
   by_cases c:low k<=ord m
   .exact⟨j,h2,by rw[Yk c];exact h3,h4⟩
   exact⟨m,hm,by rw[Int.min_eq_right J],hr⟩
  rw[sl k e];exact⟨h1,j,h2,h3,h4⟩
 obtain⟨h1,h2,h3⟩:=h.seg x hx k hk
 have hka:k≠a:=fun e=>by
  subst e
  rcases c8.1 hx with q|q
  .subst q;have:=hb.2 k hk;omega
  have:=hb.1 k (K9 q hk);omega
 rw[sl k hka]
 refine⟨h1,?_,h3⟩
 by_cases e:x.1=a
 .rw[e,la];rw[e]at h2;omega
 rw[sl _ e];exact h2
theorem Gj.V2(h:Gj R ord low ((a,sg)::(p,sp)::F))(ht:∀x y z,R x y->R y z->R x z)(hlt:low a<ord a):Gj R ord (oJ low p (min (low p) (low a))) ((p,sg++a::sp)::F):=by
 have e0:fJ ((p,sg++a::sp)::F)=fJ ((a,sg)::(p,sp)::F):=by simp[fJ]
 have hrp:R p a:=(lY.1 h.way).1 (p,sp) aJ
 have hb:=h.below
 have hp:p∈fJ ((a,sg)::(p,sp)::F):=jv (x:=(p,sp)) aJ
 have hpa:p≠a:=fun e=>by have:=hb.1 p (jv (x:=(p,sp)) aJ);rw[e]at this;omega
 have lp:oJ low p (min (low p) (low a)) p=min (low p) (low a):=aY O
 have sl:∀k,k≠p->oJ low p (min (low p) (low a)) k=low k:=fun k hk=>aW hk
 have hs:=h.Nu
 have hsp:((fJ ((p,sp)::F))).Pairwise fun a b=>ord b<ord a:=by
  rw[gT]at hs;exact(lY.1 (Fe.1 hs).2.1).2
 have hbp:(∀k,k∈fJ F->ord k<ord p)/\∀k,k∈sp->ord p<ord k:=by
  rw[gT]at hsp
  obtain⟨h2,h3,h4⟩:=Fe.1 hsp
  exact⟨fun k hk=>(lY.1 h3).1 k hk,fun k hk=>h4 k hk p aJ⟩
 refine⟨by rw[e0];exact hs,fun k hk=> ?_,fun x hx k hk=> ?_,?_⟩
 .rw[e0]at hk⊢
  obtain⟨h1,j,h2,h3,h4⟩:=h.lo k hk
  by_cases e:k=p
  .subst e
   rw[lp]
   refine⟨J,?_⟩
   by_cases c:low k<=low a
   .exact⟨j,h2,by rw[Yk c];exact h3,h4⟩
   obtain⟨-,i,i2,i3,i4⟩:=h.lo a D9
   exact⟨i,i2,by rw[Int.min_eq_right J];exact i3,ht _ _ _ hrp i4⟩
  rw[sl k e];exact⟨h1,j,h2,h3,h4⟩
 .rcases c8.1 hx with q|q
  .subst q
   have hmem:k∈sg\/k=a\/k∈sp:=by simpa using hk
   rcases hmem with q|q|q
   .obtain⟨h1,h2,h3⟩:=h.seg (a,sg) aJ k q
    have hkp:k≠p:=fun e=>by
     have:=hb.2 k q;have:=hb.1 p (jv (x:=(p,sp)) aJ);rw[e]at*;omega
    rw[lp,sl k hkp]
    have:low a<=low k:=h2
    exact⟨ht _ _ _ hrp h1,J,h3⟩
   .subst q;rw[lp,sl k hpa.symm];exact⟨hrp,J,hlt⟩
   obtain⟨h1,h2,h3⟩:=h.seg (p,sp) aJ k q
   have hkp:k≠p:=fun e=>by have:=hbp.2 k q;rw[e]at this;omega
   rw[lp,sl k hkp]
   have:low p<=low k:=h2
   exact⟨h1,J,h3⟩
  obtain⟨h1,h2,h3⟩:=h.seg x (by simp[q]) k hk
  have hkp:k≠p:=fun e=>by have:=hbp.1 k (K9 q hk);rw[e]at this;omega
  have hxp:x.1≠p:=fun e=>by have:=hbp.1 x.1 (jv q);rw[e]at this;omega
  rw[sl k hkp,sl _ hxp];exact⟨h1,h2,h3⟩
 obtain⟨-,h2⟩:=lY.1 h.way
 exact lY.2 ⟨fun x hx=>(lY.1 h2).1 x hx,(lY.1 h2).2⟩
theorem Gj.close(h:Gj R ord low ((a,sg)::F)):Gj R ord low F:=by
 have hs:=h.Nu
 rw[gT]at hs
 have hb:=h.below
 refine⟨(lY.1 (Fe.1 hs).2.1).2,fun k hk=> ?_,fun x hx=>h.seg x rz,(lY.1 h.way).2⟩
 obtain⟨h1,m,h2,h3,h4⟩:=h.lo k (by rw[gT];simp[hk])
 refine⟨h1,m,?_,h3,h4⟩
 rw[gT]at h2
 have hka:=hb.1 k hk
 rcases fh.1 h2 with q|q
 .have:=hb.2 m q;omega
 rcases c8.1 q with q|q
 .subst q;omega
 exact q
theorem Gj.root(h:Gj R ord low [(a,sg)]):low a=ord a:=by grind[Gj,D9,gT,fJ]
end
def JT(F:Uk)(p c:Nat):Prop:=∃F1 sc sp F2,F=F1++(c,sc)::(p,sp)::F2
structure Pf(E seen:Nat->Nat->Prop)(shut:Nat->Prop)(ord low:Nat->Int)(F:Uk):Prop where
 out:∀k,k∈fJ F->¬shut k
 QD:∀k,shut k->∀j,E k j->shut j
 ZL:∀x,x∈F->∀k,k∈x.2->∀j,E k j->seen k j
 led:∀k,k∈fJ F->∀j,seen k j->shut j\/j∈fJ F/\(low k<=ord j\/JT F k j)
section
variable{E seen:Nat->Nat->Prop}{shut:Nat->Prop}{R:Nat->Nat->Prop}{ord low:Nat->Int}{F:Uk}{a p j:Nat}{sg sp:List Nat}{t:Int}
theorem Pf.nil(h:∀k,shut k->∀j,E k j->shut j):Pf E seen shut ord low []:=by grind[Pf,fJ]
theorem JT.mem(h:JT F p j):∃x,x∈F/\x.1=p:=by
 obtain⟨F1,sc,sp,F2,rfl⟩:=h;exact⟨(p,sp),aJ,rfl⟩
theorem Gj.top(h:Gj R ord low ((a,sg)::F)){k:Nat}(hk:k∈sg\/k=a):¬JT ((a,sg)::F) k j:=by
 rintro⟨F1,sc,sp,F2,e⟩
 have hb:=h.below
 have hm:(k,sp)∈F:=by
  cases F1 with
  |nil=>simp at e;rw[e.2];simp
  |cons b F1=>simp at e;rw[e.2];simp
 have h1:=hb.1 k (jv (x:=(k,sp)) hm)
 rcases hk with q|q
 .have:=hb.2 k q;omega
 subst q;omega
theorem Pf.close(h:Pf E seen shut ord low ((a,sg)::F))(hi:Gj R ord low ((a,sg)::F))(he:low a=ord a)(ha:∀j,E a j->seen a j):Pf E seen (fun k=>shut k\/k=a\/k∈sg) ord low F:=by
 have hb:=hi.below
 have mem:∀k,k∈fJ ((a,sg)::F)↔k∈sg\/k=a\/k∈fJ F:=fun k=>by rw[gT];simp
 refine⟨fun k hk=> ?_,fun k hk j hj=> ?_,fun x hx=>h.ZL x rz,fun k hk j hj=> ?_⟩
 .rintro(q|q|q)
  .exact h.out k ((mem k).2 (.inr (.inr hk))) q
  .subst q;have:=hb.1 k hk;omega
  have:=hb.1 k hk;have:=hb.2 k q;omega
 .rcases hk with q|q
  .exact .inl (h.QD k q j hj)
  have CP:k∈fJ ((a,sg)::F):=(mem k).2 (q.elim (fun e=> .inr (.inl e)) .inl)
  have XB:seen k j:=by
   rcases q with q|q
   .subst q;exact ha j hj
   exact h.ZL (a,sg) aJ k q j hj
  have aer:ord a<=low k:=by
   rcases q with q|q
   .subst q;omega
   have:=(hi.seg (a,sg) aJ k q).2.1;have:low a<=low k:=this;omega
  rcases h.led k CP j XB with c|⟨c,d⟩
  .exact .inl c
  rcases d with d|d
  .rcases(mem j).1 c with e|e|e
   .exact .inr (.inr e)
   .exact .inr (.inl e)
   have:=hb.1 j e;omega
  exact absurd d (hi.top (q.elim .inr .inl))
 rcases h.led k ((mem k).2 (.inr (.inr hk))) j hj with c|⟨c,d⟩
 .exact .inl (.inl c)
 rcases(mem j).1 c with e|e|e
 .exact .inl (.inr (.inr e))
 .exact .inl (.inr (.inl e))
 refine .inr ⟨e,d.imp id fun q=> ?_⟩
 obtain⟨F1,sc,sp,F2,e1⟩:=q
 cases F1 with
 |nil=>simp at e1;rw[e1.1.1]at hb;have:=hb.1 j e;omega
 |cons b F1=>simp at e1;exact⟨F1,sc,sp,F2,e1.2⟩
theorem Pf.V2(h:Pf E seen shut ord low ((a,sg)::(p,sp)::F))(hi:Gj R ord low ((a,sg)::(p,sp)::F))(ha:∀j,E a j->seen a j):Pf E seen shut ord (oJ low p (min (low p) (low a))) ((p,sg++a::sp)::F):=by
 have e0:fJ ((p,sg++a::sp)::F)=fJ ((a,sg)::(p,sp)::F):=by simp[fJ]
 have le:∀k,oJ low p (min (low p) (low a)) k<=low k:=fun k=>by
  unfold oJ;split
  .subst_vars;omega
  exact mc _
 have lp:oJ low p (min (low p) (low a)) p<=low a:=by unfold oJ;rw[aY O];omega
 refine⟨fun k hk=>h.out k (e0▸hk),h.QD,fun x hx k hk j hj=> ?_,fun k hk j hj=> ?_⟩
 .rcases c8.1 hx with q|q
  .subst q
   have hm:k∈sg\/k=a\/k∈sp:=by simpa using hk
   rcases hm with q|q|q
   .exact h.ZL (a,sg) aJ k q j hj
   .subst q;exact ha j hj
   exact h.ZL (p,sp) aJ k q j hj
  exact h.ZL x (by simp[q]) k hk j hj
 rw[e0]at hk⊢
 rcases h.led k hk j hj with c|⟨c,d⟩
 .exact .inl c
 refine .inr ⟨c,?_⟩
 rcases d with d|⟨F1,sc,s2,F2,e1⟩
 .exact .inl (LM (le k) d)
 .cases F1 with
  |nil=>
   simp at e1
   obtain⟨⟨rfl,rfl⟩,⟨rfl,rfl⟩,rfl⟩:=e1
   exact .inl (LM lp (hi.lo a D9).1)
  |cons b F1=>
   simp at e1
   cases F1 with
   |nil=>
    simp at e1
    obtain⟨-,⟨rfl,rfl⟩,rfl⟩:=e1
    exact .inr ⟨[],_,_,_,rfl⟩
   |cons b2 F1=>
    simp at e1
    obtain⟨-,-,rfl⟩:=e1
    exact .inr ⟨(p,sg++a::sp)::F1,_,_,_,rfl⟩
end
section
variable{E seen seen':Nat->Nat->Prop}{shut:Nat->Prop}{R:Nat->Nat->Prop}{ord low:Nat->Int}{F:Uk}{a p j:Nat}{sg sp:List Nat}{t:Int}
theorem JT.cons{x:Nat×List Nat}(h:JT F p j):JT (x::F) p j:=by grind[JT]
theorem Pf.enter(h:Pf E seen shut ord low F)(hn:a∉fJ F)(hs:¬shut a)(hno:∀j,¬seen a j)(h1:∀k j,seen k j->seen' k j)(h2:∀k j,seen' k j->seen k j\/j=a/\∃sp F0,F=(k,sp)::F0):Pf E seen' shut (oJ ord a t) (oJ low a t) ((a,[])::F):=by
 have ne:∀k,k∈fJ F->k≠a:=fun k hk e=>hn (e▸hk)
 have mem:∀k,k∈fJ ((a,[])::F)↔k=a\/k∈fJ F:=fun k=>by rw[gT];simp
 refine⟨fun k hk=> ?_,h.QD,fun x hx k hk j hj=> ?_,fun k hk j hj=> ?_⟩
 .rcases(mem k).1 hk with q|q
  .subst q;exact hs
  exact h.out k q
 .rcases c8.1 hx with q|q
  .subst q;cases hk
  exact h1 _ _ (h.ZL x q k hk j hj)
 rcases h2 k j hj with q|⟨rfl,sp,F0,rfl⟩
 .rcases(mem k).1 hk with e|e
  .subst e;exact absurd q (hno j)
  rcases h.led k e j q with c|⟨c,d⟩
  .exact .inl c
  refine .inr ⟨(mem j).2 (.inr c),d.imp (fun d=> ?_) fun d=>d.cons⟩
  unfold oJ;rw[aW (ne k e),aW (ne j c)];exact d
 exact .inr ⟨(mem j).2 (.inl O),.inr ⟨[],_,_,_,rfl⟩⟩
theorem Pf.look{v:Int}(h:Pf E seen shut ord low ((a,sg)::F))(hv:v<=low a)(h1:∀k i,seen k i->seen' k i)(h2:∀k i,seen' k i->seen k i\/k=a/\i=j)(hj:shut j\/j∈fJ ((a,sg)::F)/\v<=ord j):Pf E seen' shut ord (oJ low a v) ((a,sg)::F):=by
 have la:oJ low a v a=v:=aY O
 have le:∀k,oJ low a v k<=low k:=fun k=>by
  unfold oJ;split
  .subst_vars;exact hv
  exact mc _
 refine⟨h.out,h.QD,fun x hx k hk i hi=>h1 _ _ (h.ZL x hx k hk i hi),fun k hk i hi=> ?_⟩
 rcases h2 k i hi with q|⟨rfl,rfl⟩
 .exact(h.led k hk i q).imp id fun⟨c,d⟩=>⟨c,d.imp (fun d=>LM (le k) d) id⟩
 exact hj.imp id fun⟨c,d⟩=>⟨c,.inl (by rw[la];exact d)⟩
end
section
variable{E seen:Nat->Nat->Prop}{shut:Nat->Prop}{ord low:Nat->Int}{F:Uk}{a:Nat}{sg:List Nat}
theorem j6.stay{C:Nat->Prop}(hC:∀k,C k->∀j,E k j->C j){x y:Nat}(h:j6 E x y)(hx:C x):C y:=by
 induction h with
 |refl=>exact hx
 |step _ e ih=>exact hC _ (ih) _ e
theorem Pf.whole(h:Pf E seen shut ord low ((a,sg)::F))(hi:Gj (j6 E) ord low ((a,sg)::F))(he:low a=ord a)(ha:∀j,E a j->seen a j){k y:Nat}(hk:k=a\/k∈sg)(h1:j6 E k y)(h2:j6 E y k):y=a\/y∈sg:=by
 have hc:=h.close hi he ha
 rcases h1.stay hc.QD (.inr hk)with q|q
 .have hm:k∈fJ ((a,sg)::F):=by
   rw[gT]
   rcases hk with e|e
   .subst e;simp
   simp[e]
  exact absurd (h2.stay h.QD q) (h.out k hm)
 exact q
theorem Pf.iff(h:Pf E seen shut ord low ((a,sg)::F))(hi:Gj (j6 E) ord low ((a,sg)::F))(he:low a=ord a)(ha:∀j,E a j->seen a j){k y:Nat}(hk:k=a\/k∈sg):(j6 E k y/\j6 E y k)↔(y=a\/y∈sg):=by
 refine⟨fun q=>h.whole hi he ha hk q.1 q.2,fun q=> ?_⟩
 have key:∀z,z=a\/z∈sg->j6 E a z/\j6 E z a:=fun z hz=>by
  rcases hz with e|e
  .subst e;exact⟨.refl _,.refl _⟩
  exact hi.aiI (fun _ _ _=>j6.trans) he z e
 exact⟨(key k hk).2.trans (key y q).1,(key y q).2.trans (key k hk).1⟩
end
structure Ei where
 node:Int
 next:Int
def oW(l:List Int):Nat->Int:=fun k=>l.getD k 0
def NI(l:List Nat):List Int:=l.map fun(k:Nat)=>(k:Int)
def wv(gl:List (List Int))(a b:Nat):Prop:=a<gl.length/\b<gl.length/\∃i,i<(gl.getD a []).length/\(gl.getD a []).getD i 0=(b:Int)
def uR(gl:List (List Int))(nx:Nat->Nat)(a b:Nat):Prop:=a<gl.length/\b<gl.length/\∃i,i<nx a/\i<(gl.getD a []).length/\(gl.getD a []).getD i 0=(b:Int)
def Bn(od:List Int)(F:Uk)(k:Nat):Prop:=k<od.length/\oW od k≠0/\k∉fJ F
def tS(E:Nat->Nat->Prop)(a b:Nat):Prop:=j6 E a b/\j6 E b a
structure OfK(E:Nat->Nat->Prop)(k:Nat)(o:Int):Prop where
 is:∃j:Nat,o=j/\tS E k j
 low:∀j:Nat,tS E k j->o<=j
def pX(F:Uk)(nx:Nat->Nat):List Ei:=F.reverse.map fun x=>⟨x.1,nx x.1⟩
structure rZ(gl:List (List Int))(od lo:List Int)(on:List Bool)(tm:Int)(k8:List Int)(F:Uk)(nx:Nat->Nat):Prop where
 Ul:od.length=gl.length
 llo:lo.length=gl.length
 lon:on.length=gl.length
 lof:k8.length=gl.length
 onI:∀k,k<gl.length->(on.getD k false=true↔k∈fJ F)
 lt:∀k,k∈fJ F->k<gl.length/\0<oW od k
 odI:∀k,0<=oW od k/\oW od k<=tm
 cnt:tm+od.count 0=gl.length
 Um:Gj (j6 (wv gl)) (oW od) (oW lo) F
 kne:Pf (wv gl) (uR gl nx) (Bn od F) (oW od) (oW lo) F
 nx0:∀k,oW od k=0->nx k=0
 fin:∀k,Bn od F k->OfK (wv gl) k (oW k8 k)
theorem AE{l:List Int}{k:Nat}{v:Int}(h:k<l.length):oW (l.set k v)=oJ (oW l) k v:=by grind[oW,oJ]
theorem abV:∀{l:List Int} {k:Nat} {v:Int},k<l.length->l.getD k 0=0->v≠0->(l.set k v).count 0+1=l.count 0
 |[],k,v,h,_,_=>by simp at h
 |a::l,0,v,_,h2,h3=>by
  have:a=0:=h2
  subst this
  rw[jd,List.count_cons_self,List.count_cons_of_ne (by simpa using h3)]
 |a::l,k+1,v,h1,h2,h3=>by
  have ih:=abV (l:=l) (k:=k) (v:=v) Fv h2 h3
  rw[lf,Fh,Fh];omega
theorem aet{f:Nat->Int}{k:Nat}{v:Int}(h:f k=v):oJ f k v=f:=by grind[oJ]
section
variable{gl:List (List Int)}{od lo:List Int}{on:List Bool}{tm:Int}{k8:List Int}{F:Uk}{nx:Nat->Nat}{a b p:Nat}{sg sp:List Nat}
def qY(nx:Nat->Nat)(p:Nat):Nat->Nat:=fun i=>if i=p then nx i+1 else nx i
theorem Ea{k j:Nat}(h:uR gl nx k j):uR gl (qY nx p) k j:=by grind[uR,qY]
theorem G2{k j:Nat}(h:uR gl (qY nx p) k j):uR gl nx k j\/k=p/\(gl.getD p []).getD (nx p) 0=(j:Int):=by grind[uR,qY]
theorem rZ.room(h:rZ gl od lo on tm k8 F nx):0<=tm/\tm<=gl.length:=by grind[rZ,k8]
theorem rZ.skip(h:rZ gl od lo on tm k8 ((p,sp)::F) nx)(hk:¬∃j,j<gl.length/\(gl.getD p []).getD (nx p) 0=((j:Nat):Int)):rZ gl od lo on tm k8 ((p,sp)::F) (qY nx p):=by
 have hs:uR gl (qY nx p)=uR gl nx:=by
  funext k j;apply propext
  refine⟨fun q=> ?_,Ea⟩
  rcases G2 q with q2|⟨rfl,q2⟩
  .exact q2
  exact absurd ⟨j,q.2.1,q2⟩ hk
 have hp:=h.lt p (jv (x:=(p,sp)) aJ)
 exact⟨h.Ul,h.llo,h.lon,h.lof,h.onI,h.lt,h.odI,h.cnt,h.Um,by rw[hs];exact h.kne,fun k CP=>by unfold qY;rw[aW (fun e=>by rw[e]at CP;omega)];exact h.nx0 k CP,h.fin⟩
theorem rZ.axI(h:rZ gl od lo on tm k8 ((p,sp)::F) nx)(hl:nx p<(gl.getD p []).length)(hb:b<gl.length)(hk:(gl.getD p []).getD (nx p) 0=(b:Int)):wv gl p b:=by grind[rZ,k8,wv,jv]
theorem Td(h:rZ gl od lo on tm k8 ((p,sp)::F) nx)(k:Nat)(hk:oW od k=0):qY nx p k=0:=by
 have hp:=h.lt p (jv (x:=(p,sp)) aJ)
 unfold qY;rw[aW (fun e=>by rw[e]at hk;omega)];exact h.nx0 k hk
theorem rZ.arc(h:rZ gl od lo on tm k8 ((p,sp)::F) nx)(hl:nx p<(gl.getD p []).length)(hb:b<gl.length)(hk:(gl.getD p []).getD (nx p) 0=(b:Int))(hon:on.getD b false=true):
  rZ gl od (lo.set p (min (oW lo p) (oW od b))) on tm k8 ((p,sp)::F) (qY nx p):=by
 have hm:=(h.onI b hb).1 hon
 have hp:=h.lt p (jv (x:=(p,sp)) aJ)
 have e1:=AE (l:=lo) (k:=p) (v:=min (oW lo p) (oW od b)) Sg
 refine⟨h.Ul,by rw[n8];exact h.llo,h.lon,h.lof,h.onI,h.lt,h.odI,h.cnt,by rw[e1];exact h.Um.arc hm (.one (h.axI hl hb hk)),?_,Td h,h.fin⟩
 rw[e1]
 exact h.kne.look (j:=b) J (fun k i=>Ea) (fun k i q=>(G2 q).imp id fun⟨q1,q2⟩=>⟨q1,J⟩) (.inr ⟨hm,J⟩)
theorem rZ.shut(h:rZ gl od lo on tm k8 ((p,sp)::F) nx)(hl:nx p<(gl.getD p []).length)(hb:b<gl.length)(hk:(gl.getD p []).getD (nx p) 0=(b:Int))(h0:oW od b≠0)(hon:¬on.getD b false=true):
  rZ gl od lo on tm k8 ((p,sp)::F) (qY nx p):=by
 have hm:b∉fJ ((p,sp)::F):=fun q=>hon ((h.onI b hb).2 q)
 refine⟨h.Ul,h.llo,h.lon,h.lof,h.onI,h.lt,h.odI,h.cnt,h.Um,?_,Td h,h.fin⟩
 have:=h.kne.look (seen':=uR gl (qY nx p)) (j:=b) (v:=oW lo p) (mc _) (fun k i=>Ea) (fun k i q=>(G2 q).imp id fun⟨q1,q2⟩=>⟨q1,J⟩) (.inl ⟨by rw[h.Ul];exact hb,h0,hm⟩)
 rwa[aet O]at this
theorem rZ.axJ{nx':Nat->Nat}(h:rZ gl od lo on tm k8 F nx)(ha:a<gl.length)(h0:oW od a=0)(hn:∀k,oW od k=0->nx' k=0)(h1:∀k j,uR gl nx k j->uR gl nx' k j)(h2:∀k j,uR gl nx' k j->uR gl nx k j\/j=a/\∃sp F0,F=(k,sp)::F0)(hw:∀x,x∈F->j6 (wv gl) x.1 a):
  rZ gl (od.set a (tm+1)) (lo.set a (tm+1)) (on.set a true) (tm+1) k8 ((a,[])::F) nx':=by
 have hr:=h.room
 have hna:a∉fJ F:=fun q=>by have:=(h.lt a q).2;omega
 have ne:∀k,k∈fJ F->k≠a:=fun k hk e=>hna (e▸hk)
 have mem:∀k,k∈fJ ((a,[])::F)↔k=a\/k∈fJ F:=fun k=>by rw[gT];simp
 have e1:=AE (l:=od) (k:=a) (v:=tm+1) (by rw[h.Ul];exact ha)
 have e2:=AE (l:=lo) (k:=a) (v:=tm+1) (by rw[h.llo];exact ha)
 have es:Bn (od.set a (tm+1)) ((a,[])::F)=Bn od F:=by
  funext k;apply propext
  unfold Bn
  rw[n8,e1,mem]
  unfold oJ
  by_cases e:k=a
  .subst e;rw[aY O];exact⟨fun q=>absurd (.inl O) q.2.2,fun q=>absurd h0 q.2.1⟩
  rw[aW e];exact⟨fun q=>⟨q.1,q.2.1,fun c=>q.2.2 (.inr c)⟩,fun q=>⟨q.1,q.2.1,fun c=>c.elim e q.2.2⟩⟩
 refine⟨by rw[n8];exact h.Ul,by rw[n8];exact h.llo,by rw[n8];exact h.lon,h.lof,fun k hk=> ?_,fun k hk=> ?_,fun k=> ?_,?_,?_,?_,fun k hk=> ?_,?_⟩
 .rw[mem,eV,qh]
  by_cases e:a=k
  .subst e;rw[aY O,aY (by rw[h.lon];exact ha)];simp
  rw[aW e,<-eV,h.onI k hk];exact⟨.inr,fun q=>q.elim (fun c=>absurd c.symm e) id⟩
 .rw[e1];unfold oJ
  rcases(mem k).1 hk with e|q
  .subst e;rw[aY O];exact⟨ha,J⟩
  rw[aW (ne k q)];exact h.lt k q
 .rw[e1];unfold oJ;have:=h.odI k;split<;>omega
 .have:=abV (l:=od) (k:=a) (v:=tm+1) (by rw[h.Ul];exact ha) h0 J
  have:=h.cnt;omega
 .rw[e1,e2];exact h.Um.enter hna (fun k hk=>by have:=(h.odI k).2;omega) (.refl a) hw
 .rw[e1,e2,es];exact h.kne.enter hna (fun q=>q.2.1 h0) (fun j q=>by obtain⟨_,_,i,hi,_⟩:=q;have:=h.nx0 a h0;omega) h1 h2
 .rw[e1]at hk;unfold oJ at hk
  by_cases e:k=a
  .rw[aY e]at hk;omega
  rw[aW e]at hk;exact hn k hk
 rw[es];exact h.fin
theorem rZ.first(h:rZ gl od lo on tm k8 [] nx)(ha:a<gl.length)(h0:oW od a=0):rZ gl (od.set a (tm+1)) (lo.set a (tm+1)) (on.set a true) (tm+1) k8 [(a,[])] nx:=
 h.axJ ha h0 h.nx0 (fun _ _ q=>q) (fun _ _ q=> .inl q) fun x hx=>by cases hx
theorem rZ.enter(h:rZ gl od lo on tm k8 ((p,sp)::F) nx)(hl:nx p<(gl.getD p []).length)(hk:(gl.getD p []).getD (nx p) 0=(a:Int))(ha:a<gl.length)(h0:oW od a=0):
  rZ gl (od.set a (tm+1)) (lo.set a (tm+1)) (on.set a true) (tm+1) k8 ((a,[])::(p,sp)::F) (qY nx p):=
 h.axJ ha h0 (Td h) (fun k j=>Ea) (fun k j q=>(G2 q).imp id fun⟨q1,q2⟩=>⟨J,by subst q1;exact⟨_,_,rfl⟩⟩) fun x hx=>by
  have e:=h.axI hl ha hk
  rcases c8.1 hx with q|q
  .subst q;exact .one e
  exact((lY.1 h.Um.way).1 x q).trans (.one e)
theorem rZ.all(h:rZ gl od lo on tm k8 ((a,sg)::F) nx)(hd:¬nx a<(gl.getD a []).length):∀j,wv gl a j->uR gl nx a j:=by grind[rZ,k8,wv,uR]
theorem rZ.V2(h:rZ gl od lo on tm k8 ((a,sg)::(p,sp)::F) nx)(hd:¬nx a<(gl.getD a []).length)(hne:oW lo a≠oW od a):
  rZ gl od (lo.set p (min (oW lo p) (oW lo a))) on tm k8 ((p,sg++a::sp)::F) nx:=by
 have e0:fJ ((p,sg++a::sp)::F)=fJ ((a,sg)::(p,sp)::F):=by simp[fJ]
 have hp:=h.lt p (jv (x:=(p,sp)) aJ)
 have e1:=AE (l:=lo) (k:=p) (v:=min (oW lo p) (oW lo a)) Sg
 have hlo:=(h.Um.lo a D9).1
 have es:Bn od ((p,sg++a::sp)::F)=Bn od ((a,sg)::(p,sp)::F):=by unfold Bn;rw[e0]
 refine⟨h.Ul,by rw[n8];exact h.llo,h.lon,h.lof,by rw[e0];exact h.onI,by rw[e0];exact h.lt,h.odI,h.cnt,?_,?_,h.nx0,by rw[es];exact h.fin⟩
 .rw[e1];exact h.Um.V2 (fun _ _ _=>j6.trans) J
 rw[e1,es];exact h.kne.V2 h.Um (h.all hd)
theorem rZ.close{on':List Bool}{of':List Int}(h:rZ gl od lo on tm k8 ((a,sg)::F) nx)(hd:¬nx a<(gl.getD a []).length)(he:oW lo a=oW od a)
  (l1:on'.length=gl.length) (l2:of'.length=gl.length) {m:Int} (hm:∃j,(j=a\/j∈sg)/\m=((j:Nat):Int)) (Kj:∀j,(j=a\/j∈sg)->m<=((j:Nat):Int))
  (ho:∀k,k<gl.length->on'.getD k false=if k=a\/k∈sg then false else on.getD k false) (hf:∀k,k<gl.length->oW of' k=if k=a\/k∈sg then m else oW k8 k):rZ gl od lo on' tm of' F nx:=by
 have hb:=h.Um.below
 have mem:∀k,k∈fJ ((a,sg)::F)↔k∈sg\/k=a\/k∈fJ F:=fun k=>by rw[gT];simp
 have ex:∀k,k∈fJ F->¬(k=a\/k∈sg):=fun k hk q=>by
  have:=hb.1 k hk
  rcases q with q|q
  .subst q;omega
  have:=hb.2 k q;omega
 have es:Bn od F=fun k=>Bn od ((a,sg)::F) k\/k=a\/k∈sg:=by
  funext k;apply propext
  unfold Bn
  rw[mem]
  constructor
  .intro⟨h1,h2,h3⟩
   by_cases e:k=a\/k∈sg
   .exact .inr e
   exact .inl ⟨h1,h2,fun q=>q.elim (fun q=>e (.inr q)) fun q=>q.elim (fun q=>e (.inl q)) h3⟩
  rintro(⟨h1,h2,h3⟩|q)
  .exact⟨h1,h2,fun q=>h3 (.inr (.inr q))⟩
  have hl:=h.lt k ((mem k).2 (q.elim (fun q=> .inr (.inl q)) .inl))
  exact⟨by rw[h.Ul];exact hl.1,by have:=hl.2;omega,fun q2=>ex k q2 q⟩
 refine⟨h.Ul,h.llo,l1,l2,fun k hk=> ?_,fun k hk=>h.lt k ((mem k).2 (.inr (.inr hk))),h.odI,h.cnt,h.Um.close,by rw[es];exact h.kne.close h.Um he (h.all hd),h.nx0,fun k hk=> ?_⟩
 .rw[ho k hk]
  by_cases e:k=a\/k∈sg
  .rw[aY e];exact⟨fun q=>by simp at q,fun q=>absurd e (ex k q)⟩
  rw[aW e,h.onI k hk,mem];exact⟨fun q=>q.elim (fun q=>absurd (.inr q) e) fun q=>q.elim (fun q=>absurd (.inl q) e) id,fun q=> .inr (.inr q)⟩
 rw[es]at hk
 rcases hk with q|q
 .have hl:k<gl.length:=by rw[<-h.Ul];exact q.1
  have e:¬(k=a\/k∈sg):=fun c=>q.2.2 ((mem k).2 (c.elim (fun q=> .inr (.inl q)) .inl))
  rw[hf k hl,aW e];exact h.fin k q
 have hl:=(h.lt k ((mem k).2 (q.elim (fun q=> .inr (.inl q)) .inl))).1
 rw[hf k hl,aY q]
 have hi:=fun y=>h.kne.iff h.Um he (h.all hd) (k:=k) (y:=y) q
 obtain⟨j,hj,ej⟩:=hm
 exact⟨⟨j,ej,(hi j).2 hj⟩,fun y hy=>Kj y ((hi y).1 hy)⟩
theorem rZ.root(h:rZ gl od lo on tm k8 [(a,sg)] nx):oW lo a=oW od a:=h.Um.root
theorem rZ.keep(h:rZ gl od lo on tm k8 ((a,sg)::(p,sp)::F) nx)(he:oW lo a=oW od a):lo.set p (min (oW lo p) (oW lo a))=lo:=by
 have h1:=(h.Um.lo p (jv (x:=(p,sp)) aJ)).1
 have h2:=h.Um.below.1 p (jv (x:=(p,sp)) aJ)
 have hp:=h.lt p (jv (x:=(p,sp)) aJ)
 apply uu
 intro i
 rw[qh]
 by_cases e:p=i
 .subst e
  rw[aY O,aY Sg,Yk J]
  unfold oW;rw[eV,eF Sg];rfl
 rw[aW e]
end
def gF{α:Type}(l:List α)(ks:List Int)(v:α):List α:=ks.foldl (fun l k=>l.set k.toNat v) l
theorem jb{α:Type}{v:α}:∀{ks:List Int} {l:List α},(gF l ks v).length=l.length
 |[],l=>rfl
 |k::ks,l=>by
  show(gF (l.set k.toNat v) ks v).length=_
  rw[jb,n8]
theorem s3{α:Type}{v d:α}{i:Nat}:∀{ks:List Int} {l:List α},i<l.length->(∀k∈ks,0<=k)->(gF l ks v).getD i d=if(i:Int)∈ks then v else l.getD i d
 |[],l,_,_=>by simp[gF]
 |k::ks,l,hi,hk=>by
  have h0:=hk k aJ
  show(gF (l.set k.toNat v) ks v).getD i d=_
  rw[s3 (by rw[n8];exact hi) fun q hq=>hk q (by simp[hq])]
  by_cases c:(i:Int)∈ks
  .rw[aY c,aY (by simp[c])]
  rw[aW c,eV,qh]
  by_cases e:k.toNat=i
  .rw[aY e,aY J,aY iW];rfl
  rw[aW e,<-eV,aW (by simp[c];omega)]
theorem CU{α:Type}{v:α}{l:List α}{ks:List Int}{k:Int}(h0:0<=k)(h1:k<ks.length):gF l (ks.take (k+1).toNat) v=(gF l (ks.take k.toNat) v).set (ks.getD k.toNat 0).toNat v:=by
 have hk:k.toNat<ks.length:=J
 unfold gF
 rw[show(k+1).toNat=k.toNat+1 by omega,E7 hk,eV,eF hk,xT]
 rfl
def CV(m:Int)(ks:List Int):Int:=ks.foldl min m
theorem aeu{m:Int}{ks:List Int}{k:Int}(h0:0<=k)(h1:k<ks.length):CV m (ks.take (k+1).toNat)=min (CV m (ks.take k.toNat)) (ks.getD k.toNat 0):=by
 have hk:k.toNat<ks.length:=J
 unfold CV
 rw[show(k+1).toNat=k.toNat+1 by omega,E7 hk,eV,eF hk,xT]
 rfl
theorem abW:∀{ks:List Int} {m:Int},(CV m ks=m\/CV m ks∈ks)/\CV m ks<=m/\∀k∈ks,CV m ks<=k
 |[],m=>⟨.inl O,mc _,fun k h=>mO⟩
 |a::ks,m=>by
  obtain⟨h1,h2,h3⟩:=abW (ks:=ks) (m:=min m a)
  have e:CV m (a::ks)=CV (min m a) ks:=rfl
  rw[e]
  refine⟨?_,J,fun k hk=> ?_⟩
  .rcases h1 with q|q
   .by_cases c:m<=a
    .exact .inl J
    exact .inr (by rw[c8];exact .inl J)
   exact .inr (by simp[q])
  rcases c8.1 hk with q|q
  .subst q;omega
  exact h3 k q
theorem aiK{l:List Nat}{k:Nat}:(k:Int)∈NI l↔k∈l:=by grind[NI]
theorem abX{l:List Nat}{x:Int}(h:x∈NI l):∃k,k∈l/\x=((k:Nat):Int):=by grind[NI]
section
variable{gl:List (List Int)}{od lo:List Int}{on:List Bool}{tm:Int}{k8:List Int}{F:Uk}{nx:Nat->Nat}{a b p:Nat}{sg sp:List Nat}
theorem rZ.axL{ks:List Int}(h:rZ gl od lo on tm k8 ((a,sg)::F) nx)(hd:¬nx a<(gl.getD a []).length)(he:oW lo a=oW od a)(hks:ks=(a:Int)::NI sg.reverse):
  rZ gl od lo (gF on ks false) tm (gF k8 ks (CV a ks)) F nx:=by
 have hin:∀x,x∈ks->∃j,(j=a\/j∈sg)/\x=((j:Nat):Int):=fun x hx=>by
  rw[hks]at hx
  rcases c8.1 hx with q|q
  .exact⟨a,.inl O,q⟩
  obtain⟨k,hk,e⟩:=abX q;exact⟨k,.inr (by simpa using hk),e⟩
 have hmem:∀k:Nat,(k:Int)∈ks↔(k=a\/k∈sg):=fun k=>by
  rw[hks,c8,aiK,List.mem_reverse]
  exact or_congr J Cm
 have hpos:∀x,x∈ks->0<=x:=fun x hx=>by obtain⟨j,_,e⟩:=hin x hx;omega
 obtain⟨m1,m2,m3⟩:=abW (ks:=ks) (m:=a)
 refine h.close hd he (by rw[jb];exact h.lon) (by rw[jb];exact h.lof) (m:=CV a ks) ?_ (fun j hj=>m3 _ ((hmem j).2 hj)) (fun k hk=> ?_) fun k hk=> ?_
 .rcases m1 with q|q
  .exact⟨a,.inl O,q⟩
  exact hin _ q
 .rw[s3 (by rw[h.lon];exact hk) hpos]
  by_cases c:(k:Int)∈ks
  .rw[aY c,aY ((hmem k).1 c)]
  rw[aW c,aW fun q=>c ((hmem k).2 q)]
 show(gF k8 ks (CV a ks)).getD k 0=_
 rw[s3 (by rw[h.lof];exact hk) hpos]
 by_cases c:(k:Int)∈ks
 .rw[aY c,aY ((hmem k).1 c)]
 rw[aW c,aW fun q=>c ((hmem k).2 q)];rfl
theorem abY:NI (fJ ((a,sg)::F)).reverse=NI (fJ F).reverse++(a:Int)::NI sg.reverse:=by
 rw[gT];simp[NI]
theorem rZ.asy(h:rZ gl od lo on tm k8 ((a,sg)::F) nx):(a:Int)∉NI sg.reverse:=fun q=>by
 have:=h.Um.below.2 a (by simpa using aiK.1 q);omega
theorem ww:pX ((a,sg)::F) nx=pX F nx++[⟨a,nx a⟩]:=by simp[pX]
theorem oT:(pX F nx).length=F.length:=by simp[pX]
theorem aiL(h:rZ gl od lo on tm k8 ((a,sg)::F) nx):(pX ((a,sg)::F) nx).set F.length ⟨a,(nx a:Int)+1⟩=pX ((a,sg)::F) (qY nx a):=by
 have e:pX F (qY nx a)=pX F nx:=by
  unfold pX
  apply HR
  intro x hx
  have hx':x∈F:=by simpa using hx
  have:=h.Um.below.1 x.1 (jv hx')
  unfold qY;rw[aW (fun e=>by rw[e]at this;omega)]
 rw[ww,ww,e,<-oT (F:=F) (nx:=nx),List.set_append_right _ _ (eu _),RQ]
 unfold qY;rw[aY O];rfl
theorem Te:(pX ((a,sg)::F) nx).getD F.length ⟨0,0⟩=⟨a,nx a⟩:=by grind[ww,oT]
theorem V3:(pX ((a,sg)::F) nx).take F.length=pX F nx:=by grind[ww,oT]
end
end
end Go.Proofs.YtlhjdflgjbkpmaaGreatDoor.M
namespace Go.Proofs.YtlhjdflgjbkpmaaGreatDoor.E
section
open Go Go.RowKit Go.Proofs.YtlhjdflgjbkpmaaGreatDoor.M
def Kk:Ei:=⟨0,0⟩
def G3(x:Ei):List Value:=[I x.node,I x.next]
theorem nn(x:Ei):(G3 x).length=2:=rfl
theorem aiM{x:Ei}:∀u∈G3 x,u.oneCell'=true:=fun u hu=>by
 simp only[G3,c8,HU,Ck]at hu
 rcases hu with rfl|rfl<;>rfl
end
end Go.Proofs.YtlhjdflgjbkpmaaGreatDoor.E
namespace Go.Proofs.YtlhjdflgjbkpmaaGreatDoor.M
section
open Go
section
variable{gl:List (List Int)}{od lo:List Int}{on:List Bool}{tm:Int}{k8:List Int}{F:Uk}{nx:Nat->Nat}{a b p:Nat}{sg sp:List Nat}
theorem as5(h:((pX F nx).length:Int)>0):∃a sg F0,F=(a,sg)::F0:=by
 cases F with
 |nil=>simp[pX]at h
 |cons x F0=>exact⟨x.1,x.2,F0,rfl⟩
theorem aiN:NI (fJ F).reverse++[(a:Int)]=NI (fJ ((a,[])::F)).reverse:=by rw[abY];rfl
theorem aiO(h:nx a=0):pX F nx++[⟨a,0⟩]=pX ((a,[])::F) nx:=by rw[ww,h];rfl
theorem aiP:NI (fJ ((a,sg)::(p,sp)::F)).reverse=NI (fJ ((p,sg++a::sp)::F)).reverse:=by grind[fJ]
theorem aiQ:pX ((p,sp)::F) nx=pX ((p,sg++a::sp)::F) nx:=by rw[ww,ww]
theorem rZ.Fz(h:rZ gl od lo on tm k8 ((a,sg)::F) nx):a<gl.length:=(h.lt a D9).1
theorem abZ(h:rZ gl od lo on tm k8 F nx):(fJ F).length<=gl.length:=by
 have hn:(fJ F).Nodup:=h.Um.Nu.imp fun q e=>by rw[e]at q;omega
 have:=K7 hn (m:=List.range gl.length) fun k hk=>ou.2 (h.lt k hk).1
 rwa[RD]at this
theorem anC(h:rZ gl od lo on tm k8 F nx):F.length<=(fJ F).length:=by
 clear h
 induction F with
 |nil=>simp
 |cons x F ih=>rw[show x=(x.1,x.2)from O,gT];simp;omega
theorem axM(h:(F.length:Int)>0):∃p sp F1,F=(p,sp)::F1:=by
 cases F with
 |nil=>simp at h
 |cons x F1=>exact⟨x.1,x.2,F1,rfl⟩
end
theorem OfK.same{E:Nat->Nat->Prop}{k:Nat}{o p:Int}(h:OfK E k o)(h2:OfK E k p):o=p:=by grind[OfK]
open Classical in
noncomputable def ofK(E:Nat->Nat->Prop)(k:Nat):Int:=if h:∃o,OfK E k o then Classical.choose h else 0
theorem aiR{E:Nat->Nat->Prop}{k:Nat}{o:Int}(h:OfK E k o):ofK E k=o:=by
 unfold ofK
 rw[dif_pos ⟨o,h⟩]
 exact(Classical.choose_spec (⟨o,h⟩:∃o,OfK E k o)).same h
noncomputable def pF(gl:List (List Int)):List Int:=(List.range gl.length).map (ofK (wv gl))
section
variable{gl:List (List Int)}{od lo:List Int}{on:List Bool}{tm:Int}{k8:List Int}{nx:Nat->Nat}
theorem rZ.done(h:rZ gl od lo on tm k8 [] nx)(ha:∀k,k<gl.length->oW od k≠0):k8=pF gl:=by
 apply uu
 intro k
 unfold pF
 rw[qC]
 by_cases c:k<gl.length
 .rw[zN c,eF (by rw[h.lof];exact c)]
  have:=h.fin k ⟨by rw[h.Ul];exact c,ha k c,by simp[fJ]⟩
  rw[rp,aiR this]
  unfold oW;rw[eV,eF (by rw[h.lof];exact c)];rfl
 rw[ot (by rw[h.lof];omega),ot LZ];rfl
theorem anD:(pF gl).length=gl.length:=by simp[pF]
theorem ab0{n k:Nat}:oW (List.replicate n 0) k=0:=by grind[oW]
theorem rZ.start{n:Nat}(h:gl.length=n):rZ gl (List.replicate n 0) (List.replicate n 0) (List.replicate n false) 0 (List.replicate n 0) [] (fun _=>0):=by
 have hs:∀k,¬Bn (List.replicate n 0) [] k:=fun k q=>q.2.1 ab0
 refine⟨by simp[h],by simp[h],by simp[h],by simp[h],fun k hk=> ?_,fun k hk=>by simp[fJ]at hk,fun k=>by rw[ab0];omega,by simp[h],Gj.nil,Pf.nil fun k q=>absurd q (hs k),fun _ _=>rfl,fun k q=>absurd q (hs k)⟩
 rw[eV,XR]
 simp[fJ]
 split<;>rfl
end
end
end Go.Proofs.YtlhjdflgjbkpmaaGreatDoor.M
namespace Go.Proofs.YtlhjdflgjbkpmaaGreatDoor.E
section
open Go Go.RowKit Go.Proofs.YtlhjdflgjbkpmaaGreatDoor.M
structure xA(T:FTy)(F m:Nat)(cs:List (List Nat))(vW vU:Value)(cW cU:Option (Nat×Array Value))(W:List (BitVec 64))(ul:List (Value×jU))(ts:List Int)(cn:Int)(L:List bu):Prop where
 fo:∃tn,ts=Ki tn/\FoI T F m cs vW vU vW cW cU W ul tn L
 cn:cn=((leads (bB cs):Nat):Int)
section
variable{T:FTy}{F m m':Nat}{cs:List (List Nat)}{vW vU:Value}{cW cU:Option (Nat×Array Value)}{W:List (BitVec 64)}{ul:List (Value×jU)}{ts:List Int}{cn:Int}{L L':List bu}
theorem xA.mono(h:xA T F m cs vW vU cW cU W ul ts cn L)(hs:∀e∈L,e∈L'):xA T F m cs vW vU cW cU W ul ts cn L':=by
 obtain⟨tn,e,i⟩:=h.fo
 exact⟨⟨tn,e,i.hW,i.hU,i.hs,i.ok,fun x hx=>(i.un x hx).mono hs,i.lu,i.lt⟩,h.cn⟩
theorem xA.more(h:xA T F m cs vW vU cW cU W ul ts cn L)(hm:m<=m'):xA T F m' cs vW vU cW cU W ul ts cn L:=by
 obtain⟨tn,e,i⟩:=h.fo
 exact⟨⟨tn,e,i.hW,i.hU,i.hs,i.ok,i.un,by have:=i.lu;omega,by have:=i.lt;omega⟩,h.cn⟩
theorem xA.hW(h:xA T F m cs vW vU cW cU W ul ts cn L):cO cW vW (W.map U):=by obtain⟨tn,e,i⟩:=h.fo;exact i.hW
theorem xA.hU(h:xA T F m cs vW vU cW cU W ul ts cn L):cO cU vU (ul.map Prod.fst):=by obtain⟨tn,e,i⟩:=h.fo;exact i.hU
theorem xA.now(h:xA T F m cs vW vU cW cU W ul ts cn L):∃nd cl Be,cs=cl::Be/\W=bE nd/\Fo nd cl/\nd.length=cl.length/\cl.length<=m/\ts.length+1=cs.length/\leads cl<=m:=by
 obtain⟨tn,rfl,i⟩:=h.fo
 obtain⟨nd,cl,Be,h1,h2,h3,h4,h5,h6,h7⟩:=i.now
 exact⟨nd,cl,Be,h1,h2,h3,h4,h5,by rw[xz];exact h6,h7⟩
theorem xA.ne(h:xA T F m cs vW vU cW cU W ul ts cn L):0<cs.length:=by obtain⟨nd,cl,Be,e,_⟩:=h.now;subst e;simp
end
def qE(c:Option (Nat×Array Value))(v:Value)(e:TypeId)(xs:List Value):bu:=
 match c with
 |none=> .row v e 1 xs.length xs
 |some (b,cur)=> .blk b (.cells cur e (0,0))
def qO(c:Option (Nat×Array Value))(v:Value)(xs:List Value):Prop:=
 match c with
 |none=>True
 |some (b,cur)=>∃o cap,v= .slice (some ⟨b,o,none⟩) xs.length cap/\xs.length<=cap/\o+cap<=cur.size/\(cur.toList.drop o).take xs.length=xs/\cap<=maxLen
theorem ab1{b o k cap:Nat}:pg (.slice (some ⟨b,o,none⟩) (k+1) cap) 1 1= .slice (some ⟨b,if cap=1 then o else o+1,none⟩) k (cap-1):=by grind[pg,CN]
section
variable{P:Program}{σ:Env}{w0 w:World}{L:List bu}{c:Option (Nat×Array Value)}{v u x0:Value}{e t ty:TypeId}{xs news:List Value}{i m:Nat}{pos:String}{bO:Array Edge}{dst:Option Tmp}{g:Option (Nat×Bool)}{x y:Operand}
theorem Hp.slQ(h:Hp w0 w L)(hi:L[i]?=some (qE c v e xs))(hk:qO c v xs):Sl w v 1 xs.length xs:=by
 cases c with
 |none=>exact h.sl hi
 |some bc=>
  obtain⟨b,cur⟩:=bc
  obtain⟨o,cap,rfl,h1,h2,h3,h4⟩:=hk
  refine⟨⟨_,cap,rfl,h1,fun _=>rfl⟩,J,fun j u hu=> ?_,J⟩
  simp only[sb,so]
  rw[xX w _ _ cur e (0,0) (h.blk hi)]
  rw[<-h3,vx]at hu
  split at hu
  .rw[Cb]at hu;simpa using hu
  .cases hu
theorem Hp.axN(h:Hp w0 w L)(hi:L[i]?=some (qE c v e (x0::xs)))(hk:qO c v (x0::xs)):∃c',qO c' (pg v 1 1) xs/\Hp w0 w (L.set i (qE c' (pg v 1 1) e xs)):=by
 cases c with
 |none=>
  have hr:w.ownsRow w0.heap.size e 1 v (x0::xs).length (x0::xs):=h.get hi
  obtain⟨h1,h2⟩:=hr
  rcases h2 with⟨rfl,q⟩|⟨gb,cap,cur,rfl,hb,hg,hn,hc,hs,ht⟩
  .simp at q
  rw[eG]at hn
  rw[l9]at hs ht
  refine⟨some (gb,cur),⟨if cap=1 then 0 else 0+1,cap-1,ab1,J,by split<;>omega,?_,J⟩,h.xx hi O ⟨hb,hg⟩⟩
  rw[eG]at ht
  by_cases q:cap=1
  .have e0:xs.length=0:=J
   rw[e0,xQ];exact(zK e0).symm
  rw[aW q]
  cases oF:cur.toList with
  |nil=>rw[oF]at ht;simp at ht
  |cons a l=>
   rw[oF]at ht
   simp at ht⊢
   exact ht.2
 |some bc=>
  obtain⟨b,cur⟩:=bc
  obtain⟨o,cap,rfl,h1,h2,h3,h4⟩:=hk
  rw[eG]at h1
  refine⟨some (b,cur),⟨if cap=1 then o else o+1,cap-1,ab1,J,by split<;>omega,?_,J⟩,h.xx hi O (h.get hi)⟩
  rw[eG]at h3
  by_cases q:cap=1
  .have e0:xs.length=0:=J
   rw[e0,xQ];exact(zK e0).symm
  rw[aW q,<-RK]
  cases oF:cur.toList.drop o with
  |nil=>rw[oF]at h3;simp at h3
  |cons a l=>
   rw[oF]at h3
   simp at h3⊢
   exact h3.2
theorem anE{ie:TypeInfo}{z:Value}{bytes:Nat}(h:Hp w0 w L)(hi:L[i]?=some (qE c v e xs))(hk:qO c v xs)(hS:Sl w u 1 1 [x0])
  (hx:ev σ x=v) (hy:ev σ y=u) (ht:P.underlying t=some (.slice e)) (hie:P.info? e=some ie) (hz:ie.zero=some z)
  (hsize:ie.size=1) (hby:ie.bytes=bytes) (hzs:z.cells.size=1) (h1:x0.oneCell'=true) (hb:xs.length+1<=1000000000) (Ip:bytes<=1000):
  ∃v' c' w',(execOp (ev σ) ⟨dst,.call {callee:= .builtin .append,args:=#[x,y],argTypes:=#[t,t]},ty,pos,bO,g⟩).run P w= .ok (.value v') w'/\qO c' v' (xs++[x0])/\Hp w0 w' (L.set i (qE c' v' e (xs++[x0]))):=by
 have hbytes:(xs.length+1)*bytes<=140737488355328:=kf (xV hb Ip) az
 have h63:xs.length+1<=maxLen:=by simp only[maxLen];omega
 have hone:∀q∈[x0],q.oneCell'=true:=fun q hq=>by rw[gG.1 hq];exact h1
 cases c with
 |none=>
  obtain⟨v',w',hr,h2,h3,h4⟩:=tB (P:=P) (ty:=ty) ht hie hz hsize hby hzs J (h.get hi) hS hone h63 hbytes h.size
  refine⟨v',none,w',th hx hy hr,trivial,?_⟩
  have:=h.yN hi h2 h3 h4
  unfold qE;rw[ed];exact this
 |some bc=>
  have hX:=h.slQ hi hk
  obtain⟨b,cur⟩:=bc
  obtain⟨o,cap,rfl,k1,k2,k3,k4⟩:=hk
  obtain⟨a,Vp,hu,huc,hua⟩:=hS.shape
  have aEK:=hua J
  generalize hB:sb u=B at*
  generalize hO:so u=Ozz at*
  subst aEK
  have hnews:∀j q,[x0][j]?=some q->w.cell? ((⟨B,Ozz,none⟩:Addr).add j)=some q:=fun j q hq=>by
   have:=hS.cell j q hq
   rw[hB,hO]at this
   rw[CN];exact this
  subst hu
  by_cases room:xs.length+1<=cap
  .have hg:=h.blk hi
   have hf:=run_firstCells_some (P:=P) w 1 1 _ 1 Vp [x0] O hnews
   have hst:=X7 P b (o+xs.length*1) e [x0] 0 cur w hg iW hone
   simp only[LL]at hst
   have hr:(Builtin.append_ #[t,t] ty #[.slice (some ⟨b,o,none⟩) xs.length cap,.slice (some ⟨B,Ozz,none⟩) 1 Vp]).run P w= .ok (.slice (some ⟨b,o,none⟩) (xs.length+1) cap) (w.setRow b (cur.toList.take (o+xs.length*1)++[x0]++cur.toList.drop (o+xs.length*1+[x0].length)).toArray):=by
    simp only[l9]at hst⊢
    simp[Builtin.append_,kP ht,sizeOf,typeInfo,hie,hsize,Builtin.lenOf,room,hf,Addr.add_lit,hst]
   refine⟨_,some (b,(cur.toList.take (o+xs.length*1)++[x0]++cur.toList.drop (o+xs.length*1+[x0].length)).toArray),_,th hx hy hr,⟨o,cap,by rw[ed,ey],by simpa using room,?_,?_,k4⟩,h.set hi⟩
   .simp only[vz,ed,ef,yK,ey,E8];omega
   have hl:cur.toList.length=cur.size:=E8
   have e1:((cur.toList.take (o+xs.length*1)++[x0]++cur.toList.drop (o+xs.length*1+[x0].length)).drop o)=(cur.toList.drop o).take xs.length++([x0]++cur.toList.drop (o+xs.length*1+[x0].length)):=by
    rw[dH,Ll (by rw[ef];omega),List.drop_take]
    congr 2;omega
   show List.take (xs++[x0]).length (List.drop o (cur.toList.take (o+xs.length*1)++[x0]++cur.toList.drop (o+xs.length*1+[x0].length)))=_
   rw[e1,k3,ed,XM]
   rfl
  have holds:∀j q,xs[j]?=some q->w.cell? ((⟨b,o,none⟩:Addr).add j)=some q:=fun j q hq=>by
   rw[CN]
   have:=hX.cell j q hq
   simpa[sb,so]using this
  obtain⟨v',w',hr,h2,h3⟩:=run_append_arg_grows (P:=P) (w:=w) t ty e ie z 1 bytes ht hie hz hsize hby hzs J ⟨b,o,none⟩ xs.length cap xs J holds _ 1 Vp [x0] O hnews J h63 hbytes
  refine⟨v',none,w',th hx hy hr,trivial,?_⟩
  have aEL:Below w.heap.size w w':=(Below.refl w.heap.size w).grown h3 (eu _) (fun k hk=>by cases hk)
  have:=(h.DO aEL h2).swap (n7.1 hi).1
  unfold qE;rw[ed];exact this
variable{n d:Nat}{ops:Array Oper}{k:K}{rest:List Oper}
theorem as6{ie:TypeInfo}{z:Value}{bytes:Nat}{α:Type}{f:α->Value}{l:List α}{a:α}(hd:Nat.blt d n=true)(h:Hp w0 w L)(hi:L[i]?=some (qE c v e (l.map f)))(hk:qO c v (l.map f))(hS:Sl w u 1 1 [f a])
  (hx:ev σ x=v) (hy:ev σ y=u) (ht:P.underlying t=some (.slice e)) (hie:P.info? e=some ie) (hz:ie.zero=some z)
  (hsize:ie.size=1) (hby:ie.bytes=bytes) (hzs:z.cells.size=1) (h1:(f a).oneCell'=true) (hb:l.length+1<=1000000000) (Ip:bytes<=1000)
  (hn:∀v' c' w',qO c' v' ((l++[a]).map f)->Hp w0 w' (L.set i (qE c' v' e ((l++[a]).map f)))->RL P n ops k rest (me σ d v') w'):RL P n ops k (⟨some d,.call {callee:= .builtin .append,args:=#[x,y],argTypes:=#[t,t]},ty,pos,bO,none⟩::rest) σ w:=by
 obtain⟨v',c',w',hr,h2,h3⟩:=anE (P:=P) (ty:=ty) (dst:=some d) (pos:=pos) (bO:=bO) (g:=none) h hi hk hS hx hy ht hie hz hsize hby hzs h1 (by rw[gA];exact hb) Ip
 rw[<-Lx (f:=f),<-gP]at h2 h3
 exact pA hd hr (hn v' c' w' h2 h3)
end
abbrev Va:=Nat->El
structure tT where
 sh:Sh
 ev:Va->El
 to:Option Nat
 c:El
 vars:List Nat
structure Sys where
 n:Nat
 sh:Nat->Sh
def qv(S:Sys)(u:Va):Prop:=∀i,i<S.n->cI (S.sh i) (u i)=true
def LeV(S:Sys)(u v:Va):Prop:=∀i,i<S.n->cS (u i) (v i)=true
structure tU(S:Sys)(q:tT):Prop where
 fit:∀u,qv S u->cI q.sh (q.ev u)=true
 lt:∀i,i∈q.vars->i<S.n
 QE:∀u v,qv S u->qv S v->(∀i,i∈q.vars->cS (u i) (v i)=true)->cS (q.ev u) (q.ev v)=true
 to:∀k,q.to=some k->k<S.n/\S.sh k=q.sh
def tT.rhs(q:tT)(u:Va):El:=match q.to with
 |some k=>u k
 |none=>q.c
def fp(q:tT)(u:Va):Prop:=cS (q.ev u) (q.rhs u)=true
structure u7(S:Sys)(Q:tT->Prop)(u:Va):Prop where
 fit:qv S u
 hold:∀q,Q q->q.to≠none->fp q u
def G4(v:Va)(k:Nat)(e:El):Va:=fun i=>if i=k then e else v i
structure CX(S:Sys)(Q:tT->Prop)(v:Va):Prop where
 fit:qv S v
 low:∀u,u7 S Q u->LeV S v u
structure nU(S:Sys)(Q:tT->Prop)(v:Va):Prop where
 low:CX S Q v
 sol:∀q,Q q->q.to≠none->fp q v
theorem tU.mono{S:Sys}{q:tT}(h:tU S q)(u v:Va)(hu:qv S u)(hv:qv S v)(hl:LeV S u v):cS (q.ev u) (q.ev v)=true:=h.QE u v hu hv fun i hi=>hl i (h.lt i hi)
section
variable{S:Sys}{Q Q':tT->Prop}{u v w:Va}{q:tT}{k:Nat}{e:El}
theorem fH{a b c:El}(h:cS a b=true)(h2:cS b c=true):cS a c=true:=by grind[qf,mq]
theorem lB{a b:El}(h:sx a b):cS a b=true:=qf.2 fun i hi=>by rw[h i hi];exact tL _
theorem nU.is(h:nU S Q v):u7 S Q v:=⟨h.low.fit,h.sol⟩
theorem nU.same(h:nU S Q v)(h2:nU S Q w):∀i,i<S.n->sx (v i) (w i):=fun i hi=>Y5 (h.low.low w h2.is i hi) (h2.low.low v h.is i hi)
theorem ab2(hs:∀i,i<S.n->mJ (S.sh i)=true)(hv:∀i,i<S.n->v i=gI (S.sh i) ez):CX S Q v:=
 ⟨fun i hi=>by rw[hv i hi];exact(P8 (hs i hi)).1,fun u hu i hi=>by rw[hv i hi];exact(P8 (hs i hi)).2 _ (hu.fit i hi)⟩
theorem CX.raise(h:CX S Q v)(hq:Q q)(ho:tU S q)(hk:q.to=some k):CX S Q (G4 v k (eo q.sh (v k) (q.ev v))):=by
 obtain⟨k1,k2⟩:=ho.to k hk
 have fk:=h.fit k k1
 rw[k2]at fk
 refine⟨fun i hi=> ?_,fun u hu i hi=> ?_⟩
 .unfold G4
  by_cases e:i=k
  .rw[aY e,e,k2];exact IS fk (ho.fit v h.fit)
  rw[aW e];exact h.fit i hi
 unfold G4
 by_cases e:i=k
 .rw[aY e,e]
  have h1:=h.low u hu
  have h2:=hu.hold q hq (by rw[hk];simp)
  unfold fp tT.rhs at h2
  rw[hk]at h2
  have fu:=hu.fit k k1
  rw[k2]at fu
  exact abu fk (ho.fit v h.fit) fu (h1 k k1) (fH (ho.mono v u h.fit hu.fit h1) h2)
 rw[aW e];exact h.low u hu i hi
theorem CX.more(h:CX S Q v)(hq:∀q,Q q->Q' q):CX S Q' v:=⟨h.fit,fun u hu=>h.low u ⟨hu.fit,fun q h1 h2=>hu.hold q (hq q h1) h2⟩⟩
theorem CX.ap4(h:CX S Q v)(ho:tU S q)(hk:q.to=none)(hf:¬fp q v):∀u,u7 S Q u->¬fp q u:=fun u hu hh=>hf (by
 unfold fp tT.rhs at hh⊢
 rw[hk]at hh⊢
 exact fH (ho.mono v u h.fit hu.fit (h.low u hu)) hh)
def qP(S:Sys)(Q:tT->Prop)(C:Nat->Prop):Prop:=∀u,u7 S Q u->∀i k,C i->C k->sx (u i) (u k)
def rO(v:Va)(C:Nat->Prop)[DecidablePred C](e:El):Va:=fun i=>if C i then e else v i
theorem CX.ring{C:Nat->Prop}[DecidablePred C](h:CX S Q v)(hC:qP S Q C)(hin:∀i,C i->i<S.n)(hk:C k)(hsh:∀i,C i->S.sh i=S.sh k)(he:cI (S.sh k) e=true)(hl:∀u,u7 S Q u->cS e (u k)=true):CX S Q (rO v C e):=by
 refine⟨fun i hi=> ?_,fun u hu i hi=> ?_⟩
 .unfold rO
  by_cases c:C i
  .rw[aY c,hsh i c];exact he
  rw[aW c];exact h.fit i hi
 unfold rO
 by_cases c:C i
 .rw[aY c];exact fH (hl u hu) (lB (hC u hu k i hk c))
 rw[aW c];exact h.low u hu i hi
theorem CX.lub(h:CX S Q v)(hq:Q q)(ho:tU S q)(hk:q.to=some k):cI (S.sh k) (eo q.sh (v k) (q.ev v))=true/\∀u,u7 S Q u->cS (eo q.sh (v k) (q.ev v)) (u k)=true:=by
 have h1:=h.raise hq ho hk
 have k1:=(ho.to k hk).1
 have e:G4 v k (eo q.sh (v k) (q.ev v)) k=eo q.sh (v k) (q.ev v):=aY O
 refine⟨?_,fun u hu=> ?_⟩
 .have:=h1.fit k k1;rwa[e]at this
 have:=h1.low u hu k k1;rwa[e]at this
theorem qP.of{C:Nat->Prop}(hC:∀u,u7 S Q u->∀i k,C i->C k->cS (u i) (u k)=true):qP S Q C:=fun u hu i k hi hk=>Y5 (hC u hu i k hi hk) (hC u hu k i hk hi)
abbrev Qm:=BitVec 64->tT->Prop
def aev(M:Qm):Prop:=∀a b q,ep a b=true->M a q->M b q
def FR(S:Sys)(M:Qm)(v:Va)(ws:Nat->BitVec 64):Prop:=∀k,k<S.n->∀u,u7 S (M (ws k)) u->cS (v k) (u k)=true
def Pg(y:BitVec 64)(ws:Nat->BitVec 64)(l:List Nat):BitVec 64:=l.foldl (fun a i=>a|||ws i) y
theorem G5:∀(l:List Nat) (y:BitVec 64) (ws:Nat->BitVec 64),ep y (Pg y ws l)=true/\∀i∈l,ep (ws i) (Pg y ws l)=true
 |[],y,ws=>⟨tL _,fun i hi=>by cases hi⟩
 |a::l,y,ws=>by
  obtain⟨h1,h2⟩:=G5 l (y|||ws a) ws
  refine⟨mq (Iv _ _) h1,fun i hi=> ?_⟩
  rcases c8.1 hi with e|hi
  .rw[e];exact mq (GJ _ _) h1
  exact h2 i hi
theorem u7.less{Q Q':tT->Prop}(h:u7 S Q' u)(hq:∀q,Q q->Q' q):u7 S Q u:=⟨h.fit,fun q h1 h2=>h.hold q (hq q h1) h2⟩
section
variable{M:Qm}{ws:Nat->BitVec 64}{y:BitVec 64}
theorem FR.ev(h:FR S M v ws)(hM:aev M)(hv:qv S v)(ho:tU S q){W:BitVec 64}(hW:ep (Pg y ws q.vars) W=true)(hu:u7 S (M W) u):cS (q.ev v) (q.ev u)=true:=
 ho.QE v u hv hu.fit fun i hi=>h i (ho.lt i hi) u (hu.less fun q hq=>hM _ _ _ (mq ((G5 _ y ws).2 i hi) hW) hq)
theorem FR.stuck(h:FR S M v ws)(hM:aev M)(hv:qv S v)(ho:tU S q)(hk:q.to=none)(hf:¬fp q v):∀u,u7 S (M (Pg y ws q.vars)) u->¬fp q u:=fun u hu hh=>hf (by
 unfold fp tT.rhs at hh⊢
 rw[hk]at hh⊢
 exact fH (h.ev hM hv ho (tL _) hu) hh)
def FT(ws:Nat->BitVec 64)(C:Nat->Prop)[DecidablePred C](W:BitVec 64):Nat->BitVec 64:=fun i=>if C i then W else ws i
theorem FR.raise{C:Nat->Prop}[DecidablePred C](h:FR S M v ws)(hM:aev M)(hv:qv S v)(ho:tU S q)(hk:q.to=some k)(hy:M y q)(hC:qP S (M (ws k)) C)(hck:C k){W:BitVec 64}(hW1:ep (ws k) W=true)(hW2:ep (Pg y ws q.vars) W=true):
  FR S M (rO v C (eo q.sh (v k) (q.ev v))) (FT ws C W):=fun i hi u hu=>by
 unfold FT at hu
 unfold rO
 by_cases c:C i
 .rw[aY c]at hu⊢
  obtain⟨k1,k2⟩:=ho.to k hk
  have hu1:u7 S (M (ws k)) u:=hu.less fun q hq=>hM _ _ _ hW1 hq
  have h1:=h.ev hM hv ho hW2 hu
  have h2:=hu.hold q (hM _ _ _ (mq (G5 q.vars y ws).1 hW2) hy) (by rw[hk];simp)
  unfold fp tT.rhs at h2
  rw[hk]at h2
  have fv:=hv k k1;have fu:=hu.fit k k1
  rw[k2]at fv fu
  exact fH (abu fv (ho.fit v hv) fu (h k k1 u hu1) (fH h1 h2)) (lB (hC u hu1 k i hck c))
 rw[aW c]at hu⊢;exact h i hi u hu
theorem FR.ring{C:Nat->Prop}[DecidablePred C](h:FR S M v ws)(hM:aev M){W:BitVec 64}(hC:qP S (M W) C)(hW:∀i,C i->i<S.n/\ep (ws i) W=true)(he:∀u,u7 S (M W) u->∀i,C i->cS e (u i)=true):FR S M (rO v C e) (FT ws C W):=fun i hi u hu=>by
 unfold FT at hu
 unfold rO
 by_cases c:C i
 .rw[aY c]at hu⊢;exact he u hu i c
 rw[aW c]at hu⊢;exact h i hi u hu
end
def AF(H r:Int)(U:Nat):Int:=(H-r)*U
def pG(S:Sys)(U:Nat->Nat)(v:Va):Nat->Int
 |0=>0
 |n+1=>pG S U v n+AF (gJ (S.sh n)) (nh (S.sh n) (v n)) (U n)
theorem La{U:Nat->Nat}(hv:qv S v):∀n,n<=S.n->0<=pG S U v n
 |0,_=>mc _
 |n+1,hn=>by
  have h1:=La (U:=U) hv n J
  have h2:=ahm (hv n J)
  have h3:0<=AF (gJ (S.sh n)) (nh (S.sh n) (v n)) (U n):=Int.mul_nonneg J J
  show 0<=pG S U v n+_
  omega
theorem Tf{U:Nat->Nat}:∀n,pG S U (G4 v k e) n=pG S U v n+(if k<n then AF (gJ (S.sh k)) (nh (S.sh k) e) (U k)-AF (gJ (S.sh k)) (nh (S.sh k) (v k)) (U k)else 0)
 |0=>by simp[pG]
 |n+1=>by
  have ih:=Tf (U:=U) n
  show pG S U (G4 v k e) n+AF (gJ (S.sh n)) (nh (S.sh n) (G4 v k e n)) (U n)=pG S U v n+AF (gJ (S.sh n)) (nh (S.sh n) (v n)) (U n)+_
  rw[ih]
  by_cases h:n=k
  .subst h
   have e1:G4 v n e n=e:=aY O
   rw[e1,aW J,aY J];omega
  have e1:G4 v k e n=v n:=aW h
  rw[e1]
  by_cases h2:k<n
  .rw[aY h2,aY J];omega
  rw[aW h2,aW J];omega
theorem QF{U:Nat->Nat}(hv:qv S v)(hk:k<S.n)(he:cI (S.sh k) e=true)(hl:cS (v k) e=true)(hne:¬sx e (v k)):pG S U (G4 v k e) S.n+U k<=pG S U v S.n:=by
 rw[Tf,aY hk]
 have h1:=ahn (hv k hk) he hl hne
 have h2:AF (gJ (S.sh k)) (nh (S.sh k) e) (U k)+U k<=AF (gJ (S.sh k)) (nh (S.sh k) (v k)) (U k):=by
  unfold AF
  have:(gJ (S.sh k)-nh (S.sh k) e+1)*(U k:Int)<=(gJ (S.sh k)-nh (S.sh k) (v k))*(U k:Int):=Int.mul_le_mul_of_nonneg_right J J
  rw[Int.add_mul,Int.one_mul]at this
  exact this
 omega
theorem Tg{U U':Nat->Nat}:∀n,pG S (fun k=>U k+U' k) v n=pG S U v n+pG S U' v n
 |0=>rfl
 |n+1=>by
  have ih:=Tg (U:=U) (U':=U') n
  show pG S (fun k=>U k+U' k) v n+AF _ _ (U n+U' n)=pG S U v n+AF _ _ (U n)+(pG S U' v n+AF _ _ (U' n))
  rw[ih]
  unfold AF
  rw[show((U n+U' n:Nat):Int)=(U n:Int)+(U' n:Int)by omega,Int.mul_add]
  omega
theorem Nv:∀n,pG S (fun _=>0) v n=0
 |0=>rfl
 |n+1=>by
  show pG S (fun _=>0) v n+AF _ _ 0=0
  rw[Nv n];simp[AF]
theorem ab3{x:Nat}:∀n,pG S (fun k=>if k=x then 1 else 0) v n=if x<n then gJ (S.sh x)-nh (S.sh x) (v x)else 0
 |0=>by simp[pG]
 |n+1=>by
  show pG S (fun k=>if k=x then 1 else 0) v n+AF _ _ (if n=x then 1 else 0)=_
  rw[ab3 n]
  by_cases h:n=x
  .subst h;rw[aY O,aW J,aY J];simp[AF]
  rw[aW h]
  by_cases h2:x<n
  .rw[aY h2,aY J];simp[AF]
  rw[aW h2,aW J];simp[AF]
def Th(k:Nat):List Nat->Nat
 |[]=>0
 |x::l=>(if k=x then 1 else 0)+Th k l
theorem V4{H:Int}:∀{l:List Nat},(∀x,x∈l->x<S.n/\gJ (S.sh x)<=H)->pG S (fun k=>Th k l) v S.n<=H*l.length
 |[],_=>by
  show pG S (fun _=>0) v S.n<=_
  rw[Nv];simp
 |x::l,h=>by
  have ih:=V4 (l:=l) (H:=H) fun y hy=>h y (gd _ hy)
  have e:(fun k=>Th k (x::l))=fun k=>(if k=x then 1 else 0)+Th k l:=rfl
  rw[e,Tg,ab3,aY (h x aJ).1]
  have h1:=(h x aJ).2
  have h2:=ahl (S.sh x) (v x)
  rw[eG,show((l.length+1:Nat):Int)=(l.length:Int)+1 by omega,Int.mul_add,Int.mul_one]
  omega
def V5(l:List tT)(k:Nat):Nat:=match l with
 |[]=>0
 |q::l=>Th k q.vars+V5 l k
theorem V6:∀{l:List tT},(∀q,q∈l->∀x,x∈q.vars->x<S.n/\S.sh x=q.sh)->pG S (V5 l) v S.n<=(l.map fun q=>gJ q.sh*q.vars.length).sum
 |[],_=>by
  show pG S (fun _=>0) v S.n<=_
  rw[Nv];simp
 |q::l,h=>by
  have ih:=V6 (l:=l) fun p hp=>h p (gd _ hp)
  have e:V5 (q::l)=fun k=>Th k q.vars+V5 l k:=rfl
  rw[e,Tg,lZ,Fj]
  have:=V4 (S:=S) (v:=v) (l:=q.vars) (H:=gJ q.sh) fun x hx=>⟨(h q aJ x hx).1,by rw[(h q aJ x hx).2];exact mc _⟩
  omega
end
section
variable{sh:Sh}{l:List dX}{us vs:List El}
def aiS(sh:Sh)(l:List dX)(us vs:List El):Prop:=∀x,x∈l->(x.op=1->0<=x.n/\x.n<us.length/\cI sh (us.getD x.n.toNat df)=true/\cI sh (vs.getD x.n.toNat df)=true/\cS (us.getD x.n.toNat df) (vs.getD x.n.toNat df)=true)/\(x.op=2->cI sh x.c=true)
theorem Nw(hr:fY l=true)(hl:us.length=vs.length)(hi:aiS sh l us vs):
  (eA sh l us).2=true/\(eA sh l vs).2=true/\cI sh (eA sh l us).1=true/\cS (eA sh l us).1 (eA sh l vs).1=true:=by
 have key:∀n:Nat,n<=l.length->∃st su,ir sh us l n=some st/\ir sh vs l n=some su/\jt l n=some st.length/\u6 st su/\(∀e∈st,cI sh e=true)/\∀e∈su,cI sh e=true:=by
  intro n
  induction n with
  |zero=>intro _;exact⟨[],[],rfl,rfl,rfl,trivial,(fun e he=>by cases he),fun e he=>by cases he⟩
  |succ n ih=>
   intro hn
   obtain⟨st,su,h1,h2,h3,h4,h5,h6⟩:=ih J
   have hx:=(lX (fG (d:=bG) (l:=l) (i:=(n:Int)) J J))
   rw[show((n+1:Nat):Int)=(n:Int)+1 by omega]
   have hlen:=h4.len
   rcases abH hr (k:=(n:Int)) J J h3 with⟨ho,hd⟩|⟨⟨ho,hn1,Qq⟩,hd⟩
   .rcases ho with ho|ho
    .obtain⟨hx1,hx2,fm,fa,hle⟩:=(hi _ hx).1 ho
     refine⟨_,_,ahP J J h1 ho ⟨hx1,hx2⟩,ahP J J h2 ho ⟨hx1,J⟩,by rw[hd];simp,h4.app ⟨hle,trivial⟩,fun e he=> ?_,fun e he=> ?_⟩
     .rcases fh.1 he with q|q
      .exact h5 e q
      rw[gG.1 q];exact fm
     rcases fh.1 he with q|q
     .exact h6 e q
     rw[gG.1 q];exact fa
    have hk:=(hi _ hx).2 ho
    refine⟨_,_,amX J J h1 ho,amX J J h2 ho,by rw[hd];simp,h4.app ⟨kp _,trivial⟩,fun e he=> ?_,fun e he=> ?_⟩
    .rcases fh.1 he with q|q
     .exact h5 e q
     rw[gG.1 q];exact hk
    rcases fh.1 he with q|q
    .exact h6 e q
    rw[gG.1 q];exact hk
   generalize hg:l.getD (n:Int).toNat bG=x at*
   have e1:=asu (s:=sh) (v:=us) (l:=l) (st:=st) (k:=(n:Int)) J J h1 KH KH
   have e2:=asu (s:=sh) (v:=vs) (l:=l) (st:=su) (k:=(n:Int)) J J h2 KH KH
   rw[hg]at e1 e2
   have d1:st.drop (st.length-x.n.toNat)≠[]:=fun q=>by
    have:=aK List.length q
    rw[yK,xU]at this;omega
   have g1:∀e∈st.drop (st.length-x.n.toNat),cI sh e=true:=fun e he=>h5 e (sF he)
   have g2:∀e∈su.drop (su.length-x.n.toNat),cI sh e=true:=fun e he=>h6 e (sF he)
   have hld:=h4.drop (st.length-x.n.toNat)
   have hlt:=h4.take (st.length-x.n.toNat)
   rw[hlen]at hld hlt
   rw[<-hlen]at hld hlt
   have d2:su.drop (su.length-x.n.toNat)≠[]:=fun q=>by
    have:=aK List.length q
    rw[yK,xU]at this;omega
   refine⟨_,_,e1,e2,?_,?_,fun e he=> ?_,fun e he=> ?_⟩
   .rw[hd,ed,ef,ey];congr 1;omega
   .rw[<-hlen]
    refine hlt.app ⟨Nf hld g1 (by rw[<-hlen]at g2;exact g2),trivial⟩
   .rcases fh.1 he with q|q
    .exact h5 e (uK q)
    rw[gG.1 q];exact Ao d1 g1
   rcases fh.1 he with q|q
   .exact h6 e (uK q)
   rw[gG.1 q];exact Ao d2 g2
 obtain⟨st,su,h1,h2,h3,h4,h5,_⟩:=key l.length (eu _)
 rw[Nb hr J J h1,Nb hr J J h2]
 have l1:=Uv hr (k:=(l.length:Int)) J J h3
 have n1:st≠[]:=fun q=>by rw[q]at l1;simp at l1
 refine⟨rfl,rfl,?_,h4.oW⟩
 cases st with
 |nil=>exact absurd O n1
 |cons a st=>exact h5 a aJ
end
def tW:List Int->Int->List Int
 |[],n=>[n]
 |a::l,n=>if a<n then a::tW l n else if a=n then a::l else n::a::l
def dB(l:List dX):List Int:=l.foldl (fun o x=>if x.op=1/\0<=x.n then tW o x.n else o) []
theorem Nx{i n:Int}:∀{l:List Int},i∈tW l n↔i∈l\/i=n
 |[]=>by simp[tW]
 |a::l=>by
  unfold tW
  split
  .rw[c8,Nx,c8,or_assoc]
  split
  .rename_i h;subst h;simp only[c8];constructor
   .intro h;exact .inl h
   rintro(h|h)
   .exact h
   exact .inl h
  simp only[c8];constructor
  .rintro(h|h|h)
   .exact .inr h
   .exact .inl (.inl h)
   exact .inl (.inr h)
  rintro((h|h)|h)
  .exact .inr (.inl h)
  .exact .inr (.inr h)
  exact .inl h
theorem QG{n:Int}:∀{l:List Int},l.Pairwise (· <·)->(tW l n).Pairwise (· <·)
 |[],_=>by simp[tW]
 |a::l,h=>by
  obtain⟨h1,h2⟩:=lY.1 h
  unfold tW
  split
  .refine lY.2 ⟨fun x hx=> ?_,QG h2⟩
   rcases Nx.1 hx with q|q
   .exact h1 x q
   omega
  split
  .exact h
  refine lY.2 ⟨fun x hx=> ?_,h⟩
  rcases c8.1 hx with q|q
  .omega
  have:=h1 x q;omega
theorem QH(l:List dX):∀o:List Int,(∀i,i∈l.foldl (fun o x=>if x.op=1/\0<=x.n then tW o x.n else o) o↔i∈o\/∃x∈l,x.op=1/\0<=x.n/\x.n=i)/\(o.Pairwise (· <·)->(l.foldl (fun o x=>if x.op=1/\0<=x.n then tW o x.n else o) o).Pairwise (· <·)):=by
 induction l with
 |nil=>intro o;exact⟨fun i=>aJ,fun h=>h⟩
 |cons a l ih=>
  intro o
  rw[pq]
  by_cases c:a.op=1/\0<=a.n
  .rw[aY c]
   obtain⟨h1,h2⟩:=ih (tW o a.n)
   refine⟨fun i=> ?_,fun h=>h2 (QG h)⟩
   rw[h1,Nx]
   constructor
   .rintro((h|h)|⟨x,hx,h⟩)
    .exact .inl h
    .exact .inr ⟨a,aJ,c.1,c.2,h.symm⟩
    exact .inr ⟨x,rz,h⟩
   rintro(h|⟨x,hx,h⟩)
   .exact .inl (.inl h)
   rcases c8.1 hx with e|hx
   .subst e;exact .inl (.inr h.2.2.symm)
   exact .inr ⟨x,hx,h⟩
  rw[aW c]
  obtain⟨h1,h2⟩:=ih o
  refine⟨fun i=> ?_,h2⟩
  rw[h1]
  constructor
  .rintro(h|⟨x,hx,h⟩)
   .exact .inl h
   exact .inr ⟨x,rz,h⟩
  rintro(h|⟨x,hx,h⟩)
  .exact .inl h
  rcases c8.1 hx with e|hx
  .subst e;exact absurd ⟨h.1,h.2.1⟩ c
  exact .inr ⟨x,hx,h⟩
theorem s4{l:List dX}{i:Int}:i∈dB l↔∃x∈l,x.op=1/\0<=x.n/\x.n=i:=by simp_all[dB,QH]
theorem Ny(l:List dX):(dB l).Pairwise (· <·):=(QH l []).2 List.Pairwise.nil
def CY(n:Nat)(sh:Sh)(code:List dX)(to:iS):tT:=⟨sh,fun u=>(eA sh code ((List.range n).map u)).1,if to.var<0 then none else some to.var.toNat,to.c,(dB code).map Int.toNat⟩
structure ZM(S:Sys)(sh:Sh)(code:List dX)(to:iS):Prop where
 right:fY code=true
 var:∀x,x∈code->x.op=1->0<=x.n/\x.n<S.n/\S.sh x.n.toNat=sh
 con:∀x,x∈code->x.op=2->cI sh x.c=true
 to0:to.var<0->cI sh to.c=true
 to1:0<=to.var->to.var<S.n/\S.sh to.var.toNat=sh
theorem qQ{n:Nat}{u:Va}{i:Nat}(h:i<n):((List.range n).map u).getD i df=u i:=by grind
theorem aiT{S:Sys}{sh:Sh}{code:List dX}{to:iS}(h:ZM S sh code to):tU S (CY S.n sh code to):=by
 have key:∀u v:Va,qv S u->qv S v->(∀i,i∈(dB code).map Int.toNat->cS (u i) (v i)=true)->aiS sh code ((List.range S.n).map u) ((List.range S.n).map v):=fun u v hu hv hl x hx=>by
  refine⟨fun ho=> ?_,h.con x hx⟩
  obtain⟨h0,h1,h2⟩:=h.var x hx ho
  rw[qQ J,qQ J]
  have f1:=hu x.n.toNat J;have f2:=hv x.n.toNat J
  rw[h2]at f1 f2
  exact⟨h0,Fv,f1,f2,hl _ (fN.2 ⟨x.n,s4.2 ⟨x,hx,ho,h0,rfl⟩,rfl⟩)⟩
 refine⟨fun u hu=> ?_,fun i hi=> ?_,fun u v hu hv hl=> ?_,fun k hk=> ?_⟩
 .exact(Nw h.right aJ (key u u hu hu fun _ _=>kp _)).2.2.1
 .obtain⟨j,hj,rfl⟩:=fN.1 hi
  obtain⟨x,hx,ho,h0,rfl⟩:=s4.1 hj
  have:=(h.var x hx ho).2.1;omega
 .exact(Nw h.right aJ (key u v hu hv hl)).2.2.2
 unfold CY at hk
 by_cases c:to.var<0
 .simp[c]at hk
 simp[c]at hk
 subst hk
 have:=h.to1 J
 exact⟨J,this.2⟩
theorem AH:∀{m:List Int} {i:Nat} {n:Int},i<=m.length->(∀j:Nat,j<i->m.getD j 0<n)->(i<m.length->n<m.getD i 0)->tW m n=m.take i++n::m.drop i
 |[],i,n,h,_,_=>by simp at h;subst h;rfl
 |a::m,0,n,_,_,h3=>by
  have:=h3 aJ
  have:n<a:=this
  unfold tW
  rw[aW J,aW J];rfl
 |a::m,i+1,n,h,h2,h3=>by
  have h0:a<n:=h2 0 J
  have ih:=AH (m:=m) (i:=i) (n:=n) yc (fun j hj=>h2 (j+1) J) (fun hi=>h3 z6)
  unfold tW
  rw[aY h0,ih];rfl
theorem aiU:∀{m:List Int} {i:Nat} {n:Int},i<m.length->(∀j:Nat,j<i->m.getD j 0<n)->m.getD i 0=n->tW m n=m
 |[],i,n,h,_,_=>by simp at h
 |a::m,0,n,_,_,h3=>by
  have:a=n:=h3
  unfold tW
  rw[aW J,aY this]
 |a::m,i+1,n,h,h2,h3=>by
  have h0:a<n:=h2 0 J
  have ih:=aiU (m:=m) (i:=i) (n:=n) yc (fun j hj=>h2 (j+1) J) h3
  unfold tW
  rw[aY h0,ih]
theorem jP{l:List dX}{k:Int}(h0:0<=k)(h1:k<l.length):dB (l.take (k+1).toNat)=if(l.getD k.toNat bG).op=1/\0<=(l.getD k.toNat bG).n then tW (dB (l.take k.toNat)) (l.getD k.toNat bG).n else dB (l.take k.toNat):=by grind[dB,IW]
theorem aew(l:List dX):(dB l).length<=l.length:=by
 have key:∀(l:List dX) (o:List Int),(l.foldl (fun o x=>if x.op=1/\0<=x.n then tW o x.n else o) o).length<=o.length+l.length:=fun l=>by
  induction l with
  |nil=>intro o;simp
  |cons a l ih=>
   intro o
   have hi:∀(o:List Int) (n:Int),(tW o n).length<=o.length+1:=fun o n=>by
    induction o with
    |nil=>simp[tW]
    |cons b o io=>
     unfold tW
     split
     .simp only[eG];omega
     split
     .simp
     simp
   rw[pq]
   refine kf (ih _) ?_
   have:(if a.op=1/\0<=a.n then tW o a.n else o).length<=o.length+1:=by
    split
    .exact hi o a.n
    omega
   simp only[eG];omega
 simpa[dB]using key l []
theorem afQ{m:List Int}{x z:Int}{p:Int}(h0:0<=p)(h1:p<=m.length):
  qX (qX (m.map I++[I z]) ((p+1).toNat*1) (((m.map I++[I z]).drop (p.toNat*1)).take ((m.length-p.toNat)*1))) (p.toNat*1) [I x]=(m.take p.toNat++x::m.drop p.toNat).map I:=by
 have hl:(m.map I).length=m.length:=aJ
 have hq:p.toNat<=m.length:=J
 simp only[l9,show(p+1).toNat=p.toNat+1 by omega]
 generalize p.toNat=q at*
 have e1:((m.map I++[I z]).drop q).take (m.length-q)=(m.drop q).map I:=by
  rw[Ll J,Lk LY,jg LY]
  simp[Yq]
 have l1:((m.drop q).map I).length=m.length-q:=aJ
 rw[e1]
 have e2:qX (m.map I++[I z]) (q+1) ((m.drop q).map I)=(m.map I++[I z]).take (q+1)++(m.drop q).map I:=by
  have e0:(m.map I++[I z]).drop (q+1+(m.length-q))=[]:=Lr (by rw[ed,hl,ey];omega)
  rw[qX,l1,e0,mG]
 have l2:((m.map I++[I z]).take (q+1)).length=q+1:=by rw[ef];simp;omega
 rw[e2,qX,Lk J,Ce,qB J,Lk (by rw[hl];omega)]
 rw[ey,List.drop_append,l2,RQ,LH,Lr (by rw[l2];exact eu _),eR]
 simp[Cg,Yq]
theorem tX{m:List Int}{z:Int}{u:Value}(hu:u∈m.map I++[I z]):u.oneCell'=true:=by
 rcases fh.1 hu with h|h
 .obtain⟨x,_,rfl⟩:=fN.1 h;rfl
 rw[gG.1 h];rfl
theorem aiV{S:Sys}{sh:Sh}{code:List dX}{to:iS}(h:ZM S sh code to){x:Nat}(hx:x∈(CY S.n sh code to).vars):x<S.n/\S.sh x=sh:=by
 obtain⟨j,hj,rfl⟩:=fN.1 hx
 obtain⟨y,hy,ho,h0,rfl⟩:=s4.1 hj
 have:=h.var y hy ho
 exact⟨J,this.2.2⟩
def iI(s:lQ):Sys:=⟨s.vars.length,fun i=>iw s (s.vars.getD i fq).bf⟩
theorem as7{s:lQ}{bf:Int}{code:List dX}{to:iS}(hc:codeOk s bf code=true)(ha:mv s bf to=true):ZM (iI s) (iw s bf) code to:=by
 simp only[codeOk,cL]at hc
 obtain⟨hi,hr⟩:=hc
 have kd:∀v kd:Int,rB s v kd bf=true->(0<=v/\v<s.vars.length)/\(s.vars.getD v.toNat fq).bf=bf:=fun v kd h=>by
  simp only[rB,cL,eD]at h
  exact⟨h.1.1,h.2⟩
 refine⟨hr,fun x hx ho=> ?_,fun x hx ho=> ?_,fun h0=> ?_,fun h0=> ?_⟩
 .have hx2:=iQ.1 hi x hx
  simp only[wh,cL,qj,Cc,xg]at hx2
  obtain⟨h1,h2⟩:=kd _ _ (hx2.1.resolve_left fun q=>q ho)
  exact⟨h1.1,h1.2,by show iw s _=_;rw[h2]⟩
 .have hx2:=iQ.1 hi x hx
  simp only[wh,cL,qj,Cc,xg]at hx2
  exact hx2.2.resolve_left fun q=>q ho
 .rw[mv,aY h0]at ha;exact ha
 rw[mv,aW J]at ha
 obtain⟨h1,h2⟩:=kd _ _ ha
 exact⟨h1.2,by show iw s _=_;rw[h2]⟩
structure pY where
 p:kW
 e:Value
 l:Value
 j:Value
 d:Wr
 low:El
def XC(x:pY):List Value:=yj x.p++([x.e,x.l,x.j]++pM x.low)
theorem rP(x:pY):(XC x).length=13:=by simp[XC,yj,cY]
structure dD where
 bf:Int
 cv:Value
 code:List dX
 to:iS
 why:BitVec 64
 vv:Value
 vars:List Int
def qw(x:dD):List Value:=I x.bf::x.cv::(jH x.to++[U x.why,x.vv])
theorem pZ(x:dD):(qw x).length=13:=by simp[qw,D1]
structure Ej(K:Vu)(x:dD):Prop where
 code:oE K x.cv 10 x.code.length (x.code.flatMap kq)
 vars:oE K x.vv 1 x.vars.length (x.vars.map I)
theorem Ej.mono{K K':Vu}{x:dD}(h:Ej K x)(hl:Le K K'):Ej K' x:=⟨h.code.mono hl,h.vars.mono hl⟩
def cX:dD:=⟨0,.slice none 0 0,[],ahO,0,.slice none 0 0,[]⟩
def p5:pY:=⟨Ed,.nilFunc,.nilFunc,.nilFunc,.base Ed tb0,df⟩
theorem tY{K:Vu}{x:dD}(h:Ej K x):∀u∈(qw x).toArray,u.oneCell'=true:=by
 intro u hu
 simp only[qw,LF,c8,fh,HU,Ck]at hu
 rcases hu with rfl|rfl|hu|rfl|rfl
 .rfl
 .exact(SP h.code).1
 .exact IV x.to u pz
 .rfl
 exact(SP h.vars).1
inductive mE
 |bf (i:Nat)
 |var (i:Nat) (m:Int)
 |add (i:Nat) (q:dD)
 |raise (v:Int) (was:El) (had:BitVec 64)
 |merge (m:Int)
 |seen (was:Int)
 |stuck
structure NTy where
 fL:FuncId
 fV:FuncId
 fA:FuncId
 fR:FuncId
 fM:FuncId
 fS:FuncId
 fE:FuncId
 tn:TypeId
 ti:TypeId
 te:TypeId
 tu:TypeId
 tq:TypeId
def nr(T:NTy)(n:Nat)(L:List bu)(x:Value×mE):Prop:=
 match x.2 with
 | .bf i=>∃b1 b2,x.1=jO T.fL #[pt b1,pt b2]/\bu.blk b1 (.cells #[pt n] T.tn (0,0))∈L/\bu.blk b2 (.cells #[I i] T.ti (0,0))∈L
 | .var i m=>∃b1 b2 b3,x.1=jO T.fV #[pt b1,pt b2,pt b3]/\bu.blk b1 (.cells #[pt n] T.tn (0,0))∈L/\bu.blk b2 (.cells #[I i] T.ti (0,0))∈L/\bu.blk b3 (.cells #[I m] T.ti (0,0))∈L
 | .add i q=>∃b1 b2 b3,x.1=jO T.fA #[pt b1,pt b2,pt b3]/\bu.blk b1 (.cells #[pt n] T.tn (0,0))∈L/\bu.blk b2 (.cells #[I i] T.ti (0,0))∈L/\bu.blk b3 (.cells (qw q).toArray T.tq (0,0))∈L
 | .raise v was had=>∃b1 b2 b3 b4,x.1=jO T.fR #[pt b1,pt b2,pt b3,pt b4]/\bu.blk b1 (.cells (iM was) T.te (0,0))∈L/\bu.blk b2 (.cells #[U had] T.tu (0,0))∈L/\bu.blk b3 (.cells #[pt n] T.tn (0,0))∈L/\bu.blk b4 (.cells #[I v] T.ti (0,0))∈L
 | .merge m=>∃b1 b2,x.1=jO T.fM #[pt b1,pt b2]/\bu.blk b1 (.cells #[pt n] T.tn (0,0))∈L/\bu.blk b2 (.cells #[I m] T.ti (0,0))∈L
 | .seen was=>∃b1 b2,x.1=jO T.fS #[pt b1,pt b2]/\bu.blk b1 (.cells #[I was] T.ti (0,0))∈L/\bu.blk b2 (.cells #[pt n] T.tn (0,0))∈L
 | .stuck=>∃b1,x.1=jO T.fE #[pt b1]/\bu.blk b1 (.cells #[pt n] T.tn (0,0))∈L
theorem nr.mono{T:NTy}{n:Nat}{L L':List bu}{x:Value×mE}(h:nr T n L x)(hs:∀e∈L,e∈L'):nr T n L' x:=by
 obtain⟨v,c⟩:=x
 cases c with
 |bf i=>obtain⟨b1,b2,h0,h1,h2⟩:=h;exact⟨b1,b2,h0,hs _ h1,hs _ h2⟩
 |var i m=>obtain⟨b1,b2,b3,h0,h1,h2,h3⟩:=h;exact⟨b1,b2,b3,h0,hs _ h1,hs _ h2,hs _ h3⟩
 |add i q=>obtain⟨b1,b2,b3,h0,h1,h2,h3⟩:=h;exact⟨b1,b2,b3,h0,hs _ h1,hs _ h2,hs _ h3⟩
 |raise v was had=>obtain⟨b1,b2,b3,b4,h0,h1,h2,h3,h4⟩:=h;exact⟨b1,b2,b3,b4,h0,hs _ h1,hs _ h2,hs _ h3,hs _ h4⟩
 |merge m=>obtain⟨b1,b2,h0,h1,h2⟩:=h;exact⟨b1,b2,h0,hs _ h1,hs _ h2⟩
 |seen was=>obtain⟨b1,b2,h0,h1,h2⟩:=h;exact⟨b1,b2,h0,hs _ h1,hs _ h2⟩
 |stuck=>obtain⟨b1,h0,h1⟩:=h;exact⟨b1,h0,hs _ h1⟩
theorem getD_eq{α:Type}{l:List α}{d:α}{k:Nat}(h:k<l.length):l.getD k d=l[k]:=by grind
theorem oX{α β:Type}{f:β->α->β}{b:β}{l:List α}{d:α}{k:Int}(h0:0<=k)(h1:k<l.length):(l.take (k+1).toNat).foldl f b=f ((l.take k.toNat).foldl f b) (l.getD k.toNat d):=by
 have hk:k.toNat<l.length:=J
 rw[show(k+1).toNat=k.toNat+1 by omega,E7 hk,getD_eq hk,xT]
 rfl
theorem aiW{α:Type}{l:List α}{d:α}{p:α->Bool}{k:Int}(h0:0<=k)(h1:k<l.length)(hp:p (l.getD k.toNat d)=true):l.any p=true:=by grind
theorem anG{α:Type}{l:List α}{d:α}{p:α->Bool}(h:∀j,j<l.length->p (l.getD j d)=false):l.any p=false:=by
 rw[Yb]
 intro x hx
 obtain⟨j,hj,rfl⟩:=vA.1 hx
 have:=h j hj
 rw[getD_eq hj]at this;rw[this];exact Lm
def Ft(q:dD):Bool:=decide (q.code.length=1)&&decide ((q.code.getD 0 bG).op=1)&&decide (0<=q.to.var)
def orW(y:BitVec 64)(ws:List (BitVec 64))(l:List Int):BitVec 64:=l.foldl (fun a v=>a|||ws.getD v.toNat 0) y
theorem aiY{y:BitVec 64}{ws:List (BitVec 64)}{l:List Int}{k:Int}(h0:0<=k)(h1:k<l.length):orW y ws (l.take (k+1).toNat)=orW y ws (l.take k.toNat)|||ws.getD (l.getD k.toNat 0).toNat 0:=by
 have hk:k.toNat<l.length:=J
 rw[show(k+1).toNat=k.toNat+1 by omega,E7 hk,getD_eq hk]
 unfold orW
 rw[xT]
 rfl
def ZN(K:Vu)(qs:List dD):Prop:=∀q∈qs,Ej K q
theorem ZN.mono{K K':Vu}{qs:List dD}(h:ZN K qs)(hl:Le K K'):ZN K' qs:=fun q hq=>(h q hq).mono hl
theorem ZN.at{K:Vu}{qs:List dD}(h:ZN K qs){k:Int}(h0:0<=k)(h1:k<qs.length):Ej K (qs.getD k.toNat cX):=h _ (dy h0 h1)
def yH(q:dD):Int:=q.vars.getD 0 0
def grQ(g:List (List Int))(q:dD):List (List Int):=if Ft q=true then g.set (yH q).toNat (g.getD (yH q).toNat []++[q.to.var])else g
def cw(n:Nat)(qs:List dD):List (List Int):=qs.foldl grQ (List.replicate n [])
theorem anH{g:List (List Int)}{q:dD}:(grQ g q).length=g.length:=by grind[grQ]
theorem FU(n:Nat)(qs:List dD):(cw n qs).length=n:=by
 have key:∀(qs:List dD) (g:List (List Int)),(qs.foldl grQ g).length=g.length:=fun qs=>by
  induction qs with
  |nil=>intro g;rfl
  |cons q qs ih=>intro g;rw[pq,ih,anH]
 unfold cw;rw[key];simp
theorem ab4{gs:List j5}{k:Nat}{x:j5}:qu (gs.set k x)=(qu gs).set k x.l:=by simp_all[qu]
theorem Nz{n:Nat}{qs:List dD}{k:Int}(h0:0<=k)(h1:k<qs.length):cw n (qs.take (k+1).toNat)=grQ (cw n (qs.take k.toNat)) (qs.getD k.toNat cX):=oX h0 h1
theorem aiZ{gs:List j5}{i b:Nat}{x:j5}(h:∀y∈gs,y.l.length<=b)(hx:x.l.length<=b+1):∀y∈gs.set i x,y.l.length<=b+1:=by grind
def V7(n:Nat)(qs:List dD):Prop:=∀q∈qs,Ft q=true->0<q.vars.length/\(0<=yH q/\yH q<n)/\q.to.var<n
theorem V7.at{n:Nat}{qs:List dD}(h:V7 n qs){k:Int}(h0:0<=k)(h1:k<qs.length)(hp:Ft (qs.getD k.toNat cX)=true):0<(qs.getD k.toNat cX).vars.length/\(0<=yH (qs.getD k.toNat cX)/\yH (qs.getD k.toNat cX)<n)/\(qs.getD k.toNat cX).to.var<n:=h _ (dy h0 h1) hp
def NA(cl:List Nat)(ws:List (BitVec 64))(o:List (BitVec 64))(v:Nat):List (BitVec 64):=o.set (fP cl v).toNat (o.getD (fP cl v).toNat 0|||ws.getD v 0)
def J9(cl:List Nat)(q:dD):Bool:=Ft q&&decide (fP cl (yH q)=fP cl q.to.var)&&decide (yH q≠q.to.var)
def Kl(cl:List Nat)(o:List (BitVec 64))(q:dD):List (BitVec 64):=if J9 cl q=true then o.set (fP cl q.to.var).toNat (o.getD (fP cl q.to.var).toNat 0|||q.why)else o
def V8(cl:List Nat)(ws:List (BitVec 64))(n:Nat):List (BitVec 64):=(List.range n).foldl (NA cl ws) (List.replicate n 0)
def CZ(cl:List Nat)(ws:List (BitVec 64))(n:Nat)(qs:List dD):List (BitVec 64):=qs.foldl (Kl cl) (V8 cl ws n)
theorem Eb{α:Type}{f:List (BitVec 64)->α->List (BitVec 64)}(hf:∀o a,(f o a).length=o.length):∀(l:List α) (o:List (BitVec 64)),(l.foldl f o).length=o.length
 |[],o=>rfl
 |a::l,o=>by rw[pq,Eb hf,hf]
theorem aex{cl:List Nat}{ws:List (BitVec 64)}{n:Nat}{k:Int}(h0:0<=k):((List.range (k+1).toNat).foldl (NA cl ws) (List.replicate n 0))=NA cl ws ((List.range k.toNat).foldl (NA cl ws) (List.replicate n 0)) k.toNat:=by
 rw[show(k+1).toNat=k.toNat+1 by omega,vB,xT];rfl
theorem NB(cl:List Nat)(ws o:List (BitVec 64))(v:Nat):(NA cl ws o v).length=o.length:=by simp[NA]
theorem V9(cl:List Nat)(o:List (BitVec 64))(q:dD):(Kl cl o q).length=o.length:=by grind[Kl]
theorem ai0{cl:List Nat}{nd:List qN}{v:Int}(h:Fo nd cl)(hv:0<=v/\v<cl.length):0<=fP cl v/\fP cl v<cl.length:=by grind[qN,Fo,fP,nj]
theorem xA.find{T:FTy}{F m:Nat}{cs:List (List Nat)}{vW vU:Value}{cW cU:Option (Nat×Array Value)}{W:List (BitVec 64)}{ul:List (Value×jU)}{ts:List Int}{cn:Int}{L:List bu}{n:Nat}(h:xA T F m cs vW vU cW cU W ul ts cn L)(hl:(bB cs).length=n)(v:Int)(hv:0<=v/\v<n):0<=fP (bB cs) v/\fP (bB cs) v<n:=by
 obtain⟨nd,cl,Be,rfl,-,h2,-⟩:=h.now
 subst hl
 exact ai0 (cl:=cl) h2 hv
def pH(p:List Int×List Bool)(i:Int):List Int×List Bool:=if p.2.getD i.toNat false=true then p else(p.1++[i],p.2.set i.toNat true)
def r7(p:List Int×List Bool)(l:List Int):List Int×List Bool:=l.foldl pH p
theorem QI{p:List Int×List Bool}{l:List Int}{k:Int}(h0:0<=k)(h1:k<l.length):r7 p (l.take (k+1).toNat)=pH (r7 p (l.take k.toNat)) (l.getD k.toNat 0):=oX h0 h1
theorem ab5{wl:List Int}{wi:List Bool}{i:Int}(h:(!wi.getD i.toNat false)=true):pH (wl,wi) i=(wl++[i],wi.set i.toNat true):=by grind[pH]
theorem Wa{wl:List Int}{wi:List Bool}{i:Int}(h:(!wi.getD i.toNat false)=false):pH (wl,wi) i=(wl,wi):=by grind[pH]
theorem NC(p:List Int×List Bool)(i:Int):(pH p i).2.length=p.2.length:=by grind[pH]
theorem yZ:∀{l:List Int} {p:List Int×List Bool},(r7 p l).2.length=p.2.length
 |[],p=>rfl
 |i::l,p=>by
  show(r7 (pH p i) l).2.length=_
  rw[yZ,NC]
theorem anI(p:List Int×List Bool)(i:Int):(pH p i).1.length<=p.1.length+1:=by grind[pH]
theorem G6:∀{l:List Int} {p:List Int×List Bool},(r7 p l).1.length<=p.1.length+l.length
 |[],p=>by simp[r7]
 |i::l,p=>by
  have h1:=G6 (l:=l) (p:=pH p i)
  have h2:=anI p i
  show(r7 (pH p i) l).1.length<=_
  rw[eG];omega
def mw(ak:List El)(us:List j5)(p:List Int×List Bool)(v:Int)(e:El):List Int×List Bool:=if sx (ak.getD v.toNat df) e then p else r7 p (us.getD v.toNat de).l
theorem Hp.axP{w0 w:World}{R:List bu}{t:TypeId}(K:Vu):∀{gs:List j5} {A:List bu},Hp w0 w (A++(gs.map (dS t)++R))->∃Z,Hp w0 w (A++(Z++R))/\∀x∈gs,oE (Kz K Z) x.v 1 x.l.length (x.l.map I)
 |[],A,h=>⟨[],h,fun x hx=>by cases hx⟩
 |x::gs,A,h=>by
  have h1:Hp w0 w (dS t x::(A++(gs.map (dS t)++R))):=h.perm aJ
  obtain⟨Z1,h2,h3,_⟩:=h1.SG K
  have h4:Hp w0 w ((Z1++A)++(gs.map (dS t)++R)):=by rw[dH];exact h2
  obtain⟨Z,h5,h6⟩:=Hp.axP K h4
  refine⟨Z1++Z,h5.perm ?_,fun y hy=> ?_⟩
  .rw[dH,dH]
   exact xf _ _ _
  rcases c8.1 hy with e|hy
  .subst e;exact h3.mono (Le.zz fun a ha=>dI _ ha)
  exact(h6 y hy).mono (Le.zz fun a ha=>bH _ ha)
theorem Hp.aEN{w0 w:World}{R:List bu}{t t2:TypeId}{v:Value}{gs:List j5}(K:Vu)(h:Hp w0 w (jY j5.v v t2 gs::(gs.map (dS t)++R))):∃Z,Hp w0 w (Z++R)/\GrV (Kz K Z) v gs:=by
 obtain⟨Z,h1,h2⟩:=Hp.axP K (A:=[jY j5.v v t2 gs]) h
 obtain⟨Z2,h3,h4,_⟩:=Hp.SG (L:=Z++R) h1 K
 exact⟨Z2++Z,by rw[dH];exact h3,h4.mono (Le.zz fun a ha=>dI _ ha),fun x hx=>(h2 x hx).mono (Le.zz fun a ha=>bH _ ha)⟩
structure NP where
 aq:List pY
 bf:List Int
 ak:List El
 bp:List (BitVec 64)
 us:List (List Int)
 qs:List dD
 sn:Int
 cs:List (List Nat)
 sk:Bool
 wy:BitVec 64
 wr:Value
def G7(u:List (List Int))(v:Int):List (List Int):=u.set v.toNat (u.getD v.toNat []).dropLast
def wx:mE->NP->NP
 | .bf i,s=>{s with aq:=s.aq.take i}
 | .var i m,s=>{s with bf:=s.bf.take i,ak:=s.ak.take i,bp:=s.bp.take i,us:=s.us.take i,cs:=(CS s.cs m).1}
 | .add i q,s=>{s with qs:=s.qs.take i,us:=q.vars.foldl G7 s.us}
 | .raise v was had,s=>{s with ak:=s.ak.set v.toNat was,bp:=s.bp.set v.toNat had}
 | .merge m,s=>{s with cs:=(CS s.cs m).1}
 | .seen was,s=>{s with sn:=was}
 | .stuck,s=>{s with sk:=false,wy:=0}
def okN:mE->NP->Prop
 | .bf i,s=>i<=s.aq.length
 | .var i m,s=>i<=s.bf.length/\i<=s.ak.length/\i<=s.bp.length/\i<=s.us.length
 | .add i q,s=>i<=s.qs.length/\q.vars.Nodup/\∀v∈q.vars,0<=v/\v<s.us.length/\s.us.getD v.toNat []≠[]
 | .raise v _ _,s=>0<=v/\v<s.ak.length/\v<s.bp.length
 | .merge _,_=>True
 | .seen _,_=>True
 | .stuck,_=>True
def Ek:List mE->NP->NP
 |[],s=>s
 |c::l,s=>Ek l (wx c s)
def okB:List mE->NP->Prop
 |[],_=>True
 |c::l,s=>okN c s/\okB l (wx c s)
theorem Wb(a b:List mE)(s:NP):Ek (a++b) s=Ek b (Ek a s):=by
 induction a generalizing s with
 |nil=>rfl
 |cons c a ih=>exact ih _
theorem Ti(a b:List mE)(s:NP):okB (a++b) s↔okB a s/\okB b (Ek a s):=by
 induction a generalizing s with
 |nil=>simp[okB,Ek]
 |cons c a ih=>simp only[gB,okB,Ek,ih,and_assoc]
structure iO(new:List (Value×mE))(s s':NP):Prop where
 und:Ek (new.map Prod.snd).reverse s'=s
 ok:okB (new.map Prod.snd).reverse s'
theorem iO.nil(s:NP):iO [] s s:=⟨rfl,trivial⟩
theorem iO.trans{a b:List (Value×mE)}{s s' s'':NP}(h:iO a s s')(h2:iO b s' s''):iO (a++b) s s'':=by grind[mE,NP,iO,Wb,Ti]
theorem iO.one{f:Value}{c:mE}{s s':NP}(h:wx c s'=s)(ho:okN c s'):iO [(f,c)] s s':=⟨h,ho,trivial⟩
theorem Wc{α:Type}{l:List α}{k:Nat}{d e:α}(h:k<l.length):(l.set k e).set k (l.getD k d)=l:=kD
theorem ZO{f:Value}{s:NP}{v:Int}{e:El}{y:BitVec 64}(h1:0<=v/\v<s.ak.length)(h2:v<s.bp.length):
  iO [(f,.raise v (s.ak.getD v.toNat df) (s.bp.getD v.toNat 0))] s {s with ak:=s.ak.set v.toNat e,bp:=s.bp.set v.toNat y}:=by
 refine iO.one ?_ ⟨h1.1,by simpa using h1.2,by simpa using h2⟩
 simp only[wx]
 rw[Wc J,Wc J]
def I8:mE->Prop
 | .raise _ _ _=>True
 | .merge _=>True
 |_=>False
def rgS(us:List j5)(e:El)(s:List El×(List Int×List Bool))(k:Int):List El×(List Int×List Bool):=(s.1.set k.toNat e,mw s.1 us s.2 k e)
def yo(ak:List El)(us:List j5)(p:List Int×List Bool)(ks:List Int)(e:El):List El×(List Int×List Bool):=ks.foldl (rgS us e) (ak,p)
theorem ai1{ak:List El}{us:List j5}{p:List Int×List Bool}{ks:List Int}{e:El}{k:Int}(h0:0<=k)(h1:k<ks.length):yo ak us p (ks.take (k+1).toNat) e=rgS us e (yo ak us p (ks.take k.toNat) e) (ks.getD k.toNat 0):=oX h0 h1
theorem y8{us:List j5}{e:El}:∀{ks:List Int} {ak:List El} {p:List Int×List Bool},(yo ak us p ks e).1=gF ak ks e
 |[],ak,p=>rfl
 |k::ks,ak,p=>by
  show(yo (ak.set k.toNat e) us (mw ak us p k e) ks e).1=gF (ak.set k.toNat e) ks e
  exact y8
theorem ND{ak:List El}{us:List j5}{p:List Int×List Bool}{v:Int}{e:El}:(mw ak us p v e).2.length=p.2.length:=by grind[mw,yZ]
theorem Lc{us:List j5}{e:El}:∀{ks:List Int} {ak:List El} {p:List Int×List Bool},(yo ak us p ks e).2.2.length=p.2.length
 |[],ak,p=>rfl
 |k::ks,ak,p=>by
  show(yo (ak.set k.toNat e) us (mw ak us p k e) ks e).2.2.length=_
  rw[Lc,ND]
theorem anJ{ak:List El}{us:List j5}{p:List Int×List Bool}{v:Int}{e:El}(h:(us.getD v.toNat de).l.length<=1000):(mw ak us p v e).1.length<=p.1.length+1000:=by grind[mw,G6,de]
theorem ai2{us:List j5}{e:El}(hu:∀k:Nat,k<us.length->(us.getD k de).l.length<=1000):∀{ks:List Int} {ak:List El} {p:List Int×List Bool},(∀k∈ks,0<=k/\k<us.length)->(yo ak us p ks e).2.1.length<=p.1.length+1000*ks.length
 |[],ak,p,_=>by simp[yo]
 |k::ks,ak,p,h=>by
  have h1:=ai2 (e:=e) hu (ks:=ks) (ak:=ak.set k.toNat e) (p:=mw ak us p k e) fun q hq=>h q (by simp[hq])
  have h2:=anJ (ak:=ak) (p:=p) (v:=k) (e:=e) (hu k.toNat (by have:=h k aJ;omega))
  show(yo (ak.set k.toNat e) us (mw ak us p k e) ks e).2.1.length<=_
  rw[eG];omega
theorem mR{cl:List Nat}{i k:Int}(h:k∈bP cl i):(0<=i/\i<cl.length)/\0<=k/\k<cl.length/\cr cl k.toNat=cr cl i.toNat:=by grind[bP,Av]
theorem I9{cl:List Nat}{i k:Int}:k∈bP cl i↔(0<=i/\i<cl.length)/\0<=k/\k<cl.length/\cr cl k.toNat=cr cl i.toNat:=by grind[mR,bP,Int.toNat_of_nonneg,Av]
theorem wz{cl:List Nat}{i:Int}:(bP cl i).length<=cl.length:=by
 unfold bP;split
 .rw[gA]
  exact kf (List.length_filter_le ..) aJ
 simp
theorem We{cs:List (List Nat)}{i j:Int}:(ju cs i j).2=true/\(∃a,(ju cs i j).1=a::cs)\/(ju cs i j).2=false/\(ju cs i j).1=cs:=by grind[ju]
theorem ZP{f:Value}{s:NP}{i j:Int}(h:0<s.cs.length)(hu:(ju s.cs i j).2=true):
  iO [(f,.merge ((s.cs.length:Int)-1))] s {s with cs:=(ju s.cs i j).1}:=by
 refine iO.one ?_ trivial
 rcases We (cs:=s.cs) (i:=i) (j:=j)with⟨_,a,e⟩|⟨e,_⟩
 .rw[e]
  simp only[wx]
  have:CS (a::s.cs) ((s.cs.length:Int)-1)=(s.cs,true):=by
   unfold CS
   rw[aW ya,show(a::s.cs).length-1-(max 0 ((s.cs.length:Int)-1)).toNat=1 by simp only[eG];omega]
   rfl
  rw[this]
 rw[hu]at e;cases e
theorem aey{cs:List (List Nat)}{i j:Int}(h:(ju cs i j).2=false):(ju cs i j).1=cs:=by grind[We]
structure XD(T:O3)(K:Vu)(ids:List Nat)(tl:List (Nat×Rl))(x:pY):Prop where
 ops:BK T K x.d x.e x.l x.j
 Fz:x.d.Fz ids tl
 sh:x.d.sh.sh=x.p.sh
 zH:lm K x.p
 dep:x.d.dep<=1
theorem XD.mono{T:O3}{K K':Vu}{ids:List Nat}{tl:List (Nat×Rl)}{x:pY}(h:XD T K ids tl x)(hl:Le K K'):XD T K' ids tl x:=⟨h.ops.mono hl,h.Fz,h.sh,h.zH.mono hl,h.dep⟩
def Wf(T:O3)(K:Vu)(ids:List Nat)(tl:List (Nat×Rl))(l:List pY):Prop:=∀x∈l,XD T K ids tl x
theorem Wf.mono{T:O3}{K K':Vu}{ids:List Nat}{tl:List (Nat×Rl)}{l:List pY}(h:Wf T K ids tl l)(hl:Le K K'):Wf T K' ids tl l:=fun x hx=>(h x hx).mono hl
theorem Wf.at{T:O3}{K:Vu}{ids:List Nat}{tl:List (Nat×Rl)}{l:List pY}(h:Wf T K ids tl l){k:Int}(h0:0<=k)(h1:k<l.length):XD T K ids tl (l.getD k.toNat p5):=h _ (dy h0 h1)
theorem ap6{d:Wr}{ids:List Nat}{tl:List (Nat×Rl)}{s:Sh}(h:d.Fz ids tl)(hs:d.sh.sh=s)(a b:El):iM (pE d.tb a b)=iM (eo s a b):=by
 subst hs
 refine mo ?_
 induction d with
 |base p tb=>exact ael h.1 _ _
 |wrap m d ih=>exact ih h.2
def skQ(cl:List Nat)(q:dD):Bool:=Ft q&&decide (fP cl (yH q)=fP cl q.to.var)
structure LkO where
 ok:Bool
 ak:List El
 bp:List (BitVec 64)
 wl:List Int
 wi:List Bool
 wy:BitVec 64
 ks:List Kd
def Wg(d:Wr)(ks:List Kd)(f:Ct):Ct:=ks.foldl (fun f k=>d.tick k f) f
section
variable(cl:List Nat)(us:List j5)(sh:Sh)(q:dD)(ak:List El)(bp:List (BitVec 64))(wl:List Int)(wi:List Bool)(wy:BitVec 64)
def lkE:El:=(eA sh q.code ak).1
def lkJ:El:=eo sh (ak.getD q.to.var.toNat df) (lkE sh q ak)
def lkR:LkO:=
 ⟨true,(yo ak us (wl,wi) (bP cl q.to.var) (lkJ sh q ak)).1,gF bp (bP cl q.to.var) (bp.getD q.to.var.toNat 0|||orW q.why bp q.vars),(yo ak us (wl,wi) (bP cl q.to.var) (lkJ sh q ak)).2.1,(yo ak us (wl,wi) (bP cl q.to.var) (lkJ sh q ak)).2.2,wy,[.e,.l,.j]⟩
def oc:LkO:=
 if skQ cl q=true then⟨true,ak,bp,wl,wi,wy,[]⟩
 else if q.to.var<0 then
  if cS (lkE sh q ak) q.to.c=true then⟨true,ak,bp,wl,wi,wy,[.e,.l]⟩else⟨false,ak,bp,wl,wi,orW q.why bp q.vars,[.e,.l]⟩
 else if cS (lkE sh q ak) (ak.getD q.to.var.toNat df)=true then⟨true,ak,bp,wl,wi,wy,[.e,.l]⟩
 else lkR cl us sh q ak bp wl wi wy
end
structure p6(f f':Ct)(a b c:Nat):Prop where
 e:∀i,(f i).e<=(f' i).e/\(f' i).e<=(f i).e+a
 l:∀i,(f i).l<=(f' i).l/\(f' i).l<=(f i).l+b
 j:∀i,(f i).j<=(f' i).j/\(f' i).j<=(f i).j+c
theorem p6.refl(f:Ct):p6 f f 0 0 0:=⟨fun i=>J,fun i=>J,fun i=>J⟩
theorem p6.trans{f g h:Ct}{a b c a' b' c':Nat}(p:p6 f g a b c)(q:p6 g h a' b' c'):p6 f h (a+a') (b+b') (c+c'):=
 ⟨fun i=>by have:=p.e i;have:=q.e i;omega,fun i=>by have:=p.l i;have:=q.l i;omega,fun i=>by have:=p.j i;have:=q.j i;omega⟩
theorem p6.more{f g:Ct}{a b c a' b' c':Nat}(p:p6 f g a b c)(ha:a<=a')(hb:b<=b')(hc:c<=c'):p6 f g a' b' c':=
 ⟨fun i=>by have:=p.e i;omega,fun i=>by have:=p.l i;omega,fun i=>by have:=p.j i;omega⟩
theorem p6.ok{f g:Ct}{a b c n:Nat}(p:p6 f g a b c)(h:FO n f):FO (n+a+b+c) g:=fun i=>by
 obtain⟨⟨h1,h2⟩,⟨h3,h4⟩,h5,h6⟩:=h i
 have:=p.e i;have:=p.l i;have:=p.j i
 exact⟨⟨J,J⟩,⟨J,J⟩,J,J⟩
theorem y9{d:Wr}(h:d.dep<=1)(f:Ct):p6 f (d.tick .e f) 1 0 0/\p6 f (d.tick .l f) 0 1 0/\p6 f (d.tick .j f) 0 0 1:=by
 cases d with
 |base p tb=>exact⟨(p6.refl f).more J J J,(p6.refl f).more J J J,(p6.refl f).more J J J⟩
 |wrap m d=>
  cases d with
  |wrap m' d=>simp[Wr.dep]at h
  |base p tb=>
   have key:∀i,(wX f m ((Kd.e).up (f m)) i).e=(f i).e+(if i=m then 1 else 0)/\(wX f m ((Kd.e).up (f m)) i).l=(f i).l/\(wX f m ((Kd.e).up (f m)) i).j=(f i).j/\
     (wX f m ((Kd.l).up (f m)) i).l=(f i).l+(if i=m then 1 else 0)/\(wX f m ((Kd.l).up (f m)) i).e=(f i).e/\(wX f m ((Kd.l).up (f m)) i).j=(f i).j/\
     (wX f m ((Kd.j).up (f m)) i).j=(f i).j+(if i=m then 1 else 0)/\(wX f m ((Kd.j).up (f m)) i).l=(f i).l/\(wX f m ((Kd.j).up (f m)) i).e=(f i).e:=fun i=>by
    unfold wX
    by_cases e:i=m
    .subst e;simp[Kd.up]
    simp[e]
   refine⟨⟨fun i=> ?_,fun i=> ?_,fun i=> ?_⟩,⟨fun i=> ?_,fun i=> ?_,fun i=> ?_⟩,⟨fun i=> ?_,fun i=> ?_,fun i=> ?_⟩⟩<;>(show _/\_;have:=key i;simp only[Wr.tick,jV];by_cases e:i=m<;>simp only[e,uB,x7]at this<;>(try subst e)<;>omega)
theorem Wh{d:Wr}(h:d.dep<=1)(cl:List Nat)(us:List j5)(sh:Sh)(q:dD)(ak:List El)(bp:List (BitVec 64))(wl:List Int)(wi:List Bool)(wy:BitVec 64)(f:Ct):
  p6 f (Wg d (oc cl us sh q ak bp wl wi wy).ks f) 1 1 1:=by
 have e2:p6 f (Wg d [.e,.l] f) 1 1 1:=((y9 h f).1.trans (y9 h _).2.1).more J J J
 have e3:p6 f (Wg d [.e,.l,.j] f) 1 1 1:=(((y9 h f).1.trans (y9 h _).2.1).trans (y9 h _).2.2).more J J J
 unfold oc
 split
 .exact(p6.refl f).more J J J
 split
 .split
  .exact e2
  exact e2
 split
 .exact e2
 exact e3
theorem Wi{l:List Bool}{k j:Nat}{a:Bool}(hk:k<l.length):(l.set k a).getD j false=if k=j then a else l.getD j false:=by grind
structure u9(wl:List Int)(wi:List Bool):Prop where
 nd:wl.Nodup
 mem:∀i,i∈wl↔(0<=i/\i<wi.length)/\wi.getD i.toNat false=true
theorem u9.len{wl:List Int}{wi:List Bool}(h:u9 wl wi):wl.length<=wi.length:=by
 have h1:(wl.map Int.toNat).Nodup:=by
  refine List.Pairwise.map _ ?_ (afL (S:=fun a b=>a.toNat≠b.toNat) ?_ h.nd)
  .exact fun a b q=>q
  intro a b ha hb hab e
  have:=((h.mem a).1 ha).1;have:=((h.mem b).1 hb).1
  exact hab J
 have h2:(wl.map Int.toNat).length<=(List.range wi.length).length:=by
  refine h1.length_le_of_subset fun x hx=> ?_
  obtain⟨a,ha,rfl⟩:=fN.1 hx
  have:=((h.mem a).1 ha).1
  exact ou.2 J
 simpa using h2
theorem u9.put{wl:List Int}{wi:List Bool}(h:u9 wl wi){i:Int}(hi:0<=i/\i<wi.length):u9 (pH (wl,wi) i).1 (pH (wl,wi) i).2:=by grind[u9,pH,Wi]
theorem u9.take{x:Int}{wl:List Int}{wi:List Bool}(h:u9 (x::wl) wi):u9 wl (wi.set x.toNat false):=by grind[u9,Wi]
theorem u9.r7{l:List Int}:∀{wl:List Int} {wi:List Bool},u9 wl wi->(∀i∈l,0<=i/\i<wi.length)->u9 (r7 (wl,wi) l).1 (r7 (wl,wi) l).2:=by
 induction l with
 |nil=>intro wl wi h _;exact h
 |cons i l ih=>
  intro wl wi h hl
  have h1:=h.put (hl i aJ)
  have h2:=ih h1 (fun j hj=>by have:=hl j (gd _ hj);rw[NC];exact this)
  exact h2
theorem u9.yo{us:List j5}{e:El}{b:Nat}(hu:∀k:Nat,k<us.length->∀i∈(us.getD k de).l,0<=i/\i<b){ks:List Int}:∀{ak:List El} {wl:List Int} {wi:List Bool},u9 wl wi->wi.length=b->(∀k∈ks,0<=k/\k<us.length)->u9 (yo ak us (wl,wi) ks e).2.1 (yo ak us (wl,wi) ks e).2.2:=by
 induction ks with
 |nil=>intro ak wl wi h _ _;exact h
 |cons k ks ih=>
  intro ak wl wi h hb hk
  have hk0:=hk k aJ
  have h1:u9 (mw ak us (wl,wi) k e).1 (mw ak us (wl,wi) k e).2:=by
   unfold mw
   split
   .exact h
   exact h.r7 fun i hi=>by have:=hu k.toNat J i hi;omega
  exact ih (ak:=ak.set k.toNat e) (wl:=(mw ak us (wl,wi) k e).1) (wi:=(mw ak us (wl,wi) k e).2) h1 (ND.trans hb) fun q hq=>hk q (gd _ hq)
theorem Sl.frI{w:World}{v:Value}{l:List Int}(h:Sl w v 1 l.length (l.map I))(o:Nat)(ho:o<=l.length):Sl w (pg v 1 o) 1 (l.drop o).length ((l.drop o).map I):=by
 have:=h.fr o ho
 rw[l9,<-Yq]at this
 rw[yK];exact this
def tw(cs:List (List Nat))(ks:List Int)(k:Nat):List (List Nat):=(List.range k).foldl (fun(c:List (List Nat)) (i:Nat)=>(ju c i (ks.getD i 0)).1) cs
theorem G8{cs:List (List Nat)}{ks:List Int}{k:Int}(h0:0<=k):tw cs ks (k+1).toNat=(ju (tw cs ks k.toNat) k (ks.getD k.toNat 0)).1:=by
 unfold tw
 rw[show(k+1).toNat=k.toNat+1 by omega,vB,xT,pq,List.foldl_nil,gm h0]
theorem aez{cs:List (List Nat)}{i j:Int}:(bB (ju cs i j).1).length=(bB cs).length:=by grind[bB,ju,I6]
theorem xB{cs:List (List Nat)}{ks:List Int}:∀k,(bB (tw cs ks k)).length=(bB cs).length
 |0=>rfl
 |k+1=>by
  have:=G8 (cs:=cs) (ks:=ks) (k:=(k:Int)) J
  rw[show((k:Int)+1).toNat=k+1 by omega]at this
  rw[this,aez,show((k:Int)).toNat=k by omega,xB k]
def wA(sh:Sh)(ak:List El)(e:El)(ks:List Int):El:=ks.foldl (fun e k=>if sx (ak.getD k.toNat df) e then e else eo sh e (ak.getD k.toNat df)) e
theorem Ie{sh:Sh}{ak:List El}{e:El}{ks:List Int}{k:Int}(h0:0<=k)(h1:k<ks.length):wA sh ak e (ks.take (k+1).toNat)=(if sx (ak.getD (ks.getD k.toNat 0).toNat df) (wA sh ak e (ks.take k.toNat))then wA sh ak e (ks.take k.toNat)else eo sh (wA sh ak e (ks.take k.toNat)) (ak.getD (ks.getD k.toNat 0).toNat df)):=oX h0 h1
structure za where
 ak:List El
 bp:List (BitVec 64)
 wl:List Int
 wi:List Bool
def co1(cl:List Nat)(us:List j5)(aq:List pY)(bf:List Int)(rs:List (BitVec 64))(s:za)(v:Nat):za:=
 if fP cl v=v/\(bP cl v).length≠1 then
  let e:=wA (aq.getD (bf.getD v 0).toNat p5).p.sh s.ak (s.ak.getD v df) ((bP cl v).drop 1)
  ⟨(yo s.ak us (s.wl,s.wi) (bP cl v) e).1,gF s.bp (bP cl v) (rs.getD v 0),(yo s.ak us (s.wl,s.wi) (bP cl v) e).2.1,(yo s.ak us (s.wl,s.wi) (bP cl v) e).2.2⟩
 else s
def coA(cl:List Nat)(us:List j5)(aq:List pY)(bf:List Int)(rs:List (BitVec 64))(s:za)(k:Nat):za:=(List.range k).foldl (co1 cl us aq bf rs) s
theorem C0{cl:List Nat}{us:List j5}{aq:List pY}{bf:List Int}{rs:List (BitVec 64)}{s:za}{k:Int}(h0:0<=k):coA cl us aq bf rs s (k+1).toNat=co1 cl us aq bf rs (coA cl us aq bf rs s k.toNat) k.toNat:=by
 unfold coA
 rw[show(k+1).toNat=k.toNat+1 by omega,vB,xT];rfl
def coJ(cl:List Nat):Nat->Nat
 |0=>0
 |v+1=>coJ cl v+(if fP cl v=v then(bP cl v).length-1 else 0)
theorem Ux{cl:List Nat}{k:Int}(h0:0<=k):coJ cl (k+1).toNat=coJ cl k.toNat+(if fP cl k=k then(bP cl k).length-1 else 0):=by
 rw[show(k+1).toNat=k.toNat+1 by omega]
 show coJ cl k.toNat+(if fP cl ((k.toNat:Nat):Int)=((k.toNat:Nat):Int)then(bP cl ((k.toNat:Nat):Int)).length-1 else 0)=_
 rw[gm h0]
theorem ZQ{cl:List Nat}:∀v,coJ cl v<=cl.length*v
 |0=>eu _
 |v+1=>by
  have h1:=ZQ (cl:=cl) v
  have h2:=wz (cl:=cl) (i:=(v:Int))
  show coJ cl v+_<=_
  rw[Nat.mul_add,l9]
  split<;>omega
theorem ai4{cl:List Nat}{k:Int}(h:0<=k/\k<cl.length):1<=(bP cl k).length:=Rt (I9.2 ⟨h,h.1,h.2,rfl⟩)
theorem ab7{cl:List Nat}{us:List j5}{aq:List pY}{bf:List Int}{rs:List (BitVec 64)}{s:za}{k:Int}(h0:0<=k)(h1:fP cl k=k)(h2:(bP cl k).length≠1):
 co1 cl us aq bf rs s k.toNat=⟨(yo s.ak us (s.wl,s.wi) (bP cl k) (wA (aq.getD (bf.getD k.toNat 0).toNat p5).p.sh s.ak (s.ak.getD k.toNat df) ((bP cl k).drop 1))).1,gF s.bp (bP cl k) (rs.getD k.toNat 0),(yo s.ak us (s.wl,s.wi) (bP cl k) (wA (aq.getD (bf.getD k.toNat 0).toNat p5).p.sh s.ak (s.ak.getD k.toNat df) ((bP cl k).drop 1))).2.1,(yo s.ak us (s.wl,s.wi) (bP cl k) (wA (aq.getD (bf.getD k.toNat 0).toNat p5).p.sh s.ak (s.ak.getD k.toNat df) ((bP cl k).drop 1))).2.2⟩:=by grind[co1]
theorem Tj{cl:List Nat}{us:List j5}{aq:List pY}{bf:List Int}{rs:List (BitVec 64)}{s:za}{k:Int}(h0:0<=k)(h1:¬(fP cl k=k/\(bP cl k).length≠1)):co1 cl us aq bf rs s k.toNat=s:=by grind[co1]
structure QJ(b:Nat)(n k:Nat)(s:za):Prop where
 lv:s.ak.length=n
 ly:s.bp.length=k
 li:s.wi.length=b
 wq:u9 s.wl s.wi
theorem ai5{cl:List Nat}{us:List j5}{aq:List pY}{bf:List Int}{rs:List (BitVec 64)}{s:za}{b n k v:Nat}(hu:∀k:Nat,k<us.length->∀i∈(us.getD k de).l,0<=i/\i<b)(hl:cl.length=us.length)(h:QJ b n k s):QJ b n k (co1 cl us aq bf rs s v):=by
 unfold co1
 split
 .exact⟨by simp only[y8,jb];exact h.lv,by simp only[jb];exact h.ly,by simp only[Lc];exact h.li,h.wq.yo hu h.li fun q hq=>by have:=mR hq;omega⟩
 exact h
theorem ZR{cl:List Nat}{us:List j5}{aq:List pY}{bf:List Int}{rs:List (BitVec 64)}{s:za}{b n k:Nat}(hu:∀k:Nat,k<us.length->∀i∈(us.getD k de).l,0<=i/\i<b)(hl:cl.length=us.length)(h:QJ b n k s):∀j,QJ b n k (coA cl us aq bf rs s j)
 |0=>h
 |j+1=>by
  have:=C0 (cl:=cl) (us:=us) (aq:=aq) (bf:=bf) (rs:=rs) (s:=s) (k:=(j:Int)) J
  rw[show((j:Int)+1).toNat=j+1 by omega]at this
  rw[this]
  exact ai5 hu hl (ZR hu hl h j)
structure CoO where
 cs:List (List Nat)
 s:za
 j:Nat
noncomputable def s5(cs:List (List Nat))(us:List j5)(aq:List pY)(bf:List Int)(qs:List dD)(sn:Int)(n:Nat)(s:za):CoO:=
 if(qs.drop sn.toNat).any Ft=true then
  let cs':=tw cs (pF (cw n qs)) n
  if leads (bB cs')=leads (bB cs)then⟨cs',s,0⟩
  else⟨cs',coA (bB cs') us aq bf (CZ (bB cs') s.bp n qs) s n,coJ (bB cs') n⟩
 else⟨cs,s,0⟩
structure QOk(nl n:Nat)(q:dD):Prop where
 bf:0<=q.bf/\q.bf<nl
 code:q.code.length<=1000
 to:q.to.var<n
 pl:Ft q=true->0<q.vars.length/\0<=yH q/\yH q<n
 vars:∀v∈q.vars,0<=v/\v<n
def ZS(nl n:Nat)(qs:List dD):Prop:=∀q∈qs,QOk nl n q
theorem ZS.pl{nl n:Nat}{qs:List dD}(h:ZS nl n qs):V7 n qs:=fun q hq hp=>⟨((h q hq).pl hp).1,((h q hq).pl hp).2,(h q hq).to⟩
theorem ZS.at{nl n:Nat}{qs:List dD}(h:ZS nl n qs){k:Int}(h0:0<=k)(h1:k<qs.length):QOk nl n (qs.getD k.toNat cX):=h _ (dy h0 h1)
def upI(a:Int)(k:Nat):List Int:=(List.range k).map fun i:Nat=>a+(i:Int)
theorem ai6{a k:Int}(h:a<=k):upI a (k+1-a).toNat=upI a (k-a).toNat++[k]:=by
 unfold upI
 rw[show(k+1-a).toNat=(k-a).toNat+1 by omega,vB,gP]
 simp only[lZ,Ci]
 rw[show a+((k-a).toNat:Int)=k by omega]
theorem aeA{p:List Int×List Bool}{l:List Int}{k:Int}:r7 p (l++[k])=pH (r7 p l) k:=by grind[r7]
def Wj(c:za)(sn:Int)(n:Nat):za:=⟨c.ak,c.bp,(r7 (c.wl,c.wi) (upI sn ((n:Int)-sn).toNat)).1,(r7 (c.wl,c.wi) (upI sn ((n:Int)-sn).toNat)).2⟩
section
variable{cl:List Nat}{us:List j5}{sh:Sh}{q:dD}{ak:List El}{bp:List (BitVec 64)}{wl:List Int}{wi:List Bool}{wy:BitVec 64}
theorem ata(h:(oc cl us sh q ak bp wl wi wy).ok=true):(oc cl us sh q ak bp wl wi wy).wy=wy:=by
 unfold oc at h⊢
 split
 .rfl
 rename_i h1
 rw[aW h1]at h
 split
 .rename_i h2
  rw[aY h2]at h
  split
  .rfl
  rename_i h3;rw[aW h3]at h;cases h
 split<;>rfl
theorem atb(h:(oc cl us sh q ak bp wl wi wy).ok=false):(oc cl us sh q ak bp wl wi wy).ak=ak/\(oc cl us sh q ak bp wl wi wy).bp=bp:=by
 unfold oc at h⊢
 split
 .exact⟨rfl,rfl⟩
 rename_i h1
 rw[aW h1]at h
 split
 .split<;>exact⟨rfl,rfl⟩
 rename_i h2
 rw[aW h2]at h
 split
 .exact⟨rfl,rfl⟩
 rename_i h3;rw[aW h3]at h;cases h
theorem ai7{b n k:Nat}(hu:∀k:Nat,k<us.length->∀i∈(us.getD k de).l,0<=i/\i<b)(hl:cl.length=us.length)(h:QJ b n k ⟨ak,bp,wl,wi⟩):
  QJ b n k ⟨(oc cl us sh q ak bp wl wi wy).ak,(oc cl us sh q ak bp wl wi wy).bp,(oc cl us sh q ak bp wl wi wy).wl,(oc cl us sh q ak bp wl wi wy).wi⟩:=by
 unfold oc
 split
 .exact h
 split
 .split<;>exact h
 split
 .exact h
 exact⟨by simp only[lkR,y8,jb];exact h.lv,by simp only[lkR,jb];exact h.ly,by simp only[lkR,Lc];exact h.li,h.wq.yo hu h.li fun q hq=>by have:=mR hq;omega⟩
end
theorem QJ.take{b n k:Nat}{ak:List El}{bp:List (BitVec 64)}{x:Int}{wl:List Int}{wi:List Bool}(h:QJ b n k ⟨ak,bp,x::wl,wi⟩):(0<=x/\x<b)/\QJ b n k ⟨ak,bp,wl,wi.set x.toNat false⟩:=by
 have hx:=((h.wq.mem x).1 aJ).1
 have hl:=h.li
 simp only at hx hl
 exact⟨J,h.lv,h.ly,by simp only[n8];exact hl,h.wq.take⟩
theorem atc{b n k:Nat}{c:za}(h:QJ b n k c){sn:Int}(h0:0<=sn):QJ b n k (Wj c sn b):=by
 have hl:∀i∈upI sn ((b:Int)-sn).toNat,0<=i/\i<(c.wi.length:Int):=fun i hi=>by
  obtain⟨j,hj,rfl⟩:=fN.1 hi
  have:=ou.1 hj
  have:=h.li
  omega
 exact⟨h.lv,h.ly,(yZ).trans h.li,h.wq.r7 hl⟩
theorem aeB{f:Value}{s:NP}{k:Int}:iO [(f,.seen s.sn)] s {s with sn:=k}:=iO.one O trivial
def SpR(cl:List Nat)(us:List j5)(aq:List pY)(qs:List dD)(s:za)(ok:Bool)(wy wy':BitVec 64):Prop:=
 (ok=true/\s.wl=[]/\wy'=wy)\/(ok=false/\∃x wl,s.wl=x::wl/\(oc cl us (aq.getD (qs.getD x.toNat cX).bf.toNat p5).p.sh (qs.getD x.toNat cX) s.ak s.bp wl (s.wi.set x.toNat false) wy).ok=false/\wy'=(oc cl us (aq.getD (qs.getD x.toNat cX).bf.toNat p5).p.sh (qs.getD x.toNat cX) s.ak s.bp wl (s.wi.set x.toNat false) wy).wy)
theorem anL{b n k:Nat}{c:za}(h:QJ b n k c){l:List Int}(hl:∀i∈l,0<=i/\i<(b:Int)):QJ b n k ⟨c.ak,c.bp,(r7 (c.wl,c.wi) l).1,(r7 (c.wl,c.wi) l).2⟩:=
 ⟨h.lv,h.ly,(yZ).trans h.li,h.wq.r7 fun i hi=>by have:=hl i hi;have:=h.li;omega⟩
theorem Ja(n:Nat):u9 [] (List.replicate n false):=by grind[u9]
theorem atd{cs:List (List Nat)}{us:List j5}{aq:List pY}{bf:List Int}{qs:List dD}{sn:Int}{ak:List El}{bp:List (BitVec 64)}(hl:(bB cs).length=us.length)(hu:∀k:Nat,k<us.length->∀i∈(us.getD k de).l,0<=i/\i<(qs.length:Int))(hn:ak.length=us.length):
 QJ qs.length ak.length bp.length (s5 cs us aq bf qs sn ak.length ⟨ak,bp,[],List.replicate qs.length false⟩).s:=by grind[QJ,Ja,s5,ZR,xB]
theorem anM{cs:List (List Nat)}{us:List j5}{aq:List pY}{bf:List Int}{qs:List dD}{sn:Int}{n:Nat}{s:za}:(bB (s5 cs us aq bf qs sn n s).cs).length=(bB cs).length:=by grind[s5,xB]
theorem axR{cs:List (List Nat)}{us:List j5}{aq:List pY}{bf:List Int}{qs:List dD}{sn:Int}{n:Nat}{s:za}:(s5 cs us aq bf qs sn n s).j<=(bB cs).length*n:=by grind[s5,ZQ,bB,tw,pF,cw,xB]
theorem ab8:∀(l:List mE) (s:NP) (y:BitVec 64),(∀c∈l,I8 c)->Ek l {s with wy:=y}={Ek l s with wy:=y}/\(okB l s->okB l {s with wy:=y})
 |[],s,y,_=>⟨rfl,fun h=>h⟩
 |c::l,s,y,h=>by
  have e:wx c {s with wy:=y}={wx c s with wy:=y}/\(okN c s->okN c {s with wy:=y}):=by
   have:=h c aJ
   cases c<;>first|exact this.elim|exact⟨rfl,fun h=>h⟩
  have ih:=ab8 l (wx c s) y fun c hc=>h c (gd _ hc)
  refine⟨?_,fun⟨h1,h2⟩=>⟨e.2 h1,?_⟩⟩
  .show Ek l (wx c {s with wy:=y})=_
   rw[e.1];exact ih.1
  show okB l (wx c {s with wy:=y})
  rw[e.1];exact ih.2 h2
theorem iO.wy{new:List (Value×mE)}{s s':NP}(h:iO new s s')(hr:∀x∈new,I8 x.2)(y:BitVec 64):iO new {s with wy:=y} {s' with wy:=y}:=by grind[mE,NP,iO,I8,ab8]
theorem pV.EP{T:UT}{F:Nat}{L L':List bu}{x:Value×jU}(h:pV T F L x)(hs:∀b o,bu.blk b o∈L->bu.blk b o∈L'):pV T F L' x:=by
 obtain⟨v,u⟩:=x
 cases u with
 |add n=>obtain⟨b1,b2,h1,h2,h3⟩:=h;exact⟨b1,b2,h1,hs _ _ h2,hs _ _ h3⟩
 |set i b=>obtain⟨b1,b2,b3,h1,h2,h3,h4⟩:=h;exact⟨b1,b2,b3,h1,hs _ _ h2,hs _ _ h3,hs _ _ h4⟩
theorem xA.EP{T:FTy}{F m:Nat}{cs:List (List Nat)}{vW vU:Value}{cW cU:Option (Nat×Array Value)}{W:List (BitVec 64)}{ul:List (Value×jU)}{ts:List Int}{cn:Int}{L L':List bu}(h:xA T F m cs vW vU cW cU W ul ts cn L)(hs:∀b o,bu.blk b o∈L->bu.blk b o∈L'):xA T F m cs vW vU cW cU W ul ts cn L':=by
 obtain⟨tn,e,i⟩:=h.fo
 exact⟨⟨tn,e,i.hW,i.hU,i.hs,i.ok,fun x hx=>(i.un x hx).EP hs,i.lu,i.lt⟩,h.cn⟩
theorem nr.EP{T:NTy}{n:Nat}{L L':List bu}{x:Value×mE}(h:nr T n L x)(hs:∀b o,bu.blk b o∈L->bu.blk b o∈L'):nr T n L' x:=by
 obtain⟨v,c⟩:=x
 cases c with
 |bf i=>obtain⟨b1,b2,h0,h1,h2⟩:=h;exact⟨b1,b2,h0,hs _ _ h1,hs _ _ h2⟩
 |var i m=>obtain⟨b1,b2,b3,h0,h1,h2,h3⟩:=h;exact⟨b1,b2,b3,h0,hs _ _ h1,hs _ _ h2,hs _ _ h3⟩
 |add i q=>obtain⟨b1,b2,b3,h0,h1,h2,h3⟩:=h;exact⟨b1,b2,b3,h0,hs _ _ h1,hs _ _ h2,hs _ _ h3⟩
 |raise v was had=>obtain⟨b1,b2,b3,b4,h0,h1,h2,h3,h4⟩:=h;exact⟨b1,b2,b3,b4,h0,hs _ _ h1,hs _ _ h2,hs _ _ h3,hs _ _ h4⟩
 |merge m=>obtain⟨b1,b2,h0,h1,h2⟩:=h;exact⟨b1,b2,h0,hs _ _ h1,hs _ _ h2⟩
 |seen was=>obtain⟨b1,b2,h0,h1,h2⟩:=h;exact⟨b1,b2,h0,hs _ _ h1,hs _ _ h2⟩
 |stuck=>obtain⟨b1,h0,h1⟩:=h;exact⟨b1,h0,hs _ _ h1⟩
theorem Tk{t:TypeId}{gs:List j5}{A B:List bu}{b:Nat}{o:Obj}(h:bu.blk b o∈A++(gs.map (dS t)++B)):bu.blk b o∈A++B:=by
 rcases fh.1 h with q|q
 .exact dI _ q
 rcases fh.1 q with q|q
 .obtain⟨x,_,e⟩:=fN.1 q
  cases e
 exact bH _ q
end
end Go.Proofs.YtlhjdflgjbkpmaaGreatDoor.E

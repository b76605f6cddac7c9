/- Part 2 of the proof of FlowSettles: its plain laws and the walks of its functions. -/
import Derived.Test.YtlhjdflgjbkpmaaGreatDoorFlowSettlesPartA
set_option linter.all false
namespace Go.Proofs.YtlhjdflgjbkpmaaGreatDoor.E
section
open Go Go.RowKit Go.Proofs.YtlhjdflgjbkpmaaGreatDoor.M
def U7(a b:Tx):Bool:=Op.bytesLess a.toList b.toList
section
variable{P:Program}{σ:Env}{w:World}{dst:Option Tmp}{ty t u:TypeId}{pos:String}{bO:Array Edge}{g:Option (Nat×Bool)}{x y:Operand}{a b:Tx}
end
structure jK where
 name:Tx
 el:El
def Sv:jK:=⟨qe,dg⟩
def ahr(v:jK):List Value:=S v.name::pH v.el
def PZ(l:List jK)(f:Tx):Int:=tj (fun i=>decide ((l.getD i.toNat Sv).name=f)) l.length
def adH(l:List jK)(f:Tx):El×Bool:=if PZ l f<0 then(dg,false)else((l.getD (PZ l f).toNat Sv).el,true)
def spot(l:List jK)(f:Tx):Nat:=if 0<=tj (fun i=>U7 f (l.getD i.toNat Sv).name) l.length then(tj (fun i=>U7 f (l.getD i.toNat Sv).name) l.length).toNat else l.length
def apb(l:List jK)(f:Tx)(e:El):List jK:=if PZ l f<0 then l.take (spot l f)++⟨f,e⟩::l.drop (spot l f)else l.set (PZ l f).toNat ⟨f,e⟩
def awJ(a b:jK):Bool:=decide (a.name=b.name)&&decide (rS a.el b.el)
def apc(l m:List jK):Bool:=decide (l.length=m.length)&&(upto l.length).all fun i=>awJ (l.getD i.toNat Sv) (m.getD i.toNat Sv)
structure As where
 labels:List El
 rows:List (List jK)
def aDw(a:As)(i:Nat):El:=a.labels.getD i dg
def aMK(a:As)(i:Nat):List jK:=a.rows.getD i []
def aJt(a b:As):Bool:=decide (a.labels.length=b.labels.length/\a.rows.length=b.rows.length)&&((upto a.labels.length).all fun i=>decide (rS (a.labels.getD i.toNat dg) (b.labels.getD i.toNat dg)))&&(upto a.rows.length).all fun i=>apc (a.rows.getD i.toNat []) (b.rows.getD i.toNat [])
def arR(l m:List jK):Bool:=l.all fun v=>(adH m v.name).2&&cS v.el (adH m v.name).1
def aML(a b:As):Bool:=((upto a.labels.length).all fun i=>cS (a.labels.getD i.toNat dg) (b.labels.getD i.toNat dg))&&(upto a.rows.length).all fun i=>arR (a.rows.getD i.toNat []) (b.rows.getD i.toNat [])
def P0(l m:List jK):List jK:=l.filterMap fun v=>if(adH m v.name).2 then some ⟨v.name,o4 v.el (adH m v.name).1⟩else none
def awK(a b:As):As:=⟨(a.labels.zip b.labels).map fun p=>o4 p.1 p.2,(a.rows.zip b.rows).map fun p=>P0 p.1 p.2⟩
theorem ahs{α β γ:Type}{F:α×β->γ}{l:List α}{m:List β}{k:Int}{da:α}{db:β}(h0:0<=k)(h1:k<l.length)(h2:k<m.length):
  ((l.zip m).take (k+1).toNat).map F=((l.zip m).take k.toNat).map F++[F (l.getD k.toNat da,m.getD k.toNat db)]:=by
 have h3:(l.zip m)[k.toNat]?=some (l.getD k.toNat da,m.getD k.toNat db):=by
  rw[List.getElem?_zip_eq_some];exact⟨fD (d:=da) h0 h1,fD (d:=db) h0 h2⟩
 rw[show(k+1).toNat=k.toNat+1 by omega,xM,h3,gU];rfl
theorem abo{α β γ:Type}{F:α×β->γ}{l:List α}{m:List β}{k:Int}(h:¬(k<l.length/\k<m.length)):((l.zip m).take k.toNat).map F=(l.zip m).map F:=by
 rw[ji];rw[List.length_zip];omega
section
variable{l m:List jK}{k:Int}
end
section
variable{a b:As}{k:Int}
end
def aht(l:List jK):Bool:=(upto l.length).all fun i=>iQ (l.getD i.toNat Sv).name&&(decide (i<=0)||U7 (l.getD (i-1).toNat Sv).name (l.getD i.toNat Sv).name)
def awL(s:Sh)(l:List jK):Bool:=l.all fun v=>cJ s v.el
structure Sc where
 aq:List Sh
 vars:List vN
def okV(s:Sc)(v:vN)(e:El)(l:List jK):Bool:=decide (0<=v.a8/\v.a8<s.aq.length)&&
 (if v.kind=1 then decide (l.length=0)&&cJ (s.aq.getD v.a8.toNat ⟨false,[]⟩) e
  else if v.kind=2 then decide (rS e dg)&&aht l&&awL (s.aq.getD v.a8.toNat ⟨false,[]⟩) l else false)
def Sw(s:Sc)(a:As):Bool:=decide (a.labels.length=s.vars.length/\a.rows.length=s.vars.length)&&(upto s.vars.length).all fun i=>okV s (s.vars.getD i.toNat fp) (a.labels.getD i.toNat dg) (a.rows.getD i.toNat [])
def zZ(s:Sc)(v:vN):El:=if v.kind=1/\0<=v.a8/\v.a8<s.aq.length then gI (s.aq.getD v.a8.toNat ⟨false,[]⟩) ew else dg
def MM(s:Sc):As:=⟨s.vars.map (zZ s),s.vars.map fun _=>[]⟩
def aDx(l:List jK):Prop:=l.Pairwise fun a b=>U7 a.name b.name=true
theorem j8(e:El):cS e e=true:=p5.2 fun i _=>tB _
theorem MO{a b c:El}(h:cS a b=true)(h':cS b c=true):cS a c=true:=by grind[p5,l8]
def awM(s:Sc)(v:vN):Sh:=s.aq.getD v.a8.toNat ⟨false,[]⟩
section
variable{s:Sc}{a b c:As}(ha:Sw s a=true)(hb:Sw s b=true)
include ha hb
end
def xf(b:Tx):List Tx->Tx
 |[]=>qe
 |x::l=>l.foldl (fun a y=>a++b++y) x
def arS(s:Sh)(v:jK):Tx:=v.name++tc 61++ahn s v.el
def aDy(s:Sh)(l:List jK):Tx:=tc 91++xf (tc 44) (l.map (arS s))++tc 93
def awN(s:Sc)(v:vN)(e:El)(l:List jK):Tx:=v.name++tc 61++(if v.kind=1 then ahn (awM s v) e else aDy (awM s v) l)
def apd(s:Sc)(a:As)(k:Int):List Tx:=(upto k).map fun i=>awN s (s.vars.getD i.toNat fp) (a.labels.getD i.toNat dg) (a.rows.getD i.toNat [])
def aJv(s:Sc)(a:As):Tx:=if Sw s a then xf (tc 32) (apd s a s.vars.length)else qe
def aMM(l:List By):By:=l.flatMap fun y=>32::y
def PT(s:Sc)(p:vN×El×List jK):By:=bl (awN s p.1 p.2.1 p.2.2)
def aMN(s:Sc)(a:As):List (vN×El×List jK):=(upto s.vars.length).map fun i=>(s.vars.getD i.toNat fp,a.labels.getD i.toNat dg,a.rows.getD i.toNat [])
theorem uS(e:El):∀u∈pH e,u.oneCell'=true:=fun u hu=>abe e u (by rw[ig];simpa using hu)
theorem gR(l:List El):∀u∈l.flatMap pH,u.oneCell'=true:=by grind[uS]
structure TZ where
 v:Value
 l:List jK
def Hw:TZ:=⟨.slice none 0 0,[]⟩
abbrev ape(l:List TZ):List Value:=l.map TZ.v
structure uJ(K:Vu)(l:List TZ):Prop where
 each:∀r∈l,pB K r.v 9 r.l.length (r.l.flatMap ahr)
theorem uJ.mono{K K':Vu}{l:List TZ}(h:uJ K l)(hl:Le K K'):uJ K' l:=⟨fun r hr=>(h.each r hr).mono hl⟩
theorem uJ.at{K:Vu}{l:List TZ}(h:uJ K l){k:Int}(h0:0<=k)(h1:k<l.length):pB K (l.getD k.toNat Hw).v 9 (l.getD k.toNat Hw).l.length ((l.getD k.toNat Hw).l.flatMap ahr):=h.each _ (lO (fD (d:=Hw) h0 h1))
theorem uJ.nil(K:Vu):uJ K []:=⟨fun r hr=>by simp at hr⟩
theorem uJ.snoc{K:Vu}{l:List TZ}{r:TZ}(h:uJ K l)(hr:pB K r.v 9 r.l.length (r.l.flatMap ahr)):uJ K (l++[r]):=⟨fun x hx=>by
 rcases fg.1 hx with hx|hx
 .exact h.each x hx
 rw[gG.1 hx];exact hr⟩
structure FW where
 lv:Value
 labels:List El
 rv:Value
 rows:List TZ
def Y2(a:FW):List Value:=[a.lv,a.rv]
theorem awO(a:FW):(Y2 a).length=2:=rfl
def amz:FW:=⟨.slice none 0 0,[],.slice none 0 0,[]⟩
def FW.Hx(a:FW):As:=⟨a.labels,a.rows.map TZ.l⟩
structure MP(K:Vu)(a:FW):Prop where
 labels:pB K a.lv 8 a.labels.length (a.labels.flatMap pH)
 rows:pB K a.rv 1 a.rows.length (ape a.rows)
 each:uJ K a.rows
theorem MP.mono{K K':Vu}{a:FW}(h:MP K a)(hl:Le K K'):MP K' a:=⟨h.labels.mono hl,h.rows.mono hl,h.each.mono hl⟩
theorem MP.at{K:Vu}{a:FW}(h:MP K a){k:Int}(h0:0<=k)(h1:k<a.rows.length):pB K (a.rows.getD k.toNat Hw).v 9 (a.rows.getD k.toNat Hw).l.length ((a.rows.getD k.toNat Hw).l.flatMap ahr):=h.each.at h0 h1
theorem ahu{K:Vu}{a:FW}(h:MP K a):∀u∈(Y2 a).toArray,u.oneCell'=true:=by
 intro u hu
 simp[Y2]at hu
 rcases hu with rfl|rfl
 .exact(l7 h.labels).1
 exact(l7 h.rows).1
structure amA where
 a:FW
 b:FW
 c:FW
def aMO(x:amA):List Value:=[x.a.lv,x.a.rv,x.b.lv,x.b.rv,x.c.lv,x.c.rv]
def aMP:amA:=⟨amz,amz,amz⟩
structure ahv(K:Vu)(x:amA):Prop where
 a:MP K x.a
 b:MP K x.b
 c:MP K x.c
theorem ahv.mono{K K':Vu}{x:amA}(h:ahv K x)(hl:Le K K'):ahv K' x:=⟨h.a.mono hl,h.b.mono hl,h.c.mono hl⟩
theorem Jz(a:FW):a.Hx.rows.length=a.rows.length:=gF ..
def mv.sc(s:mv):Sc:=⟨s.aq.map fun l=>l.yK.sh,s.vars⟩
theorem ahw(s:mv):s.sc.aq.length=s.aq.length:=gF ..
theorem arT(s:mv)(k:Nat):s.sc.aq.getD k ⟨false,[]⟩=(s.aq.getD k lH).yK.sh:=by
 show(s.aq.map fun l=>l.yK.sh).getD k ⟨false,[]⟩=_
 rw[eT,eT,qp]
 cases s.aq[k]?<;>rfl
section
variable{P:Program}{σ:Env}{w:World}{dst:Option Tmp}{ty t u e:TypeId}{pos:String}{bO:Array Edge}{g:Option (Nat×Bool)}{x y:Operand}{b:Nat}{fr:Nat×Nat}
end
def aJw(l:List DW)(i:Int):DW:=if 0<=i/\i<l.length then l.getD i.toNat lH else lH
theorem uJ.or{K:Vu}{l:List TZ}(h:uJ K l)(k:Nat):pB K (l.getD k Hw).v 9 (l.getD k Hw).l.length ((l.getD k Hw).l.flatMap ahr):=by
 by_cases hk:k<l.length
 .have:=h.at (k:=(k:Int)) J J
  simpa using this
 rw[eT,oc J];exact pB.nil _ _
section
variable{s:mv}{v:vN}{e:El}{l:List jK}{a:FW}{k:Int}
abbrev shG(s:mv)(v:vN):Sh:=(s.aq.getD v.a8.toNat lH).yK.sh
abbrev okG(s:mv)(a:FW)(k:Int):Bool:=okV s.sc (s.vars.getD k.toNat fp) (a.labels.getD k.toNat dg) (a.rows.getD k.toNat Hw).l
end
section
variable{a b:FW}{k j:Int}
end
def aDz(l:List TZ):Nat:=(l.map fun r=>r.l.length).sum
def awP(v:jK):Bool:=decide (40<v.name.size)
def aDA(r:TZ):Bool:=r.l.any awP
def aMQ(a:FW):Bool:=decide (100<a.labels.length\/100<a.rows.length)||a.rows.any aDA||decide (200<(aDz a.rows:Int))
def aDB(b:Tx)(l:List Tx)(k:Int):Tx:=xf b (l.take k.toNat)
def szJ(b:Tx)(l:List Tx):Nat:=(l.map fun x=>x.size+b.size).sum
section
variable{s:mv}{a:FW}{k:Int}
end
section
variable{P m:Tx}{sh:Sh}{l:List jK}{q:Int}
end
abbrev VS(s:mv)(a:FW):List Tx:=apd s.sc a.Hx s.vars.length
section
variable{s:mv}{a:FW}{k:Int}
end
theorem abp{v:Value}(h1:v.oneCell'=true):∀x∈[v],x.oneCell'=true:=by grind
abbrev aMR(p:El×Bool):Value:= .tuple #[.agg (iM p.1),B p.2]
theorem Iv{a b:As}{k:Int}(h0:0<=k)(h1:k<a.rows.length)(h2:k<b.rows.length):((a.rows.zip b.rows).take k.toNat).map (fun p=>P0 p.1 p.2)++[P0 (a.rows.getD k.toNat []) (b.rows.getD k.toNat [])]=((a.rows.zip b.rows).take (k+1).toNat).map fun p=>P0 p.1 p.2:=(ahs (F:=fun p:List jK×List jK=>P0 p.1 p.2) h0 h1 h2).symm
section
variable{P:Program}{σ:Env}{w:World}{dst:Option Tmp}{ty t e:TypeId}{pos:String}{bO:Array Edge}{g:Option (Nat×Bool)}{x:Operand}
theorem fY{a:El}{ie:TypeInfo}{z:Value}(hu:P.underlying t=some (.slice e))(hie:P.info? e=some ie)(hz:ie.zero=some z)(hsz:ie.size=8)(hx:ev σ x= .agg (iM a)):
  (execOp (ev σ) ⟨dst,.buildSlice t 1 #[(0,x)],ty,pos,bO,g⟩).run P w= .ok (.value (.slice (some ⟨w.heap.size,0,none⟩) 1 1)) (w.alloc (.cells ([a].flatMap pH).toArray e)):=
 ou (ps:=[(0,x)]) (l:=[a]) cY hu hie hz hsz O az az (by rw[ig]at hx;simp[hx])
theorem yL{v:Value}{ie:TypeInfo}{z:Value}(h1:v.cells=#[v])(hu:P.underlying t=some (.slice e))(hie:P.info? e=some ie)(hz:ie.zero=some z)(hsz:ie.size=1)(hx:ev σ x=v):
  (execOp (ev σ) ⟨dst,.buildSlice t 1 #[(0,x)],ty,pos,bO,g⟩).run P w= .ok (.value (.slice (some ⟨w.heap.size,0,none⟩) 1 1)) (w.alloc (.cells ([v]:List Value).toArray e)):=by
 have:=cB (P:=P) (σ:=σ) (w:=w) (dst:=dst) (ty:=ty) (pos:=pos) (bO:=bO) (g:=g) (ps:=[(0,x)]) (vs:=[v]) (sz:=1) hu hie hz hsz O aJ aJ q5 (by simp[h1])
 simpa[h1]using this
end
section
variable{a b:FW}{ls:List El}{gr:List TZ}{v0 v1:Value}{k j:Int}
theorem KG(h1:ls=((a.labels.zip b.labels).take k.toNat).map fun p=>o4 p.1 p.2)(h2:gr.map TZ.l=((a.Hx.rows.zip b.Hx.rows).take j.toNat).map fun p=>P0 p.1 p.2)(hk:¬(k<a.labels.length/\k<b.labels.length))(hj:¬(j<a.rows.length/\j<b.rows.length)):
  (⟨v0,ls,v1,gr⟩:FW).Hx=awK a.Hx b.Hx:=by
 show(⟨ls,gr.map TZ.l⟩:As)=_
 rw[h1,h2,abo hk,abo (by rw[Jz,Jz];exact hj)];rfl
end
section
variable{s:mv}{ls:List El}{v0 v1:Value}{k:Int}
theorem awQ(hk:(s.vars.getD k.toNat fp).kind=1)(hl:0<=(s.vars.getD k.toNat fp).a8/\(s.vars.getD k.toNat fp).a8<s.aq.length):zZ s.sc (s.vars.getD k.toNat fp)=gI (shG s (s.vars.getD k.toNat fp)) ew:=by grind[zZ,ahw,arT]
theorem av1{v:vN}(h:¬(v.kind=1/\0<=v.a8/\v.a8<s.aq.length)):zZ s.sc v=dg:=by grind[zZ,ahw]
theorem DJ(h0:0<=k)(h1:k<s.vars.length):(s.vars.take k.toNat).map (zZ s.sc)++[zZ s.sc (s.vars.getD k.toNat fp)]=(s.vars.take (k+1).toNat).map (zZ s.sc):=by
 rw[show(k+1).toNat=k.toNat+1 by omega,xM,show s.vars[k.toNat]?=some (s.vars.getD k.toNat fp)from fD h0 h1,gU];rfl
theorem DK(h0:0<=k):List.replicate k.toNat Hw++[Hw]=List.replicate (k+1).toNat Hw:=by
 rw[show(k+1).toNat=k.toNat+1 by omega,List.replicate_succ']
theorem uJ.amB(K:Vu)(n:Nat):uJ K (List.replicate n Hw):=⟨fun r hr=>by rw[(List.mem_replicate.1 hr).2];exact pB.nil _ _⟩
theorem Ux(h1:ls=(s.vars.take k.toNat).map (zZ s.sc))(h0:0<=k)(hk:¬k<s.vars.length)(CF:k<=s.vars.length):(⟨v0,ls,v1,List.replicate k.toNat Hw⟩:FW).Hx=MM s.sc:=by
 show(⟨ls,(List.replicate k.toNat Hw).map TZ.l⟩:As)=_
 rw[h1,ji J,MM,show k.toNat=s.vars.length by omega]
 congr 1
 rw[List.map_replicate]
 exact(List.map_const' (l:=s.vars) (b:=([]:List jK))).symm
end
theorem HR{α:Type}{cl:α->List Value}{sz:Nat}(ov:∀a,(cl a).length=sz)(l:List α)(k:Nat):(l.flatMap cl).take (k*sz)=(l.take k).flatMap cl:=by
 by_cases h:k<=l.length
 .conv=>lhs;rw[<-HC k l,F5]
  exact List.take_left' (by rw[fK ov,er,r7 h])
 rw[ji (by rw[fK ov];exact s4 _ J),ji J]
theorem adI{α:Type}{cl:α->List Value}{sz:Nat}(ov:∀a,(cl a).length=sz)(l:List α)(k:Nat)(h:k<=l.length):(l.flatMap cl).drop (k*sz)=(l.drop k).flatMap cl:=by
 conv=>lhs;rw[<-HC k l,F5]
 exact List.drop_left' (by rw[fK ov,er,r7 h])
def lsK(s:mv)(k:Int):List El:=(s.vars.take k.toNat).map (zZ s.sc)++List.replicate (s.vars.length-k.toNat) dg
section
variable{s:mv}{k:Int}
end
section
variable{l:List jK}{f:Tx}{e:El}{k:Int}
end
def wL:List Tx:=[⟨#[108,111]⟩,⟨#[104,105]⟩]
def aDC:Sh:=⟨false,[⟨1,wL,Rl.none⟩]⟩
def exS:Sc:=⟨[aDC],[⟨⟨#[120]⟩,1,0⟩,⟨⟨#[114]⟩,2,0⟩]⟩
def exA:As:=⟨[tA dg 0 1#64,dg],[[],[⟨⟨#[102]⟩,dg⟩]]⟩
section
variable{P:Program}{σ:Env}{w:World}{dst:Option Tmp}{ty t e:TypeId}{pos:String}{bO:Array Edge}{g:Option (Nat×Bool)}{x y:Operand}
end
def apf(l:List jK)(f:Tx):Nat:=if PZ l f<0 then spot l f else(PZ l f).toNat
def wTo(l:List jK)(f:Tx)(e:El)(k:Int)(d:Bool):List jK:=(apb l f e).take (k.toNat+if d&& !(adH l f).2 then 1 else 0)
def wIs(l:List jK)(f:Tx)(k:Int)(d:Bool):Prop:=(d=true->(apf l f:Int)<k)/\(d=false->k<=(apf l f:Int))
section
variable{l m:List jK}{f:Tx}{e:El}{k:Int}{d:Bool}
theorem k1(h0:0<=k):(k+1).toNat=k.toNat+1:=J
end
def MQ(l:DW):Bool:=iQ l.name&&mC l.yK.sh
def LD(n:Nat)(v:vN):Bool:=iQ v.name&&decide ((v.kind=1\/v.kind=2)/\0<=v.a8/\v.a8<n)
def rB(s:mv):List Tx:=s.aq.map DW.name++s.vars.map vN.name
def jb(s:mv):Bool:=decide (s.aq.length<=16/\s.vars.length<=64)&&s.aq.all MQ&&s.vars.all (LD s.aq.length)&&decide (yH (rB s)<0)
section
variable{s:mv}
theorem P3(h:¬(s.aq.length<=16/\s.vars.length<=64)):jb s=false:=by grind[jb]
theorem adJ{k:Int}(h0:0<=k)(h1:k<s.aq.length)(h:MQ (s.aq.getD k.toNat lH)=false):jb s=false:=by grind[jb,MI]
theorem yM{k:Int}(h0:0<=k)(h1:k<s.vars.length)(h:LD s.aq.length (s.vars.getD k.toNat fp)=false):jb s=false:=by grind[jb,MI]
theorem adK{k j:Int}(h:s.aq.length<=16/\s.vars.length<=64)(hk:¬k<s.aq.length)(hl:∀i:Int,0<=i->i<k->MQ (s.aq.getD i.toNat lH)=true)(hj:¬j<s.vars.length)(hv:∀i:Int,0<=i->i<j->LD s.aq.length (s.vars.getD i.toNat fp)=true):
 jb s=decide (yH (rB s)<0):=by rw[jb,gW h,Gt hk hl,Gt hj hv];rfl
theorem Y3{k:Int}(h0:0<=k)(h1:k<(rB s).length)(h:iQ ((rB s).getD k.toNat qe)=false):jb s=false:=by
 cases hc:jb s with
 |false=>rfl
 |true=>
  rw[jb,cL,cL,cL,iS,iS]at hc
  have hm:=lO (fD (d:=qe) h0 h1)
  rw[rB,fg,fZ,fZ]at hm
  rcases hm with⟨a,ha,e⟩|⟨a,ha,e⟩
  .have:=hc.1.1.2 a ha
   rw[MQ,cL,e]at this
   have h2:=this.1
   rw[rB]at h;rw[h]at h2;cases h2
  have:=hc.1.2 a ha
  rw[LD,cL,e]at this
  have h2:=this.1
  rw[rB]at h;rw[h]at h2;cases h2
theorem adL{k j i:Int}(k1:k<=s.aq.length)(j1:j<=s.vars.length)(h:s.aq.length<=16/\s.vars.length<=64)(hk:¬k<s.aq.length)(hl:∀i:Int,0<=i->i<k->mC (s.aq.getD i.toNat lH).yK.sh=true)(hj:¬j<s.vars.length)(hv:∀i:Int,0<=i->i<j->((s.vars.getD i.toNat fp).kind=1\/(s.vars.getD i.toNat fp).kind=2)/\0<=(s.vars.getD i.toNat fp).a8/\(s.vars.getD i.toNat fp).a8<s.aq.length)
  (hi:¬i<(rB s).length) (hn:∀x:Int,0<=x->x<i->iQ ((rB s).getD x.toNat qe)=true):jb s=decide (yH (rB s)<0):=by
 have hall:∀t∈rB s,iQ t=true:=fun t ht=>by
  obtain⟨x,hx,rfl⟩:=ud ht
  have:=hn x J J
  rw[eT,eA,eD hx]at this
  simpa using this
 refine adK h hk (fun x x0 x1=> ?_) hj fun x x0 x1=> ?_
 .rw[MQ,hl x x0 x1,Yb]
  refine hall _ (dL _ (List.mem_map_of_mem (lO (fD (d:=lH) x0 J))))
 rw[LD,gW (hv x x0 x1),Yb]
 refine hall _ (bH _ (List.mem_map_of_mem (lO (fD (d:=fp) x0 J))))
theorem U8{k:Int}(h0:0<=k)(h1:k<s.aq.length):(s.aq.take (k+1).toNat).map DW.name=(s.aq.take k.toNat).map DW.name++[(s.aq.getD k.toNat lH).name]:=by
 have h2:k.toNat<s.aq.length:=J
 rw[show(k+1).toNat=k.toNat+1 by omega,xM,gU,eT,eD h2];rfl
theorem JA{k:Int}(h0:0<=k)(h1:k<s.vars.length):(s.vars.take (k+1).toNat).map vN.name=(s.vars.take k.toNat).map vN.name++[(s.vars.getD k.toNat fp).name]:=by
 have h2:k.toNat<s.vars.length:=J
 rw[show(k+1).toNat=k.toNat+1 by omega,xM,gU,eT,eD h2];rfl
end
end
end Go.Proofs.YtlhjdflgjbkpmaaGreatDoor.E
namespace Go.Proofs.YtlhjdflgjbkpmaaGreatDoor.M
section
open Go
structure dU where
 op:Int
 n:Int
 c:El
structure iR where
 var:Int
 c:El
structure lC where
 name:Tx
 at_:iR
def bG:dU:=⟨0,0,dg⟩
def ahx:iR:=⟨0,dg⟩
def nP:lC:=⟨qe,ahx⟩
end
end Go.Proofs.YtlhjdflgjbkpmaaGreatDoor.M
namespace Go.Proofs.YtlhjdflgjbkpmaaGreatDoor.E
section
open Go Go.RowKit Go.Proofs.YtlhjdflgjbkpmaaGreatDoor.M
def j9(x:dU):List Value:=I x.op::I x.n::pH x.c
theorem gO(x:dU):(j9 x).length=10:=by simp[j9,cY]
def jG(a:iR):List Value:=I a.var::pH a.c
theorem DL(a:iR):(jG a).length=9:=by simp[jG,cY]
def uw(f:lC):List Value:=S f.name::jG f.at_
theorem sJ(f:lC):(uw f).length=10:=by simp[uw,DL]
structure Bx where
 fv:Value
 fields:List lC
 tail:Int
def amC:Bx:=⟨.slice none 0 0,[],0⟩
def Sy(r:Bx):List Value:=[r.fv,I r.tail]
structure iU where
 op:Int
 a8:Int
 cv:Value
 code:List dU
 to:iR
 a:Bx
 b:Bx
 var:Int
 field:Tx
def dV:iU:=⟨0,0,.slice none 0 0,[],ahx,amC,amC,0,qe⟩
def vP(x:iU):List Value:=I x.op::I x.a8::x.cv::(jG x.to++[x.a.fv,I x.a.tail,x.b.fv,I x.b.tail,I x.var,S x.field])
theorem yN(x:iU):(vP x).length=18:=by simp[vP,DL]
structure pI where
 s:mv
 av:Value
 bf:List iU
def yO(p:pI):List Value:=[p.s.lv,p.s.vv,p.av]
structure Y4(K:Vu)(r:Bx):Prop where
 fields:pB K r.fv 10 r.fields.length (r.fields.flatMap uw)
structure JZ(K:Vu)(x:iU):Prop where
 code:pB K x.cv 10 x.code.length (x.code.flatMap j9)
 a:Y4 K x.a
 b:Y4 K x.b
structure A9(K:Vu)(p:pI):Prop where
 s:DX K p.s
 bf:pB K p.av 18 p.bf.length (p.bf.flatMap vP)
 each:∀x∈p.bf,JZ K x
theorem Y4.mono{K K':Vu}{r:Bx}(h:Y4 K r)(hl:Le K K'):Y4 K' r:=⟨h.fields.mono hl⟩
theorem JZ.mono{K K':Vu}{x:iU}(h:JZ K x)(hl:Le K K'):JZ K' x:=⟨h.code.mono hl,h.a.mono hl,h.b.mono hl⟩
theorem A9.mono{K K':Vu}{p:pI}(h:A9 K p)(hl:Le K K'):A9 K' p:=⟨h.s.mono hl,h.bf.mono hl,fun x hx=>(h.each x hx).mono hl⟩
theorem A9.at{K:Vu}{p:pI}(h:A9 K p){k:Int}(h0:0<=k)(h1:k<p.bf.length):JZ K (p.bf.getD k.toNat dV):=h.each _ (lO (fD (d:=dV) h0 h1))
theorem Sz(e:El):(pH e).take 8=pH e:=by grind[cY]
theorem DM(x:dU):((j9 x).toArray.toList.drop 2).take 8=pH x.c:=Sz x.c
theorem U9(x:iR):((jG x).toArray.toList.drop 1).take 8=pH x.c:=Sz x.c
theorem P4(x:lC):∀(j:Nat) (c:Value),(jG x.at_)[j]?=some c->(uw x)[1+j]?=some c:=by grind[lC,jG,uw]
theorem abq(x:iU):((vP x).toArray.toList.drop 3).take (jG x.to).length=jG x.to:=ve ..
theorem abr(x:iU):((vP x).toArray.toList.drop 4).take 8=pH x.to.c:=by
 show(pH x.to.c++_).take 8=_
 rw[K5 (by rw[cY];omega)];exact Sz _
theorem Vb(x:iU):(vP x).toArray.toList.drop 12=[x.a.fv,I x.a.tail,x.b.fv,I x.b.tail,I x.var,S x.field]:=by
 show(jG x.to++[x.a.fv,I x.a.tail,x.b.fv,I x.b.tail,I x.var,S x.field]).drop 9=_
 rw[show(9:Nat)=(jG x.to).length by rw[DL]];exact E0 ..
theorem arU(x:iU):((vP x).toArray.toList.drop 12).take (Sy x.a).length=Sy x.a:=by rw[Vb];rfl
theorem arV(x:iU):((vP x).toArray.toList.drop 14).take (Sy x.b).length=Sy x.b:=by
 rw[show(14:Nat)=12+2 by omega,<-Rs,Vb];rfl
theorem Gv(p:pI):((yO p).toArray.toList.drop 0).take (DY p.s).length=DY p.s:=rfl
theorem vR(x:dU):∀u∈(j9 x).toArray,u.oneCell'=true:=by
 intro u hu;simp[j9]at hu
 rcases hu with rfl|rfl|hu
 .rfl
 .rfl
 exact uS x.c u hu
theorem IG(x:iR):∀u∈(jG x).toArray,u.oneCell'=true:=by
 intro u hu;simp[jG]at hu
 rcases hu with rfl|hu
 .rfl
 exact uS x.c u hu
theorem MR(x:lC):∀u∈(uw x).toArray,u.oneCell'=true:=by
 intro u hu;simp[uw]at hu
 rcases hu with rfl|hu
 .rfl
 exact IG x.at_ u qZ
theorem Gw{K:Vu}{x:iU}(h:JZ K x):∀u∈(vP x).toArray,u.oneCell'=true:=by
 intro u hu;simp[vP]at hu
 rcases hu with rfl|rfl|rfl|hu|rfl|rfl|rfl|rfl|rfl|rfl
 .rfl
 .rfl
 .exact(l7 h.code).1
 .exact IG x.to u qZ
 .exact(l7 h.a.fields).1
 .rfl
 .exact(l7 h.b.fields).1
 .rfl
 .rfl
 rfl
section
variable{P:Program}{σ:Env}{w:World}{dst:Option Tmp}{ty t e:TypeId}{pos:String}{bO:Array Edge}{g:Option (Nat×Bool)}{x:Operand}{b o:Nat}{fr:Nat×Nat}
theorem nr{d:TypeDesc}{cs:Array Value}{el:El}(hu:P.underlying t=some d)(hd:d.isRow=true)(hi:(P.info? t).map (·.size)=some 8)(hx:ev σ x= .pointer (some ⟨b,o,none⟩))(hg:w.heap[b]?=some (.cells cs e fr))(hc:(cs.toList.drop o).take 8=pH el):
 (execOp (ev σ) ⟨dst,.load t x,ty,pos,bO,g⟩).run P w= .ok (.value (.agg (iM el))) w:=by grind[ig,ja,pH,cY]
theorem adM{α:Type}{cl:α->List Value}{sz:Nat}{v:Value}{l:List α}{k:Int}{d:TypeDesc}{dv:α}{off:Nat}{el:El}(hsz:∀a,(cl a).length=sz)(hS:Sl w v sz l.length (l.flatMap cl))(hu:P.underlying t=some d)(hd:d.isRow=true)(hi:(P.info? t).map (·.size)=some 8)
  (hx:ev σ x= .pointer (some ⟨sb v,so v+k.toNat*sz+off,none⟩)) (hk:0<=k/\k<l.length) (hc:((cl (l.getD k.toNat dv)).drop off).take 8=pH el):(execOp (ev σ) ⟨dst,.load t x,ty,pos,bO,g⟩).run P w= .ok (.value (.agg (iM el))) w:=by
 rw[ig]
 exact kZ (dv:=dv) (off:=off) (cs:=pH el) hsz hS hu hd (by rw[cY];exact hi) hx hk (ahf (by rw[cY];exact hc))
end
end
end Go.Proofs.YtlhjdflgjbkpmaaGreatDoor.E
namespace Go.Proofs.YtlhjdflgjbkpmaaGreatDoor.M
section
open Go
def xj(d:Option Int)(x:dU):Option Int:=d.bind fun k=>if x.op=1\/x.op=2 then some (k+1)else if x.op=3\/x.op=4 then(if x.n<1\/k<x.n then none else some (k-x.n+1))else none
def ju(l:List dU)(k:Int):Option Int:=(l.take k.toNat).foldl xj (some 0)
def fU(l:List dU):Bool:=decide (ju l l.length=some 1)
theorem II{α β:Type}{f:β->α->β}{b:β}{l:List α}{d:α}{k:Int}(h0:0<=k)(h1:k<l.length):(l.take (k+1).toNat).foldl f b=f ((l.take k.toNat).foldl f b) (l.getD k.toNat d):=by
 have h2:k.toNat<l.length:=J
 rw[show(k+1).toNat=k.toNat+1 by omega,xM,xN,eT,eD h2]
 rfl
theorem jc{l:List dU}{k:Int}(h0:0<=k)(h1:k<l.length):ju l (k+1)=xj (ju l k) (l.getD k.toNat bG):=II h0 h1
theorem adN(l:List dU):l.foldl xj none=none:=by
 induction l with
 |nil=>rfl
 |cons a l ih=>rw[o9];exact ih
theorem Vc{l:List dU}{k:Int}(hk:0<=k)(h:ju l k=none):ju l l.length=none:=by grind[ju,Int.toNat_natCast,List.take_length,List.take_append_drop,adN]
theorem yP(l:List dU):ju l 0=some 0:=rfl
theorem KP{l:List dU}{k d:Int}(h0:0<=k)(h1:k<=l.length)(h:ju l k=some d):0<=d/\d<=k:=by
 have key:∀n:Nat,∀d:Int,(n:Int)<=l.length->ju l n=some d->0<=d/\d<=n:=fun n=>by
  induction n with
  |zero=>intro d _ h;have e:(some (0:Int))=some d:=(yP l).symm.trans h;injection e;omega
  |succ n ih=>
   intro d hn h
   rw[show((n+1:Nat):Int)=(n:Int)+1 by omega,jc J J]at h
   cases hc:ju l n with
   |none=>rw[hc]at h;cases h
   |some q=>
    have:=ih q J hc
    rw[hc]at h
    unfold xj at h
    simp only[Rk]at h
    split at h
    .injection h;omega
    split at h
    .split at h
     .cases h
     injection h;omega
    .cases h
 have:=key k.toNat d J (by rw[show((k.toNat:Nat):Int)=k by omega];exact h)
 omega
theorem Er{l:List dU}{k d:Int}(h0:0<=k)(h1:k<l.length)(h:ju l k=some d)(hs:xj (some d) (l.getD k.toNat bG)=none):fU l=false:=
 gZ (by rw[Vc (k:=k+1) J (by rw[jc h0 h1,h,hs])];exact fun e=>by cases e)
theorem Y5{l:List dU}{k d:Int}(hk:k<=l.length)(h1:¬k<l.length)(h:ju l k=some d):fU l=decide (d=1):=by grind[fU]
theorem uT{x:dU}{d:Int}(h:x.op=1\/x.op=2):xj (some d) x=some (d+1):=by simp[xj,h]
theorem MS{x:dU}{d:Int}(h:x.op=3\/x.op=4)(h1:1<=x.n)(h2:x.n<=d):xj (some d) x=some (d-x.n+1):=by grind[xj]
theorem z6{x:dU}{d:Int}(h:x.op=3\/x.op=4)(h1:x.n<1\/d<x.n):xj (some d) x=none:=by grind[xj]
theorem SA{x:dU}{d:Int}(h:¬(x.op=1\/x.op=2))(h1:¬(x.op=3\/x.op=4)):xj (some d) x=none:=by
 simp[xj,h,h1]
def pJ(f:El->El->El):List El->El
 |[]=>dg
 |[e]=>e
 |a::b::l=>f a (pJ f (b::l))
theorem MT{f:El->El->El}{l:List El}(h:l≠[]):pJ f (l.drop (l.length-1))=l.getD (l.length-1) dg:=by
 have h2:l.length-1<l.length:=by have:=List.length_pos_iff.2 h;omega
 rw[Q8 h2,La J,eT,eD h2];rfl
theorem Y6{f:El->El->El}{l:List El}{i:Nat}(h:i+1<l.length):pJ f (l.drop i)=f (l.getD i dg) (pJ f (l.drop (i+1))):=by
 rw[Q8 (by omega:i<l.length),Q8 h,eT,eD J]
 rfl
def J0(s:Sh)(op:Int)(a b:El):El:=if op=3 then ef s a b else o4 a b
def Ba(s:Sh)(v:List El)(o:Option (List El))(x:dU):Option (List El):=o.bind fun st=>
 if x.op=1 then(if 0<=x.n/\x.n<v.length then some (st++[v.getD x.n.toNat dg])else none)
 else if x.op=2 then some (st++[x.c])
 else some (st.take (st.length-x.n.toNat)++[pJ (J0 s x.op) (st.drop (st.length-x.n.toNat))])
def ij(s:Sh)(v:List El)(l:List dU)(k:Int):Option (List El):=(l.take k.toNat).foldl (Ba s v) (some [])
def ey(s:Sh)(l:List dU)(v:List El):El×Bool:=if fU l then(match ij s v l l.length with|some st=>(st.getD 0 dg,true)|none=>(dg,false))else(dg,false)
theorem z7{s:Sh}{v:List El}{l:List dU}{k:Int}(h0:0<=k)(h1:k<l.length):ij s v l (k+1)=Ba s v (ij s v l k) (l.getD k.toNat bG):=II h0 h1
theorem Y7(s:Sh)(v:List El)(l:List dU):l.foldl (Ba s v) none=none:=by
 induction l with
 |nil=>rfl
 |cons a l ih=>rw[o9];exact ih
theorem adO{s:Sh}{v:List El}{l:List dU}{k:Int}(h:ij s v l k=none):ij s v l l.length=none:=by grind[ij,Int.toNat_natCast,List.take_length,List.take_append_drop,Y7]
theorem Y8{l:List dU}(h:fU l=true){k:Int}(hk:0<=k):∃d,ju l k=some d:=by
 cases hc:ju l k with
 |some d=>exact⟨d,rfl⟩
 |none=>rw[fU,Vc hk hc]at h;simp at h
theorem abt{l:List dU}(h:fU l=true){k d:Int}(h0:0<=k)(h1:k<l.length)(hd:ju l k=some d):
  ((l.getD k.toNat bG).op=1\/(l.getD k.toNat bG).op=2)/\ju l (k+1)=some (d+1)\/(((l.getD k.toNat bG).op=3\/(l.getD k.toNat bG).op=4)/\1<=(l.getD k.toNat bG).n/\(l.getD k.toNat bG).n<=d)/\ju l (k+1)=some (d-(l.getD k.toNat bG).n+1):=by
 obtain⟨q,hq⟩:=Y8 h (k:=k+1) J
 have hn:=jc h0 h1
 rw[hd,hq]at hn
 by_cases c:(l.getD k.toNat bG).op=1\/(l.getD k.toNat bG).op=2
 .left;exact⟨c,by rw[hq,hn,uT c]⟩
 by_cases c2:(l.getD k.toNat bG).op=3\/(l.getD k.toNat bG).op=4
 .by_cases c3:(l.getD k.toNat bG).n<1\/d<(l.getD k.toNat bG).n
  .rw[z6 c2 c3]at hn;cases hn
  right;exact⟨⟨c2,J,J⟩,by rw[hq,hn,MS c2 J J]⟩
 rw[SA c c2]at hn;cases hn
theorem apg{s:Sh}{l:List dU}{v:List El}(h:fU l=false):ey s l v=(dg,false):=by rw[ey,h];rfl
theorem KQ{s:Sh}{l:List dU}{v st:List El}{k:Int}(h0:0<=k)(h1:k<l.length)(hs:ij s v l k=some st)(ho:(l.getD k.toNat bG).op=1)(hv:(l.getD k.toNat bG).n<0\/v.length<=(l.getD k.toNat bG).n):ey s l v=(dg,false):=by
 have e:ij s v l (k+1)=none:=by
  have h3:¬(0<=(l.getD k.toNat bG).n/\(l.getD k.toNat bG).n<v.length):=J
  rw[z7 h0 h1,hs];generalize l.getD k.toNat bG=x at*;simp[Ba,ho,h3]
 rw[ey,adO e];cases fU l<;>rfl
theorem MU{s:Sh}{l:List dU}{v st:List El}{k:Int}(hr:fU l=true)(hk:k<=l.length)(h1:¬k<l.length)(hs:ij s v l k=some st):ey s l v=(st.getD 0 dg,true):=by grind[ey]
theorem ahy{s:Sh}{l:List dU}{v st:List El}{k:Int}(h0:0<=k)(h1:k<l.length)(hs:ij s v l k=some st)(ho:(l.getD k.toNat bG).op=1)(hv:0<=(l.getD k.toNat bG).n/\(l.getD k.toNat bG).n<v.length):ij s v l (k+1)=some (st++[v.getD (l.getD k.toNat bG).n.toNat dg]):=by grind[z7,bG,Ba]
theorem amD{s:Sh}{l:List dU}{v st:List El}{k:Int}(h0:0<=k)(h1:k<l.length)(hs:ij s v l k=some st)(ho:(l.getD k.toNat bG).op=2):ij s v l (k+1)=some (st++[(l.getD k.toNat bG).c]):=by grind[z7,bG,Ba]
theorem arW{s:Sh}{l:List dU}{v st:List El}{k:Int}(h0:0<=k)(h1:k<l.length)(hs:ij s v l k=some st)(h2:¬(l.getD k.toNat bG).op=1)(h3:¬(l.getD k.toNat bG).op=2):ij s v l (k+1)=some (st.take (st.length-(l.getD k.toNat bG).n.toNat)++[pJ (J0 s (l.getD k.toNat bG).op) (st.drop (st.length-(l.getD k.toNat bG).n.toNat))]):=by grind[z7,bG,Ba]
theorem Bb{s:Sh}{l:List dU}{v st:List El}{k q:Int}(h0:0<=k)(h1:k<l.length)(hs:ij s v l k=some st)(h2:¬(l.getD k.toNat bG).op=1)(h3:¬(l.getD k.toNat bG).op=2)(hq:q=(st.length:Int)-(l.getD k.toNat bG).n)(hn:0<=(l.getD k.toNat bG).n):
  ij s v l (k+1)=some (st.take q.toNat++[pJ (J0 s (l.getD k.toNat bG).op) (st.drop q.toNat)]):=by
 rw[arW h0 h1 hs h2 h3,show st.length-(l.getD k.toNat bG).n.toNat=q.toNat by omega]
theorem KR{f:El->El->El}{l:List El}{k:Int}(h0:0<=k)(h1:k+1<l.length):pJ f (l.drop k.toNat)=f (l.getD k.toNat dg) (pJ f (l.drop (k+1).toNat)):=by grind[Y6]
theorem aph{s:Sh}{op:Int}{a b:El}(h:op=3):ef s a b=J0 s op a b:=by rw[J0,aX h]
theorem api{s:Sh}{op:Int}{a b:El}(h:¬op=3):o4 a b=J0 s op a b:=by rw[J0,aT h]
theorem fQ{l:List dU}(h:fU l=true){k d:Int}(h0:0<=k)(h1:k<l.length)(hd:ju l k=some d)(h2:¬(l.getD k.toNat bG).op=1)(h3:¬(l.getD k.toNat bG).op=2):
  1<=(l.getD k.toNat bG).n/\(l.getD k.toNat bG).n<=d/\ju l (k+1)=some (d-(l.getD k.toNat bG).n+1):=by
 rcases abt h h0 h1 hd with⟨ho,_⟩|⟨⟨_,a,b⟩,c⟩
 .omega
 exact⟨a,b,c⟩
theorem Ub{l:List dU}(h:fU l=true){k d:Int}(hk:k<=l.length)(h1:¬k<l.length)(hd:ju l k=some d):d=1:=by grind[Y5]
end
end Go.Proofs.YtlhjdflgjbkpmaaGreatDoor.M
namespace Go.Proofs.YtlhjdflgjbkpmaaGreatDoor.E
section
open Go Go.RowKit Go.Proofs.YtlhjdflgjbkpmaaGreatDoor.M
def q9(s:mv)(v kd a8:Int):Bool:=decide (0<=v/\v<s.vars.length)&&decide ((s.vars.getD v.toNat fp).kind=kd)&&decide ((s.vars.getD v.toNat fp).a8=a8)
def iv(s:mv)(a8:Int):Sh:=(s.aq.getD a8.toNat lH).yK.sh
def mc(s:mv)(a8:Int)(a:iR):Bool:=if a.var<0 then cJ (iv s a8) a.c else q9 s a.var 1 a8
def rC(s:mv)(a8:Int)(f:lC):Bool:=iQ f.name&&mc s a8 f.at_
def SB(r:Bx):List Tx:=r.fields.map lC.name
def vS(s:mv)(a8:Int)(r:Bx):Bool:=decide (r.fields.length<=16)&&(decide (r.tail<0)||q9 s r.tail 2 a8)&&r.fields.all (rC s a8)&&decide (yH (SB r)<0)
def vV(s:mv)(a8:Int)(x:dU):Bool:=(!decide (x.op=1)||q9 s x.n 1 a8)&&(!decide (x.op=2)||cJ (iv s a8) x.c)
def codeOk(s:mv)(a8:Int)(l:List dU):Bool:=l.all (vV s a8)&&fU l
def kM(s:mv)(a:iU):Bool:=
 if a.op=10 then q9 s a.var 2 a.a8&&iQ a.field
 else if 0<=a.a8/\a.a8<s.aq.length then(if a.op=9 then vS s a.a8 a.a&&vS s a.a8 a.b else if a.op=8 then codeOk s a.a8 a.code&&mc s a.a8 a.to else false)
 else false
def mK(p:pI):Bool:=jb p.s&&decide (p.bf.length<=64)&&p.bf.all (kM p.s)
section
variable{s:mv}{v kd a8:Int}{a:iU}{r:Bx}{l:List dU}{k:Int}
theorem Vd(h:¬(0<=v/\v<s.vars.length)):q9 s v kd a8=false:=by grind[q9]
theorem ahz(h:¬(s.vars.getD v.toNat fp).kind=kd):q9 s v kd a8=false:=by grind[q9]
theorem ahA(h:0<=v/\v<s.vars.length)(h2:(s.vars.getD v.toNat fp).kind=kd):q9 s v kd a8=decide ((s.vars.getD v.toNat fp).a8=a8):=by grind[q9]
theorem atom_1{x:iR}(h:x.var<0):mc s a8 x=cJ (iv s a8) x.c:=aX h
theorem arX{x:iR}(h:¬x.var<0):mc s a8 x=q9 s x.var 1 a8:=aT h
theorem amE(h:¬r.fields.length<=16):vS s a8 r=false:=by grind[vS]
theorem amF(h1:¬r.tail<0)(h:q9 s r.tail 2 a8=false):vS s a8 r=false:=by grind[vS]
theorem KS(h0:0<=k)(h1:k<r.fields.length)(h:rC s a8 (r.fields.getD k.toNat nP)=false):vS s a8 r=false:=by grind[vS,MI]
theorem abu(h:r.fields.length<=16)(h1:r.tail<0\/q9 s r.tail 2 a8=true)(hk:¬k<r.fields.length)(hg:∀j:Int,0<=j->j<k->rC s a8 (r.fields.getD j.toNat nP)=true):vS s a8 r=decide (yH (SB r)<0):=by
 rw[vS,gW h,Gt hk hg]
 rcases h1 with h1|h1
 .rw[gW h1];rfl
 rw[h1];simp
theorem P5{f:lC}(h:iQ f.name=false):rC s a8 f=false:=by rw[rC,h];rfl
theorem P6{f:lC}(h:mc s a8 f.at_=false):rC s a8 f=false:=by grind[rC]
theorem P7{f:lC}(h:iQ f.name=true)(h2:mc s a8 f.at_=true):rC s a8 f=true:=by rw[rC,h,h2];rfl
theorem JC(h0:0<=k)(h1:k<r.fields.length):(r.fields.take (k+1).toNat).map lC.name=(r.fields.take k.toNat).map lC.name++[(r.fields.getD k.toNat nP).name]:=by
 have h2:k.toNat<r.fields.length:=J
 rw[show(k+1).toNat=k.toNat+1 by omega,xM,gU,eT,eD h2];rfl
theorem Ve{m:List Tx}{x:Tx}{k:Int}(h:(m.length:Int)=k):(Jy m++[S x])[k.toNat*1]?=some (S x):=by grind
theorem amG{x:dU}(h:x.op=1)(h2:q9 s x.n 1 a8=false):vV s a8 x=false:=by grind[vV]
theorem abv{x:dU}(h:x.op=2)(h2:cJ (iv s a8) x.c=false):vV s a8 x=false:=by grind[vV]
theorem KT{x:dU}(h:¬x.op=1\/q9 s x.n 1 a8=true)(h2:¬x.op=2\/cJ (iv s a8) x.c=true):vV s a8 x=true:=by grind[vV]
theorem MV(h0:0<=k)(h1:k<l.length)(h:vV s a8 (l.getD k.toNat bG)=false):codeOk s a8 l=false:=by grind[codeOk,MI]
theorem ahB(h:fU l=false):codeOk s a8 l=false:=by grind[codeOk]
theorem ahC(hk:¬k<l.length)(hg:∀j:Int,0<=j->j<k->vV s a8 (l.getD j.toNat bG)=true):codeOk s a8 l=fU l:=by rw[codeOk,Gt hk hg];rfl
theorem adP(hk:¬k<l.length)(hg:∀j:Int,0<=j->j<k->vV s a8 (l.getD j.toNat bG)=true)(h:fU l=true):codeOk s a8 l=true:=by rw[ahC hk hg,h]
theorem ahD(h:a.op=10):kM s a=(q9 s a.var 2 a.a8&&iQ a.field):=aX h
theorem ahE(h:¬a.op=10)(h2:¬(0<=a.a8/\a.a8<s.aq.length)):kM s a=false:=by grind[kM]
theorem apj(h:a.op=9)(h2:0<=a.a8/\a.a8<s.aq.length):kM s a=(vS s a.a8 a.a&&vS s a.a8 a.b):=by grind[kM]
theorem P8(h:a.op=8)(h2:0<=a.a8/\a.a8<s.aq.length):kM s a=(codeOk s a.a8 a.code&&mc s a.a8 a.to):=by grind[kM]
theorem awR(h:¬a.op=10)(h1:¬a.op=9)(h2:¬a.op=8):kM s a=false:=by grind[kM]
end
section
variable{p:pI}{k:Int}
theorem ahF(h:jb p.s=false):mK p=false:=by rw[mK,h];rfl
theorem ahG(h:¬p.bf.length<=64):mK p=false:=by grind[mK]
theorem ahH(h0:0<=k)(h1:k<p.bf.length)(h:kM p.s (p.bf.getD k.toNat dV)=false):mK p=false:=by grind[mK,MI]
theorem ahI(h:jb p.s=true)(h2:p.bf.length<=64)(hk:¬k<p.bf.length)(hg:∀j:Int,0<=j->j<k->kM p.s (p.bf.getD j.toNat dV)=true):mK p=true:=by rw[mK,h,gW h2,Gt hk hg];rfl
end
def abw(a:As)(t:iR):El×Bool:=if t.var<0 then(t.c,true)else if t.var<a.labels.length then(a.labels.getD t.var.toNat dg,true)else(dg,false)
def aDD(a:As)(f:lC):jK:=⟨f.name,(abw a f.at_).1⟩
def apk(a:As)(t:Bx):List jK:=if 0<=t.tail then a.rows.getD t.tail.toNat []else[]
def awS(a:As)(t:Bx):List jK:=apk a t++t.fields.map (aDD a)
def awT(a:As)(t:Bx):Bool:=decide (t.tail<a.rows.length)&&t.fields.all fun f=>(abw a f.at_).2
def arY(l:List jK):List Tx:=l.map jK.name
def aDE(l:List jK):List jK:=l.foldl (fun m v=>apb m v.name v.el) []
def apl(l:List jK):Bool:=decide (arY l).Nodup
def J1(a:As)(t:Bx):List jK×Bool:=if(awT a t&&apl (awS a t))=true then(aDE (awS a t),true)else([],false)
def abx(out:List Tx)(x:Tx):Int:=tj (fun k=> !U7 (out.getD k.toNat qe) x) out.length
def aDF(out:List Tx)(x:Tx):List Tx:=if abx out x<0 then out++[x]else if out.getD (abx out x).toNat qe=x then out else out.take (abx out x).toNat++x::out.drop (abx out x).toNat
def aJy(l:List Tx):List Tx:=l.foldl aDF []
def JD(kv:List (Tx×El))(f:Tx):El×Bool:=match kv.find? (fun p=>decide (p.1=f))with
 |none=>(dg,false)
 |some p=>(p.2,true)
def aMS(kv:List (Tx×El))(f:Tx)(e:El):List (Tx×El):=if(JD kv f).2 then kv.map fun p=>if p.1=f then(f,e)else p else kv++[(f,e)]
def amH(s:mv)(a:As)(x:iU):Bool:=
 if x.op=10 then(if 0<=x.var/\x.var<a.rows.length then !(adH (a.rows.getD x.var.toNat []) x.field).2 else false)
 else if x.op=9 then(J1 a x.a).2&&(J1 a x.b).2&&apc (J1 a x.a).1 (J1 a x.b).1
 else if x.op=8/\0<=x.a8/\x.a8<s.aq.length then(ey (iv s x.a8) x.code a.labels).2&&(abw a x.to).2&&cS (ey (iv s x.a8) x.code a.labels).1 (abw a x.to).1
 else false
def Y9(s:mv)(a:As)(l:List iU):Int:=tj (fun i=> !amH s a (l.getD i.toNat dV)) l.length
def aMT(s:mv)(a:As)(l:List iU):Bool:=Sw s.sc a&&decide (Y9 s a l<0)
section
variable{s:mv}{a:As}{x:iU}{l:List iU}
end
section
variable{s:mv}{a m:As}{a8:Int}{l:List dU}
theorem ahJ{sh:Sh}{op:Int}{a b:El}(fa:cJ sh a=true)(fb:cJ sh b=true):cJ sh (J0 sh op a b)=true:=by grind[J0,ID,arB]
theorem z8{sh:Sh}{op:Int}{l:List El}(h:l≠[])(hf:∀e∈l,cJ sh e=true):cJ sh (pJ (J0 sh op) l)=true:=by
 induction l with
 |nil=>exact absurd O h
 |cons e l ih=>
  cases l with
  |nil=>exact hf e aJ
  |cons b l=>
   have:=ih aJ fun x hx=>hf x (fX _ hx)
   show cJ sh (J0 sh op e (pJ (J0 sh op) (b::l)))=true
   exact ahJ (hf e aJ) this
theorem meet_mono{a b c d:El}(h:cS a b=true)(h2:cS c d=true):cS (o4 a c) (o4 b d)=true:=by grind[awp,MO,arC]
theorem join_mono{sh:Sh}{a b c d:El}(fa:cJ sh a=true)(fb:cJ sh b=true)(fc:cJ sh c=true)(fd:cJ sh d=true)(h:cS a b=true)(h2:cS c d=true):cS (ef sh a c) (ef sh b d)=true:=by grind[abf,ID,MO,YQ]
theorem ahK{sh:Sh}{op:Int}{a b c d:El}(fa:cJ sh a=true)(fb:cJ sh b=true)(fc:cJ sh c=true)(fd:cJ sh d=true)(h:cS a b=true)(h2:cS c d=true):cS (J0 sh op a c) (J0 sh op b d)=true:=by grind[J0,join_mono,meet_mono]
def uU:List El->List El->Prop
 |[],[]=>True
 |a::l,b::m=>cS a b=true/\uU l m
 |_,_=>False
theorem uU.len:∀{l m:List El},uU l m->l.length=m.length
 |[],[],_=>rfl
 |_::_,_::_,h=>by simp[uU.len h.2]
 |[],_::_,h=>h.elim
 |_::_,[],h=>h.elim
theorem uU.app:∀{l m l' m':List El},uU l m->uU l' m'->uU (l++l') (m++m')
 |[],[],_,_,_,h=>h
 |_::_,_::_,_,_,h,h'=>⟨h.1,uU.app h.2 h'⟩
 |[],_::_,_,_,h,_=>h.elim
 |_::_,[],_,_,h,_=>h.elim
theorem uU.take:∀{l m:List El} (n:Nat),uU l m->uU (l.take n) (m.take n)
 |[],[],n,_=>by simp[uU]
 |_::_,_::_,0,h=>by simp[uU]
 |_::_,_::_,n+1,h=>⟨h.1,uU.take n h.2⟩
 |[],_::_,_,h=>h.elim
 |_::_,[],_,h=>h.elim
theorem uU.drop:∀{l m:List El} (n:Nat),uU l m->uU (l.drop n) (m.drop n)
 |[],[],n,_=>by simp[uU]
 |_::_,_::_,0,h=>h
 |_::_,_::_,n+1,h=>uU.drop n h.2
 |[],_::_,_,h=>h.elim
 |_::_,[],_,h=>h.elim
theorem uU.oN:∀{l m:List El},uU l m->cS (l.getD 0 dg) (m.getD 0 dg)=true
 |[],[],_=>j8 _
 |_::_,_::_,h=>h.1
 |[],_::_,h=>h.elim
 |_::_,[],h=>h.elim
theorem MW{sh:Sh}{op:Int}:∀{l m:List El},uU l m->(∀e∈l,cJ sh e=true)->(∀e∈m,cJ sh e=true)->cS (pJ (J0 sh op) l) (pJ (J0 sh op) m)=true
 |[],[],_,_,_=>j8 _
 |[a],[b],h,_,_=>h.1
 |a::a'::l,b::b'::m,h,hf,hg=>by
  have ih:=MW (sh:=sh) (op:=op) (l:=a'::l) (m:=b'::m) h.2 (fun x hx=>hf x (fX _ hx)) (fun x hx=>hg x (fX _ hx))
  have f1:=z8 (sh:=sh) (op:=op) (l:=a'::l) aJ fun x hx=>hf x (fX _ hx)
  have f2:=z8 (sh:=sh) (op:=op) (l:=b'::m) aJ fun x hx=>hg x (fX _ hx)
  exact ahK (hf a aJ) (hg b aJ) f1 f2 h.1 ih
 |[],_::_,h,_,_=>h.elim
 |_::_,[],h,_,_=>h.elim
 |[_],_::_::_,h,_,_=>h.2.elim
 |_::_::_,[_],h,_,_=>h.2.elim
end
section
variable{s:mv}{a b:As}{a8:Int}{T U:Bx}
theorem ahL{a b:El}(h:rS a b):rS b a:=fun i hi=>(h i hi).symm
end
def tF:Value->Nat->Value
 | .slice a _ _,n=> .slice a n n
 |v,_=>v
theorem Sl.tF{w:World}{v:Value}{sz m n:Nat}{cells:List Value}(h:Sl w v sz m cells)(hn:n<=m):Sl w (tF v n) sz n (cells.take (n*sz)):=by
 obtain⟨a,cap,rfl,hc,ha⟩:=h.shape
 refine⟨⟨a,n,rfl,eU _,fun hp=> ?_⟩,?_,fun j c hj=> ?_,kX hn h.small⟩
 .have:=ha J
  cases a with
  |none=>cases this
  |some a=>exact this
 .rw[er,h.len];exact r7 (s4 _ hn)
 have hlt:j<n*sz:=by
  have:=(nX.1 hj).1
  rw[er]at this;omega
 rw[qS,aX hlt]at hj
 have:=h.cell j c hj
 cases a<;>exact this
theorem MX{w:World}{v:Value}{sz m n:Nat}{cells:List Value}(h:Sl w v sz m cells):∃a,E.tF v n= .slice a n n:=by
 obtain⟨a,cap,rfl,_,_⟩:=h.shape
 exact⟨a,rfl⟩
theorem set_perm{α:Type}{x:α}:∀{l:List α} {i:Nat},i<l.length->(l.set i x).Perm (x::l.eraseIdx i)
 |a::l,0,_=>Rt _
 |a::l,i+1,h=>(List.Perm.cons a (set_perm (l:=l) (i:=i) xZ)).trans (List.Perm.swap _ _ _)
 |[],_,h=>absurd h aJ
theorem Hp.swap{w0 w:World}{L:List bu}{x:bu}{i:Nat}(h:Hp w0 w (x::L))(hi:i<L.length):Hp w0 w (L.set i x):=
 (h.sub (List.Sublist.cons_cons _ (List.eraseIdx_sublist _ _))).perm (set_perm hi).symm
section
variable{P:Program}{n:Nat}{ops:Array Oper}{k:K}{rest:List Oper}{σ:Env}{w0 w:World}{L L' Xh:List bu}{ty:TypeId}{pos:String}{bO:Array Edge}{d:Nat}{x y:Operand}{dst:Option Tmp}{g:Option (Nat×Bool)}
theorem vX{t e:TypeId}{lo hi:Operand}{v:Value}{sz m:Nat}{q:Int}{cells:List Value}(hS:Sl w v sz m cells)(hu:P.underlying t=some (.slice e))(hs:∀w,(sizeOf e).run P w= .ok sz w)(hx:ev σ x=v)(hlo:ev σ lo=I q)(hhi:ev σ hi=I q)(h:0<=q/\q<=m):
  (execOp (ev σ) ⟨dst,.slice t x none (some lo) (some hi),ty,pos,bO,g⟩).run P w= .ok (.value (tF v q.toNat)) w:=by
 obtain⟨a,cap,rfl,hcap,ha⟩:=hS.shape
 have h1:0<=q/\q<=(cap:Int):=J
 have h2:0<=q/\q<=((q.toNat:Nat):Int):=J
 have h3:(Instr.slice t (.slice a m cap) none (some (I q)) (some (I q))).run P w= .ok (.slice a q.toNat q.toNat) w:=by
  have e0:Option.map (fun x:Addr=>x.add 0) a=a:=by cases a<;>simp[Addr.add]
  have h5:q<=max q 0:=J
  simp[Instr.slice,Instr.sliceBounds,Instr.sliceBound,kf hu,asIntOf,h1,h2,hs,e0,h5]
 have h4:(Instr.sliceAt t (.slice a m cap) none (some (I q)) (some (I q))).run P w= .ok (.slice a q.toNat q.toNat) w:=by
  simp[Instr.sliceAt,kf hu,h3]
 simp[execOp,hx,hlo,hhi,h4,tF]
theorem MY{base:Nat}{t ty e:TypeId}{i:TypeInfo}{z:Value}{size bytes:Nat}(ht:P.underlying t=some (.slice e))(hi:P.info? e=some i)(hz:i.zero=some z)
  (hsize:i.size=size) (hby:i.bytes=bytes) (hzs:z.cells.size=size) {v:Value} {n:Nat} {xs:List Value} (hv:∃a,v= .slice a n n) (hX:Sl w v size n xs) {y:Value} {m:Nat} {news:List Value} (hS:Sl w y size m news)
  (hm:0<m) (h63:n+m<=maxLen) (hbytes:(n+m)*bytes<=140737488355328):
  ∃v' w',(Builtin.append_ #[t,t] ty #[v,y]).run P w= .ok v' w'/\w'.ownsRow w.heap.size e size v' (n+m) (xs++news)/\Below w.heap.size w w':=by
 subst hsize
 subst hby
 obtain⟨a,rfl⟩:=hv
 obtain⟨b,c,hy,hmc,hb⟩:=hS.shape
 have hb':=hb hm
 have hyy:y= .slice (some ⟨sb y,so y,none⟩) m c:=by rw[<-hb'];exact hy
 have hnews:∀j u,news[j]?=some u->w.cell? ((⟨sb y,so y,none⟩:Addr).add j)=some u:=fun j u hu=>by rw[HJ];exact hS.cell j u hu
 have hlen:(xs++news).length=(n+m)*i.size:=by rw[dZ,hX.len,hS.len,lm]
 have hsmall:n+m<=9223372036854775807:=by simp only[maxLen]at h63;omega
 have grown:∀(old:Nat),old<n+m->
   (w.drew.alloc (.cells (xs.toArray++news.toArray++Builtin.zeroCells z.cells (grownCap w (n+m) old e-(n+m))) e)).ownsRow w.heap.size e i.size
    (.slice (some ⟨w.heap.size,0,none⟩) (n+m) (grownCap w (n+m) old e)) (n+m) (xs++news)/\
   Below w.heap.size w (w.drew.alloc (.cells (xs.toArray++news.toArray++Builtin.zeroCells z.cells (grownCap w (n+m) old e-(n+m))) e)):=by
  intro old ho
  have hge:=grownCap_ge w (n+m) old e
  have hcm:grownCap w (n+m) old e<=maxLen:=grownCap_le_maxLen w (n+m) old e h63
  refine⟨⟨hlen,.inr ⟨w.heap.size,_,_,rfl,eU _,heap_alloc_new w.drew _,hge,hcm,?_,?_⟩⟩,⟨rfl,rfl,rfl,aJ,fun k hk=>heap_alloc_old w.drew _ hk⟩⟩
  .simp only[Array.size_append,vb,size_zeroCells,hzs,hX.len,hS.len,<-lm]
   congr 1
   omega
  simp only[Array.toList_append,dG]
  rw[<-dG,<-hlen]
  exact ve
 rw[hyy]
 cases a with
 |none=>
  have hn:n=0:=by
   rcases Ri n with h|h
   .exact h
   obtain⟨a',c',e1,_,h2⟩:=hX.shape
   injection e1 with e1
   rw[<-e1]at h2;cases h2 h
  subst hn
  have hx:xs=[]:=F6 (by simpa using hX.len)
  subst hx
  have hr:=run_append_nil (P:=P) w t ty e i z ht hi hz ⟨sb y,so y,none⟩ m c news hS.len hnews J J afP
  have hgr:=grown 0 J
  simp only[gN,eN,Array.empty_append]at hgr⊢
  exact⟨_,_,hr,hgr.1,hgr.2⟩
 |some a=>
  have holds:∀j u,xs[j]?=some u->w.cell? (a.add j)=some u:=fun j u hu=>by
   have hj:j<n*i.size:=by have:=(nX.1 hu).1;rw[hX.len]at this;exact this
   have hn:0<n:=by
    rcases Ri n with h|h
    .subst h;simp at hj
    exact h
   obtain⟨a',c',e1,_,h2⟩:=hX.shape
   injection e1 with e1
   have h3:=h2 hn
   rw[<-e1]at h3
   have h4:a=⟨sb (.slice (some a) n n),so (.slice (some a) n n),none⟩:=by injection h3
   rw[h4,HJ];exact hX.cell j u hu
  have hr:=run_append_grow (P:=P) w t ty e i z ht hi hz a n n xs hX.len holds ⟨sb y,so y,none⟩ m c news hS.len hnews J J (growslice_fits J hbytes)
  have hgr:=grown n J
  exact⟨_,_,hr,hgr.1,hgr.2⟩
theorem aDG{t e:TypeId}{i:Nat}{ie:TypeInfo}{z:Value}{size bytes:Nat}{v u:Value}{m m' q:Nat}{xs news:List Value}(hd:Nat.blt d n=true)(hH:Hp w0 w L)(hL:L[i]?=some (.row v e size m xs))(hq:q<=m)(hS:Sl w u size m' news)
  (hx:ev σ x=tF v q) (hy:ev σ y=u) (ht:P.underlying t=some (.slice e)) (hi:P.info? e=some ie) (hz:ie.zero=some z)
  (hsize:ie.size=size) (hby:ie.bytes=bytes) (hzs:z.cells.size=size) (hm:0<m')
  (hbytes:(q+m')*bytes<=140737488355328) (h63:q+m'<=maxLen)
  (hk:∀v' w',Hp w0 w' (L.set i (.row v' e size (q+m') (xs.take (q*size)++news)))->RL P n ops k rest (lX σ d v') w'):
  RL P n ops k (⟨some d,.call {callee:= .builtin .append,args:=#[x,y],argTypes:=#[t,t]},ty,pos,bO,none⟩::rest) σ w:=by
 have hX:=hH.sl hL
 obtain⟨v',w',hr,h2,h3⟩:=MY (P:=P) (base:=0) (ty:=ty) ht hi hz hsize hby hzs (MX hX) (hX.tF hq) hS hm h63 hbytes
 exact pn hd (sZ hx hy hr) (hk v' w' ((hH.Dy h3 h2).swap (nX.1 hL).1))
variable{l:List Oper}{fuel i:Nat}{listed:Array Bool}
theorem SC{t e:TypeId}{j:Nat}{ie:TypeInfo}{z:Value}{size bytes:Nat}{v u:Value}{m m' q:Nat}{xs news:List Value}(hi:l[i]?=some ⟨some d,.call {callee:= .builtin .append,args:=#[x,y],argTypes:=#[t,t]},ty,pos,bO,g⟩)
  (hg:∀a,Is n σ a->Region.wanted ⟨some d,.call {callee:= .builtin .append,args:=#[x,y],argTypes:=#[t,t]},ty,pos,bO,g⟩ (yielded l.toArray a.tmps)=true) (hd:Nat.blt d n=true) (hH:Hp w0 w Xh) (hL:Xh[j]?=some (.row v e size m xs)) (hq:q<=m)
  (hs:∀v',L'.Sublist (Xh.set j (.row v' e size (q+m') (xs.take (q*size)++news)))) (hS:Sl w u size m' news)
  (hx:ev σ x=tF v q) (hy:ev σ y=u) (ht:P.underlying t=some (.slice e)) (hie:P.info? e=some ie) (hz:ie.zero=some z)
  (hsize:ie.size=size) (hby:ie.bytes=bytes) (hzs:z.cells.size=size) (hm:0<m')
  (hbytes:(q+m')*bytes<=140737488355328) (h63:q+m'<=maxLen)
  (hk:∀v' w',Hp w0 w' (Xh.set j (.row v' e size (q+m') (xs.take (q*size)++news)))->AN P n l (fun w=>Hp w0 w L') k fuel (listed.setIfInBounds i true) (lX σ d v') w'):AO P n l (fun w=>Hp w0 w L') k fuel listed σ w i:=by
 have hX:=hH.sl hL
 obtain⟨v',w',hr,h2,h3⟩:=MY (P:=P) (base:=0) (ty:=ty) ht hie hz hsize hby hzs (MX hX) (hX.tF hq) hS hm h63 hbytes
 have hH':=(hH.Dy h3 h2).swap (i:=j) (nX.1 hL).1
 exact Cr hi hg hd (sZ hx hy hr) (hH'.sub (hs v')) (hk v' w' hH')
end
section
variable{P:Program}{n:Nat}{ops:Array Oper}{k:K}{rest l:List Oper}{σ:Env}{w0 w:World}{L:List bu}{op:Op}{ty t e et:TypeId}{pos:String}{bO:Array Edge}{d:Nat}{x y:Operand}{g:Option (Nat×Bool)}{v u:Value}{sz m i o:Nat}{xs:List Value}{dst:Option Tmp}
theorem Gx(hH:Hp w0 w L)(hi:L[i]?=some (.row v e sz m xs))(hm:0<m)(hx:ev σ x= .pointer (some ⟨sb v,so v+o,none⟩))(hy:ev σ y=u)(hv:u.cells=#[u])(h1:u.oneCell'=true)(hs:(P.info? t).map (·.size)=some 1)(ho:o+1<=m*sz):
  ∃w',(execOp (ev σ) ⟨dst,.store t x y,ty,pos,bO,g⟩).run P w= .ok .skip w'/\Hp w0 w' (L.set i (.row v e sz m (qK xs o [u]))):=by
 obtain⟨gb,cap,rfl,hnc,cur,hg,hc,ht,hk⟩:=hH.KO hi hm
 have hcm:m*sz<=cap*sz:=s4 _ hnc
 have hx':ev σ x= .pointer (some ⟨gb,o,none⟩):=by rw[hx];simp only[sb,so,gN]
 have hr:=bL (P:=P) (dst:=dst) (ty:=ty) (pos:=pos) (bO:=bO) (g:=g) hs hx' hy hv h1 hg J
 have e1:(cur.setIfInBounds o u).toList=cur.toList.take o++[u]++cur.toList.drop (o+1):=by
  simp[Xv,show o<cur.size by omega]
 have h2:=hk (cur.setIfInBounds o u) aJ
 rw[e1,show cur.toList.take o++[u]++cur.toList.drop (o+1)=cur.toList.take o++[u]++cur.toList.drop (o+[u].length)from O,Gu (by simpa using ho) RY,ht]at h2
 exact⟨_,hr,h2⟩
theorem Aa(hH:Hp w0 w L)(hi:L[i]?=some (.row v e sz m xs))(hm:0<m)(hx:ev σ x= .pointer (some ⟨sb v,so v+o,none⟩))(hy:ev σ y=u)(hv:u.cells=#[u])(h1:u.oneCell'=true)(hs:(P.info? t).map (·.size)=some 1)(ho:o+1<=m*sz)
  (hk:∀w',Hp w0 w' (L.set i (.row v e sz m (qK xs o [u])))->RL P n ops k rest σ w'):RL P n ops k (⟨none,.store t x y,ty,pos,bO,none⟩::rest) σ w:=by
 obtain⟨w',hr,h2⟩:=Gx (dst:=none) (ty:=ty) (pos:=pos) (bO:=bO) (g:=none) hH hi hm hx hy hv h1 hs ho
 exact H7 hr (hk w' h2)
variable{fuel j:Nat}{listed:Array Bool}{L':List bu}
theorem arZ(hj:l[j]?=some ⟨none,.store t x y,ty,pos,bO,g⟩)(hg:∀a,Is n σ a->Region.wanted ⟨none,.store t x y,ty,pos,bO,g⟩ (yielded l.toArray a.tmps)=true)(hH:Hp w0 w L)(hi:L[i]?=some (.row v e sz m xs))(hsub:∀ys,L'.Sublist (L.set i (.row v e sz m ys)))(hm:0<m)
  (hx:ev σ x= .pointer (some ⟨sb v,so v+o,none⟩)) (hy:ev σ y=u) (hv:u.cells=#[u]) (h1:u.oneCell'=true) (hs:(P.info? t).map (·.size)=some 1) (ho:o+1<=m*sz)
  (hk:∀w',Hp w0 w' (L.set i (.row v e sz m (qK xs o [u])))->AN P n l (fun w=>Hp w0 w L') k fuel (listed.setIfInBounds j true) σ w'):AO P n l (fun w=>Hp w0 w L') k fuel listed σ w j:=by
 obtain⟨w',hr,h2⟩:=Gx (dst:=none) (ty:=ty) (pos:=pos) (bO:=bO) (g:=g) hH hi hm hx hy hv h1 hs ho
 exact Ia hj hg hr (h2.sub (hsub _)) (hk w' h2)
end
section
variable{P:Program}{σ:Env}{w:World}{ty:TypeId}{pos:String}{bO:Array Edge}{dst:Option Tmp}{g:Option (Nat×Bool)}{x:Operand}
end
theorem Sl.frE{α:Type}{cl:α->List Value}{sz:Nat}{w:World}{v:Value}{l:List α}(hsz:∀a,(cl a).length=sz)(h:Sl w v sz l.length (l.flatMap cl))(o:Nat)(ho:o<=l.length):Sl w (o5 v sz o) sz (l.drop o).length ((l.drop o).flatMap cl):=by
 have:=h.fr o ho
 rw[adI hsz _ _ ho]at this
 rw[yB];exact this
section
variable{w0 w:World}{L:List bu}
theorem SD{B:Nat}{a:World}(h:Below B a w){b:Nat}(hb:B<=b)(o:Obj):Below B a {w with heap:=w.heap.setIfInBounds b o}:=
 h.trans ⟨rfl,rfl,rfl,aJ,fun k hk=>by
  show(w.heap.setIfInBounds b o)[k]?=_
  rw[Eg,aT J]⟩
theorem Hp.setObj{i b:Nat}{o:Obj}(h:Hp w0 w L)(hi:L[i]?=some (.blk b o))(o':Obj):Hp w0 {w with heap:=w.heap.setIfInBounds b o'} (L.set i (.blk b o')):=by
 have hx:=h.ok _ (lO hi)
 have hil:=(nX.1 hi).1
 have hb:=(B0.1 hx.2).1
 refine⟨SD h.below hx.1 o',fun y hy=> ?_,Cp hi O h.LP⟩
 obtain⟨j,hj,Fb⟩:=vc.1 hy
 rw[zA]at Fb
 split at Fb
 .subst Fb
  refine⟨hx.1,?_⟩
  show(w.heap.setIfInBounds b o')[b]?=_
  rw[Eg,aX O,aX hb]
 rename_i hne
 have hjL:j<L.length:=by simpa using hj
 have hyL:y∈L:=Fb▸r8 hjL
 refine bu.Dx (h.ok y hyL) fun bb hf=> ?_
 have JV:b≠bb:=fun JV=>by
  subst JV
  have hp:=Q7.1 h.LP
  have hLi:L[i]= .blk b o:=(nX.1 hi).2
  rcases XM hne with hlt|hgt
  .rcases hp i j hil hjL hlt with h0|h0
   .rw[hLi]at h0;cases h0
   rw[hLi,Fb,hf]at h0;exact h0 O
  rcases hp j i hjL hil hgt with h0|h0
  .rw[Fb,hf]at h0;cases h0
  rw[hLi,Fb,hf]at h0;exact h0 O
 show(w.heap.setIfInBounds b o')[bb]?=_
 rw[Eg,aT JV]
end
structure Vf(es:Array MapEntry)(clock:Nat)(kv:List (Tx×El)):Prop where
 at_:es.toList.map (fun e=>(e.key,e.val))=kv.map fun p=>(S p.1,Value.agg (iM p.2))
 born:(es.toList.map (·.born)).Nodup
 old:∀x∈es.toList,x.born<clock
 ar0:(kv.map Prod.fst).Nodup
theorem awU{a b:Tx}(h:S a=S b):a=b:=by injection h
section
variable{es:Array MapEntry}{clock:Nat}{kv:List (Tx×El)}
theorem Vf.get(h:Vf es clock kv){j:Nat}{e:MapEntry}(he:es.toList[j]?=some e):∃p,kv[j]?=some p/\e.key=S p.1/\e.val= .agg (iM p.2):=by
 have:=aK (·[j]?) h.at_
 simp only[qp,he,qU]at this
 cases hk:kv[j]? with
 |none=>rw[hk]at this;cases this
 |some p=>rw[hk]at this;injection this with q;injection q with q1 q2;exact⟨p,rfl,q1,q2⟩
theorem Vf.size(h:Vf es clock kv):es.size=kv.length:=by
 have:=aK List.length h.at_
 simpa using this
theorem Vf.keys(h:Vf es clock kv):∀x∈es.toList,MapKept.IsKey .string x.key:=fun x hx=>by
 obtain⟨j,hj⟩:=XF.1 hx
 obtain⟨p,_,hk,_⟩:=h.get hj
 rw[hk];trivial
theorem ahM{f:Tx}{e:El}(h:(kv.map Prod.fst).Nodup)(hm:(f,e)∈kv):JD kv f=(e,true):=by grind[JD,List.find?_eq_none,List.mem_of_find?_eq_some,List.getElem_of_mem,Nat.lt_trichotomy,List.pairwise_iff_getElem]
theorem amI{f:Tx}(h:∀p∈kv,p.1≠f):JD kv f=(dg,false):=by grind[JD]
theorem Vf.find(h:Vf es clock kv)(f:Tx):(Instr.findNow .string (S f) es.toList 0=some none/\JD kv f=(dg,false)/\∀p∈kv,p.1≠f)\/
  ∃j e el,Instr.findNow .string (S f) es.toList 0=some (some (j,.agg (iM el)))/\es.toList[j]?=some e/\e.key=S f/\kv[j]?=some (f,el)/\JD kv f=(el,true):=by
 rcases MapKept.findNow_spec (d:= .string) (k:=S f) trivial es.toList 0 h.keys with⟨h1,h2⟩|⟨j,e,h1,h2,h3⟩
 .have hno:∀p∈kv,p.1≠f:=fun p hp q=>by
   obtain⟨j,hj⟩:=XF.1 hp
   have hlt:j<es.toList.length:=by
    have:=(nX.1 hj).1
    have e:=h.size
    simp;omega
   obtain⟨p',hp',hk,_⟩:=h.get (eD hlt)
   rw[hj]at hp';injection hp' with hp';subst hp'
   exact h2 _ (r8 hlt) (by rw[hk,q])
  exact .inl ⟨h1,amI hno,hno⟩
 obtain⟨p,hp,hk,hv⟩:=h.get h2
 have hf:p.1=f:=awU (hk.symm.trans h3)
 have hp':kv[j]?=some (f,p.2):=by rw[hp,<-hf]
 exact .inr ⟨j,e,p.2,by rw[h1,hv,gN],h2,h3,hp',ahM h.ar0 (lO hp')⟩
end
section
variable{P:Program}{n:Nat}{ops:Array Oper}{k:K}{rest:List Oper}{σ:Env}{w0 w:World}{L:List bu}{ty:TypeId}{pos:String}{bO:Array Edge}{d:Nat}{dst:Option Tmp}{g:Option (Nat×Bool)}{x y z:Operand}{t kt et:TypeId}{es:Array MapEntry}{clock b:Nat}{kv:List (Tx×El)}{f:Tx}
theorem aDH{i bi since c0:Nat}{seen:Array Nat}(hd:Nat.blt d n=true)(hH:Hp w0 w L)(hi:L[i]?=some (.blk bi (.mapIter (some b) since seen c0)))(hb:w.heap[b]?=some (.map es clock))(hold:∀x∈es.toList,x.born<since)(hsc:since<=c0)(hx:ev σ x= .pointer (some ⟨bi,0,none⟩))
  (h1:(leftOf es seen).size=0->RL P n ops k rest (lX σ d (.tuple #[B false])) w)
  (h2:∀e∈(leftOf es seen).toList,∀w',Hp w0 w' (L.set i (.blk bi (.mapIter (some b) since (seen.push e.born) clock)))->RL P n ops k rest (lX σ d (.tuple #[B true,e.key,e.val])) w'):
  RL P n ops k (⟨some d,.next x false,ty,pos,bO,none⟩::rest) σ w:=by
 have hbi:=hH.blk hi
 have key:((leftOf es seen).size=0/\(Instr.next (.pointer (some ⟨bi,0,none⟩)) false ty).run P w= .ok (.tuple #[.bool false]) w)\/
   ∃e∈(leftOf es seen).toList,∃w1:World,(w1=w\/w1=w.drew)/\(Instr.next (.pointer (some ⟨bi,0,none⟩)) false ty).run P w= .ok (.tuple #[.bool true,e.key,e.val]) {w1 with heap:=w1.heap.setIfInBounds bi (.mapIter (some b) since (seen.push e.born) clock)}:=by
  simp only[Instr.next,getObj,uh,Sem.run,hbi,hb,Result.andThen,next_test_false seen es since c0 hold hsc,uE,xU]
  unfold leftOf
  have hmem:∀x∈(Array.filter (fun e=> !seen.contains e.born) es).toList,x.born<since:=fun x hx=>hold x (by simp at hx⊢;exact hx.1)
  generalize Array.filter (fun e=> !seen.contains e.born) es=Q at hmem⊢
  have e1:Q.filter (fun x=>decide (x.born<since))=Q:=Array.filter_eq_self.2 (fun x hx=>by simpa using hmem x (by simpa using hx))
  have e2:Q.filter (fun x=>decide (x.born>=since))=#[]:=by
   rw[Array.filter_eq_empty_iff]
   intro x hx
   have:=hmem x (by simpa using hx)
   simp
   omega
  simp only[e1,e2,Array.append_empty]
  by_cases h0:Q.size=0
  .left
   have:Q=#[]:=afi h0
   subst this
   refine⟨rfl,?_⟩
   simp[choose,Sem.run,Question.forced]
  right
  have hne:Q.isEmpty=false:=by simp[Array.isEmpty,h0]
  simp only[hne,uE,xU,Array.empty_append,Array.size_map]
  have hch:∃(j:Nat) (w1:World),j<Q.size/\(w1=w\/w1=w.drew)/\(choose (Question.mapNext Q.size)).run P w= .ok j w1:=by
   by_cases hf:Q.size<=1
   .exact⟨0,w,J,.inl O,by simp[choose,Sem.run,Question.forced,hf]⟩
   exact⟨_,w.drew,Nat.mod_lt _ J,.inr O,by
    simp only[choose,Sem.run,Question.forced,eE,hf,xU,Question.cut]
    rfl⟩
  obtain⟨j,w1,hj,SE,hrun⟩:=hch
  refine⟨Q[j],aJ,w1,SE,?_⟩
  have hb1:w1.heap[bi]?=some (.mapIter (some b) since seen c0):=by rcases SE with rfl|rfl<;>exact hbi
  simp only[hrun,Array.getElem?_map,afo hj,qU,uh,Result.andThen]
  simp[setObj,Sem.run,hb1]
 rcases key with⟨h0,hr⟩|⟨e,he,w1,hw,hr⟩
 .exact pn hd (by simp[execOp,hx,hr,Result.andThen]) (h1 h0)
 refine pn (w':={w1 with heap:=w1.heap.setIfInBounds bi (.mapIter (some b) since (seen.push e.born) clock)}) hd (by simp[execOp,hx,hr,Result.andThen]) (h2 e he _ (Hp.setObj (o:= .mapIter (some b) since seen c0) ?_ hi _))
 rcases hw with rfl|rfl
 .exact hH
 exact hH.drew
end
def awV(v:jK):Tx×El:=(v.name,v.el)
def GSt(its:List jK)(g o:Bool)(kv:List (Tx×El)):Prop:=o=(g&&apl its)/\(o=true->kv=its.map awV)
def aMU(a:As)(t:Bx):List jK:=if t.tail<a.rows.length then apk a t else[]
section
variable{P:Program}{n:Nat}{ops:Array Oper}{k:K}{rest:List Oper}{σ:Env}{w0 w:World}{L:List bu}{ty:TypeId}{pos:String}{bO:Array Edge}{d:Nat}{dst:Option Tmp}{g:Option (Nat×Bool)}{x:Operand}{es:Array MapEntry}{clock b:Nat}{kv:List (Tx×El)}
def Seen(es:Array MapEntry)(kv:List (Tx×El))(seen:Array Nat)(ns:List Tx):Prop:=
 (∀t∈ns,t∈kv.map Prod.fst)/\(∀e∈es.toList,seen.contains e.born=true->∃t∈ns,e.key=S t)/\ns.length+(leftOf es seen).size<=es.size
end
section
variable{P:Program}{σ:Env}{w:World}{ty t u:TypeId}{pos:String}{bO:Array Edge}{dst:Option Tmp}{g:Option (Nat×Bool)}{x y:Operand}{a b:Tx}
end
def aDI(ns:List Tx)(kv:List (Tx×El))(k:Int):List jK:=(ns.take k.toNat).map fun n=>⟨n,(JD kv n).1⟩
section
variable{a:FW}{r:Bx}{k:Int}{m:List jK}
end
structure aJB(a:FW):Prop where
 rl:∀x∈a.rows,x.l.length<=1000
 rn:∀x∈a.rows,∀v∈x.l,v.name.size<=1000
structure ahO(x:iU):Prop where
 c:x.code.length<=1000
 fa:x.a.fields.length<=1000
 fb:x.b.fields.length<=1000
 na:∀f∈x.a.fields,f.name.size<=1000
 nb:∀f∈x.b.fields,f.name.size<=1000
def xk(x:iU):Bool:=decide (200<x.code.length\/40<x.a.fields.length\/40<x.b.fields.length\/40<x.field.size)||(x.a.fields++x.b.fields).any fun f=>decide (40<f.name.size)
def O0(p:pI):Bool:=vO p.s||decide (80<p.bf.length)||p.bf.any xk
theorem amJ{x:iU}(h:xk x=false):ahO x:=by grind[iU,xk,ahO]
theorem amK{p:pI}(h:O0 p=false):vO p.s=false/\p.bf.length<=80/\∀x∈p.bf,ahO x:=by grind[O0,amJ]
theorem MZ(l:List lC):∀u∈l.flatMap uw,u.oneCell'=true:=by grind[MR]
theorem qu{s:mv}{a:As}{l:List iU}{k:Int}(h0:0<=k)(h1:k<l.length)(h:amH s a (l.getD k.toNat dV)=false)(hg:∀j:Int,0<=j->j<k->amH s a (l.getD j.toNat dV)=true):Y9 s a l=k:=
 vH h0 h1 (by rw[h];rfl) fun j a b=>by rw[hg j a b];rfl
theorem tg{s:mv}{a:As}{l:List iU}{k:Int}(hk:¬k<l.length)(hg:∀j:Int,0<=j->j<k->amH s a (l.getD j.toNat dV)=true):Y9 s a l= -1:=
 Gl fun j a b=>by rw[hg j a J];rfl
theorem DN{x:iU}(h:200<x.code.length\/40<x.a.fields.length\/40<x.b.fields.length\/40<x.field.size):xk x=true:=by grind[xk]
theorem adQ{x:iU}{m:List lC}{k:Int}(hm:m=x.a.fields++x.b.fields)(h0:0<=k)(h1:k<m.length)(h:40<(m.getD k.toNat nP).name.size):xk x=true:=by grind[xk,Gs,nP]
theorem amL{x:iU}{m:List lC}{k:Int}(hm:m=x.a.fields++x.b.fields)(h:¬(200<x.code.length\/40<x.a.fields.length\/40<x.b.fields.length\/40<x.field.size))(h1:¬k<m.length)(h2:∀j:Int,0<=j->j<k->decide (40<(m.getD j.toNat nP).name.size)=false):xk x=false:=by
 rw[xk,<-hm,gZ h,St (d:=nP) h1 h2];rfl
theorem P9{p:pI}(h:vO p.s=true\/80<p.bf.length):O0 p=true:=by grind[O0]
theorem adR{p:pI}{k:Int}(h0:0<=k)(h1:k<p.bf.length)(h:xk (p.bf.getD k.toNat dV)=true):O0 p=true:=by grind[O0,Gs,dV]
theorem ahP{p:pI}{k:Int}(h:vO p.s=false)(h2:¬80<p.bf.length)(h1:¬k<p.bf.length)(h3:∀j:Int,0<=j->j<k->xk (p.bf.getD j.toNat dV)=false):O0 p=false:=by
 rw[O0,h,gZ h2,St (d:=dV) h1 h3];rfl
end
end Go.Proofs.YtlhjdflgjbkpmaaGreatDoor.E
namespace Go.Proofs.YtlhjdflgjbkpmaaGreatDoor.M
section
open Go
structure qA where
 up:Nat
 size:Nat
 next:Nat
 least:Nat
def Ft:qA:=⟨0,0,0,0⟩
def Wk(f:Nat->Nat):Nat->List Nat->Nat->Prop
 |v,[],y=>v=y
 |v,z::l,y=>v=z/\Wk f (f z) l y
theorem Wk.app{f:Nat->Nat}{l m:List Nat}{v z y:Nat}:Wk f v (l++z::m) y↔Wk f v l z/\Wk f (f z) m y:=by
 induction l generalizing v with
 |nil=>exact Cf
 |cons a l ih=>simp only[gA,Wk,ih,and_assoc]
theorem Wk.congr{f g:Nat->Nat}{l:List Nat}{v y:Nat}(h:Wk f v l y)(he:∀x∈l,g x=f x):Wk g v l y:=by
 induction l generalizing v with
 |nil=>exact h
 |cons a l ih=>exact⟨h.1,by rw[he a aJ];exact ih h.2 fun x hx=>he x (fX _ hx)⟩
def Ring(f:Nat->Nat)(i:Nat)(t:List Nat):Prop:=Wk f (f i) t i/\(i::t).Nodup
theorem Ring.rot{f:Nat->Nat}{i j:Nat}{t:List Nat}(h:Ring f i t)(hj:j∈i::t):∃u,Ring f j u/\∀k,k∈j::u↔k∈i::t:=by
 rcases c8.1 hj with rfl|hj
 .exact⟨t,h,fun _=>Cf⟩
 obtain⟨l,m,rfl⟩:=XO hj
 have h1:=Wk.app.1 h.1
 refine⟨m++i::l,⟨Wk.app.2 ⟨h1.2,h1.1⟩,?_⟩,fun k=>by simp only[c8,fg];constructor<;>(intro q;rcases q with q|q|q|q<;>simp[q])⟩
 have h2:=h.2
 have e:j::(m++i::l)=(j::m)++(i::l):=rfl
 have e2:i::(l++j::m)=(i::l)++(j::m):=rfl
 rw[e2]at h2
 rw[e]
 exact(tZ.nodup_iff).1 h2
theorem Ring.join{f g:Nat->Nat}{a b:Nat}{la lb:List Nat}(ha:Ring f a la)(hb:Ring f b lb)(hd:∀x∈a::la,x∉b::lb)(ga:g a=f b)(gb:g b=f a)(ho:∀x,x≠a->x≠b->g x=f x):Ring g a (lb++b::la):=by
 have na:a∉la:=(og.1 ha.2).1
 have nb:b∉lb:=(og.1 hb.2).1
 have a1:a∉b::lb:=hd a aJ
 refine⟨Wk.app.2 ⟨?_,?_⟩,?_⟩
 .rw[ga]
  exact hb.1.congr fun x hx=>ho x (fun e=>a1 (by rw[<-e];exact fX _ hx)) fun e=>nb (by rw[<-e];exact hx)
 .rw[gb]
  exact ha.1.congr fun x hx=>ho x (fun e=>na (by rw[<-e];exact hx)) fun e=>hd x (fX _ hx) (by rw[e];simp)
 rw[og]
 constructor
 .intro h
  rcases fg.1 h with q|q
  .exact a1 (fX _ q)
  rcases c8.1 q with q|q
  .exact a1 (by rw[q];simp)
  exact na q
 rw[List.nodup_append]
 refine⟨(og.1 hb.2).2,og.2 ⟨fun q=>hd b (fX _ q) aJ,(og.1 ha.2).2⟩,fun x hx y hy e=> ?_⟩
 subst e
 rcases c8.1 hy with q|q
 .exact nb (by rw[<-q];exact hx)
 exact hd x (fX _ q) (fX _ hx)
theorem Ring.keep{f g:Nat->Nat}{i:Nat}{t:List Nat}(h:Ring f i t)(he:∀x∈i::t,g x=f x):Ring g i t:=
 ⟨by rw[he i aJ];exact h.1.congr fun x hx=>he x (fX _ hx),h.2⟩
def sK(nd:List qA)(i:Nat):Nat:=(nd.getD i Ft).up
def kL(nd:List qA)(i:Nat):Nat:=(nd.getD i Ft).size
def tG(nd:List qA)(i:Nat):Nat:=(nd.getD i Ft).next
def qR(nd:List qA)(i:Nat):Nat:=(nd.getD i Ft).least
def cm(cl:List Nat)(i:Nat):Nat:=cl.getD i 0
structure Fo(nd:List qA)(cl:List Nat):Prop where
 len:cl.length=nd.length
 up:∀i,i<nd.length->sK nd i<nd.length
 sz:∀i,i<nd.length->sK nd i≠i->kL nd i<kL nd (sK nd i)
 sn:∀i,i<nd.length->kL nd i<=nd.length
 si:∀i,i<nd.length->sK nd i=i->kL nd i=cl.count (cm cl i)
 uc:∀i,i<nd.length->cm cl (sK nd i)=cm cl i
 one:∀i j,i<nd.length->j<nd.length->sK nd i=i->sK nd j=j->cm cl i=cm cl j->i=j
 le:∀i,i<nd.length->sK nd i=i->qR nd i=cm cl i
 lc:∀i,i<nd.length->cm cl i<=i/\cm cl (cm cl i)=cm cl i
 ring:∀i,i<nd.length->∃t,Ring (tG nd) i t/\∀k,k∈i::t↔k<nd.length/\cm cl k=cm cl i
theorem Fo.nil:Fo [] []:=⟨rfl,fun i h=>mJ,fun i h=>mJ,fun i h=>mJ,fun i h=>mJ,fun i h=>mJ,fun i j h=>mJ,fun i h=>mJ,fun i h=>mJ,fun i h=>mJ⟩
def rT(n:Nat):qA:=⟨n,1,n,n⟩
section
variable{nd:List qA}{cl:List Nat}{α:Type}{d x:α}{l:List α}{i:Nat}
theorem ahQ(h:i<l.length):(l++[x]).getD i d=l.getD i d:=by grind
theorem ahR:(l++[x]).getD l.length d=x:=aJ
theorem Fo.add(h:Fo nd cl):Fo (nd++[rT nd.length]) (cl++[nd.length]):=by
 have hl:=h.len
 have gu:∀i,i<nd.length->(nd++[rT nd.length]).getD i Ft=nd.getD i Ft:=fun i hi=>ahQ hi
 have gn:(nd++[rT nd.length]).getD nd.length Ft=rT nd.length:=ahR
 have gc:∀i,i<nd.length->cm (cl++[nd.length]) i=cm cl i:=fun i hi=>ahQ J
 have gcn:cm (cl++[nd.length]) nd.length=nd.length:=by unfold cm;rw[<-hl];exact ahR
 have cs:∀i,i<(nd++[rT nd.length]).length->i<nd.length\/i=nd.length:=fun i hi=>by rw[dZ,ez]at hi;omega
 have ln:(nd++[rT nd.length]).length=nd.length+1:=aJ
 have clt:∀i,i<nd.length->cm cl i<nd.length:=fun i hi=>by have:=(h.lc i hi).1;omega
 have aDJ:cl.count nd.length=0:=by
  rw[List.count_eq_zero];intro hm
  obtain⟨k,hk,e⟩:=ud hm
  have:=clt k J
  unfold cm at this
  rw[eT,eD hk,Rq,e]at this
  omega
 refine⟨by simp[hl],fun i hi=> ?_,fun i hi=> ?_,fun i hi=> ?_,fun i hi hu=> ?_,fun i hi=> ?_,fun i j hi hj hu hv hc=> ?_,fun i hi hu=> ?_,fun i hi=> ?_,fun i hi=> ?_⟩
 .rw[ln];unfold sK;rcases cs i hi with q|rfl
  .rw[gu i q];have:=h.up i q;unfold sK at this;omega
  rw[gn];show nd.length<_;omega
 .unfold sK kL;rcases cs i hi with q|rfl
  .have hu:=h.up i q
   unfold sK at hu
   rw[gu i q,gu _ hu];exact h.sz i q
  rw[gn];intro hh;exact absurd O hh
 .rw[ln];unfold kL;rcases cs i hi with q|rfl
  .rw[gu i q];have:=h.sn i q;unfold kL at this;omega
  rw[gn];show 1<=_;omega
 .unfold kL;unfold sK at hu;rcases cs i hi with q|rfl
  .rw[gu i q]at hu⊢;rw[gc i q,XW]
   have:=h.si i q hu;unfold kL at this
   rw[this,List.count_singleton]
   have:=clt i q
   rw[aT iX];omega
  rw[gn,gcn,XW,aDJ,List.count_singleton,aX aJ];rfl
 .unfold sK;rcases cs i hi with q|rfl
  .have hu:=h.up i q
   have:=h.uc i q
   unfold sK at hu this
   rw[gu i q,gc i q,gc _ hu];exact this
  rw[gn];rfl
 .unfold sK at hu hv;rcases cs i hi with q|rfl<;>rcases cs j hj with r|rfl
  .rw[gu _ q]at hu;rw[gu _ r]at hv;rw[gc _ q,gc _ r]at hc;exact h.one i j q r hu hv hc
  .rw[gc _ q,gcn]at hc;have:=clt i q;omega
  .rw[gc _ r,gcn]at hc;have:=clt j r;omega
  rfl
 .unfold qR;unfold sK at hu;rcases cs i hi with q|rfl
  .rw[gu _ q]at hu⊢;rw[gc _ q];exact h.le i q hu
  rw[gn,gcn];rfl
 .rcases cs i hi with q|rfl
  .rw[gc _ q,gc _ (clt i q)];exact h.lc i q
  rw[gcn,gcn];exact⟨eU _,rfl⟩
 rcases cs i hi with q|rfl
 .obtain⟨t,ht,hm⟩:=h.ring i q
  refine⟨t,ht.keep fun x hx=> ?_,fun k=> ?_⟩
  .unfold tG;rw[gu x ((hm x).1 hx).1]
  rw[hm k,ln,gc i q]
  constructor
  .rintro⟨a,b⟩;exact⟨J,by rw[gc k a];exact b⟩
  rintro⟨a,b⟩
  rcases cs k (by rw[ln];exact a)with r|rfl
  .exact⟨r,by rw[<-gc k r];exact b⟩
  rw[gcn]at b;have:=clt i q;omega
 refine⟨[],⟨by show tG _ _=_;unfold tG;rw[gn];rfl,aJ⟩,fun k=> ?_⟩
 rw[gG,ln,gcn]
 constructor
 .rintro rfl;exact⟨J,gcn⟩
 rintro⟨a,b⟩
 rcases cs k (by rw[ln];exact a)with r|rfl
 .rw[gc k r]at b;have:=clt k r;omega
 rfl
theorem k8{j:Nat}:(l.set i x).getD j d=if j=i/\i<l.length then x else l.getD j d:=by grind
end
def pK(nd:List qA)(a b:Nat):List qA:=(nd.set b ⟨a,kL nd b,tG nd a,qR nd b⟩).set a ⟨sK nd a,kL nd a+kL nd b,tG nd b,min (qR nd a) (qR nd b)⟩
def IJ(x y c:Nat):Nat:=if c=x\/c=y then min x y else c
def iI(cl:List Nat)(x y:Nat):List Nat:=cl.map (IJ x y)
theorem kQ{x y c:Nat}(h:c=x\/c=y):IJ x y c=min x y:=aX h
theorem k9{x y c:Nat}(h:¬(c=x\/c=y)):IJ x y c=c:=aT h
theorem x7(x y:Nat):min x y=x\/min x y=y:=J
theorem adS{x y v:Nat}(h:¬(v=x\/v=y))(cl:List Nat):(iI cl x y).count v=cl.count v:=by
 induction cl with
 |nil=>rfl
 |cons c l ih=>
  show(IJ x y c::iI l x y).count v=_
  rw[EZ,EZ,ih]
  by_cases hc:c=x\/c=y
  .rw[kQ hc,aT aaV,aT iX]
  rw[k9 hc]
theorem Vg{x y:Nat}(h:x≠y)(cl:List Nat):(iI cl x y).count (min x y)=cl.count x+cl.count y:=by
 induction cl with
 |nil=>rfl
 |cons c l ih=>
  show(IJ x y c::iI l x y).count _=_
  rw[EZ,EZ,EZ,ih]
  by_cases hc:c=x\/c=y
  .rw[kQ hc,aX aJ]
   rcases hc with rfl|rfl
   .rw[aX aJ,aT iX];omega
   rw[aT iX,aX aJ];omega
  rw[k9 hc,aT aaV,aT iX,aT iX]
  omega
theorem adT{x y:Nat}(h:x≠y)(cl:List Nat):cl.count x+cl.count y<=cl.length:=by
 rw[<-Vg h]
 have:=List.count_le_length (a:=min x y) (l:=iI cl x y)
 rwa[show(iI cl x y).length=cl.length by simp[iI]]at this
section
variable{nd:List qA}{cl:List Nat}{a b:Nat}
theorem vY:(pK nd a b).length=nd.length:=by simp[pK]
theorem amN(hb:b<nd.length)(ha:a<nd.length)(hab:a≠b)(hu:sK nd a=a)(i:Nat):sK (pK nd a b) i=if i=b then a else sK nd i:=by grind[sK,pK,k8]
theorem amO(hb:b<nd.length)(ha:a<nd.length)(i:Nat):kL (pK nd a b) i=if i=a then kL nd a+kL nd b else kL nd i:=by grind[kL,pK,k8]
theorem amP(hb:b<nd.length)(ha:a<nd.length)(i:Nat):qR (pK nd a b) i=if i=a then min (qR nd a) (qR nd b)else qR nd i:=by grind[qR,pK,k8]
theorem amQ(hb:b<nd.length)(ha:a<nd.length)(i:Nat):tG (pK nd a b) i=if i=a then tG nd b else if i=b then tG nd a else tG nd i:=by grind[tG,pK,k8]
theorem Ab{x y:Nat}{i:Nat}(hi:i<cl.length):cm (iI cl x y) i=IJ x y (cm cl i):=by grind[cm,iI]
theorem Fo.join(h:Fo nd cl)(ha:a<nd.length)(hb:b<nd.length)(hab:a≠b)(ua:sK nd a=a)(ub:sK nd b=b):Fo (pK nd a b) (iI cl (cm cl a) (cm cl b)):=by
 have hl:=h.len
 have hxy:cm cl a≠cm cl b:=fun e=>hab (h.one a b ha hb ua ub e)
 generalize hx:cm cl a=x at*
 generalize hy:cm cl b=y at*
 have gc:∀i,i<nd.length->cm (iI cl x y) i=IJ x y (cm cl i):=fun i hi=>Ab J
 have gu:=amN hb ha hab ua
 have gs:=amO hb ha (a:=a)
 have gl:=amP hb ha (a:=a)
 have gn:=amQ hb ha (a:=a)
 have sa:=h.si a ha ua;have sb:=h.si b hb ub
 rw[hx]at sa;rw[hy]at sb
 have root:∀i,i<nd.length->sK (pK nd a b) i=i->i≠b/\sK nd i=i:=fun i hi q=>by
  rw[gu]at q
  by_cases e:i=b
  .rw[aX e]at q;exact absurd (q.trans e) hab
  rw[aT e]at q;exact⟨e,q⟩
 have isx:∀i,i<nd.length->sK nd i=i->i≠b->(cm cl i=x\/cm cl i=y)->i=a:=fun i hi q e hc=>by
  rcases hc with hc|hc
  .exact h.one i a hi ha q ua (hc.trans hx.symm)
  exact absurd (h.one i b hi hb q ub (hc.trans hy.symm)) e
 have clx:=h.lc a ha;have cly:=h.lc b hb
 rw[hx]at clx;rw[hy]at cly
 have pa:1<=kL nd a:=by
  rw[sa]
  have:x∈cl:=by
   rw[<-hx];unfold cm
   rw[eT,eD J,Rq];exact r8 J
  have:=List.count_pos_iff.2 this
  omega
 refine⟨by simp[iI,vY,hl],fun i hi=> ?_,fun i hi=> ?_,fun i hi=> ?_,fun i hi hu=> ?_,fun i hi=> ?_,fun i j hi hj hu hv hc=> ?_,fun i hi hu=> ?_,fun i hi=> ?_,fun i hi=> ?_⟩<;>rw[vY]at hi
 .rw[vY,gu];split
  .exact ha
  exact h.up i hi
 .rw[gu,gs i]
  by_cases e:i=b
  .rw[aX e,gs a,aX O,aT J,e];intro _;omega
  rw[aT e,gs (sK nd i)];intro q
  have e2:i≠a:=fun r=>q (by rw[r];exact ua)
  rw[aT e2]
  have:=h.sz i hi q
  split
  .rename_i r;rw[r]at this;omega
  exact this
 .rw[vY,gs i];split
  .have:=adT hxy cl;omega
  exact h.sn i hi
 .obtain⟨e,q⟩:=root i hi hu
  rw[gs i,gc i hi]
  by_cases e2:i=a
  .rw[aX e2,e2,hx,kQ (.inl O),Vg hxy,sa,sb]
  rw[aT e2]
  have hc:¬(cm cl i=x\/cm cl i=y):=fun r=>e2 (isx i hi q e r)
  rw[k9 hc,adS hc];exact h.si i hi q
 .rw[gu i];split
  .rename_i e;rw[gc a ha,gc i hi,e,hx,hy,kQ (.inl O),kQ (.inr O)]
  rw[gc _ (h.up i hi),gc i hi,h.uc i hi]
 .rw[vY]at hj
  obtain⟨e1,q1⟩:=root i hi hu
  obtain⟨e2,q2⟩:=root j hj hv
  rw[gc i hi,gc j hj]at hc
  by_cases c1:cm cl i=x\/cm cl i=y
  .rw[kQ c1]at hc
   have c2:cm cl j=x\/cm cl j=y:=by
    refine K9 fun r=> ?_
    rw[k9 r]at hc
    exact r (by rw[<-hc];exact x7 x y)
   rw[isx i hi q1 e1 c1,isx j hj q2 e2 c2]
  rw[k9 c1]at hc
  have c2:¬(cm cl j=x\/cm cl j=y):=fun r=>by
   rw[kQ r]at hc
   exact c1 (by rw[hc];exact x7 x y)
  rw[k9 c2]at hc
  exact h.one i j hi hj q1 q2 hc
 .obtain⟨e,q⟩:=root i hi hu
  rw[gl i,gc i hi]
  by_cases e2:i=a
  .rw[aX e2,e2,hx,kQ (.inl O),h.le a ha ua,h.le b hb ub,hx,hy]
  rw[aT e2]
  have hc:¬(cm cl i=x\/cm cl i=y):=fun r=>e2 (isx i hi q e r)
  rw[k9 hc];exact h.le i hi q
 .have hi2:=h.lc i hi
  rw[gc i hi]
  by_cases c1:cm cl i=x\/cm cl i=y
  .rw[kQ c1]
   refine⟨by rcases c1 with r|r<;>omega,?_⟩
   rw[gc _ J]
   refine kQ ?_
   rcases x7 x y with r|r<;>rw[r]
   .exact .inl clx.2
   exact .inr cly.2
  rw[k9 c1]
  refine⟨hi2.1,?_⟩
  rw[gc _ J,hi2.2,k9 c1]
 by_cases c1:cm cl i=x\/cm cl i=y
 .obtain⟨la,ra,ma⟩:=h.ring a ha
  obtain⟨lb,rb,mb⟩:=h.ring b hb
  rw[hx]at ma;rw[hy]at mb
  have hj:Ring (tG (pK nd a b)) a (lb++b::la):=ra.join rb (fun k hk CF=>hxy (((ma k).1 hk).2.symm.trans ((mb k).1 CF).2)) (by rw[gn,aX O]) (by rw[gn,aT (E5 hab),aX O]) fun k k1 k2=>by rw[gn,aT k1,aT k2]
  have mm:∀k,k∈a::(lb++b::la)↔k<nd.length/\(cm cl k=x\/cm cl k=y):=fun k=>by
   have m1:=ma k;have m2:=mb k
   simp only[c8,fg]at m1 m2⊢
   constructor
   .rintro(q|q|q|q)
    .have:=m1.1 (.inl q);exact⟨this.1,.inl this.2⟩
    .have:=m2.1 (.inr q);exact⟨this.1,.inr this.2⟩
    .have:=m2.1 (.inl q);exact⟨this.1,.inr this.2⟩
    have:=m1.1 (.inr q);exact⟨this.1,.inl this.2⟩
   rintro⟨q,r|r⟩
   .rcases m1.2 ⟨q,r⟩with s|s
    .exact .inl s
    exact .inr (.inr (.inr s))
   rcases m2.2 ⟨q,r⟩with s|s
   .exact .inr (.inr (.inl s))
   exact .inr (.inl s)
  obtain⟨u,hu,mu⟩:=hj.rot ((mm i).2 ⟨hi,c1⟩)
  refine⟨u,hu,fun k=> ?_⟩
  rw[mu,mm,vY,gc i hi,kQ c1]
  constructor
  .rintro⟨q,r⟩;exact⟨q,by rw[gc k q,kQ r]⟩
  rintro⟨q,r⟩
  refine⟨q,K9 fun s=> ?_⟩
  rw[gc k q,k9 s]at r
  exact s (by rw[r];exact x7 x y)
 obtain⟨t,ht,mt⟩:=h.ring i hi
 have out:∀k∈i::t,¬(cm cl k=x\/cm cl k=y):=fun k hk=>by rw[((mt k).1 hk).2];exact c1
 refine⟨t,ht.keep fun k hk=> ?_,fun k=> ?_⟩
 .have:=out k hk
  rw[gn,aT (fun e=>this (.inl (by rw[e];exact hx))),aT (fun e=>this (.inr (by rw[e];exact hy)))]
 rw[mt k,vY,gc i hi,k9 c1]
 constructor
 .rintro⟨q,r⟩;exact⟨q,by rw[gc k q,r,k9 c1]⟩
 rintro⟨q,r⟩
 refine⟨q,?_⟩
 rw[gc k q]at r
 by_cases c2:cm cl k=x\/cm cl k=y
 .rw[kQ c2]at r;exact absurd (by rw[<-r];exact x7 x y) c1
 rw[k9 c2]at r;exact r
end
inductive jQ
 |add (n:Nat)
 |set (i:Nat) (was:BitVec 64)
def SF(W:List (BitVec 64)):jQ->List (BitVec 64)
 | .add n=>W.take n
 | .set i was=>W.set i was
def Za(W:List (BitVec 64))(us:List jQ):List (BitVec 64):=us.foldr (fun u w=>SF w u) W
def jH(W:List (BitVec 64))(us:List jQ)(t:Nat):List (BitVec 64):=Za W (us.drop t)
def okR:Nat->List jQ->Prop
 |_,[]=>True
 |L,.add n::r=>n<=L/\okR n r
 |L,.set i _::r=>i<L/\okR L r
def M0(L:Nat)(us:List jQ):Prop:=okR L us.reverse
section
variable{W:List (BitVec 64)}{us:List jQ}{u:jQ}{t k:Nat}
theorem DO:jH W us us.length=W:=by simp[jH,Za]
theorem Fu(h:t<=us.length):jH W (us++[u]) t=jH (SF W u) us t:=by grind[jH,Za]
theorem M1(h:t<=us.length):(us++[u]).take t=us.take t:=by grind
theorem M3(h:k<us.length):jH W us k=SF (jH W us (k+1)) us[k]:=by
 rw[jH,jH,Q8 h];rfl
theorem tH:M0 W.length (us++[u])↔(match u with| .add n=>n<=W.length/\M0 n us| .set i _=>i<W.length/\M0 W.length us):=by
 unfold M0;rw[List.reverse_append];cases u<;>exact Cf
theorem ahS(h:M0 W.length (us++[u])):M0 (SF W u).length us:=by grind[M0,SF,tH]
end
def IK(W:List (BitVec 64))(us:List jQ)(i:Nat)(b:BitVec 64):List jQ:=if W.getD i 0=b then us else us++[.set i (W.getD i 0)]
theorem M4{W:List (BitVec 64)}{i:Nat}{b:BitVec 64}(h:W.getD i 0=b):W.set i b=W:=by
 apply X0 aJ
 intro j h1 h2
 rw[zA]
 split
 .rename_i e;subst e
  rw[<-h,eT,eD h2];rfl
 rfl
theorem ahT{W:List (BitVec 64)}{us:List jQ}{i t:Nat}{b:BitVec 64}(hi:i<W.length)(h:t<=us.length):jH (W.set i b) (IK W us i b) t=jH W us t/\(IK W us i b).take t=us.take t/\t<=(IK W us i b).length:=by
 unfold IK
 split
 .rename_i e;rw[M4 e];exact⟨rfl,rfl,h⟩
 refine⟨?_,M1 h,by rw[dZ];omega⟩
 rw[Fu h]
 congr 1
 show(W.set i b).set i (W.getD i 0)=W
 rw[List.set_set];exact M4 O
theorem amR{W:List (BitVec 64)}{us:List jQ}{i:Nat}{b:BitVec 64}(hi:i<W.length)(h:M0 W.length us):M0 (W.set i b).length (IK W us i b):=by grind[IK,tH]
def FY(d:qA):List (BitVec 64):=[BitVec.ofNat 64 d.up,BitVec.ofNat 64 d.size,BitVec.ofNat 64 d.next,BitVec.ofNat 64 d.least]
def bE(nd:List qA):List (BitVec 64):=nd.flatMap FY
theorem iG(nd:List qA):(bE nd).length=4*nd.length:=by
 induction nd with
 |nil=>rfl
 |cons d l ih=>show(FY d++bE l).length=_;rw[dZ,ih,fq];show 4+_=_;omega
theorem qt(nd:List qA)(d:qA):bE (nd++[d])=bE nd++FY d:=by simp[bE]
theorem Ac(nd:List qA){i k:Nat}(hi:i<nd.length)(hk:k<4):(bE nd).getD (4*i+k) 0=(FY (nd.getD i Ft)).getD k 0:=by
 induction nd generalizing i with
 |nil=>cases hi
 |cons d l ih=>
  show(FY d++bE l).getD _ _=_
  cases i with
  |zero=>
   rw[eT,zw (by show _<4;omega),<-eT]
   simp
  |succ i=>
   rw[eT,ET (by show 4<=_;omega),show 4*(i+1)+k-(FY d).length=4*i+k by show 4*(i+1)+k-4=_;omega,<-eT,ih zK]
   rfl
theorem Ad(nd:List qA){i k:Nat}{b:BitVec 64}{d':qA}(hi:i<nd.length)(hk:k<4)(h:(FY (nd.getD i Ft)).set k b=FY d'):(bE nd).set (4*i+k) b=bE (nd.set i d'):=by
 induction nd generalizing i with
 |nil=>cases hi
 |cons d l ih=>
  cases i with
  |zero=>
   show(FY d++bE l).set _ _=FY d'++bE l
   rw[List.set_append_left _ _ (by show _<4;omega),<-h]
   simp
  |succ i=>
   show(FY d++bE l).set _ _=FY d++bE (l.set i d')
   rw[List.set_append_right _ _ (by show 4<=_;omega),show 4*(i+1)+k-(FY d).length=4*i+k by show 4*(i+1)+k-4=_;omega,ih zK xZ]
def leads(cl:List Nat):Nat:=((List.range cl.length).filter fun i=>cm cl i==i).length
def DZ(cl:List Nat):List Nat:=cl.foldl (fun m c=>if c∈m then m else m++[c]) []
theorem KU{l m:List Nat}(hn:l.Nodup)(h:∀x∈l,x∈m):l.length<=m.length:=by
 induction l generalizing m with
 |nil=>simp
 |cons a l ih=>
  have ha:=h a aJ
  have Qa:=og.1 hn
  have:=ih (m:=m.erase a) Qa.2 fun x hx=>by
   refine(List.mem_erase_of_ne (fun e=>Qa.1 (by rw[<-e];exact hx))).2 (h x (fX _ hx))
  rw[Xz ha]at this
  have:=Rb ha
  rw[fq];omega
theorem Vh{l m:List Nat}(hn:l.Nodup)(hm:m.Nodup)(h:∀x,x∈l↔x∈m):l.length=m.length:=
 Nat.le_antisymm (KU hn fun x=>(h x).1) (KU hm fun x=>(h x).2)
theorem ahU(cl:List Nat):(DZ cl).Nodup/\∀x,x∈DZ cl↔x∈cl:=by
 have key:∀r:List Nat,(DZ r.reverse).Nodup/\∀x,x∈DZ r.reverse↔x∈r.reverse:=by
  intro r
  induction r with
  |nil=>exact⟨List.nodup_nil,fun x=>Cf⟩
  |cons c r ih=>
   rw[List.reverse_cons]
   have e:DZ (r.reverse++[c])=if c∈DZ r.reverse then DZ r.reverse else DZ r.reverse++[c]:=by unfold DZ;rw[xN];rfl
   rw[e]
   split
   .rename_i h
    refine⟨ih.1,fun x=> ?_⟩
    rw[ih.2,fg,gG]
    constructor
    .exact fun q=> .inl q
    rintro(q|rfl)
    .exact q
    exact(ih.2 _).1 h
   rename_i h
   refine⟨?_,fun x=>by rw[fg,fg,ih.2]⟩
   rw[List.nodup_append]
   exact⟨ih.1,aJ,fun a ha b hb e=>h (by rw[<-gG.1 hb,<-e];exact ha)⟩
 have:=key cl.reverse
 rwa[List.reverse_reverse]at this
section
variable{nd:List qA}{cl:List Nat}{a b:Nat}
theorem ahV(h:Fo nd cl)(x:Nat):x∈cl↔x<cl.length/\cm cl x=x:=by
 constructor
 .intro hx
  obtain⟨k,hk,e⟩:=ud hx
  have e2:cm cl k=x:=by unfold cm;rw[eT,eD hk];exact e
  have:=h.lc k (by rw[<-h.len];exact hk)
  rw[e2]at this
  exact⟨J,this.2⟩
 rintro⟨h1,h2⟩
 rw[<-h2];unfold cm
 rw[eT,eD h1];exact r8 h1
theorem Gy(cl:List Nat)(x:Nat):x∈((List.range cl.length).filter fun i=>cm cl i==i)↔x<cl.length/\cm cl x=x:=aJ
theorem Fv(cl:List Nat):((List.range cl.length).filter fun i=>cm cl i==i).Nodup:=List.nodup_range.filter _
theorem Vi(h:Fo nd cl):(DZ cl).length=leads cl:=by grind[Fo,DZ,leads,Vh,ahU,Fv,Gy,ahV]
theorem Qb(h:Fo nd cl):leads (cl++[nd.length])=leads cl+1:=by
 rw[<-Vi h.add,<-Vi h]
 have e:DZ (cl++[nd.length])=if nd.length∈DZ cl then DZ cl else DZ cl++[nd.length]:=by unfold DZ;rw[xN];rfl
 rw[e,aT]
 .simp
 intro q
 have:=((ahV h _).1 (((ahU cl).2 _).1 q)).1
 have:=h.len;omega
theorem Zb(h:Fo nd cl)(ha:a<nd.length)(hb:b<nd.length)(hab:a≠b)(ua:sK nd a=a)(ub:sK nd b=b):leads (iI cl (cm cl a) (cm cl b))+1=leads cl:=by
 have hj:=h.join ha hb hab ua ub
 have hl:=h.len
 have hxy:cm cl a≠cm cl b:=fun e=>hab (h.one a b ha hb ua ub e)
 have clx:=h.lc a ha;have cly:=h.lc b hb
 generalize hx:cm cl a=x at*
 generalize hy:cm cl b=y at*
 have jl:(iI cl x y).length=cl.length:=by simp[iI]
 have e:((List.range cl.length).filter fun i=>cm cl i==i).length=(max x y::((List.range (iI cl x y).length).filter fun i=>cm (iI cl x y) i==i)).length:=by
  refine Vh (Fv cl) (og.2 ⟨fun q=> ?_,Fv _⟩) fun k=> ?_
  .have q2:=(Gy _ _).1 q
   rw[Ab J]at q2
   have e:cm cl (max x y)=max x y:=by rcases(by omega:max x y=x\/max x y=y)with r|r<;>rw[r];exact clx.2;exact cly.2
   rw[e,kQ J]at q2
   omega
  rw[Gy,c8,Gy,jl]
  constructor
  .rintro⟨k1,k2⟩
   by_cases c:k=max x y
   .exact .inl c
   refine .inr ⟨k1,?_⟩
   rw[Ab k1,k2]
   by_cases c1:k=x\/k=y
   .rw[kQ c1];omega
   exact k9 c1
  rintro(rfl|⟨k1,k2⟩)
  .rcases(by omega:max x y=x\/max x y=y)with r|r<;>rw[r]
   .exact⟨J,clx.2⟩
   exact⟨J,cly.2⟩
  refine⟨k1,?_⟩
  rw[Ab k1]at k2
  by_cases c1:cm cl k=x\/cm cl k=y
  .rw[kQ c1]at k2
   rcases x7 x y with r|r<;>rw[r]at k2<;>rw[<-k2]
   .exact clx.2
   exact cly.2
  rwa[k9 c1]at k2
 unfold leads
 rw[e,fq]
theorem IL{f:Nat->Nat}{i at_:Nat}{t out m:List Nat}(h:Ring f i t)(e:i::t=out++at_::m):(m=[]/\f at_=i)\/∃z m',m=z::m'/\f at_=z/\z≠i:=by
 have key:Wk f (f at_) m i:=by
  cases out with
  |nil=>simp only[eN,Lm]at e;rw[<-e.1,<-e.2];exact h.1
  |cons o out=>
   simp only[gA,Lm]at e
   have:=h.1;rw[e.2]at this
   exact(Wk.app.1 this).2
 cases m with
 |nil=>exact .inl ⟨rfl,key⟩
 |cons z m'=>
  refine .inr ⟨z,m',rfl,key.1,fun q=> ?_⟩
  have hn:=h.2
  cases out with
  |nil=>
   simp only[eN,Lm]at e
   rw[e.2,q]at hn;exact(og.1 hn).1 aJ
  |cons o out=>
   simp only[gA,Lm]at e
   rw[e.2,q]at hn;exact(og.1 hn).1 aJ
end
def Gz(cl c2:List Nat):Prop:=(cl.length=c2.length+1/\leads cl=leads c2+1)\/(cl.length=c2.length/\leads cl+1=leads c2)
def Hs:List (BitVec 64)->List jQ->List Nat->List (List Nat)->Prop
 |W,us,[],[cl]=>us=[]/\cl=[]/\W=[]
 |W,us,t::ts,cl::c2::cs=>(∃nd,W=bE nd/\Fo nd cl)/\t<=us.length/\Gz cl c2/\Hs (jH W us t) (us.take t) ts (c2::cs)
 |_,_,_,_=>False
section
variable{W:List (BitVec 64)}{us:List jQ}{t:Nat}{ts:List Nat}{cl c2:List Nat}{cs:List (List Nat)}{nd:List qA}
theorem Hs.ne(h:Hs W us ts []):False:=by cases ts<;>exact h
theorem Hs.now(h:Hs W us ts (cl::cs)):∃nd,W=bE nd/\Fo nd cl:=by
 cases ts with
 |nil=>
  cases cs with
  |nil=>obtain⟨_,rfl,rfl⟩:=h;exact⟨[],rfl,Fo.nil⟩
  |cons c cs=>exact h.elim
 |cons t ts=>
  cases cs with
  |nil=>exact h.elim
  |cons c cs=>exact h.1
theorem Hs.len(h:Hs W us ts cs):cs.length=ts.length+1:=by
 induction ts generalizing W us cs with
 |nil=>
  cases cs with
  |nil=>exact h.elim
  |cons c cs=>cases cs with
   |nil=>rfl
   |cons c2 cs=>exact h.elim
 |cons t ts ih=>
  cases cs with
  |nil=>exact h.elim
  |cons c cs=>cases cs with
   |nil=>exact h.elim
   |cons c2 cs=>have:=ih h.2.2.2;simp only[fq]at this⊢;omega
theorem Hs.start:Hs [] [] [] [[]]:=⟨rfl,rfl,rfl⟩
theorem Hs.more{W':List (BitVec 64)}{Vj:List jQ}{nd':List qA}{jT:List Nat}(h:Hs W us ts (cl::cs))(hw:W'=bE nd')(hf:Fo nd' jT)(hs:Gz jT cl)(h1:jH W' Vj us.length=W)(h2:Vj.take us.length=us)(h3:us.length<=Vj.length):Hs W' Vj (us.length::ts) (jT::cl::cs):=
 ⟨⟨nd',hw,hf⟩,h3,hs,by rw[h1,h2];exact h⟩
theorem Hs.back(h:Hs W us (t::ts) (cl::c2::cs)):Hs (jH W us t) (us.take t) ts (c2::cs):=h.2.2.2
theorem Hs.le(h:Hs W us (t::ts) (cl::c2::cs)):t<=us.length:=h.2.1
theorem Hs.cnt(h:Hs W us (t::ts) (cl::c2::cs)):Gz cl c2:=h.2.2.1
end
theorem Vk{W:List (BitVec 64)}{us:List jQ}(h:M0 W.length us){t:Nat}(ht:t<=us.length):M0 (jH W us t).length (us.take t):=by
 have key:∀d,∀t,t+d=us.length->M0 (jH W us t).length (us.take t):=by
  intro d
  induction d with
  |zero=>intro t e;rw[show t=us.length by omega,DO,EX];exact h
  |succ d ih=>
   intro t e
   have h2:=ih (t+1) J
   have ht:t<us.length:=J
   rw[xM,eD ht]at h2
   rw[M3 ht]
   exact ahS h2
 exact key (us.length-t) t J
def O1(us:List jQ)(n:Nat):List jQ:=us++[.add n]++[.add (n+1)]++[.add (n+2)]++[.add (n+3)]
theorem amS{W:List (BitVec 64)}{us:List jQ}{a b c d:BitVec 64}:jH (W++[a]++[b]++[c]++[d]) (O1 us W.length) us.length=W/\(O1 us W.length).take us.length=us/\us.length<=(O1 us W.length).length:=by grind[O1,Fu,DO,SF]
theorem amT{W:List (BitVec 64)}{us:List jQ}{a b c d:BitVec 64}(h:M0 W.length us):M0 (W++[a]++[b]++[c]++[d]).length (O1 us W.length):=by
 unfold O1
 rw[tH];refine⟨aJ,?_⟩
 have e1:(W++[a]++[b]++[c]).length=W.length+3:=aJ
 have e2:(W++[a]++[b]).length=W.length+2:=aJ
 have e3:(W++[a]).length=W.length+1:=aJ
 rw[<-e1,tH];refine⟨aJ,?_⟩
 rw[<-e2,tH];refine⟨aJ,?_⟩
 rw[<-e3,tH];exact⟨aJ,h⟩
def fN(cl:List Nat)(i:Int):Int:=if 0<=i/\i<cl.length then(cm cl i.toNat:Int)else-1
def aDL(cs:List (List Nat))(cl:List Nat)(i j:Int):List (List Nat)×Bool:=
 if fN cl i<0\/fN cl j<0\/fN cl i=fN cl j then(cl::cs,false)else(iI cl (fN cl i).toNat (fN cl j).toNat::cl::cs,true)
theorem nc{cl:List Nat}{i:Int}(h:0<=i/\i<cl.length):fN cl i=(cm cl i.toNat:Int):=aX h
theorem IM{cl:List Nat}{i:Int}(h:¬(0<=i/\i<cl.length)):fN cl i= -1:=aT h
theorem SG{nd:List qA}{cl:List Nat}(h:Fo nd cl){i k:Nat}(hi:i<nd.length)(hc:cm cl i=cm cl k):sK nd i<nd.length/\cm cl (sK nd i)=cm cl k/\(sK nd i≠i->nd.length-kL nd (sK nd i)<nd.length-kL nd i):=by grind[qA,Fo,cm,sK,kL]
theorem Qc{nd:List qA}{cl:List Nat}(h:Fo nd cl){i j a b:Nat}(ha:a<nd.length)(hb:b<nd.length)(ua:sK nd a=a)(ub:sK nd b=b)(ca:cm cl a=cm cl i)(cb:cm cl b=cm cl j):a=b↔cm cl i=cm cl j:=by grind[qA,Fo,sK,cm]
def Ae(cl:List Nat)(i:Nat):List Nat:=(List.range cl.length).filter fun k=>cm cl i==cm cl k
theorem Qd{cl:List Nat}{i k:Nat}:k∈Ae cl i↔k<cl.length/\cm cl k=cm cl i:=by grind[Ae]
theorem adU{l m:List Int}(hl:l.Pairwise (· <·))(hm:m.Pairwise (· <·))(h:∀x,x∈l↔x∈m):l=m:=by
 induction l generalizing m with
 |nil=>cases m with
  |nil=>rfl
  |cons b m=>have:=(h b).2 aJ;cases this
 |cons a l ih=>
  cases m with
  |nil=>have:=(h a).1 aJ;cases this
  |cons b m=>
   have pa:=lQ.1 hl;have pb:=lQ.1 hm
   have hab:a=b:=by
    rcases c8.1 ((h a).1 aJ)with q|q
    .exact q
    rcases c8.1 ((h b).2 aJ)with r|r
    .exact r.symm
    have:=pb.1 a q;have:=pa.1 b r;omega
   subst hab
   congr 1
   refine ih pa.2 pb.2 fun x=> ?_
   have:=h x
   simp only[c8]at this
   constructor
   .intro q
    rcases this.1 (.inr q)with r|r
    .have:=pa.1 x q;omega
    exact r
   intro q
   rcases this.2 (.inr q)with r|r
   .have:=pb.1 x q;omega
   exact r
theorem SH{nd:List qA}{cl:List Nat}(h:Fo nd cl){i:Nat}(hi:i<nd.length){t:List Nat}(ht:Ring (tG nd) i t)(hm:∀k,k∈i::t↔k<nd.length/\cm cl k=cm cl i){zs:List Int}(hp:zs.Perm ((i::t).map Int.ofNat))(hs:zs.Pairwise (· <=·)):zs=(Ae cl i).map Int.ofNat:=by
 have hn:((i::t).map Int.ofNat).Nodup:=by
  unfold List.Nodup
  rw[HF]
  exact ht.2.imp fun q e=>q (by exact Int.ofNat.inj e)
 refine adU ?_ ?_ fun x=> ?_
 .have hz:zs.Nodup:=hp.nodup_iff.2 hn
  have:=List.Pairwise.and hs hz
  exact this.imp fun q=>by omega
 .unfold Ae
  rw[HF]
  exact(XD.filter _).imp fun q=>by simpa using q
 rw[hp.mem_iff,fZ,fZ]
 constructor
 .rintro⟨k,hk,rfl⟩;exact⟨k,Qd.2 (by rw[h.len];exact(hm k).1 hk),rfl⟩
 rintro⟨k,hk,rfl⟩;exact⟨k,(hm k).2 (by rw[<-h.len];exact Qd.1 hk),rfl⟩
structure mD(W:List (BitVec 64))(us:List jQ)(W':List (BitVec 64))(Vj:List jQ):Prop where
 le:us.length<=Vj.length
 und:∀t,t<=us.length->jH W' Vj t=jH W us t/\Vj.take t=us.take t
 ok:M0 W.length us->M0 W'.length Vj
section
variable{W W' W2:List (BitVec 64)}{us Vj us2:List jQ}{i:Nat}{b:BitVec 64}
theorem mD.refl:mD W us W us:=by grind[mD]
theorem mD.trans(h:mD W us W' Vj)(h2:mD W' Vj W2 us2):mD W us W2 us2:=
 ⟨kX h.le h2.le,fun t ht=>by
  have a:=h.und t ht;have c:=h2.und t (kX ht h.le)
  exact⟨c.1.trans a.1,c.2.trans a.2⟩,fun q=>h2.ok (h.ok q)⟩
theorem mD.set(hi:i<W.length):mD W us (W.set i b) (IK W us i b):=by grind[mD,IK,ahT,amR]
theorem mD.add:mD W us (W++[b]) (us++[.add W.length]):=
 ⟨aJ,fun t ht=>⟨by rw[Fu ht];show jH ((W++[b]).take W.length) us t=_;rw[ve],M1 ht⟩,fun h=>by rw[tH];exact⟨aJ,h⟩⟩
theorem mD.back(h:mD W us W' Vj):jH W' Vj us.length=W/\Vj.take us.length=us:=by grind[mD,jH,DO]
end
def kJ(nd:List qA)(i x:Nat):List qA:=nd.set i {nd.getD i Ft with up:=x}
def nQ(nd:List qA)(i x:Nat):List qA:=nd.set i {nd.getD i Ft with size:=x}
def vZ(nd:List qA)(i x:Nat):List qA:=nd.set i {nd.getD i Ft with next:=x}
def rU(nd:List qA)(i x:Nat):List qA:=nd.set i {nd.getD i Ft with least:=x}
section
variable{nd:List qA}{cl:List Nat}{i x a b:Nat}
theorem awW(h:i<nd.length):(bE nd).set (4*i+0) (BitVec.ofNat 64 x)=bE (kJ nd i x):=Ad nd h J O
theorem awX(h:i<nd.length):(bE nd).set (4*i+1) (BitVec.ofNat 64 x)=bE (nQ nd i x):=Ad nd h J O
theorem awY(h:i<nd.length):(bE nd).set (4*i+2) (BitVec.ofNat 64 x)=bE (vZ nd i x):=Ad nd h J O
theorem awZ(h:i<nd.length):(bE nd).set (4*i+3) (BitVec.ofNat 64 x)=bE (rU nd i x):=Ad nd h J O
theorem aw0(h:i<nd.length):(bE nd).getD (4*i+0) 0=BitVec.ofNat 64 (sK nd i):=Ac nd h J
theorem aw1(h:i<nd.length):(bE nd).getD (4*i+1) 0=BitVec.ofNat 64 (kL nd i):=Ac nd h J
theorem apm(h:i<nd.length):(bE nd).getD (4*i+2) 0=BitVec.ofNat 64 (tG nd i):=Ac nd h J
theorem apn(h:i<nd.length):(bE nd).getD (4*i+3) 0=BitVec.ofNat 64 (qR nd i):=Ac nd h J
theorem Qe{n:Nat}(h:n<9223372036854775808):(BitVec.ofNat 64 n).toInt=(n:Int):=by grind[BitVec.toInt_eq_toNat_cond,BitVec.toNat_ofNat,Nat.mod_eq_of_lt]
theorem DP(n:Nat):BitVec.ofInt 64 (n:Int)=BitVec.ofNat 64 n:=aJ
theorem ar2{l m:List qA}(hl:l.length=m.length)(h:∀i,i<l.length->l.getD i Ft=m.getD i Ft):l=m:=by grind[List.ext_getElem,List.getElem?_eq_getElem]
theorem ahW(ha:a<nd.length)(hb:b<nd.length)(hab:a≠b):vZ (vZ (rU (nQ (kJ nd b a) a (kL nd a+kL nd b)) a (min (qR nd a) (qR nd b))) a (tG nd b)) b (tG nd a)=pK nd a b:=by
 have hba:¬b=a:=fun e=>hab e.symm
 refine ar2 (by simp[vZ,rU,nQ,kJ,pK]) fun i hi=> ?_
 have hi':i<nd.length:=by simpa[vZ,rU,nQ,kJ]using hi
 unfold vZ rU nQ kJ pK
 simp only[k8,nY,ha,hb,and_true]
 by_cases h1:i=a
 .subst h1;simp[hab,sK]
 by_cases h2:i=b
 .subst h2;simp[h1,hba,kL,qR]
 simp[h1,h2]
theorem Zd(cl:List Nat)(x y:Nat):iI cl x y=iI cl y x:=by grind[iI,List.map_congr_left,IJ]
theorem Fo.szb(h:Fo nd cl)(hi:i<nd.length):sK nd i<nd.length/\kL nd i<=nd.length/\∃t,Ring (tG nd) i t/\tG nd i<nd.length:=by
 refine⟨h.up i hi,h.sn i hi,?_⟩
 obtain⟨t,ht,hm⟩:=h.ring i hi
 refine⟨t,ht,?_⟩
 have h1:=ht.1
 cases t with
 |nil=>have:tG nd i=i:=h1;omega
 |cons z t=>have:tG nd i=z:=h1.1;rw[this];exact((hm z).1 aJ).1
theorem Fo.amU(h:Fo nd cl):∀d i,i<nd.length->nd.length-kL nd i<=d->∃r,r<nd.length/\sK nd r=r/\cm cl r=cm cl i:=by
 intro d
 induction d with
 |zero=>
  intro i hi hd
  refine⟨i,hi,K9 fun q=> ?_,rfl⟩
  have:=h.sz i hi q;have:=h.sn _ (h.up i hi);omega
 |succ d ih=>
  intro i hi hd
  by_cases q:sK nd i=i
  .exact⟨i,hi,q,rfl⟩
  have h1:=h.sz i hi q;have h2:=h.sn _ (h.up i hi)
  obtain⟨r,r1,r2,r3⟩:=ih (sK nd i) (h.up i hi) J
  exact⟨r,r1,r2,r3.trans (h.uc i hi)⟩
open Classical in
noncomputable def o6(nd:List qA)(cl:List Nat)(i:Nat):Nat:=if h:∃r,r<nd.length/\sK nd r=r/\cm cl r=cm cl i then h.choose else 0
theorem pF(h:Fo nd cl)(hi:i<nd.length):o6 nd cl i<nd.length/\sK nd (o6 nd cl i)=o6 nd cl i/\cm cl (o6 nd cl i)=cm cl i:=by
 have he:=h.amU _ i hi (eU _)
 rw[o6,dif_pos he];exact he.choose_spec
theorem ahX(h:Fo nd cl)(hi:i<nd.length){r:Nat}(h1:r<nd.length)(h2:sK nd r=r)(h3:cm cl r=cm cl i):r=o6 nd cl i:=by
 obtain⟨a,b,c⟩:=pF h hi
 exact h.one _ _ h1 a h2 b (h3.trans c.symm)
theorem amV(h:Fo nd cl){j:Int}(h0:0<=j)(h1:j<nd.length):(qR nd (o6 nd cl j.toNat):Int)=fN cl j:=by grind[Fo,qR,o6,fN,pF,nc]
theorem adV(h:Fo nd cl){j:Int}(h0:¬(0<=j/\j<nd.length)):(-1:Int)=fN cl j:=by grind[Fo,fN,IM]
theorem SI(h:Fo nd cl)(hn:nd.length<=1000000){j:Nat}(hj:j<nd.length)(k:Int)(v:Nat)(hk:0<=k/\k<4)(hv:(bE nd).getD (4*j+k.toNat) 0=BitVec.ofNat 64 v)(hs:v<=nd.length):((bE nd).getD (4*(j:Int)+k).toNat 0).toInt=(v:Int):=by grind[Qe]
theorem amW(h:Fo nd cl)(hn:nd.length<=1000000){j:Nat}(hj:j<nd.length):((bE nd).getD (4*(j:Int)+0).toNat 0).toInt=(sK nd j:Int):=
 SI h hn hj 0 _ ⟨J,J⟩ (aw0 hj) (by have:=h.up j hj;omega)
theorem aby(h:Fo nd cl)(hn:nd.length<=1000000){j:Nat}(hj:j<nd.length):((bE nd).getD (4*(j:Int)+2).toNat 0).toInt=(tG nd j:Int):=
 SI h hn hj 2 _ ⟨J,J⟩ (apm hj) (by obtain⟨_,_,t,_,q⟩:=h.szb hj;omega)
theorem amX(h:Fo nd cl)(hn:nd.length<=1000000){j:Nat}(hj:j<nd.length)(hu:sK nd j=j):((bE nd).getD (4*(j:Int)+3).toNat 0).toInt=(qR nd j:Int):=
 SI h hn hj 3 _ ⟨J,J⟩ (apn hj) (by rw[h.le j hj hu];have:=(h.lc j hj).1;omega)
theorem adW(h:Fo nd cl)(hn:nd.length<=1000000){j:Int}(h0:0<=j/\j<nd.length):((bE nd).getD (4*((o6 nd cl j.toNat:Nat):Int)+3).toNat 0).toInt=fN cl j:=by grind[pF,amX,amV]
theorem Vl{n:Nat}{l:List Nat}(hd:l.Nodup)(h:∀k∈l,k<n):l.length<=n:=by
 have:=KU hd (m:=List.range n) fun x hx=>qq.2 (h x hx)
 rwa[Rj]at this
theorem Af{t o m:List Nat}{i:Int}{a:Nat}(ht:Ring (tG nd) i.toNat t)(hmt:∀k,k∈i.toNat::t↔k<nd.length/\cm cl k=cm cl i.toNat)(he:i.toNat::t=o++a::m)(hne:tG nd a≠i.toNat):
 i.toNat::t=(o++[a])++tG nd a::m.tail/\tG nd a<nd.length/\(o++[a]).length+1<=(i.toNat::t).length/\m.tail.length<m.length:=by grind[IL,tG]
def bP(cl:List Nat)(i:Int):List Int:=if 0<=i/\i<cl.length then(Ae cl i.toNat).map Int.ofNat else[]
theorem Qf(h:Fo nd cl){i:Int}(hi:¬(0<=i/\i<nd.length)):bP cl i=[]:=by grind[Fo,bP]
theorem M5(h:Fo nd cl){i:Int}(hi:0<=i/\i<nd.length){t o m:List Nat}{a:Nat}(ht:Ring (tG nd) i.toNat t)(hmt:∀k,k∈i.toNat::t↔k<nd.length/\cm cl k=cm cl i.toNat)(he:i.toNat::t=o++a::m)(hx:tG nd a=i.toNat):
  (((o++[a]).map Int.ofNat).mergeSort fun x y=>decide (x<=y))=bP cl i:=by
 have hm:m=[]:=by
  rcases IL ht he with⟨q,_⟩|⟨z,m',_,q,q2⟩
  .exact q
  exact absurd (q.symm.trans hx) q2
 subst hm
 rw[bP,aX (by have:=h.len;omega)]
 refine SH h J ht hmt ?_ ?_
 .rw[he];exact List.mergeSort_perm _ _
 have:=List.pairwise_mergeSort (le:=fun x y:Int=>decide (x<=y)) (fun a b c h1 h2=>by simp at*;omega) (fun a b=>by simp;omega) ((o++[a]).map Int.ofNat)
 exact this.imp fun q=>by simpa using q
end
theorem Vm{nd:List qA}{i x j:Nat}:kL (kJ nd i x) j=kL nd j:=by grind[kL,kJ,k8]
theorem Vn{nd:List qA}{i x j:Nat}:tG (kJ nd i x) j=tG nd j:=by grind[tG,kJ,k8]
theorem Vo{nd:List qA}{i x j:Nat}:qR (kJ nd i x) j=qR nd j:=by grind[qR,kJ,k8]
theorem Vp{nd:List qA}{i x j:Nat}:tG (nQ nd i x) j=tG nd j:=by grind[tG,nQ,k8]
theorem Vq{nd:List qA}{i x j:Nat}:qR (nQ nd i x) j=qR nd j:=by grind[qR,nQ,k8]
theorem Vr{nd:List qA}{i x j:Nat}:tG (rU nd i x) j=tG nd j:=by grind[tG,rU,k8]
theorem SJ{nd:List qA}{j:Nat}{k:Int}{v:Nat}(hk:0<=k/\k<4)(hv:(bE nd).getD (4*j+k.toNat) 0=BitVec.ofNat 64 v)(hs:v<=1000000):((bE nd).getD (4*(j:Int)+k).toNat 0).toInt=(v:Int):=by grind[Qe]
theorem ahZ{nd:List qA}{i x:Nat}(h:i<nd.length):(bE nd).set (4*(i:Int)+0).toNat (BitVec.ofInt 64 (x:Int))=bE (kJ nd i x):=by
 rw[show(4*(i:Int)+0).toNat=4*i+0 by omega,DP];exact awW h
theorem ah0{nd:List qA}{i x:Nat}(h:i<nd.length):(bE nd).set (4*(i:Int)+1).toNat (BitVec.ofInt 64 (x:Int))=bE (nQ nd i x):=by
 rw[show(4*(i:Int)+1).toNat=4*i+1 by omega,DP];exact awX h
theorem SK{nd:List qA}{i x:Nat}(h:i<nd.length):(bE nd).set (4*(i:Int)+2).toNat (BitVec.ofInt 64 (x:Int))=bE (vZ nd i x):=by
 rw[show(4*(i:Int)+2).toNat=4*i+2 by omega,DP];exact awY h
theorem ah1{nd:List qA}{i x:Nat}(h:i<nd.length):(bE nd).set (4*(i:Int)+3).toNat (BitVec.ofInt 64 (x:Int))=bE (rU nd i x):=by
 rw[show(4*(i:Int)+3).toNat=4*i+3 by omega,DP];exact awZ h
end
end Go.Proofs.YtlhjdflgjbkpmaaGreatDoor.M
namespace Go.Proofs.YtlhjdflgjbkpmaaGreatDoor.E
section
open Go Go.RowKit Go.Proofs.YtlhjdflgjbkpmaaGreatDoor.M
def Vs(c:Option (Nat×Array Value))(v:Value)(e:TypeId)(sz n:Nat)(xs:List Value):bu:=
 match c with
 |none=> .row v e sz n xs
 |some (b,cur)=> .blk b (.cells cur e (0,0))
def cOk(c:Option (Nat×Array Value))(v:Value)(sz n:Nat)(xs:List Value):Prop:=
 match c with
 |none=>True
 |some (b,cur)=>v= .slice (some ⟨b,0,none⟩) n n/\xs.length=n*sz/\cur.toList.take (n*sz)=xs/\n<=maxLen
section
variable{w0 w:World}{L:List bu}{c:Option (Nat×Array Value)}{v:Value}{e:TypeId}{sz n m i:Nat}{xs:List Value}
theorem Hp.xl{x x':bu}(h:Hp w0 w L)(hi:L[i]?=some x)(hf:x'.sC=x.sC)(hok:x'.ok w0.heap.size w):Hp w0 w (L.set i x'):=
 ⟨h.below,fun y hy=>(List.mem_or_eq_of_mem_set hy).elim (h.ok y) fun q=>q▸hok,Cp hi hf h.LP⟩
theorem Hp.slC(h:Hp w0 w L)(hi:L[i]?=some (Vs c v e sz n xs))(hk:cOk c v sz n xs):Sl w v sz n xs:=by
 cases c with
 |none=>exact h.sl hi
 |some bc=>
  obtain⟨b,cur⟩:=bc
  obtain⟨rfl,h2,h3,h4⟩:=hk
  refine⟨⟨_,n,rfl,eU _,fun _=>rfl⟩,h2,fun j u hu=> ?_,h4⟩
  simp only[sb,so,gN]
  rw[xS w _ _ cur e (0,0) (h.blk hi)]
  rw[<-h3,qS]at hu
  split at hu
  .simpa using hu
  .cases hu
theorem Hp.aDN(h:Hp w0 w L)(hi:L[i]?=some (Vs c v e sz n xs))(hk:cOk c v sz n xs)(hm:m<=n):∃c',cOk c' (tF v m) sz m (xs.take (m*sz))/\Hp w0 w (L.set i (Vs c' (tF v m) e sz m (xs.take (m*sz)))):=by
 have hle:m*sz<=n*sz:=s4 _ hm
 cases c with
 |none=>
  have hr:w.ownsRow w0.heap.size e sz v n xs:=h.get hi
  obtain⟨h1,h2⟩:=hr
  rcases h2 with⟨rfl,rfl⟩|⟨gb,cap,cur,rfl,hb,hg,hn,hc,hs,ht⟩
  .have:m=0:=J
   subst this
   refine⟨none,trivial,h.xl hi O ?_⟩
   exact⟨aJ,.inl ⟨rfl,rfl⟩⟩
  refine⟨some (gb,cur),⟨rfl,?_,?_,J⟩,h.xl hi O ⟨hb,hg⟩⟩
  .rw[er,h1];omega
  rw[<-ht,B6];congr 1;omega
 |some bc=>
  obtain⟨b,cur⟩:=bc
  obtain⟨rfl,h2,h3,h4⟩:=hk
  refine⟨some (b,cur),⟨rfl,?_,?_,J⟩,h.xl hi O (h.get hi)⟩
  .rw[er,h2];omega
  rw[<-h3,B6];congr 1;omega
variable{P:Program}{σ:Env}{ty t:TypeId}{pos:String}{bO:Array Edge}{dst:Option Tmp}{g:Option (Nat×Bool)}{x y:Operand}{u:Value}{o:Nat}
theorem amY(h:Hp w0 w L)(hi:L[i]?=some (Vs c v e sz n xs))(hk:cOk c v sz n xs)(hn:0<n)(hx:ev σ x= .pointer (some ⟨sb v,so v+o,none⟩))(hy:ev σ y=u)(hv:u.cells=#[u])(h1:u.oneCell'=true)(hs:(P.info? t).map (·.size)=some 1)(ho:o+1<=n*sz):
  ∃c' w',(execOp (ev σ) ⟨dst,.store t x y,ty,pos,bO,g⟩).run P w= .ok .skip w'/\cOk c' v sz n (qK xs o [u])/\Hp w0 w' (L.set i (Vs c' v e sz n (qK xs o [u]))):=by
 cases c with
 |none=>
  obtain⟨w',hr,h2⟩:=Gx (dst:=dst) (ty:=ty) (pos:=pos) (bO:=bO) (g:=g) h hi hn hx hy hv h1 hs ho
  exact⟨none,w',hr,trivial,h2⟩
 |some bc=>
  obtain⟨b,cur⟩:=bc
  obtain⟨rfl,h2,h3,h4⟩:=hk
  have hl:n*sz<=cur.size:=by
   have:=aK List.length h3
   rw[er,h2,ES]at this;omega
  have hx':ev σ x= .pointer (some ⟨b,o,none⟩):=by rw[hx];simp only[sb,so,gN]
  have hr:=bL (P:=P) (dst:=dst) (ty:=ty) (pos:=pos) (bO:=bO) (g:=g) hs hx' hy hv h1 (h.blk hi) J
  have e1:(cur.setIfInBounds o u).toList=cur.toList.take o++[u]++cur.toList.drop (o+1):=by
   simp[Xv,show o<cur.size by omega]
  refine⟨some (b,cur.setIfInBounds o u),_,hr,⟨rfl,?_,?_,h4⟩,h.set hi⟩
  .rw[qK];simp only[dZ,er,yB,ez,h2];omega
  rw[e1,show cur.toList.take o++[u]++cur.toList.drop (o+1)=cur.toList.take o++[u]++cur.toList.drop (o+[u].length)from O,Gu (by simpa using ho) RY,h3]
theorem Vt{ie:TypeInfo}{z:Value}{size bytes:Nat}{m':Nat}{news:List Value}{ats:TypeId}(h:Hp w0 w L)(hi:L[i]?=some (Vs c v e size n xs))(hk:cOk c v size n xs)(hS:Sl w u size m' news)
  (hx:ev σ x=v) (hy:ev σ y=u) (ht:P.underlying t=some (.slice e)) (hie:P.info? e=some ie) (hz:ie.zero=some z)
  (hsize:ie.size=size) (hby:ie.bytes=bytes) (hzs:z.cells.size=size) (hsz:0<size) (h1:∀u∈news,u.oneCell'=true) (hm:0<m')
  (hbytes:(n+m')*bytes<=140737488355328) (h63:n+m'<=maxLen):
  ∃v' w',(execOp (ev σ) ⟨dst,.call {callee:= .builtin .append,args:=#[x,y],argTypes:=#[t,t]},ty,pos,bO,g⟩).run P w= .ok (.value v') w'/\Hp w0 w' (L.set i (.row v' e size (n+m') (xs++news))):=by
 cases c with
 |none=>
  obtain⟨v',w',hr,h2,h3,h4⟩:=s6 (P:=P) (ty:=ty) ht hie hz hsize hby hzs hsz (h.get hi) hS h1 h63 hbytes h.size
  exact⟨v',w',sZ hx hy hr,h.yD hi h2 h3 h4⟩
 |some bc=>
  have hX:=h.slC hi hk
  have hsh:∃a,v= .slice a n n:=by
   obtain⟨b,cur⟩:=bc
   exact⟨_,hk.1⟩
  obtain⟨v',w',hr,h2,h3⟩:=MY (P:=P) (base:=0) (ty:=ty) ht hie hz hsize hby hzs hsh hX hS hm h63 hbytes
  exact⟨v',w',sZ hx hy hr,(h.Dy h3 h2).swap (nX.1 hi).1⟩
end
section
variable{P:Program}{σ:Env}{w:World}{t te ty u:TypeId}{pos:String}{bO:Array Edge}{dst:Option Tmp}{g:Option (Nat×Bool)}{x y:Operand}{a:Addr}
theorem Fw(d:Nat)(ht:P.underlying t=some (.pointer te)):(Op.equalIn (d+1) t (.pointer (some a)) (.pointer none)).run P w= .ok false w:=by
 simp[Op.equalIn,kf ht]
theorem Ze(d:Nat)(ht:P.underlying t=some (.pointer te)):(Op.equalIn (d+1) t (.pointer none) (.pointer none)).run P w= .ok true w:=by
 simp[Op.equalIn,kf ht]
theorem kU(ht:P.underlying t=some (.pointer te))(hx:ev σ x= .pointer (some a))(hy:ev σ y= .pointer none):
  (execOp (ev σ) ⟨dst,.binOp .eql t x y u,ty,pos,bO,g⟩).run P w= .ok (.value (.bool false)) w:=by
 have h:(binOp .eql t (.pointer (some a)) (.pointer none)).run P w= .ok (.bool false) w:=by
  simp only[binOp];simp[Op.equal,Op.maxDepth,Fw 9999 ht]
 have he:(eqGuard .eql t x y (.pointer (some a)) (.pointer none))=pure ():=rfl
 simp only[execOp,hx,hy,he];simp[h]
end
theorem Sl.atU{w:World}{v:Value}{W:List (BitVec 64)}(h:Sl w v 1 W.length (W.map U)){i:Int}(h0:0<=i)(h1:i<W.length):w.cell? ⟨sb v,so v+i.toNat*1,none⟩=some (U (W.getD i.toNat 0)):=by
 refine h.cell _ _ ?_
 rw[lU,qp,eD J,eT,eD J];rfl
def cE(c:Option (Nat×Array Value))(v:Value)(e:TypeId)(xs:List Value):bu:=Vs c v e 1 xs.length xs
def cO(c:Option (Nat×Array Value))(v:Value)(xs:List Value):Prop:=cOk c v 1 xs.length xs
section
variable{P:Program}{n:Nat}{k:K}{l:List Oper}{σ:Env}{w0 w:World}{L L':List bu}{ty t e:TypeId}{pos:String}{bO:Array Edge}{d:Nat}{x y:Operand}{g:Option (Nat×Bool)}{v u:Value}{c:Option (Nat×Array Value)}{xs:List Value}{i m fuel j:Nat}{listed:Array Bool}{W:List (BitVec 64)}{y0:Value}
theorem Hp.Bz(h:Hp w0 w L)(hi:L[i]?=some (cE c v e xs))(hk:cO c v xs):Sl w v 1 xs.length xs:=h.slC hi hk
theorem GC{o:Nat}{b:BitVec 64}:(W.map U).set o (U b)=(W.set o b).map U:=List.map_set.symm
theorem Hp.ah2{b:Nat}{o:Obj}(h:Hp w0 w L)(hm:bu.blk b o∈L):w.heap[b]?=some o:=(h.ok _ hm).2
theorem Hp.pq{b off:Nat}{cs:Array Value}{te:TypeId}{fr:Nat×Nat}(h:Hp w0 w L)(hm:bu.blk b (.cells cs te fr)∈L)(hc:cs[off]?=some v):w.cell? ⟨b,off,none⟩=some v:=by
 rw[xS w b off cs te fr (h.ah2 hm)];exact hc
theorem Hp.yQ(h:Hp w0 w L)(hi:L[i]?=some (cE c v e (W.map U)))(hk:cO c v (W.map U)):Sl w v 1 W.length (W.map U):=by
 have:=h.Bz hi hk
 rwa[gF]at this
theorem Hp.ar4(h:Hp w0 w L)(hi:L[i]?=some (cE c v e xs))(hk:cO c v xs)(hm:m<=xs.length):∃c',cO c' (tF v m) (xs.take m)/\Hp w0 w (L.set i (cE c' (tF v m) e (xs.take m))):=by
 obtain⟨c',h1,h2⟩:=h.aDN hi hk hm
 have e:(xs.take m).length=m:=by rw[er];omega
 rw[lU]at h1 h2
 exact⟨c',by unfold cO;rw[e];exact h1,by unfold cE;rw[e];exact h2⟩
theorem CG{o:Nat}(ho:o<xs.length):qK xs o [u]=xs.set o u:=by grind[qK,List.set_eq_take_append_cons_drop]
theorem ah3(hj:l[j]?=some ⟨none,.store t x y,ty,pos,bO,g⟩)(hg:∀a,Is n σ a->Region.wanted ⟨none,.store t x y,ty,pos,bO,g⟩ (yielded l.toArray a.tmps)=true)(hH:Hp w0 w L)(hi:L[i]?=some (cE c v e xs))(hk:cO c v xs)(hsub:∀c' ys,L'.Sublist (L.set i (cE c' v e ys))){o:Nat}(ho:o<xs.length)
  (hx:ev σ x= .pointer (some ⟨sb v,so v+o*1,none⟩)) (hy:ev σ y=u) (hv:u.cells=#[u]) (h1:u.oneCell'=true) (hs:(P.info? t).map (·.size)=some 1)
  (hn:∀c' w',cO c' v (xs.set o u)->Hp w0 w' (L.set i (cE c' v e (xs.set o u)))->AN P n l (fun w=>Hp w0 w L') k fuel (listed.setIfInBounds j true) σ w'):AO P n l (fun w=>Hp w0 w L') k fuel listed σ w j:=by
 obtain⟨c',w',hr,h2,h3⟩:=amY (dst:=none) (ty:=ty) (pos:=pos) (bO:=bO) (g:=g) hH hi hk J (o:=o) (by rw[hx,lU]) hy hv h1 hs J
 rw[CG ho]at h2 h3
 have e1:(xs.set o u).length=xs.length:=nY
 refine Ia hj hg hr ((show Hp w0 w' (L.set i (cE c' v e (xs.set o u)))by unfold cE;rw[e1];exact h3).sub (hsub _ _)) (hn c' w' (by unfold cO;rw[e1];exact h2) (by unfold cE;rw[e1];exact h3))
theorem CH{ie:TypeInfo}{z:Value}{bytes:Nat}(hi:l[j]?=some ⟨some d,.call {callee:= .builtin .append,args:=#[x,y],argTypes:=#[t,t]},ty,pos,bO,g⟩)
  (hg:∀a,Is n σ a->Region.wanted ⟨some d,.call {callee:= .builtin .append,args:=#[x,y],argTypes:=#[t,t]},ty,pos,bO,g⟩ (yielded l.toArray a.tmps)=true) (hd:Nat.blt d n=true) (hH:Hp w0 w L) (hL:L[i]?=some (cE c v e xs)) (hk:cO c v xs)
  (hs:∀v' ys,L'.Sublist (L.set i (cE none v' e ys))) (hS:Sl w u 1 1 [y0])
  (hx:ev σ x=v) (hy:ev σ y=u) (ht:P.underlying t=some (.slice e)) (hie:P.info? e=some ie) (hz:ie.zero=some z)
  (hsize:ie.size=1) (hby:ie.bytes=bytes) (hzs:z.cells.size=1) (h1:y0.oneCell'=true)
  (hbytes:(xs.length+1)*bytes<=140737488355328) (h63:xs.length+1<=maxLen)
  (hn:∀v' w',Hp w0 w' (L.set i (cE none v' e (xs++[y0])))->AN P n l (fun w=>Hp w0 w L') k fuel (listed.setIfInBounds j true) (lX σ d v') w'):AO P n l (fun w=>Hp w0 w L') k fuel listed σ w j:=by
 obtain⟨v',w',hr,h2⟩:=Vt (P:=P) (ty:=ty) (dst:=some d) (pos:=pos) (bO:=bO) (g:=g) (ats:=t) hH hL hk hS hx hy ht hie hz hsize hby hzs J (fun u hu=>by rw[gG.1 hu];exact h1) J hbytes h63
 have h3:Hp w0 w' (L.set i (cE none v' e (xs++[y0]))):=by unfold cE;rw[dZ,ez];exact h2
 exact Cr hi hg hd hr (h3.sub (hs _ _)) (hn v' w' h3)
end
theorem Qg{W:List (BitVec 64)}{b:BitVec 64}:W.map U++[U b]=(W++[b]).map U:=aJ
theorem u6{ul:List (Value×jQ)}{x:Value}(u:jQ):ul.map Prod.fst++[x]=(ul++[(x,u)]).map Prod.fst:=aJ
structure UT where
 fA:FuncId
 fS:FuncId
 tc:TypeId
 ti:TypeId
 tu:TypeId
 o:Nat
def pL(T:UT)(F:Nat)(L:List bu)(x:Value×jQ):Prop:=
 match x.2 with
 | .add n=>∃b1 b2,x.1= .func (.func T.fA) #[] #[.pointer (some ⟨b1,0,none⟩),.pointer (some ⟨b2,0,none⟩)]/\bu.blk b1 (.cells #[.pointer (some ⟨F,T.o,none⟩)] T.tc (0,0))∈L/\bu.blk b2 (.cells #[I n] T.ti (0,0))∈L
 | .set i b=>∃b1 b2 b3,x.1= .func (.func T.fS) #[] #[.pointer (some ⟨b1,0,none⟩),.pointer (some ⟨b2,0,none⟩),.pointer (some ⟨b3,0,none⟩)]/\bu.blk b1 (.cells #[U b] T.tu (0,0))∈L/\bu.blk b2 (.cells #[.pointer (some ⟨F,T.o,none⟩)] T.tc (0,0))∈L/\bu.blk b3 (.cells #[I i] T.ti (0,0))∈L
theorem pL.mono{T:UT}{F:Nat}{L L':List bu}{x:Value×jQ}(h:pL T F L x)(hs:∀e∈L,e∈L'):pL T F L' x:=by
 obtain⟨v,u⟩:=x
 cases u with
 |add n=>obtain⟨b1,b2,h1,h2,h3⟩:=h;exact⟨b1,b2,h1,hs _ h2,hs _ h3⟩
 |set i b=>obtain⟨b1,b2,b3,h1,h2,h3,h4⟩:=h;exact⟨b1,b2,b3,h1,hs _ h2,hs _ h3,hs _ h4⟩
theorem amZ{ul:List (Value×jQ)}{j k:Int}(h0:0<=j/\j<k)(h1:k<=ul.length):((ul.take k.toNat).map Prod.fst)[j.toNat*1]?=some ((ul.getD j.toNat (.tuple #[],.add 0)).1):=by grind
theorem ah4{ul:List (Value×jQ)}{k:Int}(h0:0<k)(h1:(k-1).toNat<ul.length):(ul.getD (k-1).toNat (.tuple #[],.add 0)).1=(ul[(k-1).toNat]).1:=by
 rw[eT,eD h1];rfl
theorem ar5{W:List (BitVec 64)}{ul:List (Value×jQ)}{k:Int}(h0:0<k)(h1:(k-1).toNat<ul.length):SF (jH W (ul.map Prod.snd) k.toNat) (ul[(k-1).toNat]).2=jH W (ul.map Prod.snd) (k-1).toNat:=by
 rw[M3 (W:=W) (us:=ul.map Prod.snd) (k:=(k-1).toNat) Fa,List.getElem_map,show(k-1).toNat+1=k.toNat by omega]
theorem ar6{W:List (BitVec 64)}{ul:List (Value×jQ)}{k:Int}(h:M0 W.length (ul.map Prod.snd))(h1:(k-1).toNat<ul.length)(h0:0<k):match(ul[(k-1).toNat]).2 with| .add n=>n<=(jH W (ul.map Prod.snd) k.toNat).length| .set i _=>i<(jH W (ul.map Prod.snd) k.toNat).length:=by
 have h2:=Vk h (t:=k.toNat) (by rw[gF];omega)
 have e:(ul.map Prod.snd).take k.toNat=(ul.map Prod.snd).take (k-1).toNat++[(ul[(k-1).toNat]).2]:=by
  rw[show k.toNat=(k-1).toNat+1 by omega,xM,qp,eD h1];rfl
 rw[e,tH]at h2
 generalize(ul[(k-1).toNat]).2=u at h2⊢
 cases u with
 |add n=>exact h2.1
 |set i b=>exact h2.1
section
variable{P:Program}{n:Nat}{k:K}{xs:List (Nat×K)}{r:K}{σ:Env}{w:World}
theorem Zg{c:Code}(h:CW P n c k xs r σ w):CW P n (.scope c) k xs r σ w:=fun a ha=>wp_scope_straight (zD (fun e a' w' hq=>by cases e<;>exact hq) (h a ha))
theorem Zh{l:Nat}(h:k σ w):CW P n (.label l) k xs r σ w:=fun a ha=>wp_label ⟨σ,ha,h⟩
end
theorem Hp.mL{w0 w:World}{A R B L:List bu}(h:Hp w0 w (A++(B++(R++L)))):Hp w0 w (A++(R++(B++L))):=by
 refine h.perm (u7 A ?_)
 rw[<-dG,<-dG]
 exact List.Perm.append_right L tZ
def ar7(n:Nat)(k:Int):Int:=if k=1 then 1 else n
theorem Zi{n:Nat}{k:Int}(h0:0<=k)(h1:k<4):([I n,I 1,I n,I n]:List Value)[k.toNat*1]?=some (I (ar7 n k)):=by
 rcases(by omega:k=0\/k=1\/k=2\/k=3)with rfl|rfl|rfl|rfl<;>rfl
theorem Kq{n:Nat}{k:Int}(h0:0<=k)(h1:k<4):(FY (rT n)).take (k+1).toNat=(FY (rT n)).take k.toNat++[BitVec.ofInt 64 (ar7 n k)]:=by
 rcases(by omega:k=0\/k=1\/k=2\/k=3)with rfl|rfl|rfl|rfl<;>simp[FY,rT,ar7]
def M6(m:Nat)(k:Int):List jQ:=(List.range k.toNat).map fun j=>jQ.add (m+j)
theorem IN{m:Nat}{k:Int}(h0:0<=k):M6 m (k+1)=M6 m k++[jQ.add (m+k.toNat)]:=by
 rw[M6,show(k+1).toNat=k.toNat+1 by omega,xO,gU];rfl
theorem Zj{m:Nat}{us:List jQ}:us++M6 m 4=O1 us m:=by simp[M6,O1,List.range,List.range.loop]
theorem pM{a b c:List (Value×jQ)}{T:UT}{F:Nat}{B C:List bu}(h1:b.take a.length=a)(h2:c.take b.length=b)(hab:∀x∈b.drop a.length,pL T F B x)(hbc:∀x∈c.drop b.length,pL T F C x):c.take a.length=a/\∀x∈c.drop a.length,pL T F (C++B) x:=by
 have hl:a.length<=b.length:=by
  have:=aK List.length h1;rw[er]at this;omega
 constructor
 .rw[show c.take a.length=(c.take b.length).take a.length by rw[B6,r7 hl],h2,h1]
 intro x hx
 have e:c=b++c.drop b.length:=by conv=>lhs;rw[<-HC b.length c,h2]
 rw[e,K6 hl]at hx
 rcases fg.1 hx with q|q
 .exact(hab x q).mono fun e he=>bH _ he
 exact(hbc x q).mono fun e he=>dL _ he
end
end Go.Proofs.YtlhjdflgjbkpmaaGreatDoor.E
namespace Go.Proofs.YtlhjdflgjbkpmaaGreatDoor.M
section
open Go
theorem adX(r:Rl)(w:BitVec 64):(∃k:Int,eY r w=(k,true)/\0<=k/\k<pts r/\bQ r k=w)\/eY r w=(0,false):=by grind[Rl,eY,pts,bQ,oq]
theorem afE(r:Rl)(i j:Int):(jh r i j).2=true->0<=(jh r i j).1/\(jh r i j).1<pts r:=by grind[oq,ot,gx,pts,jh,A7]
def Es(r:Rl)(w:BitVec 64):Int:=if(eY r w).2=true then(eY r w).1 else-1
theorem ar8{r:Rl}{w:BitVec 64}{k:Int}(h0:0<=k)(hk:k<pts r)(h:bQ r k=w)(hf:∀j:Int,0<=j->j<k->bQ r j≠w):Es r w=k:=by
 rw[Es,DE h0 hk h hf];rfl
theorem aw2{r:Rl}{w:BitVec 64}{k:Int}(hk:¬k<pts r)(hf:∀j:Int,0<=j->j<k->bQ r j≠w):Es r w= -1:=by
 rw[Es,Gj hk hf];rfl
theorem Et(r:Rl)(w:BitVec 64):(0<=Es r w/\Es r w<pts r/\bQ r (Es r w)=w/\eY r w=(Es r w,true))\/(Es r w= -1/\(eY r w).2=false):=by grind[Es,adX]
def JE(r:Rl)(i j:Int):BitVec 64:=if(jh r (Es r (bQ r i)) (Es r (bQ r j))).2=true then bQ r (jh r (Es r (bQ r i)) (Es r (bQ r j))).1 else bQ r i|||bQ r j
theorem adY{r:Rl}{i j:Int}(h:(jh r (Es r (bQ r i)) (Es r (bQ r j))).2=true):JE r i j=bQ r (jh r (Es r (bQ r i)) (Es r (bQ r j))).1:=aX h
theorem ah5{r:Rl}{i j:Int}(h:(jh r (Es r (bQ r i)) (Es r (bQ r j))).2=false):JE r i j=bQ r i|||bQ r j:=aT (by rw[h];exact K7)
theorem Qh{r:Rl}{a b:BitVec 64}(h:Es r a<0\/Es r b<0):a|||b=js r a b:=by
 rcases h with h|h
 .rcases Et r a with q|q
  .omega
  exact(Ir q.2).symm
 rcases Et r b with q|q
 .omega
 exact(It q.2).symm
theorem ah6{r:Rl}{a b:BitVec 64}(h:¬(Es r a<0\/Es r b<0)):JE r (Es r a) (Es r b)=js r a b:=by grind[Et,JE,js]
def ow(r:Rl)(k:Nat):List (BitVec 64):=(List.range k).map fun(i:Nat)=>bQ r (i:Int)
theorem Ag{r:Rl}{k:Nat}:(ow r k).length=k:=by simp[ow]
theorem adZ{r:Rl}{k:Nat}{i:Int}(h:0<=i/\i<k):(ow r k).getD i.toNat 0=bQ r i:=by grind[ow]
theorem Uc{r:Rl}{k:Int}(h:0<=k):ow r (k+1).toNat=ow r k.toNat++[bQ r k]:=by
 rw[ow,show(k+1).toNat=k.toNat+1 by omega,xO,gU,Lg,gk h];rfl
def Ah(r:Rl)(i:Int)(n k:Nat):List (BitVec 64):=(List.range n).map fun(j:Nat)=>if j<k then JE r i (j:Int)else 0
theorem Co{r:Rl}{i:Int}{n k:Nat}:(Ah r i n k).length=n:=by simp[Ah]
theorem ad0{r:Rl}{i:Int}{n:Nat}:List.replicate n (0#64)=Ah r i n 0:=by
 apply X0 (by simp[Ah])
 intro j h1 h2
 simp[Ah]
theorem Vv{r:Rl}{i:Int}{n:Nat}{k:Int}{x:BitVec 64}(h:0<=k/\k<n)(hx:x=JE r i k):(Ah r i n k.toNat).set k.toNat x=Ah r i n (k+1).toNat:=by grind[List.ext_getElem,Ah,List.length_set,Co,Int.toNat_of_nonneg]
theorem ad1{r:Rl}{i:Int}{n:Nat}{k:Int}{x y:BitVec 64}(h:0<=k/\k<n)(hx:y=JE r i k):((Ah r i n k.toNat).set k.toNat x).set k.toNat y=Ah r i n (k+1).toNat:=by simp_all[Vv]
theorem am0{r:Rl}{i:Int}{n:Nat}{j:Int}(h:0<=j/\j<n):(Ah r i n n).getD j.toNat 0=JE r i j:=by grind[Ah]
end
end Go.Proofs.YtlhjdflgjbkpmaaGreatDoor.M
namespace Go.Proofs.YtlhjdflgjbkpmaaGreatDoor.E
section
open Go Go.RowKit Go.Proofs.YtlhjdflgjbkpmaaGreatDoor.M
def lG(r:Rl)(d s:Int)(vw vj:Value):List Value:=wH r++[.int .u32 d,.int .i32 s,.int .u32 0,vw,vj]
section
variable{r:Rl}{d s:Int}{vw vj v:Value}
theorem afu:(lG r d s vw vj).length=70:=by simp[lG,pG]
theorem aw3:(lG r d s vw vj).toArray[0]?=some (I r.n):=by simp[lG,wH]
theorem SL{k:Nat}(hk:k<5):(lG r d s vw vj).toArray[65+k]?=([.int .u32 d,.int .i32 s,.int .u32 0,vw,vj]:List Value)[k]?:=by grind[lG,pG]
theorem abz:(lG r d s vw vj).toArray[65]?=some (.int .u32 d):=SL (k:=0) J
theorem apo:(lG r d s vw vj).toArray[66]?=some (.int .i32 s):=SL (k:=1) J
theorem Eu:(lG r d s vw vj).toArray[68]?=some vw:=SL (k:=3) J
theorem apq:(lG r d s vw vj).toArray[69]?=some vj:=SL (k:=4) J
theorem KV{k:Nat}:(lG r d s vw vj).toArray.setIfInBounds (65+k) v=(wH r++([.int .u32 d,.int .i32 s,.int .u32 0,vw,vj]:List Value).set k v).toArray:=by simp_all[lG,pG]
theorem GD:(lG r d s vw vj).toArray.setIfInBounds 68 v=(lG r d s v vj).toArray:=KV (k:=3)
theorem ah7:(lG r d s vw vj).toArray.setIfInBounds 69 v=(lG r d s vw v).toArray:=KV (k:=4)
theorem ah8{e:Int}:(lG r d s vw vj).toArray.setIfInBounds 65 (.int .u32 e)=(lG r e s vw vj).toArray:=KV (k:=0)
theorem Vw{e:Int}:(lG r d s vw vj).toArray.setIfInBounds 66 (.int .i32 e)=(lG r d e vw vj).toArray:=KV (k:=1)
theorem am1:((lG r d s vw vj).toArray.toList.drop 0).take (wH r).length=wH r:=by simp[lG]
end
structure SM where
 v:Value
 l:List (BitVec 64)
def ru0:SM:=⟨.slice none 0 0,[]⟩
theorem asa{rs:List SM}{k:Int}(h:0<=k/\k<rs.length):(rs.map SM.v)[k.toNat*1]?=some (rs.getD k.toNat ru0).v:=by grind
def Fx(r:Rl)(n k:Nat):List (List (BitVec 64)):=(List.range k).map fun(i:Nat)=>Ah r (i:Int) n n
theorem Zk{r:Rl}{n:Nat}{k:Int}(h:0<=k):Fx r n (k+1).toNat=Fx r n k.toNat++[Ah r k n n]:=by
 rw[Fx,show(k+1).toNat=k.toNat+1 by omega,xO,gU,Lg,gk h];rfl
structure IP(K:Vu)(r:Rl)(vw vj:Value)(rs:List SM):Prop where
 words:pB K vw 1 (ow r (pts r).toNat).length ((ow r (pts r).toNat).map U)
 ah9:pB K vj 1 rs.length (rs.map SM.v)
 each:∀x∈rs,pB K x.v 1 x.l.length (x.l.map U)
 rs:rs.map SM.l=Fx r (pts r).toNat (pts r).toNat
section
variable{K K':Vu}{r:Rl}{vw vj:Value}{rs:List SM}
theorem IP.mono(h:IP K r vw vj rs)(hl:Le K K'):IP K' r vw vj rs:=⟨h.words.mono hl,h.ah9.mono hl,fun x hx=>(h.each x hx).mono hl,h.rs⟩
theorem IP.len(h:IP K r vw vj rs):rs.length=(pts r).toNat:=by
 have:=aK List.length h.rs
 simpa[Fx]using this
theorem IP.row(h:IP K r vw vj rs){i:Int}(hi:0<=i/\i<pts r):(rs.getD i.toNat ru0).l=Ah r i (pts r).toNat (pts r).toNat/\pB K (rs.getD i.toNat ru0).v 1 (rs.getD i.toNat ru0).l.length ((rs.getD i.toNat ru0).l.map U):=by
 have hl:=h.len
 have hm:i.toNat<rs.length:=J
 have e:rs.getD i.toNat ru0=rs[i.toNat]:=by rw[eT,eD hm];rfl
 rw[e]
 refine⟨?_,h.each _ (r8 hm)⟩
 have h2:(rs.map SM.l)[i.toNat]?=some (Ah r i (pts r).toNat (pts r).toNat):=by
  rw[h.rs,Fx,qp,zy J,qU,gk hi.1]
 rw[qp,eD hm]at h2
 simpa using h2
end
section
variable{P:Program}{σ:Env}{w0 w:World}{L:List bu}{dst:Option Tmp}{ty t:TypeId}{pos:String}{bO:Array Edge}{g:Option (Nat×Bool)}{x y:Operand}{v u:Value}{i b o m:Nat}{xs:List Value}{r:Rl}
theorem Hp.setCell{c:Array Value}{e:TypeId}(h:Hp w0 w L)(hi:L[i]?=some (.blk b (.cells c e (0,0)))):Hp w0 (w.setCell ⟨b,o,none⟩ v) (L.set i (.blk b (.cells (c.setIfInBounds o v) e (0,0)))):=by
 have e1:w.setCell ⟨b,o,none⟩ v=w.setRow b (c.setIfInBounds o v):=by
  unfold World.setCell World.setRow
  congr 1
  have hg:=h.blk hi
  have hlt:b<w.heap.size:=(B0.1 hg).1
  have hv:w.heap[b]= .cells c e (0,0):=(B0.1 hg).2
  apply Array.ext aJ
  intro k h1 h2
  rw[Array.getElem_modify,Array.getElem_modify]
  by_cases q:b=k
  .subst q;simp[hv]
  rw[aT q,aT q]
 rw[e1];exact h.set hi
theorem Hp.fz{c:Array Value}{e:TypeId}(h:Hp w0 w L)(hi:L[i]?=some (.blk b (.cells c e (0,0)))):w.frozen? ⟨b,o,none⟩=false:=by
 have hg:=h.blk hi
 unfold World.frozen?
 simp only[hg]
 simp
theorem IQ{d:TypeDesc}{a s:Int}{vw vj:Value}{fr:Nat×Nat}{e:TypeId}(hu:P.underlying t=some d)(hd:d.isRow=true)(hi:(P.info? t).map (·.size)=some 65)(hx:ev σ x= .pointer (some ⟨b,0,none⟩))(hg:w.heap[b]?=some (.cells (lG r a s vw vj).toArray e fr)):
 (execOp (ev σ) ⟨dst,.load t x,ty,pos,bO,g⟩).run P w= .ok (.value (.agg (dS r))) w:=by grind[jr,ja,wH,pG,am1]
theorem sL{n:Nat}{k:Int}(h:Sl w v 1 (ow r n).length ((ow r n).map U))(hk:0<=k/\k<n):w.cell? ⟨sb v,so v+k.toNat*1,none⟩=some (U (bQ r k)):=by
 rw[<-adZ hk]
 refine h.cell _ _ ?_
 rw[lU,qp,eT,eD (by rw[Ag];omega)];rfl
theorem mk_zero{i:Int}{n:Nat}:(List.replicate n (0#64)).flatMap (fun x:BitVec 64=>[U x])=(Ah r i n 0).map U:=by
 rw[<-ad0]
 induction n with
 |zero=>rfl
 |succ n ih=>rw[List.replicate_succ,uF,lR,ih];rfl
end
def KN:Vu:=fun _ _=>False
theorem KN.le{K:Vu}:Le KN K:=fun _ _ h=>h.elim
def TbZ(TT:TypeId)(r:Rl)(b:Nat)(Z:List bu):Prop:=
 Z=[.blk b (.cells (lG r 0 0 (.slice none 0 0) (.slice none 0 0)).toArray TT (0,0))]\/
 ∃(v1 v2:Value) (rs:List SM) (Zr:List bu),Z= .blk b (.cells (lG r 1 0 v1 v2).toArray TT (0,0))::Zr/\IP (Kz KN Zr) r v1 v2 rs
theorem aia{K:Vu}{Zr z:List bu}{rs:List SM}{v:Value}{n:Nat}{l:List (BitVec 64)}(h:∀x∈rs,pB (Kz K Zr) x.v 1 x.l.length (x.l.map U))(hv:pB (Kz K z) v 1 n (l.map U))(hn:n=l.length:=by first|rfl|(rw[Co])):∀x∈rs++[SM.mk v l],pB (Kz K (z++Zr)) x.v 1 x.l.length (x.l.map U):=fun x hx=>by
 rcases fg.1 hx with q|q
 .exact(h x q).mono (Le.zz fun e he=>bH _ he)
 rw[gG.1 q];subst hn;exact hv.mono (Le.zz fun e he=>dL _ he)
theorem Hp.sM{w0 w:World}{A Zf R:List bu}(h:Hp w0 w (A++(Zf++R))):Hp w0 w (Zf++(A++R)):=h.perm (by
 rw[<-dG,<-dG]
 exact tZ.append_right R)
theorem aib{P:Program}{σ:Env}{w:World}{dst:Option Tmp}{ty:TypeId}{pos:String}{bO:Array Edge}{g:Option (Nat×Bool)}{x:Operand}{fn:Fn}{v:Value}(hx:ev σ x=v):
  (execOp (ev σ) ⟨dst,.makeFunc fn #[x] #[],ty,pos,bO,g⟩).run P w= .ok (.value (.func fn #[v] #[])) w:=by
 simp[execOp,hx,Instr.makeFunc]
theorem apr(r:Rl)(w:BitVec 64): -1<=Es r w/\(Es r w<0\/Es r w<pts r):=by grind[Et]
abbrev J2:=Nat->Option (Nat×Rl)
def aic(o:Option (Nat×Rl)):Value:= .pointer (o.map fun p=>⟨p.1,0,none⟩)
def Vx(tb:J2):List Value:=(List.range 8).map fun i=>aic (tb i)
theorem am2(tb:J2):(Vx tb).length=8:=by simp[Vx]
def tb0:J2:=fun _=>none
def Vy(tb:J2)(k:Nat)(p:Nat×Rl):J2:=fun i=>if i=k then some p else tb i
theorem asc(tb:J2){k:Nat}(h:k<8):(Vx tb).toArray[0+k*1]?=some (aic (tb k)):=by grind[Vx]
theorem am3(tb:J2){k:Nat}{p:Nat×Rl}:(Vx tb).toArray.setIfInBounds (0+k*1) (.pointer (some ⟨p.1,0,none⟩))=(Vx (Vy tb k p)).toArray:=by
 rw[gN,lU,nW]
 congr 1
 apply X0 (by simp[Vx])
 intro j h1 h2
 rw[zA]
 simp only[Vx,List.getElem_map,List.getElem_range,Vy]
 by_cases e:k=j
 .subst e;rw[aX O,aX O];rfl
 rw[aT e,aT (fun q=>e q.symm)]
def pu(tb:J2)(a c:El):El:=fun i=>match tb i with
 |some p=>js p.2 (a i) (c i)
 |none=>a i|||c i
def wM(TT:TypeId):List (Nat×Rl)->List bu->Prop
 |[],Z=>Z=[]
 |p::tl,Z=>∃z Y,Z=z++Y/\TbZ TT p.2 p.1 z/\wM TT tl Y
theorem wM.one{TT:TypeId}{b:Nat}{r:Rl}{z:List bu}(h:TbZ TT r b z):wM TT [(b,r)] z:=⟨z,[],aJ,h,rfl⟩
theorem wM.app{TT:TypeId}{tl tm:List (Nat×Rl)}{Z Y:List bu}(h:wM TT tl Z)(k:wM TT tm Y):wM TT (tl++tm) (Z++Y):=by
 induction tl generalizing Z with
 |nil=>have e:Z=[]:=h;subst e;exact k
 |cons p tl ih=>
  obtain⟨z,X,rfl,h1,h2⟩:=h
  exact⟨z,X++Y,aJ,h1,ih h2⟩
theorem wM.pick{TT:TypeId}{tl:List (Nat×Rl)}{Z:List bu}{b:Nat}{r:Rl}(h:wM TT tl Z)(hm:(b,r)∈tl):∃z Y,TbZ TT r b z/\Z.Perm (z++Y)/\∀z',TbZ TT r b z'->∃Z',wM TT tl Z'/\(z'++Y).Perm Z':=by
 induction tl generalizing Z with
 |nil=>cases hm
 |cons p tl ih=>
  obtain⟨z,X,rfl,h1,h2⟩:=h
  rcases c8.1 hm with e|hm
  .subst e
   exact⟨z,X,h1,Rt _,fun z' hz'=>⟨z'++X,⟨z',X,rfl,hz',h2⟩,Rt _⟩⟩
  obtain⟨z1,Y,k1,k2,k3⟩:=ih h2 hm
  refine⟨z1,z++Y,k1,?_,fun z' hz'=> ?_⟩
  .refine(u7 z k2).trans ?_
   rw[<-dG,<-dG]
   exact tZ.append_right Y
  obtain⟨Z',q1,k5⟩:=k3 z' hz'
  refine⟨z++Z',⟨z,Z',rfl,h1,q1⟩,?_⟩
  refine List.Perm.trans ?_ (u7 z k5)
  rw[<-dG,<-dG]
  exact tZ.append_right Y
theorem wc{w:World}{b off:Nat}{cs:Array Value}{te:TypeId}{fr:Nat×Nat}{v:Value}(h:w.heap[b]?=some (.cells cs te fr))(hc:cs[off]?=some v):w.cell? ⟨b,off,none⟩=some v:=by
 rw[xS w b off cs te fr h];exact hc
theorem asd(tb:J2){k:Int}(h:0<=k/\k<8):(Vx tb).toArray[k.toNat]?=some (aic (tb k.toNat)):=by grind[asc]
theorem Qi{P:Program}{σ:Env}{w:World}{dst:Option Tmp}{t te ty u:TypeId}{pos:String}{bO:Array Edge}{g:Option (Nat×Bool)}{x y:Operand}{o:Option (Nat×Rl)}(ht:P.underlying t=some (.pointer te))(hx:ev σ x=aic o)(hy:ev σ y= .pointer none):
  (execOp (ev σ) ⟨dst,.binOp .neq t x y u,ty,pos,bO,g⟩).run P w= .ok (.value (.bool o.isSome)) w:=by
 cases o with
 |none=>
  have h:(binOp .neq t (.pointer none) (.pointer none)).run P w= .ok (.bool false) w:=by
   simp only[binOp];simp[Op.equal,Op.maxDepth,Ze 9999 ht]
  have he:(eqGuard .neq t x y (.pointer none) (.pointer none))=pure ():=rfl
  have hx':ev σ x= .pointer none:=hx
  simp only[execOp,hx',hy,he];simp[h]
 |some p=>
  have h:(binOp .neq t (.pointer (some ⟨p.1,0,none⟩)) (.pointer none)).run P w= .ok (.bool true) w:=by
   simp only[binOp];simp[Op.equal,Op.maxDepth,Fw 9999 ht]
  have he:(eqGuard .neq t x y (.pointer (some ⟨p.1,0,none⟩)) (.pointer none))=pure ():=rfl
  have hx':ev σ x= .pointer (some ⟨p.1,0,none⟩):=hx
  simp only[execOp,hx',hy,he];simp[h]
theorem Hp.aw4{w0 w:World}{A Zt R z Y:List bu}(h:Hp w0 w (A++(Zt++R)))(hp:Zt.Perm (z++Y)):Hp w0 w (z++(Y++(A++R))):=by
 refine h.sM.perm ?_
 rw[<-dG z]
 exact hp.append_right _
theorem Hp.aps{w0 w:World}{A Z' R z Y:List bu}(h:Hp w0 w (z++(Y++(A++R))))(hp:(z++Y).Perm Z'):Hp w0 w (A++(Z'++R)):=by
 refine h.perm ?_
 rw[<-dG z]
 refine(hp.append_right _).trans ?_
 rw[<-dG,<-dG]
 exact tZ.append_right R
theorem ase{tb:J2}{a c:El}{k:Int}{e:El}{b:Nat}{r:Rl}(hr:e=m7 (pu tb a c) a k)(h0:0<=k)(hp:tb k.toNat=some (b,r)):tA e k.toNat (js r (e k.toNat) (c k.toNat))=m7 (pu tb a c) a (k+1):=by
 subst hr
 refine uQ h0 ?_
 have e1:m7 (pu tb a c) a k k.toNat=a k.toNat:=aT J
 rw[e1];simp only[pu,hp]
theorem aw5{tb:J2}{a c:El}{k:Int}{e:El}(hr:e=m7 (pu tb a c) a k)(h0:0<=k)(hp:(tb k.toNat).isSome=false):tA e k.toNat (e k.toNat|||c k.toNat)=m7 (pu tb a c) a (k+1):=by
 subst hr
 refine uQ h0 ?_
 have e1:m7 (pu tb a c) a k k.toNat=a k.toNat:=aT J
 have hp':tb k.toNat=none:=by cases h:tb k.toNat with
  |none=>rfl
  |some p=>rw[h]at hp;cases hp
 rw[e1];simp only[pu,hp']
theorem aid(tb:J2){k b:Nat}(r:Rl):(Vx tb).toArray.setIfInBounds (0+k*1) (.pointer (some ⟨b,0,none⟩))=(Vx (Vy tb k (b,r))).toArray:=am3 (p:=(b,r)) tb
def IS(s:Sh)(k:Int)(tb:J2):Prop:=∀i:Nat,i<8->if(i:Int)<k/\(i:Int)<s.aY.length/\(s.aY.getD i vI).kind=4 then∃b,tb i=some (b,(s.aY.getD i vI).rel)else tb i=none
theorem IS.start(s:Sh):IS s 0 tb0:=by grind[Sh,IS,tb0]
theorem IS.put{s:Sh}{k:Int}{tb:J2}{b:Nat}{r:Rl}(h:IS s k tb)(h0:0<=k)(h1:k<s.aY.length)(h2:(s.aY.getD k.toNat vI).kind=4)(hr:(s.aY.getD k.toNat vI).rel=r):IS s (k+1) (Vy tb k.toNat (b,r)):=fun i hi=>by
 have:=h i hi
 unfold Vy
 by_cases e:i=k.toNat
 .subst e
  rw[aX ⟨J,J,h2⟩,aX O,hr];exact⟨b,rfl⟩
 rw[aT e]
 by_cases q:(i:Int)<k/\(i:Int)<s.aY.length/\(s.aY.getD i vI).kind=4
 .rw[aX q]at this;rw[aX ⟨J,q.2⟩];exact this
 rw[aT q]at this;rw[aT fun w=>q ⟨J,w.2⟩];exact this
theorem IS.skip{s:Sh}{k:Int}{tb:J2}(h:IS s k tb)(h0:0<=k)(h2:¬(k<8/\(s.aY.getD k.toNat vI).kind=4)):IS s (k+1) tb:=fun i hi=>by
 have:=h i hi
 by_cases e:i=k.toNat
 .subst e
  rw[aT J]at this
  rw[aT fun w=>h2 ⟨J,w.2.2⟩];exact this
 by_cases q:(i:Int)<k/\(i:Int)<s.aY.length/\(s.aY.getD i vI).kind=4
 .rw[aX q]at this;rw[aX ⟨J,q.2⟩];exact this
 rw[aT q]at this;rw[aT fun w=>q ⟨J,w.2⟩];exact this
def aie(s:Sh)(tb:J2):Prop:=∀i:Nat,i<8->if(i:Int)<s.aY.length/\(s.aY.getD i vI).kind=4 then∃b,tb i=some (b,(s.aY.getD i vI).rel)else tb i=none
theorem IS.all{s:Sh}{k:Int}{tb:J2}(h:IS s k tb)(hk:¬k<s.aY.length):aie s tb:=fun i hi=>by
 have:=h i hi
 by_cases q:(i:Int)<s.aY.length/\(s.aY.getD i vI).kind=4
 .rw[aX q];rw[aX ⟨J,q⟩]at this;exact this
 rw[aT q];rw[aT fun w=>q w.2]at this;exact this
theorem ad2{s:Sh}{tb:J2}(h:aie s tb)(a c:El):rS (pu tb a c) (ef s a c):=fun i hi=>by
 have:=h i hi
 unfold pu ef UO
 by_cases q:(i:Int)<s.aY.length/\(s.aY.getD i vI).kind=4
 .rw[aX q]at this⊢
  obtain⟨b,e⟩:=this;simp only[e]
 rw[aT q]at this⊢
 simp only[this]
theorem am4{tb:J2}{tl:List (Nat×Rl)}{k:Nat}{q:Nat×Rl}(h:∀i,i<8->∀p,tb i=some p->p∈tl):∀i,i<8->∀p,Vy tb k q i=some p->p∈q::tl:=by grind[Vy]
theorem wM.cons{TT:TypeId}{tl:List (Nat×Rl)}{Z:List bu}{b:Nat}{r:Rl}(h:wM TT tl Z):wM TT ((b,r)::tl) ([.blk b (.cells (lG r 0 0 (.slice none 0 0) (.slice none 0 0)).toArray TT (0,0))]++Z):=⟨_,_,rfl,.inl O,h⟩
structure Cn where
 e:Int
 l:Int
 j:Int
def cn0:Cn:=⟨0,0,0⟩
def Cn.ok(c:Cn):Prop:=(0<=c.e/\c.e<=1000000000000)/\(0<=c.l/\c.l<=1000000000000)/\(0<=c.j/\c.j<=1000000000000)
inductive Kd
 |e
 |l
 |j
def Kd.up(c:Cn):Kd->Cn
 | .e=>⟨c.e+1,c.l,c.j⟩
 | .l=>⟨c.e,c.l+1,c.j⟩
 | .j=>⟨c.e,c.l,c.j+1⟩
inductive Wr
 |base (p:kP) (tb:J2)
 |wrap (m:Nat) (d:Wr)
structure OP where
 ofE:FuncId
 leq:FuncId
 jn:FuncId
 w1:FuncId
 w2:FuncId
 w3:FuncId
 w4:FuncId
 tsh:TypeId
 t8:TypeId
 tfn:TypeId
 tm:TypeId
 aDP:TypeId
 aw6:TypeId
 tt:TypeId
 fr:List bu
abbrev pt(b:Nat):Value:= .pointer (some ⟨b,0,none⟩)
abbrev jL(f:FuncId)(cs:Array Value):Value:= .func (.func f) #[] cs
def BA(T:OP)(K:Vu):Wr->Value->Value->Value->Prop
 | .base p tb,e,l,j=>∃B1 B2,e=jL T.ofE #[pt B1]/\l=jL T.leq #[]/\j=jL T.jn #[pt B2]/\K B1 (.cells (qJ p) T.tsh (0,0))/\k7 K p/\K B2 (.cells (Vx tb).toArray T.t8 (0,0))
 | .wrap m d,e,l,j=>∃b2 b3 b5 e' l' j',e=jL T.w2 #[pt b5,pt b3]/\l=jL T.w3 #[pt b5,pt b3]/\j=jL T.w4 #[pt b5,pt b3]/\K b5 (.cells #[jL T.w1 #[pt b2]] T.tfn (0,0))/\K b2 (.cells #[pt m] T.tm (0,0))/\K b3 (.cells #[e',l',j'] T.aDP (0,0))/\BA T K d e' l' j'
theorem BA.mono{T:OP}{K K':Vu}(hl:Le K K'){d:Wr}:∀{e l j:Value},BA T K d e l j->BA T K' d e l j:=by
 induction d with
 |base p tb=>rintro e l j ⟨B1,B2,h1,h2,h3,h4,h5,h6⟩;exact⟨B1,B2,h1,h2,h3,hl _ _ h4,h5.mono hl,hl _ _ h6⟩
 |wrap m d ih=>rintro e l j ⟨b2,b3,b5,e',l',j',h1,h2,h3,h4,h5,h6,h7⟩;exact⟨b2,b3,b5,e',l',j',h1,h2,h3,hl _ _ h4,hl _ _ h5,hl _ _ h6,ih h7⟩
theorem BA.one{T:OP}{K:Vu}{d:Wr}{e l j:Value}(h:BA T K d e l j):∃f g k a b c,e=jL f a/\l=jL g b/\j=jL k c:=by
 cases d with
 |base p tb=>obtain⟨B1,B2,h1,h2,h3,-⟩:=h;exact⟨_,_,_,_,_,_,h1,h2,h3⟩
 |wrap m d=>obtain⟨b2,b3,b5,e',l',j',h1,h2,h3,-⟩:=h;exact⟨_,_,_,_,_,_,h1,h2,h3⟩
def Wr.sh:Wr->kP
 | .base p _=>p
 | .wrap _ d=>d.sh
def Wr.tb:Wr->J2
 | .base _ tb=>tb
 | .wrap _ d=>d.tb
def Wr.Fg(ids:List Nat)(tl:List (Nat×Rl)):Wr->Prop
 | .base p tb=>aie p.sh tb/\∀i,i<8->∀q,tb i=some q->q∈tl
 | .wrap m d=>m∈ids/\d.Fg ids tl
abbrev Ct:=Nat->Cn
def wN(f:Ct)(m:Nat)(c:Cn):Ct:=fun i=>if i=m then c else f i
def jR(k:Kd)(m:Nat)(f:Ct):Ct:=wN f m (k.up (f m))
def Wr.tick(k:Kd):Wr->Ct->Ct
 | .base _ _,f=>f
 | .wrap m d,f=>d.tick k (jR k m f)
def sN(T:OP)(m:Nat)(c:Cn):bu:= .blk m (.cells #[B true,I c.e,I c.l,I c.j] T.aw6 (0,0))
def kR(T:OP)(ids:List Nat)(f:Ct)(tl:List (Nat×Rl))(Z:List bu):Prop:=∃Zt,wM T.tt tl Zt/\Z=(ids.map (fun m=>sN T m (f m))++T.fr)++Zt
theorem kR.pick{T:OP}{ids:List Nat}{f:Ct}{tl:List (Nat×Rl)}{Z R:List bu}{m:Nat}{w0 w:World}(h:kR T ids f tl Z)(hm:m∈ids)(hH:Hp w0 w (Z++R)):
  ∃Y,Z.Perm ([sN T m (f m)]++Y)/\∀c,∃Z',kR T ids (wN f m c) tl Z'/\([sN T m c]++Y).Perm Z':=by
 obtain⟨Zt,h1,rfl⟩:=h
 obtain⟨pre,post,rfl⟩:=XO hm
 have apt:∀q∈pre++post,q≠m:=by
  have e:((pre++m::post).map (fun i=>sN T i (f i))++T.fr++Zt++R).Perm (sN T m (f m)::((pre++post).map (fun i=>sN T i (f i))++T.fr++Zt++R)):=by
   simp only[gU,lR,dG,gA]
   exact EY
  have h2:=(hH.perm e).LP
  intro q hq hqe
  have h3:=(lQ.1 h2).1 (sN T q (f q)) (dL _ (dL _ (dL _ (fZ.2 ⟨q,hq,rfl⟩))))
  rcases h3 with h3|h3
  .cases h3
  exact h3 (by show some m=some q;rw[hqe])
 have same:∀(c:Cn) (l:List Nat),(∀q∈l,q≠m)->(l.map fun i=>sN T i (wN f m c i))=l.map fun i=>sN T i (f i):=fun c l hl=>by
  apply HE
  intro q hq
  unfold wN;rw[aT (hl q hq)]
 refine⟨(pre++post).map (fun i=>sN T i (f i))++T.fr++Zt,?_,fun c=>⟨_,⟨Zt,h1,rfl⟩,?_⟩⟩
 .simp only[gU,lR,dG,gA,eN]
  exact EY
 have e1:=same c pre fun q hq=>apt q (dL _ hq)
 have e2:=same c post fun q hq=>apt q (bH _ hq)
 have e3:wN f m c m=c:=aX O
 simp only[gU,lR,e1,e2,e3,dG,gA,eN]
 exact EY.symm
def Ai(P:Program)(v:Value)(args:List Value)(w:World)(Q:Ending->World->Prop):Prop:=
 ∃(f:FuncId) (cs:List Value),v=jL f cs.toArray/\(∀args w,(callFunc f args).run P w= .ok (.enter f args) w)/\Calls P f (args++cs).toArray w Q
theorem Ai.mono{P:Program}{v:Value}{args:List Value}{w:World}{Q Q':Ending->World->Prop}(h:Ai P v args w Q)(hq:∀e w',Q e w'->Q' e w'):Ai P v args w Q':=by
 obtain⟨f,cs,h1,h2,h3⟩:=h;exact⟨f,cs,h1,h2,h3.mono hq⟩
theorem Hp.o7{w0 w:World}{A Zf R:List bu}(h:Hp w0 w (Zf++(A++R))):Hp w0 w (A++(Zf++R)):=h.perm (by
 rw[<-dG,<-dG]
 exact tZ.append_right R)
section
variable{P:Program}{σ:Env}{w w':World}{dst:Option Tmp}{t ty u:TypeId}{pos:String}{bO:Array Edge}{g:Option (Nat×Bool)}{x y x1 x2:Operand}{v v1 v2:Value}{f:FuncId}{ats:Array TypeId}
theorem ad3{Hx:List Operand}{vs:List Value}(hf:(callFunc f vs.toArray).run P w= .ok (.value v) w')(h:Hx.map (ev σ)=vs):(execOp (ev σ) ⟨dst,.call {callee:= .value (.func f),args:=Hx.toArray,argTypes:=ats},ty,pos,bO,g⟩).run P w= .ok (.value v) w':=by
 subst h
 have hf':(callFunc f (Hx.map (ev σ)).toArray).run P w= .ok (.value v) w':=hf
 simp[execOp,resolve,ev,Deferred.ofValue,invoke]at hf'⊢
 rw[hf']
theorem Zl(hf:(callFunc f #[v1,v2]).run P w= .ok (.value v) w')(h1:ev σ x1=v1)(h2:ev σ x2=v2):(execOp (ev σ) ⟨dst,.call {callee:= .value (.func f),args:=#[x1,x2],argTypes:=ats},ty,pos,bO,g⟩).run P w= .ok (.value v) w':=by grind[ad3]
theorem am6{a:Int}(h: -9223372036854775808<=a+1/\a+1<=9223372036854775807):(Op.intArith .add .i64 a 1).run P w= .ok (.int .i64 (a+1)) w:=by
 simp[Op.intArith,Du h]
theorem Qj{fn:Fn}{a c:Array Value}(d:Nat){ps rs:Array TypeId}{vr:Bool}(ht:P.underlying t=some (.func ps rs vr)):(Op.equalIn (d+1) t (.func fn a c) .nilFunc).run P w= .ok false w:=by
 simp[Op.equalIn,kf ht]
theorem Vz{fn:Fn}{a c:Array Value}{ps rs:Array TypeId}{vr:Bool}(ht:P.underlying t=some (.func ps rs vr))(hx:ev σ x= .func fn a c)(hy:ev σ y= .nilFunc):
  (execOp (ev σ) ⟨dst,.binOp .eql t x y u,ty,pos,bO,g⟩).run P w= .ok (.value (.bool false)) w:=by
 have h:(binOp .eql t (.func fn a c) .nilFunc).run P w= .ok (.bool false) w:=by
  simp only[binOp];simp[Op.equal,Op.maxDepth,Qj 9999 ht]
 have he:(eqGuard .eql t x y (.func fn a c) .nilFunc)=pure ():=rfl
 simp only[execOp,hx,hy,he];simp[h]
theorem VA{fn:Fn}{a c:Array Value}{ps rs:Array TypeId}{vr:Bool}(ht:P.underlying t=some (.func ps rs vr))(hx:ev σ x= .func fn a c)(hy:ev σ y= .nilFunc):
  (execOp (ev σ) ⟨dst,.binOp .neq t x y u,ty,pos,bO,g⟩).run P w= .ok (.value (.bool true)) w:=by
 have h:(binOp .neq t (.func fn a c) .nilFunc).run P w= .ok (.bool true) w:=by
  simp only[binOp];simp[Op.equal,Op.maxDepth,Qj 9999 ht]
 have he:(eqGuard .neq t x y (.func fn a c) .nilFunc)=pure ():=rfl
 simp only[execOp,hx,hy,he];simp[h]
end
structure Aj where
 kind:Int
 lv:Value
 l:List dU
 vv:Value
 v:List El
 a:El
 b:El
def am7:Aj:=⟨0,.slice none 0 0,[],.slice none 0 0,[],dg,dg⟩
def aMY(x:Aj):List Value:=I x.kind::x.lv::x.vv::(pH x.a++pH x.b)
structure aif(K:Vu)(x:Aj):Prop where
 ins:pB K x.lv 10 x.l.length (x.l.flatMap j9)
 ak:pB K x.vv 8 x.v.length (x.v.flatMap pH)
theorem aif.mono{K K':Vu}{x:Aj}(h:aif K x)(hl:Le K K'):aif K' x:=⟨h.ins.mono hl,h.ak.mono hl⟩
def VB(K:Vu)(l:List Aj):Prop:=∀x∈l,aif K x
theorem VB.mono{K K':Vu}{l:List Aj}(h:VB K l)(hl:Le K K'):VB K' l:=fun x hx=>(h x hx).mono hl
theorem VB.at{K:Vu}{l:List Aj}(h:VB K l){k:Int}(h0:0<=k)(h1:k<l.length):aif K (l.getD k.toNat am7):=h _ (lO (fD (d:=am7) h0 h1))
def aMZ(g:El×Bool):List Value:=pH g.1++[B g.2]
def aM0(d:Wr)(x:Aj):El×Bool:=if x.kind=1 then(dg,cS x.a x.b)else if x.kind=2 then(pu d.tb x.a x.b,false)else ey d.sh.sh x.l x.v
def aM1(s:Sh)(x:Aj):El×Bool:=if x.kind=1 then(dg,cS x.a x.b)else if x.kind=2 then(ef s x.a x.b,false)else ey s x.l x.v
def aih(x:Aj):Kd:=if x.kind=1 then .l else if x.kind=2 then .j else .e
def Fy(n:Nat)(f:Ct):Prop:=∀m,(0<=(f m).e/\(f m).e<=n)/\(0<=(f m).l/\(f m).l<=n)/\(0<=(f m).j/\(f m).j<=n)
theorem Fy.ok{n:Nat}{f:Ct}(h:Fy n f)(hn:n<=1000000000000)(m:Nat):(f m).ok:=by
 obtain⟨⟨a,b⟩,⟨c,d⟩,e,g⟩:=h m
 exact⟨⟨a,J⟩,⟨c,J⟩,e,J⟩
theorem Fy.tick{n:Nat}{f:Ct}(h:Fy n f)(k:Kd)(m:Nat):Fy (n+1) (jR k m f):=fun i=>by
 obtain⟨⟨a,b⟩,⟨c,d⟩,e,g⟩:=h i
 obtain⟨⟨a',b'⟩,⟨c',d'⟩,e',g'⟩:=h m
 unfold jR wN
 by_cases q:i=m
 .rw[aX q]
  cases k<;>simp only[Kd.up]<;>omega
 rw[aT q];omega
def Wr.dep:Wr->Nat
 | .base _ _=>0
 | .wrap _ d=>d.dep+1
theorem Fy.abA{d:Wr}(k:Kd):∀{n:Nat} {f:Ct},Fy n f->Fy (n+d.dep) (d.tick k f):=by
 induction d with
 |base p tb=>exact fun h=>h
 |wrap m d ih=>
  intro n f h
  have:=ih (h.tick k m)
  rw[Nat.add_right_comm]at this;exact this
theorem Ai.get{P:Program}{f:FuncId}{cs:List Value}{args:List Value}{w:World}{Q:Ending->World->Prop}(h:Ai P (jL f cs.toArray) args w Q):Calls P f (args++cs).toArray w Q:=by
 obtain⟨g,ds,h1,-,h3⟩:=h
 injection h1 with e1 e2 e3
 injection e1 with e1
 have e4:cs=ds:=by simpa using aK Array.toList e3
 subst e1 e4;exact h3
def asf(P:Program)(v:Value):Prop:=∃(f:FuncId) (cs:List Value),v=jL f cs.toArray/\∀args w,(callFunc f args).run P w= .ok (.enter f args) w
def aDQ(x:Aj):Bool:=decide (60<x.l.length)||decide (100<x.v.length)
def aDR(l:List Aj):Bool:=decide (60<l.length)||l.any aDQ
def kdN(x:Aj):Int:=if x.kind=1\/x.kind=2 then x.kind else 0
def Zm(l:List Aj)(q:Int):Nat:=l.countP fun x=>decide (kdN x=q)
def ct0:Ct:=fun _=>cn0
theorem kR.nil{T:OP}:kR T [] ct0 [] (([]++T.fr)++[]):=⟨[],rfl,rfl⟩
theorem kR.add{T:OP}{ids:List Nat}{tl:List (Nat×Rl)}{Z:List bu}{m:Nat}(h:kR T ids ct0 tl Z):kR T (m::ids) ct0 tl ([sN T m cn0]++Z):=by
 obtain⟨Zt,h1,rfl⟩:=h;exact⟨Zt,h1,rfl⟩
theorem kR.app{T:OP}{ids:List Nat}{f:Ct}{tl tm:List (Nat×Rl)}{Z Zt:List bu}(h:kR T ids f tl Z)(ht:wM T.tt tm Zt):kR T ids f (tl++tm) (Z++Zt):=by
 obtain⟨Zs,h1,rfl⟩:=h;exact⟨Zs++Zt,h1.app ht,by rw[dG]⟩
theorem kR.blk{T:OP}{ids:List Nat}{f:Ct}{tl:List (Nat×Rl)}{Z L:List bu}{m:Nat}{w0 w:World}(h:kR T ids f tl Z)(hm:m∈ids)(hH:Hp w0 w L)(hs:∀x,x∈Z->x∈L):
  w.heap[m]?=some (.cells #[B true,I (f m).e,I (f m).l,I (f m).j] T.aw6 (0,0)):=by
 obtain⟨Zt,h1,rfl⟩:=h
 exact(hH.ok _ (hs _ (dL _ (dL _ (fZ.2 ⟨m,hm,rfl⟩))))).2
theorem Hp.apv{w0 w:World}{Zt Zq A Zf R:List bu}(h:Hp w0 w ((Zt++Zq)++(A++(Zf++R)))):Hp w0 w (A++((Zf++Zt)++(Zq++R))):=h.perm (by
 rw[dG,dG]
 refine((u7 Zt (wV Zq A _)).trans (wV Zt A _)).trans (u7 A ?_)
 refine(u7 Zt (wV Zq Zf R)).trans (wV Zt Zf _))
theorem Wr.M7{d:Wr}{ids ids':List Nat}{tl tl':List (Nat×Rl)}(h:d.Fg ids tl)(h1:∀x,x∈ids->x∈ids')(h2:∀x,x∈tl->x∈tl'):d.Fg ids' tl':=by
 induction d with
 |base p tb=>exact⟨h.1,fun i hi q hq=>h2 _ (h.2 i hi q hq)⟩
 |wrap m d ih=>exact⟨h1 _ h.1,ih h.2⟩
theorem Fy.zero:Fy 0 ct0:=fun m=>by simp[ct0,cn0]
theorem Fy.clear{n:Nat}{f:Ct}(h:Fy n f)(m:Nat):Fy n (wN f m cn0):=fun i=>by
 unfold wN
 by_cases q:i=m
 .rw[aX q];simp[cn0]
 rw[aT q];exact h i
theorem Fy.mono{n k:Nat}{f:Ct}(h:Fy n f)(hk:n<=k):Fy k f:=fun m=>by
 obtain⟨⟨a,b⟩,⟨c,d⟩,e,g⟩:=h m
 exact⟨⟨a,J⟩,⟨c,J⟩,e,J⟩
def aDT:List Tx:=[⟨#[97]⟩,⟨#[98]⟩]
def exT:Sh:=⟨false,[⟨2,aDT,Rl.none⟩]⟩
def aM2:El:=tA dg 0 1#64
def aM3:El:=tA dg 0 2#64
def aM4:El:=tA dg 0 3#64
theorem Hp.swz{w0 w:World}{A z Zf R:List bu}(h:Hp w0 w (A++(z++(Zf++R)))):Hp w0 w (A++(Zf++(z++R))):=h.perm (u7 A (by
 rw[<-dG,<-dG]
 exact tZ.append_right R))
def GF(c:Cn)(l:List Aj):Prop:=c.e=Zm l 0/\c.l=Zm l 1/\c.j=Zm l 2
theorem GF.nil:GF cn0 []:=⟨rfl,rfl,rfl⟩
theorem GF.tick{f:Ct}{m:Nat}{l:List Aj}{x:Aj}(h:GF (f m) l):GF ((jR (aih x) m f) m) (l++[x]):=by
 obtain⟨h1,h2,h3⟩:=h
 have e:jR (aih x) m f m=(aih x).up (f m):=by unfold jR wN;rw[aX O]
 have c:∀q,Zm (l++[x]) q=Zm l q+if kdN x=q then 1 else 0:=fun q=>by
  rw[Zm,List.countP_append];simp[Zm,List.countP_cons]
 rw[e]
 unfold GF
 rw[c,c,c]
 unfold aih kdN
 by_cases a:x.kind=1
 .simp[a,Kd.up,h1,h2,h3]
 by_cases b:x.kind=2
 .simp[b,Kd.up,h1,h2,h3]
 simp[a,b,Kd.up,h1,h2,h3]
theorem aii{l:List Aj}{k fr:Int}(h0:0<=fr)(h1:fr<=k)(h2:k<l.length):(l.take (k+1).toNat).drop fr.toNat=(l.take k.toNat).drop fr.toNat++[l.getD k.toNat am7]:=by grind[List.take_append_getElem,List.length_take,List.getElem?_eq_getElem]
theorem GF.next{f:Ct}{m:Nat}{l:List Aj}{k fr:Int}(h:GF (f m) ((l.take k.toNat).drop fr.toNat))(h0:0<=fr)(h1:fr<=k)(h2:k<l.length):GF ((jR (aih (l.getD k.toNat am7)) m f) m) ((l.take (k+1).toNat).drop fr.toNat):=by
 rw[aii h0 h1 h2];exact h.tick
def Qk(a b c:Nat)(f:Ct)(k:Int):Prop:=(f a).e=(f b).e/\(f a).l=(f b).l/\(f a).j=(f b).j/\(f c).e=2*(f a).e/\(f c).l=2*(f a).l/\(f c).j=2*(f a).j/\(f a).e+(f a).l+(f a).j=k
theorem Qk.zero{a b c:Nat}:Qk a b c ct0 0:=⟨rfl,rfl,rfl,rfl,rfl,rfl,rfl⟩
theorem Qk.next{a b c:Nat}{f:Ct}{k:Int}(h:Qk a b c f k)(hn:[c,b,a].Nodup)(q:Kd):Qk a b c (jR q c (jR q c (jR q b (jR q a f)))) (k+1):=by
 simp only[og,c8,List.not_mem_nil,Cd,not_or]at hn
 obtain⟨⟨h1,h2⟩,h3,-⟩:=hn
 obtain⟨e1,e2,e3,e4,e5,e6,e7⟩:=h
 have fa:jR q c (jR q c (jR q b (jR q a f))) a=q.up (f a):=by simp[jR,wN,h2,h3,E5 h2,E5 h3]
 have fb:jR q c (jR q c (jR q b (jR q a f))) b=q.up (f b):=by simp[jR,wN,h1,h3,E5 h1,E5 h3]
 have fc:jR q c (jR q c (jR q b (jR q a f))) c=q.up (q.up (f c)):=by simp[jR,wN,h1,h2,E5 h1,E5 h2]
 unfold Qk
 rw[fa,fb,fc]
 cases q<;>simp only[Kd.up]<;>omega
def SO(o:Oper):List Nat:=(o.after.toList.filter fun e=>Region.binds .any e).map (·.on)
def am8(l:List Oper):Nat->List Nat->Bool
 |0,_=>true
 |i+1,s=>s.contains i&&am8 l i (s++((l[i]?).map SO).getD [])
def aw7(l:List Oper)(z:Oper):Bool:=
 (l.zipIdx.all fun p=>(SO p.1).all (Nat.blt · p.2)&&(p.1.guard.map fun g=>Nat.blt g.1 l.length).getD true)&&(SO z).all (Nat.blt · l.length)&&am8 l l.length (SO z)
section
variable{P:Program}{n:Nat}{l:List Oper}{z:Oper}{k:K}{listed:Array Bool}
theorem am9{o:Oper}{j:Nat}:j∈SO o↔∃e∈o.after,Region.binds .any e=true/\e.on=j:=by grind[SO]
theorem rdy{md:List Oper}{j:Nat}:j∈Region.ready .any md.toArray listed↔listed.getD j true=false/\∃o,md[j]?=some o/\∀i∈SO o,listed.getD i false=true:=by
 rw[mem_ready]
 simp only[HB,am9]
 refine and_congr Cf (exists_congr fun o=>and_congr Cf ⟨fun h i ⟨e,h1,h2,h3⟩=>h3▸h e h1 h2,fun h e h1 h2=>h e.on ⟨e,h1,h2,rfl⟩⟩)
def GG(l:List Oper)(listed:Array Bool):Prop:=listed.size=l.length/\∀j o,l[j]?=some o->listed.getD j false=true->∀i∈SO o,listed.getD i false=true
theorem abB(hc:GG l listed):∀(i:Nat) (s:List Nat),am8 l i s=true->(∀j∈s,listed.getD j false=true)->∀j,j<i->listed.getD j false=true
 |0,_,_,_,j,hj=>by omega
 |i+1,s,h,hs,j,hj=>by
  simp only[am8,cL,List.contains_iff_mem]at h
  have hi:=hs i h.1
  by_cases e:j=i
  .subst e;exact hi
  refine abB hc i _ h.2 (fun q hq=> ?_) j J
  rcases fg.1 hq with hq|hq
  .exact hs q hq
  .cases ho:l[i]? with
   |none=>rw[ho]at hq;simp at hq
   |some o=>rw[ho]at hq;exact hc.2 i o ho hi q hq
theorem k8{a:Array Bool}{i j:Nat}{d:Bool}:(a.setIfInBounds i true).getD j d=if i=j/\j<a.size then true else a.getD j d:=by
 rw[wU,Eg,wU]
 by_cases e:i=j
 .subst e
  rw[aX O]
  by_cases h:i<a.size
  .rw[aX h,aX ⟨rfl,h⟩];rfl
  rw[aT h,aT fun q=>h q.2,XC J]
 rw[aT e,aT fun q=>e q.1]
theorem nu{a:Array Bool}{b d:Bool}{j:Nat}:(a.push b).getD j d=if j=a.size then b else a.getD j d:=by
 rw[wU,XJ,wU]
 split<;>rfl
theorem Zp{o:Oper}{a:Act}{k':K}{F F':Act->World->Prop}{w:World}(hF:∀a w,F a w->F' a w)(h:o.wp P a w F (r9 n k')):o.wp P a w F' (r9 n k):=by
 unfold Oper.wp at*
 generalize(execOp a.eval o).run P w=r at*
 cases r with
 |ok x w'=>
  cases x<;>simp only[Oper.upon]at h⊢
  case value=>exact hF _ _ h
  case skip=>exact hF _ _ h
  case defer=>exact hF _ _ h
  case enter=>
   refine Calls.mono h fun e w'' he=> ?_
   cases e with
   |returned v=>exact hF _ _ he
   |panicked c=>exact he
   |outgrown=>exact he
  case row=>exact Rows.mono h fun _ _ he=>hF _ _ he
 |halt x w'=>cases x<;>simp only[Oper.upon]at h⊢<;>exact h
theorem fW{id:Nat}{ops:List Oper}{xs:List (Nat×K)}{r:K}{σ:Env}{w0 w:World}{L L0:List bu}(hm:P.follows .mixedOrders=true)(hz:ops=ops.dropLast++[z])(hc:aw7 ops.dropLast z=true)(hH:Hp w0 w L)(hs:L0.Sublist L)
  (h:∀w',Hp w0 w' L->AN P n ops.dropLast (fun w=>Hp w0 w L0) (fun σ w=>RL P n ops.toArray k [z] σ w) ops.dropLast.length (Array.replicate ops.dropLast.length false) σ w'):CW P n (.region id ops.toArray true) k xs r σ w:=by
 intro a ha
 refine zD (fun e a' w' hq=> ?_) (X9 (id:=id) (Q:=r9 n k) hm ?_)
 .cases e with
  |normal=>exact hq
  |exit id=>exact hq.elim
  |ret=>exact hq.elim
  |goto l=>exact hq.elim
  |panic c=>exact hq.elim
  |outgrown=>exact hq.elim
 have h1:=Ya _ _ _ _ (h _ hH.drew a ha)
 generalize hl:ops.dropLast=l at*
 simp only[aw7,cL,iS]at hc
 obtain⟨⟨c1,c2⟩,c3⟩:=hc
 have gl:∀{j o},l[j]?=some o->(∀i∈SO o,i<j)/\∀g,o.guard=some g->g.1<l.length:=fun{j o} ho=>by
  have hmem:(o,j)∈l.zipIdx:=by
   rw[XF];exact⟨j,by simp[ho]⟩
  have:=c1 _ hmem
  refine⟨fun i hi=>by simpa using this.1 i hi,fun g hg=> ?_⟩
  have h2:=this.2
  rw[hg]at h2
  simpa using h2
 have get:∀{j},j<l.length->ops[j]?=l[j]?:=fun{j} hj=>by rw[hz,zw hj]
 have asg:ops[l.length]?=some z:=by rw[hz,ET (eU _),Rx];rfl
 have hlen:ops.length=l.length+1:=by rw[hz];simp
 have key:∀(fuel:Nat) (gK:Array Bool) (a:Act) (w:World),GG l gK->wpAny P .any l.toArray (r9 n fun σ w=>RL P n ops.toArray k [z] σ w) fuel gK a w->wpAny P .any ops.toArray (r9 n k) (fuel+1) (gK.push false) a w:=by
  intro fuel
  have last:∀(fuel:Nat) (gK:Array Bool) (a:Act) (w:World),GG l gK->(∀j,j<l.length->gK.getD j false=true)->r9 n (fun σ w=>RL P n ops.toArray k [z] σ w) .normal a w->wpAny P .any ops.toArray (r9 n k) (fuel+1) (gK.push false) a w:=by
   intro fuel gK a w ov hall hr
   have hsz:=ov.1
   refine⟨fun he=> ?_,fun i hi=> ?_⟩
   .have:l.length∈Region.ready .any ops.toArray (gK.push false):=by
     rw[rdy]
     refine⟨by rw[nu,hsz,aX O],z,asg,fun i hi=> ?_⟩
     have hi2:i<l.length:=by simpa using c2 i hi
     rw[nu,aT J]
     exact hall i hi2
    rw[he]at this;cases this
   rw[rdy]at hi
   obtain⟨h0,o,ho,_⟩:=hi
   have hio:i=l.length:=by
    by_cases e:i=l.length
    .exact e
    have hlt:i<ops.length:=(nX.1 ho).1
    have aDV:i<l.length:=J
    rw[nu,aT J]at h0
    have h3:=hall i aDV
    rw[wU]at h0 h3
    cases hq:gK[i]? with
    |none=>rw[hq]at h3;cases h3
    |some b=>rw[hq]at h0 h3;cases b<;>simp_all
   subst hio
   obtain⟨σ',hi',hrl⟩:=hr
   have:=hrl a hi'
   unfold wpOp
   rw[HB,asg]
   simp only[wpList]at this
   show(if Region.wanted z (yielded ops.toArray a.tmps)=true then _ else _)
   have done:∀a w,r9 n k .normal a w->wpAny P .any ops.toArray (r9 n k) fuel ((gK.push false).setIfInBounds l.length true) a w:=fun a w hq=>by
    have he:Region.ready .any ops.toArray ((gK.push false).setIfInBounds l.length true)=[]:=by
     rw[Q6]
     intro j hj
     rw[rdy]at hj
     obtain⟨h0,o,ho,_⟩:=hj
     have hlt:j<ops.length:=(nX.1 ho).1
     rw[k8,nu]at h0
     by_cases e:l.length=j
     .rw[aX ⟨e,by rw[Array.size_push];omega⟩]at h0;cases h0
     rw[aT fun q=>e q.1,aT J]at h0
     have h3:=hall j J
     rw[wU]at h0 h3
     cases hq:gK[j]? with
     |none=>rw[hq]at h3;cases h3
     |some b=>rw[hq]at h0 h3;cases b<;>simp_all
    cases fuel with
    |zero=>exact⟨he,hq⟩
    |succ f=>exact⟨fun _=>hq,fun i hi=>by rw[he]at hi;cases hi⟩
   split
   .rename_i hw
    rw[aX hw]at this
    refine this.imp (fun q=>Oper.wp_mono (fun a w h=>done a w h) q) fun q=>q
   rename_i hw
   rw[aT hw]at this
   exact done _ _ this
  have fin:∀(gK:Array Bool),GG l gK->Region.ready .any l.toArray gK=[]->∀j,j<l.length->gK.getD j false=true:=by
   intro gK ov he j
   induction j using Nat.strongRecOn with
   |_ j ih=>
    intro hj
    cases hq:gK.getD j false with
    |true=>rfl
    |false=>
     have hmem:j∈Region.ready .any l.toArray gK:=by
      rw[rdy]
      refine⟨?_,l[j],eD hj,fun i hi=> ?_⟩
      .rw[wU,afo (by rw[ov.1];exact hj)]at hq⊢;exact hq
      have:=(gl (eD hj)).1 i hi
      exact ih i this J
     rw[he]at hmem;cases hmem
  induction fuel with
  |zero=>intro gK a w ov hw;exact last 0 gK a w ov (fin gK ov hw.1) hw.2
  |succ fuel ih=>
   intro gK a w ov hw
   have hsz:=ov.1
   by_cases he:Region.ready .any l.toArray gK=[]
   .exact last _ gK a w ov (fin gK ov he) (hw.1 he)
   refine⟨fun hn=> ?_,fun i hi=> ?_⟩
   .refine absurd (Q6.2 fun j hj=> ?_) he
    have:j∈Region.ready .any ops.toArray (gK.push false):=by
     rw[rdy]at hj⊢
     obtain⟨h0,o,ho,hall⟩:=hj
     have hj2:j<l.length:=(nX.1 ho).1
     refine⟨by rw[nu,aT J];exact h0,o,by rw[get hj2];exact ho,fun i hi=> ?_⟩
     have:=(gl ho).1 i hi
     rw[nu,aT J];exact hall i hi
    rw[hn]at this;cases this
   rw[rdy]at hi
   obtain⟨h0,o,ho,hall⟩:=hi
   have hlt:i<ops.length:=(nX.1 ho).1
   by_cases e:i=l.length
   ·
    exfalso
    subst e
    rw[asg]at ho
    injection ho with ho
    subst ho
    have aw8:∀j,j<l.length->gK.getD j false=true:=abB ov l.length _ c3 fun j hj=>by
     have h3:=hall j hj
     have hj2:j<l.length:=by simpa using c2 j hj
     rw[nu,aT J]at h3;exact h3
    refine he (Q6.2 fun j hj=> ?_)
    rw[rdy]at hj
    obtain⟨g0,o,go,_⟩:=hj
    have hj2:j<l.length:=(nX.1 go).1
    have h3:=aw8 j hj2
    rw[wU]at g0 h3
    cases hq:gK[j]? with
    |none=>rw[hq]at h3;cases h3
    |some b=>rw[hq]at g0 h3;cases b<;>simp_all
   have hi2:i<l.length:=J
   rw[get hi2]at ho
   have hrd:i∈Region.ready .any l.toArray gK:=by
    rw[rdy]
    refine⟨by rw[nu,aT J]at h0;exact h0,o,ho,fun j hj=> ?_⟩
    have:=(gl ho).1 j hj
    have h3:=hall j hj
    rw[nu,aT J]at h3;exact h3
   have hop:=hw.2 i hrd
   have ana:GG l (gK.setIfInBounds i true):=by
    refine⟨by rw[XA];exact hsz,fun j p hp hj q hq=> ?_⟩
    rw[k8]at hj⊢
    by_cases e2:i=q/\q<gK.size
    .rw[aX e2]
    rw[aT e2]
    by_cases e3:i=j
    .subst e3
     rw[ho]at hp;injection hp with hp;subst hp
     have:=(gl ho).1 q hq
     have h3:=hall q hq
     rw[nu,aT J]at h3;exact h3
    rw[aT fun c=>e3 c.1]at hj
    exact ov.2 j p hp hj q hq
   have apx:(gK.push false).setIfInBounds i true=(gK.setIfInBounds i true).push false:=by
    apply XN
    intro j
    rw[Eg,XJ,XJ,Eg,XA,Array.size_push]
    by_cases e2:i=j
    .subst e2;rw[aX O,aX J,aT J,aX O,aX J]
    rw[aT e2,aT e2]
   have hgd:Region.wanted o (yielded ops.toArray a.tmps)=Region.wanted o (yielded l.toArray a.tmps):=by
    unfold Region.wanted
    cases hg:o.guard with
    |none=>rfl
    |some g=>
     obtain⟨gi,gw⟩:=g
     have:=(gl ho).2 _ hg
     simp only[yielded,HB]
     rw[get this]
   unfold wpOp at hop⊢
   rw[HB]at hop⊢
   rw[get hi2]
   rw[ho]at hop⊢
   simp only[hgd]at*
   split
   .rename_i hwn
    rw[aX hwn]at hop
    rcases hop with hop|hop
    .refine .inl (Zp (fun a w hq=> ?_) hop)
     rw[apx];exact ih _ a w ana hq
    exact .inr ⟨hop.1,hop.2⟩
   rename_i hwn
   rw[aT hwn]at hop
   rw[apx];exact ih _ _ w ana hop
 have aw9:=key l.length (Array.replicate l.length false) a _ ⟨aJ,fun j o _ hj=>by
  rw[wU,afp]at hj
  split at hj<;>cases hj⟩ h1
 rw[show(Array.replicate l.length false).push false=Array.replicate (l.length+1) false by rw[<-Array.replicate_succ],<-hlen]at aw9
 simpa using aw9
end
end
end Go.Proofs.YtlhjdflgjbkpmaaGreatDoor.E
namespace Go.Proofs.YtlhjdflgjbkpmaaGreatDoor.M
section
open Go
def IT(n:Nat)(cl:List Nat)(i j:Int):Prop:=(0<=i/\i<n)/\(0<=j/\j<n)/\cm cl i.toNat≠cm cl j.toNat
structure UnP(nd:List qA)(cl:List Nat)(i j:Int)(a b:Nat):Prop where
 ok:IT nd.length cl i j
 ha:a<nd.length
 hb:b<nd.length
 ab:a≠b
 ua:sK nd a=a
 ub:sK nd b=b
 c:cm cl a=cm cl i.toNat/\cm cl b=cm cl j.toNat\/cm cl a=cm cl j.toNat/\cm cl b=cm cl i.toNat
section
variable{nd:List qA}{cl:List Nat}{i j:Int}{a b:Nat}
theorem VC(h:Fo nd cl)(hi:0<=i/\i<nd.length)(hj:0<=j/\j<nd.length)(hne:((o6 nd cl i.toNat:Nat):Int)≠(o6 nd cl j.toNat:Nat)):UnP nd cl i j (o6 nd cl i.toNat) (o6 nd cl j.toNat):=by
 obtain⟨a1,a2,a3⟩:=pF h (i:=i.toNat) J
 obtain⟨b1,b2,b3⟩:=pF h (i:=j.toNat) J
 have hab:o6 nd cl i.toNat≠o6 nd cl j.toNat:=fun e=>hne (aK _ e)
 exact⟨⟨hi,hj,fun e=>hab ((Qc h a1 b1 a2 b2 a3 b3).2 e)⟩,a1,b1,hab,a2,b2,.inl ⟨a3,b3⟩⟩
theorem UnP.swap(h:UnP nd cl i j a b):UnP nd cl i j b a:=by grind[UnP]
theorem asi(h:¬(0<=i/\i<nd.length)):¬IT nd.length cl i j:=fun q=>h q.1
theorem asj(h:¬(0<=j/\j<nd.length)):¬IT nd.length cl i j:=fun q=>h q.2.1
theorem asl(h:Fo nd cl)(hi:0<=i/\i<nd.length)(hj:0<=j/\j<nd.length)(e:((o6 nd cl i.toNat:Nat):Int)=(o6 nd cl j.toNat:Nat)):¬IT nd.length cl i j:=fun q=>q.2.2 (by
 obtain⟨a1,a2,a3⟩:=pF h (i:=i.toNat) J
 obtain⟨b1,b2,b3⟩:=pF h (i:=j.toNat) J
 exact(Qc h a1 b1 a2 b2 a3 b3).1 J)
theorem apz{v:Nat}(h:a<nd.length)(e:kL nd a=v)(hv:v<=1000000):((bE nd).getD (4*(a:Int)+1).toNat 0).toInt=(v:Int):=SJ ⟨J,J⟩ ((aw1 h).trans (by rw[e])) hv
theorem apA{v:Nat}(h:a<nd.length)(e:tG nd a=v)(hv:v<=1000000):((bE nd).getD (4*(a:Int)+2).toNat 0).toInt=(v:Int):=SJ ⟨J,J⟩ ((apm h).trans (by rw[e])) hv
theorem apB{v:Nat}(h:a<nd.length)(e:qR nd a=v)(hv:v<=1000000):((bE nd).getD (4*(a:Int)+3).toNat 0).toInt=(v:Int):=SJ ⟨J,J⟩ ((apn h).trans (by rw[e])) hv
theorem Fo.small(h:Fo nd cl)(ha:a<nd.length):kL nd a<=nd.length/\tG nd a<=nd.length:=⟨h.sn a ha,by obtain⟨_,_,t,_,q⟩:=h.szb ha;omega⟩
theorem Fo.aij(h:Fo nd cl)(ha:a<nd.length)(hu:sK nd a=a):qR nd a<=nd.length:=by grind[Fo,sK,qR]
theorem axa(h:Fo nd cl)(p:UnP nd cl i j a b):Fo (pK nd a b) (iI cl (cm cl i.toNat) (cm cl j.toNat))/\leads (iI cl (cm cl i.toNat) (cm cl j.toNat))+1=leads cl:=by
 have h1:=h.join p.ha p.hb p.ab p.ua p.ub
 have h2:=Zb h p.ha p.hb p.ab p.ua p.ub
 rcases p.c with⟨e1,e2⟩|⟨e1,e2⟩
 .rw[e1,e2]at h1 h2;exact⟨h1,h2⟩
 rw[e1,e2,Zd]at h1 h2;exact⟨h1,h2⟩
theorem IU{x y:Nat}:(iI cl x y).length=cl.length:=by simp[iI]
end
theorem asm{W:List (BitVec 64)}{us:List jQ}{tn:List Nat}{cs:List (List Nat)}(h:Hs W us tn cs)(hk:0<tn.length):∃t tn2 cl c2 cs2,tn=t::tn2/\cs=cl::c2::cs2:=by
 cases tn with
 |nil=>simp at hk
 |cons t tn2=>
  cases cs with
  |nil=>exact h.elim
  |cons cl cs=>
   cases cs with
   |nil=>exact h.elim
   |cons c2 cs2=>exact⟨t,tn2,cl,c2,cs2,rfl,rfl⟩
def J3(tn:List Nat):List Int:=tn.reverse.map Int.ofNat
theorem xm(tn:List Nat):(J3 tn).length=tn.length:=by simp[J3]
theorem GH(t:Nat)(tn:List Nat):J3 (t::tn)=J3 tn++[(t:Int)]:=by simp[J3]
theorem asn{t:Nat}{tn:List Nat}{k:Int}(h:k=(tn.length:Int)):((J3 (t::tn)).map E.I)[k.toNat*1]?=some (E.I t):=by grind[GH,xm]
theorem VD{t:Nat}{tn:List Nat}:((J3 (t::tn)).map E.I).take (tn.length*1)=(J3 tn).map E.I:=by grind[GH,xm]
theorem anb{W:List (BitVec 64)}{us:List jQ}{t:Nat}{tn:List Nat}{cl c2:List Nat}{cs:List (List Nat)}(h:Hs W us (t::tn) (cl::c2::cs)):∃nd nd2,W=bE nd/\Fo nd cl/\jH W us t=bE nd2/\Fo nd2 c2/\Hs (bE nd2) (us.take t) tn (c2::cs):=by
 obtain⟨nd,h1,h2⟩:=h.now
 obtain⟨nd2,h3,h4⟩:=h.back.now
 have:=h.back
 rw[h3]at this
 exact⟨nd,nd2,h1,h2,h3,h4,this⟩
theorem M8(cl:List Nat):leads cl<=cl.length:=by grind[leads,cm]
theorem Hs.Zu{W:List (BitVec 64)}{us:List jQ}{tn:List Nat}{cs:List (List Nat)}{cl:List Nat}(h:Hs W us tn (cl::cs)):cl.length<=tn.length:=by
 induction tn generalizing W us cl cs with
 |nil=>
  cases cs with
  |nil=>obtain⟨_,rfl,_⟩:=h;simp
  |cons c cs=>exact h.elim
 |cons t tn ih=>
  cases cs with
  |nil=>exact h.elim
  |cons c2 cs=>
   have h1:=ih h.back
   have h2:=h.cnt
   unfold Gz at h2
   simp only[fq];omega
structure GI(ul mw:List (Value×jQ))(tn JF:List Nat)(cs Fz:List (List Nat))(W1:List (BitVec 64)):Prop where
 hs:Hs W1 (mw.map Prod.snd) JF Fz
 ok:M0 W1.length (mw.map Prod.snd)
 sub:∀x∈mw,x∈ul
 le:mw.length<=ul.length
 cs:Fz=cs.drop (tn.length-JF.length)
 tn:JF.length<=tn.length
section
variable{ul mw:List (Value×jQ)}{tn JF:List Nat}{cs Fz:List (List Nat)}{W1:List (BitVec 64)}
theorem GI.start(h:Hs W1 (ul.map Prod.snd) tn cs)(hok:M0 W1.length (ul.map Prod.snd)):GI ul ul tn tn cs cs W1:=by grind[Hs,M0,GI]
theorem GI.next{t:Nat}{cl c2:List Nat}{cs2:List (List Nat)}{nd2:List qA}(h:GI ul mw tn (t::JF) cs (cl::c2::cs2) W1)(e:jH W1 (mw.map Prod.snd) t=bE nd2):GI ul (mw.take t) tn JF cs (c2::cs2) (bE nd2):=by
 have ht:=h.hs.le
 rw[gF]at ht
 have hb:=h.hs.back
 rw[e,<-B8]at hb
 have ho:=Vk h.ok (t:=t) (by rw[gF];exact ht)
 rw[e,<-B8]at ho
 have hn:=h.tn
 rw[fq]at hn
 refine⟨hb,ho,fun x hx=>h.sub x (u9 hx),by rw[er];have:=h.le;omega,?_,J⟩
 have hc:=h.cs
 rw[fq]at hc
 rw[show tn.length-JF.length=tn.length-(JF.length+1)+1 by omega,<-Rs,<-hc];rfl
end
end
end Go.Proofs.YtlhjdflgjbkpmaaGreatDoor.M
namespace Go.Proofs.YtlhjdflgjbkpmaaGreatDoor.E
section
open Go Go.RowKit Go.Proofs.YtlhjdflgjbkpmaaGreatDoor.M
theorem Hp.anc{w0 w:World}{L:List bu}{v:Value}{e:TypeId}{sz n m i:Nat}{xs:List Value}(h:Hp w0 w L)(hi:L[i]?=some (.row v e sz n xs))(hm:m<=n):Hp w0 w (L.set i (.row (zT v m) e sz m (xs.take (m*sz)))):=by
 have hr:w.ownsRow w0.heap.size e sz v n xs:=h.get hi
 obtain⟨h1,h2⟩:=hr
 have hle:m*sz<=n*sz:=s4 _ hm
 rcases h2 with⟨rfl,rfl⟩|⟨gb,cap,cur,rfl,hb,hg,hn,hc,hs,ht⟩
 .have:m=0:=J
  subst this
  refine h.xl hi O ⟨aJ,.inl ⟨rfl,rfl⟩⟩
 refine h.xl hi O ⟨by rw[er,h1];omega,.inr ⟨gb,cap,cur,rfl,hb,hg,J,hc,hs,?_⟩⟩
 rw[<-ht,B6];congr 1;omega
end
end Go.Proofs.YtlhjdflgjbkpmaaGreatDoor.E
namespace Go.Proofs.YtlhjdflgjbkpmaaGreatDoor.M
section
open Go
def bB(cs:List (List Nat)):List Nat:=cs.headD []
def SP(cs:List (List Nat)):List (List Nat):=(bB cs++[(bB cs).length])::cs
def jv(cs:List (List Nat))(i j:Int):List (List Nat)×Bool:=
 if fN (bB cs) i<0\/fN (bB cs) j<0\/fN (bB cs) i=fN (bB cs) j then(cs,false)
 else(iI (bB cs) (fN (bB cs) i).toNat (fN (bB cs) j).toNat::cs,true)
def CI(cs:List (List Nat))(m:Int):List (List Nat)×Bool:=
 if(cs.length:Int)-1<m then(cs,false)else(cs.drop (cs.length-1-(max 0 m).toNat),true)
theorem ad4{cl:List Nat}{i:Int}:fN cl i<0↔¬(0<=i/\i<cl.length):=by grind[fN]
theorem IV{cs:List (List Nat)}{i j:Int}(h:IT (bB cs).length (bB cs) i j):jv cs i j=(iI (bB cs) (cm (bB cs) i.toNat) (cm (bB cs) j.toNat)::cs,true):=by grind[IT,bB,jv,iI,cm,nc]
theorem M9{cs:List (List Nat)}{i j:Int}(h:¬IT (bB cs).length (bB cs) i j):jv cs i j=(cs,false):=by grind[IT,bB,jv,nc,ad4]
end
end Go.Proofs.YtlhjdflgjbkpmaaGreatDoor.M
namespace Go.Proofs.YtlhjdflgjbkpmaaGreatDoor.E
section
open Go Go.RowKit Go.Proofs.YtlhjdflgjbkpmaaGreatDoor.M
structure FTy where
 ut:UT
 tf:TypeId
 tu:TypeId
 tfn:TypeId
 ti:TypeId
structure FoI(T:FTy)(F m:Nat)(cs:List (List Nat))(vW vU vT:Value)(cW cU:Option (Nat×Array Value))(W:List (BitVec 64))(ul:List (Value×jQ))(tn:List Nat)(Lb:List bu):Prop where
 hW:cO cW vW (W.map U)
 hU:cO cU vU (ul.map Prod.fst)
 hs:Hs W (ul.map Prod.snd) tn cs
 ok:M0 W.length (ul.map Prod.snd)
 un:∀x∈ul,pL T.ut F Lb x
 lu:ul.length<=5*m
 lt:tn.length<=m
def foL(T:FTy)(F:Nat)(cs:List (List Nat))(vW vU vT:Value)(cW cU:Option (Nat×Array Value))(W:List (BitVec 64))(ul:List (Value×jQ))(tn:List Nat)(Lb:List bu):List bu:=
 .blk F (.cells #[vW,vU,vT,I ((leads (bB cs):Nat):Int)] T.tf (0,0))::cE cW vW T.tu (W.map U)::cE cU vU T.tfn (ul.map Prod.fst):: .row vT T.ti 1 tn.length ((J3 tn).map I)::Lb
def FoZ(T:FTy)(F m:Nat)(cs:List (List Nat))(Z:List bu):Prop:=
 ∃(vW vU vT:Value) (cW cU:Option (Nat×Array Value)) (W:List (BitVec 64)) (ul:List (Value×jQ)) (tn:List Nat) (Lb:List bu),Z=foL T F cs vW vU vT cW cU W ul tn Lb/\FoI T F m cs vW vU vT cW cU W ul tn Lb
theorem FoZ.more{T:FTy}{F m m':Nat}{cs:List (List Nat)}{Z:List bu}(h:FoZ T F m cs Z)(hm:m<=m'):FoZ T F m' cs Z:=by
 obtain⟨vW,vU,vT,cW,cU,W,ul,tn,Lb,e,i⟩:=h
 exact⟨vW,vU,vT,cW,cU,W,ul,tn,Lb,e,i.hW,i.hU,i.hs,i.ok,i.un,by have:=i.lu;omega,by have:=i.lt;omega⟩
theorem FoI.now{T:FTy}{F m:Nat}{cs:List (List Nat)}{vW vU vT:Value}{cW cU:Option (Nat×Array Value)}{W:List (BitVec 64)}{ul:List (Value×jQ)}{tn:List Nat}{Lb:List bu}(h:FoI T F m cs vW vU vT cW cU W ul tn Lb):
  ∃nd cl A2,cs=cl::A2/\W=bE nd/\Fo nd cl/\nd.length=cl.length/\cl.length<=m/\tn.length+1=cs.length/\leads cl<=m:=by
 cases cs with
 |nil=>exact h.hs.ne.elim
 |cons cl A2=>
  obtain⟨nd,h1,h2⟩:=h.hs.now
  have h3:=h.hs.Zu;have h4:=h.lt;have h5:=M8 cl;have h6:=h.hs.len
  exact⟨nd,cl,A2,rfl,h1,h2,h2.len.symm,J,J,J⟩
theorem FoZ.new{T:FTy}{F:Nat}:FoZ T F 0 [[]] [.blk F (.cells #[.slice none 0 0,.slice none 0 0,.slice none 0 0,I 0] T.tf (0,0)),.row (.slice none 0 0) T.tu 1 0 [],.row (.slice none 0 0) T.tfn 1 0 [],.row (.slice none 0 0) T.ti 1 0 []]:=by
 refine⟨.slice none 0 0,.slice none 0 0,.slice none 0 0,none,none,[],[],[],[],rfl,trivial,trivial,Hs.start,trivial,fun x hx=>(by cases hx),aJ,aJ⟩
section
variable{α:Type}{f:α->Value}{cl:α->List Value}{l:List α}{a:α}
theorem ail{k:Nat}(hk:k<l.length):qK (l.map f) (k*1) [f a]=(l.set k a).map f:=by simp_all[CG]
theorem DQ{sz:Nat}(hsz:∀a,(cl a).length=sz):∀{l:List α} {k:Nat},k<l.length->qK (l.flatMap cl) (k*sz) (cl a)=(l.set k a).flatMap cl
 |[],k,h=>by simp at h
 |b::l,0,h=>by
  simp only[qK,Ry,xK,eN,gN,uF,jg,hsz]
  rw[K6 (by rw[hsz];exact eU _),La (by rw[hsz];exact eU _),eN]
 |b::l,k+1,h=>by
  have ih:=DQ hsz (l:=l) (k:=k) xZ
  have hb:=hsz b
  simp only[qK,hsz,uF,kW]at ih⊢
  rw[<-ih,show(k+1)*sz=(cl b).length+k*sz by rw[hb,lm];omega,Xw,show(cl b).length+k*sz+sz=(cl b).length+(k*sz+sz)by omega,List.drop_length_add_append,dG,dG,dG]
theorem Ql{sz:Nat}(hsz:∀a,(cl a).length=sz):∀{l:List α} {m:Nat},m<=l.length->(l.flatMap cl).take (m*sz)=(l.take m).flatMap cl
 |l,0,h=>by simp
 |[],m+1,h=>by simp at h
 |b::l,m+1,h=>by
  have ih:=Ql hsz (l:=l) (m:=m) xZ
  have hb:=hsz b
  rw[uF,Hy,uF,<-ih,show(m+1)*sz=(cl b).length+m*sz by rw[hb,lm];omega,Xw]
end
section
variable{P:Program}{n:Nat}{ops:Array Oper}{k:K}{rest lo:List Oper}{σ:Env}{w0 w:World}{L L':List bu}{ty t e:TypeId}{pos:String}{bO:Array Edge}{d:Nat}{x y:Operand}{g:Option (Nat×Bool)}{v u:Value}{sz m i fuel j:Nat}{q:Int}{dst:Option Tmp}{listed:Array Bool}
variable{α:Type}{f:α->Value}{cl:α->List Value}{l:List α}{a:α}
abbrev jU(f:α->Value)(v:Value)(e:TypeId)(l:List α):bu:= .row v e 1 l.length (l.map f)
abbrev we(cl:α->List Value)(sz:Nat)(v:Value)(e:TypeId)(l:List α):bu:= .row v e sz l.length (l.flatMap cl)
theorem abD(hH:Hp w0 w L)(hi:L[i]?=some (jU f v e l))(hk:0<=q/\q<l.length)(hx:ev σ x= .pointer (some ⟨sb v,so v+q.toNat*1,none⟩))(hy:ev σ y=f a)(hv:(f a).cells=#[f a])(h1:(f a).oneCell'=true)(hs:(P.info? t).map (·.size)=some 1):
  ∃w',(execOp (ev σ) ⟨dst,.store t x y,ty,pos,bO,g⟩).run P w= .ok .skip w'/\Hp w0 w' (L.set i (jU f v e (l.set q.toNat a))):=by
 obtain⟨w',hr,h2⟩:=Gx (dst:=dst) (ty:=ty) (pos:=pos) (bO:=bO) (g:=g) hH hi J hx hy hv h1 hs J
 rw[ail J]at h2
 exact⟨w',hr,by unfold jU;rw[nY];exact h2⟩
theorem rD(hH:Hp w0 w L)(hi:L[i]?=some (jU f v e l))(hk:0<=q/\q<l.length)(hx:ev σ x= .pointer (some ⟨sb v,so v+q.toNat*1,none⟩))(hy:ev σ y=f a)(hv:(f a).cells=#[f a])(h1:(f a).oneCell'=true)(hs:(P.info? t).map (·.size)=some 1)
  (hn:∀w',Hp w0 w' (L.set i (jU f v e (l.set q.toNat a)))->RL P n ops k rest σ w'):RL P n ops k (⟨none,.store t x y,ty,pos,bO,none⟩::rest) σ w:=by
 obtain⟨w',hr,h2⟩:=abD (dst:=none) (ty:=ty) (pos:=pos) (bO:=bO) (g:=none) hH hi hk hx hy hv h1 hs
 exact H7 hr (hn w' h2)
theorem Zv(hj:lo[j]?=some ⟨none,.store t x y,ty,pos,bO,g⟩)(hg:∀a,Is n σ a->Region.wanted ⟨none,.store t x y,ty,pos,bO,g⟩ (yielded lo.toArray a.tmps)=true)(hH:Hp w0 w L)(hi:L[i]?=some (jU f v e l))(hsub:∀r,L'.Sublist (L.set i r))(hk:0<=q/\q<l.length)
  (hx:ev σ x= .pointer (some ⟨sb v,so v+q.toNat*1,none⟩)) (hy:ev σ y=f a) (hv:(f a).cells=#[f a]) (h1:(f a).oneCell'=true) (hs:(P.info? t).map (·.size)=some 1)
  (hn:∀w',Hp w0 w' (L.set i (jU f v e (l.set q.toNat a)))->AN P n lo (fun w=>Hp w0 w L') k fuel (listed.setIfInBounds j true) σ w'):AO P n lo (fun w=>Hp w0 w L') k fuel listed σ w j:=by
 obtain⟨w',hr,h2⟩:=abD (dst:=none) (ty:=ty) (pos:=pos) (bO:=bO) (g:=g) hH hi hk hx hy hv h1 hs
 exact Ia hj hg hr (h2.sub (hsub _)) (hn w' h2)
theorem abE(hsz:∀a,(cl a).length=sz)(hpos:0<sz)(hH:Hp w0 w L)(hi:L[i]?=some (we cl sz v e l))(hk:0<=q/\q<l.length)(hx:ev σ x= .pointer (some ⟨sb v,so v+q.toNat*sz,none⟩))(hy:ev σ y= .agg (cl a).toArray)(h1:∀u∈cl a,u.oneCell'=true)(hs:(P.info? t).map (·.size)=some sz):
  ∃w',(execOp (ev σ) ⟨dst,.store t x y,ty,pos,bO,g⟩).run P w= .ok .skip w'/\Hp w0 w' (L.set i (we cl sz v e (l.set q.toNat a))):=by
 obtain⟨w',hr,h2⟩:=Y0 (dst:=dst) (ty:=ty) (pos:=pos) (bO:=bO) (g:=g) hH hi J hx hy h1 (by rw[hsz];exact hs) (by
  rw[hsz]
  have:(q.toNat+1)*sz<=l.length*sz:=s4 _ J
  rw[lm]at this;omega)
 rw[DQ hsz J]at h2
 exact⟨w',hr,by unfold we;rw[nY];exact h2⟩
theorem aDW(hsz:∀a,(cl a).length=sz)(hpos:0<sz)(hH:Hp w0 w L)(hi:L[i]?=some (we cl sz v e l))(hk:0<=q/\q<l.length)(hx:ev σ x= .pointer (some ⟨sb v,so v+q.toNat*sz,none⟩))(hy:ev σ y= .agg (cl a).toArray)(h1:∀u∈cl a,u.oneCell'=true)(hs:(P.info? t).map (·.size)=some sz)
  (hn:∀w',Hp w0 w' (L.set i (we cl sz v e (l.set q.toNat a)))->RL P n ops k rest σ w'):RL P n ops k (⟨none,.store t x y,ty,pos,bO,none⟩::rest) σ w:=by
 obtain⟨w',hr,h2⟩:=abE (dst:=none) (ty:=ty) (pos:=pos) (bO:=bO) (g:=none) hsz hpos hH hi hk hx hy h1 hs
 exact H7 hr (hn w' h2)
theorem Zw(hj:lo[j]?=some ⟨none,.store t x y,ty,pos,bO,g⟩)(hg:∀a,Is n σ a->Region.wanted ⟨none,.store t x y,ty,pos,bO,g⟩ (yielded lo.toArray a.tmps)=true)(hsz:∀a,(cl a).length=sz)(hpos:0<sz)(hH:Hp w0 w L)(hi:L[i]?=some (we cl sz v e l))(hsub:∀r,L'.Sublist (L.set i r))(hk:0<=q/\q<l.length)
  (hx:ev σ x= .pointer (some ⟨sb v,so v+q.toNat*sz,none⟩)) (hy:ev σ y= .agg (cl a).toArray) (h1:∀u∈cl a,u.oneCell'=true) (hs:(P.info? t).map (·.size)=some sz)
  (hn:∀w',Hp w0 w' (L.set i (we cl sz v e (l.set q.toNat a)))->AN P n lo (fun w=>Hp w0 w L') k fuel (listed.setIfInBounds j true) σ w'):AO P n lo (fun w=>Hp w0 w L') k fuel listed σ w j:=by
 obtain⟨w',hr,h2⟩:=abE (dst:=none) (ty:=ty) (pos:=pos) (bO:=bO) (g:=g) hsz hpos hH hi hk hx hy h1 hs
 exact Ia hj hg hr (h2.sub (hsub _)) (hn w' h2)
theorem ane{off:Nat}{b:α}(hsz:∀a,(cl a).length=sz)(hH:Hp w0 w L)(hi:L[i]?=some (we cl sz v e l))(hk:0<=q/\q<l.length)(hx:ev σ x= .pointer (some ⟨sb v,so v+q.toNat*sz+off,none⟩))(hy:ev σ y=u)(hv:u.cells=#[u])(h1:u.oneCell'=true)(hs:(P.info? t).map (·.size)=some 1)
  (ho:off<sz) (hb:cl b=(cl (l.getD q.toNat a)).set off u):
  ∃w',(execOp (ev σ) ⟨dst,.store t x y,ty,pos,bO,g⟩).run P w= .ok .skip w'/\Hp w0 w' (L.set i (we cl sz v e (l.set q.toNat b))):=by
 have hle:(q.toNat+1)*sz<=l.length*sz:=s4 _ J
 rw[lm]at hle
 obtain⟨w',hr,h2⟩:=Gx (dst:=dst) (ty:=ty) (pos:=pos) (bO:=bO) (g:=g) (o:=q.toNat*sz+off) hH hi J (by rw[hx,xR]) hy hv h1 hs J
 have e1:qK (l.flatMap cl) (q.toNat*sz+off) [u]=qK (l.flatMap cl) (q.toNat*sz) (cl b):=by
  rw[CG (by rw[fK hsz];omega)]
  apply uf
  intro p
  have hg:=fun j c h=>flat_get hsz l q.toNat (l.getD q.toNat a) (fD hk.1 hk.2) j c h
  rw[p7,fK hsz]
  have lb:=hsz b
  unfold qK
  by_cases h1:p<q.toNat*sz
  .rw[aT J,dG,zw (by rw[er,fK hsz];omega),qS,aX h1]
  by_cases h2:p<q.toNat*sz+sz
  .rw[dG,ET (by rw[er,fK hsz];omega),er,fK hsz,r7 J,zw J,hb,p7,hsz]
   by_cases h3:q.toNat*sz+off=p
   .rw[aX h3,aX J,aX J,aX J]
   rw[aT h3,aT J]
   have hl:p-q.toNat*sz<(cl (l.getD q.toNat a)).length:=by rw[hsz];omega
   have:=hg (p-q.toNat*sz) _ (eD hl)
   rw[show q.toNat*sz+(p-q.toNat*sz)=p by omega]at this
   rw[this,eD hl]
  rw[aT J,ET (by simp only[dZ,er,fK hsz,lb];omega),B3]
  congr 1
  simp only[dZ,er,fK hsz,lb];omega
 rw[e1,DQ hsz J]at h2
 exact⟨w',hr,by unfold we;rw[nY];exact h2⟩
theorem aso{off:Nat}{b:α}(hsz:∀a,(cl a).length=sz)(hH:Hp w0 w L)(hi:L[i]?=some (we cl sz v e l))(hk:0<=q/\q<l.length)(hx:ev σ x= .pointer (some ⟨sb v,so v+q.toNat*sz+off,none⟩))(hy:ev σ y=u)(hv:u.cells=#[u])(h1:u.oneCell'=true)(hs:(P.info? t).map (·.size)=some 1)
  (ho:off<sz) (hb:cl b=(cl (l.getD q.toNat a)).set off u) (hn:∀w',Hp w0 w' (L.set i (we cl sz v e (l.set q.toNat b)))->RL P n ops k rest σ w'):RL P n ops k (⟨none,.store t x y,ty,pos,bO,none⟩::rest) σ w:=by
 obtain⟨w',hr,h2⟩:=ane (dst:=none) (ty:=ty) (pos:=pos) (bO:=bO) (g:=none) (a:=a) hsz hH hi hk hx hy hv h1 hs ho hb
 exact H7 hr (hn w' h2)
theorem asp{ie:TypeInfo}{z:Value}{bytes:Nat}(hd:Nat.blt d n=true)(hH:Hp w0 w L)(hL:L[i]?=some (jU f v e l))(hS:Sl w u 1 1 [f a])(hx:ev σ x=v)(hy:ev σ y=u)(ht:P.underlying t=some (.slice e))(hie:P.info? e=some ie)(hz:ie.zero=some z)
  (hsize:ie.size=1) (hby:ie.bytes=bytes) (hzs:z.cells.size=1) (h1:(f a).oneCell'=true) (hb:l.length+1<=700000000000) (JV:bytes<=200)
  (hn:∀v' w',Hp w0 w' (L.set i (jU f v' e (l++[a])))->RL P n ops k rest (lX σ d v') w'):RL P n ops k (⟨some d,.call {callee:= .builtin .append,args:=#[x,y],argTypes:=#[t,t]},ty,pos,bO,none⟩::rest) σ w:=by
 refine gf hd hH hL hS hx hy ht hie hz hsize hby hzs J (fun u hu=>by rw[gG.1 hu];exact h1) (kX (xQ hb JV) az) iz fun v' w' h=>hn v' w' ?_
 unfold jU;rw[dZ,gU];exact h
theorem SQ{ie:TypeInfo}{z:Value}{bytes:Nat}(hj:lo[j]?=some ⟨some d,.call {callee:= .builtin .append,args:=#[x,y],argTypes:=#[t,t]},ty,pos,bO,g⟩)(hg:∀a,Is n σ a->Region.wanted ⟨some d,.call {callee:= .builtin .append,args:=#[x,y],argTypes:=#[t,t]},ty,pos,bO,g⟩ (yielded lo.toArray a.tmps)=true)
  (hd:Nat.blt d n=true) (hH:Hp w0 w L) (hL:L[i]?=some (jU f v e l)) (hsub:∀r,L'.Sublist (L.set i r)) (hS:Sl w u 1 1 [f a]) (hx:ev σ x=v) (hy:ev σ y=u) (ht:P.underlying t=some (.slice e)) (hie:P.info? e=some ie) (hz:ie.zero=some z)
  (hsize:ie.size=1) (hby:ie.bytes=bytes) (hzs:z.cells.size=1) (h1:(f a).oneCell'=true) (hb:l.length+1<=700000000000) (JV:bytes<=200)
  (hn:∀v' w',Hp w0 w' (L.set i (jU f v' e (l++[a])))->AN P n lo (fun w=>Hp w0 w L') k fuel (listed.setIfInBounds j true) (lX σ d v') w'):AO P n lo (fun w=>Hp w0 w L') k fuel listed σ w j:=by
 refine fT hj hg hd hH hL (fun _=>hsub _) hS hx hy ht hie hz hsize hby hzs J (fun u hu=>by rw[gG.1 hu];exact h1) (kX (xQ hb JV) az) iz fun v' w' h=>hn v' w' ?_
 unfold jU;rw[dZ,gU];exact h
theorem asq{ie:TypeInfo}{z:Value}{bytes:Nat}(hsz:∀a,(cl a).length=sz)(hpos:0<sz)(hd:Nat.blt d n=true)(hH:Hp w0 w L)(hL:L[i]?=some (we cl sz v e l))(hS:Sl w u sz [a].length ([a].flatMap cl))(hx:ev σ x=v)(hy:ev σ y=u)(ht:P.underlying t=some (.slice e))(hie:P.info? e=some ie)(hz:ie.zero=some z)
  (hsize:ie.size=sz) (hby:ie.bytes=bytes) (hzs:z.cells.size=sz) (h1:∀u∈cl a,u.oneCell'=true) (hb:l.length+1<=700000000000) (JV:bytes<=200)
  (hn:∀v' w',Hp w0 w' (L.set i (we cl sz v' e (l++[a])))->RL P n ops k rest (lX σ d v') w'):RL P n ops k (⟨some d,.call {callee:= .builtin .append,args:=#[x,y],argTypes:=#[t,t]},ty,pos,bO,none⟩::rest) σ w:=by
 refine gf hd hH hL hS hx hy ht hie hz hsize hby hzs hpos (fun u hu=>h1 u qZ) (kX (xQ hb JV) az) (by simp only[maxLen,ez];omega) fun v' w' h=>hn v' w' ?_
 unfold we;rw[dZ,F5];exact h
theorem SS{ie:TypeInfo}{z:Value}{bytes:Nat}(hj:lo[j]?=some ⟨some d,.call {callee:= .builtin .append,args:=#[x,y],argTypes:=#[t,t]},ty,pos,bO,g⟩)(hg:∀a,Is n σ a->Region.wanted ⟨some d,.call {callee:= .builtin .append,args:=#[x,y],argTypes:=#[t,t]},ty,pos,bO,g⟩ (yielded lo.toArray a.tmps)=true)
  (hsz:∀a,(cl a).length=sz) (hpos:0<sz) (hd:Nat.blt d n=true) (hH:Hp w0 w L) (hL:L[i]?=some (we cl sz v e l)) (hsub:∀r,L'.Sublist (L.set i r)) (hS:Sl w u sz [a].length ([a].flatMap cl)) (hx:ev σ x=v) (hy:ev σ y=u) (ht:P.underlying t=some (.slice e)) (hie:P.info? e=some ie) (hz:ie.zero=some z)
  (hsize:ie.size=sz) (hby:ie.bytes=bytes) (hzs:z.cells.size=sz) (h1:∀u∈cl a,u.oneCell'=true) (hb:l.length+1<=700000000000) (JV:bytes<=200)
  (hn:∀v' w',Hp w0 w' (L.set i (we cl sz v' e (l++[a])))->AN P n lo (fun w=>Hp w0 w L') k fuel (listed.setIfInBounds j true) (lX σ d v') w'):AO P n lo (fun w=>Hp w0 w L') k fuel listed σ w j:=by
 refine fT hj hg hd hH hL (fun _=>hsub _) hS hx hy ht hie hz hsize hby hzs hpos (fun u hu=>h1 u qZ) (kX (xQ hb JV) az) (by simp only[maxLen,ez];omega) fun v' w' h=>hn v' w' ?_
 unfold we;rw[dZ,F5];exact h
theorem asr{ie:TypeInfo}{z:Value}{bytes:Nat}{c:Option (Nat×Array Value)}(hd:Nat.blt d n=true)(hH:Hp w0 w L)(hL:L[i]?=some (cE c v e (l.map f)))(hk:cO c v (l.map f))(hS:Sl w u 1 1 [f a])(hx:ev σ x=v)(hy:ev σ y=u)(ht:P.underlying t=some (.slice e))(hie:P.info? e=some ie)(hz:ie.zero=some z)
  (hsize:ie.size=1) (hby:ie.bytes=bytes) (hzs:z.cells.size=1) (h1:(f a).oneCell'=true) (hb:l.length+1<=700000000000) (JV:bytes<=200)
  (hn:∀v' w',Hp w0 w' (L.set i (cE none v' e ((l++[a]).map f)))->RL P n ops k rest (lX σ d v') w'):RL P n ops k (⟨some d,.call {callee:= .builtin .append,args:=#[x,y],argTypes:=#[t,t]},ty,pos,bO,none⟩::rest) σ w:=by
 have hll:(l.map f).length=l.length:=gF ..
 obtain⟨v',w',hr,h2⟩:=Vt (P:=P) (ty:=ty) (dst:=some d) (pos:=pos) (bO:=bO) (g:=none) (ats:=t) hH hL hk hS hx hy ht hie hz hsize hby hzs J (fun u hu=>by rw[gG.1 hu];exact h1) J (by rw[hll];exact kX (xQ hb JV) az) (by rw[hll];simp only[maxLen];omega)
 refine pn hd hr (hn v' w' ?_)
 unfold cE Vs;rw[gU,dZ];exact h2
theorem lK{dv:α}{q:Int}(h:0<=q/\q<l.length):(l.map f)[q.toNat*1]?=some (f (l.getD q.toNat dv)):=by grind
theorem Hp.aDX(h:Hp w0 w L)(hi:L[i]?=some (jU f v e l))(hm:m<=l.length):Hp w0 w (L.set i (jU f (zT v m) e (l.take m))):=by
 have:=h.anc hi hm
 unfold jU;rw[er,r7 hm,B8]
 rwa[lU]at this
theorem Hp.axc(hsz:∀a,(cl a).length=sz)(h:Hp w0 w L)(hi:L[i]?=some (we cl sz v e l))(hm:m<=l.length):Hp w0 w (L.set i (we cl sz (zT v m) e (l.take m))):=by
 have:=h.anc hi hm
 unfold we;rw[er,r7 hm,<-Ql hsz hm];exact this
end
theorem aim{s1 s2:List Int}{a k:Int}(h:(s1++a::s2).getD k.toNat 0≠a)(h0:(s1.length:Int)<=k):(s1.length:Int)<k:=by grind
theorem ass{s1 s2:List Int}{a k:Int}(hn:a∉s2)(h:(s1++a::s2).getD k.toNat 0=a)(h0:(s1.length:Int)<=k)(h1:k<=s1.length+s2.length):k=s1.length:=by grind
theorem dw{α:Type}{l:List α}{d:α}{k:Int}(h0:0<=k)(h1:k<l.length):l.getD k.toNat d∈l:=by grind
theorem ast{p:Nat->Prop}{k:Int}(h0:0<=k)(h:∀q:Nat,q<k.toNat->p q)(hk:p k.toNat):∀q:Nat,q<(k+1).toNat->p q:=by grind
theorem DR{w:World}{v:Value}{s1 s2:List Int}{a k:Int}(hk:k=s1.length)(h:Sl w v 1 ((s1++a::s2).map I).length ((s1++a::s2).map I)):Sl w (o5 v 1 k.toNat) 1 (a::s2).length ((a::s2).map I):=by
 have:=Sl.fr h s1.length aJ
 subst hk
 rw[eA]
 rw[show((s1++a::s2).map I).length-s1.length=(a::s2).length by simp,lU,gU,K6 aJ,La aJ,eN]at this
 exact this
theorem ad5{P:Program}{σ:Env}{w:World}{t te ty u:TypeId}{pos:String}{bO:Array Edge}{dst:Option Tmp}{g:Option (Nat×Bool)}{x y:Operand}{a:Addr}(ht:P.underlying t=some (.pointer te))(hx:ev σ x= .pointer (some a))(hy:ev σ y= .pointer none):
  (execOp (ev σ) ⟨dst,.binOp .neq t x y u,ty,pos,bO,g⟩).run P w= .ok (.value (.bool true)) w:=by
 have h:(binOp .neq t (.pointer (some a)) (.pointer none)).run P w= .ok (.bool true) w:=by
  simp only[binOp];simp[Op.equal,Op.maxDepth,Fw 9999 ht]
 have he:(eqGuard .neq t x y (.pointer (some a)) (.pointer none))=pure ():=rfl
 simp only[execOp,hx,hy,he];simp[h]
theorem VE{P:Program}{σ:Env}{w:World}{ty:TypeId}{pos:String}{bO:Array Edge}{dst:Option Tmp}{g:Option (Nat×Bool)}{x1 x2 x3 x4:Operand}{v1 v2 v3 v4:Value}{fn:Fn}(h1:ev σ x1=v1)(h2:ev σ x2=v2)(h3:ev σ x3=v3)(h4:ev σ x4=v4):(execOp (ev σ) ⟨dst,.makeFunc fn #[] #[x1,x2,x3,x4],ty,pos,bO,g⟩).run P w= .ok (.value (.func fn #[] #[v1,v2,v3,v4])) w:=by simp_all[uN]
structure jY where
 v:Value
 l:List Int
def de:jY:=⟨.slice none 0 0,[]⟩
def GrV(K:Vu)(v:Value)(g:List jY):Prop:=pB K v 1 g.length (g.map jY.v)/\∀x∈g,pB K x.v 1 x.l.length (x.l.map I)
theorem GrV.mono{K K':Vu}{v:Value}{g:List jY}(h:GrV K v g)(hl:Le K K'):GrV K' v g:=⟨h.1.mono hl,fun x hx=>(h.2 x hx).mono hl⟩
theorem GrV.row{K:Vu}{v:Value}{g:List jY}(h:GrV K v g){k:Int}(h0:0<=k)(h1:k<g.length):pB K (g.getD k.toNat de).v 1 (g.getD k.toNat de).l.length ((g.getD k.toNat de).l.map I):=h.2 _ (dw h0 h1)
theorem GrV.at{K:Vu}{v:Value}{g:List jY}(h:GrV K v g){k:Int}(h0:0<=k/\k<g.length):(g.map jY.v)[k.toNat*1]?=some (g.getD k.toNat de).v:=lK h0
def qf(g:List jY):List (List Int):=g.map jY.l
theorem FA{g:List jY}{k:Nat}:(qf g).getD k []=(g.getD k de).l:=by grind[jY,qf,de]
theorem gz{g:List jY}:(qf g).length=g.length:=gF ..
def dQ(t:TypeId)(x:jY):bu:= .row x.v t 1 x.l.length (x.l.map I)
theorem Hp.Qn{w0 w:World}{L:List bu}{t:TypeId}{x:jY}(h:Hp w0 w L)(hm:dQ t x∈L):Sl w x.v 1 x.l.length (x.l.map I):=Sl.R6 (h.ok _ hm)
theorem Hp.amB{w0 w:World}{L:List bu}(t:TypeId)(h:Hp w0 w L):∀n:Nat,Hp w0 w ((List.replicate n de).map (dQ t)++L)
 |0=>h
 |n+1=>(h.amB t n).eR t 1
section
variable{P:Program}{n:Nat}{ops:Array Oper}{k:K}{rest lo:List Oper}{σ:Env}{w0 w:World}{A R L':List bu}{ty t e tE:TypeId}{pos:String}{bO:Array Edge}{d:Nat}{x y:Operand}{g:Option (Nat×Bool)}{v u:Value}{fuel j:Nat}{q:Int}{dst:Option Tmp}{listed:Array Bool}{gs:List jY}{a:Int}
theorem Zx(hq:0<=q/\q<gs.length):(A++(gs.map (dQ tE)++R))[A.length+q.toNat]?=some (dQ tE (gs.getD q.toNat de)):=by grind
theorem ang{x:jY}(hq:0<=q/\q<gs.length):(A++(gs.map (dQ tE)++R)).set (A.length+q.toNat) (dQ tE x)=A++((gs.set q.toNat x).map (dQ tE)++R):=kp
theorem Hp.hdr(h:Hp w0 w (A++(gs.map (dQ tE)++R)))(hq:0<=q/\q<gs.length):(gs.getD q.toNat de).v.cells=#[(gs.getD q.toNat de).v]/\(gs.getD q.toNat de).v.oneCell'=true:=aZ (h.get (Zx hq))
theorem Hp.axe{r:jY}(h:Hp w0 w (A++((gs.set q.toNat r).map (dQ tE)++R)))(hq:0<=q/\q<gs.length):r.v.cells=#[r.v]/\r.v.oneCell'=true:=by
 have h1:=h.hdr (q:=q) (by rw[nY];exact hq)
 have e:(gs.set q.toNat r).getD q.toNat de=r:=by rw[eT,p7,aX O,aX J];rfl
 rwa[e]at h1
theorem abF{ie:TypeInfo}{z:Value}{bytes:Nat}(hH:Hp w0 w (A++(gs.map (dQ tE)++R)))(hq:0<=q/\q<gs.length)(hS:Sl w u 1 1 [I a])(hx:ev σ x=(gs.getD q.toNat de).v)(hy:ev σ y=u)(ht:P.underlying t=some (.slice tE))(hie:P.info? tE=some ie)(hz:ie.zero=some z)
  (hsize:ie.size=1) (hby:ie.bytes=bytes) (hzs:z.cells.size=1) (hb:(gs.getD q.toNat de).l.length+1<=700000000000) (JV:bytes<=200):
  ∃v' w',(execOp (ev σ) ⟨dst,.call {callee:= .builtin .append,args:=#[x,y],argTypes:=#[t,t]},ty,pos,bO,g⟩).run P w= .ok (.value v') w'/\Hp w0 w' (A++((gs.set q.toNat ⟨v',(gs.getD q.toNat de).l++[a]⟩).map (dQ tE)++R)):=by
 obtain⟨v',w',hr,h2,h3,h4⟩:=s6 (P:=P) (ty:=ty) ht hie hz hsize hby hzs J (hH.get (Zx hq)) hS (fun u hu=>by rw[gG.1 hu];rfl) iz (kX (xQ hb JV) az) hH.size
 have h5:=hH.yD (Zx hq) h2 h3 h4
 refine⟨v',w',sZ hx hy hr,?_⟩
 rw[<-ang hq]
 unfold dQ;rw[dZ,gU];exact h5
theorem aDY{ie:TypeInfo}{z:Value}{bytes:Nat}(hd:Nat.blt d n=true)(hH:Hp w0 w (A++(gs.map (dQ tE)++R)))(hq:0<=q/\q<gs.length)(hS:Sl w u 1 1 [I a])(hx:ev σ x=(gs.getD q.toNat de).v)(hy:ev σ y=u)(ht:P.underlying t=some (.slice tE))(hie:P.info? tE=some ie)(hz:ie.zero=some z)
  (hsize:ie.size=1) (hby:ie.bytes=bytes) (hzs:z.cells.size=1) (hb:(gs.getD q.toNat de).l.length+1<=700000000000) (JV:bytes<=200)
  (hn:∀v' w',Hp w0 w' (A++((gs.set q.toNat ⟨v',(gs.getD q.toNat de).l++[a]⟩).map (dQ tE)++R))->RL P n ops k rest (lX σ d v') w'):RL P n ops k (⟨some d,.call {callee:= .builtin .append,args:=#[x,y],argTypes:=#[t,t]},ty,pos,bO,none⟩::rest) σ w:=by
 obtain⟨v',w',hr,h2⟩:=abF (P:=P) (ty:=ty) (dst:=some d) (pos:=pos) (bO:=bO) (g:=none) hH hq hS hx hy ht hie hz hsize hby hzs hb JV
 exact pn hd hr (hn v' w' h2)
theorem aio{ie:TypeInfo}{z:Value}{bytes:Nat}(hj:lo[j]?=some ⟨some d,.call {callee:= .builtin .append,args:=#[x,y],argTypes:=#[t,t]},ty,pos,bO,g⟩)(hg:∀a,Is n σ a->Region.wanted ⟨some d,.call {callee:= .builtin .append,args:=#[x,y],argTypes:=#[t,t]},ty,pos,bO,g⟩ (yielded lo.toArray a.tmps)=true)
  (hd:Nat.blt d n=true) (hH:Hp w0 w (A++(gs.map (dQ tE)++R))) (hsub:∀Y,L'.Sublist (A++(Y++R))) (hq:0<=q/\q<gs.length) (hS:Sl w u 1 1 [I a]) (hx:ev σ x=(gs.getD q.toNat de).v) (hy:ev σ y=u) (ht:P.underlying t=some (.slice tE)) (hie:P.info? tE=some ie) (hz:ie.zero=some z)
  (hsize:ie.size=1) (hby:ie.bytes=bytes) (hzs:z.cells.size=1) (hb:(gs.getD q.toNat de).l.length+1<=700000000000) (JV:bytes<=200)
  (hn:∀v' w',Hp w0 w' (A++((gs.set q.toNat ⟨v',(gs.getD q.toNat de).l++[a]⟩).map (dQ tE)++R))->AN P n lo (fun w=>Hp w0 w L') k fuel (listed.setIfInBounds j true) (lX σ d v') w'):AO P n lo (fun w=>Hp w0 w L') k fuel listed σ w j:=by
 obtain⟨v',w',hr,h2⟩:=abF (P:=P) (ty:=ty) (dst:=some d) (pos:=pos) (bO:=bO) (g:=g) hH hq hS hx hy ht hie hz hsize hby hzs hb JV
 exact Cr hj hg hd hr (h2.sub (hsub _)) (hn v' w' h2)
end
structure Mk where
 i:Nat
 d:Nat
 op:Op
 ty:TypeId
 pos:String
 bO:Array Edge
 f:Nat->Value
 o:Obj
abbrev Mk.q(p:Mk):Oper:=⟨some p.d,p.op,p.ty,p.pos,p.bO,none⟩
def aip(l:List Oper):Nat->Array Bool->List Nat->Bool
 |0,_,is=>is.isEmpty
 |m+1,a,is=>(Region.ready .any l.toArray a==is)&&is.all fun i=>aip l m (a.setIfInBounds i true) (is.erase i)
def ldM(a:Array Bool)(ps:List Mk):Array Bool:=ps.foldl (fun a p=>a.setIfInBounds p.i true) a
def D0(σ:Env)(β:Nat->Nat)(ps:List Mk):Env:=ps.foldl (fun σ p=>lX σ p.d (p.f (β p.d))) σ
abbrev VF(β:Nat->Nat)(p:Mk):bu:= .blk (β p.d) p.o
theorem SU{a:Array Bool}:∀{ps:List Mk} {a:Array Bool} {j:Nat},(ldM a ps)[j]?=if j∈ps.map Mk.i/\j<a.size then some true else a[j]?
 |[],a,j=>by simp[ldM]
 |p::ps,a,j=>by
  show(ldM (a.setIfInBounds p.i true) ps)[j]?=_
  rw[SU (a:=a),XA,Eg]
  by_cases h:j<a.size
  .by_cases h1:j∈ps.map Mk.i
   .rw[aX ⟨h1,h⟩,aX ⟨by simp[h1],h⟩]
   rw[aT fun q=>h1 q.1]
   by_cases h2:p.i=j
   .subst h2;rw[aX O,aX h,aX ⟨aJ,h⟩]
   rw[aT h2,aT fun q=>by
    have:=q.1
    rw[lR,c8]at this
    exact this.elim (fun e=>h2 e.symm) h1]
  have e1:(if j∈ps.map Mk.i/\j<a.size then some true else(if p.i=j then(if p.i<a.size then some true else none)else a[j]?))=a[j]?:=by
   rw[aT fun q=>h q.2]
   by_cases h2:p.i=j
   .subst h2;rw[aX O,aT h,XC J]
   rw[aT h2]
  have e2:(if j∈(p::ps).map Mk.i/\j<a.size then some true else a[j]?)=a[j]?:=aT fun q=>h q.2
  exact e1.trans e2.symm
theorem aiq{a:Array Bool}{ps qs:List Mk}(h:ps.Perm qs):ldM a ps=ldM a qs:=by
 apply XN
 intro j
 rw[SU (a:=a),SU (a:=a)]
 have:j∈ps.map Mk.i↔j∈qs.map Mk.i:=(h.map Mk.i).mem_iff
 by_cases c:j∈ps.map Mk.i
 .simp[c,this.1 c]
 rw[aT fun q=>c q.1,aT fun q=>c (this.2 q.1)]
theorem CJ{σ:Env}{β:Nat->Nat}:∀{ps:List Mk} {σ:Env} {s:Nat},s∉ps.map Mk.d->D0 σ β ps s=σ s
 |[],σ,s,_=>rfl
 |p::ps,σ,s,h=>by
  rw[lR,c8,not_or]at h
  show D0 (lX σ p.d (p.f (β p.d))) β ps s=_
  rw[CJ (σ:=σ) h.2,Yt _ _ h.1]
theorem abG{β:Nat->Nat}(ps:List Mk):∀(σ:Env) (p:Mk),(ps.map Mk.d).Nodup->p∈ps->D0 σ β ps p.d=p.f (β p.d):=by
 induction ps with
 |nil=>intro σ p _ h;cases h
 |cons q ps ih=>
  intro σ p hn h
  rw[lR,og]at hn
  show D0 (lX σ q.d (q.f (β q.d))) β ps p.d=_
  rcases c8.1 h with e|e
  .rw[e,CJ (σ:=σ) hn.1,ard]
  exact ih _ p hn.2 e
theorem ad6{σ:Env}{β:Nat->Nat}{ps qs:List Mk}(h:ps.Perm qs)(hn:(ps.map Mk.d).Nodup):D0 σ β ps=D0 σ β qs:=by
 funext s
 have hm:s∈ps.map Mk.d↔s∈qs.map Mk.d:=(h.map Mk.d).mem_iff
 have Qa:(qs.map Mk.d).Nodup:=(h.map Mk.d).nodup_iff.1 hn
 by_cases c:s∈ps.map Mk.d
 .obtain⟨p,h1,rfl⟩:=fZ.1 c
  rw[abG ps σ p hn h1,abG qs σ p Qa (h.mem_iff.1 h1)]
 rw[CJ (σ:=σ) c,CJ (σ:=σ) fun q=>c (hm.2 q)]
theorem Na{σ:Env}{β γ:Nat->Nat}:∀{ps:List Mk} {σ:Env},(∀p∈ps,β p.d=γ p.d)->D0 σ β ps=D0 σ γ ps
 |[],σ,_=>rfl
 |p::ps,σ,h=>by
  show D0 (lX σ p.d (p.f (β p.d))) β ps=D0 (lX σ p.d (p.f (γ p.d))) γ ps
  rw[h p aJ,Na (σ:=σ) fun q hq=>h q (by simp[hq])]
theorem ad7{σ:Env}{β:Nat->Nat}{ps:List Mk}{p:Mk}:D0 σ β (ps++[p])=lX (D0 σ β ps) p.d (p.f (β p.d)):=by simp[D0]
theorem VG{a:Array Bool}{ps:List Mk}{p:Mk}:ldM a (ps++[p])=(ldM a ps).setIfInBounds p.i true:=by simp[ldM]
def allM{α:Type}(q:α->Prop):List α->Prop
 |[]=>True
 |a::l=>q a/\allM q l
theorem allM.mem{α:Type}{q:α->Prop}:∀{l:List α},allM q l->∀a∈l,q a
 |[],_,a,h=>by cases h
 |b::l,h,a,hm=>(c8.1 hm).elim (fun e=>e▸h.1) fun e=>h.2.mem a e
theorem axf{P:Program}{n:Nat}{l:List Oper}{k:K}{σ:Env}{w0 w:World}{L L':List bu}{fuel:Nat}{listed:Array Bool}(ps:List Mk)
  (hl:∀p∈ps,l[p.i]?=some p.q/\Nat.blt p.d n=true) (hr:∀p∈ps,∀σ' w,(∀s,s∉ps.map Mk.d->σ' s=σ s)->(execOp (ev σ') p.q).run P w= .ok (.value (p.f w.heap.size)) (w.alloc p.o))
  (hd:(ps.map Mk.d).Nodup) (hi:(ps.map Mk.i).Nodup) (hc:aip l ps.length listed (ps.map Mk.i)=true) (hH:Hp w0 w L') (hs:L.Sublist L')
  (h:∀β w',Hp w0 w' (ps.map (VF β)++L')->AN P n l (fun w=>Hp w0 w L) k fuel (ldM listed ps) (D0 σ β ps) w'):AN P n l (fun w=>Hp w0 w L) k (fuel+ps.length) listed σ w:=by
 have key:∀(m:Nat) (dn pd:List Mk) (β:Nat->Nat) (w:World),pd.length=m->(dn++pd).Perm ps->aip l m (ldM listed dn) (pd.map Mk.i)=true->Hp w0 w (dn.map (VF β)++L')->
   AN P n l (fun w=>Hp w0 w L) k (fuel+m) (ldM listed dn) (D0 σ β dn) w:=by
  intro m
  induction m with
  |zero=>
   intro dn pd β w hm hp _ hh
   have e:pd=[]:=F6 hm
   subst e
   rw[mY]at hp
   have hn:(dn.map Mk.d).Nodup:=(hp.map Mk.d).nodup_iff.2 hd
   rw[aiq hp,ad6 hp hn]
   exact h β w (hh.perm ((hp.map _).append_right _))
  |succ m ih=>
   intro dn pd β w hm hp hck hh
   simp only[aip,cL,Cc,iS]at hck
   obtain⟨c1,c2⟩:=hck
   refine aaX (pd.map Mk.i) c1 (by cases pd with|nil=>simp at hm|cons p pd=>rfl) fun i hii=> ?_
   obtain⟨p,hpm,rfl⟩:=fZ.1 hii
   obtain⟨a,b,rfl⟩:=XO hpm
   have hps:p∈ps:=hp.mem_iff.1 aJ
   have hnd:=(hp.map Mk.d).nodup_iff.2 hd
   have hni:=(hp.map Mk.i).nodup_iff.2 hi
   have hpd:p.d∉dn.map Mk.d:=fun q=>by
    rw[gU]at hnd
    exact(EV.1 hnd).2.2 _ q p.d aJ O
   have hpa:p.i∉a.map Mk.i:=fun q=>by
    rw[gU,gU]at hni
    exact(EV.1 (EV.1 hni).2.1).2.2 _ q p.i aJ O
   have e1:((a++p::b).map Mk.i).erase p.i=(a++b).map Mk.i:=by
    rw[gU,lR,List.erase_append_right _ hpa,List.erase_cons_head,gU]
   have hp2:((dn++[p])++(a++b)).Perm ps:=List.Perm.trans (by
    rw[dG]
    exact u7 dn (by simpa using(EY (a:=p) (l₁:=a) (l₂:=b)).symm)) hp
   refine Cr (hl p hps).1 aD (hl p hps).2 (hr p hps _ w fun s Xj=>CJ (σ:=σ) fun q=>Xj ?_) ?_ ?_
   .obtain⟨x,hx,e⟩:=fZ.1 q
    exact e▸fZ.2 ⟨x,hp.mem_iff.1 q5,rfl⟩
   .exact(hh.alloc p.o).sub ((List.Sublist.trans hs (Xx _ _)).cons _)
   let γ:Nat->Nat:=fun s=>if s=p.d then w.heap.size else β s
   have hγ:∀q∈dn,β q.d=γ q.d:=fun q hq=>(aT fun e=>hpd (by rw[<-e];exact fZ.2 ⟨q,hq,rfl⟩)).symm
   have g1:γ p.d=w.heap.size:=aX O
   have:=ih (dn++[p]) (a++b) γ (w.alloc p.o) (by simp at hm⊢;omega) hp2 (by rw[VG,<-e1];exact c2 _ hii) (by
    refine(hh.alloc p.o).perm ?_
    rw[gU,Lg,VF,g1,dG]
    have e2:dn.map (VF β)=dn.map (VF γ):=HE fun q hq=>by unfold VF;rw[hγ q hq]
    rw[e2]
    exact EY.symm)
   rw[VG,ad7,g1,<-Na (σ:=σ) hγ]at this
   exact this
 exact key ps.length [] ps (fun _=>0) w O (Rt _) hc hH
theorem axg{P:Program}{n:Nat}{l:List Oper}{k:K}{σ:Env}{w0 w:World}{L L':List bu}{fuel:Nat}{listed:Array Bool}(ds is:List Nat)(ps:List Mk)(e1:ps.map Mk.d=ds)(e2:ps.map Mk.i=is)
  (hl:allM (fun p=>l[p.i]?=some p.q/\Nat.blt p.d n=true) ps) (hr:allM (fun p=>∀σ' w,(∀s,ds.contains s=false->σ' s=σ s)->(execOp (ev σ') p.q).run P w= .ok (.value (p.f w.heap.size)) (w.alloc p.o)) ps)
  (hd:ds.Nodup) (hi:is.Nodup) (hc:aip l ps.length listed is=true) (hH:Hp w0 w L') (hs:L.Sublist L')
  (h:∀β w',Hp w0 w' (ps.map (VF β)++L')->AN P n l (fun w=>Hp w0 w L) k fuel (ldM listed ps) (D0 σ β ps) w'):AN P n l (fun w=>Hp w0 w L) k (fuel+ps.length) listed σ w:=
 axf ps hl.mem (fun p hp σ' w q=>hr.mem p hp σ' w fun s hs=>q s (by rw[e1];intro c;rw[List.contains_iff_mem.2 c]at hs;cases hs)) (e1▸hd) (e2▸hi) (e2▸hc) hH hs h
section
variable{P:Program}{σ:Env}{w w0:World}{L:List bu}{dst:Option Tmp}{ty t e:TypeId}{pos:String}{bO:Array Edge}{g:Option (Nat×Bool)}{x y:Operand}{α:Type}{f:α->Value}{cl:α->List Value}{sz i b:Nat}{l:List α}
theorem VH:∀{l:List α},l.flatMap (fun a=>[f a])=l.map f
 |[]=>rfl
 |a::l=>by rw[uF,VH,lR];rfl
theorem Ak{ie:TypeInfo}{z:Value}{z0:α}{n:Nat}(hu:P.underlying t=some (.slice e))(hie:P.info? e=some ie)(hz:ie.zero=some z)(hzc:z.cells=#[f z0])(hs:ie.size=1)
  (hx:ev σ x= .int .i64 n) (hy:ev σ y= .int .i64 n) (hb:ie.bytes<=1000) (hn:n<=1000000000):
  (execOp (ev σ) ⟨dst,.makeSlice t x y,ty,pos,bO,g⟩).run P w= .ok (.value (.slice (some ⟨w.heap.size,0,none⟩) n n)) (w.alloc (.cells ((List.replicate n z0).map f).toArray e)):=by
 have:=PY (P:=P) (w:=w) (dst:=dst) (ty:=ty) (pos:=pos) (bO:=bO) (g:=g) (cl:=fun a=>[f a]) (sz:=1) (z0:=z0) (fun _=>rfl) az hu hie hz hzc hs hx hy (kX (xQ hb hn) az) (by unfold maxLen;omega)
 rwa[VH]at this
theorem Hp.J1{n:Nat}(h:Hp w0 w L)(hi:L[i]?=some (.blk b (.cells (l.map f).toArray e (0,0))))(hl:l.length=n)(hn:n<=1000000000):Hp w0 w (L.set i (jU f (.slice (some ⟨b,0,none⟩) n n) e l)):=by
 subst hl
 have hx:=h.get hi
 refine h.xl hi O ⟨aJ,.inr ⟨b,l.length,(l.map f).toArray,rfl,hx.1,hx.2,eU _,by unfold maxLen;omega,aJ,?_⟩⟩
 rw[lU,<-gF (f:=f)];exact EX
end
end
end Go.Proofs.YtlhjdflgjbkpmaaGreatDoor.E
namespace Go.Proofs.YtlhjdflgjbkpmaaGreatDoor.M
section
open Go
inductive jZ(E:Nat->Nat->Prop):Nat->Nat->Prop
 |refl (a:Nat):jZ E a a
 |step {a b c:Nat} (h:jZ E a b) (e:E b c):jZ E a c
theorem jZ.one{E:Nat->Nat->Prop}{a b:Nat}(e:E a b):jZ E a b:= .step (.refl a) e
theorem jZ.trans{E:Nat->Nat->Prop}{a b c:Nat}(h:jZ E a b)(h2:jZ E b c):jZ E a c:=by
 induction h2 with
 |refl=>exact h
 |step _ e ih=>exact ih.step e
theorem jZ.mono{E E':Nat->Nat->Prop}{a b:Nat}(h:jZ E a b)(hE:∀x y,E x y->E' x y):jZ E' a b:=by
 induction h with
 |refl=>exact .refl _
 |step _ e ih=>exact ih.step (hE _ _ e)
abbrev T0:=List (Nat×List Nat)
def fH(F:T0):List Nat:=F.flatMap fun x=>x.2++[x.1]
structure FZ(R:Nat->Nat->Prop)(ord low:Nat->Int)(F:T0):Prop where
 Nb:(fH F).Pairwise fun a b=>ord b<ord a
 lo:∀k,k∈fH F->low k<=ord k/\∃m,m∈fH F/\ord m=low k/\R k m
 seg:∀x,x∈F->∀k,k∈x.2->R x.1 k/\low x.1<=low k/\low k<ord k
 way:F.Pairwise fun x y=>R y.1 x.1
def ox(f:Nat->Int)(k:Nat)(v:Int):Nat->Int:=fun i=>if i=k then v else f i
section
variable{R:Nat->Nat->Prop}{ord low:Nat->Int}{F:T0}{a p:Nat}{sg sp:List Nat}{t:Int}
theorem gP:fH ((a,sg)::F)=sg++a::fH F:=by simp[fH]
theorem DS:a∈fH ((a,sg)::F):=by rw[gP];simp
theorem jx{x:Nat×List Nat}(h:x∈F):x.1∈fH F:=by grind[fH]
theorem KW{x:Nat×List Nat}{k:Nat}(h:x∈F)(hk:k∈x.2):k∈fH F:=by grind[fH]
theorem FZ.nil:FZ R ord low []:=⟨List.Pairwise.nil,(fun k h=>by simp[fH]at h),(fun x h=>mJ),List.Pairwise.nil⟩
theorem FZ.below(h:FZ R ord low ((a,sg)::F)):(∀k,k∈fH F->ord k<ord a)/\∀k,k∈sg->ord a<ord k:=by grind[FZ,fH,gP]
theorem FZ.air(h:FZ R ord low ((a,sg)::F))(ht:∀x y z,R x y->R y z->R x z)(he:low a=ord a):∀k,k∈sg->R a k/\R k a:=by
 have hs:=h.seg _ (qT ..)
 have key:∀n:Nat,∀k,k∈sg->(ord k-ord a).toNat<=n->R k a:=fun n=>by
  induction n with
  |zero=>intro k hk hn;have:=h.below.2 k hk;omega
  |succ n ih=>
   intro k hk hn
   obtain⟨h1,h2,h3⟩:=hs k hk
   obtain⟨-,m,hm,e,hr⟩:=h.lo k (KW (qT ..) hk)
   rw[gP]at hm
   rcases fg.1 hm with q|q
   .exact ht _ _ _ hr (ih m q (by have:=h.below.2 m q;have:low a<=low k:=h2;omega))
   rcases c8.1 q with q|q
   .subst q;exact hr
   have:=h.below.1 m q
   have:low a<=low k:=h2
   omega
 exact fun k hk=>⟨(hs k hk).1,key _ k hk (eU _)⟩
theorem FZ.enter(h:FZ R ord low F)(hn:a∉fH F)(ht:∀k,k∈fH F->ord k<t)(hr:R a a)(hw:∀x,x∈F->R x.1 a):FZ R (ox ord a t) (ox low a t) ((a,[])::F):=by
 have ne:∀k,k∈fH F->k≠a:=fun k hk e=>hn (e▸hk)
 have so:∀k,k∈fH F->ox ord a t k=ord k:=fun k hk=>aT (ne k hk)
 have sl:∀k,k∈fH F->ox low a t k=low k:=fun k hk=>aT (ne k hk)
 have ea:ox ord a t a=t:=aX O
 have la:ox low a t a=t:=aX O
 refine⟨?_,fun k hk=> ?_,fun x hx k hk=> ?_,lQ.2 ⟨fun x hx=>hw x hx,h.way⟩⟩
 .rw[gP,eN]
  refine lQ.2 ⟨fun k hk=>by rw[ea,so k hk];exact ht k hk,?_⟩
  exact h.Nb.imp_of_mem fun{x y} hx hy q=>by rw[so x hx,so y hy];exact q
 .rw[gP,eN]at hk
  rcases c8.1 hk with q|q
  .subst q;exact⟨by rw[ea,la];exact lW _,_,DS,by rw[ea,la],hr⟩
  obtain⟨h1,m,h2,h3,h4⟩:=h.lo k q
  refine⟨by rw[so k q,sl k q];exact h1,m,by rw[gP];simp[h2],by rw[so m h2,sl k q];exact h3,h4⟩
 rcases c8.1 hx with q|q
 .subst q;cases hk
 have k1:=KW q hk
 have k2:=jx q
 rw[so k k1,sl k k1,sl _ k2];exact h.seg x q k hk
theorem FZ.arc(h:FZ R ord low ((a,sg)::F)){m:Nat}(hm:m∈fH ((a,sg)::F))(hr:R a m):FZ R ord (ox low a (min (low a) (ord m))) ((a,sg)::F):=by
 have la:ox low a (min (low a) (ord m)) a=min (low a) (ord m):=aX O
 have sl:∀k,k≠a->ox low a (min (low a) (ord m)) k=low k:=fun k hk=>aT hk
 have hb:=h.below
 refine⟨h.Nb,fun k hk=> ?_,fun x hx k hk=> ?_,h.way⟩
 .obtain⟨h1,j,h2,h3,h4⟩:=h.lo k hk
  by_cases e:k=a
  .subst e
   rw[la]
   refine⟨J,?_⟩
   by_cases c:low k<=ord m
   .exact⟨j,h2,by rw[X6 c];exact h3,h4⟩
   exact⟨m,hm,by rw[Int.min_eq_right J],hr⟩
  rw[sl k e];exact⟨h1,j,h2,h3,h4⟩
 obtain⟨h1,h2,h3⟩:=h.seg x hx k hk
 have hka:k≠a:=fun e=>by
  subst e
  rcases c8.1 hx with q|q
  .subst q;have:=hb.2 k hk;omega
  have:=hb.1 k (KW q hk);omega
 rw[sl k hka]
 refine⟨h1,?_,h3⟩
 by_cases e:x.1=a
 .rw[e,la];rw[e]at h2;omega
 rw[sl _ e];exact h2
theorem FZ.VI(h:FZ R ord low ((a,sg)::(p,sp)::F))(ht:∀x y z,R x y->R y z->R x z)(hlt:low a<ord a):FZ R ord (ox low p (min (low p) (low a))) ((p,sg++a::sp)::F):=by
 have e0:fH ((p,sg++a::sp)::F)=fH ((a,sg)::(p,sp)::F):=by simp[fH]
 have hrp:R p a:=(lQ.1 h.way).1 (p,sp) aJ
 have hb:=h.below
 have hp:p∈fH ((a,sg)::(p,sp)::F):=jx (x:=(p,sp)) aJ
 have hpa:p≠a:=fun e=>by have:=hb.1 p (jx (x:=(p,sp)) aJ);rw[e]at this;omega
 have lp:ox low p (min (low p) (low a)) p=min (low p) (low a):=aX O
 have sl:∀k,k≠p->ox low p (min (low p) (low a)) k=low k:=fun k hk=>aT hk
 have hs:=h.Nb
 have hsp:((fH ((p,sp)::F))).Pairwise fun a b=>ord b<ord a:=by
  rw[gP]at hs;exact(lQ.1 (EV.1 hs).2.1).2
 have hbp:(∀k,k∈fH F->ord k<ord p)/\∀k,k∈sp->ord p<ord k:=by
  rw[gP]at hsp
  obtain⟨h2,h3,h4⟩:=EV.1 hsp
  exact⟨fun k hk=>(lQ.1 h3).1 k hk,fun k hk=>h4 k hk p aJ⟩
 refine⟨by rw[e0];exact hs,fun k hk=> ?_,fun x hx k hk=> ?_,?_⟩
 .rw[e0]at hk⊢
  obtain⟨h1,j,h2,h3,h4⟩:=h.lo k hk
  by_cases e:k=p
  .subst e
   rw[lp]
   refine⟨J,?_⟩
   by_cases c:low k<=low a
   .exact⟨j,h2,by rw[X6 c];exact h3,h4⟩
   obtain⟨-,i,i2,i3,i4⟩:=h.lo a DS
   exact⟨i,i2,by rw[Int.min_eq_right J];exact i3,ht _ _ _ hrp i4⟩
  rw[sl k e];exact⟨h1,j,h2,h3,h4⟩
 .rcases c8.1 hx with q|q
  .subst q
   have hmem:k∈sg\/k=a\/k∈sp:=by simpa using hk
   rcases hmem with q|q|q
   .obtain⟨h1,h2,h3⟩:=h.seg (a,sg) aJ k q
    have hkp:k≠p:=fun e=>by
     have:=hb.2 k q;have:=hb.1 p (jx (x:=(p,sp)) aJ);rw[e]at*;omega
    rw[lp,sl k hkp]
    have:low a<=low k:=h2
    exact⟨ht _ _ _ hrp h1,J,h3⟩
   .subst q;rw[lp,sl k hpa.symm];exact⟨hrp,J,hlt⟩
   obtain⟨h1,h2,h3⟩:=h.seg (p,sp) aJ k q
   have hkp:k≠p:=fun e=>by have:=hbp.2 k q;rw[e]at this;omega
   rw[lp,sl k hkp]
   have:low p<=low k:=h2
   exact⟨h1,J,h3⟩
  obtain⟨h1,h2,h3⟩:=h.seg x (by simp[q]) k hk
  have hkp:k≠p:=fun e=>by have:=hbp.1 k (KW q hk);rw[e]at this;omega
  have hxp:x.1≠p:=fun e=>by have:=hbp.1 x.1 (jx q);rw[e]at this;omega
  rw[sl k hkp,sl _ hxp];exact⟨h1,h2,h3⟩
 obtain⟨-,h2⟩:=lQ.1 h.way
 exact lQ.2 ⟨fun x hx=>(lQ.1 h2).1 x hx,(lQ.1 h2).2⟩
theorem FZ.close(h:FZ R ord low ((a,sg)::F)):FZ R ord low F:=by
 have hs:=h.Nb
 rw[gP]at hs
 have hb:=h.below
 refine⟨(lQ.1 (EV.1 hs).2.1).2,fun k hk=> ?_,fun x hx=>h.seg x q5,(lQ.1 h.way).2⟩
 obtain⟨h1,m,h2,h3,h4⟩:=h.lo k (by rw[gP];simp[hk])
 refine⟨h1,m,?_,h3,h4⟩
 rw[gP]at h2
 have hka:=hb.1 k hk
 rcases fg.1 h2 with q|q
 .have:=hb.2 m q;omega
 rcases c8.1 q with q|q
 .subst q;omega
 exact q
theorem FZ.root(h:FZ R ord low [(a,sg)]):low a=ord a:=by grind[FZ,DS,gP,fH]
end
def JG(F:T0)(p c:Nat):Prop:=∃F1 sc sp F2,F=F1++(c,sc)::(p,sp)::F2
structure O2(E seen:Nat->Nat->Prop)(shut:Nat->Prop)(ord low:Nat->Int)(F:T0):Prop where
 out:∀k,k∈fH F->¬shut k
 Qo:∀k,shut k->∀j,E k j->shut j
 Zy:∀x,x∈F->∀k,k∈x.2->∀j,E k j->seen k j
 led:∀k,k∈fH F->∀j,seen k j->shut j\/j∈fH F/\(low k<=ord j\/JG F k j)
section
variable{E seen:Nat->Nat->Prop}{shut:Nat->Prop}{R:Nat->Nat->Prop}{ord low:Nat->Int}{F:T0}{a p j:Nat}{sg sp:List Nat}{t:Int}
theorem O2.nil(h:∀k,shut k->∀j,E k j->shut j):O2 E seen shut ord low []:=by grind[O2,fH]
theorem JG.mem(h:JG F p j):∃x,x∈F/\x.1=p:=by
 obtain⟨F1,sc,sp,F2,rfl⟩:=h;exact⟨(p,sp),aJ,rfl⟩
theorem FZ.top(h:FZ R ord low ((a,sg)::F)){k:Nat}(hk:k∈sg\/k=a):¬JG ((a,sg)::F) k j:=by
 rintro⟨F1,sc,sp,F2,e⟩
 have hb:=h.below
 have hm:(k,sp)∈F:=by
  cases F1 with
  |nil=>simp at e;rw[e.2];simp
  |cons b F1=>simp at e;rw[e.2];simp
 have h1:=hb.1 k (jx (x:=(k,sp)) hm)
 rcases hk with q|q
 .have:=hb.2 k q;omega
 subst q;omega
theorem O2.close(h:O2 E seen shut ord low ((a,sg)::F))(hi:FZ R ord low ((a,sg)::F))(he:low a=ord a)(ha:∀j,E a j->seen a j):O2 E seen (fun k=>shut k\/k=a\/k∈sg) ord low F:=by
 have hb:=hi.below
 have mem:∀k,k∈fH ((a,sg)::F)↔k∈sg\/k=a\/k∈fH F:=fun k=>by rw[gP];simp
 refine⟨fun k hk=> ?_,fun k hk j hj=> ?_,fun x hx=>h.Zy x q5,fun k hk j hj=> ?_⟩
 .rintro(q|q|q)
  .exact h.out k ((mem k).2 (.inr (.inr hk))) q
  .subst q;have:=hb.1 k hk;omega
  have:=hb.1 k hk;have:=hb.2 k q;omega
 .rcases hk with q|q
  .exact .inl (h.Qo k q j hj)
  have CF:k∈fH ((a,sg)::F):=(mem k).2 (q.elim (fun e=> .inr (.inl e)) .inl)
  have Xj:seen k j:=by
   rcases q with q|q
   .subst q;exact ha j hj
   exact h.Zy (a,sg) aJ k q j hj
  have ad8:ord a<=low k:=by
   rcases q with q|q
   .subst q;omega
   have:=(hi.seg (a,sg) aJ k q).2.1;have:low a<=low k:=this;omega
  rcases h.led k CF j Xj with c|⟨c,d⟩
  .exact .inl c
  rcases d with d|d
  .rcases(mem j).1 c with e|e|e
   .exact .inr (.inr e)
   .exact .inr (.inl e)
   have:=hb.1 j e;omega
  exact absurd d (hi.top (q.elim .inr .inl))
 rcases h.led k ((mem k).2 (.inr (.inr hk))) j hj with c|⟨c,d⟩
 .exact .inl (.inl c)
 rcases(mem j).1 c with e|e|e
 .exact .inl (.inr (.inr e))
 .exact .inl (.inr (.inl e))
 refine .inr ⟨e,d.imp id fun q=> ?_⟩
 obtain⟨F1,sc,sp,F2,e1⟩:=q
 cases F1 with
 |nil=>simp at e1;rw[e1.1.1]at hb;have:=hb.1 j e;omega
 |cons b F1=>simp at e1;exact⟨F1,sc,sp,F2,e1.2⟩
theorem O2.VI(h:O2 E seen shut ord low ((a,sg)::(p,sp)::F))(hi:FZ R ord low ((a,sg)::(p,sp)::F))(ha:∀j,E a j->seen a j):O2 E seen shut ord (ox low p (min (low p) (low a))) ((p,sg++a::sp)::F):=by
 have e0:fH ((p,sg++a::sp)::F)=fH ((a,sg)::(p,sp)::F):=by simp[fH]
 have le:∀k,ox low p (min (low p) (low a)) k<=low k:=fun k=>by
  unfold ox;split
  .subst_vars;omega
  exact lW _
 have lp:ox low p (min (low p) (low a)) p<=low a:=by unfold ox;rw[aX O];omega
 refine⟨fun k hk=>h.out k (e0▸hk),h.Qo,fun x hx k hk j hj=> ?_,fun k hk j hj=> ?_⟩
 .rcases c8.1 hx with q|q
  .subst q
   have hm:k∈sg\/k=a\/k∈sp:=by simpa using hk
   rcases hm with q|q|q
   .exact h.Zy (a,sg) aJ k q j hj
   .subst q;exact ha j hj
   exact h.Zy (p,sp) aJ k q j hj
  exact h.Zy x (by simp[q]) k hk j hj
 rw[e0]at hk⊢
 rcases h.led k hk j hj with c|⟨c,d⟩
 .exact .inl c
 refine .inr ⟨c,?_⟩
 rcases d with d|⟨F1,sc,s2,F2,e1⟩
 .exact .inl (Ls (le k) d)
 .cases F1 with
  |nil=>
   simp at e1
   obtain⟨⟨rfl,rfl⟩,⟨rfl,rfl⟩,rfl⟩:=e1
   exact .inl (Ls lp (hi.lo a DS).1)
  |cons b F1=>
   simp at e1
   cases F1 with
   |nil=>
    simp at e1
    obtain⟨-,⟨rfl,rfl⟩,rfl⟩:=e1
    exact .inr ⟨[],_,_,_,rfl⟩
   |cons b2 F1=>
    simp at e1
    obtain⟨-,-,rfl⟩:=e1
    exact .inr ⟨(p,sg++a::sp)::F1,_,_,_,rfl⟩
end
section
variable{E seen seen':Nat->Nat->Prop}{shut:Nat->Prop}{R:Nat->Nat->Prop}{ord low:Nat->Int}{F:T0}{a p j:Nat}{sg sp:List Nat}{t:Int}
theorem JG.cons{x:Nat×List Nat}(h:JG F p j):JG (x::F) p j:=by grind[JG]
theorem O2.enter(h:O2 E seen shut ord low F)(hn:a∉fH F)(hs:¬shut a)(hno:∀j,¬seen a j)(h1:∀k j,seen k j->seen' k j)(h2:∀k j,seen' k j->seen k j\/j=a/\∃sp F0,F=(k,sp)::F0):O2 E seen' shut (ox ord a t) (ox low a t) ((a,[])::F):=by
 have ne:∀k,k∈fH F->k≠a:=fun k hk e=>hn (e▸hk)
 have mem:∀k,k∈fH ((a,[])::F)↔k=a\/k∈fH F:=fun k=>by rw[gP];simp
 refine⟨fun k hk=> ?_,h.Qo,fun x hx k hk j hj=> ?_,fun k hk j hj=> ?_⟩
 .rcases(mem k).1 hk with q|q
  .subst q;exact hs
  exact h.out k q
 .rcases c8.1 hx with q|q
  .subst q;cases hk
  exact h1 _ _ (h.Zy x q k hk j hj)
 rcases h2 k j hj with q|⟨rfl,sp,F0,rfl⟩
 .rcases(mem k).1 hk with e|e
  .subst e;exact absurd q (hno j)
  rcases h.led k e j q with c|⟨c,d⟩
  .exact .inl c
  refine .inr ⟨(mem j).2 (.inr c),d.imp (fun d=> ?_) fun d=>d.cons⟩
  unfold ox;rw[aT (ne k e),aT (ne j c)];exact d
 exact .inr ⟨(mem j).2 (.inl O),.inr ⟨[],_,_,_,rfl⟩⟩
theorem O2.look{v:Int}(h:O2 E seen shut ord low ((a,sg)::F))(hv:v<=low a)(h1:∀k i,seen k i->seen' k i)(h2:∀k i,seen' k i->seen k i\/k=a/\i=j)(hj:shut j\/j∈fH ((a,sg)::F)/\v<=ord j):O2 E seen' shut ord (ox low a v) ((a,sg)::F):=by
 have la:ox low a v a=v:=aX O
 have le:∀k,ox low a v k<=low k:=fun k=>by
  unfold ox;split
  .subst_vars;exact hv
  exact lW _
 refine⟨h.out,h.Qo,fun x hx k hk i hi=>h1 _ _ (h.Zy x hx k hk i hi),fun k hk i hi=> ?_⟩
 rcases h2 k i hi with q|⟨rfl,rfl⟩
 .exact(h.led k hk i q).imp id fun⟨c,d⟩=>⟨c,d.imp (fun d=>Ls (le k) d) id⟩
 exact hj.imp id fun⟨c,d⟩=>⟨c,.inl (by rw[la];exact d)⟩
end
section
variable{E seen:Nat->Nat->Prop}{shut:Nat->Prop}{ord low:Nat->Int}{F:T0}{a:Nat}{sg:List Nat}
theorem jZ.stay{C:Nat->Prop}(hC:∀k,C k->∀j,E k j->C j){x y:Nat}(h:jZ E x y)(hx:C x):C y:=by
 induction h with
 |refl=>exact hx
 |step _ e ih=>exact hC _ (ih) _ e
theorem O2.whole(h:O2 E seen shut ord low ((a,sg)::F))(hi:FZ (jZ E) ord low ((a,sg)::F))(he:low a=ord a)(ha:∀j,E a j->seen a j){k y:Nat}(hk:k=a\/k∈sg)(h1:jZ E k y)(h2:jZ E y k):y=a\/y∈sg:=by
 have hc:=h.close hi he ha
 rcases h1.stay hc.Qo (.inr hk)with q|q
 .have hm:k∈fH ((a,sg)::F):=by
   rw[gP]
   rcases hk with e|e
   .subst e;simp
   simp[e]
  exact absurd (h2.stay h.Qo q) (h.out k hm)
 exact q
theorem O2.iff(h:O2 E seen shut ord low ((a,sg)::F))(hi:FZ (jZ E) ord low ((a,sg)::F))(he:low a=ord a)(ha:∀j,E a j->seen a j){k y:Nat}(hk:k=a\/k∈sg):(jZ E k y/\jZ E y k)↔(y=a\/y∈sg):=by
 refine⟨fun q=>h.whole hi he ha hk q.1 q.2,fun q=> ?_⟩
 have key:∀z,z=a\/z∈sg->jZ E a z/\jZ E z a:=fun z hz=>by
  rcases hz with e|e
  .subst e;exact⟨.refl _,.refl _⟩
  exact hi.air (fun _ _ _=>jZ.trans) he z e
 exact⟨(key k hk).2.trans (key y q).1,(key y q).2.trans (key k hk).1⟩
end
structure D1 where
 node:Int
 next:Int
def oN(l:List Int):Nat->Int:=fun k=>l.getD k 0
def NI(l:List Nat):List Int:=l.map fun(k:Nat)=>(k:Int)
def wg(gl:List (List Int))(a b:Nat):Prop:=a<gl.length/\b<gl.length/\∃i,i<(gl.getD a []).length/\(gl.getD a []).getD i 0=(b:Int)
def uK(gl:List (List Int))(nx:Nat->Nat)(a b:Nat):Prop:=a<gl.length/\b<gl.length/\∃i,i<nx a/\i<(gl.getD a []).length/\(gl.getD a []).getD i 0=(b:Int)
def Bc(od:List Int)(F:T0)(k:Nat):Prop:=k<od.length/\oN od k≠0/\k∉fH F
def tJ(E:Nat->Nat->Prop)(a b:Nat):Prop:=jZ E a b/\jZ E b a
structure OfK(E:Nat->Nat->Prop)(k:Nat)(o:Int):Prop where
 is:∃j:Nat,o=j/\tJ E k j
 low:∀j:Nat,tJ E k j->o<=j
def pN(F:T0)(nx:Nat->Nat):List D1:=F.reverse.map fun x=>⟨x.1,nx x.1⟩
structure rR(gl:List (List Int))(od lo:List Int)(on:List Bool)(tm:Int)(kT:List Int)(F:T0)(nx:Nat->Nat):Prop where
 T1:od.length=gl.length
 llo:lo.length=gl.length
 lon:on.length=gl.length
 lof:kT.length=gl.length
 onI:∀k,k<gl.length->(on.getD k false=true↔k∈fH F)
 lt:∀k,k∈fH F->k<gl.length/\0<oN od k
 odI:∀k,0<=oN od k/\oN od k<=tm
 cnt:tm+od.count 0=gl.length
 T2:FZ (jZ (wg gl)) (oN od) (oN lo) F
 kne:O2 (wg gl) (uK gl nx) (Bc od F) (oN od) (oN lo) F
 nx0:∀k,oN od k=0->nx k=0
 fin:∀k,Bc od F k->OfK (wg gl) k (oN kT k)
theorem Al{l:List Int}{k:Nat}{v:Int}(h:k<l.length):oN (l.set k v)=ox (oN l) k v:=by grind[oN,ox]
theorem abH:∀{l:List Int} {k:Nat} {v:Int},k<l.length->l.getD k 0=0->v≠0->(l.set k v).count 0+1=l.count 0
 |[],k,v,h,_,_=>by simp at h
 |a::l,0,v,_,h2,h3=>by
  have:a=0:=h2
  subst this
  rw[jg,List.count_cons_self,List.count_cons_of_ne (by simpa using h3)]
 |a::l,k+1,v,h1,h2,h3=>by
  have ih:=abH (l:=l) (k:=k) (v:=v) Fa h2 h3
  rw[kW,EZ,EZ];omega
theorem aea{f:Nat->Int}{k:Nat}{v:Int}(h:f k=v):ox f k v=f:=by grind[ox]
section
variable{gl:List (List Int)}{od lo:List Int}{on:List Bool}{tm:Int}{kT:List Int}{F:T0}{nx:Nat->Nat}{a b p:Nat}{sg sp:List Nat}
def qL(nx:Nat->Nat)(p:Nat):Nat->Nat:=fun i=>if i=p then nx i+1 else nx i
theorem DT{k j:Nat}(h:uK gl nx k j):uK gl (qL nx p) k j:=by grind[uK,qL]
theorem GJ{k j:Nat}(h:uK gl (qL nx p) k j):uK gl nx k j\/k=p/\(gl.getD p []).getD (nx p) 0=(j:Int):=by grind[uK,qL]
theorem rR.room(h:rR gl od lo on tm kT F nx):0<=tm/\tm<=gl.length:=by grind[rR,kT]
theorem rR.skip(h:rR gl od lo on tm kT ((p,sp)::F) nx)(hk:¬∃j,j<gl.length/\(gl.getD p []).getD (nx p) 0=((j:Nat):Int)):rR gl od lo on tm kT ((p,sp)::F) (qL nx p):=by
 have hs:uK gl (qL nx p)=uK gl nx:=by
  funext k j;apply propext
  refine⟨fun q=> ?_,DT⟩
  rcases GJ q with q2|⟨rfl,q2⟩
  .exact q2
  exact absurd ⟨j,q.2.1,q2⟩ hk
 have hp:=h.lt p (jx (x:=(p,sp)) aJ)
 exact⟨h.T1,h.llo,h.lon,h.lof,h.onI,h.lt,h.odI,h.cnt,h.T2,by rw[hs];exact h.kne,fun k CF=>by unfold qL;rw[aT (fun e=>by rw[e]at CF;omega)];exact h.nx0 k CF,h.fin⟩
theorem rR.axi(h:rR gl od lo on tm kT ((p,sp)::F) nx)(hl:nx p<(gl.getD p []).length)(hb:b<gl.length)(hk:(gl.getD p []).getD (nx p) 0=(b:Int)):wg gl p b:=by grind[rR,kT,wg,jx]
theorem SV(h:rR gl od lo on tm kT ((p,sp)::F) nx)(k:Nat)(hk:oN od k=0):qL nx p k=0:=by
 have hp:=h.lt p (jx (x:=(p,sp)) aJ)
 unfold qL;rw[aT (fun e=>by rw[e]at hk;omega)];exact h.nx0 k hk
theorem rR.arc(h:rR gl od lo on tm kT ((p,sp)::F) nx)(hl:nx p<(gl.getD p []).length)(hb:b<gl.length)(hk:(gl.getD p []).getD (nx p) 0=(b:Int))(hon:on.getD b false=true):
  rR gl od (lo.set p (min (oN lo p) (oN od b))) on tm kT ((p,sp)::F) (qL nx p):=by
 have hm:=(h.onI b hb).1 hon
 have hp:=h.lt p (jx (x:=(p,sp)) aJ)
 have e1:=Al (l:=lo) (k:=p) (v:=min (oN lo p) (oN od b)) RW
 refine⟨h.T1,by rw[nY];exact h.llo,h.lon,h.lof,h.onI,h.lt,h.odI,h.cnt,by rw[e1];exact h.T2.arc hm (.one (h.axi hl hb hk)),?_,SV h,h.fin⟩
 rw[e1]
 exact h.kne.look (j:=b) J (fun k i=>DT) (fun k i q=>(GJ q).imp id fun⟨q1,q2⟩=>⟨q1,J⟩) (.inr ⟨hm,J⟩)
theorem rR.shut(h:rR gl od lo on tm kT ((p,sp)::F) nx)(hl:nx p<(gl.getD p []).length)(hb:b<gl.length)(hk:(gl.getD p []).getD (nx p) 0=(b:Int))(h0:oN od b≠0)(hon:¬on.getD b false=true):
  rR gl od lo on tm kT ((p,sp)::F) (qL nx p):=by
 have hm:b∉fH ((p,sp)::F):=fun q=>hon ((h.onI b hb).2 q)
 refine⟨h.T1,h.llo,h.lon,h.lof,h.onI,h.lt,h.odI,h.cnt,h.T2,?_,SV h,h.fin⟩
 have:=h.kne.look (seen':=uK gl (qL nx p)) (j:=b) (v:=oN lo p) (lW _) (fun k i=>DT) (fun k i q=>(GJ q).imp id fun⟨q1,q2⟩=>⟨q1,J⟩) (.inl ⟨by rw[h.T1];exact hb,h0,hm⟩)
 rwa[aea O]at this
theorem rR.axj{nx':Nat->Nat}(h:rR gl od lo on tm kT F nx)(ha:a<gl.length)(h0:oN od a=0)(hn:∀k,oN od k=0->nx' k=0)(h1:∀k j,uK gl nx k j->uK gl nx' k j)(h2:∀k j,uK gl nx' k j->uK gl nx k j\/j=a/\∃sp F0,F=(k,sp)::F0)(hw:∀x,x∈F->jZ (wg gl) x.1 a):
  rR gl (od.set a (tm+1)) (lo.set a (tm+1)) (on.set a true) (tm+1) kT ((a,[])::F) nx':=by
 have hr:=h.room
 have hna:a∉fH F:=fun q=>by have:=(h.lt a q).2;omega
 have ne:∀k,k∈fH F->k≠a:=fun k hk e=>hna (e▸hk)
 have mem:∀k,k∈fH ((a,[])::F)↔k=a\/k∈fH F:=fun k=>by rw[gP];simp
 have e1:=Al (l:=od) (k:=a) (v:=tm+1) (by rw[h.T1];exact ha)
 have e2:=Al (l:=lo) (k:=a) (v:=tm+1) (by rw[h.llo];exact ha)
 have es:Bc (od.set a (tm+1)) ((a,[])::F)=Bc od F:=by
  funext k;apply propext
  unfold Bc
  rw[nY,e1,mem]
  unfold ox
  by_cases e:k=a
  .subst e;rw[aX O];exact⟨fun q=>absurd (.inl O) q.2.2,fun q=>absurd h0 q.2.1⟩
  rw[aT e];exact⟨fun q=>⟨q.1,q.2.1,fun c=>q.2.2 (.inr c)⟩,fun q=>⟨q.1,q.2.1,fun c=>c.elim e q.2.2⟩⟩
 refine⟨by rw[nY];exact h.T1,by rw[nY];exact h.llo,by rw[nY];exact h.lon,h.lof,fun k hk=> ?_,fun k hk=> ?_,fun k=> ?_,?_,?_,?_,fun k hk=> ?_,?_⟩
 .rw[mem,eT,p7]
  by_cases e:a=k
  .subst e;rw[aX O,aX (by rw[h.lon];exact ha)];simp
  rw[aT e,<-eT,h.onI k hk];exact⟨.inr,fun q=>q.elim (fun c=>absurd c.symm e) id⟩
 .rw[e1];unfold ox
  rcases(mem k).1 hk with e|q
  .subst e;rw[aX O];exact⟨ha,J⟩
  rw[aT (ne k q)];exact h.lt k q
 .rw[e1];unfold ox;have:=h.odI k;split<;>omega
 .have:=abH (l:=od) (k:=a) (v:=tm+1) (by rw[h.T1];exact ha) h0 J
  have:=h.cnt;omega
 .rw[e1,e2];exact h.T2.enter hna (fun k hk=>by have:=(h.odI k).2;omega) (.refl a) hw
 .rw[e1,e2,es];exact h.kne.enter hna (fun q=>q.2.1 h0) (fun j q=>by obtain⟨_,_,i,hi,_⟩:=q;have:=h.nx0 a h0;omega) h1 h2
 .rw[e1]at hk;unfold ox at hk
  by_cases e:k=a
  .rw[aX e]at hk;omega
  rw[aT e]at hk;exact hn k hk
 rw[es];exact h.fin
theorem rR.first(h:rR gl od lo on tm kT [] nx)(ha:a<gl.length)(h0:oN od a=0):rR gl (od.set a (tm+1)) (lo.set a (tm+1)) (on.set a true) (tm+1) kT [(a,[])] nx:=
 h.axj ha h0 h.nx0 (fun _ _ q=>q) (fun _ _ q=> .inl q) fun x hx=>by cases hx
theorem rR.enter(h:rR gl od lo on tm kT ((p,sp)::F) nx)(hl:nx p<(gl.getD p []).length)(hk:(gl.getD p []).getD (nx p) 0=(a:Int))(ha:a<gl.length)(h0:oN od a=0):
  rR gl (od.set a (tm+1)) (lo.set a (tm+1)) (on.set a true) (tm+1) kT ((a,[])::(p,sp)::F) (qL nx p):=
 h.axj ha h0 (SV h) (fun k j=>DT) (fun k j q=>(GJ q).imp id fun⟨q1,q2⟩=>⟨J,by subst q1;exact⟨_,_,rfl⟩⟩) fun x hx=>by
  have e:=h.axi hl ha hk
  rcases c8.1 hx with q|q
  .subst q;exact .one e
  exact((lQ.1 h.T2.way).1 x q).trans (.one e)
theorem rR.all(h:rR gl od lo on tm kT ((a,sg)::F) nx)(hd:¬nx a<(gl.getD a []).length):∀j,wg gl a j->uK gl nx a j:=by grind[rR,kT,wg,uK]
theorem rR.VI(h:rR gl od lo on tm kT ((a,sg)::(p,sp)::F) nx)(hd:¬nx a<(gl.getD a []).length)(hne:oN lo a≠oN od a):
  rR gl od (lo.set p (min (oN lo p) (oN lo a))) on tm kT ((p,sg++a::sp)::F) nx:=by
 have e0:fH ((p,sg++a::sp)::F)=fH ((a,sg)::(p,sp)::F):=by simp[fH]
 have hp:=h.lt p (jx (x:=(p,sp)) aJ)
 have e1:=Al (l:=lo) (k:=p) (v:=min (oN lo p) (oN lo a)) RW
 have hlo:=(h.T2.lo a DS).1
 have es:Bc od ((p,sg++a::sp)::F)=Bc od ((a,sg)::(p,sp)::F):=by unfold Bc;rw[e0]
 refine⟨h.T1,by rw[nY];exact h.llo,h.lon,h.lof,by rw[e0];exact h.onI,by rw[e0];exact h.lt,h.odI,h.cnt,?_,?_,h.nx0,by rw[es];exact h.fin⟩
 .rw[e1];exact h.T2.VI (fun _ _ _=>jZ.trans) J
 rw[e1,es];exact h.kne.VI h.T2 (h.all hd)
theorem rR.close{on':List Bool}{of':List Int}(h:rR gl od lo on tm kT ((a,sg)::F) nx)(hd:¬nx a<(gl.getD a []).length)(he:oN lo a=oN od a)
  (l1:on'.length=gl.length) (l2:of'.length=gl.length) {m:Int} (hm:∃j,(j=a\/j∈sg)/\m=((j:Nat):Int)) (J4:∀j,(j=a\/j∈sg)->m<=((j:Nat):Int))
  (ho:∀k,k<gl.length->on'.getD k false=if k=a\/k∈sg then false else on.getD k false) (hf:∀k,k<gl.length->oN of' k=if k=a\/k∈sg then m else oN kT k):rR gl od lo on' tm of' F nx:=by
 have hb:=h.T2.below
 have mem:∀k,k∈fH ((a,sg)::F)↔k∈sg\/k=a\/k∈fH F:=fun k=>by rw[gP];simp
 have ex:∀k,k∈fH F->¬(k=a\/k∈sg):=fun k hk q=>by
  have:=hb.1 k hk
  rcases q with q|q
  .subst q;omega
  have:=hb.2 k q;omega
 have es:Bc od F=fun k=>Bc od ((a,sg)::F) k\/k=a\/k∈sg:=by
  funext k;apply propext
  unfold Bc
  rw[mem]
  constructor
  .intro⟨h1,h2,h3⟩
   by_cases e:k=a\/k∈sg
   .exact .inr e
   exact .inl ⟨h1,h2,fun q=>q.elim (fun q=>e (.inr q)) fun q=>q.elim (fun q=>e (.inl q)) h3⟩
  rintro(⟨h1,h2,h3⟩|q)
  .exact⟨h1,h2,fun q=>h3 (.inr (.inr q))⟩
  have hl:=h.lt k ((mem k).2 (q.elim (fun q=> .inr (.inl q)) .inl))
  exact⟨by rw[h.T1];exact hl.1,by have:=hl.2;omega,fun q2=>ex k q2 q⟩
 refine⟨h.T1,h.llo,l1,l2,fun k hk=> ?_,fun k hk=>h.lt k ((mem k).2 (.inr (.inr hk))),h.odI,h.cnt,h.T2.close,by rw[es];exact h.kne.close h.T2 he (h.all hd),h.nx0,fun k hk=> ?_⟩
 .rw[ho k hk]
  by_cases e:k=a\/k∈sg
  .rw[aX e];exact⟨fun q=>by simp at q,fun q=>absurd e (ex k q)⟩
  rw[aT e,h.onI k hk,mem];exact⟨fun q=>q.elim (fun q=>absurd (.inr q) e) fun q=>q.elim (fun q=>absurd (.inl q) e) id,fun q=> .inr (.inr q)⟩
 rw[es]at hk
 rcases hk with q|q
 .have hl:k<gl.length:=by rw[<-h.T1];exact q.1
  have e:¬(k=a\/k∈sg):=fun c=>q.2.2 ((mem k).2 (c.elim (fun q=> .inr (.inl q)) .inl))
  rw[hf k hl,aT e];exact h.fin k q
 have hl:=(h.lt k ((mem k).2 (q.elim (fun q=> .inr (.inl q)) .inl))).1
 rw[hf k hl,aX q]
 have hi:=fun y=>h.kne.iff h.T2 he (h.all hd) (k:=k) (y:=y) q
 obtain⟨j,hj,ej⟩:=hm
 exact⟨⟨j,ej,(hi j).2 hj⟩,fun y hy=>J4 y ((hi y).1 hy)⟩
theorem rR.root(h:rR gl od lo on tm kT [(a,sg)] nx):oN lo a=oN od a:=h.T2.root
theorem rR.keep(h:rR gl od lo on tm kT ((a,sg)::(p,sp)::F) nx)(he:oN lo a=oN od a):lo.set p (min (oN lo p) (oN lo a))=lo:=by
 have h1:=(h.T2.lo p (jx (x:=(p,sp)) aJ)).1
 have h2:=h.T2.below.1 p (jx (x:=(p,sp)) aJ)
 have hp:=h.lt p (jx (x:=(p,sp)) aJ)
 apply uf
 intro i
 rw[p7]
 by_cases e:p=i
 .subst e
  rw[aX O,aX RW,X6 J]
  unfold oN;rw[eT,eD RW];rfl
 rw[aT e]
end
def gE{α:Type}(l:List α)(ks:List Int)(v:α):List α:=ks.foldl (fun l k=>l.set k.toNat v) l
theorem jd{α:Type}{v:α}:∀{ks:List Int} {l:List α},(gE l ks v).length=l.length
 |[],l=>rfl
 |k::ks,l=>by
  show(gE (l.set k.toNat v) ks v).length=_
  rw[jd,nY]
theorem sO{α:Type}{v d:α}{i:Nat}:∀{ks:List Int} {l:List α},i<l.length->(∀k∈ks,0<=k)->(gE l ks v).getD i d=if(i:Int)∈ks then v else l.getD i d
 |[],l,_,_=>by simp[gE]
 |k::ks,l,hi,hk=>by
  have h0:=hk k aJ
  show(gE (l.set k.toNat v) ks v).getD i d=_
  rw[sO (by rw[nY];exact hi) fun q hq=>hk q (by simp[hq])]
  by_cases c:(i:Int)∈ks
  .rw[aX c,aX (by simp[c])]
  rw[aT c,eT,p7]
  by_cases e:k.toNat=i
  .rw[aX e,aX J,aX iX];rfl
  rw[aT e,<-eT,aT (by simp[c];omega)]
theorem CK{α:Type}{v:α}{l:List α}{ks:List Int}{k:Int}(h0:0<=k)(h1:k<ks.length):gE l (ks.take (k+1).toNat) v=(gE l (ks.take k.toNat) v).set (ks.getD k.toNat 0).toNat v:=by
 have hk:k.toNat<ks.length:=J
 unfold gE
 rw[show(k+1).toNat=k.toNat+1 by omega,ER hk,eT,eD hk,xN]
 rfl
def CL(m:Int)(ks:List Int):Int:=ks.foldl min m
theorem aeb{m:Int}{ks:List Int}{k:Int}(h0:0<=k)(h1:k<ks.length):CL m (ks.take (k+1).toNat)=min (CL m (ks.take k.toNat)) (ks.getD k.toNat 0):=by
 have hk:k.toNat<ks.length:=J
 unfold CL
 rw[show(k+1).toNat=k.toNat+1 by omega,ER hk,eT,eD hk,xN]
 rfl
theorem abI:∀{ks:List Int} {m:Int},(CL m ks=m\/CL m ks∈ks)/\CL m ks<=m/\∀k∈ks,CL m ks<=k
 |[],m=>⟨.inl O,lW _,fun k h=>mJ⟩
 |a::ks,m=>by
  obtain⟨h1,h2,h3⟩:=abI (ks:=ks) (m:=min m a)
  have e:CL m (a::ks)=CL (min m a) ks:=rfl
  rw[e]
  refine⟨?_,J,fun k hk=> ?_⟩
  .rcases h1 with q|q
   .by_cases c:m<=a
    .exact .inl J
    exact .inr (by rw[c8];exact .inl J)
   exact .inr (by simp[q])
  rcases c8.1 hk with q|q
  .subst q;omega
  exact h3 k q
theorem ait{l:List Nat}{k:Nat}:(k:Int)∈NI l↔k∈l:=by grind[NI]
theorem abJ{l:List Nat}{x:Int}(h:x∈NI l):∃k,k∈l/\x=((k:Nat):Int):=by grind[NI]
section
variable{gl:List (List Int)}{od lo:List Int}{on:List Bool}{tm:Int}{kT:List Int}{F:T0}{nx:Nat->Nat}{a b p:Nat}{sg sp:List Nat}
theorem rR.axl{ks:List Int}(h:rR gl od lo on tm kT ((a,sg)::F) nx)(hd:¬nx a<(gl.getD a []).length)(he:oN lo a=oN od a)(hks:ks=(a:Int)::NI sg.reverse):
  rR gl od lo (gE on ks false) tm (gE kT ks (CL a ks)) F nx:=by
 have hin:∀x,x∈ks->∃j,(j=a\/j∈sg)/\x=((j:Nat):Int):=fun x hx=>by
  rw[hks]at hx
  rcases c8.1 hx with q|q
  .exact⟨a,.inl O,q⟩
  obtain⟨k,hk,e⟩:=abJ q;exact⟨k,.inr (by simpa using hk),e⟩
 have hmem:∀k:Nat,(k:Int)∈ks↔(k=a\/k∈sg):=fun k=>by
  rw[hks,c8,ait,List.mem_reverse]
  exact or_congr J Cf
 have hpos:∀x,x∈ks->0<=x:=fun x hx=>by obtain⟨j,_,e⟩:=hin x hx;omega
 obtain⟨m1,m2,m3⟩:=abI (ks:=ks) (m:=a)
 refine h.close hd he (by rw[jd];exact h.lon) (by rw[jd];exact h.lof) (m:=CL a ks) ?_ (fun j hj=>m3 _ ((hmem j).2 hj)) (fun k hk=> ?_) fun k hk=> ?_
 .rcases m1 with q|q
  .exact⟨a,.inl O,q⟩
  exact hin _ q
 .rw[sO (by rw[h.lon];exact hk) hpos]
  by_cases c:(k:Int)∈ks
  .rw[aX c,aX ((hmem k).1 c)]
  rw[aT c,aT fun q=>c ((hmem k).2 q)]
 show(gE kT ks (CL a ks)).getD k 0=_
 rw[sO (by rw[h.lof];exact hk) hpos]
 by_cases c:(k:Int)∈ks
 .rw[aX c,aX ((hmem k).1 c)]
 rw[aT c,aT fun q=>c ((hmem k).2 q)];rfl
theorem abK:NI (fH ((a,sg)::F)).reverse=NI (fH F).reverse++(a:Int)::NI sg.reverse:=by
 rw[gP];simp[NI]
theorem rR.ar0(h:rR gl od lo on tm kT ((a,sg)::F) nx):(a:Int)∉NI sg.reverse:=fun q=>by
 have:=h.T2.below.2 a (by simpa using ait.1 q);omega
theorem wh:pN ((a,sg)::F) nx=pN F nx++[⟨a,nx a⟩]:=by simp[pN]
theorem oL:(pN F nx).length=F.length:=by simp[pN]
theorem aiu(h:rR gl od lo on tm kT ((a,sg)::F) nx):(pN ((a,sg)::F) nx).set F.length ⟨a,(nx a:Int)+1⟩=pN ((a,sg)::F) (qL nx a):=by
 have e:pN F (qL nx a)=pN F nx:=by
  unfold pN
  apply HE
  intro x hx
  have hx':x∈F:=by simpa using hx
  have:=h.T2.below.1 x.1 (jx hx')
  unfold qL;rw[aT (fun e=>by rw[e]at this;omega)]
 rw[wh,wh,e,<-oL (F:=F) (nx:=nx),List.set_append_right _ _ (eU _),Rx]
 unfold qL;rw[aX O];rfl
theorem SW:(pN ((a,sg)::F) nx).getD F.length ⟨0,0⟩=⟨a,nx a⟩:=by grind[wh,oL]
theorem VJ:(pN ((a,sg)::F) nx).take F.length=pN F nx:=by grind[wh,oL]
end
end
end Go.Proofs.YtlhjdflgjbkpmaaGreatDoor.M
namespace Go.Proofs.YtlhjdflgjbkpmaaGreatDoor.E
section
open Go Go.RowKit Go.Proofs.YtlhjdflgjbkpmaaGreatDoor.M
def J5:D1:=⟨0,0⟩
def GK(x:D1):List Value:=[I x.node,I x.next]
theorem ng(x:D1):(GK x).length=2:=rfl
theorem aiv{x:D1}:∀u∈GK x,u.oneCell'=true:=fun u hu=>by
 simp only[GK,c8,HG,Cd]at hu
 rcases hu with rfl|rfl<;>rfl
end
end Go.Proofs.YtlhjdflgjbkpmaaGreatDoor.E
namespace Go.Proofs.YtlhjdflgjbkpmaaGreatDoor.M
section
open Go
section
variable{gl:List (List Int)}{od lo:List Int}{on:List Bool}{tm:Int}{kT:List Int}{F:T0}{nx:Nat->Nat}{a b p:Nat}{sg sp:List Nat}
theorem asy(h:((pN F nx).length:Int)>0):∃a sg F0,F=(a,sg)::F0:=by
 cases F with
 |nil=>simp[pN]at h
 |cons x F0=>exact⟨x.1,x.2,F0,rfl⟩
theorem aiw:NI (fH F).reverse++[(a:Int)]=NI (fH ((a,[])::F)).reverse:=by rw[abK];rfl
theorem aix(h:nx a=0):pN F nx++[⟨a,0⟩]=pN ((a,[])::F) nx:=by rw[wh,h];rfl
theorem aiy:NI (fH ((a,sg)::(p,sp)::F)).reverse=NI (fH ((p,sg++a::sp)::F)).reverse:=by grind[fH]
theorem aiz:pN ((p,sp)::F) nx=pN ((p,sg++a::sp)::F) nx:=by rw[wh,wh]
theorem rR.Fg(h:rR gl od lo on tm kT ((a,sg)::F) nx):a<gl.length:=(h.lt a DS).1
theorem abL(h:rR gl od lo on tm kT F nx):(fH F).length<=gl.length:=by
 have hn:(fH F).Nodup:=h.T2.Nb.imp fun q e=>by rw[e]at q;omega
 have:=KU hn (m:=List.range gl.length) fun k hk=>qq.2 (h.lt k hk).1
 rwa[Rj]at this
theorem anh(h:rR gl od lo on tm kT F nx):F.length<=(fH F).length:=by
 clear h
 induction F with
 |nil=>simp
 |cons x F ih=>rw[show x=(x.1,x.2)from O,gP];simp;omega
theorem axm(h:(F.length:Int)>0):∃p sp F1,F=(p,sp)::F1:=by
 cases F with
 |nil=>simp at h
 |cons x F1=>exact⟨x.1,x.2,F1,rfl⟩
end
theorem OfK.same{E:Nat->Nat->Prop}{k:Nat}{o p:Int}(h:OfK E k o)(h2:OfK E k p):o=p:=by grind[OfK]
open Classical in
noncomputable def ofK(E:Nat->Nat->Prop)(k:Nat):Int:=if h:∃o,OfK E k o then Classical.choose h else 0
theorem aiA{E:Nat->Nat->Prop}{k:Nat}{o:Int}(h:OfK E k o):ofK E k=o:=by
 unfold ofK
 rw[dif_pos ⟨o,h⟩]
 exact(Classical.choose_spec (⟨o,h⟩:∃o,OfK E k o)).same h
noncomputable def pw(gl:List (List Int)):List Int:=(List.range gl.length).map (ofK (wg gl))
section
variable{gl:List (List Int)}{od lo:List Int}{on:List Bool}{tm:Int}{kT:List Int}{nx:Nat->Nat}
theorem rR.done(h:rR gl od lo on tm kT [] nx)(ha:∀k,k<gl.length->oN od k≠0):kT=pw gl:=by
 apply uf
 intro k
 unfold pw
 rw[qp]
 by_cases c:k<gl.length
 .rw[zy c,eD (by rw[h.lof];exact c)]
  have:=h.fin k ⟨by rw[h.T1];exact c,ha k c,by simp[fH]⟩
  rw[qU,aiA this]
  unfold oN;rw[eT,eD (by rw[h.lof];exact c)];rfl
 rw[oc (by rw[h.lof];omega),oc LH];rfl
theorem ani:(pw gl).length=gl.length:=by simp[pw]
theorem abM{n k:Nat}:oN (List.replicate n 0) k=0:=by grind[oN]
theorem rR.start{n:Nat}(h:gl.length=n):rR gl (List.replicate n 0) (List.replicate n 0) (List.replicate n false) 0 (List.replicate n 0) [] (fun _=>0):=by
 have hs:∀k,¬Bc (List.replicate n 0) [] k:=fun k q=>q.2.1 abM
 refine⟨by simp[h],by simp[h],by simp[h],by simp[h],fun k hk=> ?_,fun k hk=>by simp[fH]at hk,fun k=>by rw[abM];omega,by simp[h],FZ.nil,O2.nil fun k q=>absurd q (hs k),fun _ _=>rfl,fun k q=>absurd q (hs k)⟩
 rw[eT,XB]
 simp[fH]
 split<;>rfl
end
end
end Go.Proofs.YtlhjdflgjbkpmaaGreatDoor.M
namespace Go.Proofs.YtlhjdflgjbkpmaaGreatDoor.E
section
open Go Go.RowKit Go.Proofs.YtlhjdflgjbkpmaaGreatDoor.M
structure xn(T:FTy)(F m:Nat)(cs:List (List Nat))(vW vU:Value)(cW cU:Option (Nat×Array Value))(W:List (BitVec 64))(ul:List (Value×jQ))(ts:List Int)(cn:Int)(L:List bu):Prop where
 fo:∃tn,ts=J3 tn/\FoI T F m cs vW vU vW cW cU W ul tn L
 cn:cn=((leads (bB cs):Nat):Int)
section
variable{T:FTy}{F m m':Nat}{cs:List (List Nat)}{vW vU:Value}{cW cU:Option (Nat×Array Value)}{W:List (BitVec 64)}{ul:List (Value×jQ)}{ts:List Int}{cn:Int}{L L':List bu}
theorem xn.mono(h:xn T F m cs vW vU cW cU W ul ts cn L)(hs:∀e∈L,e∈L'):xn T F m cs vW vU cW cU W ul ts cn L':=by
 obtain⟨tn,e,i⟩:=h.fo
 exact⟨⟨tn,e,i.hW,i.hU,i.hs,i.ok,fun x hx=>(i.un x hx).mono hs,i.lu,i.lt⟩,h.cn⟩
theorem xn.more(h:xn T F m cs vW vU cW cU W ul ts cn L)(hm:m<=m'):xn T F m' cs vW vU cW cU W ul ts cn L:=by
 obtain⟨tn,e,i⟩:=h.fo
 exact⟨⟨tn,e,i.hW,i.hU,i.hs,i.ok,i.un,by have:=i.lu;omega,by have:=i.lt;omega⟩,h.cn⟩
theorem xn.hW(h:xn T F m cs vW vU cW cU W ul ts cn L):cO cW vW (W.map U):=by obtain⟨tn,e,i⟩:=h.fo;exact i.hW
theorem xn.hU(h:xn T F m cs vW vU cW cU W ul ts cn L):cO cU vU (ul.map Prod.fst):=by obtain⟨tn,e,i⟩:=h.fo;exact i.hU
theorem xn.now(h:xn T F m cs vW vU cW cU W ul ts cn L):∃nd cl A2,cs=cl::A2/\W=bE nd/\Fo nd cl/\nd.length=cl.length/\cl.length<=m/\ts.length+1=cs.length/\leads cl<=m:=by
 obtain⟨tn,rfl,i⟩:=h.fo
 obtain⟨nd,cl,A2,h1,h2,h3,h4,h5,h6,h7⟩:=i.now
 exact⟨nd,cl,A2,h1,h2,h3,h4,h5,by rw[xm];exact h6,h7⟩
theorem xn.ne(h:xn T F m cs vW vU cW cU W ul ts cn L):0<cs.length:=by obtain⟨nd,cl,A2,e,_⟩:=h.now;subst e;simp
end
def qE(c:Option (Nat×Array Value))(v:Value)(e:TypeId)(xs:List Value):bu:=
 match c with
 |none=> .row v e 1 xs.length xs
 |some (b,cur)=> .blk b (.cells cur e (0,0))
def qO(c:Option (Nat×Array Value))(v:Value)(xs:List Value):Prop:=
 match c with
 |none=>True
 |some (b,cur)=>∃o cap,v= .slice (some ⟨b,o,none⟩) xs.length cap/\xs.length<=cap/\o+cap<=cur.size/\(cur.toList.drop o).take xs.length=xs/\cap<=maxLen
theorem abN{b o k cap:Nat}:o5 (.slice (some ⟨b,o,none⟩) (k+1) cap) 1 1= .slice (some ⟨b,if cap=1 then o else o+1,none⟩) k (cap-1):=by grind[o5,CD]
section
variable{P:Program}{σ:Env}{w0 w:World}{L:List bu}{c:Option (Nat×Array Value)}{v u x0:Value}{e t ty:TypeId}{xs news:List Value}{i m:Nat}{pos:String}{bO:Array Edge}{dst:Option Tmp}{g:Option (Nat×Bool)}{x y:Operand}
theorem Hp.slQ(h:Hp w0 w L)(hi:L[i]?=some (qE c v e xs))(hk:qO c v xs):Sl w v 1 xs.length xs:=by
 cases c with
 |none=>exact h.sl hi
 |some bc=>
  obtain⟨b,cur⟩:=bc
  obtain⟨o,cap,rfl,h1,h2,h3,h4⟩:=hk
  refine⟨⟨_,cap,rfl,h1,fun _=>rfl⟩,J,fun j u hu=> ?_,J⟩
  simp only[sb,so]
  rw[xS w _ _ cur e (0,0) (h.blk hi)]
  rw[<-h3,qS]at hu
  split at hu
  .rw[B3]at hu;simpa using hu
  .cases hu
theorem Hp.axn(h:Hp w0 w L)(hi:L[i]?=some (qE c v e (x0::xs)))(hk:qO c v (x0::xs)):∃c',qO c' (o5 v 1 1) xs/\Hp w0 w (L.set i (qE c' (o5 v 1 1) e xs)):=by
 cases c with
 |none=>
  have hr:w.ownsRow w0.heap.size e 1 v (x0::xs).length (x0::xs):=h.get hi
  obtain⟨h1,h2⟩:=hr
  rcases h2 with⟨rfl,q⟩|⟨gb,cap,cur,rfl,hb,hg,hn,hc,hs,ht⟩
  .simp at q
  rw[fq]at hn
  rw[lU]at hs ht
  refine⟨some (gb,cur),⟨if cap=1 then 0 else 0+1,cap-1,abN,J,by split<;>omega,?_,J⟩,h.xl hi O ⟨hb,hg⟩⟩
  rw[fq]at ht
  by_cases q:cap=1
  .have e0:xs.length=0:=J
   rw[e0,xK];exact(F6 e0).symm
  rw[aT q]
  cases ov:cur.toList with
  |nil=>rw[ov]at ht;simp at ht
  |cons a l=>
   rw[ov]at ht
   simp at ht⊢
   exact ht.2
 |some bc=>
  obtain⟨b,cur⟩:=bc
  obtain⟨o,cap,rfl,h1,h2,h3,h4⟩:=hk
  rw[fq]at h1
  refine⟨some (b,cur),⟨if cap=1 then o else o+1,cap-1,abN,J,by split<;>omega,?_,J⟩,h.xl hi O (h.get hi)⟩
  rw[fq]at h3
  by_cases q:cap=1
  .have e0:xs.length=0:=J
   rw[e0,xK];exact(F6 e0).symm
  rw[aT q,<-Rs]
  cases ov:cur.toList.drop o with
  |nil=>rw[ov]at h3;simp at h3
  |cons a l=>
   rw[ov]at h3
   simp at h3⊢
   exact h3.2
theorem anj{ie:TypeInfo}{z:Value}{bytes:Nat}(h:Hp w0 w L)(hi:L[i]?=some (qE c v e xs))(hk:qO c v xs)(hS:Sl w u 1 1 [x0])
  (hx:ev σ x=v) (hy:ev σ y=u) (ht:P.underlying t=some (.slice e)) (hie:P.info? e=some ie) (hz:ie.zero=some z)
  (hsize:ie.size=1) (hby:ie.bytes=bytes) (hzs:z.cells.size=1) (h1:x0.oneCell'=true) (hb:xs.length+1<=1000000000) (JV:bytes<=1000):
  ∃v' c' w',(execOp (ev σ) ⟨dst,.call {callee:= .builtin .append,args:=#[x,y],argTypes:=#[t,t]},ty,pos,bO,g⟩).run P w= .ok (.value v') w'/\qO c' v' (xs++[x0])/\Hp w0 w' (L.set i (qE c' v' e (xs++[x0]))):=by
 have hbytes:(xs.length+1)*bytes<=140737488355328:=kX (xQ hb JV) az
 have h63:xs.length+1<=maxLen:=by simp only[maxLen];omega
 have hone:∀q∈[x0],q.oneCell'=true:=fun q hq=>by rw[gG.1 hq];exact h1
 cases c with
 |none=>
  obtain⟨v',w',hr,h2,h3,h4⟩:=s6 (P:=P) (ty:=ty) ht hie hz hsize hby hzs J (h.get hi) hS hone h63 hbytes h.size
  refine⟨v',none,w',sZ hx hy hr,trivial,?_⟩
  have:=h.yD hi h2 h3 h4
  unfold qE;rw[dZ];exact this
 |some bc=>
  have hX:=h.slQ hi hk
  obtain⟨b,cur⟩:=bc
  obtain⟨o,cap,rfl,k1,k2,k3,k4⟩:=hk
  obtain⟨a,U6,hu,huc,hua⟩:=hS.shape
  have aD4:=hua J
  generalize hB:sb u=B at*
  generalize hO:so u=Ozz at*
  subst aD4
  have hnews:∀j q,[x0][j]?=some q->w.cell? ((⟨B,Ozz,none⟩:Addr).add j)=some q:=fun j q hq=>by
   have:=hS.cell j q hq
   rw[hB,hO]at this
   rw[CD];exact this
  subst hu
  by_cases room:xs.length+1<=cap
  .have hg:=h.blk hi
   have hf:=run_firstCells_some (P:=P) w 1 1 _ 1 U6 [x0] O hnews
   have hst:=XR P b (o+xs.length*1) e [x0] 0 cur w hg iX hone
   simp only[Lr]at hst
   have hr:(Builtin.append_ #[t,t] ty #[.slice (some ⟨b,o,none⟩) xs.length cap,.slice (some ⟨B,Ozz,none⟩) 1 U6]).run P w= .ok (.slice (some ⟨b,o,none⟩) (xs.length+1) cap) (w.setRow b (cur.toList.take (o+xs.length*1)++[x0]++cur.toList.drop (o+xs.length*1+[x0].length)).toArray):=by
    simp only[lU]at hst⊢
    simp[Builtin.append_,kf ht,sizeOf,typeInfo,hie,hsize,Builtin.lenOf,room,hf,Addr.add_lit,hst]
   refine⟨_,some (b,(cur.toList.take (o+xs.length*1)++[x0]++cur.toList.drop (o+xs.length*1+[x0].length)).toArray),_,sZ hx hy hr,⟨o,cap,by rw[dZ,ez],by simpa using room,?_,?_,k4⟩,h.set hi⟩
   .simp only[vb,dZ,er,yB,ez,ES];omega
   have hl:cur.toList.length=cur.size:=ES
   have e1:((cur.toList.take (o+xs.length*1)++[x0]++cur.toList.drop (o+xs.length*1+[x0].length)).drop o)=(cur.toList.drop o).take xs.length++([x0]++cur.toList.drop (o+xs.length*1+[x0].length)):=by
    rw[dG,K6 (by rw[er];omega),List.drop_take]
    congr 2;omega
   show List.take (xs++[x0]).length (List.drop o (cur.toList.take (o+xs.length*1)++[x0]++cur.toList.drop (o+xs.length*1+[x0].length)))=_
   rw[e1,k3,dZ,Xw]
   rfl
  have holds:∀j q,xs[j]?=some q->w.cell? ((⟨b,o,none⟩:Addr).add j)=some q:=fun j q hq=>by
   rw[CD]
   have:=hX.cell j q hq
   simpa[sb,so]using this
  obtain⟨v',w',hr,h2,h3⟩:=run_append_arg_grows (P:=P) (w:=w) t ty e ie z 1 bytes ht hie hz hsize hby hzs J ⟨b,o,none⟩ xs.length cap xs J holds _ 1 U6 [x0] O hnews J h63 hbytes
  refine⟨v',none,w',sZ hx hy hr,trivial,?_⟩
  have aD5:Below w.heap.size w w':=(Below.refl w.heap.size w).grown h3 (eU _) (fun k hk=>by cases hk)
  have:=(h.Dy aD5 h2).swap (nX.1 hi).1
  unfold qE;rw[dZ];exact this
variable{n d:Nat}{ops:Array Oper}{k:K}{rest:List Oper}
theorem asA{ie:TypeInfo}{z:Value}{bytes:Nat}{α:Type}{f:α->Value}{l:List α}{a:α}(hd:Nat.blt d n=true)(h:Hp w0 w L)(hi:L[i]?=some (qE c v e (l.map f)))(hk:qO c v (l.map f))(hS:Sl w u 1 1 [f a])
  (hx:ev σ x=v) (hy:ev σ y=u) (ht:P.underlying t=some (.slice e)) (hie:P.info? e=some ie) (hz:ie.zero=some z)
  (hsize:ie.size=1) (hby:ie.bytes=bytes) (hzs:z.cells.size=1) (h1:(f a).oneCell'=true) (hb:l.length+1<=1000000000) (JV:bytes<=1000)
  (hn:∀v' c' w',qO c' v' ((l++[a]).map f)->Hp w0 w' (L.set i (qE c' v' e ((l++[a]).map f)))->RL P n ops k rest (lX σ d v') w'):RL P n ops k (⟨some d,.call {callee:= .builtin .append,args:=#[x,y],argTypes:=#[t,t]},ty,pos,bO,none⟩::rest) σ w:=by
 obtain⟨v',c',w',hr,h2,h3⟩:=anj (P:=P) (ty:=ty) (dst:=some d) (pos:=pos) (bO:=bO) (g:=none) h hi hk hS hx hy ht hie hz hsize hby hzs h1 (by rw[gF];exact hb) JV
 rw[<-Lg (f:=f),<-gU]at h2 h3
 exact pn hd hr (hn v' c' w' h2 h3)
end
abbrev Va:=Nat->El
structure tK where
 sh:Sh
 ev:Va->El
 to:Option Nat
 c:El
 vars:List Nat
structure Sys where
 n:Nat
 sh:Nat->Sh
def qg(S:Sys)(u:Va):Prop:=∀i,i<S.n->cJ (S.sh i) (u i)=true
def LeV(S:Sys)(u v:Va):Prop:=∀i,i<S.n->cS (u i) (v i)=true
structure tL(S:Sys)(q:tK):Prop where
 fit:∀u,qg S u->cJ q.sh (q.ev u)=true
 lt:∀i,i∈q.vars->i<S.n
 Qp:∀u v,qg S u->qg S v->(∀i,i∈q.vars->cS (u i) (v i)=true)->cS (q.ev u) (q.ev v)=true
 to:∀k,q.to=some k->k<S.n/\S.sh k=q.sh
def tK.rhs(q:tK)(u:Va):El:=match q.to with
 |some k=>u k
 |none=>q.c
def fl(q:tK)(u:Va):Prop:=cS (q.ev u) (q.rhs u)=true
structure uV(S:Sys)(Q:tK->Prop)(u:Va):Prop where
 fit:qg S u
 hold:∀q,Q q->q.to≠none->fl q u
def GL(v:Va)(k:Nat)(e:El):Va:=fun i=>if i=k then e else v i
structure BB(S:Sys)(Q:tK->Prop)(v:Va):Prop where
 fit:qg S v
 low:∀u,uV S Q u->LeV S v u
structure me(S:Sys)(Q:tK->Prop)(v:Va):Prop where
 low:BB S Q v
 sol:∀q,Q q->q.to≠none->fl q v
theorem tL.mono{S:Sys}{q:tK}(h:tL S q)(u v:Va)(hu:qg S u)(hv:qg S v)(hl:LeV S u v):cS (q.ev u) (q.ev v)=true:=h.Qp u v hu hv fun i hi=>hl i (h.lt i hi)
section
variable{S:Sys}{Q Q':tK->Prop}{u v w:Va}{q:tK}{k:Nat}{e:El}
theorem fF{a b c:El}(h:cS a b=true)(h2:cS b c=true):cS a c=true:=by grind[p5,l8]
theorem ld{a b:El}(h:rS a b):cS a b=true:=p5.2 fun i hi=>by rw[h i hi];exact tB _
theorem me.is(h:me S Q v):uV S Q v:=⟨h.low.fit,h.sol⟩
theorem me.same(h:me S Q v)(h2:me S Q w):∀i,i<S.n->rS (v i) (w i):=fun i hi=>YR (h.low.low w h2.is i hi) (h2.low.low v h.is i hi)
theorem abO(hs:∀i,i<S.n->mC (S.sh i)=true)(hv:∀i,i<S.n->v i=gI (S.sh i) ew):BB S Q v:=
 ⟨fun i hi=>by rw[hv i hi];exact(PR (hs i hi)).1,fun u hu i hi=>by rw[hv i hi];exact(PR (hs i hi)).2 _ (hu.fit i hi)⟩
theorem BB.raise(h:BB S Q v)(hq:Q q)(ho:tL S q)(hk:q.to=some k):BB S Q (GL v k (ef q.sh (v k) (q.ev v))):=by
 obtain⟨k1,k2⟩:=ho.to k hk
 have fk:=h.fit k k1
 rw[k2]at fk
 refine⟨fun i hi=> ?_,fun u hu i hi=> ?_⟩
 .unfold GL
  by_cases e:i=k
  .rw[aX e,e,k2];exact ID fk (ho.fit v h.fit)
  rw[aT e];exact h.fit i hi
 unfold GL
 by_cases e:i=k
 .rw[aX e,e]
  have h1:=h.low u hu
  have h2:=hu.hold q hq (by rw[hk];simp)
  unfold fl tK.rhs at h2
  rw[hk]at h2
  have fu:=hu.fit k k1
  rw[k2]at fu
  exact abf fk (ho.fit v h.fit) fu (h1 k k1) (fF (ho.mono v u h.fit hu.fit h1) h2)
 rw[aT e];exact h.low u hu i hi
theorem BB.more(h:BB S Q v)(hq:∀q,Q q->Q' q):BB S Q' v:=⟨h.fit,fun u hu=>h.low u ⟨hu.fit,fun q h1 h2=>hu.hold q (hq q h1) h2⟩⟩
theorem BB.apG(h:BB S Q v)(ho:tL S q)(hk:q.to=none)(hf:¬fl q v):∀u,uV S Q u->¬fl q u:=fun u hu hh=>hf (by
 unfold fl tK.rhs at hh⊢
 rw[hk]at hh⊢
 exact fF (ho.mono v u h.fit hu.fit (h.low u hu)) hh)
def qB(S:Sys)(Q:tK->Prop)(C:Nat->Prop):Prop:=∀u,uV S Q u->∀i k,C i->C k->rS (u i) (u k)
def rE(v:Va)(C:Nat->Prop)[DecidablePred C](e:El):Va:=fun i=>if C i then e else v i
theorem BB.ring{C:Nat->Prop}[DecidablePred C](h:BB S Q v)(hC:qB S Q C)(hin:∀i,C i->i<S.n)(hk:C k)(hsh:∀i,C i->S.sh i=S.sh k)(he:cJ (S.sh k) e=true)(hl:∀u,uV S Q u->cS e (u k)=true):BB S Q (rE v C e):=by
 refine⟨fun i hi=> ?_,fun u hu i hi=> ?_⟩
 .unfold rE
  by_cases c:C i
  .rw[aX c,hsh i c];exact he
  rw[aT c];exact h.fit i hi
 unfold rE
 by_cases c:C i
 .rw[aX c];exact fF (hl u hu) (ld (hC u hu k i hk c))
 rw[aT c];exact h.low u hu i hi
theorem BB.lub(h:BB S Q v)(hq:Q q)(ho:tL S q)(hk:q.to=some k):cJ (S.sh k) (ef q.sh (v k) (q.ev v))=true/\∀u,uV S Q u->cS (ef q.sh (v k) (q.ev v)) (u k)=true:=by
 have h1:=h.raise hq ho hk
 have k1:=(ho.to k hk).1
 have e:GL v k (ef q.sh (v k) (q.ev v)) k=ef q.sh (v k) (q.ev v):=aX O
 refine⟨?_,fun u hu=> ?_⟩
 .have:=h1.fit k k1;rwa[e]at this
 have:=h1.low u hu k k1;rwa[e]at this
theorem qB.of{C:Nat->Prop}(hC:∀u,uV S Q u->∀i k,C i->C k->cS (u i) (u k)=true):qB S Q C:=fun u hu i k hi hk=>YR (hC u hu i k hi hk) (hC u hu k i hk hi)
abbrev Qm:=BitVec 64->tK->Prop
def aec(M:Qm):Prop:=∀a b q,eu a b=true->M a q->M b q
def FB(S:Sys)(M:Qm)(v:Va)(ws:Nat->BitVec 64):Prop:=∀k,k<S.n->∀u,uV S (M (ws k)) u->cS (v k) (u k)=true
def O3(y:BitVec 64)(ws:Nat->BitVec 64)(l:List Nat):BitVec 64:=l.foldl (fun a i=>a|||ws i) y
theorem GM:∀(l:List Nat) (y:BitVec 64) (ws:Nat->BitVec 64),eu y (O3 y ws l)=true/\∀i∈l,eu (ws i) (O3 y ws l)=true
 |[],y,ws=>⟨tB _,fun i hi=>by cases hi⟩
 |a::l,y,ws=>by
  obtain⟨h1,h2⟩:=GM l (y|||ws a) ws
  refine⟨l8 (Ig _ _) h1,fun i hi=> ?_⟩
  rcases c8.1 hi with e|hi
  .rw[e];exact l8 (Gq _ _) h1
  exact h2 i hi
theorem uV.less{Q Q':tK->Prop}(h:uV S Q' u)(hq:∀q,Q q->Q' q):uV S Q u:=⟨h.fit,fun q h1 h2=>h.hold q (hq q h1) h2⟩
section
variable{M:Qm}{ws:Nat->BitVec 64}{y:BitVec 64}
theorem FB.ev(h:FB S M v ws)(hM:aec M)(hv:qg S v)(ho:tL S q){W:BitVec 64}(hW:eu (O3 y ws q.vars) W=true)(hu:uV S (M W) u):cS (q.ev v) (q.ev u)=true:=
 ho.Qp v u hv hu.fit fun i hi=>h i (ho.lt i hi) u (hu.less fun q hq=>hM _ _ _ (l8 ((GM _ y ws).2 i hi) hW) hq)
theorem FB.stuck(h:FB S M v ws)(hM:aec M)(hv:qg S v)(ho:tL S q)(hk:q.to=none)(hf:¬fl q v):∀u,uV S (M (O3 y ws q.vars)) u->¬fl q u:=fun u hu hh=>hf (by
 unfold fl tK.rhs at hh⊢
 rw[hk]at hh⊢
 exact fF (h.ev hM hv ho (tB _) hu) hh)
def FC(ws:Nat->BitVec 64)(C:Nat->Prop)[DecidablePred C](W:BitVec 64):Nat->BitVec 64:=fun i=>if C i then W else ws i
theorem FB.raise{C:Nat->Prop}[DecidablePred C](h:FB S M v ws)(hM:aec M)(hv:qg S v)(ho:tL S q)(hk:q.to=some k)(hy:M y q)(hC:qB S (M (ws k)) C)(hck:C k){W:BitVec 64}(hW1:eu (ws k) W=true)(hW2:eu (O3 y ws q.vars) W=true):
  FB S M (rE v C (ef q.sh (v k) (q.ev v))) (FC ws C W):=fun i hi u hu=>by
 unfold FC at hu
 unfold rE
 by_cases c:C i
 .rw[aX c]at hu⊢
  obtain⟨k1,k2⟩:=ho.to k hk
  have hu1:uV S (M (ws k)) u:=hu.less fun q hq=>hM _ _ _ hW1 hq
  have h1:=h.ev hM hv ho hW2 hu
  have h2:=hu.hold q (hM _ _ _ (l8 (GM q.vars y ws).1 hW2) hy) (by rw[hk];simp)
  unfold fl tK.rhs at h2
  rw[hk]at h2
  have fv:=hv k k1;have fu:=hu.fit k k1
  rw[k2]at fv fu
  exact fF (abf fv (ho.fit v hv) fu (h k k1 u hu1) (fF h1 h2)) (ld (hC u hu1 k i hck c))
 rw[aT c]at hu⊢;exact h i hi u hu
theorem FB.ring{C:Nat->Prop}[DecidablePred C](h:FB S M v ws)(hM:aec M){W:BitVec 64}(hC:qB S (M W) C)(hW:∀i,C i->i<S.n/\eu (ws i) W=true)(he:∀u,uV S (M W) u->∀i,C i->cS e (u i)=true):FB S M (rE v C e) (FC ws C W):=fun i hi u hu=>by
 unfold FC at hu
 unfold rE
 by_cases c:C i
 .rw[aX c]at hu⊢;exact he u hu i c
 rw[aT c]at hu⊢;exact h i hi u hu
end
def Am(H r:Int)(U:Nat):Int:=(H-r)*U
def px(S:Sys)(U:Nat->Nat)(v:Va):Nat->Int
 |0=>0
 |n+1=>px S U v n+Am (gJ (S.sh n)) (m8 (S.sh n) (v n)) (U n)
theorem KX{U:Nat->Nat}(hv:qg S v):∀n,n<=S.n->0<=px S U v n
 |0,_=>lW _
 |n+1,hn=>by
  have h1:=KX (U:=U) hv n J
  have h2:=ag5 (hv n J)
  have h3:0<=Am (gJ (S.sh n)) (m8 (S.sh n) (v n)) (U n):=Int.mul_nonneg J J
  show 0<=px S U v n+_
  omega
theorem SX{U:Nat->Nat}:∀n,px S U (GL v k e) n=px S U v n+(if k<n then Am (gJ (S.sh k)) (m8 (S.sh k) e) (U k)-Am (gJ (S.sh k)) (m8 (S.sh k) (v k)) (U k)else 0)
 |0=>by simp[px]
 |n+1=>by
  have ih:=SX (U:=U) n
  show px S U (GL v k e) n+Am (gJ (S.sh n)) (m8 (S.sh n) (GL v k e n)) (U n)=px S U v n+Am (gJ (S.sh n)) (m8 (S.sh n) (v n)) (U n)+_
  rw[ih]
  by_cases h:n=k
  .subst h
   have e1:GL v n e n=e:=aX O
   rw[e1,aT J,aX J];omega
  have e1:GL v k e n=v n:=aT h
  rw[e1]
  by_cases h2:k<n
  .rw[aX h2,aX J];omega
  rw[aT h2,aT J];omega
theorem Qq{U:Nat->Nat}(hv:qg S v)(hk:k<S.n)(he:cJ (S.sh k) e=true)(hl:cS (v k) e=true)(hne:¬rS e (v k)):px S U (GL v k e) S.n+U k<=px S U v S.n:=by
 rw[SX,aX hk]
 have h1:=ag6 (hv k hk) he hl hne
 have h2:Am (gJ (S.sh k)) (m8 (S.sh k) e) (U k)+U k<=Am (gJ (S.sh k)) (m8 (S.sh k) (v k)) (U k):=by
  unfold Am
  have:(gJ (S.sh k)-m8 (S.sh k) e+1)*(U k:Int)<=(gJ (S.sh k)-m8 (S.sh k) (v k))*(U k:Int):=Int.mul_le_mul_of_nonneg_right J J
  rw[Int.add_mul,Int.one_mul]at this
  exact this
 omega
theorem SY{U U':Nat->Nat}:∀n,px S (fun k=>U k+U' k) v n=px S U v n+px S U' v n
 |0=>rfl
 |n+1=>by
  have ih:=SY (U:=U) (U':=U') n
  show px S (fun k=>U k+U' k) v n+Am _ _ (U n+U' n)=px S U v n+Am _ _ (U n)+(px S U' v n+Am _ _ (U' n))
  rw[ih]
  unfold Am
  rw[show((U n+U' n:Nat):Int)=(U n:Int)+(U' n:Int)by omega,Int.mul_add]
  omega
theorem Nc:∀n,px S (fun _=>0) v n=0
 |0=>rfl
 |n+1=>by
  show px S (fun _=>0) v n+Am _ _ 0=0
  rw[Nc n];simp[Am]
theorem abP{x:Nat}:∀n,px S (fun k=>if k=x then 1 else 0) v n=if x<n then gJ (S.sh x)-m8 (S.sh x) (v x)else 0
 |0=>by simp[px]
 |n+1=>by
  show px S (fun k=>if k=x then 1 else 0) v n+Am _ _ (if n=x then 1 else 0)=_
  rw[abP n]
  by_cases h:n=x
  .subst h;rw[aX O,aT J,aX J];simp[Am]
  rw[aT h]
  by_cases h2:x<n
  .rw[aX h2,aX J];simp[Am]
  rw[aT h2,aT J];simp[Am]
def SZ(k:Nat):List Nat->Nat
 |[]=>0
 |x::l=>(if k=x then 1 else 0)+SZ k l
theorem VK{H:Int}:∀{l:List Nat},(∀x,x∈l->x<S.n/\gJ (S.sh x)<=H)->px S (fun k=>SZ k l) v S.n<=H*l.length
 |[],_=>by
  show px S (fun _=>0) v S.n<=_
  rw[Nc];simp
 |x::l,h=>by
  have ih:=VK (l:=l) (H:=H) fun y hy=>h y (fX _ hy)
  have e:(fun k=>SZ k (x::l))=fun k=>(if k=x then 1 else 0)+SZ k l:=rfl
  rw[e,SY,abP,aX (h x aJ).1]
  have h1:=(h x aJ).2
  have h2:=ag4 (S.sh x) (v x)
  rw[fq,show((l.length+1:Nat):Int)=(l.length:Int)+1 by omega,Int.mul_add,Int.mul_one]
  omega
def VL(l:List tK)(k:Nat):Nat:=match l with
 |[]=>0
 |q::l=>SZ k q.vars+VL l k
theorem VM:∀{l:List tK},(∀q,q∈l->∀x,x∈q.vars->x<S.n/\S.sh x=q.sh)->px S (VL l) v S.n<=(l.map fun q=>gJ q.sh*q.vars.length).sum
 |[],_=>by
  show px S (fun _=>0) v S.n<=_
  rw[Nc];simp
 |q::l,h=>by
  have ih:=VM (l:=l) fun p hp=>h p (fX _ hp)
  have e:VL (q::l)=fun k=>SZ k q.vars+VL l k:=rfl
  rw[e,SY,lR,E1]
  have:=VK (S:=S) (v:=v) (l:=q.vars) (H:=gJ q.sh) fun x hx=>⟨(h q aJ x hx).1,by rw[(h q aJ x hx).2];exact lW _⟩
  omega
end
section
variable{sh:Sh}{l:List dU}{us vs:List El}
def aiB(sh:Sh)(l:List dU)(us vs:List El):Prop:=∀x,x∈l->(x.op=1->0<=x.n/\x.n<us.length/\cJ sh (us.getD x.n.toNat dg)=true/\cJ sh (vs.getD x.n.toNat dg)=true/\cS (us.getD x.n.toNat dg) (vs.getD x.n.toNat dg)=true)/\(x.op=2->cJ sh x.c=true)
theorem Nf(hr:fU l=true)(hl:us.length=vs.length)(hi:aiB sh l us vs):
  (ey sh l us).2=true/\(ey sh l vs).2=true/\cJ sh (ey sh l us).1=true/\cS (ey sh l us).1 (ey sh l vs).1=true:=by
 have key:∀n:Nat,n<=l.length->∃st su,ij sh us l n=some st/\ij sh vs l n=some su/\ju l n=some st.length/\uU st su/\(∀e∈st,cJ sh e=true)/\∀e∈su,cJ sh e=true:=by
  intro n
  induction n with
  |zero=>intro _;exact⟨[],[],rfl,rfl,rfl,trivial,(fun e he=>by cases he),fun e he=>by cases he⟩
  |succ n ih=>
   intro hn
   obtain⟨st,su,h1,h2,h3,h4,h5,h6⟩:=ih J
   have hx:=(lO (fD (d:=bG) (l:=l) (i:=(n:Int)) J J))
   rw[show((n+1:Nat):Int)=(n:Int)+1 by omega]
   have hlen:=h4.len
   rcases abt hr (k:=(n:Int)) J J h3 with⟨ho,hd⟩|⟨⟨ho,hn1,Qa⟩,hd⟩
   .rcases ho with ho|ho
    .obtain⟨hx1,hx2,fm,fa,hle⟩:=(hi _ hx).1 ho
     refine⟨_,_,ahy J J h1 ho ⟨hx1,hx2⟩,ahy J J h2 ho ⟨hx1,J⟩,by rw[hd];simp,h4.app ⟨hle,trivial⟩,fun e he=> ?_,fun e he=> ?_⟩
     .rcases fg.1 he with q|q
      .exact h5 e q
      rw[gG.1 q];exact fm
     rcases fg.1 he with q|q
     .exact h6 e q
     rw[gG.1 q];exact fa
    have hk:=(hi _ hx).2 ho
    refine⟨_,_,amD J J h1 ho,amD J J h2 ho,by rw[hd];simp,h4.app ⟨j8 _,trivial⟩,fun e he=> ?_,fun e he=> ?_⟩
    .rcases fg.1 he with q|q
     .exact h5 e q
     rw[gG.1 q];exact hk
    rcases fg.1 he with q|q
    .exact h6 e q
    rw[gG.1 q];exact hk
   generalize hg:l.getD (n:Int).toNat bG=x at*
   have e1:=arW (s:=sh) (v:=us) (l:=l) (st:=st) (k:=(n:Int)) J J h1 Kr Kr
   have e2:=arW (s:=sh) (v:=vs) (l:=l) (st:=su) (k:=(n:Int)) J J h2 Kr Kr
   rw[hg]at e1 e2
   have d1:st.drop (st.length-x.n.toNat)≠[]:=fun q=>by
    have:=aK List.length q
    rw[yB,HH]at this;omega
   have g1:∀e∈st.drop (st.length-x.n.toNat),cJ sh e=true:=fun e he=>h5 e (sw he)
   have g2:∀e∈su.drop (su.length-x.n.toNat),cJ sh e=true:=fun e he=>h6 e (sw he)
   have hld:=h4.drop (st.length-x.n.toNat)
   have hlt:=h4.take (st.length-x.n.toNat)
   rw[hlen]at hld hlt
   rw[<-hlen]at hld hlt
   have d2:su.drop (su.length-x.n.toNat)≠[]:=fun q=>by
    have:=aK List.length q
    rw[yB,HH]at this;omega
   refine⟨_,_,e1,e2,?_,?_,fun e he=> ?_,fun e he=> ?_⟩
   .rw[hd,dZ,er,ez];congr 1;omega
   .rw[<-hlen]
    refine hlt.app ⟨MW hld g1 (by rw[<-hlen]at g2;exact g2),trivial⟩
   .rcases fg.1 he with q|q
    .exact h5 e (u9 q)
    rw[gG.1 q];exact z8 d1 g1
   rcases fg.1 he with q|q
   .exact h6 e (u9 q)
   rw[gG.1 q];exact z8 d2 g2
 obtain⟨st,su,h1,h2,h3,h4,h5,_⟩:=key l.length (eU _)
 rw[MU hr J J h1,MU hr J J h2]
 have l1:=Ub hr (k:=(l.length:Int)) J J h3
 have n1:st≠[]:=fun q=>by rw[q]at l1;simp at l1
 refine⟨rfl,rfl,?_,h4.oN⟩
 cases st with
 |nil=>exact absurd O n1
 |cons a st=>exact h5 a aJ
end
def tM:List Int->Int->List Int
 |[],n=>[n]
 |a::l,n=>if a<n then a::tM l n else if a=n then a::l else n::a::l
def dB(l:List dU):List Int:=l.foldl (fun o x=>if x.op=1/\0<=x.n then tM o x.n else o) []
theorem Ng{i n:Int}:∀{l:List Int},i∈tM l n↔i∈l\/i=n
 |[]=>by simp[tM]
 |a::l=>by
  unfold tM
  split
  .rw[c8,Ng,c8,or_assoc]
  split
  .rename_i h;subst h;simp only[c8];constructor
   .intro h;exact .inl h
   rintro(h|h)
   .exact h
   exact .inl h
  simp only[c8];constructor
  .rintro(h|h|h)
   .exact .inr h
   .exact .inl (.inl h)
   exact .inl (.inr h)
  rintro((h|h)|h)
  .exact .inr (.inl h)
  .exact .inr (.inr h)
  exact .inl h
theorem Qr{n:Int}:∀{l:List Int},l.Pairwise (· <·)->(tM l n).Pairwise (· <·)
 |[],_=>by simp[tM]
 |a::l,h=>by
  obtain⟨h1,h2⟩:=lQ.1 h
  unfold tM
  split
  .refine lQ.2 ⟨fun x hx=> ?_,Qr h2⟩
   rcases Ng.1 hx with q|q
   .exact h1 x q
   omega
  split
  .exact h
  refine lQ.2 ⟨fun x hx=> ?_,h⟩
  rcases c8.1 hx with q|q
  .omega
  have:=h1 x q;omega
theorem Qs(l:List dU):∀o:List Int,(∀i,i∈l.foldl (fun o x=>if x.op=1/\0<=x.n then tM o x.n else o) o↔i∈o\/∃x∈l,x.op=1/\0<=x.n/\x.n=i)/\(o.Pairwise (· <·)->(l.foldl (fun o x=>if x.op=1/\0<=x.n then tM o x.n else o) o).Pairwise (· <·)):=by
 induction l with
 |nil=>intro o;exact⟨fun i=>aJ,fun h=>h⟩
 |cons a l ih=>
  intro o
  rw[o9]
  by_cases c:a.op=1/\0<=a.n
  .rw[aX c]
   obtain⟨h1,h2⟩:=ih (tM o a.n)
   refine⟨fun i=> ?_,fun h=>h2 (Qr h)⟩
   rw[h1,Ng]
   constructor
   .rintro((h|h)|⟨x,hx,h⟩)
    .exact .inl h
    .exact .inr ⟨a,aJ,c.1,c.2,h.symm⟩
    exact .inr ⟨x,q5,h⟩
   rintro(h|⟨x,hx,h⟩)
   .exact .inl (.inl h)
   rcases c8.1 hx with e|hx
   .subst e;exact .inl (.inr h.2.2.symm)
   exact .inr ⟨x,hx,h⟩
  rw[aT c]
  obtain⟨h1,h2⟩:=ih o
  refine⟨fun i=> ?_,h2⟩
  rw[h1]
  constructor
  .rintro(h|⟨x,hx,h⟩)
   .exact .inl h
   exact .inr ⟨x,q5,h⟩
  rintro(h|⟨x,hx,h⟩)
  .exact .inl h
  rcases c8.1 hx with e|hx
  .subst e;exact absurd ⟨h.1,h.2.1⟩ c
  exact .inr ⟨x,hx,h⟩
theorem sS{l:List dU}{i:Int}:i∈dB l↔∃x∈l,x.op=1/\0<=x.n/\x.n=i:=by simp_all[dB,Qs]
theorem Nh(l:List dU):(dB l).Pairwise (· <·):=(Qs l []).2 List.Pairwise.nil
def CM(n:Nat)(sh:Sh)(code:List dU)(to:iR):tK:=⟨sh,fun u=>(ey sh code ((List.range n).map u)).1,if to.var<0 then none else some to.var.toNat,to.c,(dB code).map Int.toNat⟩
structure Zz(S:Sys)(sh:Sh)(code:List dU)(to:iR):Prop where
 right:fU code=true
 var:∀x,x∈code->x.op=1->0<=x.n/\x.n<S.n/\S.sh x.n.toNat=sh
 con:∀x,x∈code->x.op=2->cJ sh x.c=true
 to0:to.var<0->cJ sh to.c=true
 to1:0<=to.var->to.var<S.n/\S.sh to.var.toNat=sh
theorem qC{n:Nat}{u:Va}{i:Nat}(h:i<n):((List.range n).map u).getD i dg=u i:=by grind
theorem aiC{S:Sys}{sh:Sh}{code:List dU}{to:iR}(h:Zz S sh code to):tL S (CM S.n sh code to):=by
 have key:∀u v:Va,qg S u->qg S v->(∀i,i∈(dB code).map Int.toNat->cS (u i) (v i)=true)->aiB sh code ((List.range S.n).map u) ((List.range S.n).map v):=fun u v hu hv hl x hx=>by
  refine⟨fun ho=> ?_,h.con x hx⟩
  obtain⟨h0,h1,h2⟩:=h.var x hx ho
  rw[qC J,qC J]
  have f1:=hu x.n.toNat J;have f2:=hv x.n.toNat J
  rw[h2]at f1 f2
  exact⟨h0,Fa,f1,f2,hl _ (fZ.2 ⟨x.n,sS.2 ⟨x,hx,ho,h0,rfl⟩,rfl⟩)⟩
 refine⟨fun u hu=> ?_,fun i hi=> ?_,fun u v hu hv hl=> ?_,fun k hk=> ?_⟩
 .exact(Nf h.right aJ (key u u hu hu fun _ _=>j8 _)).2.2.1
 .obtain⟨j,hj,rfl⟩:=fZ.1 hi
  obtain⟨x,hx,ho,h0,rfl⟩:=sS.1 hj
  have:=(h.var x hx ho).2.1;omega
 .exact(Nf h.right aJ (key u v hu hv hl)).2.2.2
 unfold CM at hk
 by_cases c:to.var<0
 .simp[c]at hk
 simp[c]at hk
 subst hk
 have:=h.to1 J
 exact⟨J,this.2⟩
theorem An:∀{m:List Int} {i:Nat} {n:Int},i<=m.length->(∀j:Nat,j<i->m.getD j 0<n)->(i<m.length->n<m.getD i 0)->tM m n=m.take i++n::m.drop i
 |[],i,n,h,_,_=>by simp at h;subst h;rfl
 |a::m,0,n,_,_,h3=>by
  have:=h3 aJ
  have:n<a:=this
  unfold tM
  rw[aT J,aT J];rfl
 |a::m,i+1,n,h,h2,h3=>by
  have h0:a<n:=h2 0 J
  have ih:=An (m:=m) (i:=i) (n:=n) xZ (fun j hj=>h2 (j+1) J) (fun hi=>h3 zK)
  unfold tM
  rw[aX h0,ih];rfl
theorem aiD:∀{m:List Int} {i:Nat} {n:Int},i<m.length->(∀j:Nat,j<i->m.getD j 0<n)->m.getD i 0=n->tM m n=m
 |[],i,n,h,_,_=>by simp at h
 |a::m,0,n,_,_,h3=>by
  have:a=n:=h3
  unfold tM
  rw[aT J,aX this]
 |a::m,i+1,n,h,h2,h3=>by
  have h0:a<n:=h2 0 J
  have ih:=aiD (m:=m) (i:=i) (n:=n) xZ (fun j hj=>h2 (j+1) J) h3
  unfold tM
  rw[aX h0,ih]
theorem jM{l:List dU}{k:Int}(h0:0<=k)(h1:k<l.length):dB (l.take (k+1).toNat)=if(l.getD k.toNat bG).op=1/\0<=(l.getD k.toNat bG).n then tM (dB (l.take k.toNat)) (l.getD k.toNat bG).n else dB (l.take k.toNat):=by grind[dB,II]
theorem aed(l:List dU):(dB l).length<=l.length:=by
 have key:∀(l:List dU) (o:List Int),(l.foldl (fun o x=>if x.op=1/\0<=x.n then tM o x.n else o) o).length<=o.length+l.length:=fun l=>by
  induction l with
  |nil=>intro o;simp
  |cons a l ih=>
   intro o
   have hi:∀(o:List Int) (n:Int),(tM o n).length<=o.length+1:=fun o n=>by
    induction o with
    |nil=>simp[tM]
    |cons b o io=>
     unfold tM
     split
     .simp only[fq];omega
     split
     .simp
     simp
   rw[o9]
   refine kX (ih _) ?_
   have:(if a.op=1/\0<=a.n then tM o a.n else o).length<=o.length+1:=by
    split
    .exact hi o a.n
    omega
   simp only[fq];omega
 simpa[dB]using key l []
theorem afv{m:List Int}{x z:Int}{p:Int}(h0:0<=p)(h1:p<=m.length):
  qK (qK (m.map I++[I z]) ((p+1).toNat*1) (((m.map I++[I z]).drop (p.toNat*1)).take ((m.length-p.toNat)*1))) (p.toNat*1) [I x]=(m.take p.toNat++x::m.drop p.toNat).map I:=by
 have hl:(m.map I).length=m.length:=aJ
 have hq:p.toNat<=m.length:=J
 simp only[lU,show(p+1).toNat=p.toNat+1 by omega]
 generalize p.toNat=q at*
 have e1:((m.map I++[I z]).drop q).take (m.length-q)=(m.drop q).map I:=by
  rw[K6 J,K5 LG,ji LG]
  simp[Yc]
 have l1:((m.drop q).map I).length=m.length-q:=aJ
 rw[e1]
 have e2:qK (m.map I++[I z]) (q+1) ((m.drop q).map I)=(m.map I++[I z]).take (q+1)++(m.drop q).map I:=by
  have e0:(m.map I++[I z]).drop (q+1+(m.length-q))=[]:=La (by rw[dZ,hl,ez];omega)
  rw[qK,l1,e0,mY]
 have l2:((m.map I++[I z]).take (q+1)).length=q+1:=by rw[er];simp;omega
 rw[e2,qK,K5 J,B6,r7 J,K5 (by rw[hl];omega)]
 rw[ez,List.drop_append,l2,Rx,Ln,La (by rw[l2];exact eU _),eN]
 simp[B8,Yc]
theorem tN{m:List Int}{z:Int}{u:Value}(hu:u∈m.map I++[I z]):u.oneCell'=true:=by
 rcases fg.1 hu with h|h
 .obtain⟨x,_,rfl⟩:=fZ.1 h;rfl
 rw[gG.1 h];rfl
theorem aiE{S:Sys}{sh:Sh}{code:List dU}{to:iR}(h:Zz S sh code to){x:Nat}(hx:x∈(CM S.n sh code to).vars):x<S.n/\S.sh x=sh:=by
 obtain⟨j,hj,rfl⟩:=fZ.1 hx
 obtain⟨y,hy,ho,h0,rfl⟩:=sS.1 hj
 have:=h.var y hy ho
 exact⟨J,this.2.2⟩
def iA(s:mv):Sys:=⟨s.vars.length,fun i=>iv s (s.vars.getD i fp).a8⟩
theorem asC{s:mv}{a8:Int}{code:List dU}{to:iR}(hc:codeOk s a8 code=true)(ha:mc s a8 to=true):Zz (iA s) (iv s a8) code to:=by
 simp only[codeOk,cL]at hc
 obtain⟨hi,hr⟩:=hc
 have kd:∀v kd:Int,q9 s v kd a8=true->(0<=v/\v<s.vars.length)/\(s.vars.getD v.toNat fp).a8=a8:=fun v kd h=>by
  simp only[q9,cL,eE]at h
  exact⟨h.1.1,h.2⟩
 refine⟨hr,fun x hx ho=> ?_,fun x hx ho=> ?_,fun h0=> ?_,fun h0=> ?_⟩
 .have hx2:=iS.1 hi x hx
  simp only[vV,cL,p8,B4,wW]at hx2
  obtain⟨h1,h2⟩:=kd _ _ (hx2.1.resolve_left fun q=>q ho)
  exact⟨h1.1,h1.2,by show iv s _=_;rw[h2]⟩
 .have hx2:=iS.1 hi x hx
  simp only[vV,cL,p8,B4,wW]at hx2
  exact hx2.2.resolve_left fun q=>q ho
 .rw[mc,aX h0]at ha;exact ha
 rw[mc,aT J]at ha
 obtain⟨h1,h2⟩:=kd _ _ ha
 exact⟨h1.2,by show iv s _=_;rw[h2]⟩
structure pO where
 p:kP
 e:Value
 l:Value
 j:Value
 d:Wr
 low:El
def Xk(x:pO):List Value:=wK x.p++([x.e,x.l,x.j]++pH x.low)
theorem rF(x:pO):(Xk x).length=13:=by simp[Xk,wK,cY]
structure dD where
 a8:Int
 cv:Value
 code:List dU
 to:iR
 why:BitVec 64
 vv:Value
 vars:List Int
def qh(x:dD):List Value:=I x.a8::x.cv::(jG x.to++[U x.why,x.vv])
theorem pP(x:dD):(qh x).length=13:=by simp[qh,DL]
structure D2(K:Vu)(x:dD):Prop where
 code:pB K x.cv 10 x.code.length (x.code.flatMap j9)
 vars:pB K x.vv 1 x.vars.length (x.vars.map I)
theorem D2.mono{K K':Vu}{x:dD}(h:D2 K x)(hl:Le K K'):D2 K' x:=⟨h.code.mono hl,h.vars.mono hl⟩
def cX:dD:=⟨0,.slice none 0 0,[],ahx,0,.slice none 0 0,[]⟩
def pQ:pO:=⟨DV,.nilFunc,.nilFunc,.nilFunc,.base DV tb0,dg⟩
theorem tO{K:Vu}{x:dD}(h:D2 K x):∀u∈(qh x).toArray,u.oneCell'=true:=by
 intro u hu
 simp only[qh,Ll,c8,fg,HG,Cd]at hu
 rcases hu with rfl|rfl|hu|rfl|rfl
 .rfl
 .exact(Su h.code).1
 .exact IG x.to u qZ
 .rfl
 exact(Su h.vars).1
inductive my
 |a8 (i:Nat)
 |var (i:Nat) (m:Int)
 |add (i:Nat) (q:dD)
 |raise (v:Int) (was:El) (had:BitVec 64)
 |merge (m:Int)
 |seen (was:Int)
 |stuck
structure NTy where
 fL:FuncId
 fV:FuncId
 fA:FuncId
 fR:FuncId
 fM:FuncId
 fS:FuncId
 fE:FuncId
 tn:TypeId
 ti:TypeId
 te:TypeId
 tu:TypeId
 tq:TypeId
def nh(T:NTy)(n:Nat)(L:List bu)(x:Value×my):Prop:=
 match x.2 with
 | .a8 i=>∃b1 b2,x.1=jL T.fL #[pt b1,pt b2]/\bu.blk b1 (.cells #[pt n] T.tn (0,0))∈L/\bu.blk b2 (.cells #[I i] T.ti (0,0))∈L
 | .var i m=>∃b1 b2 b3,x.1=jL T.fV #[pt b1,pt b2,pt b3]/\bu.blk b1 (.cells #[pt n] T.tn (0,0))∈L/\bu.blk b2 (.cells #[I i] T.ti (0,0))∈L/\bu.blk b3 (.cells #[I m] T.ti (0,0))∈L
 | .add i q=>∃b1 b2 b3,x.1=jL T.fA #[pt b1,pt b2,pt b3]/\bu.blk b1 (.cells #[pt n] T.tn (0,0))∈L/\bu.blk b2 (.cells #[I i] T.ti (0,0))∈L/\bu.blk b3 (.cells (qh q).toArray T.tq (0,0))∈L
 | .raise v was had=>∃b1 b2 b3 b4,x.1=jL T.fR #[pt b1,pt b2,pt b3,pt b4]/\bu.blk b1 (.cells (iM was) T.te (0,0))∈L/\bu.blk b2 (.cells #[U had] T.tu (0,0))∈L/\bu.blk b3 (.cells #[pt n] T.tn (0,0))∈L/\bu.blk b4 (.cells #[I v] T.ti (0,0))∈L
 | .merge m=>∃b1 b2,x.1=jL T.fM #[pt b1,pt b2]/\bu.blk b1 (.cells #[pt n] T.tn (0,0))∈L/\bu.blk b2 (.cells #[I m] T.ti (0,0))∈L
 | .seen was=>∃b1 b2,x.1=jL T.fS #[pt b1,pt b2]/\bu.blk b1 (.cells #[I was] T.ti (0,0))∈L/\bu.blk b2 (.cells #[pt n] T.tn (0,0))∈L
 | .stuck=>∃b1,x.1=jL T.fE #[pt b1]/\bu.blk b1 (.cells #[pt n] T.tn (0,0))∈L
theorem nh.mono{T:NTy}{n:Nat}{L L':List bu}{x:Value×my}(h:nh T n L x)(hs:∀e∈L,e∈L'):nh T n L' x:=by
 obtain⟨v,c⟩:=x
 cases c with
 |a8 i=>obtain⟨b1,b2,h0,h1,h2⟩:=h;exact⟨b1,b2,h0,hs _ h1,hs _ h2⟩
 |var i m=>obtain⟨b1,b2,b3,h0,h1,h2,h3⟩:=h;exact⟨b1,b2,b3,h0,hs _ h1,hs _ h2,hs _ h3⟩
 |add i q=>obtain⟨b1,b2,b3,h0,h1,h2,h3⟩:=h;exact⟨b1,b2,b3,h0,hs _ h1,hs _ h2,hs _ h3⟩
 |raise v was had=>obtain⟨b1,b2,b3,b4,h0,h1,h2,h3,h4⟩:=h;exact⟨b1,b2,b3,b4,h0,hs _ h1,hs _ h2,hs _ h3,hs _ h4⟩
 |merge m=>obtain⟨b1,b2,h0,h1,h2⟩:=h;exact⟨b1,b2,h0,hs _ h1,hs _ h2⟩
 |seen was=>obtain⟨b1,b2,h0,h1,h2⟩:=h;exact⟨b1,b2,h0,hs _ h1,hs _ h2⟩
 |stuck=>obtain⟨b1,h0,h1⟩:=h;exact⟨b1,h0,hs _ h1⟩
theorem getD_eq{α:Type}{l:List α}{d:α}{k:Nat}(h:k<l.length):l.getD k d=l[k]:=by grind
theorem oO{α β:Type}{f:β->α->β}{b:β}{l:List α}{d:α}{k:Int}(h0:0<=k)(h1:k<l.length):(l.take (k+1).toNat).foldl f b=f ((l.take k.toNat).foldl f b) (l.getD k.toNat d):=by
 have hk:k.toNat<l.length:=J
 rw[show(k+1).toNat=k.toNat+1 by omega,ER hk,getD_eq hk,xN]
 rfl
theorem aiF{α:Type}{l:List α}{d:α}{p:α->Bool}{k:Int}(h0:0<=k)(h1:k<l.length)(hp:p (l.getD k.toNat d)=true):l.any p=true:=by grind
theorem anl{α:Type}{l:List α}{d:α}{p:α->Bool}(h:∀j,j<l.length->p (l.getD j d)=false):l.any p=false:=by
 rw[XV]
 intro x hx
 obtain⟨j,hj,rfl⟩:=vc.1 hx
 have:=h j hj
 rw[getD_eq hj]at this;rw[this];exact K7
def E8(q:dD):Bool:=decide (q.code.length=1)&&decide ((q.code.getD 0 bG).op=1)&&decide (0<=q.to.var)
def orW(y:BitVec 64)(ws:List (BitVec 64))(l:List Int):BitVec 64:=l.foldl (fun a v=>a|||ws.getD v.toNat 0) y
theorem aiH{y:BitVec 64}{ws:List (BitVec 64)}{l:List Int}{k:Int}(h0:0<=k)(h1:k<l.length):orW y ws (l.take (k+1).toNat)=orW y ws (l.take k.toNat)|||ws.getD (l.getD k.toNat 0).toNat 0:=by
 have hk:k.toNat<l.length:=J
 rw[show(k+1).toNat=k.toNat+1 by omega,ER hk,getD_eq hk]
 unfold orW
 rw[xN]
 rfl
def ZA(K:Vu)(qs:List dD):Prop:=∀q∈qs,D2 K q
theorem ZA.mono{K K':Vu}{qs:List dD}(h:ZA K qs)(hl:Le K K'):ZA K' qs:=fun q hq=>(h q hq).mono hl
theorem ZA.at{K:Vu}{qs:List dD}(h:ZA K qs){k:Int}(h0:0<=k)(h1:k<qs.length):D2 K (qs.getD k.toNat cX):=h _ (dw h0 h1)
def yz(q:dD):Int:=q.vars.getD 0 0
def grQ(g:List (List Int))(q:dD):List (List Int):=if E8 q=true then g.set (yz q).toNat (g.getD (yz q).toNat []++[q.to.var])else g
def cz(n:Nat)(qs:List dD):List (List Int):=qs.foldl grQ (List.replicate n [])
theorem anm{g:List (List Int)}{q:dD}:(grQ g q).length=g.length:=by grind[grQ]
theorem FD(n:Nat)(qs:List dD):(cz n qs).length=n:=by
 have key:∀(qs:List dD) (g:List (List Int)),(qs.foldl grQ g).length=g.length:=fun qs=>by
  induction qs with
  |nil=>intro g;rfl
  |cons q qs ih=>intro g;rw[o9,ih,anm]
 unfold cz;rw[key];simp
theorem abQ{gs:List jY}{k:Nat}{x:jY}:qf (gs.set k x)=(qf gs).set k x.l:=by simp_all[qf]
theorem Ni{n:Nat}{qs:List dD}{k:Int}(h0:0<=k)(h1:k<qs.length):cz n (qs.take (k+1).toNat)=grQ (cz n (qs.take k.toNat)) (qs.getD k.toNat cX):=oO h0 h1
theorem aiI{gs:List jY}{i b:Nat}{x:jY}(h:∀y∈gs,y.l.length<=b)(hx:x.l.length<=b+1):∀y∈gs.set i x,y.l.length<=b+1:=by grind
def VN(n:Nat)(qs:List dD):Prop:=∀q∈qs,E8 q=true->0<q.vars.length/\(0<=yz q/\yz q<n)/\q.to.var<n
theorem VN.at{n:Nat}{qs:List dD}(h:VN n qs){k:Int}(h0:0<=k)(h1:k<qs.length)(hp:E8 (qs.getD k.toNat cX)=true):0<(qs.getD k.toNat cX).vars.length/\(0<=yz (qs.getD k.toNat cX)/\yz (qs.getD k.toNat cX)<n)/\(qs.getD k.toNat cX).to.var<n:=h _ (dw h0 h1) hp
def Nj(cl:List Nat)(ws:List (BitVec 64))(o:List (BitVec 64))(v:Nat):List (BitVec 64):=o.set (fN cl v).toNat (o.getD (fN cl v).toNat 0|||ws.getD v 0)
def JU(cl:List Nat)(q:dD):Bool:=E8 q&&decide (fN cl (yz q)=fN cl q.to.var)&&decide (yz q≠q.to.var)
def J6(cl:List Nat)(o:List (BitVec 64))(q:dD):List (BitVec 64):=if JU cl q=true then o.set (fN cl q.to.var).toNat (o.getD (fN cl q.to.var).toNat 0|||q.why)else o
def VO(cl:List Nat)(ws:List (BitVec 64))(n:Nat):List (BitVec 64):=(List.range n).foldl (Nj cl ws) (List.replicate n 0)
def CN(cl:List Nat)(ws:List (BitVec 64))(n:Nat)(qs:List dD):List (BitVec 64):=qs.foldl (J6 cl) (VO cl ws n)
theorem DU{α:Type}{f:List (BitVec 64)->α->List (BitVec 64)}(hf:∀o a,(f o a).length=o.length):∀(l:List α) (o:List (BitVec 64)),(l.foldl f o).length=o.length
 |[],o=>rfl
 |a::l,o=>by rw[o9,DU hf,hf]
theorem aee{cl:List Nat}{ws:List (BitVec 64)}{n:Nat}{k:Int}(h0:0<=k):((List.range (k+1).toNat).foldl (Nj cl ws) (List.replicate n 0))=Nj cl ws ((List.range k.toNat).foldl (Nj cl ws) (List.replicate n 0)) k.toNat:=by
 rw[show(k+1).toNat=k.toNat+1 by omega,xO,xN];rfl
theorem Nk(cl:List Nat)(ws o:List (BitVec 64))(v:Nat):(Nj cl ws o v).length=o.length:=by simp[Nj]
theorem VP(cl:List Nat)(o:List (BitVec 64))(q:dD):(J6 cl o q).length=o.length:=by grind[J6]
theorem aiJ{cl:List Nat}{nd:List qA}{v:Int}(h:Fo nd cl)(hv:0<=v/\v<cl.length):0<=fN cl v/\fN cl v<cl.length:=by grind[qA,Fo,fN,nc]
theorem xn.find{T:FTy}{F m:Nat}{cs:List (List Nat)}{vW vU:Value}{cW cU:Option (Nat×Array Value)}{W:List (BitVec 64)}{ul:List (Value×jQ)}{ts:List Int}{cn:Int}{L:List bu}{n:Nat}(h:xn T F m cs vW vU cW cU W ul ts cn L)(hl:(bB cs).length=n)(v:Int)(hv:0<=v/\v<n):0<=fN (bB cs) v/\fN (bB cs) v<n:=by
 obtain⟨nd,cl,A2,rfl,-,h2,-⟩:=h.now
 subst hl
 exact aiJ (cl:=cl) h2 hv
def py(p:List Int×List Bool)(i:Int):List Int×List Bool:=if p.2.getD i.toNat false=true then p else(p.1++[i],p.2.set i.toNat true)
def rV(p:List Int×List Bool)(l:List Int):List Int×List Bool:=l.foldl py p
theorem Qt{p:List Int×List Bool}{l:List Int}{k:Int}(h0:0<=k)(h1:k<l.length):rV p (l.take (k+1).toNat)=py (rV p (l.take k.toNat)) (l.getD k.toNat 0):=oO h0 h1
theorem abR{wl:List Int}{wi:List Bool}{i:Int}(h:(!wi.getD i.toNat false)=true):py (wl,wi) i=(wl++[i],wi.set i.toNat true):=by grind[py]
theorem VQ{wl:List Int}{wi:List Bool}{i:Int}(h:(!wi.getD i.toNat false)=false):py (wl,wi) i=(wl,wi):=by grind[py]
theorem Nl(p:List Int×List Bool)(i:Int):(py p i).2.length=p.2.length:=by grind[py]
theorem yR:∀{l:List Int} {p:List Int×List Bool},(rV p l).2.length=p.2.length
 |[],p=>rfl
 |i::l,p=>by
  show(rV (py p i) l).2.length=_
  rw[yR,Nl]
theorem ann(p:List Int×List Bool)(i:Int):(py p i).1.length<=p.1.length+1:=by grind[py]
theorem GN:∀{l:List Int} {p:List Int×List Bool},(rV p l).1.length<=p.1.length+l.length
 |[],p=>by simp[rV]
 |i::l,p=>by
  have h1:=GN (l:=l) (p:=py p i)
  have h2:=ann p i
  show(rV (py p i) l).1.length<=_
  rw[fq];omega
def mh(ak:List El)(us:List jY)(p:List Int×List Bool)(v:Int)(e:El):List Int×List Bool:=if rS (ak.getD v.toNat dg) e then p else rV p (us.getD v.toNat de).l
theorem Hp.axp{w0 w:World}{R:List bu}{t:TypeId}(K:Vu):∀{gs:List jY} {A:List bu},Hp w0 w (A++(gs.map (dQ t)++R))->∃Z,Hp w0 w (A++(Z++R))/\∀x∈gs,pB (Kz K Z) x.v 1 x.l.length (x.l.map I)
 |[],A,h=>⟨[],h,fun x hx=>by cases hx⟩
 |x::gs,A,h=>by
  have h1:Hp w0 w (dQ t x::(A++(gs.map (dQ t)++R))):=h.perm aJ
  obtain⟨Z1,h2,h3,_⟩:=h1.TY K
  have h4:Hp w0 w ((Z1++A)++(gs.map (dQ t)++R)):=by rw[dG];exact h2
  obtain⟨Z,h5,h6⟩:=Hp.axp K h4
  refine⟨Z1++Z,h5.perm ?_,fun y hy=> ?_⟩
  .rw[dG,dG]
   exact wV _ _ _
  rcases c8.1 hy with e|hy
  .subst e;exact h3.mono (Le.zz fun a ha=>dL _ ha)
  exact(h6 y hy).mono (Le.zz fun a ha=>bH _ ha)
theorem Hp.aD7{w0 w:World}{R:List bu}{t t2:TypeId}{v:Value}{gs:List jY}(K:Vu)(h:Hp w0 w (jU jY.v v t2 gs::(gs.map (dQ t)++R))):∃Z,Hp w0 w (Z++R)/\GrV (Kz K Z) v gs:=by
 obtain⟨Z,h1,h2⟩:=Hp.axp K (A:=[jU jY.v v t2 gs]) h
 obtain⟨Z2,h3,h4,_⟩:=Hp.TY (L:=Z++R) h1 K
 exact⟨Z2++Z,by rw[dG];exact h3,h4.mono (Le.zz fun a ha=>dL _ ha),fun x hx=>(h2 x hx).mono (Le.zz fun a ha=>bH _ ha)⟩
structure NP where
 aq:List pO
 a8:List Int
 ak:List El
 bq:List (BitVec 64)
 us:List (List Int)
 qs:List dD
 sn:Int
 cs:List (List Nat)
 sk:Bool
 wy:BitVec 64
 wr:Value
def GO(u:List (List Int))(v:Int):List (List Int):=u.set v.toNat (u.getD v.toNat []).dropLast
def wj:my->NP->NP
 | .a8 i,s=>{s with aq:=s.aq.take i}
 | .var i m,s=>{s with a8:=s.a8.take i,ak:=s.ak.take i,bq:=s.bq.take i,us:=s.us.take i,cs:=(CI s.cs m).1}
 | .add i q,s=>{s with qs:=s.qs.take i,us:=q.vars.foldl GO s.us}
 | .raise v was had,s=>{s with ak:=s.ak.set v.toNat was,bq:=s.bq.set v.toNat had}
 | .merge m,s=>{s with cs:=(CI s.cs m).1}
 | .seen was,s=>{s with sn:=was}
 | .stuck,s=>{s with sk:=false,wy:=0}
def okN:my->NP->Prop
 | .a8 i,s=>i<=s.aq.length
 | .var i m,s=>i<=s.a8.length/\i<=s.ak.length/\i<=s.bq.length/\i<=s.us.length
 | .add i q,s=>i<=s.qs.length/\q.vars.Nodup/\∀v∈q.vars,0<=v/\v<s.us.length/\s.us.getD v.toNat []≠[]
 | .raise v _ _,s=>0<=v/\v<s.ak.length/\v<s.bq.length
 | .merge _,_=>True
 | .seen _,_=>True
 | .stuck,_=>True
def D3:List my->NP->NP
 |[],s=>s
 |c::l,s=>D3 l (wj c s)
def okB:List my->NP->Prop
 |[],_=>True
 |c::l,s=>okN c s/\okB l (wj c s)
theorem VR(a b:List my)(s:NP):D3 (a++b) s=D3 b (D3 a s):=by
 induction a generalizing s with
 |nil=>rfl
 |cons c a ih=>exact ih _
theorem S0(a b:List my)(s:NP):okB (a++b) s↔okB a s/\okB b (D3 a s):=by
 induction a generalizing s with
 |nil=>simp[okB,D3]
 |cons c a ih=>simp only[gA,okB,D3,ih,and_assoc]
structure iN(new:List (Value×my))(s s':NP):Prop where
 und:D3 (new.map Prod.snd).reverse s'=s
 ok:okB (new.map Prod.snd).reverse s'
theorem iN.nil(s:NP):iN [] s s:=⟨rfl,trivial⟩
theorem iN.trans{a b:List (Value×my)}{s s' s'':NP}(h:iN a s s')(h2:iN b s' s''):iN (a++b) s s'':=by grind[my,NP,iN,VR,S0]
theorem iN.one{f:Value}{c:my}{s s':NP}(h:wj c s'=s)(ho:okN c s'):iN [(f,c)] s s':=⟨h,ho,trivial⟩
theorem VT{α:Type}{l:List α}{k:Nat}{d e:α}(h:k<l.length):(l.set k e).set k (l.getD k d)=l:=kp
theorem ZB{f:Value}{s:NP}{v:Int}{e:El}{y:BitVec 64}(h1:0<=v/\v<s.ak.length)(h2:v<s.bq.length):
  iN [(f,.raise v (s.ak.getD v.toNat dg) (s.bq.getD v.toNat 0))] s {s with ak:=s.ak.set v.toNat e,bq:=s.bq.set v.toNat y}:=by
 refine iN.one ?_ ⟨h1.1,by simpa using h1.2,by simpa using h2⟩
 simp only[wj]
 rw[VT J,VT J]
def IW:my->Prop
 | .raise _ _ _=>True
 | .merge _=>True
 |_=>False
def rgS(us:List jY)(e:El)(s:List El×(List Int×List Bool))(k:Int):List El×(List Int×List Bool):=(s.1.set k.toNat e,mh s.1 us s.2 k e)
def ye(ak:List El)(us:List jY)(p:List Int×List Bool)(ks:List Int)(e:El):List El×(List Int×List Bool):=ks.foldl (rgS us e) (ak,p)
theorem aiK{ak:List El}{us:List jY}{p:List Int×List Bool}{ks:List Int}{e:El}{k:Int}(h0:0<=k)(h1:k<ks.length):ye ak us p (ks.take (k+1).toNat) e=rgS us e (ye ak us p (ks.take k.toNat) e) (ks.getD k.toNat 0):=oO h0 h1
theorem yS{us:List jY}{e:El}:∀{ks:List Int} {ak:List El} {p:List Int×List Bool},(ye ak us p ks e).1=gE ak ks e
 |[],ak,p=>rfl
 |k::ks,ak,p=>by
  show(ye (ak.set k.toNat e) us (mh ak us p k e) ks e).1=gE (ak.set k.toNat e) ks e
  exact yS
theorem Nn{ak:List El}{us:List jY}{p:List Int×List Bool}{v:Int}{e:El}:(mh ak us p v e).2.length=p.2.length:=by grind[mh,yR]
theorem KY{us:List jY}{e:El}:∀{ks:List Int} {ak:List El} {p:List Int×List Bool},(ye ak us p ks e).2.2.length=p.2.length
 |[],ak,p=>rfl
 |k::ks,ak,p=>by
  show(ye (ak.set k.toNat e) us (mh ak us p k e) ks e).2.2.length=_
  rw[KY,Nn]
theorem ano{ak:List El}{us:List jY}{p:List Int×List Bool}{v:Int}{e:El}(h:(us.getD v.toNat de).l.length<=1000):(mh ak us p v e).1.length<=p.1.length+1000:=by grind[mh,GN,de]
theorem aiL{us:List jY}{e:El}(hu:∀k:Nat,k<us.length->(us.getD k de).l.length<=1000):∀{ks:List Int} {ak:List El} {p:List Int×List Bool},(∀k∈ks,0<=k/\k<us.length)->(ye ak us p ks e).2.1.length<=p.1.length+1000*ks.length
 |[],ak,p,_=>by simp[ye]
 |k::ks,ak,p,h=>by
  have h1:=aiL (e:=e) hu (ks:=ks) (ak:=ak.set k.toNat e) (p:=mh ak us p k e) fun q hq=>h q (by simp[hq])
  have h2:=ano (ak:=ak) (p:=p) (v:=k) (e:=e) (hu k.toNat (by have:=h k aJ;omega))
  show(ye (ak.set k.toNat e) us (mh ak us p k e) ks e).2.1.length<=_
  rw[fq];omega
theorem mM{cl:List Nat}{i k:Int}(h:k∈bP cl i):(0<=i/\i<cl.length)/\0<=k/\k<cl.length/\cm cl k.toNat=cm cl i.toNat:=by grind[bP,Ae]
theorem IX{cl:List Nat}{i k:Int}:k∈bP cl i↔(0<=i/\i<cl.length)/\0<=k/\k<cl.length/\cm cl k.toNat=cm cl i.toNat:=by grind[mM,bP,Int.toNat_of_nonneg,Ae]
theorem wk{cl:List Nat}{i:Int}:(bP cl i).length<=cl.length:=by
 unfold bP;split
 .rw[gF]
  exact kX (List.length_filter_le ..) aJ
 simp
theorem VU{cs:List (List Nat)}{i j:Int}:(jv cs i j).2=true/\(∃a,(jv cs i j).1=a::cs)\/(jv cs i j).2=false/\(jv cs i j).1=cs:=by grind[jv]
theorem ZC{f:Value}{s:NP}{i j:Int}(h:0<s.cs.length)(hu:(jv s.cs i j).2=true):
  iN [(f,.merge ((s.cs.length:Int)-1))] s {s with cs:=(jv s.cs i j).1}:=by
 refine iN.one ?_ trivial
 rcases VU (cs:=s.cs) (i:=i) (j:=j)with⟨_,a,e⟩|⟨e,_⟩
 .rw[e]
  simp only[wj]
  have:CI (a::s.cs) ((s.cs.length:Int)-1)=(s.cs,true):=by
   unfold CI
   rw[aT xX,show(a::s.cs).length-1-(max 0 ((s.cs.length:Int)-1)).toNat=1 by simp only[fq];omega]
   rfl
  rw[this]
 rw[hu]at e;cases e
theorem aef{cs:List (List Nat)}{i j:Int}(h:(jv cs i j).2=false):(jv cs i j).1=cs:=by grind[VU]
structure Xl(T:OP)(K:Vu)(ids:List Nat)(tl:List (Nat×Rl))(x:pO):Prop where
 ops:BA T K x.d x.e x.l x.j
 Fg:x.d.Fg ids tl
 sh:x.d.sh.sh=x.p.sh
 yK:k7 K x.p
 dep:x.d.dep<=1
theorem Xl.mono{T:OP}{K K':Vu}{ids:List Nat}{tl:List (Nat×Rl)}{x:pO}(h:Xl T K ids tl x)(hl:Le K K'):Xl T K' ids tl x:=⟨h.ops.mono hl,h.Fg,h.sh,h.yK.mono hl,h.dep⟩
def VV(T:OP)(K:Vu)(ids:List Nat)(tl:List (Nat×Rl))(l:List pO):Prop:=∀x∈l,Xl T K ids tl x
theorem VV.mono{T:OP}{K K':Vu}{ids:List Nat}{tl:List (Nat×Rl)}{l:List pO}(h:VV T K ids tl l)(hl:Le K K'):VV T K' ids tl l:=fun x hx=>(h x hx).mono hl
theorem VV.at{T:OP}{K:Vu}{ids:List Nat}{tl:List (Nat×Rl)}{l:List pO}(h:VV T K ids tl l){k:Int}(h0:0<=k)(h1:k<l.length):Xl T K ids tl (l.getD k.toNat pQ):=h _ (dw h0 h1)
theorem apI{d:Wr}{ids:List Nat}{tl:List (Nat×Rl)}{s:Sh}(h:d.Fg ids tl)(hs:d.sh.sh=s)(a b:El):iM (pu d.tb a b)=iM (ef s a b):=by
 subst hs
 refine l6 ?_
 induction d with
 |base p tb=>exact ad2 h.1 _ _
 |wrap m d ih=>exact ih h.2
def skQ(cl:List Nat)(q:dD):Bool:=E8 q&&decide (fN cl (yz q)=fN cl q.to.var)
structure LkO where
 ok:Bool
 ak:List El
 bq:List (BitVec 64)
 wl:List Int
 wi:List Bool
 wy:BitVec 64
 ks:List Kd
def VW(d:Wr)(ks:List Kd)(f:Ct):Ct:=ks.foldl (fun f k=>d.tick k f) f
section
variable(cl:List Nat)(us:List jY)(sh:Sh)(q:dD)(ak:List El)(bq:List (BitVec 64))(wl:List Int)(wi:List Bool)(wy:BitVec 64)
def lkE:El:=(ey sh q.code ak).1
def lkJ:El:=ef sh (ak.getD q.to.var.toNat dg) (lkE sh q ak)
def lkR:LkO:=
 ⟨true,(ye ak us (wl,wi) (bP cl q.to.var) (lkJ sh q ak)).1,gE bq (bP cl q.to.var) (bq.getD q.to.var.toNat 0|||orW q.why bq q.vars),(ye ak us (wl,wi) (bP cl q.to.var) (lkJ sh q ak)).2.1,(ye ak us (wl,wi) (bP cl q.to.var) (lkJ sh q ak)).2.2,wy,[.e,.l,.j]⟩
def n7:LkO:=
 if skQ cl q=true then⟨true,ak,bq,wl,wi,wy,[]⟩
 else if q.to.var<0 then
  if cS (lkE sh q ak) q.to.c=true then⟨true,ak,bq,wl,wi,wy,[.e,.l]⟩else⟨false,ak,bq,wl,wi,orW q.why bq q.vars,[.e,.l]⟩
 else if cS (lkE sh q ak) (ak.getD q.to.var.toNat dg)=true then⟨true,ak,bq,wl,wi,wy,[.e,.l]⟩
 else lkR cl us sh q ak bq wl wi wy
end
structure pT(f f':Ct)(a b c:Nat):Prop where
 e:∀i,(f i).e<=(f' i).e/\(f' i).e<=(f i).e+a
 l:∀i,(f i).l<=(f' i).l/\(f' i).l<=(f i).l+b
 j:∀i,(f i).j<=(f' i).j/\(f' i).j<=(f i).j+c
theorem pT.refl(f:Ct):pT f f 0 0 0:=⟨fun i=>J,fun i=>J,fun i=>J⟩
theorem pT.trans{f g h:Ct}{a b c a' b' c':Nat}(p:pT f g a b c)(q:pT g h a' b' c'):pT f h (a+a') (b+b') (c+c'):=
 ⟨fun i=>by have:=p.e i;have:=q.e i;omega,fun i=>by have:=p.l i;have:=q.l i;omega,fun i=>by have:=p.j i;have:=q.j i;omega⟩
theorem pT.more{f g:Ct}{a b c a' b' c':Nat}(p:pT f g a b c)(ha:a<=a')(hb:b<=b')(hc:c<=c'):pT f g a' b' c':=
 ⟨fun i=>by have:=p.e i;omega,fun i=>by have:=p.l i;omega,fun i=>by have:=p.j i;omega⟩
theorem pT.ok{f g:Ct}{a b c n:Nat}(p:pT f g a b c)(h:Fy n f):Fy (n+a+b+c) g:=fun i=>by
 obtain⟨⟨h1,h2⟩,⟨h3,h4⟩,h5,h6⟩:=h i
 have:=p.e i;have:=p.l i;have:=p.j i
 exact⟨⟨J,J⟩,⟨J,J⟩,J,J⟩
theorem yT{d:Wr}(h:d.dep<=1)(f:Ct):pT f (d.tick .e f) 1 0 0/\pT f (d.tick .l f) 0 1 0/\pT f (d.tick .j f) 0 0 1:=by
 cases d with
 |base p tb=>exact⟨(pT.refl f).more J J J,(pT.refl f).more J J J,(pT.refl f).more J J J⟩
 |wrap m d=>
  cases d with
  |wrap m' d=>simp[Wr.dep]at h
  |base p tb=>
   have key:∀i,(wN f m ((Kd.e).up (f m)) i).e=(f i).e+(if i=m then 1 else 0)/\(wN f m ((Kd.e).up (f m)) i).l=(f i).l/\(wN f m ((Kd.e).up (f m)) i).j=(f i).j/\
     (wN f m ((Kd.l).up (f m)) i).l=(f i).l+(if i=m then 1 else 0)/\(wN f m ((Kd.l).up (f m)) i).e=(f i).e/\(wN f m ((Kd.l).up (f m)) i).j=(f i).j/\
     (wN f m ((Kd.j).up (f m)) i).j=(f i).j+(if i=m then 1 else 0)/\(wN f m ((Kd.j).up (f m)) i).l=(f i).l/\(wN f m ((Kd.j).up (f m)) i).e=(f i).e:=fun i=>by
    unfold wN
    by_cases e:i=m
    .subst e;simp[Kd.up]
    simp[e]
   refine⟨⟨fun i=> ?_,fun i=> ?_,fun i=> ?_⟩,⟨fun i=> ?_,fun i=> ?_,fun i=> ?_⟩,⟨fun i=> ?_,fun i=> ?_,fun i=> ?_⟩⟩<;>(show _/\_;have:=key i;simp only[Wr.tick,jR];by_cases e:i=m<;>simp only[e,uu,xU]at this<;>(try subst e)<;>omega)
theorem VX{d:Wr}(h:d.dep<=1)(cl:List Nat)(us:List jY)(sh:Sh)(q:dD)(ak:List El)(bq:List (BitVec 64))(wl:List Int)(wi:List Bool)(wy:BitVec 64)(f:Ct):
  pT f (VW d (n7 cl us sh q ak bq wl wi wy).ks f) 1 1 1:=by
 have e2:pT f (VW d [.e,.l] f) 1 1 1:=((yT h f).1.trans (yT h _).2.1).more J J J
 have e3:pT f (VW d [.e,.l,.j] f) 1 1 1:=(((yT h f).1.trans (yT h _).2.1).trans (yT h _).2.2).more J J J
 unfold n7
 split
 .exact(pT.refl f).more J J J
 split
 .split
  .exact e2
  exact e2
 split
 .exact e2
 exact e3
theorem VY{l:List Bool}{k j:Nat}{a:Bool}(hk:k<l.length):(l.set k a).getD j false=if k=j then a else l.getD j false:=by grind
structure uW(wl:List Int)(wi:List Bool):Prop where
 nd:wl.Nodup
 mem:∀i,i∈wl↔(0<=i/\i<wi.length)/\wi.getD i.toNat false=true
theorem uW.len{wl:List Int}{wi:List Bool}(h:uW wl wi):wl.length<=wi.length:=by
 have h1:(wl.map Int.toNat).Nodup:=by
  refine List.Pairwise.map _ ?_ (afq (S:=fun a b=>a.toNat≠b.toNat) ?_ h.nd)
  .exact fun a b q=>q
  intro a b ha hb hab e
  have:=((h.mem a).1 ha).1;have:=((h.mem b).1 hb).1
  exact hab J
 have h2:(wl.map Int.toNat).length<=(List.range wi.length).length:=by
  refine h1.length_le_of_subset fun x hx=> ?_
  obtain⟨a,ha,rfl⟩:=fZ.1 hx
  have:=((h.mem a).1 ha).1
  exact qq.2 J
 simpa using h2
theorem uW.put{wl:List Int}{wi:List Bool}(h:uW wl wi){i:Int}(hi:0<=i/\i<wi.length):uW (py (wl,wi) i).1 (py (wl,wi) i).2:=by grind[uW,py,VY]
theorem uW.take{x:Int}{wl:List Int}{wi:List Bool}(h:uW (x::wl) wi):uW wl (wi.set x.toNat false):=by grind[uW,VY]
theorem uW.rV{l:List Int}:∀{wl:List Int} {wi:List Bool},uW wl wi->(∀i∈l,0<=i/\i<wi.length)->uW (rV (wl,wi) l).1 (rV (wl,wi) l).2:=by
 induction l with
 |nil=>intro wl wi h _;exact h
 |cons i l ih=>
  intro wl wi h hl
  have h1:=h.put (hl i aJ)
  have h2:=ih h1 (fun j hj=>by have:=hl j (fX _ hj);rw[Nl];exact this)
  exact h2
theorem uW.ye{us:List jY}{e:El}{b:Nat}(hu:∀k:Nat,k<us.length->∀i∈(us.getD k de).l,0<=i/\i<b){ks:List Int}:∀{ak:List El} {wl:List Int} {wi:List Bool},uW wl wi->wi.length=b->(∀k∈ks,0<=k/\k<us.length)->uW (ye ak us (wl,wi) ks e).2.1 (ye ak us (wl,wi) ks e).2.2:=by
 induction ks with
 |nil=>intro ak wl wi h _ _;exact h
 |cons k ks ih=>
  intro ak wl wi h hb hk
  have hk0:=hk k aJ
  have h1:uW (mh ak us (wl,wi) k e).1 (mh ak us (wl,wi) k e).2:=by
   unfold mh
   split
   .exact h
   exact h.rV fun i hi=>by have:=hu k.toNat J i hi;omega
  exact ih (ak:=ak.set k.toNat e) (wl:=(mh ak us (wl,wi) k e).1) (wi:=(mh ak us (wl,wi) k e).2) h1 (Nn.trans hb) fun q hq=>hk q (fX _ hq)
theorem Sl.frI{w:World}{v:Value}{l:List Int}(h:Sl w v 1 l.length (l.map I))(o:Nat)(ho:o<=l.length):Sl w (o5 v 1 o) 1 (l.drop o).length ((l.drop o).map I):=by
 have:=h.fr o ho
 rw[lU,<-Yc]at this
 rw[yB];exact this
def s3(cs:List (List Nat))(ks:List Int)(k:Nat):List (List Nat):=(List.range k).foldl (fun(c:List (List Nat)) (i:Nat)=>(jv c i (ks.getD i 0)).1) cs
theorem GQ{cs:List (List Nat)}{ks:List Int}{k:Int}(h0:0<=k):s3 cs ks (k+1).toNat=(jv (s3 cs ks k.toNat) k (ks.getD k.toNat 0)).1:=by
 unfold s3
 rw[show(k+1).toNat=k.toNat+1 by omega,xO,xN,o9,List.foldl_nil,gk h0]
theorem aeg{cs:List (List Nat)}{i j:Int}:(bB (jv cs i j).1).length=(bB cs).length:=by grind[bB,jv,IU]
theorem xo{cs:List (List Nat)}{ks:List Int}:∀k,(bB (s3 cs ks k)).length=(bB cs).length
 |0=>rfl
 |k+1=>by
  have:=GQ (cs:=cs) (ks:=ks) (k:=(k:Int)) J
  rw[show((k:Int)+1).toNat=k+1 by omega]at this
  rw[this,aeg,show((k:Int)).toNat=k by omega,xo k]
def wm(sh:Sh)(ak:List El)(e:El)(ks:List Int):El:=ks.foldl (fun e k=>if rS (ak.getD k.toNat dg) e then e else ef sh e (ak.getD k.toNat dg)) e
theorem HU{sh:Sh}{ak:List El}{e:El}{ks:List Int}{k:Int}(h0:0<=k)(h1:k<ks.length):wm sh ak e (ks.take (k+1).toNat)=(if rS (ak.getD (ks.getD k.toNat 0).toNat dg) (wm sh ak e (ks.take k.toNat))then wm sh ak e (ks.take k.toNat)else ef sh (wm sh ak e (ks.take k.toNat)) (ak.getD (ks.getD k.toNat 0).toNat dg)):=oO h0 h1
structure yU where
 ak:List El
 bq:List (BitVec 64)
 wl:List Int
 wi:List Bool
def co1(cl:List Nat)(us:List jY)(aq:List pO)(a8:List Int)(rs:List (BitVec 64))(s:yU)(v:Nat):yU:=
 if fN cl v=v/\(bP cl v).length≠1 then
  let e:=wm (aq.getD (a8.getD v 0).toNat pQ).p.sh s.ak (s.ak.getD v dg) ((bP cl v).drop 1)
  ⟨(ye s.ak us (s.wl,s.wi) (bP cl v) e).1,gE s.bq (bP cl v) (rs.getD v 0),(ye s.ak us (s.wl,s.wi) (bP cl v) e).2.1,(ye s.ak us (s.wl,s.wi) (bP cl v) e).2.2⟩
 else s
def coA(cl:List Nat)(us:List jY)(aq:List pO)(a8:List Int)(rs:List (BitVec 64))(s:yU)(k:Nat):yU:=(List.range k).foldl (co1 cl us aq a8 rs) s
theorem CO{cl:List Nat}{us:List jY}{aq:List pO}{a8:List Int}{rs:List (BitVec 64)}{s:yU}{k:Int}(h0:0<=k):coA cl us aq a8 rs s (k+1).toNat=co1 cl us aq a8 rs (coA cl us aq a8 rs s k.toNat) k.toNat:=by
 unfold coA
 rw[show(k+1).toNat=k.toNat+1 by omega,xO,xN];rfl
def coJ(cl:List Nat):Nat->Nat
 |0=>0
 |v+1=>coJ cl v+(if fN cl v=v then(bP cl v).length-1 else 0)
theorem Ud{cl:List Nat}{k:Int}(h0:0<=k):coJ cl (k+1).toNat=coJ cl k.toNat+(if fN cl k=k then(bP cl k).length-1 else 0):=by
 rw[show(k+1).toNat=k.toNat+1 by omega]
 show coJ cl k.toNat+(if fN cl ((k.toNat:Nat):Int)=((k.toNat:Nat):Int)then(bP cl ((k.toNat:Nat):Int)).length-1 else 0)=_
 rw[gk h0]
theorem ZD{cl:List Nat}:∀v,coJ cl v<=cl.length*v
 |0=>eU _
 |v+1=>by
  have h1:=ZD (cl:=cl) v
  have h2:=wk (cl:=cl) (i:=(v:Int))
  show coJ cl v+_<=_
  rw[Nat.mul_add,lU]
  split<;>omega
theorem aiN{cl:List Nat}{k:Int}(h:0<=k/\k<cl.length):1<=(bP cl k).length:=Rb (IX.2 ⟨h,h.1,h.2,rfl⟩)
theorem abT{cl:List Nat}{us:List jY}{aq:List pO}{a8:List Int}{rs:List (BitVec 64)}{s:yU}{k:Int}(h0:0<=k)(h1:fN cl k=k)(h2:(bP cl k).length≠1):
 co1 cl us aq a8 rs s k.toNat=⟨(ye s.ak us (s.wl,s.wi) (bP cl k) (wm (aq.getD (a8.getD k.toNat 0).toNat pQ).p.sh s.ak (s.ak.getD k.toNat dg) ((bP cl k).drop 1))).1,gE s.bq (bP cl k) (rs.getD k.toNat 0),(ye s.ak us (s.wl,s.wi) (bP cl k) (wm (aq.getD (a8.getD k.toNat 0).toNat pQ).p.sh s.ak (s.ak.getD k.toNat dg) ((bP cl k).drop 1))).2.1,(ye s.ak us (s.wl,s.wi) (bP cl k) (wm (aq.getD (a8.getD k.toNat 0).toNat pQ).p.sh s.ak (s.ak.getD k.toNat dg) ((bP cl k).drop 1))).2.2⟩:=by grind[co1]
theorem S1{cl:List Nat}{us:List jY}{aq:List pO}{a8:List Int}{rs:List (BitVec 64)}{s:yU}{k:Int}(h0:0<=k)(h1:¬(fN cl k=k/\(bP cl k).length≠1)):co1 cl us aq a8 rs s k.toNat=s:=by grind[co1]
structure Qu(b:Nat)(n k:Nat)(s:yU):Prop where
 lv:s.ak.length=n
 ly:s.bq.length=k
 li:s.wi.length=b
 wq:uW s.wl s.wi
theorem aiO{cl:List Nat}{us:List jY}{aq:List pO}{a8:List Int}{rs:List (BitVec 64)}{s:yU}{b n k v:Nat}(hu:∀k:Nat,k<us.length->∀i∈(us.getD k de).l,0<=i/\i<b)(hl:cl.length=us.length)(h:Qu b n k s):Qu b n k (co1 cl us aq a8 rs s v):=by
 unfold co1
 split
 .exact⟨by simp only[yS,jd];exact h.lv,by simp only[jd];exact h.ly,by simp only[KY];exact h.li,h.wq.ye hu h.li fun q hq=>by have:=mM hq;omega⟩
 exact h
theorem ZE{cl:List Nat}{us:List jY}{aq:List pO}{a8:List Int}{rs:List (BitVec 64)}{s:yU}{b n k:Nat}(hu:∀k:Nat,k<us.length->∀i∈(us.getD k de).l,0<=i/\i<b)(hl:cl.length=us.length)(h:Qu b n k s):∀j,Qu b n k (coA cl us aq a8 rs s j)
 |0=>h
 |j+1=>by
  have:=CO (cl:=cl) (us:=us) (aq:=aq) (a8:=a8) (rs:=rs) (s:=s) (k:=(j:Int)) J
  rw[show((j:Int)+1).toNat=j+1 by omega]at this
  rw[this]
  exact aiO hu hl (ZE hu hl h j)
structure CoO where
 cs:List (List Nat)
 s:yU
 j:Nat
noncomputable def sU(cs:List (List Nat))(us:List jY)(aq:List pO)(a8:List Int)(qs:List dD)(sn:Int)(n:Nat)(s:yU):CoO:=
 if(qs.drop sn.toNat).any E8=true then
  let cs':=s3 cs (pw (cz n qs)) n
  if leads (bB cs')=leads (bB cs)then⟨cs',s,0⟩
  else⟨cs',coA (bB cs') us aq a8 (CN (bB cs') s.bq n qs) s n,coJ (bB cs') n⟩
 else⟨cs,s,0⟩
structure QOk(nl n:Nat)(q:dD):Prop where
 a8:0<=q.a8/\q.a8<nl
 code:q.code.length<=1000
 to:q.to.var<n
 pl:E8 q=true->0<q.vars.length/\0<=yz q/\yz q<n
 vars:∀v∈q.vars,0<=v/\v<n
def ZF(nl n:Nat)(qs:List dD):Prop:=∀q∈qs,QOk nl n q
theorem ZF.pl{nl n:Nat}{qs:List dD}(h:ZF nl n qs):VN n qs:=fun q hq hp=>⟨((h q hq).pl hp).1,((h q hq).pl hp).2,(h q hq).to⟩
theorem ZF.at{nl n:Nat}{qs:List dD}(h:ZF nl n qs){k:Int}(h0:0<=k)(h1:k<qs.length):QOk nl n (qs.getD k.toNat cX):=h _ (dw h0 h1)
def upI(a:Int)(k:Nat):List Int:=(List.range k).map fun i:Nat=>a+(i:Int)
theorem aiP{a k:Int}(h:a<=k):upI a (k+1-a).toNat=upI a (k-a).toNat++[k]:=by
 unfold upI
 rw[show(k+1-a).toNat=(k-a).toNat+1 by omega,xO,gU]
 simp only[lR,Ca]
 rw[show a+((k-a).toNat:Int)=k by omega]
theorem aeh{p:List Int×List Bool}{l:List Int}{k:Int}:rV p (l++[k])=py (rV p l) k:=by grind[rV]
def VZ(c:yU)(sn:Int)(n:Nat):yU:=⟨c.ak,c.bq,(rV (c.wl,c.wi) (upI sn ((n:Int)-sn).toNat)).1,(rV (c.wl,c.wi) (upI sn ((n:Int)-sn).toNat)).2⟩
section
variable{cl:List Nat}{us:List jY}{sh:Sh}{q:dD}{ak:List El}{bq:List (BitVec 64)}{wl:List Int}{wi:List Bool}{wy:BitVec 64}
theorem asF(h:(n7 cl us sh q ak bq wl wi wy).ok=true):(n7 cl us sh q ak bq wl wi wy).wy=wy:=by
 unfold n7 at h⊢
 split
 .rfl
 rename_i h1
 rw[aT h1]at h
 split
 .rename_i h2
  rw[aX h2]at h
  split
  .rfl
  rename_i h3;rw[aT h3]at h;cases h
 split<;>rfl
theorem asG(h:(n7 cl us sh q ak bq wl wi wy).ok=false):(n7 cl us sh q ak bq wl wi wy).ak=ak/\(n7 cl us sh q ak bq wl wi wy).bq=bq:=by
 unfold n7 at h⊢
 split
 .exact⟨rfl,rfl⟩
 rename_i h1
 rw[aT h1]at h
 split
 .split<;>exact⟨rfl,rfl⟩
 rename_i h2
 rw[aT h2]at h
 split
 .exact⟨rfl,rfl⟩
 rename_i h3;rw[aT h3]at h;cases h
theorem aiQ{b n k:Nat}(hu:∀k:Nat,k<us.length->∀i∈(us.getD k de).l,0<=i/\i<b)(hl:cl.length=us.length)(h:Qu b n k ⟨ak,bq,wl,wi⟩):
  Qu b n k ⟨(n7 cl us sh q ak bq wl wi wy).ak,(n7 cl us sh q ak bq wl wi wy).bq,(n7 cl us sh q ak bq wl wi wy).wl,(n7 cl us sh q ak bq wl wi wy).wi⟩:=by
 unfold n7
 split
 .exact h
 split
 .split<;>exact h
 split
 .exact h
 exact⟨by simp only[lkR,yS,jd];exact h.lv,by simp only[lkR,jd];exact h.ly,by simp only[lkR,KY];exact h.li,h.wq.ye hu h.li fun q hq=>by have:=mM hq;omega⟩
end
theorem Qu.take{b n k:Nat}{ak:List El}{bq:List (BitVec 64)}{x:Int}{wl:List Int}{wi:List Bool}(h:Qu b n k ⟨ak,bq,x::wl,wi⟩):(0<=x/\x<b)/\Qu b n k ⟨ak,bq,wl,wi.set x.toNat false⟩:=by
 have hx:=((h.wq.mem x).1 aJ).1
 have hl:=h.li
 simp only at hx hl
 exact⟨J,h.lv,h.ly,by simp only[nY];exact hl,h.wq.take⟩
theorem asH{b n k:Nat}{c:yU}(h:Qu b n k c){sn:Int}(h0:0<=sn):Qu b n k (VZ c sn b):=by
 have hl:∀i∈upI sn ((b:Int)-sn).toNat,0<=i/\i<(c.wi.length:Int):=fun i hi=>by
  obtain⟨j,hj,rfl⟩:=fZ.1 hi
  have:=qq.1 hj
  have:=h.li
  omega
 exact⟨h.lv,h.ly,(yR).trans h.li,h.wq.rV hl⟩
theorem aei{f:Value}{s:NP}{k:Int}:iN [(f,.seen s.sn)] s {s with sn:=k}:=iN.one O trivial
def SpR(cl:List Nat)(us:List jY)(aq:List pO)(qs:List dD)(s:yU)(ok:Bool)(wy wy':BitVec 64):Prop:=
 (ok=true/\s.wl=[]/\wy'=wy)\/(ok=false/\∃x wl,s.wl=x::wl/\(n7 cl us (aq.getD (qs.getD x.toNat cX).a8.toNat pQ).p.sh (qs.getD x.toNat cX) s.ak s.bq wl (s.wi.set x.toNat false) wy).ok=false/\wy'=(n7 cl us (aq.getD (qs.getD x.toNat cX).a8.toNat pQ).p.sh (qs.getD x.toNat cX) s.ak s.bq wl (s.wi.set x.toNat false) wy).wy)
theorem anq{b n k:Nat}{c:yU}(h:Qu b n k c){l:List Int}(hl:∀i∈l,0<=i/\i<(b:Int)):Qu b n k ⟨c.ak,c.bq,(rV (c.wl,c.wi) l).1,(rV (c.wl,c.wi) l).2⟩:=
 ⟨h.lv,h.ly,(yR).trans h.li,h.wq.rV fun i hi=>by have:=hl i hi;have:=h.li;omega⟩
theorem IY(n:Nat):uW [] (List.replicate n false):=by grind[uW]
theorem asI{cs:List (List Nat)}{us:List jY}{aq:List pO}{a8:List Int}{qs:List dD}{sn:Int}{ak:List El}{bq:List (BitVec 64)}(hl:(bB cs).length=us.length)(hu:∀k:Nat,k<us.length->∀i∈(us.getD k de).l,0<=i/\i<(qs.length:Int))(hn:ak.length=us.length):
 Qu qs.length ak.length bq.length (sU cs us aq a8 qs sn ak.length ⟨ak,bq,[],List.replicate qs.length false⟩).s:=by grind[Qu,IY,sU,ZE,xo]
theorem anr{cs:List (List Nat)}{us:List jY}{aq:List pO}{a8:List Int}{qs:List dD}{sn:Int}{n:Nat}{s:yU}:(bB (sU cs us aq a8 qs sn n s).cs).length=(bB cs).length:=by grind[sU,xo]
theorem axr{cs:List (List Nat)}{us:List jY}{aq:List pO}{a8:List Int}{qs:List dD}{sn:Int}{n:Nat}{s:yU}:(sU cs us aq a8 qs sn n s).j<=(bB cs).length*n:=by grind[sU,ZD,bB,s3,pw,cz,xo]
theorem abU:∀(l:List my) (s:NP) (y:BitVec 64),(∀c∈l,IW c)->D3 l {s with wy:=y}={D3 l s with wy:=y}/\(okB l s->okB l {s with wy:=y})
 |[],s,y,_=>⟨rfl,fun h=>h⟩
 |c::l,s,y,h=>by
  have e:wj c {s with wy:=y}={wj c s with wy:=y}/\(okN c s->okN c {s with wy:=y}):=by
   have:=h c aJ
   cases c<;>first|exact this.elim|exact⟨rfl,fun h=>h⟩
  have ih:=abU l (wj c s) y fun c hc=>h c (fX _ hc)
  refine⟨?_,fun⟨h1,h2⟩=>⟨e.2 h1,?_⟩⟩
  .show D3 l (wj c {s with wy:=y})=_
   rw[e.1];exact ih.1
  show okB l (wj c {s with wy:=y})
  rw[e.1];exact ih.2 h2
theorem iN.wy{new:List (Value×my)}{s s':NP}(h:iN new s s')(hr:∀x∈new,IW x.2)(y:BitVec 64):iN new {s with wy:=y} {s' with wy:=y}:=by grind[my,NP,iN,IW,abU]
theorem pL.Ev{T:UT}{F:Nat}{L L':List bu}{x:Value×jQ}(h:pL T F L x)(hs:∀b o,bu.blk b o∈L->bu.blk b o∈L'):pL T F L' x:=by
 obtain⟨v,u⟩:=x
 cases u with
 |add n=>obtain⟨b1,b2,h1,h2,h3⟩:=h;exact⟨b1,b2,h1,hs _ _ h2,hs _ _ h3⟩
 |set i b=>obtain⟨b1,b2,b3,h1,h2,h3,h4⟩:=h;exact⟨b1,b2,b3,h1,hs _ _ h2,hs _ _ h3,hs _ _ h4⟩
theorem xn.Ev{T:FTy}{F m:Nat}{cs:List (List Nat)}{vW vU:Value}{cW cU:Option (Nat×Array Value)}{W:List (BitVec 64)}{ul:List (Value×jQ)}{ts:List Int}{cn:Int}{L L':List bu}(h:xn T F m cs vW vU cW cU W ul ts cn L)(hs:∀b o,bu.blk b o∈L->bu.blk b o∈L'):xn T F m cs vW vU cW cU W ul ts cn L':=by
 obtain⟨tn,e,i⟩:=h.fo
 exact⟨⟨tn,e,i.hW,i.hU,i.hs,i.ok,fun x hx=>(i.un x hx).Ev hs,i.lu,i.lt⟩,h.cn⟩
theorem nh.Ev{T:NTy}{n:Nat}{L L':List bu}{x:Value×my}(h:nh T n L x)(hs:∀b o,bu.blk b o∈L->bu.blk b o∈L'):nh T n L' x:=by
 obtain⟨v,c⟩:=x
 cases c with
 |a8 i=>obtain⟨b1,b2,h0,h1,h2⟩:=h;exact⟨b1,b2,h0,hs _ _ h1,hs _ _ h2⟩
 |var i m=>obtain⟨b1,b2,b3,h0,h1,h2,h3⟩:=h;exact⟨b1,b2,b3,h0,hs _ _ h1,hs _ _ h2,hs _ _ h3⟩
 |add i q=>obtain⟨b1,b2,b3,h0,h1,h2,h3⟩:=h;exact⟨b1,b2,b3,h0,hs _ _ h1,hs _ _ h2,hs _ _ h3⟩
 |raise v was had=>obtain⟨b1,b2,b3,b4,h0,h1,h2,h3,h4⟩:=h;exact⟨b1,b2,b3,b4,h0,hs _ _ h1,hs _ _ h2,hs _ _ h3,hs _ _ h4⟩
 |merge m=>obtain⟨b1,b2,h0,h1,h2⟩:=h;exact⟨b1,b2,h0,hs _ _ h1,hs _ _ h2⟩
 |seen was=>obtain⟨b1,b2,h0,h1,h2⟩:=h;exact⟨b1,b2,h0,hs _ _ h1,hs _ _ h2⟩
 |stuck=>obtain⟨b1,h0,h1⟩:=h;exact⟨b1,h0,hs _ _ h1⟩
theorem S2{t:TypeId}{gs:List jY}{A B:List bu}{b:Nat}{o:Obj}(h:bu.blk b o∈A++(gs.map (dQ t)++B)):bu.blk b o∈A++B:=by
 rcases fg.1 h with q|q
 .exact dL _ q
 rcases fg.1 q with q|q
 .obtain⟨x,_,e⟩:=fZ.1 q
  cases e
 exact bH _ q
end
end Go.Proofs.YtlhjdflgjbkpmaaGreatDoor.E

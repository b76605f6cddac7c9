/- Part 3 of the proof of FlowWhy: its plain laws and the walks of its functions. -/
import Derived.Test.YtlhjdflgjbkpmaaGreatDoorFlowWhyPartB
set_option linter.all false
namespace Go.Proofs.YtlhjdflgjbkpmaaGreatDoor.E
section
open Go Go.RowKit Go.Proofs.YtlhjdflgjbkpmaaGreatDoor.M
structure NF where
 vL:Value
 vt:Value
 vv:Value
 vy:Value
 vu:Value
 vq:Value
 vW:Value
 vU:Value
 vT:Value
 cn:Int
 vd:Value
 vm:Value
 cW:Option (Nat×Array Value)
 cU:Option (Nat×Array Value)
 W:List (BitVec 64)
 ul:List (Value×jU)
 ts:List Int
 us:List j5
def ZT:Value×mE:=(.tuple #[],.stuck)
def C1(lg:List (Value×mE))(k:Nat):List mE:=((lg.drop k).map Prod.snd).reverse
theorem QK{lg:List (Value×mE)}{k:Nat}(h:k<lg.length):C1 lg k=C1 lg (k+1)++[(lg.getD k ZT).2]:=by grind[C1,List.drop_eq_getElem_cons,List.reverse_cons,getD_eq]
theorem ai8{lg:List (Value×mE)}{k:Nat}(h:lg.length<=k):C1 lg k=[]:=by simp_all[C1]
theorem Wl{lg new:List (Value×mE)}:C1 (lg++new) lg.length=(new.map Prod.snd).reverse:=by grind[C1]
theorem aeC{lg:List (Value×mE)}{s:NP}{k:Nat}(h:k<lg.length):Ek (C1 lg k) s=wx (lg.getD k ZT).2 (Ek (C1 lg (k+1)) s):=by
 rw[QK h,Wb];rfl
theorem anN{lg:List (Value×mE)}{s:NP}{o k:Nat}(ho:o<=k)(hk:k<lg.length)(h:okB (C1 lg o) s):okN (lg.getD k ZT).2 (Ek (C1 lg (k+1)) s):=by
 have e:C1 lg o=C1 lg k++(((lg.drop o).take (k-o)).map Prod.snd).reverse:=by
  unfold C1
  rw[<-List.reverse_append,<-gP]
  congr 2
  rw[show lg.drop k=(lg.drop o).drop (k-o)by rw[RK,show o+(k-o)=k by omega],HP]
 rw[e,Ti,QK hk,Ti]at h
 exact h.1.2.1
theorem Le.zb{K:Vu}{Z Z':List bu}(h:∀b o,bu.blk b o∈Z->bu.blk b o∈Z'):Le (Kz K Z) (Kz K Z'):=fun b o hb=>hb.imp id (h b o)
structure Em(s:NP):Prop where
 QL:s.bp.length=s.ak.length
 O4:s.us.length=s.ak.length
 oF:(bB s.cs).length=s.ak.length
 QM:s.ak.length<=1000
 XB:0<=s.sn/\s.sn<=s.qs.length
 hqn:s.qs.length<=1000
 hqo:ZS s.aq.length s.ak.length s.qs
 hlt:s.bf.length=s.ak.length
 hlr:∀k:Nat,k<s.bf.length->0<=s.bf.getD k 0/\s.bf.getD k 0<s.aq.length
 yp:∀k:Nat,k<s.us.length->(s.us.getD k []).length<=1000/\∀i∈s.us.getD k [],0<=i/\i<(s.qs.length:Int)
theorem Hp.ZU{w0 w:World}{A Zf Lb E U L:List bu}(h:Hp w0 w (A++(Zf++(Lb++(E++(U++L)))))):Hp w0 w (A++(U++(Zf++(Lb++(E++L))))):=by
 refine h.perm (vp A ?_)
 rw[show Zf++(Lb++(E++(U++L)))=((Zf++(Lb++E))++U)++L by simp only[dH],show U++(Zf++(Lb++(E++L)))=(U++(Zf++(Lb++E)))++L by simp only[dH]]
 exact List.Perm.append_right L uq
theorem C2{us:List j5}{k:Nat}:(qu us).getD k []=(us.getD k de).l:=by grind[j5,qu,de]
theorem Wm{s:NP}(h:Em s){us:List j5}(hu:qu us=s.us){t:TypeId}{L:List bu}:∀k:Nat,k<us.length->dS t (us.getD k de)∈us.map (dS t)++L/\(us.getD k de).l.length<=1000/\∀i∈(us.getD k de).l,0<=i/\i<(s.qs.length:Int):=fun k hk=>by
 have e:=C2 (us:=us) (k:=k)
 rw[hu]at e
 have:=h.yp k (by rw[<-hu,gz];exact hk)
 rw[e]at this
 refine⟨dI _ (fN.2 ⟨us.getD k de,?_,rfl⟩),this⟩
 rw[getD_eq hk]
 exact qD hk
theorem ab9{lg new:List (Value×mE)}{k:Int}(h1:(lg.length:Int)<=k)(h2:k<(lg++new).length):(lg++new).getD k.toNat ZT∈new:=by grind
theorem Wn{t:TypeId}{gs:List j5}{A E B:List bu}{b:Nat}{o:Obj}(h:bu.blk b o∈A++(E++(gs.map (dS t)++B))):bu.blk b o∈A++(E++B):=by grind[Tk]
theorem ZV{f:Value}{s:NP}{y:BitVec 64}(h1:s.sk=false)(h2:s.wy=0):iO [(f,.stuck)] s {s with sk:=true,wy:=y}:=by
 refine iO.one ?_ trivial
 obtain⟨a,b,c,d,e,f,g,h,i,j,k⟩:=s
 simp only at h1 h2
 subst h1;subst h2;rfl
def aja:Value->Bool
 | .nilFunc=>false
 |_=>true
section
variable{P:Program}{σ:Env}{w w':World}{dst:Option Tmp}{t ty u:TypeId}{pos:String}{bO:Array Edge}{g:Option (Nat×Bool)}{x y:Operand}{v:Value}
theorem aeD(d:Nat){ps rs:Array TypeId}{vr:Bool}(ht:P.underlying t=some (.func ps rs vr)):(Op.equalIn (d+1) t .nilFunc .nilFunc).run P w= .ok true w:=by
 simp[Op.equalIn,kP ht]
theorem aeE{ps rs:Array TypeId}{vr:Bool}(hv:v= .nilFunc\/∃f c,v=jO f c)(ht:P.underlying t=some (.func ps rs vr))(hx:ev σ x=v)(hy:ev σ y= .nilFunc):
  (execOp (ev σ) ⟨dst,.binOp .neq t x y u,ty,pos,bO,g⟩).run P w= .ok (.value (.bool (aja v))) w:=by
 rcases hv with rfl|⟨f,c,rfl⟩
 .have h:(binOp .neq t .nilFunc .nilFunc).run P w= .ok (.bool false) w:=by
   simp only[binOp];simp[Op.equal,Op.maxDepth,aeD 9999 ht]
  have he:(eqGuard .neq t x y .nilFunc .nilFunc)=pure ():=rfl
  simp only[execOp,hx,hy,he];simp[h,aja]
 exact VU ht hx hy
end
theorem G9{T:O3}{K:Vu}{ids:List Nat}{tl:List (Nat×Rl)}{x:pY}(h:XD T K ids tl x):∀u∈(XC x).toArray,u.oneCell'=true:=by
 intro u hu
 obtain⟨f,g,k,a,b,c,e1,e2,e3⟩:=h.ops.one
 simp only[XC,yj,LF,c8,fh,HU,Ck]at hu
 rcases hu with(rfl|rfl)|(rfl|rfl|rfl)|hu
 .rfl
 .exact(jG h.zH.a6).1
 .rw[e1];rfl
 .rw[e2];rfl
 .rw[e3];rfl
 exact uZ x.low u pz
theorem QO{P p:kW}(h:P.sh=⟨true,Bj [p]⟩):P.a6.map qI.fc=p.a6.map qI.fc:=by
 have hq:=aK Sh.a6 h
 simp only[Bj,uM,List.flatMap_nil,mG]at hq
 exact hq
theorem anO{P p:kW}(h:P.sh=⟨true,Bj [p]⟩)(h1:p.a6.length<=1000)(h2:∀f∈p.a6,f.names.length<=1000):P.a6.length<=1000/\∀f∈P.a6,f.names.length<=1000:=by
 have hq:=QO h
 refine⟨?_,fun f hf=> ?_⟩
 .have:=aK List.length hq;rw[gA,gA]at this;omega
 have hm:f.fc∈p.a6.map qI.fc:=hq▸fN.2 ⟨f,hf,rfl⟩
 obtain⟨f2,h3,e⟩:=fN.1 hm
 have:=h2 f2 h3
 have e2:f2.names=f.names:=aK Fc.names e
 rwa[e2]at this
theorem Wo{f:Value}{s:NP}{x:pY}:iO [(f,.bf s.aq.length)] s {s with aq:=s.aq++[x]}:=
 iO.one (by simp only[wx];rw[vC]) (by show s.aq.length<=(s.aq++[x]).length;simp)
theorem Hp.us2{w0 w:World}{A Z B C U L:List bu}(h:Hp w0 w (A++(Z++(B++(C++(U++L)))))):Hp w0 w (A++(U++(Z++(B++(C++L))))):=h.perm (vp A (by
 rw[show Z++(B++(C++(U++L)))=(Z++(B++C))++(U++L)by simp only[dH],show U++(Z++(B++(C++L)))=U++((Z++(B++C))++L)by simp only[dH]]
 exact xf _ _ _))
theorem Hp.us3{w0 w:World}{A Z B C D U L:List bu}(h:Hp w0 w (A++(Z++(B++(C++(D++(U++L))))))):Hp w0 w (A++(U++(Z++(B++(C++(D++L)))))):=h.perm (vp A (by
 rw[show Z++(B++(C++(D++(U++L))))=(Z++(B++(C++D)))++(U++L)by simp only[dH],show U++(Z++(B++(C++(D++L))))=U++((Z++(B++(C++D)))++L)by simp only[dH]]
 exact xf _ _ _))
theorem Hp.us4{w0 w:World}{A Z B C D E U L:List bu}(h:Hp w0 w (A++(Z++(B++(C++(D++(E++(U++L)))))))):Hp w0 w (A++(U++(Z++(B++(C++(D++(E++L))))))):=h.perm (vp A (by
 rw[show Z++(B++(C++(D++(E++(U++L)))))=(Z++(B++(C++(D++E))))++(U++L)by simp only[dH],show U++(Z++(B++(C++(D++(E++L)))))=U++((Z++(B++(C++(D++E))))++L)by simp only[dH]]
 exact xf _ _ _))
theorem Wf.snoc{T:O3}{K:Vu}{ids:List Nat}{tl:List (Nat×Rl)}{l:List pY}{x:pY}(h:Wf T K ids tl l)(hx:XD T K ids tl x):Wf T K ids tl (l++[x]):=fun y hy=>by
 rcases fh.1 hy with q|q
 .exact h y q
 rw[gG.1 q];exact hx
theorem ajb{K:Vu}{p:kW}(h:lm K p):∀u∈(yj p).toArray,u.oneCell'=true:=by
 intro u hu
 simp only[yj,LF,c8,HU,Ck]at hu
 rcases hu with rfl|rfl
 .rfl
 exact(jG h.a6).1
theorem ate(x:pY):((XC x).drop 5).take 8=pM x.low:=by
 show(pM x.low).take 8=_
 exact jg (by rw[cY];exact eu _)
def shL(aq:List pY)(k:Int):Sh:=(aq.getD k.toNat p5).p.sh
def ofB(bf:List Int)(v x:Int):Bool:=decide (0<=v/\v<bf.length/\bf.getD v.toNat 0=x)
def FV(aq:List pY)(bf:List Int)(k:Int)(x:dX):Bool:=(!decide (x.op=1)||ofB bf x.n k)&&(!decide (x.op=2)||cI (shL aq k) x.c)
def NE(aq:List pY)(bf:List Int)(k:Int)(t:iS):Bool:=if t.var<0 then cI (shL aq k) t.c else ofB bf t.var k
def wY(aq:List pY)(bf:List Int)(k:Int)(l:List dX)(t:iS):Bool:=decide (0<=k/\k<aq.length)&&fY l&&(l.all (FV aq bf k)&&NE aq bf k t)
section
variable{aq:List pY}{bf:List Int}{k q:Int}{l:List dX}{t:iS}{x:dX}
theorem NG(h:¬(0<=k/\k<aq.length)):wY aq bf k l t=false:=by grind[wY]
theorem ajc(h:fY l=false):wY aq bf k l t=false:=by grind[wY]
theorem Wp(h0:0<=q)(h1:q<l.length)(h:FV aq bf k (l.getD q.toNat bG)=false):wY aq bf k l t=false:=by grind[FV,dy,wY]
theorem NH(h1:0<=k/\k<aq.length)(h2:fY l=true)(h3:¬q<l.length)(hg:∀j:Int,0<=j->j<q->FV aq bf k (l.getD j.toNat bG)=true):wY aq bf k l t=NE aq bf k t:=by grind[FV,List.all_eq_true,List.mem_iff_getElem,Int.toNat_natCast,getD_eq,wY]
theorem ajd(h:x.op=1)(h2:¬(0<=x.n/\x.n<bf.length/\bf.getD x.n.toNat 0=k)):FV aq bf k x=false:=by grind[FV,ofB]
theorem aje(h:x.op=2)(h2:cI (shL aq k) x.c=false):FV aq bf k x=false:=by grind[FV]
theorem C3(h1:¬x.op=1\/(0<=x.n/\x.n<bf.length/\bf.getD x.n.toNat 0=k))(h2:¬x.op=2\/cI (shL aq k) x.c=true):FV aq bf k x=true:=by grind[ofB,cI,shL,FV]
theorem anP(h:t.var<0):NE aq bf k t=cI (shL aq k) t.c:=aY h
theorem anQ(h:¬t.var<0):NE aq bf k t=decide (0<=t.var/\t.var<bf.length/\bf.getD t.var.toNat 0=k):=aW h
end
theorem NJ{α:Type}{l:List α}{a d:α}{i:Nat}:(l++[a]).getD i d=if i<l.length then l.getD i d else if i=l.length then a else d:=by grind
theorem oK{α:Type}{l:List α}{a d:α}{i:Nat}(h:i<l.length):(l++[a]).getD i d=l.getD i d:=by grind
theorem s6{α:Type}{l:List α}{a d:α}{i:Nat}(h:i=l.length):(l++[a]).getD i d=a:=by grind
def qZ(s:NP)(l:Int)(e:El):NP:={s with bf:=s.bf++[l],ak:=s.ak++[e],bp:=s.bp++[0],us:=s.us++[[]],cs:=S9 s.cs}
def FW(i:Int)(u:List (List Int))(v:Int):List (List Int):=u.set v.toNat (u.getD v.toNat []++[i])
theorem p7{i:Int}:∀{l:List Int} {u:List (List Int)},(l.foldl (FW i) u).length=u.length
 |[],u=>rfl
 |v::l,u=>by rw[pq,p7];simp[FW]
theorem C4{i:Int}:∀{l:List Int} {u:List (List Int)} {k:Nat},l.Nodup->(∀v∈l,0<=v/\v<u.length)->(l.foldl (FW i) u).getD k []=u.getD k []++if(k:Int)∈l then[i]else[]
 |[],u,k,_,_=>by simp
 |v::l,u,k,hn,hl=>by
  obtain⟨n1,n2⟩:=ow.1 hn
  have h0:=hl v aJ
  rw[pq,C4 n2 fun x hx=>by have:=hl x (gd _ hx);simp only[FW,n8];exact this]
  unfold FW
  rw[eV,qh]
  by_cases c:v.toNat=k
  .have e:(k:Int)=v:=J
   rw[aY c,aY J,e,aW n1,aY aJ,mG,c];rfl
  have e:¬(k:Int)=v:=J
  rw[aW c,<-eV]
  congr 1
  simp only[c8,e,false_or]
def BL(s:NP)(q:dD):NP:={s with qs:=s.qs++[q],us:=q.vars.foldl (FW s.qs.length) s.us}
theorem ajf{cs:List (List Nat)}(h:0<cs.length):(CS (S9 cs) ((cs.length:Int)-1)).1=cs:=by
 unfold CS S9
 rw[aW ya,show((bB cs++[(bB cs).length])::cs).length-1-(max 0 ((cs.length:Int)-1)).toNat=1 by simp only[eG];omega]
 rfl
theorem ajg{f:Value}{s:NP}{l:Int}{e:El}(h1:s.bf.length=s.ak.length)(h2:s.bp.length=s.ak.length)(h3:s.us.length=s.ak.length)(h4:0<s.cs.length):iO [(f,.var s.ak.length ((s.cs.length:Int)-1))] s (qZ s l e):=by
 refine iO.one ?_ ⟨by simp[qZ];omega,by simp[qZ],by simp[qZ];omega,by simp[qZ];omega⟩
 simp only[wx,qZ]
 rw[ajf h4,vC,show(s.bf++[l]).take s.ak.length=s.bf by rw[<-h1,vC],show(s.bp++[(0:BitVec 64)]).take s.ak.length=s.bp by rw[<-h2,vC],show(s.us++[([]:List Int)]).take s.ak.length=s.us by rw[<-h3,vC]]
theorem Hp.aER{w0 w:World}{A B U R L:List bu}{x:bu}(h:Hp w0 w (x::(A++(B++((U++R)++L))))):Hp w0 w (A++((U++[x])++(R++(B++L)))):=by
 refine h.perm ((Fg (l₁:=A)).symm.trans (vp A ?_))
 have h1:(B++((U++R)++L)).Perm (U++(R++(B++L))):=by
  rw[<-dH U R]
  exact xf _ _ _
 refine(h1.cons x).trans ?_
 rw[dH]
 exact Fg.symm
theorem ajh{us:List j5}{u:List (List Int)}(h:qu us=u):qu (us++[de])=u++[[]]:=by grind[qu,de]
theorem NK(l:List dX):∀u∈l.flatMap kq,u.oneCell'=true:=by grind[we]
theorem aeF{aq:List pY}{bf:List Int}{k:Int}{l:List dX}{t:iS}(h:wY aq bf k l t=true):∀v∈dB l,0<=v/\v<bf.length:=by grind[s4,wY,FV,ofB]
theorem Wq(l:List dX):(dB l).Nodup:=(Ny l).imp fun h=>by omega
theorem Jb:∀{l:List Int} {u:List (List Int)},(l.foldl G7 u).length=u.length
 |[],u=>rfl
 |v::l,u=>by rw[pq,Jb];simp[G7]
theorem QR:∀{l:List Int} {u:List (List Int)} {k:Nat},l.Nodup->(∀v∈l,0<=v/\v<u.length)->(l.foldl G7 u).getD k []=if(k:Int)∈l then(u.getD k []).dropLast else u.getD k []
 |[],u,k,_,_=>by simp
 |v::l,u,k,hn,hl=>by
  obtain⟨n1,n2⟩:=ow.1 hn
  have h0:=hl v aJ
  rw[pq,QR n2 fun x hx=>by have:=hl x (gd _ hx);simp only[G7,n8];exact this]
  have e0:(G7 u v).getD k []=if v.toNat=k then(u.getD k []).dropLast else u.getD k []:=by
   unfold G7
   rw[eV,qh]
   by_cases c:v.toNat=k
   .rw[aY c,aY J,aY c,c];rfl
   rw[aW c,aW c,<-eV]
  rw[e0]
  by_cases c:v.toNat=k
  .have e:(k:Int)=v:=J
   rw[aY c,e,aW n1,aY aJ]
  have e:¬(k:Int)=v:=J
  rw[aW c]
  simp only[c8,e,false_or]
theorem aji{i:Int}{l:List Int}{u:List (List Int)}(hn:l.Nodup)(hl:∀v∈l,0<=v/\v<u.length):l.foldl G7 (l.foldl (FW i) u)=u:=by
 apply uu
 intro k
 by_cases c:k<u.length
 .have h1:=QR (k:=k) (u:=l.foldl (FW i) u) hn fun v hv=>by rw[p7];exact hl v hv
  rw[C4 hn hl]at h1
  have lk:k<(l.foldl G7 (l.foldl (FW i) u)).length:=by rw[Jb,p7];exact c
  rw[getD_eq lk,getD_eq c]at h1
  rw[eF lk,eF c,h1]
  by_cases q:(k:Int)∈l
  .rw[aY q,aY q,List.dropLast_concat]
  rw[aW q,aW q,mG]
 rw[ot (by rw[Jb,p7];omega),ot J]
theorem ajj{f:Value}{s:NP}{q:dD}(hn:q.vars.Nodup)(hl:∀v∈q.vars,0<=v/\v<s.us.length):iO [(f,.add s.qs.length q)] s (BL s q):=by
 refine iO.one ?_ ⟨by simp[BL],hn,fun v hv=> ?_⟩
 .simp only[wx,BL]
  rw[vC,aji hn hl]
 have h0:=hl v hv
 refine⟨h0.1,by simp only[BL];rw[p7];exact h0.2,?_⟩
 simp only[BL]
 rw[C4 hn hl,aY (by rw[gm h0.1];exact hv)]
 simp
theorem anR{i:Int}{l:List Int}{u:List (List Int)}{k b:Nat}(hn:l.Nodup)(hl:∀v∈l,0<=v/\v<u.length)(h:(u.getD k []).length<=b):((l.foldl (FW i) u).getD k []).length<=b+1:=by grind[C4]
theorem Hp.aES{w0 w:World}{A B U Q R L:List bu}(h:Hp w0 w (A++(B++(U++(Q++(R++L)))))):Hp w0 w (A++(U++(R++(B++(Q++L))))):=by
 refine h.perm (vp A ?_)
 refine(xf B U _).trans (vp U ?_)
 rw[<-dH,<-dH B Q L]
 exact xf _ _ _
structure mS(S:Sys)(Q:Nat->tT)(y:Nat->BitVec 64)(N:Nat)(M:Qm)(v:Va)(ws:Nat->BitVec 64)(rep:Nat->Nat)(P:Nat->Prop):Prop where
 ok:∀i,i<N->tU S (Q i)/\M (y i) (Q i)
 all:∀a q,M a q->∃i,i<N/\q=Q i
 mok:aev M
 low:CX S (fun q=>∃i,i<N/\q=Q i) v
 why:FR S M v ws
 ring:∀i k,i<S.n->k<S.n->rep i=rep k->S.sh i=S.sh k/\sx (v i) (v k)/\ws i=ws k/\qP S (M (ws i)) fun j=>j<S.n/\rep j=rep i
 hold:∀i,i<N->¬P i->fp (Q i) v
section
variable{S:Sys}{Q:Nat->tT}{y:Nat->BitVec 64}{N:Nat}{M:Qm}{v:Va}{ws:Nat->BitVec 64}{rep:Nat->Nat}{P P':Nat->Prop}{i k:Nat}{W:BitVec 64}
theorem qP.more{Q Q':tT->Prop}{C:Nat->Prop}(h:qP S Q C)(hq:∀q,Q q->Q' q):qP S Q' C:=fun u hu=>h u (hu.less hq)
theorem mS.ajk(h:mS S Q y N M v ws rep P)(hp:∀i,i<N->P i->P' i):mS S Q y N M v ws rep P':=⟨h.ok,h.all,h.mok,h.low,h.why,h.ring,fun i hi hn=>h.hold i hi fun q=>hn (hp i hi q)⟩
theorem mS.look(h:mS S Q y N M v ws rep P)(hh:fp (Q i) v):mS S Q y N M v ws rep fun j=>P j/\j≠i:=⟨h.ok,h.all,h.mok,h.low,h.why,h.ring,fun j hj hn=>by
 by_cases e:j=i
 .subst e;exact hh
 exact h.hold j hj fun q=>hn ⟨q,e⟩⟩
theorem mS.raise(h:mS S Q y N M v ws rep P)(hi:i<N)(hk:(Q i).to=some k)(hW1:ep (ws k) W=true)(hW2:ep (Pg (y i) ws (Q i).vars) W=true)
  (hP:∀j,j<N->j≠i->P j->P' j) (hU:∀j,j<N->∀x,x∈(Q j).vars->rep x=rep k->¬sx (v x) (eo (Q i).sh (v k) ((Q i).ev v))->P' j):
  mS S Q y N M (rO v (fun j=>j<S.n/\rep j=rep k) (eo (Q i).sh (v k) ((Q i).ev v))) (FT ws (fun j=>j<S.n/\rep j=rep k) W) rep P':=by
 obtain⟨ho,hy⟩:=h.ok i hi
 obtain⟨k1,k2⟩:=ho.to k hk
 have hmem:(fun q=>∃i,i<N/\q=Q i) (Q i):=⟨i,hi,rfl⟩
 have hr:=h.ring k k k1 k1 O
 have hl:=h.low.lub hmem ho hk
 have hRQ:qP S (fun q=>∃i,i<N/\q=Q i) fun j=>j<S.n/\rep j=rep k:=hr.2.2.2.more fun q hq=>h.all _ q hq
 have hsh:∀j,(j<S.n/\rep j=rep k)->S.sh j=S.sh k:=fun j hj=>(h.ring j k hj.1 k1 hj.2).1
 have aer:=h.low.ring hRQ (fun j hj=>hj.1) (k:=k) ⟨k1,rfl⟩ hsh hl.1 hl.2
 have atg:=h.why.raise h.mok h.low.fit ho hk hy hr.2.2.2 ⟨k1,rfl⟩ hW1 hW2
 have hup:∀j,j<S.n->cS (v j) (rO v (fun j=>j<S.n/\rep j=rep k) (eo (Q i).sh (v k) ((Q i).ev v)) j)=true:=fun j hj=>by
  unfold rO
  by_cases c:j<S.n/\rep j=rep k
  .rw[aY c]
   have e:=(h.ring j k hj k1 c.2).2.1
   have fk:=h.low.fit k k1
   rw[k2]at fk
   exact fH (lB e) (Y4 fk (ho.fit v h.low.fit)).1
  rw[aW c];exact kp _
 refine⟨h.ok,h.all,h.mok,aer,atg,fun a b ha hb hab=> ?_,fun j hj hn=> ?_⟩
 .have hra:=h.ring a b ha hb hab
  unfold rO FT
  by_cases c:a<S.n/\rep a=rep k
  .have c2:b<S.n/\rep b=rep k:=⟨hb,hab▸c.2⟩
   rw[aY c,aY c2,aY c,aY c2]
   refine⟨hra.1,fun _ _=>rfl,rfl,?_⟩
   have e:(fun j=>j<S.n/\rep j=rep a)=fun j=>j<S.n/\rep j=rep k:=by rw[c.2]
   rw[e]
   exact hr.2.2.2.more fun q hq=>h.mok _ _ _ hW1 hq
  have c2:¬(b<S.n/\rep b=rep k):=fun q=>c ⟨ha,hab.trans q.2⟩
  rw[aW c,aW c2,aW c,aW c2]
  exact hra
 have oj:=(h.ok j hj).1
 have hs:∀x,x∈(Q j).vars->cS (rO v (fun j=>j<S.n/\rep j=rep k) (eo (Q i).sh (v k) ((Q i).ev v)) x) (v x)=true:=fun x hx=>by
  unfold rO
  by_cases c:x<S.n/\rep x=rep k
  .rw[aY c]
   by_cases e:sx (v x) (eo (Q i).sh (v k) ((Q i).ev v))
   .exact lB fun q hq=>(e q hq).symm
   exact absurd (hU j hj x hx c.2 e) hn
  rw[aW c];exact kp _
 have hev:cS ((Q j).ev (rO v (fun j=>j<S.n/\rep j=rep k) (eo (Q i).sh (v k) ((Q i).ev v)))) ((Q j).ev v)=true:=oj.QE _ _ aer.fit h.low.fit hs
 by_cases e:j=i
 .subst e
  unfold fp tT.rhs
  rw[hk]
  have ek:rO v (fun j=>j<S.n/\rep j=rep k) (eo (Q j).sh (v k) ((Q j).ev v)) k=eo (Q j).sh (v k) ((Q j).ev v):=aY ⟨k1,rfl⟩
  show cS _ (rO v _ _ k)=true
  rw[ek]
  have fk:=h.low.fit k k1
  rw[k2]at fk
  exact fH hev (Y4 fk (ho.fit v h.low.fit)).2
 have hold:=h.hold j hj fun q=>hn (hP j hj e q)
 unfold fp tT.rhs at hold⊢
 cases ht:(Q j).to with
 |none=>rw[ht]at hold;exact fH hev hold
 |some x=>
  rw[ht]at hold
  exact fH hev (fH hold (hup x (oj.to x ht).1))
theorem mS.merge{C:Nat->Prop}[DecidablePred C]{e:El}{Ws:Nat->Nat}(h:mS S Q y N M v ws rep P)(hC:∀j,C j->j<S.n/\ep (ws j) W=true)(hsh:∀a b,C a->C b->S.sh a=S.sh b)(hr:qP S (M W) C)(hk:C k)(he:cI (S.sh k) e=true)
  (hlo:∀u,u7 S (M W) u->cS e (u k)=true) (hup:∀j,C j->cS (v j) e=true) (h2:∀a b,a<S.n->b<S.n->Ws a=Ws b->C a/\C b\/¬C a/\¬C b/\rep a=rep b)
  (hP:∀j,j<N->P j->P' j) (hU:∀j,j<N->∀x,x∈(Q j).vars->C x->¬sx (v x) e->P' j):mS S Q y N M (rO v C e) (FT ws C W) Ws P':=by
 have aer:=h.low.ring (hr.more fun q hq=>h.all _ q hq) (fun j hj=>(hC j hj).1) hk (fun j hj=>hsh j k hj hk) he fun u hu=>hlo u (hu.less fun q hq=>h.all _ q hq)
 have atg:FR S M (rO v C e) (FT ws C W):=h.why.ring h.mok hr hC fun u hu i hi=>fH (hlo u hu) (lB (hr u hu k i hk hi))
 have hle:∀j,cS (v j) (rO v C e j)=true:=fun j=>by
  unfold rO
  by_cases c:C j
  .rw[aY c];exact hup j c
  rw[aW c];exact kp _
 refine⟨h.ok,h.all,h.mok,aer,atg,fun a b ha hb hab=> ?_,fun j hj hn=> ?_⟩
 .unfold rO FT
  rcases h2 a b ha hb hab with⟨c1,c2⟩|⟨c1,c2,c3⟩
  .rw[aY c1,aY c2,aY c1,aY c2]
   refine⟨hsh a b c1 c2,fun _ _=>rfl,rfl,fun u hu i j hi hj=> ?_⟩
   have ci:C i:=(h2 i a hi.1 ha hi.2).elim (fun q=>q.1) fun q=>absurd c1 q.2.1
   have cj:C j:=(h2 j a hj.1 ha hj.2).elim (fun q=>q.1) fun q=>absurd c1 q.2.1
   exact hr u hu i j ci cj
  rw[aW c1,aW c2,aW c1,aW c2]
  obtain⟨r1,r2,r3,r4⟩:=h.ring a b ha hb c3
  refine⟨r1,r2,r3,fun u hu i j hi hj=> ?_⟩
  have ci:rep i=rep a:=(h2 i a hi.1 ha hi.2).elim (fun q=>absurd q.2 c1) fun q=>q.2.2
  have cj:rep j=rep a:=(h2 j a hj.1 ha hj.2).elim (fun q=>absurd q.2 c1) fun q=>q.2.2
  exact r4 u hu i j ⟨hi.1,ci⟩ ⟨hj.1,cj⟩
 have oj:=(h.ok j hj).1
 have hs:∀x,x∈(Q j).vars->cS (rO v C e x) (v x)=true:=fun x hx=>by
  unfold rO
  by_cases c:C x
  .rw[aY c]
   by_cases q:sx (v x) e
   .exact lB fun i hi=>(q i hi).symm
   exact absurd (hU j hj x hx c q) hn
  rw[aW c];exact kp _
 have hev:=oj.QE _ _ aer.fit h.low.fit hs
 have hold:=h.hold j hj fun q=>hn (hP j hj q)
 unfold fp tT.rhs at hold⊢
 cases ht:(Q j).to with
 |none=>rw[ht]at hold;exact fH hev hold
 |some x=>rw[ht]at hold;exact fH hev (fH hold (hle x))
theorem mS.more(h:mS S Q y N M v ws rep P){M':Qm}(ho:tU S (Q N))(hy:M' (y N) (Q N))(hM:aev M')(h1:∀a q,M a q->M' a q)(h2:∀a q,M' a q->∃i,i<N+1/\q=Q i)(hs:FR S M v ws)(hN:P' N)(hp:∀i,i<N->P i->P' i):mS S Q y (N+1) M' v ws rep P':=by
 refine⟨fun i hi=> ?_,h2,hM,h.low.more fun q ⟨i,hi,e⟩=>⟨i,J,e⟩,fun k hk u hu=>hs k hk u (hu.less fun q hq=>h1 _ q hq),fun i k hi hk e=> ?_,fun i hi hn=> ?_⟩
 .by_cases e:i=N
  .subst e;exact⟨ho,hy⟩
  exact⟨(h.ok i J).1,h1 _ _ (h.ok i J).2⟩
 .obtain⟨a,b,c,d⟩:=h.ring i k hi hk e
  exact⟨a,b,c,d.more fun q hq=>h1 _ q hq⟩
 by_cases e:i=N
 .subst e;exact absurd hN hn
 exact h.hold i J fun q=>hn (hp i J q)
theorem mS.start(hM:∀a q,¬M a q)(hs:∀i,i<S.n->mJ (S.sh i)=true)(hv:∀i,i<S.n->v i=gI (S.sh i) ez):mS S Q y 0 M v ws id P:=
 ⟨fun i hi=>J,fun a q h=>absurd h (hM a q),fun a b q _ h=>absurd h (hM a q),ab2 hs hv,fun k hk u hu=>by rw[hv k hk];exact(P8 (hs k hk)).2 _ (hu.fit k hk),
  fun i k hi hk e=>by have:i=k:=e;subst this;exact⟨rfl,fun _ _=>rfl,rfl,fun u hu a b ha hb=>by have e1:a=i:=ha.2;have e2:b=i:=hb.2;rw[e1,e2];exact fun _ _=>rfl⟩,fun i hi=>J⟩
theorem mS.done(h:mS S Q y N M v ws rep fun _=>False):nU S (fun q=>∃i,i<N/\q=Q i) v/\∀i,i<N->fp (Q i) v:=
 ⟨⟨h.low,fun q ⟨i,hi,e⟩ _=>e▸h.hold i hi id⟩,fun i hi=>h.hold i hi id⟩
theorem mS.stuck(h:mS S Q y N M v ws rep P)(hi:i<N)(hk:(Q i).to=none)(hf:¬fp (Q i) v):(∀u,u7 S (fun q=>∃i,i<N/\q=Q i) u->¬fp (Q i) u)/\∀u,u7 S (M (Pg (y i) ws (Q i).vars)) u->¬fp (Q i) u:=
 ⟨h.low.ap4 (h.ok i hi).1 hk hf,h.why.stuck h.mok h.low.fit (h.ok i hi).1 hk hf⟩
end
theorem anS{E:Nat->Nat->Prop}{u:Va}{a b:Nat}(hE:∀x y,E x y->cS (u x) (u y)=true)(h:j6 E a b):cS (u a) (u b)=true:=by
 induction h with
 |refl=>exact kp _
 |step _ e ih=>exact fH ih (hE _ _ e)
section
variable{S:Sys}{Q:tT->Prop}
structure FY(S:Sys)(q:tT)(x y:Nat):Prop where
 to:q.to=some y
 ev:∀u,qv S u->sx (q.ev u) (u x)
theorem ajl{C:Nat->Prop}(h:∀i k,C i->C k->j6 (fun a b=>(∃q,Q q/\FY S q a b)\/∃D,D a/\D b/\qP S Q D) i k):qP S Q C:=qP.of fun u hu i k hi hk=>anS (fun x y e=>by
 rcases e with⟨q,hq,hp⟩|⟨D,hx,hy,hD⟩
 .have h1:=hu.hold q hq (by rw[hp.to];simp)
  unfold fp tT.rhs at h1
  rw[hp.to]at h1
  exact fH (lB fun i hi=>(hp.ev u hu.fit i hi).symm) h1
 exact lB (hD u hu x y hx hy)) (h i k hi hk)
theorem ZW{q:tT}{x y:Nat}{v:Va}(hp:FY S q x y)(hv:qv S v)(he:sx (v x) (v y)):fp q v:=by
 unfold fp tT.rhs
 rw[hp.to]
 exact fH (lB (hp.ev v hv)) (lB he)
theorem NL{sh:Sh}{n:Nat}{x:dX}{to:iS}(h1:x.op=1)(h0:0<=x.n/\x.n<n)(h2:0<=to.var):FY S (CY n sh [x] to) x.n.toNat to.var.toNat:=by
 refine⟨by unfold CY;simp;omega,fun u hu=> ?_⟩
 have hr:fY [x]=true:=by
  unfold fY jt
  simp[xu,h1]
 have hs:ir sh ((List.range n).map u) [x] (([x]:List dX).length:Nat)=some ([]++[((List.range n).map u).getD x.n.toNat df]):=
  ahP (s:=sh) (v:=(List.range n).map u) (l:=[x]) (st:=[]) (k:=0) J aJ O h1 ⟨h0.1,by simpa using h0.2⟩
 show sx (eA sh [x] ((List.range n).map u)).1 (u x.n.toNat)
 rw[Nb hr (k:=(([x]:List dX).length:Nat)) J J hs]
 simp only[eR,List.getD_cons_zero]
 rw[qQ J]
 exact fun _ _=>rfl
end
def kH(aq:List pY)(bf:List Int)(n:Nat):Sys:=⟨n,fun i=>(aq.getD (bf.getD i 0).toNat p5).p.sh⟩
def zI(aq:List pY)(q:dD):Sh:=(aq.getD q.bf.toNat p5).p.sh
def uS(aq:List pY)(n:Nat)(q:dD):tT:=CY n (zI aq q) q.code q.to
def vQ(ak:List El):Va:=fun i=>ak.getD i df
def wQ(ws:List (BitVec 64)):Nat->BitVec 64:=fun i=>ws.getD i 0
def O5(aq:List pY)(n:Nat)(qs:List dD):Qm:=fun a q=>∃i,i<qs.length/\q=uS aq n (qs.getD i cX)/\ep (qs.getD i cX).why a=true
def Wt(aq:List pY)(bf:List Int)(n:Nat)(qs:List dD):Prop:=∀q∈qs,ZM (kH aq bf n) (zI aq q) q.code q.to/\q.vars=dB q.code
def yq(qs:List dD)(k:Nat):List Int:=((List.range qs.length).filter fun i=>decide ((k:Int)∈(qs.getD i cX).vars)).map fun i:Nat=>(i:Int)
abbrev Tl(aq:List pY)(n:Nat)(qs:List dD):Nat->Nat:=V5 (qs.map (uS aq n))
def muN(aq:List pY)(bf:List Int)(n:Nat)(qs:List dD)(c:za):Nat:=c.wl.length+(pG (kH aq bf n) (Tl aq n qs) (vQ c.ak) n).toNat
section
variable{S:Sys}{v:Va}{e:El}{C D:Nat->Prop}
theorem NM[DecidablePred C][DecidablePred D](h:∀i,C i↔D i):rO v C e=rO v D e:=by grind[rO]
theorem NN{ws:Nat->BitVec 64}{W:BitVec 64}[DecidablePred C][DecidablePred D](h:∀i,C i↔D i):FT ws C W=FT ws D W:=by grind[FT]
theorem ath{ak:List El}{k:Nat}(h:k<ak.length):vQ (ak.set k e)=G4 (vQ ak) k e:=by grind[vQ,G4]
theorem ajm{ak:List El}{ks:List Int}(h:∀k∈ks,0<=k/\k<ak.length):vQ (gF ak ks e)=rO (vQ ak) (fun i=>(i:Int)∈ks) e:=by
 funext i;show(gF ak ks e).getD i df=if(i:Int)∈ks then e else ak.getD i df
 by_cases c:i<ak.length
 .exact s3 c fun k hk=>(h k hk).1
 rw[eV,ot (by rw[jb];omega),aW fun q=>by have:=h _ q;omega,eV,ot J]
theorem ajn{ws:List (BitVec 64)}{W:BitVec 64}{ks:List Int}(h:∀k∈ks,0<=k/\k<ws.length):wQ (gF ws ks W)=FT (wQ ws) (fun i=>(i:Int)∈ks) W:=by grind[wQ,gF,FT,s3,jb]
theorem ajo{ak:List El}{n:Nat}(h:ak.length=n):(List.range n).map (vQ ak)=ak:=by
 apply uu
 intro i
 rw[qC]
 by_cases c:i<n
 .rw[zN c,rp,eF J]
  unfold vQ;rw[getD_eq J]
 rw[ot LZ,ot J];rfl
theorem ajp{p:List Int×List Bool}{i j:Int}(h:j∈p.1):j∈(pH p i).1:=by grind[pH]
theorem He:∀{l:List Int} {p:List Int×List Bool} {j:Int},j∈p.1->j∈(r7 p l).1
 |[],p,j,h=>h
 |i::l,p,j,h=>He (l:=l) (p:=pH p i) (ajp h)
theorem Tm:∀{l:List Int} {wl:List Int} {wi:List Bool} {j:Int},u9 wl wi->(∀i∈l,0<=i/\i<wi.length)->j∈l->j∈(r7 (wl,wi) l).1
 |i::l,wl,wi,j,h,hl,hj=>by
  show j∈(r7 (pH (wl,wi) i) l).1
  by_cases e:j=i
  .subst e
   refine He ?_
   unfold pH
   by_cases c:wi.getD j.toNat false=true
   .rw[aY c];exact(h.mem j).2 ⟨hl j aJ,c⟩
   rw[aW c];simp
  exact Tm (wl:=(pH (wl,wi) i).1) (wi:=(pH (wl,wi) i).2) (h.put (hl i aJ)) (fun k hk=>by rw[NC];exact hl k (gd _ hk)) ((c8.1 hj).resolve_left e)
theorem ajq{ak:List El}{us:List j5}{p:List Int×List Bool}{k j:Int}(h:j∈p.1):j∈(mw ak us p k e).1:=by grind[mw,He]
theorem Ld{us:List j5}:∀{ks:List Int} {ak:List El} {p:List Int×List Bool} {j:Int},j∈p.1->j∈(yo ak us p ks e).2.1
 |[],ak,p,j,h=>h
 |k::ks,ak,p,j,h=>Ld (ks:=ks) (ak:=ak.set k.toNat e) (p:=mw ak us p k e) (ajq h)
theorem ZX{us:List j5}{b:Nat}(hu:∀k:Nat,k<us.length->∀i∈(us.getD k de).l,0<=i/\i<(b:Int)){k:Nat}{j:Int}(hj:j∈(us.getD k de).l):∀{ks:List Int} {ak:List El} {wl:List Int} {wi:List Bool},u9 wl wi->wi.length=b->(∀k∈ks,0<=k/\k<us.length)->ak.length=us.length->(k:Int)∈ks->¬sx (ak.getD k df) e->j∈(yo ak us (wl,wi) ks e).2.1
 |a::ks,ak,wl,wi,h,hb,hk,hv,hm,hne=>by
  have ha:=hk a aJ
  show j∈(yo (ak.set a.toNat e) us (mw ak us (wl,wi) a e) ks e).2.1
  by_cases q:(k:Int)=a
  .refine Ld ?_
   unfold mw
   rw[<-q,eC,aW hne]
   exact Tm h (fun i hi=>by have:=hu k J i hi;omega) hj
  have h1:u9 (mw ak us (wl,wi) a e).1 (mw ak us (wl,wi) a e).2:=by
   unfold mw;split
   .exact h
   exact h.r7 fun i hi=>by have:=hu a.toNat J i hi;omega
  refine ZX hu hj (ks:=ks) (ak:=ak.set a.toNat e) (wl:=(mw ak us (wl,wi) a e).1) (wi:=(mw ak us (wl,wi) a e).2) h1 (ND.trans hb) (fun x hx=>hk x (gd _ hx)) (by simpa using hv) ((c8.1 hm).resolve_left q) ?_
  rw[eV,qh,aW J,<-eV];exact hne
theorem ajr{us:List j5}{U:Nat->Nat}(hU:∀k,k<S.n->(us.getD k de).l.length<=U k):∀{ks:List Int} {ak:List El} {p:List Int×List Bool},ak.length=S.n->qv S (vQ ak)->
  (∀k∈ks,(0<=k/\k<S.n)/\cI (S.sh k.toNat) e=true/\cS (ak.getD k.toNat df) e=true)->((yo ak us p ks e).2.1.length:Int)+pG S U (vQ (yo ak us p ks e).1) S.n<=p.1.length+pG S U (vQ ak) S.n
 |[],ak,p,_,_,_=>mc _
 |k::ks,ak,p,hl,hv,hk=>by
  obtain⟨k1,k2,k3⟩:=hk k aJ
  have es:=ath (e:=e) (ak:=ak) (k:=k.toNat) J
  have fv:qv S (vQ (ak.set k.toNat e)):=by
   rw[es];intro i hi;unfold G4
   by_cases c:i=k.toNat
   .rw[aY c,c];exact k2
   rw[aW c];exact hv i hi
  have ih:=ajr hU (ks:=ks) (ak:=ak.set k.toNat e) (p:=mw ak us p k e) (by simpa using hl) fv fun x hx=>by
   obtain⟨a,b,c⟩:=hk x (gd _ hx)
   refine⟨a,b,?_⟩
   rw[eV,qh]
   by_cases q:k.toNat=x.toNat
   .rw[aY q,aY J];exact kp _
   rw[aW q,<-eV];exact c
  show((yo (ak.set k.toNat e) us (mw ak us p k e) ks e).2.1.length:Int)+pG S U (vQ (yo (ak.set k.toNat e) us (mw ak us p k e) ks e).1) S.n<=_
  refine LM ih ?_
  rw[es]
  unfold mw
  have hkn:k.toNat<S.n:=J
  by_cases c:sx (ak.getD k.toNat df) e
  .rw[aY c,Tf,aY hkn]
   have h8:(S.sh k.toNat).a6.length<=8:=by
    have:mJ (S.sh k.toNat)=true:=by
     have:=k2;unfold cI at this;simp only[cL]at this;exact this.1
    exact(n9 this).1.2
   have:nh (S.sh k.toNat) (vQ ak k.toNat)=nh (S.sh k.toNat) e:=Vi h8 c
   rw[this];omega
  rw[aW c]
  have h1:=QF (U:=U) hv hkn k2 (show cS (vQ ak k.toNat) e=true from k3) (fun q=>c (ah2 q))
  have h2:=G6 (l:=(us.getD k.toNat de).l) (p:=p)
  have h3:=hU k.toNat hkn
  omega
end
theorem Tn(ws:List (BitVec 64)):∀(l:List Int) (y:BitVec 64),orW y ws l=Pg y (wQ ws) (l.map Int.toNat)
 |[],y=>rfl
 |a::l,y=>Tn ws l (y|||ws.getD a.toNat 0)
structure Ph(us:List j5)(qs:List dD)(n:Nat):Prop where
 len:us.length=n
 is:∀k,k<n->(us.getD k de).l=yq qs k
theorem C5{qs:List dD}{k:Nat}{i:Int}:i∈yq qs k↔(0<=i/\i<qs.length)/\(k:Int)∈(qs.getD i.toNat cX).vars:=by grind[yq]
theorem ajs{k:Nat}:∀{l:List Nat},k∈l->1<=Th k l
 |a::l,h=>by
  unfold Th
  rcases c8.1 h with e|h
  .rw[aY e];omega
  have:=ajs h;omega
theorem ajt{aq:List pY}{n:Nat}{qs:List dD}(hv:∀q∈qs,q.vars=dB q.code)(k:Nat):(yq qs k).length<=Tl aq n qs k:=by
 have key:∀(qs:List dD),(∀q∈qs,q.vars=dB q.code)->(qs.filter fun q=>decide ((k:Int)∈q.vars)).length<=Tl aq n qs k:=by
  intro qs
  induction qs with
  |nil=>intro _;exact eu _
  |cons q qs ih=>
   intro h
   have h1:=ih fun p hp=>h p (gd _ hp)
   show _<=Th k (uS aq n q).vars+Tl aq n qs k
   rw[Cd]
   split
   .rename_i c
    have:k∈(uS aq n q).vars:=by
     refine fN.2 ⟨(k:Int),?_,eC k⟩
     have:=h q aJ
     rw[<-this];simpa using c
    have:=ajs this
    rw[eG];omega
   omega
 have e:(yq qs k).length=(qs.filter fun q=>decide ((k:Int)∈q.vars)).length:=by
  unfold yq
  rw[gA]
  have aET:∀(l:List Nat) (m:List dD),l.map (fun i=>qs.getD i cX)=m->(l.filter fun i=>decide ((k:Int)∈(qs.getD i cX).vars)).length=(m.filter fun q=>decide ((k:Int)∈q.vars)).length:=fun l m h=>by
   subst h
   rw[List.filter_map,gA];rfl
  refine aET _ _ ?_
  apply uu
  intro i
  rw[qC]
  by_cases c:i<qs.length
  .rw[zN c,rp,getD_eq c,eF c]
  rw[ot LZ,ot J];rfl
 rw[e];exact key qs hv
def BM(cl:List Nat):Prop:=∀i,i<cl.length->cr cl i<=i/\cr cl (cr cl i)=cr cl i
structure ZY(aq:List pY)(bf:List Int)(qs:List dD)(rep:Nat->Nat)(n:Nat)(X:Nat->Prop)(c:za):Prop where
 ck:QJ qs.length n n c
 si:mS (kH aq bf n) (fun i=>uS aq n (qs.getD i cX)) (fun i=>(qs.getD i cX).why) qs.length (O5 aq n qs) (vQ c.ak) (wQ c.bp) rep fun i=>(i:Int)∈c.wl\/X i
section
variable{us:List j5}{aq:List pY}{bf:List Int}{qs:List dD}{cl:List Nat}{n:Nat}{ak:List El}{bp:List (BitVec 64)}{wl:List Int}{wi:List Bool}{x:Int}{wy:BitVec 64}{q:dD}{rep:Nat->Nat}{X:Nat->Prop}{c:za}
theorem Ph.hu(h:Ph us qs n):∀k:Nat,k<us.length->∀i∈(us.getD k de).l,0<=i/\i<(qs.length:Int):=by grind[Ph,de,C5]
theorem ap8(hl:ak.length=n):(uS aq n q).ev (vQ ak)=lkE (zI aq q) q ak:=by
 show(eA _ _ ((List.range n).map (vQ ak))).1=_
 rw[ajo hl];rfl
theorem ati:(uS aq n q).rhs (vQ ak)=if q.to.var<0 then q.to.c else ak.getD q.to.var.toNat df:=by grind[tT.rhs,uS,CY,vQ]
theorem ap9:(uS aq n q).to=if q.to.var<0 then none else some q.to.var.toNat:=rfl
theorem To(hl:ak.length=n):fp (uS aq n q) (vQ ak)↔cS (lkE (zI aq q) q ak) (if q.to.var<0 then q.to.c else ak.getD q.to.var.toNat df)=true:=by
 unfold fp;rw[ap8 hl,ati]
theorem Hf(hp:Ft q=true):∃y,q.code=[y]/\y.op=1/\0<=q.to.var:=by
 simp only[Ft,cL,eD]at hp
 obtain⟨⟨h1,h2⟩,h3⟩:=hp
 match hc:q.code,h1 with
 |[y],_=>rw[hc]at h2;exact⟨y,rfl,h2,h3⟩
theorem EN(hf:ZM (kH aq bf n) (zI aq q) q.code q.to)(hv:q.vars=dB q.code)(hp:Ft q=true):(0<=yH q/\yH q<n)/\(0<=q.to.var/\q.to.var<n)/\FY (kH aq bf n) (uS aq n q) (yH q).toNat q.to.var.toNat/\(kH aq bf n).sh (yH q).toNat=(kH aq bf n).sh q.to.var.toNat:=by
 obtain⟨y,hy,ho,h0⟩:=Hf hp
 have h1:=hf.var y (by rw[hy];simp) ho
 have h2:=hf.to1 h0
 have hn:(kH aq bf n).n=n:=rfl
 have e:yH q=y.n:=by unfold yH;rw[hv,hy];unfold dB;simp[ho,h1.1,tW]
 rw[e]
 refine⟨⟨h1.1,J⟩,⟨h0,J⟩,?_,by rw[h1.2.2,h2.2]⟩
 unfold uS
 rw[hy]
 exact NL ho ⟨h1.1,J⟩ h0
theorem Hg(hv:q.vars=dB q.code):(uS aq n q).vars=q.vars.map Int.toNat:=by rw[hv];rfl
theorem ZY.look(hq:Wt aq bf n qs)(hu:Ph us qs n)(oF:cl.length=n)(h:ZY aq bf qs (cr cl) n (fun _=>False) ⟨ak,bp,x::wl,wi⟩){r:LkO}(hr:oc cl us (zI aq (qs.getD x.toNat cX)) (qs.getD x.toNat cX) ak bp wl (wi.set x.toNat false) wy=r)(hok:r.ok=true):
  ZY aq bf qs (cr cl) n (fun _=>False) ⟨r.ak,r.bp,r.wl,r.wi⟩/\muN aq bf n qs ⟨r.ak,r.bp,r.wl,r.wi⟩<muN aq bf n qs ⟨ak,bp,x::wl,wi⟩:=by
 have hn:(kH aq bf n).n=n:=rfl
 obtain⟨hx,ck⟩:=h.ck.take
 have ckr:=ai7 (cl:=cl) (us:=us) (sh:=zI aq (qs.getD x.toNat cX)) (q:=qs.getD x.toNat cX) (wy:=wy) hu.hu (by rw[oF,hu.len]) ck
 rw[hr]at ckr
 have Ui:x.toNat<qs.length:=J
 have hm:=dy (d:=cX) hx.1 hx.2
 obtain⟨hf,hvs⟩:=hq _ hm
 generalize hqq:qs.getD x.toNat cX=q at*
 have lv:ak.length=n:=h.ck.lv
 have ly:bp.length=n:=h.ck.ly
 have nd:=ow.1 h.ck.wq.nd
 have hsi:=h.si
 simp only at hsi
 have yes:fp (uS aq n q) (vQ ak)->mS (kH aq bf n) (fun i=>uS aq n (qs.getD i cX)) (fun i=>(qs.getD i cX).why) qs.length (O5 aq n qs) (vQ ak) (wQ bp) (cr cl) (fun i=>(i:Int)∈wl\/False)/\muN aq bf n qs ⟨ak,bp,wl,wi.set x.toNat false⟩<muN aq bf n qs ⟨ak,bp,x::wl,wi⟩:=fun hh=>by
  have h1:=hsi.look (i:=x.toNat) (by show fp (uS aq n (qs.getD x.toNat cX)) _;rw[hqq];exact hh)
  refine⟨h1.ajk fun i hi ⟨hp,hne⟩=> ?_,?_⟩
  .rcases hp with hp|hp
   .rcases c8.1 hp with e|e
    .exact absurd J hne
    exact .inl e
   exact hp.elim
  unfold muN;simp only[eG];omega
 unfold oc at hr
 by_cases c1:skQ cl q=true
 .rw[aY c1]at hr;subst hr
  simp only[skQ,cL,eD]at c1
  obtain⟨p1,p2,p3,p4⟩:=EN hf hvs c1.1
  have e:=c1.2
  rw[nj J,nj J]at e
  have:=(hsi.ring _ _ J J (Int.ofNat.inj e)).2.1
  have:=yes (ZW p3 hsi.low.fit this)
  exact⟨⟨ckr,this.1⟩,this.2⟩
 rw[aW c1]at hr
 by_cases c2:q.to.var<0
 .rw[aY c2]at hr
  by_cases c3:cS (lkE (zI aq q) q ak) q.to.c=true
  .rw[aY c3]at hr;subst hr
   have:=yes ((To lv).2 (by rw[aY c2];exact c3))
   exact⟨⟨ckr,this.1⟩,this.2⟩
  rw[aW c3]at hr;subst hr;cases hok
 rw[aW c2]at hr
 by_cases c3:cS (lkE (zI aq q) q ak) (ak.getD q.to.var.toNat df)=true
 .rw[aY c3]at hr;subst hr
  have:=yes ((To lv).2 (by rw[aW c2];exact c3))
  exact⟨⟨ckr,this.1⟩,this.2⟩
 rw[aW c3]at hr;subst hr
 have hto:=hf.to1 J
 have hk:(uS aq n q).to=some q.to.var.toNat:=by rw[ap9,aW c2]
 have kn:q.to.var.toNat<n:=J
 have hks:∀k∈bP cl q.to.var,0<=k/\k<(n:Int):=fun k hk=>by have:=mR hk;omega
 have hCi:∀i:Nat,(i:Int)∈bP cl q.to.var↔i<n/\cr cl i=cr cl q.to.var.toNat:=fun i=>by
  rw[I9,eC]
  exact⟨fun⟨a,b,c,d⟩=>⟨J,d⟩,fun⟨a,b⟩=>⟨J,J,J,b⟩⟩
 have eJ:eo (uS aq n q).sh (vQ ak q.to.var.toNat) ((uS aq n q).ev (vQ ak))=lkJ (zI aq q) q ak:=by rw[ap8 lv];rfl
 have hq2:uS aq n (qs.getD x.toNat cX)=uS aq n q:=by rw[hqq]
 have h1:=hsi.raise (i:=x.toNat) (k:=q.to.var.toNat) (W:=bp.getD q.to.var.toNat 0|||orW q.why bp q.vars) (P':=fun i=>(i:Int)∈(yo ak us (wl,wi.set x.toNat false) (bP cl q.to.var) (lkJ (zI aq q) q ak)).2.1\/False) Ui (by show(uS aq n (qs.getD x.toNat cX)).to=_;rw[hqq];exact hk) (Iv _ _)
  (by show ep (Pg (qs.getD x.toNat cX).why (wQ bp) (uS aq n (qs.getD x.toNat cX)).vars) _=true;rw[hqq,Hg hvs,<-Tn];exact GJ _ _)
  (fun j hj hne hp=>by
   rcases hp with hp|hp
   .rcases c8.1 hp with e|e
    .exact absurd J hne
    exact .inl (Ld e)
   exact hp.elim)
  (fun j hj y hy hr hne=>by
   simp only[hqq]at hy hne
   rw[eJ]at hne
   have hjm:=hq _ (dy (d:=cX) (l:=qs) (k:=(j:Int)) J J)
   rw[eC]at hjm
   rw[Hg hjm.2]at hy
   obtain⟨z,hz,rfl⟩:=fN.1 hy
   have hz0:0<=z/\z<n:=by
    have:=hz
    rw[hjm.2]at this
    obtain⟨a,ha,ho,h0,rfl⟩:=s4.1 this
    have:=hjm.1.var a ha ho
    omega
   refine .inl (ZX hu.hu (k:=z.toNat) (j:=(j:Int)) ?_ ck.wq ck.li (fun k hk=>by have:=hks k hk;have:=hu.len;omega) (by rw[hu.len];exact lv) ?_ hne)
   .rw[hu.is _ J]
    refine C5.2 ⟨J,?_⟩
    rw[eC,gm hz0.1];exact hz
   exact(hCi _).2 ⟨J,hr⟩)
 simp only[hqq]at h1
 rw[eJ]at h1
 have e1:vQ (lkR cl us (zI aq q) q ak bp wl (wi.set x.toNat false) wy).ak=rO (vQ ak) (fun i=>i<n/\cr cl i=cr cl q.to.var.toNat) (lkJ (zI aq q) q ak):=by
  unfold lkR;simp only[y8]
  rw[ajm (by rw[lv];exact hks)]
  exact NM hCi
 have e2:wQ (lkR cl us (zI aq q) q ak bp wl (wi.set x.toNat false) wy).bp=FT (wQ bp) (fun i=>i<n/\cr cl i=cr cl q.to.var.toNat) (bp.getD q.to.var.toNat 0|||orW q.why bp q.vars):=by
  unfold lkR;simp only
  rw[ajn (by rw[ly];exact hks)]
  exact NN hCi
 refine⟨⟨ckr,?_⟩,?_⟩
 .simp only;rw[e1,e2];exact h1
 have fv:=hsi.low.fit
 have io:=(hsi.ok x.toNat Ui).1
 simp only[hqq]at io
 have fk:cI (zI aq q) (vQ ak q.to.var.toNat)=true:=by rw[<-hto.2];exact fv _ J
 have fj:cI (zI aq q) (lkJ (zI aq q) q ak)=true:=by rw[<-eJ];exact IS fk (io.fit _ fv)
 have up:cS (vQ ak q.to.var.toNat) (lkJ (zI aq q) q ak)=true:=by rw[<-eJ];exact(Y4 fk (io.fit _ fv)).1
 have h2:=ajr (S:=kH aq bf n) (us:=us) (U:=Tl aq n qs) (e:=lkJ (zI aq q) q ak) (ks:=bP cl q.to.var) (ak:=ak) (p:=(wl,wi.set x.toNat false)) (fun k hk=>by rw[hu.is k hk];exact ajt (fun q hq'=>(hq q hq').2) k) lv fv fun k hk=>by
  have hc:=mR hk
  have Wu:=hsi.ring k.toNat q.to.var.toNat J J hc.2.2.2
  refine⟨by have:=hks k hk;omega,by rw[Wu.1,hto.2];exact fj,fH (lB Wu.2.1) up⟩
 have h3:=La (U:=Tl aq n qs) fv n (eu _)
 have h4:0<=pG (kH aq bf n) (Tl aq n qs) (rO (vQ ak) (fun i=>i<n/\cr cl i=cr cl q.to.var.toNat) (lkJ (zI aq q) q ak)) n:=La (U:=Tl aq n qs) h1.low.fit n (eu _)
 rw[<-e1]at h4
 rw[hn]at h2
 unfold muN
 simp only[eG]
 have e3:(lkR cl us (zI aq q) q ak bp wl (wi.set x.toNat false) wy).ak=(yo ak us (wl,wi.set x.toNat false) (bP cl q.to.var) (lkJ (zI aq q) q ak)).1:=rfl
 have e4:(lkR cl us (zI aq q) q ak bp wl (wi.set x.toNat false) wy).wl=(yo ak us (wl,wi.set x.toNat false) (bP cl q.to.var) (lkJ (zI aq q) q ak)).2.1:=rfl
 rw[e3]at h4⊢
 rw[e4]
 simp only at h2
 omega
end
section
variable{cl:List Nat}{x y a b:Nat}
theorem anT:IX x y a=IX x y b↔a=b\/((a=x\/a=y)/\(b=x\/b=y)):=by grind[IX,yd]
theorem BM.join(h:BM cl)(ha:a<cl.length)(hb:b<cl.length):BM (iH cl (cr cl a) (cr cl b)):=by grind[BM,iH,cr,I6,IX,Aq,kX,yd,lA]
theorem aeG{cs:List (List Nat)}{i j:Int}(hi:0<=i/\i<(bB cs).length)(hj:0<=j/\j<(bB cs).length)(ha:a<(bB cs).length)(hb:b<(bB cs).length):
 cr (bB (ju cs i j).1) a=cr (bB (ju cs i j).1) b↔cr (bB cs) a=cr (bB cs) b\/((cr (bB cs) a=cr (bB cs) i.toNat\/cr (bB cs) a=cr (bB cs) j.toNat)/\(cr (bB cs) b=cr (bB cs) i.toNat\/cr (bB cs) b=cr (bB cs) j.toNat)):=by grind[I5,bB,I7,cr,iH,Aq,anT,Ns]
theorem ajv{cs:List (List Nat)}{i j:Int}(hi:0<=i/\i<(bB cs).length)(hj:0<=j/\j<(bB cs).length)(h:BM (bB cs)):BM (bB (ju cs i j).1):=by
 by_cases q:I5 (bB cs).length (bB cs) i j
 .rw[I7 q];exact h.join J J
 rw[Ns q];exact h
def EQ(cl:List Nat)(ks:List Int)(n k a b:Nat):Prop:=a<n/\b<n/\(cr cl a=cr cl b\/(a<k/\(b:Int)=ks.getD a 0)\/(b<k/\(a:Int)=ks.getD b 0))
structure MgK(cl jX:List Nat)(ks:List Int)(n k:Nat):Prop where
 ok:BM jX
 more:∀a b,a<n->b<n->cr cl a=cr cl b->cr jX a=cr jX b
 aiI:∀v,v<k->cr jX v=cr jX (ks.getD v 0).toNat
 way:∀a b,a<n->b<n->cr jX a=cr jX b->j6 (EQ cl ks n k) a b
theorem ajw{cs:List (List Nat)}{ks:List Int}{n:Nat}(h:BM (bB cs))(hl:(bB cs).length=n)(hk:∀v,v<n->0<=ks.getD v 0/\ks.getD v 0<n):∀k,k<=n->MgK (bB cs) (bB (tw cs ks k)) ks n k
 |0,_=>⟨h,fun a b _ _ q=>q,fun v hv=>J,fun a b ha hb q=> .one ⟨ha,hb,.inl q⟩⟩
 |k+1,hn=>by
  have ih:=ajw h hl hk k J
  have e:=G8 (cs:=cs) (ks:=ks) (k:=(k:Int)) J
  rw[show((k:Int)+1).toNat=k+1 by omega,show((k:Int)).toNat=k by omega]at e
  have l2:(bB (tw cs ks k)).length=n:=by rw[xB];exact hl
  have hkk:=hk k J
  have iff:=fun a b (ha:a<n) (hb:b<n)=>aeG (cs:=tw cs ks k) (i:=(k:Int)) (j:=ks.getD k 0) (a:=a) (b:=b) J J J J
  rw[eC]at iff
  rw[e]
  have st:∀a b,j6 (EQ (bB cs) ks n k) a b->j6 (EQ (bB cs) ks n (k+1)) a b:=fun a b w=>w.mono fun x y ⟨h1,h2,h3⟩=>⟨h1,h2,by
   rcases h3 with q|q|q
   .exact .inl q
   .exact .inr (.inl ⟨J,q.2⟩)
   exact .inr (.inr ⟨J,q.2⟩)⟩
  refine⟨ajv J J ih.ok,fun a b ha hb q=>(iff a b ha hb).2 (.inl (ih.more a b ha hb q)),fun v hv=> ?_,fun a b ha hb q=> ?_⟩
  .by_cases c:v=k
   .subst c;exact(iff v _ J J).2 (.inr ⟨.inl O,.inr O⟩)
   have:=hk v J
   exact(iff v _ J J).2 (.inl (ih.aiI v J))
  have jk:j6 (EQ (bB cs) ks n (k+1)) k (ks.getD k 0).toNat:= .one ⟨J,J,.inr (.inl ⟨J,J⟩)⟩
  have kj:j6 (EQ (bB cs) ks n (k+1)) (ks.getD k 0).toNat k:= .one ⟨J,J,.inr (.inr ⟨J,J⟩)⟩
  have kn:k<n:=J
  have jn:(ks.getD k 0).toNat<n:=J
  rcases(iff a b ha hb).1 q with q|⟨q,r⟩
  .exact st _ _ (ih.way a b ha hb q)
  have w1:j6 (EQ (bB cs) ks n (k+1)) a k:=by
   rcases q with q|q
   .exact st _ _ (ih.way a k ha kn q)
   exact(st _ _ (ih.way a _ ha jn q)).trans kj
  have w2:j6 (EQ (bB cs) ks n (k+1)) k b:=by
   rcases r with q|q
   .exact st _ _ (ih.way k b kn hb q.symm)
   exact jk.trans (st _ _ (ih.way _ b jn hb q.symm))
  exact w1.trans w2
theorem xC{α:Type}{p q:α->Bool}:∀{l:List α},(∀x∈l,p x=true->q x=true)->(l.filter p).length<=(l.filter q).length/\((l.filter p).length=(l.filter q).length->∀x∈l,q x=true->p x=true)
 |[],_=>⟨eu _,fun _ x hx=>by cases hx⟩
 |a::l,h=>by
  obtain⟨h1,h2⟩:=xC (l:=l) (p:=p) (q:=q) fun x hx=>h x (gd _ hx)
  rw[Cd,Cd]
  by_cases c:p a=true
  .rw[aY c,aY (h a aJ c)]
   simp only[eG]
   refine⟨J,fun e x hx hq=> ?_⟩
   rcases c8.1 hx with r|r
   .rw[r];exact c
   exact h2 J x r hq
  rw[aW c]
  by_cases d:q a=true
  .rw[aY d];simp only[eG]
   exact⟨J,fun e=>J⟩
  rw[aW d]
  refine⟨h1,fun e x hx hq=> ?_⟩
  rcases c8.1 hx with r|r
  .rw[r]at hq;exact absurd hq d
  exact h2 e x r hq
theorem ZZ{cl jX:List Nat}(h:BM cl)(h':BM jX)(hl:jX.length=cl.length)(hm:∀a b,a<cl.length->b<cl.length->cr cl a=cr cl b->cr jX a=cr jX b)(he:leads jX=leads cl):∀a,a<cl.length->cr jX a=cr cl a:=fun a ha=>by
 unfold leads at he
 rw[hl]at he
 have h1:=xC (l:=List.range cl.length) (p:=fun i=>cr jX i==i) (q:=fun i=>cr cl i==i) fun x hx hp=>by
  rw[Cj]at hp⊢
  have hx:=ou.1 hx
  have c1:=h x hx
  have c2:=hm x (cr cl x) hx J c1.2.symm
  have c3:=h' (cr cl x) J
  omega
 have ha1:=h a ha
 have h2:=h1.2 he (cr cl a) (ou.2 J) (by rw[Cj];exact ha1.2)
 rw[Cj]at h2
 rw[hm a (cr cl a) ha J ha1.2.symm,h2]
end
theorem Tp{o:List (BitVec 64)}{k:Nat}{y:BitVec 64}(hk:k<o.length):(∀i,ep (o.getD i 0) ((o.set k (o.getD k 0|||y)).getD i 0)=true)/\ep y ((o.set k (o.getD k 0|||y)).getD k 0)=true:=by grind[Iv,tL,GJ]
theorem ace{α:Type}{f:List (BitVec 64)->α->List (BitVec 64)}{n:Nat}(hl:∀o a,(f o a).length=o.length)(l:List α)(hm:∀o:List (BitVec 64),o.length=n->∀a∈l,∀i,ep (o.getD i 0) ((f o a).getD i 0)=true):∀o:List (BitVec 64),o.length=n->(∀i,ep (o.getD i 0) ((l.foldl f o).getD i 0)=true)/\∀a∈l,∀y k,(∀o:List (BitVec 64),o.length=n->ep y ((f o a).getD k 0)=true)->ep y ((l.foldl f o).getD k 0)=true:=by
 induction l with
 |nil=>intro o _;exact⟨fun i=>tL _,fun a ha=>by cases ha⟩
 |cons b l ih=>
  intro o ho
  have h1:=ih (fun o h a ha=>hm o h a (gd _ ha)) (f o b) ((hl o b).trans ho)
  refine⟨fun i=>mq (hm o ho b aJ i) (h1.1 i),fun a ha y k hy=> ?_⟩
  rcases c8.1 ha with e|ha
  .subst e;exact mq (hy o ho) (h1.1 k)
  exact h1.2 a ha y k hy
theorem anU{cl:List Nat}{ws:List (BitVec 64)}{n:Nat}{qs:List dD}(h:BM cl)(hl:cl.length=n)(hp:V7 n qs):
  (∀v,v<n->ep (ws.getD v 0) ((CZ cl ws n qs).getD (cr cl v) 0)=true)/\∀q∈qs,Ft q=true->yH q≠q.to.var->cr cl (yH q).toNat=cr cl q.to.var.toNat->ep q.why ((CZ cl ws n qs).getD (cr cl q.to.var.toNat) 0)=true:=by
 have fr:∀v:Nat,v<n->(fP cl (v:Int)).toNat=cr cl v/\cr cl v<n:=fun v hv=>by
  rw[nj J,eC,eC]
  have:=h v J
  exact⟨rfl,J⟩
 have hto:∀q∈qs,J9 cl q=true->(fP cl q.to.var).toNat=cr cl q.to.var.toNat/\cr cl q.to.var.toNat<n:=fun q hq hi=>by
  simp only[J9,cL,eD]at hi
  have h1:=hp q hq hi.1.1
  have h2:=(Hf hi.1.1)
  obtain⟨_,_,_,h0⟩:=h2
  have:=fr q.to.var.toNat J
  rwa[gm h0]at this
 have ra:(V8 cl ws n).length=n:=by unfold V8;rw[Eb (NB cl ws)];simp
 have hA:=ace (n:=n) (f:=NA cl ws) (NB cl ws) (List.range n) (fun o ho v hv i=>by
  have hv:=ou.1 hv
  unfold NA;rw[(fr v hv).1];exact(Tp (by rw[ho];exact(fr v hv).2)).1 i) (List.replicate n 0) aJ
 have hB:=ace (n:=n) (f:=Kl cl) (V9 cl) qs (fun o ho q hq i=>by
  unfold Kl
  by_cases c:J9 cl q=true
  .rw[aY c,(hto q hq c).1];exact(Tp (by rw[ho];exact(hto q hq c).2)).1 i
  rw[aW c];exact tL _) (V8 cl ws n) ra
 refine⟨fun v hv=> ?_,fun q hq h1 h2 h3=> ?_⟩
 .have:=hA.2 v (ou.2 hv) (ws.getD v 0) (cr cl v) fun o ho=>by
   unfold NA;rw[(fr v hv).1];exact(Tp (by rw[ho];exact(fr v hv).2)).2
  exact mq this (hB.1 _)
 refine hB.2 q hq q.why _ fun o ho=> ?_
 have hv:=hp q hq h1
 have ci:J9 cl q=true:=by
  simp only[J9,cL,eD]
  obtain⟨_,_,_,h0⟩:=Hf h1
  refine⟨⟨h1,?_⟩,h2⟩
  rw[nj J,nj J,h3]
 unfold Kl
 rw[aY ci,(hto q hq ci).1];exact(Tp (by rw[ho];exact(hto q hq ci).2)).2
theorem QS{n:Nat}:∀{qs:List dD} {g:List (List Int)} {a:Nat} {x:Int},(∀q∈qs,Ft q=true->0<=yH q)->x∈(qs.foldl grQ g).getD a []->x∈g.getD a []\/∃q∈qs,Ft q=true/\yH q=a/\q.to.var=x
 |[],g,a,x,_,h=> .inl h
 |q::qs,g,a,x,hp,h=>by
  rcases QS (n:=n) (qs:=qs) (g:=grQ g q) (fun p hp'=>hp p (gd _ hp')) h with h|⟨p,h1,h2⟩
  .unfold grQ at h
   by_cases c:Ft q=true
   .rw[aY c]at h
    rw[eV,qh]at h
    by_cases e:(yH q).toNat=a
    .rw[aY e]at h
     split at h
     .rcases fh.1 h with h|h
      .rw[e]at h;exact .inl h
      have:=hp q aJ c
      exact .inr ⟨q,aJ,c,J,(gG.1 h).symm⟩
     .cases h
    rw[aW e,<-eV]at h;exact .inl h
   rw[aW c]at h;exact .inl h
  exact .inr ⟨p,gd _ h1,h2⟩
theorem axU{n:Nat}{qs:List dD}{a b:Nat}(hp:∀q∈qs,Ft q=true->0<=yH q)(h:wv (cw n qs) a b):∃q∈qs,Ft q=true/\yH q=a/\q.to.var=b:=by
 obtain⟨_,_,i,hi,e⟩:=h
 have hm:(b:Int)∈(cw n qs).getD a []:=by rw[<-e,getD_eq hi];exact qD hi
 rcases QS (n:=n) hp hm with q|q
 .rw[eV,XR]at q
  split at q<;>cases q
 exact q
theorem atj(E:Nat->Nat->Prop)(k:Nat):∃o,OfK E k o:=by
 have key:∀m j:Nat,j<=m->tS E k j->∃o,OfK E k o:=by
  intro m
  induction m with
  |zero=>intro j hj h;exact⟨j,⟨j,rfl,h⟩,fun i _=>J⟩
  |succ m ih=>
   intro j hj h
   by_cases c:∃i,i<j/\tS E k i
   .obtain⟨i,hi,h2⟩:=c;exact ih i J h2
   exact⟨j,⟨j,rfl,h⟩,fun i hi=>by
    refine Lp fun q=>c ⟨i,J,hi⟩⟩
 exact key k k (eu _) ⟨.refl _,.refl _⟩
theorem tS.trans{E:Nat->Nat->Prop}{a b c:Nat}(h:tS E a b)(h2:tS E b c):tS E a c:=⟨h.1.trans h2.1,h2.2.trans h.2⟩
theorem Tq{gl:List (List Int)}{v:Nat}(h:v<gl.length):OfK (wv gl) v ((pF gl).getD v 0):=by grind[atj,wv,pF,aiR]
theorem ajx{gl:List (List Int)}{v u:Nat}(h:v<gl.length)(hu:u<gl.length)(hb:tS (wv gl) v u):(pF gl).getD v 0=(pF gl).getD u 0:=by
 have h1:=Tq h;have h2:=Tq hu
 obtain⟨j,e,hj⟩:=h2.is
 exact h1.same ⟨⟨j,e,tS.trans hb hj⟩,fun i hi=>h2.low i (tS.trans ⟨hb.2,hb.1⟩ hi)⟩
theorem anV{gl:List (List Int)}{a b:Nat}(h:j6 (wv gl) a b)(ha:a<gl.length):b<gl.length:=by grind[j6,wv]
theorem ajy{E E':Nat->Nat->Prop}{a b:Nat}(hE:∀y c,E y c->tS E a y->tS E a c->E' y c)(h:j6 E a b)(hb:j6 E b a):j6 E' a b:=by
 induction h with
 |refl=>exact .refl _
 |step h e ih=>
  have hy:j6 E _ a:=(j6.one e).trans hb
  exact(ih hy).step (hE _ _ e ⟨h,hy⟩ ⟨h.step e,hb⟩)
theorem mS.ajz{S:Sys}{Q:Nat->tT}{y:Nat->BitVec 64}{N:Nat}{M:Qm}{v:Va}{ws:Nat->BitVec 64}{rep Ws:Nat->Nat}{P:Nat->Prop}(h:mS S Q y N M v ws rep P)(hr:∀i k,i<S.n->k<S.n->Ws i=Ws k->rep i=rep k):mS S Q y N M v ws Ws P:=
 ⟨h.ok,h.all,h.mok,h.low,h.why,fun i k hi hk e=>by
  obtain⟨a,b,c,d⟩:=h.ring i k hi hk (hr i k hi hk e)
  exact⟨a,b,c,fun u hu p q hp hq=>d u hu p q ⟨hp.1,hr _ _ hp.1 hi hp.2⟩ ⟨hq.1,hr _ _ hq.1 hi hq.2⟩⟩,h.hold⟩
theorem acf{sh:Sh}{ak:List El}:∀{ks:List Int} {e:El},cI sh e=true->(∀k∈ks,cI sh (ak.getD k.toNat df)=true)->cI sh (wA sh ak e ks)=true/\cS e (wA sh ak e ks)=true/\(∀k∈ks,cS (ak.getD k.toNat df) (wA sh ak e ks)=true)/\∀u,cI sh u=true->cS e u=true->(∀k∈ks,cS (ak.getD k.toNat df) u=true)->cS (wA sh ak e ks) u=true
 |[],e,he,_=>⟨he,kp _,(fun k hk=>by cases hk),fun u _ h _=>h⟩
 |a::ks,e,he,hk=>by
  have fa:=hk a aJ
  have key:cI sh (if sx (ak.getD a.toNat df) e then e else eo sh e (ak.getD a.toNat df))=true/\cS e (if sx (ak.getD a.toNat df) e then e else eo sh e (ak.getD a.toNat df))=true/\cS (ak.getD a.toNat df) (if sx (ak.getD a.toNat df) e then e else eo sh e (ak.getD a.toNat df))=true/\∀u,cI sh u=true->cS e u=true->cS (ak.getD a.toNat df) u=true->cS (if sx (ak.getD a.toNat df) e then e else eo sh e (ak.getD a.toNat df)) u=true:=by
   by_cases c:sx (ak.getD a.toNat df) e
   .rw[aY c];exact⟨he,kp _,lB c,fun u _ h _=>h⟩
   rw[aW c];exact⟨IS he fa,(Y4 he fa).1,(Y4 he fa).2,fun u fu h1 h2=>abu he fa fu h1 h2⟩
  obtain⟨k1,k2,k3,k4⟩:=key
  obtain⟨h1,h2,h3,h4⟩:=acf (ks:=ks) k1 fun k h=>hk k (gd _ h)
  refine⟨h1,fH k2 h2,fun k h=> ?_,fun u fu hu CP=>h4 u fu (k4 u fu hu (CP a aJ)) fun k h=>CP k (gd _ h)⟩
  rcases c8.1 h with q|q
  .subst q;exact fH k3 h2
  exact h3 k q
theorem Wv{p:Nat->Bool}{v m:Nat}(hv:p v=true)(hlo:∀j,j<v->p j=false):∃t,(List.range (v+(m+1))).filter p=v::t:=by
 rw[Ym,Lz]
 have e:(List.range v).filter p=[]:=List.filter_eq_nil_iff.2 fun j hj=>by rw[hlo j (ou.1 hj)];exact Lm
 rw[e,eR,XV,lZ,Cd,aY (by simpa using hv)]
 exact⟨_,rfl⟩
theorem Ww{cl:List Nat}{v:Nat}(h:BM cl)(hv:v<cl.length)(he:cr cl v=v):∃t,bP cl v=(v:Int)::t:=by
 obtain⟨t,ht⟩:=Wv (p:=fun k=>cr cl v==cr cl k) (v:=v) (m:=cl.length-v-1) aJ fun j hj=>by
  have:=h j J
  rw[beq_eq_false_iff_ne];omega
 unfold bP Av
 rw[aY ⟨J,J⟩]
 rw[show v+(cl.length-v-1+1)=cl.length by omega]at ht
 rw[eC,ht]
 exact⟨_,rfl⟩
theorem acg{cl:List Nat}{n:Nat}{p:Nat->Bool}{q:Nat->Bool}:∀{l:List Nat},(∀x∈l,¬(p x=true/\q x=true))->(l.filter p).length+(l.filter q).length<=(l.filter fun x=>p x||q x).length
 |[],_=>eu _
 |a::l,h=>by
  have ih:=acg (cl:=cl) (n:=n) (l:=l) (p:=p) (q:=q) fun x hx=>h x (gd _ hx)
  have ha:=h a aJ
  rw[Cd,Cd,Cd]
  by_cases c1:p a=true<;>by_cases c2:q a=true
  .exact absurd ⟨c1,c2⟩ ha
  .rw[aY c1,aW c2,aY (by simp[c1])];simp only[eG];omega
  .rw[aW c1,aY c2,aY (by simp[c2])];simp only[eG];omega
  rw[aW c1,aW c2,aW (by simp[c1,c2])];exact ih
theorem aqb{cl:List Nat}(h:BM cl):∀k,coJ cl k<=((List.range cl.length).filter fun j=>decide (cr cl j<k)).length
 |0=>nQ _
 |k+1=>by
  have ih:=aqb h k
  have h1:=acg (cl:=cl) (n:=0) (l:=List.range cl.length) (p:=fun j=>decide (cr cl j<k)) (q:=fun j=>cr cl k==cr cl j&&decide (cr cl k=k)) fun x _ ⟨a,b⟩=>by
   simp only[eD,cL,Cj]at a b;omega
  have h2:=(xC (l:=List.range cl.length) (p:=fun x=>decide (cr cl x<k)||(cr cl k==cr cl x&&decide (cr cl k=k))) (q:=fun j=>decide (cr cl j<k+1)) fun x _ q=>by
   simp only[eD,cL,qj,Cj]at q⊢;omega).1
  show coJ cl k+_<=_
  have h3:(if fP cl (k:Int)=(k:Int)then(bP cl (k:Int)).length-1 else 0)<=((List.range cl.length).filter fun j=>cr cl k==cr cl j&&decide (cr cl k=k)).length:=by
   by_cases c:fP cl (k:Int)=(k:Int)
   .rw[aY c]
    by_cases r:0<=(k:Int)/\(k:Int)<cl.length
    .rw[nj r,eC]at c
     have e:cr cl k=k:=J
     unfold bP Av
     rw[aY r,gA,eC]
     have:=(xC (l:=List.range cl.length) (p:=fun j=>cr cl k==cr cl j) (q:=fun j=>cr cl k==cr cl j&&decide (cr cl k=k)) fun x _ q=>by rw[cL,eD];exact⟨q,e⟩).1
     omega
    rw[I0 r]at c;omega
   rw[aW c];exact nQ _
  omega
theorem anW{cl:List Nat}(h:BM cl)(k:Nat):coJ cl k<=cl.length:=by grind[aqb,cr]
def NO(cl jX:List Nat)(k a:Nat):Nat:=if cr jX a<k then 2*cr jX a else 2*cr cl a+1
structure CoA(aq:List pY)(bf:List Int)(qs:List dD)(cl jX:List Nat)(n:Nat)(X:Nat->Prop)(w0:List (BitVec 64))(k:Nat)(c:za):Prop where
 j:ZY aq bf qs (NO cl jX k) n X c
 ws:∀j,j<n->k<=cr jX j->c.bp.getD j 0=w0.getD j 0
section
variable{us:List j5}{aq:List pY}{bf:List Int}{qs:List dD}{cl jX:List Nat}{n k:Nat}{X:Nat->Prop}{c:za}{w0 rs:List (BitVec 64)}
structure RgN(aq:List pY)(bf:List Int)(qs:List dD)(jX:List Nat)(n:Nat)(w0 rs:List (BitVec 64)):Prop where
 ok:BM jX
 len:jX.length=n
 ring:∀v,v<n->cr jX v=v->qP (kH aq bf n) (O5 aq n qs (rs.getD v 0)) fun j=>j<n/\cr jX j=v
 sh:∀a b,a<n->b<n->cr jX a=cr jX b->(kH aq bf n).sh a=(kH aq bf n).sh b
 ws:∀v,v<n->ep (w0.getD v 0) (rs.getD (cr jX v) 0)=true
theorem CoA.step(hq:Wt aq bf n qs)(hu:Ph us qs n)(hr:RgN aq bf qs jX n w0 rs)(h:CoA aq bf qs cl jX n X w0 k c)(hk:k<n):CoA aq bf qs cl jX n X w0 (k+1) (co1 jX us aq bf rs c k):=by
 have hn:(kH aq bf n).n=n:=rfl
 have hi:=hr.len
 have ck:=ai5 (cl:=jX) (us:=us) (aq:=aq) (bf:=bf) (rs:=rs) (s:=c) (v:=k) hu.hu (by rw[hi,hu.len]) h.j.ck
 have lv:=h.j.ck.lv
 have ly:=h.j.ck.ly
 have si:=h.j.si
 have no:(∀a b,a<n->b<n->NO cl jX (k+1) a=NO cl jX (k+1) b->NO cl jX k a=NO cl jX k b)->co1 jX us aq bf rs c k=c->CoA aq bf qs cl jX n X w0 (k+1) (co1 jX us aq bf rs c k):=fun hf e=>by
  rw[e];exact⟨⟨h.j.ck,si.ajz hf⟩,fun j hj hjk=>h.ws j hj J⟩
 by_cases c1:cr jX k=k
 .obtain⟨t,ht⟩:=Ww hr.ok J c1
  have hCi:∀i:Nat,(i:Int)∈bP jX (k:Int)↔i<n/\cr jX i=k:=fun i=>by
   rw[I9,eC,eC,c1]
   exact⟨fun⟨a,b,c,d⟩=>⟨J,d⟩,fun⟨a,b⟩=>⟨J,J,J,b⟩⟩
  have fk:fP jX (k:Int)=k:=by rw[nj J,eC,c1]
  by_cases c2:(bP jX (k:Int)).length≠1
  .have hks:∀j∈bP jX (k:Int),0<=j/\j<(n:Int):=fun j hj=>by have:=mR hj;omega
   have e0:co1 jX us aq bf rs c k=_:=ab7 (k:=(k:Int)) J fk c2
   simp only[eC]at e0
   have hfit:∀j:Nat,j<n->cr jX j=k->cI ((kH aq bf n).sh k) (c.ak.getD j df)=true:=fun j hj e=>by
    rw[<-hr.sh j k hj hk (by rw[e,c1])];exact si.low.fit j hj
   have hdr:∀j∈(bP jX (k:Int)).drop 1,0<=j/\j.toNat<n/\cr jX j.toNat=k:=fun j hj=>by
    have hm:=sF hj
    have:=hks j hm
    have:=(hCi j.toNat).1 (by rw[gm J];exact hm)
    exact⟨J,this⟩
   obtain⟨e1,e2,e3,e4⟩:=acf (sh:=(kH aq bf n).sh k) (ak:=c.ak) (ks:=(bP jX (k:Int)).drop 1) (e:=c.ak.getD k df) (hfit k hk c1) fun j hj=>hfit _ (hdr j hj).2.1 (hdr j hj).2.2
   have eq:wA (aq.getD (bf.getD k 0).toNat p5).p.sh c.ak (c.ak.getD k df) ((bP jX (k:Int)).drop 1)=wA ((kH aq bf n).sh k) c.ak (c.ak.getD k df) ((bP jX (k:Int)).drop 1):=rfl
   rw[eq]at e0
   generalize hE:wA ((kH aq bf n).sh k) c.ak (c.ak.getD k df) ((bP jX (k:Int)).drop 1)=e at*
   have hwC:∀j,j<n/\cr jX j=k->ep (wQ c.bp j) (rs.getD k 0)=true:=fun j hj=>by
    have:=hr.ws j hj.1
    rw[hj.2]at this
    show ep (c.bp.getD j 0) _=true
    rw[h.ws j hj.1 J];exact this
   have Wu:=hr.ring k hk c1
   have h1:=si.merge (C:=fun j=>j<n/\cr jX j=k) (e:=e) (W:=rs.getD k 0) (k:=k) (Ws:=NO cl jX (k+1)) (P':=fun i=>(i:Int)∈(yo c.ak us (c.wl,c.wi) (bP jX (k:Int)) e).2.1\/X i)
    (fun j hj=>⟨J,hwC j hj⟩) (fun a b ha hb=>hr.sh a b ha.1 hb.1 (by rw[ha.2,hb.2])) Wu ⟨hk,c1⟩ e1
    (fun u hu2=>by
     have hle:∀j,j<n/\cr jX j=k->cS (c.ak.getD j df) (u k)=true:=fun j hj=>fH (si.why j J u (hu2.less fun q hq=>si.mok _ _ _ (hwC j hj) hq)) (lB (Wu u hu2 j k hj ⟨hk,c1⟩))
     exact e4 _ (hu2.fit k J) (hle k ⟨hk,c1⟩) fun j hj=>hle _ (hdr j hj).2)
    (fun j hj=>by
     have:=(hCi j).2 hj
     rw[ht]at this
     rcases c8.1 this with q|q
     .have:j=k:=J
      subst this;exact e2
     have:=e3 (j:Int) (by rw[ht];exact q)
     rwa[eC]at this)
    (fun a b ha hb hab=>by
     unfold NO at hab⊢
     by_cases ca:cr jX a<k+1<;>by_cases cb:cr jX b<k+1
     .rw[aY ca,aY cb]at hab
      by_cases q:cr jX a=k
      .exact .inl ⟨⟨J,q⟩,⟨J,J⟩⟩
      refine .inr ⟨fun x=>q x.2,fun x=>q J,?_⟩
      rw[aY J,aY J];omega
     .rw[aY ca,aW cb]at hab;omega
     .rw[aW ca,aY cb]at hab;omega
     rw[aW ca,aW cb]at hab
     refine .inr ⟨fun x=>J,fun x=>J,?_⟩
     rw[aW J,aW J];omega)
    (fun j hj hp=>hp.elim (fun q=> .inl (Ld q)) .inr)
    (fun j hj y hy hc hne=>by
     have hjm:=hq _ (dy (d:=cX) (l:=qs) (k:=(j:Int)) J J)
     rw[eC]at hjm
     rw[Hg hjm.2]at hy
     obtain⟨z,hz,rfl⟩:=fN.1 hy
     have hz0:0<=z:=by
      have:=hz
      rw[hjm.2]at this
      obtain⟨a,ha,ho,h0,rfl⟩:=s4.1 this
      exact h0
     refine .inl (ZX hu.hu (k:=z.toNat) (j:=(j:Int)) ?_ h.j.ck.wq h.j.ck.li (fun k hk=>by have:=hks k hk;have:=hu.len;omega) (by rw[hu.len];exact lv) ((hCi _).2 hc) hne)
     rw[hu.is _ J]
     refine C5.2 ⟨J,?_⟩
     rw[eC,gm hz0];exact hz)
   refine⟨⟨ck,?_⟩,fun j hj hjk=> ?_⟩
   .rw[e0]
    simp only[y8]
    rw[ajm (by rw[lv];exact hks),ajn (by rw[ly];exact hks),NM hCi,NN hCi]
    exact h1
   rw[e0]
   simp only
   rw[s3 J fun q hq=>(hks q hq).1,aW fun q=>by have:=(hCi j).1 q;omega]
   exact h.ws j hj J
  have c2:(bP jX (k:Int)).length=1:=Lp c2
  refine no (fun a b ha hb hab=> ?_) (Tj (k:=(k:Int)) J fun q=>q.2 c2)
  have one:∀a,a<n->cr jX a=k->a=k:=fun a ha e=>by
   have:=(hCi a).2 ⟨ha,e⟩
   rw[ht]at this c2
   have:t=[]:=by cases t with
    |nil=>rfl
    |cons _ _=>simp at c2
   subst this
   have:=gG.1 ‹(a:Int)∈[(k:Int)]›
   omega
  unfold NO at hab⊢
  by_cases ca:cr jX a<k+1<;>by_cases cb:cr jX b<k+1
  .rw[aY ca,aY cb]at hab
   by_cases q:cr jX a=k
   .have:=one a ha q;have:=one b hb J;subst this;subst a;rfl
   rw[aY J,aY J];omega
  .rw[aY ca,aW cb]at hab;omega
  .rw[aW ca,aY cb]at hab;omega
  rw[aW ca,aW cb]at hab
  rw[aW J,aW J];omega
 refine no (fun a b ha hb hab=> ?_) (Tj (k:=(k:Int)) J fun q=>c1 (by have:=q.1;rw[nj J,eC]at this;omega))
 have one:∀a,a<n->cr jX a≠k:=fun a ha e=>c1 (by have:=(hr.ok a J).2;rw[e]at this;exact this)
 have:=one a ha;have:=one b hb
 unfold NO at hab⊢
 by_cases ca:cr jX a<k+1<;>by_cases cb:cr jX b<k+1
 .rw[aY ca,aY cb]at hab
  rw[aY J,aY J];omega
 .rw[aY ca,aW cb]at hab;omega
 .rw[aW ca,aY cb]at hab;omega
 rw[aW ca,aW cb]at hab
 rw[aW J,aW J];omega
theorem CoA.all(hq:Wt aq bf n qs)(hu:Ph us qs n)(hr:RgN aq bf qs jX n w0 rs)(h:CoA aq bf qs cl jX n X w0 0 c):∀k,k<=n->CoA aq bf qs cl jX n X w0 k (coA jX us aq bf rs c k)
 |0,_=>h
 |k+1,hk=>by
  have e:=C0 (cl:=jX) (us:=us) (aq:=aq) (bf:=bf) (rs:=rs) (s:=c) (k:=(k:Int)) J
  rw[show((k:Int)+1).toNat=k+1 by omega,eC]at e
  rw[e];exact(CoA.all hq hu hr h k J).step hq hu hr J
theorem Wt.pl(h:Wt aq bf n qs):V7 n qs:=fun q hq hp=>by
 obtain⟨h1,h2⟩:=h q hq
 obtain⟨a,b,_,_⟩:=EN h1 h2 hp
 refine⟨?_,a,b.2⟩
 obtain⟨y,hy,ho,h0⟩:=Hf hp
 have:=h1.var y (by rw[hy];simp) ho
 rw[h2,hy];unfold dB;simp[ho,this.1,tW]
theorem anX{cs:List (List Nat)}{ak:List El}{bp:List (BitVec 64)}{P:Nat->Prop}(hq:Wt aq bf n qs)(hc:BM (bB cs))(hl:(bB cs).length=n)
  (si:mS (kH aq bf n) (fun i=>uS aq n (qs.getD i cX)) (fun i=>(qs.getD i cX).why) qs.length (O5 aq n qs) (vQ ak) (wQ bp) (cr (bB cs)) P):
  MgK (bB cs) (bB (tw cs (pF (cw n qs)) n)) (pF (cw n qs)) n n/\RgN aq bf qs (bB (tw cs (pF (cw n qs)) n)) n bp (CZ (bB (tw cs (pF (cw n qs)) n)) bp n qs):=by
 have gl:(cw n qs).length=n:=FU n qs
 have hp:=hq.pl
 have hpv:∀q∈qs,Ft q=true->0<=yH q:=fun q h1 h2=>(hp q h1 h2).2.1.1
 have oin:∀v,v<n->0<=(pF (cw n qs)).getD v 0/\(pF (cw n qs)).getD v 0<n:=fun v hv=>by
  obtain⟨j,e,hj⟩:=(Tq (gl:=cw n qs) (v:=v) J).is
  have:=anV hj.1 J
  omega
 have mg:=ajw hc hl oin n (eu _)
 have l2:(bB (tw cs (pF (cw n qs)) n)).length=n:=by rw[xB];exact hl
 have hR:=anU (ws:=bp) mg.ok l2 hp
 refine⟨mg,?_⟩
 generalize bB (tw cs (pF (cw n qs)) n)=jX at*
 have both:∀a b,a<n->b<n->tS (wv (cw n qs)) a b->cr jX a=cr jX b:=fun a b ha hb h=>by
  rw[mg.aiI a ha,mg.aiI b hb,ajx J J h]
 have arc:∀a b,wv (cw n qs) a b->∃q∈qs,Ft q=true/\yH q=a/\q.to.var=b:=fun a b h=>axU hpv h
 have ash:∀a b,wv (cw n qs) a b->(kH aq bf n).sh a=(kH aq bf n).sh b:=fun a b h=>by
  obtain⟨q,h1,h2,h3,h4⟩:=arc a b h
  have:=(EN (hq q h1).1 (hq q h1).2 h2).2.2.2
  rwa[h3,h4,eC,eC]at this
 have wsh:∀a b,j6 (wv (cw n qs)) a b->(kH aq bf n).sh a=(kH aq bf n).sh b:=fun a b h=>by
  induction h with
  |refl=>rfl
  |step _ e ih=>exact ih.trans (ash _ _ e)
 have ach:∀a b:Nat,a<n->(b:Int)=(pF (cw n qs)).getD a 0->tS (wv (cw n qs)) a b:=fun a b ha e=>by
  obtain⟨j,ej,hj⟩:=(Tq (gl:=cw n qs) (v:=a) J).is
  have:b=j:=J
  subst this;exact hj
 refine⟨mg.ok,l2,fun v hv hvv=> ?_,fun a b ha hb e=> ?_,hR.1⟩
 .have aEX:∀(z:Nat) (Q:tT->Prop),qP (kH aq bf n) Q fun j=>j=z:=fun z Q u hu i k hi hk=>by
   rw[hi,hk];exact fun _ _=>rfl
  refine ajl fun i k hi hk=> ?_
  have w:=mg.way i k hi.1 hk.1 (by rw[hi.2,hk.2])
  have step:∀a b,EQ (bB cs) (pF (cw n qs)) n n a b->cr jX a=v->j6 (fun a b=>(∃q,O5 aq n qs ((CZ jX bp n qs).getD v 0) q/\FY (kH aq bf n) q a b)\/∃D:Nat->Prop,D a/\D b/\qP (kH aq bf n) (O5 aq n qs ((CZ jX bp n qs).getD v 0)) D) a b/\cr jX b=v:=by
   have kn:∀a b,a<n->b<n->tS (wv (cw n qs)) a b->cr jX a=v->j6 (fun a b=>(∃q,O5 aq n qs ((CZ jX bp n qs).getD v 0) q/\FY (kH aq bf n) q a b)\/∃D:Nat->Prop,D a/\D b/\qP (kH aq bf n) (O5 aq n qs ((CZ jX bp n qs).getD v 0)) D) a b:=fun a b ha hb hab hav=>
    ajy (E:=wv (cw n qs)) (fun y c e hy hc'=>by
     by_cases q:y=c
     .subst q;exact .inr ⟨fun j=>j=y,rfl,rfl,aEX y _⟩
     obtain⟨q2,h1,h2,h3,h4⟩:=arc y c e
     have yn:y<n:=by have:=e.1;omega
     have cn:c<n:=by have:=e.2.1;omega
     have cy:cr jX y=v:=by rw[<-both a y ha yn hy];exact hav
     have cc:cr jX c=v:=by rw[<-both a c ha cn hc'];exact hav
     have hw:=hR.2 q2 h1 h2 J (by rw[h3,h4,eC,eC,cy,cc])
     rw[h4,eC,cc]at hw
     have hpq:=(EN (hq q2 h1).1 (hq q2 h1).2 h2).2.2.1
     rw[h3,h4,eC,eC]at hpq
     obtain⟨i,hi,ei⟩:=ur h1
     exact .inl ⟨_,⟨i,hi,by rw[getD_eq hi,ei],by rw[getD_eq hi,ei];exact hw⟩,hpq⟩) hab.1 hab.2
   rintro a b ⟨ha,hb,hs|⟨_,hs⟩|⟨_,hs⟩⟩ hav
   .have e2:=mg.more a b ha hb hs
    refine⟨.one (.inr ⟨fun j=>j<n/\cr (bB cs) j=cr (bB cs) a,⟨ha,rfl⟩,⟨hb,hs.symm⟩,?_⟩),by rw[<-e2];exact hav⟩
    have:=(si.ring a a ha ha O).2.2.2
    have hs2:=hR.1 a ha
    rw[hav]at hs2
    exact this.more fun q hq=>si.mok _ _ _ hs2 hq
   .have XE:=ach a b ha hs
    exact⟨kn a b ha hb XE hav,by rw[<-both a b ha hb XE];exact hav⟩
   have XE:=ach b a hb hs
   have hb3:tS (wv (cw n qs)) a b:=⟨XE.2,XE.1⟩
   exact⟨kn a b ha hb hb3 hav,by rw[<-both a b ha hb hb3];exact hav⟩
  have key:∀b,j6 (EQ (bB cs) (pF (cw n qs)) n n) i b->j6 (fun a b=>(∃q,O5 aq n qs ((CZ jX bp n qs).getD v 0) q/\FY (kH aq bf n) q a b)\/∃D:Nat->Prop,D a/\D b/\qP (kH aq bf n) (O5 aq n qs ((CZ jX bp n qs).getD v 0)) D) i b/\cr jX b=v:=fun b wb=>by
   induction wb with
   |refl=>exact⟨.refl _,hi.2⟩
   |step _ e ih=>obtain⟨s1,s2⟩:=step _ _ e ih.2;exact⟨ih.1.trans s1,s2⟩
  exact(key k w).1
 have w:=mg.way a b ha hb e
 induction w with
 |refl=>rfl
 |step w1 e1 ih=>
  obtain⟨h1,h2,h3⟩:=e1
  have e3:∀x y,x<n->y<n->EQ (bB cs) (pF (cw n qs)) n n x y->cr jX x=cr jX y/\(kH aq bf n).sh x=(kH aq bf n).sh y:=fun x y hx hy hs=>by
   rcases hs.2.2 with q|⟨_,q⟩|⟨_,q⟩
   .exact⟨mg.more x y hx hy q,(si.ring x y hx hy q).1⟩
   .have:=ach x y hx q
    exact⟨both x y hx hy this,wsh _ _ this.1⟩
   have:=ach y x hy q
   exact⟨(both y x hy hx this).symm,wsh _ _ this.2⟩
  have:=e3 _ _ h1 h2 ⟨h1,h2,h3⟩
  exact(ih h1 (by rw[this.1];exact e)).trans this.2
end
structure zc(s:NP):Prop where
 ok:Em s
 fit:Wt s.aq s.bf s.ak.length s.qs
 us:s.us=(List.range s.ak.length).map (yq s.qs)
 cl:BM (bB s.cs)
 si:mS (kH s.aq s.bf s.ak.length) (fun i=>uS s.aq s.ak.length (s.qs.getD i cX)) (fun i=>(s.qs.getD i cX).why) s.qs.length (O5 s.aq s.ak.length s.qs) (vQ s.ak) (wQ s.bp) (cr (bB s.cs)) fun i=>s.sn<=i
def muM(s:NP):Nat:=s.qs.length+((s.qs.map fun q=>gJ (zI s.aq q)*q.vars.length).sum).toNat
theorem Ph.of{us:List j5}{qs:List dD}{n:Nat}(h:qu us=(List.range n).map (yq qs)):Ph us qs n:=by
 have hl:us.length=n:=by have:=aK List.length h;rwa[gz,gA,RD]at this
 refine⟨hl,fun k hk=> ?_⟩
 rw[<-C2,h,eV,qC,zN hk];rfl
noncomputable abbrev pI(us:List j5)(s:NP):CoO:=s5 s.cs us s.aq s.bf s.qs s.sn s.ak.length ⟨s.ak,s.bp,[],List.replicate s.qs.length false⟩
abbrev JN(s:NP)(cl:List Nat):za->Prop:=ZY s.aq s.bf s.qs (cr cl) s.ak.length fun _=>False
theorem Tr{s:NP}(h:zc s){us:List j5}(yp:qu us=s.us):ZY s.aq s.bf s.qs (cr (bB (pI us s).cs)) s.ak.length (fun i=>s.sn<=(i:Int)) (pI us s).s/\BM (bB (pI us s).cs)/\(bB (pI us s).cs).length=s.ak.length/\(pI us s).j<=s.ak.length:=by
 have hu:=Ph.of (yp.trans h.us)
 have h0:QJ s.qs.length s.ak.length s.ak.length ⟨s.ak,s.bp,[],List.replicate s.qs.length false⟩:=⟨rfl,h.ok.QL,aJ,Ja _⟩
 have j0:ZY s.aq s.bf s.qs (cr (bB s.cs)) s.ak.length (fun i=>s.sn<=(i:Int)) ⟨s.ak,s.bp,[],List.replicate s.qs.length false⟩:=⟨h0,h.si.ajk fun i _ q=> .inr q⟩
 unfold pI s5
 split
 .obtain⟨mg,rg⟩:=anX h.fit h.cl h.ok.oF h.si
  simp only
  split
  .rename_i hle
   have e:=ZZ h.cl mg.ok (by rw[xB]) (fun a b ha hb=>mg.more a b (by have:=h.ok.oF;omega) (by have:=h.ok.oF;omega)) hle
   have oF:=h.ok.oF
   refine⟨⟨j0.ck,j0.si.ajz fun i k hi hk q=> ?_⟩,mg.ok,rg.len,nQ _⟩
   have hi':i<s.ak.length:=hi;have hk':k<s.ak.length:=hk
   rw[e i J,e k J]at q;exact q
  have oF:=h.ok.oF
  have c0:CoA s.aq s.bf s.qs (bB s.cs) (bB (tw s.cs (pF (cw s.ak.length s.qs)) s.ak.length)) s.ak.length (fun i=>s.sn<=(i:Int)) s.bp 0 ⟨s.ak,s.bp,[],List.replicate s.qs.length false⟩:=⟨⟨j0.ck,j0.si.ajz fun i k hi hk q=>by
   unfold NO at q
   rw[aW J,aW J]at q;omega⟩,fun j _ _=>rfl⟩
  have ca:=CoA.all h.fit hu rg c0 s.ak.length (eu _)
  refine⟨⟨ca.j.ck,ca.j.si.ajz fun i k hi hk q=> ?_⟩,mg.ok,rg.len,by have:=anW mg.ok s.ak.length;rw[rg.len]at this;exact this⟩
  have hi':i<s.ak.length:=hi;have hk':k<s.ak.length:=hk
  have h1:=mg.ok i (by rw[rg.len];exact hi');have h2:=mg.ok k (by rw[rg.len];exact hk')
  unfold NO
  rw[aY J,aY J,q]
 exact⟨j0,h.cl,h.ok.oF,nQ _⟩
theorem Wx{s:NP}(h:zc s){us:List j5}(yp:qu us=s.us):JN s (bB (pI us s).cs) (Wj (pI us s).s s.sn s.qs.length)/\muN s.aq s.bf s.ak.length s.qs (Wj (pI us s).s s.sn s.qs.length)<=muM s:=by
 obtain⟨j,_,_,_⟩:=Tr h yp
 have ck:=atc (c:=(pI us s).s) j.ck (sn:=s.sn) h.ok.XB.1
 have hup:∀i∈upI s.sn ((s.qs.length:Int)-s.sn).toNat,0<=i/\i<((pI us s).s.wi.length:Int):=fun i hi=>by
  obtain⟨x,hx,rfl⟩:=fN.1 hi
  have:=ou.1 hx
  have:=j.ck.li
  have:=h.ok.XB
  omega
 have hs:=h.ok.XB
 refine⟨⟨ck,j.si.ajk fun i hi hp=> .inl ?_⟩,?_⟩
 .rcases hp with q|q
  .exact He q
  refine Tm j.ck.wq hup ?_
  exact fN.2 ⟨((i:Int)-s.sn).toNat,ou.2 J,J⟩
 have h1:=ck.wq.len
 have h2:=ck.li
 have h3:pG (kH s.aq s.bf s.ak.length) (Tl s.aq s.ak.length s.qs) (vQ (pI us s).s.ak) s.ak.length<=((s.qs.map (uS s.aq s.ak.length)).map fun q=>gJ q.sh*q.vars.length).sum:=V6 fun q hq x hx=>by
  obtain⟨p,hp,rfl⟩:=fN.1 hq
  exact aiV (h.fit p hp).1 hx
 rw[RT]at h3
 have e:s.qs.map ((fun q:tT=>gJ q.sh*(q.vars.length:Int))∘uS s.aq s.ak.length)=s.qs.map fun q=>gJ (zI s.aq q)*(q.vars.length:Int):=HR fun q hq=>by
  show gJ (zI s.aq q)*((uS s.aq s.ak.length q).vars.length:Int)=_
  rw[Hg (h.fit q hq).2,gA]
 rw[e]at h3
 unfold muN muM
 show(Wj (pI us s).s s.sn s.qs.length).wl.length+(pG _ _ (vQ (pI us s).s.ak) _).toNat<=_
 omega
theorem JU{sh:Sh}{l:List dX}{v v':List El}(h:∀x∈l,x.op=1->0<=x.n/\x.n<v.length/\x.n<v'.length/\v.getD x.n.toNat df=v'.getD x.n.toNat df):eA sh l v=eA sh l v':=by
 have hs:∀(m:List dX),(∀x∈m,x∈l)->∀o,m.foldl (Bl sh v) o=m.foldl (Bl sh v') o:=by
  intro m
  induction m with
  |nil=>intros;rfl
  |cons x m ih=>
   intro hm o
   have e:Bl sh v o x=Bl sh v' o x:=by
    unfold Bl
    by_cases c:x.op=1
    .obtain⟨h0,h1,h2,h3⟩:=h x (hm x aJ) c
     simp only[c,uB,aY (show 0<=x.n/\x.n<v.length from⟨h0,h1⟩),aY (show 0<=x.n/\x.n<v'.length from⟨h0,h2⟩),h3]
    simp only[c,x7]
   rw[pq,pq,e]
   exact ih (fun y hy=>hm y (gd _ hy)) _
 have e:ir sh v l l.length=ir sh v' l l.length:=hs _ (fun x hx=>uK hx) _
 unfold eA
 rw[e]
theorem NQ{sh:Sh}{code:List dX}{to:iS}{n n':Nat}(h:∀x∈code,x.op=1->0<=x.n/\x.n<n)(hn:n<=n'):CY n' sh code to=CY n sh code to:=by
 unfold CY
 congr 1
 funext u
 congr 1
 refine JU fun x hx ho=> ?_
 obtain⟨h0,h1⟩:=h x hx ho
 refine⟨h0,by simp;omega,by simp;omega,?_⟩
 rw[qQ J,qQ J]
theorem ajA{aq aqd:List pY}{bf:List Int}{n n':Nat}{q:dD}(h:ZM (kH aq bf n) (zI aq q) q.code q.to)(hn:n<=n')(hs:zI aqd q=zI aq q):uS aqd n' q=uS aq n q:=by
 unfold uS
 rw[hs]
 exact NQ (fun x hx ho=>by have:=h.var x hx ho;exact⟨this.1,this.2.1⟩) hn
section
variable{S S':Sys}{Q Q':Nat->tT}{y y':Nat->BitVec 64}{N:Nat}{M M':Qm}{v v':Va}{ws ws':Nat->BitVec 64}{rep ajB:Nat->Nat}{P:Nat->Prop}{q:tT}
theorem tU.wide(h:tU S q)(hn:S.n<=S'.n)(hs:∀i,i<S.n->S'.sh i=S.sh i):tU S' q:=by
 have hf:∀u,qv S' u->qv S u:=fun u hu i hi=>by rw[<-hs i hi];exact hu i J
 exact⟨fun u hu=>h.fit u (hf u hu),fun i hi=>by have:=h.lt i hi;omega,fun u w hu hw hl=>h.QE u w (hf u hu) (hf w hw) hl,fun k hk=>by
  obtain⟨h1,h2⟩:=h.to k hk
  exact⟨J,by rw[hs k h1];exact h2⟩⟩
theorem qv.less{u:Va}(h:qv S' u)(hn:S.n<=S'.n)(hs:∀i,i<S.n->S'.sh i=S.sh i):qv S u:=fun i hi=>by rw[<-hs i hi];exact h i J
theorem mS.wide(h:mS S Q y N M v ws rep P)(hn:S.n<=S'.n)(hs:∀i,i<S.n->S'.sh i=S.sh i)(hv:∀i,i<S.n->v' i=v i)(hw:∀i,i<S.n->ws' i=ws i)
  (hb:∀i,S.n<=i->i<S'.n->mJ (S'.sh i)=true/\v' i=gI (S'.sh i) ez) (hr:∀i k,i<S'.n->k<S'.n->ajB i=ajB k->i=k\/(i<S.n/\k<S.n/\rep i=rep k)):mS S' Q y N M v' ws' ajB P:=by
 have atk:∀(R:tT->Prop) u,u7 S' R u->u7 S R u:=fun R u hu=>⟨hu.fit.less hn hs,hu.hold⟩
 refine⟨fun i hi=>⟨(h.ok i hi).1.wide hn hs,(h.ok i hi).2⟩,h.all,h.mok,⟨fun i hi=> ?_,fun u hu i hi=> ?_⟩,fun k hk u hu=> ?_,fun i k hi hk e=> ?_,fun i hi hp=> ?_⟩
 .by_cases c:i<S.n
  .rw[hs i c,hv i c];exact h.low.fit i c
  obtain⟨h1,h2⟩:=hb i J hi
  rw[h2];exact(P8 h1).1
 .by_cases c:i<S.n
  .rw[hv i c];exact h.low.low u (atk _ u hu) i c
  obtain⟨h1,h2⟩:=hb i J hi
  rw[h2];exact(P8 h1).2 _ (hu.fit i hi)
 .by_cases c:k<S.n
  .rw[hv k c]
   rw[hw k c]at hu
   exact h.why k c u (atk _ u hu)
  obtain⟨h1,h2⟩:=hb k J hk
  rw[h2];exact(P8 h1).2 _ (hu.fit k hk)
 .have ring:qP S' (M (ws' i)) fun j=>j<S'.n/\ajB j=ajB i:=fun u hu a b ha XE=>by
   have h1:=hr a i ha.1 hi ha.2
   have h2:=hr b i XE.1 hi XE.2
   by_cases c:i<S.n
   .rw[hw i c]at hu
    refine(h.ring i i c c O).2.2.2 u (atk _ u hu) a b ?_ ?_
    .rcases h1 with e1|e1
     .rw[e1];exact⟨c,rfl⟩
     exact⟨e1.1,e1.2.2⟩
    rcases h2 with e1|e1
    .rw[e1];exact⟨c,rfl⟩
    exact⟨e1.1,e1.2.2⟩
   have ea:a=i:=h1.resolve_right fun q=>c q.2.1
   have eb:b=i:=h2.resolve_right fun q=>c q.2.1
   rw[ea,eb];exact fun _ _=>rfl
  rcases hr i k hi hk e with e1|⟨c1,c2,e1⟩
  .subst e1;exact⟨rfl,fun _ _=>rfl,rfl,ring⟩
  obtain⟨r1,r2,r3,_⟩:=h.ring i k c1 c2 e1
  exact⟨by rw[hs i c1,hs k c2];exact r1,by rw[hv i c1,hv k c2];exact r2,by rw[hw i c1,hw k c2];exact r3,ring⟩
 have ho:=(h.ok i hi).1
 have hold:=h.hold i hi hp
 have fv:qv S v':=fun j hj=>by rw[hv j hj];exact h.low.fit j hj
 have e1:cS ((Q i).ev v') ((Q i).ev v)=true:=ho.QE _ _ fv h.low.fit fun j hj=>by rw[hv j (ho.lt j hj)];exact kp _
 unfold fp tT.rhs at hold⊢
 cases ht:(Q i).to with
 |none=>rw[ht]at hold;exact fH e1 hold
 |some x=>
  rw[ht]at hold
  show cS _ (v' x)=true
  rw[hv x (ho.to x ht).1]
  exact fH e1 hold
theorem mS.congr(h:mS S Q y N M v ws rep P)(hq:∀i,i<N->Q' i=Q i/\y' i=y i):mS S Q' y' N M v ws rep P:=by
 refine⟨fun i hi=>by rw[(hq i hi).1,(hq i hi).2];exact h.ok i hi,fun a q ha=> ?_,h.mok,⟨h.low.fit,fun u hu=>h.low.low u ⟨hu.fit,fun q ⟨i,hi,e⟩=>hu.hold q ⟨i,hi,by rw[(hq i hi).1];exact e⟩⟩⟩,h.why,h.ring,fun i hi hp=>by rw[(hq i hi).1];exact h.hold i hi hp⟩
 obtain⟨i,hi,e⟩:=h.all a q ha
 exact⟨i,hi,by rw[(hq i hi).1];exact e⟩
end
theorem Em.var{s:NP}(h:Em s){l:Int}(hl:0<=l/\l<s.aq.length){e:El}(hn:s.ak.length<1000):Em (qZ s l e):=by
 have hln:(bB (S9 s.cs)).length=(bB s.cs).length+1:=by
  show((bB s.cs)++[(bB s.cs).length]).length=_
  simp
 have h1:=h.QL;have h2:=h.O4;have h3:=h.oF;have h4:=h.QM;have h5:=h.hlt
 refine⟨by simp[qZ,h1],by simp[qZ,h2],by show(bB (S9 s.cs)).length=_;rw[hln];simp[qZ,h3],by simp[qZ];omega,h.XB,h.hqn,fun q hq=> ?_,by simp[qZ,h5],fun k hk=> ?_,fun k hk=> ?_⟩
 .have:=h.hqo q hq
  refine⟨this.bf,this.code,?_,fun hp=> ?_,fun v hv=> ?_⟩
  .have:=this.to;simp[qZ];omega
  .have:=this.pl hp;simp[qZ];omega
  have:=this.vars v hv;simp[qZ];omega
 .show 0<=(s.bf++[l]).getD k 0/\(s.bf++[l]).getD k 0<s.aq.length
  rw[NJ]
  by_cases c:k<s.bf.length
  .rw[aY c];exact h.hlr k c
  have:k=s.bf.length:=by simp[qZ]at hk;omega
  rw[aW c,aY this];exact hl
 show((s.us++[[]]).getD k []).length<=1000/\∀i∈(s.us++[[]]).getD k [],0<=i/\i<(s.qs.length:Int)
 rw[NJ]
 by_cases c:k<s.us.length
 .rw[aY c];exact h.yp k c
 rw[aW c]
 split<;>exact⟨aJ,fun i hi=>by cases hi⟩
theorem zc.var{s:NP}(h:zc s){l:Int}(hl:0<=l/\l<s.aq.length)(hs:mJ (s.aq.getD l.toNat p5).p.sh=true){e:El}(he:e=gI (s.aq.getD l.toNat p5).p.sh ez)(hn:s.ak.length<1000):zc (qZ s l e):=by
 have hok:=h.ok
 have h1:=hok.QL;have h3:=hok.oF;have h5:=hok.hlt
 have el:(qZ s l e).ak.length=s.ak.length+1:=by simp[qZ]
 have hsh:∀i,i<s.ak.length->(kH s.aq (s.bf++[l]) (s.ak.length+1)).sh i=(kH s.aq s.bf s.ak.length).sh i:=fun i hi=>by
  show(s.aq.getD ((s.bf++[l]).getD i 0).toNat p5).p.sh=(s.aq.getD (s.bf.getD i 0).toNat p5).p.sh
  rw[oK J]
 have hq:∀i,uS s.aq (s.ak.length+1) (s.qs.getD i cX)=uS s.aq s.ak.length (s.qs.getD i cX):=fun i=>by
  by_cases c:i<s.qs.length
  .have hm:=dy (d:=cX) (l:=s.qs) (k:=(i:Int)) J J
   rw[eC]at hm
   exact ajA (h.fit _ hm).1 J O
  rw[eV,ot J]
  exact NQ (fun x hx=>by cases hx) J
 have hM:O5 s.aq (s.ak.length+1) s.qs=O5 s.aq s.ak.length s.qs:=by
  funext a q
  unfold O5
  exact propext ⟨fun⟨i,h1,h2,h3⟩=>⟨i,h1,by rw[<-hq];exact h2,h3⟩,fun⟨i,h1,h2,h3⟩=>⟨i,h1,by rw[hq];exact h2,h3⟩⟩
 refine⟨hok.var hl hn,fun q hq2=> ?_,?_,?_,?_⟩
 .obtain⟨hf,hv⟩:=h.fit q hq2
  rw[el]
  refine⟨⟨hf.right,fun x hx ho=> ?_,hf.con,hf.to0,fun h0=> ?_⟩,hv⟩
  .obtain⟨a,b,c⟩:=hf.var x hx ho
   have b':x.n<(s.ak.length:Int):=b
   exact⟨a,by show x.n<((s.ak.length+1:Nat):Int);omega,(hsh _ J).trans c⟩
  obtain⟨b,c⟩:=hf.to1 h0
  have b':q.to.var<(s.ak.length:Int):=b
  exact⟨by show q.to.var<((s.ak.length+1:Nat):Int);omega,(hsh _ J).trans c⟩
 .rw[el,vB,gP]
  show s.us++[[]]=_
  rw[h.us]
  have:yq s.qs s.ak.length=[]:=by
   refine Rp.2 fun i hi=> ?_
   obtain⟨h1,h2⟩:=C5.1 hi
   have:=(hok.hqo _ (dy (d:=cX) (l:=s.qs) h1.1 h1.2)).vars _ h2
   omega
  show _=(List.range s.ak.length).map (yq s.qs)++[yq s.qs s.ak.length]
  rw[this]
 .intro i hi
  show cr (bB s.cs++[(bB s.cs).length]) i<=i/\cr (bB s.cs++[(bB s.cs).length]) (cr (bB s.cs++[(bB s.cs).length]) i)=cr (bB s.cs++[(bB s.cs).length]) i
  have hi2:i<(bB s.cs).length+1:=by
   have:(bB (S9 s.cs)).length=(bB s.cs).length+1:=by show((bB s.cs)++[(bB s.cs).length]).length=_;simp
   exact this▸hi
  by_cases c:i<(bB s.cs).length
  .have q:=h.cl i c
   have e1:cr (bB s.cs++[(bB s.cs).length]) i=cr (bB s.cs) i:=oK c
   have e2:cr (bB s.cs++[(bB s.cs).length]) (cr (bB s.cs) i)=cr (bB s.cs) (cr (bB s.cs) i):=oK J
   rw[e1,e2];exact q
  have e1:cr (bB s.cs++[(bB s.cs).length]) i=i:=(s6 J).trans J
  rw[e1,e1];exact⟨eu _,rfl⟩
 rw[el]
 show mS (kH s.aq (s.bf++[l]) (s.ak.length+1)) (fun i=>uS s.aq (s.ak.length+1) (s.qs.getD i cX)) (fun i=>(s.qs.getD i cX).why) s.qs.length (O5 s.aq (s.ak.length+1) s.qs) (vQ (s.ak++[e])) (wQ (s.bp++[0])) (cr (bB s.cs++[(bB s.cs).length])) fun i=>s.sn<=i
 rw[hM,show(fun i=>uS s.aq (s.ak.length+1) (s.qs.getD i cX))=fun i=>uS s.aq s.ak.length (s.qs.getD i cX)from funext hq]
 refine h.si.wide (S':=kH s.aq (s.bf++[l]) (s.ak.length+1)) (Nat.le_succ _) hsh (fun i hi=>oK hi) (fun i hi=>oK (by have:i<s.ak.length:=hi;omega)) (fun i h1 h2=> ?_) fun i k hi hk he=> ?_
 .have h1':s.ak.length<=i:=h1
  have h2':i<s.ak.length+1:=h2
  have e1:(kH s.aq (s.bf++[l]) (s.ak.length+1)).sh i=(s.aq.getD l.toNat p5).p.sh:=by
   show(s.aq.getD ((s.bf++[l]).getD i 0).toNat p5).p.sh=_
   rw[s6 J]
  rw[e1]
  exact⟨hs,(s6 J).trans he⟩
 have hi':i<s.ak.length+1:=hi
 have hk':k<s.ak.length+1:=hk
 have hc:∀j,j<s.ak.length->cr (bB s.cs++[(bB s.cs).length]) j=cr (bB s.cs) j/\cr (bB s.cs) j<=j:=fun j hj=>⟨oK J,(h.cl j J).1⟩
 have hd:cr (bB s.cs++[(bB s.cs).length]) s.ak.length=s.ak.length:=(s6 J).trans J
 by_cases c1:i<s.ak.length<;>by_cases c2:k<s.ak.length
 .rw[(hc i c1).1,(hc k c2).1]at he
  exact .inr ⟨c1,c2,he⟩
 .have:k=s.ak.length:=J
  subst this
  rw[(hc i c1).1,hd]at he
  have:=(hc i c1).2;omega
 .have:i=s.ak.length:=J
  subst this
  rw[(hc k c2).1,hd]at he
  have:=(hc k c2).2;omega
 exact .inl J
theorem aeH{qs:List dD}{q:dD}{k:Nat}:yq (qs++[q]) k=yq qs k++if(k:Int)∈q.vars then[(qs.length:Int)]else[]:=by
 unfold yq
 rw[ed,ey,vB,Lz,gP]
 congr 1
 .congr 1
  refine List.filter_congr fun i hi=> ?_
  rw[oK (ou.1 hi)]
 rw[Cd,s6 O]
 by_cases c:(k:Int)∈q.vars
 .rw[aY LZ,aY c];rfl
 rw[aW LZ,aW c];rfl
structure NR(s:NP)(q:dD):Prop where
 bf:0<=q.bf/\q.bf<s.aq.length
 code:q.code.length<=1000
 fit:ZM (kH s.aq s.bf s.ak.length) (zI s.aq q) q.code q.to
 vars:q.vars=dB q.code
theorem NR.vin{s:NP}{q:dD}(h:NR s q):∀v∈q.vars,0<=v/\v<s.ak.length:=fun v hv=>by
 rw[h.vars]at hv
 obtain⟨x,hx,ho,h0,rfl⟩:=s4.1 hv
 have:x.n<(s.ak.length:Int):=(h.fit.var x hx ho).2.1
 exact⟨h0,this⟩
theorem NR.nd{s:NP}{q:dD}(h:NR s q):q.vars.Nodup:=by
 rw[h.vars]
 exact(Ny q.code).imp fun h=>by omega
theorem NR.qok{s:NP}{q:dD}(h:NR s q):QOk s.aq.length s.ak.length q:=by
 refine⟨h.bf,h.code,?_,fun hp=> ?_,h.vin⟩
 .by_cases c:q.to.var<0
  .omega
  have:q.to.var<(s.ak.length:Int):=(h.fit.to1 J).1
  exact this
 obtain⟨a,b,_,_⟩:=EN h.fit h.vars hp
 obtain⟨y,hy,ho,h0⟩:=Hf hp
 have:=h.fit.var y (by rw[hy];simp) ho
 refine⟨?_,a⟩
 rw[h.vars,hy];unfold dB;simp[ho,this.1,tW]
theorem anZ{qs:List dD}{k:Nat}:(yq qs k).length<=qs.length/\∀i∈yq qs k,0<=i/\i<(qs.length:Int):=by grind[C5,yq]
theorem aci{s:NP}{q:dD}(hu:s.us=(List.range s.ak.length).map (yq s.qs))(hf:NR s q):(BL s q).us=(List.range s.ak.length).map (yq (s.qs++[q])):=by
 have hl:s.us.length=s.ak.length:=by rw[hu];simp
 apply uu
 intro k
 show(q.vars.foldl (FW (s.qs.length:Int)) s.us)[k]?=_
 by_cases c:k<s.ak.length
 .have e1:=C4 (i:=(s.qs.length:Int)) (u:=s.us) (k:=k) hf.nd fun v hv=>by have:=hf.vin v hv;omega
  have lk:k<(q.vars.foldl (FW (s.qs.length:Int)) s.us).length:=by rw[p7];omega
  rw[getD_eq lk]at e1
  rw[eF lk,e1,qC,zN c,rp,aeH]
  congr 2
  rw[hu,eV,qC,zN c];rfl
 rw[ot (by rw[p7];omega),ot iW]
theorem Em.add{s:NP}(h:Em s)(hu:s.us=(List.range s.ak.length).map (yq s.qs)){q:dD}(hf:NR s q)(hn:s.qs.length<1000):Em (BL s q):=by
 have h2:=h.O4
 refine⟨h.QL,by show(q.vars.foldl _ s.us).length=_;rw[p7];exact h2,h.oF,h.QM,?_,by simp[BL];omega,fun p hp=> ?_,h.hlt,h.hlr,fun k hk=> ?_⟩
 .have:=h.XB;simp[BL];omega
 .rcases fh.1 hp with c|c
  .exact h.hqo p c
  rw[gG.1 c];exact hf.qok
 have CP:k<s.us.length:=by have:k<(q.vars.foldl (FW (s.qs.length:Int)) s.us).length:=hk;rwa[p7]at this
 rw[aci hu hf,eV,qC,zN J,rp,RI]
 have:=anZ (qs:=s.qs++[q]) (k:=k)
 rw[ed,ey]at this
 exact⟨J,fun i hi=>by have:=this.2 i hi;show 0<=i/\i<((s.qs++[q]).length:Int);rw[ed,ey];exact this⟩
theorem zc.add{s:NP}(h:zc s){q:dD}(hf:NR s q)(hn:s.qs.length<1000):zc (BL s q):=by
 have hu:=aci h.us hf
 have e0:uS s.aq s.ak.length ((s.qs++[q]).getD s.qs.length cX)=uS s.aq s.ak.length q:=by rw[s6 O]
 have e1:∀i,i<s.qs.length->(s.qs++[q]).getD i cX=s.qs.getD i cX:=fun i hi=>oK hi
 have hsub:∀a p,O5 s.aq s.ak.length s.qs a p->O5 s.aq s.ak.length (s.qs++[q]) a p:=fun a p ⟨i,hi,h1,h2⟩=>⟨i,by simp;omega,by rw[e1 i hi];exact h1,by rw[e1 i hi];exact h2⟩
 refine⟨h.ok.add h.us hf hn,fun p hp=> ?_,hu,h.cl,?_⟩
 .rcases fh.1 hp with c|c
  .exact h.fit p c
  rw[gG.1 c];exact⟨hf.fit,hf.vars⟩
 show mS (kH s.aq s.bf s.ak.length) (fun i=>uS s.aq s.ak.length ((s.qs++[q]).getD i cX)) (fun i=>((s.qs++[q]).getD i cX).why) (s.qs++[q]).length (O5 s.aq s.ak.length (s.qs++[q])) (vQ s.ak) (wQ s.bp) (cr (bB s.cs)) fun i=>s.sn<=i
 have hl:(s.qs++[q]).length=s.qs.length+1:=aJ
 rw[hl]
 refine mS.more (h.si.congr fun i hi=>⟨by rw[e1 i hi],by rw[e1 i hi]⟩) ?_ ?_ ?_ hsub (fun a p ⟨i,hi,h1,h2⟩=>⟨i,by rw[hl]at hi;exact hi,h1⟩) h.si.why (by have:=h.ok.XB;omega) fun i hi hp=>hp
 .show tU _ (uS s.aq s.ak.length ((s.qs++[q]).getD s.qs.length cX))
  rw[e0];exact aiT hf.fit
 .show O5 _ _ _ ((s.qs++[q]).getD s.qs.length cX).why (uS s.aq s.ak.length ((s.qs++[q]).getD s.qs.length cX))
  exact⟨s.qs.length,by rw[hl];omega,rfl,tL _⟩
 exact fun a b p hab ⟨i,hi,h1,h2⟩=>⟨i,hi,h1,mq h2 hab⟩
theorem zc.start{s:NP}(h1:s.bf=[])(h2:s.ak=[])(h3:s.bp=[])(h4:s.us=[])(h5:s.qs=[])(h6:s.sn=0)(h7:s.cs=[[]]):zc s:=by
 obtain⟨aq,bf,ak,bp,us,qs,sn,cs,sk,wy,wr⟩:=s
 simp only at h1 h2 h3 h4 h5 h6 h7
 subst h1;subst h2;subst h3;subst h4;subst h5;subst h6;subst h7
 refine⟨⟨rfl,rfl,rfl,aJ,aJ,aJ,(fun q hq=>by cases hq),rfl,(fun k hk=>by cases hk),fun k hk=>by cases hk⟩,(fun q hq=>by cases hq),rfl,(fun i hi=>by cases hi),?_⟩
 have hM:∀a q,¬O5 aq 0 [] a q:=fun a q ⟨i,hi,_⟩=>by cases hi
 exact(mS.start (P:=fun i=>(0:Int)<=i) hM (fun i hi=>by cases hi) (fun i hi=>by cases hi)).ajz fun i k hi=>by cases hi
def vb(S:Sys)(Q:tT->Prop):Prop:=∃u,qv S u/\∀q,Q q->fp q u
theorem vb.sol{S:Sys}{Q:tT->Prop}{u:Va}(h:qv S u)(hq:∀q,Q q->fp q u):u7 S Q u:=⟨h,fun q h1 _=>hq q h1⟩
theorem nU.aEZ{S:Sys}{Q:tT->Prop}{v:Va}(h:nU S Q v)(ho:∀q,Q q->tU S q):vb S Q↔∀q,Q q->q.to=none->fp q v:=by
 constructor
 .rintro⟨u,hu,hq⟩ q h1 h2
  exact Lo fun hn=>(h.low.ap4 (ho q h1) h2 hn) u (vb.sol hu hq) (hq q h1)
 intro hh
 refine⟨v,h.low.fit,fun q h1=> ?_⟩
 by_cases c:q.to=none
 .exact hh q h1 c
 exact h.sol q h1 c
theorem vb.less{S:Sys}{Q Q':tT->Prop}(h:vb S Q')(hq:∀q,Q q->Q' q):vb S Q:=by
 obtain⟨u,h1,h2⟩:=h
 exact⟨u,h1,fun q O6=>h2 q (hq q O6)⟩
def QN(s:NP):tT->Prop:=fun q=>∃i,i<s.qs.length/\q=uS s.aq s.ak.length (s.qs.getD i cX)
abbrev SN(s:NP):Sys:=kH s.aq s.bf s.ak.length
abbrev MN(s:NP):Qm:=O5 s.aq s.ak.length s.qs
def aE0(s:NP)(c:za)(cs:List (List Nat)):NP:=NP.mk s.aq s.bf c.ak c.bp s.us s.qs s.qs.length cs s.sk s.wy s.wr
theorem zc.settled{s:NP}(h:zc s){us:List j5}(yp:qu us=s.us){c:za}(hj:JN s (bB (pI us s).cs) c)(hw:c.wl=[]):
  zc (aE0 s c (pI us s).cs)/\nU (SN s) (QN s) (vQ c.ak)/\(∀q,QN s q->fp q (vQ c.ak))/\FR (SN s) (MN s) (vQ c.ak) (wQ c.bp):=by
 obtain⟨_,j1,j2,_⟩:=Tr h yp
 have si:=hj.si.ajk (P':=fun _=>False) fun i hi q=>by
  rcases q with q|q
  .rw[hw]at q;cases q
  exact q
 have hv:c.ak.length=s.ak.length:=hj.ck.lv
 have hy:c.bp.length=s.ak.length:=hj.ck.ly
 have hk:=h.ok
 refine⟨⟨⟨hy.trans hv.symm,hk.O4.trans hv.symm,j2.trans hv.symm,by show c.ak.length<=1000;rw[hv];exact hk.QM,⟨Int.natCast_nonneg _,mc _⟩,hk.hqn,?_,hk.hlt.trans hv.symm,hk.hlr,hk.yp⟩,?_,?_,j1,?_⟩,si.done.1,fun q ⟨i,hi,e⟩=>e▸si.done.2 i hi,si.why⟩
 .show ZS s.aq.length c.ak.length s.qs;rw[hv];exact hk.hqo
 .show Wt s.aq s.bf c.ak.length s.qs;rw[hv];exact h.fit
 .show s.us=(List.range c.ak.length).map (yq s.qs);rw[hv];exact h.us
 show mS (kH s.aq s.bf c.ak.length) (fun i=>uS s.aq c.ak.length (s.qs.getD i cX)) (fun i=>(s.qs.getD i cX).why) s.qs.length (O5 s.aq c.ak.length s.qs) (vQ c.ak) (wQ c.bp) (cr (bB (pI us s).cs)) fun i=>(s.qs.length:Int)<=i
 rw[hv]
 exact si.ajk fun i hi q=>q.elim
theorem zc.stuck{s:NP}(h:zc s){us:List j5}(yp:qu us=s.us){c:za}(hj:JN s (bB (pI us s).cs) c){wy Un:BitVec 64}(hr:SpR (bB (pI us s).cs) us s.aq s.qs c false wy Un):¬vb (SN s) (QN s)/\¬vb (SN s) (MN s Un):=by
 rcases hr with⟨q,_⟩|⟨_,x,wl,hw,hl,hy⟩
 .cases q
 obtain⟨ak,bp,cwl,wi⟩:=c
 simp only at hw hl hy
 subst hw
 obtain⟨hx,ck⟩:=hj.ck.take
 have Ui:x.toNat<s.qs.length:=J
 obtain⟨hf,hvs⟩:=h.fit _ (dy (d:=cX) hx.1 hx.2)
 have lv:ak.length=s.ak.length:=hj.ck.lv
 have si:=hj.si
 simp only at si
 have key:(s.qs.getD x.toNat cX).to.var<0/\¬fp (uS s.aq s.ak.length (s.qs.getD x.toNat cX)) (vQ ak)/\Un=Pg (s.qs.getD x.toNat cX).why (wQ bp) (uS s.aq s.ak.length (s.qs.getD x.toNat cX)).vars:=by
  rw[Hg hvs,<-Tn,To lv]
  generalize s.qs.getD x.toNat cX=q at*
  unfold oc at hl hy
  split at hl
  .cases hl
  rename_i c1
  rw[aW c1]at hy
  split at hl
  .rename_i c2
   rw[aY c2]at hy
   split at hl
   .cases hl
   rename_i c3
   rw[aW c3]at hy
   exact⟨c2,by rw[aY c2];exact c3,hy⟩
  split at hl
  .cases hl
  .cases hl
 obtain⟨k1,k2,k3⟩:=key
 have hto:(uS s.aq s.ak.length (s.qs.getD x.toNat cX)).to=none:=by rw[ap9,aY k1]
 obtain⟨s1,s2⟩:=si.stuck Ui hto k2
 have hmem:=(si.ok x.toNat Ui).2
 rw[<-k3]at s2
 refine⟨fun⟨u,h1,h2⟩=>s1 u (vb.sol h1 h2) (h2 _ ⟨_,Ui,rfl⟩),fun⟨u,h1,h2⟩=>s2 u (vb.sol h1 h2) (h2 _ ?_)⟩
 rw[k3]
 exact si.mok _ _ _ (G5 _ _ _).1 hmem
def ze(s:lQ)(v:List El):Va:=fun i=>if(s.vars.getD i fq).kind=1 then v.getD i df else gI (iw s (s.vars.getD i fq).bf) ez
def Gk(s:lQ)(x:gL):tT:=CY s.vars.length (iw s x.bf) x.code x.to
def QP(s:lQ)(l:List gL):tT->Prop:=fun q=>∃x∈l,x.op=8/\q=Gk s x
section
variable{s:lQ}{l:List gL}{v:List El}{x:gL}
theorem Ec(h:kT s x=true)(ho:x.op=8):(0<=x.bf/\x.bf<s.aq.length)/\codeOk s x.bf x.code=true/\mv s x.bf x.to=true:=by grind[kT]
theorem acj{v kd bf:Int}(h:rB s v kd bf=true):(0<=v/\v<s.vars.length)/\(s.vars.getD v.toNat fq).kind=kd/\(s.vars.getD v.toNat fq).bf=bf:=by grind[rB]
theorem an0(h:codeOk s x.bf x.code=true){y:dX}(hy:y∈x.code)(ho:y.op=1):(0<=y.n/\y.n<s.vars.length)/\(s.vars.getD y.n.toNat fq).kind=1:=by
 simp only[codeOk,cL]at h
 have h2:=iQ.1 h.1 y hy
 simp only[wh,cL,qj,Cc,xg]at h2
 have:=acj (h2.1.resolve_left fun q=>q ho)
 exact⟨this.1,this.2.1⟩
theorem ajC(h:kT s x=true)(ho:x.op=8):tU (iI s) (Gk s x):=by
 obtain⟨h1,h2,h3⟩:=Ec h ho
 exact aiT (as7 h2 h3)
theorem Z0(h:kT s x=true)(ho:x.op=8)(hv:v.length=s.vars.length):(Gk s x).ev (ze s v)=(eA (iw s x.bf) x.code v).1:=by
 obtain⟨h1,h2,h3⟩:=Ec h ho
 show(eA _ _ ((List.range s.vars.length).map (ze s v))).1=_
 congr 1
 refine JU fun y hy hp=> ?_
 obtain⟨⟨a,b⟩,c⟩:=an0 h2 hy hp
 refine⟨a,by simp;omega,J,?_⟩
 rw[qQ J]
 unfold ze
 rw[aY c]
theorem Ts(h:kT s x=true)(ho:x.op=8)(ht:0<=x.to.var):x.to.var<s.vars.length/\(Gk s x).to=some x.to.var.toNat/\ze s v x.to.var.toNat=v.getD x.to.var.toNat df/\(s.vars.getD x.to.var.toNat fq).kind=1:=by
 obtain⟨h1,h2,h3⟩:=Ec h ho
 rw[mv,aW J]at h3
 obtain⟨a,b,c⟩:=acj h3
 refine⟨a.2,?_,by unfold ze;rw[aY b],b⟩
 show(if x.to.var<0 then none else some x.to.var.toNat)=_
 rw[aW J]
theorem atl(h:kT s x=true)(ho:x.op=8)(ht:0<=x.to.var)(hv:v.length=s.vars.length):fp (Gk s x) (ze s v)↔cS (eA (iw s x.bf) x.code v).1 (v.getD x.to.var.toNat df)=true:=by
 obtain⟨_,h2,h3,_⟩:=Ts (v:=v) h ho ht
 unfold fp tT.rhs
 rw[Z0 h ho hv,h2]
 simp only
 rw[h3]
theorem Z4(h:kT s x=true)(ho:x.op=8)(ht:x.to.var<0)(hv:v.length=s.vars.length):(Gk s x).to=none/\(fp (Gk s x) (ze s v)↔cS (eA (iw s x.bf) x.code v).1 x.to.c=true):=by
 have h2:(Gk s x).to=none:=by
  show(if x.to.var<0 then none else some x.to.var.toNat)=_
  rw[aY ht]
 refine⟨h2,?_⟩
 unfold fp tT.rhs
 rw[Z0 h ho hv,h2];exact Cm
structure Pj(s:lQ)(l:List gL)(v:List El):Prop where
 len:v.length=s.vars.length
 low:CX (iI s) (QP s l) (ze s v)
theorem zf(h:iZ s=true):(s.aq.length<=16/\s.vars.length<=64)/\(∀x∈s.aq,mJ x.zH.sh=true)/\∀v∈s.vars,(v.kind=1\/v.kind=2)/\0<=v.bf/\v.bf<s.aq.length:=by grind[iZ,M7,LW]
theorem atm(h:iZ s=true):∀i,i<(iI s).n->mJ ((iI s).sh i)=true:=by grind[iZ,iI,mJ,zf,fq,getD_eq,iw,dy]
theorem Pj.start(h:iZ s=true):Pj s l (M4 s.sc).labels:=by
 refine⟨by show(s.vars.map (Al s.sc)).length=_;simp,ab2 (atm h) fun i hi=> ?_⟩
 have hi':i<s.vars.length:=hi
 obtain⟨_,h2,h3⟩:=zf h
 have hv:=h3 (s.vars.getD i fq) (by rw[getD_eq hi'];exact qD hi')
 show ze s (s.vars.map (Al s.sc)) i=gI (iw s (s.vars.getD i fq).bf) ez
 unfold ze
 by_cases c:(s.vars.getD i fq).kind=1
 .rw[aY c,eV,qC,eF hi']
  rw[getD_eq hi']at c hv⊢
  show Al s.sc s.vars[i]=_
  unfold Al
  rw[aY ⟨c,hv.2.1,by show _<((s.aq.map fun l=>l.zH.sh).length:Int);rw[gA];exact hv.2.2⟩]
  congr 1
  show(s.aq.map fun l=>l.zH.sh).getD _ _=(s.aq.getD _ mP).zH.sh
  have:(s.vars[i]).bf.toNat<s.aq.length:=by have:=hv.2;omega
  rw[eV,qC,eF this,eV,eF this];rfl
 rw[aW c]
def aeI(s:lQ)(v:List El):Nat:=(pG (iI s) (fun _=>1) (ze s v) s.vars.length).toNat
theorem ajD{k:Nat}{e:El}(hk:k<v.length)(hc:(s.vars.getD k fq).kind=1):ze s (v.set k e)=G4 (ze s v) k e:=by
 funext i
 show(if(s.vars.getD i fq).kind=1 then(v.set k e).getD i df else gI (iw s (s.vars.getD i fq).bf) ez)=if i=k then e else if(s.vars.getD i fq).kind=1 then v.getD i df else gI (iw s (s.vars.getD i fq).bf) ez
 by_cases c:i=k
 .subst c
  rw[aY hc,aY O,eV,qh,aY O,aY hk];rfl
 rw[aW c]
 by_cases d:(s.vars.getD i fq).kind=1
 .rw[aY d,aY d,eV,qh,aW fun q=>c q.symm,<-eV]
 rw[aW d,aW d]
theorem Pj.raise(h:Pj s l v)(hm:x∈l)(ha:kT s x=true)(ho:x.op=8)(ht:0<=x.to.var)(hn:¬cS (eA (iw s x.bf) x.code v).1 (v.getD x.to.var.toNat df)=true):
  Pj s l (v.set x.to.var.toNat (eo (iw s x.bf) (v.getD x.to.var.toNat df) (eA (iw s x.bf) x.code v).1))/\aeI s (v.set x.to.var.toNat (eo (iw s x.bf) (v.getD x.to.var.toNat df) (eA (iw s x.bf) x.code v).1))<aeI s v:=by
 obtain⟨t1,t2,t3,t4⟩:=Ts (v:=v) ha ho ht
 have hk:x.to.var.toNat<v.length:=by have:=h.len;omega
 have io:=ajC ha ho
 have e1:=Z0 (v:=v) ha ho h.len
 have es:=ajD (e:=eo (iw s x.bf) (v.getD x.to.var.toNat df) (eA (iw s x.bf) x.code v).1) hk t4
 have hl:=h.low.raise ⟨x,hm,ho,rfl⟩ io t2
 rw[e1,t3]at hl
 have hks:=io.to _ t2
 have fk:=h.low.fit _ hks.1
 rw[hks.2,t3]at fk
 have fe:=io.fit _ h.low.fit
 rw[e1]at fe
 have fj:=IS fk fe
 have up:=Y4 fk fe
 have hp:=QF (S:=iI s) (U:=fun _=>1) (v:=ze s v) (k:=x.to.var.toNat) (e:=eo (iw s x.bf) (v.getD x.to.var.toNat df) (eA (iw s x.bf) x.code v).1) h.low.fit hks.1 (by rw[hks.2];exact fj) (by rw[t3];exact up.1) fun q=>hn (by
  rw[t3]at q
  exact fH up.2 (lB q))
 refine⟨⟨by rw[n8];exact h.len,by rw[es];exact hl⟩,?_⟩
 have h0:=La (U:=fun _=>1) hl.fit s.vars.length (eu _)
 unfold aeI
 rw[es]
 have Qq:(iI s).n=s.vars.length:=rfl
 have ej:(Gk s x).sh=iw s x.bf:=rfl
 rw[ej]at h0
 rw[Qq]at hp
 omega
theorem Pj.done(h:Pj s l v)(ha:∀x∈l,kT s x=true)(hh:∀x∈l,x.op=8->0<=x.to.var->cS (eA (iw s x.bf) x.code v).1 (v.getD x.to.var.toNat df)=true):nU (iI s) (QP s l) (ze s v):=by
 refine⟨h.low,?_⟩
 rintro q ⟨x,hx,ho,rfl⟩ hq
 by_cases c:0<=x.to.var
 .exact(atl (ha x hx) ho c h.len).2 (hh x hx ho c)
 exact absurd (Z4 (ha x hx) ho J h.len).1 hq
theorem NS(h:nU (iI s) (QP s l) (ze s v))(hl:v.length=s.vars.length)(ha:∀x∈l,kT s x=true):vb (iI s) (QP s l)↔∀x∈l,x.op=8->x.to.var<0->cS (eA (iw s x.bf) x.code v).1 x.to.c=true:=by
 rw[h.aEZ fun q ⟨x,hx,ho,e⟩=>e▸ajC (ha x hx) ho]
 constructor
 .intro hh x hx ho ht
  obtain⟨h1,h2⟩:=Z4 (ha x hx) ho ht hl
  exact h2.1 (hh _ ⟨x,hx,ho,rfl⟩ h1)
 rintro hh q ⟨x,hx,ho,rfl⟩ hq
 by_cases c:0<=x.to.var
 .rw[(Ts (v:=v) (ha x hx) ho c).2.1]at hq;cases hq
 exact(Z4 (ha x hx) ho J hl).2.2 (hh x hx ho J)
theorem FZ{p:ko}(h:lM p=true):iZ p.s=true/\∀x∈p.aO,kT p.s x=true:=by grind[lM]
theorem an1{K:Vu}{u:Value}{l:List El}{k m:Nat}{e:El}(h:oE K u 8 m (qX (l.flatMap pM) (k*8) (pM e)))(hk:k<l.length)(hm:m=l.length):oE K u 8 (l.set k e).length ((l.set k e).flatMap pM):=by simp_all[D7,cY]
end
structure zg(s:NP):Prop where
 ns:zc s
 lw:∀x∈s.aq,mJ x.p.sh=true/\x.low=gI x.p.sh ez
 nv:s.ak.length<=128
 nq:s.qs.length<=64
 wy:s.sk=false->s.wy=0
theorem ack{α:Type}{F:α->Int}{b:Int}:∀{l:List α},(∀x∈l,F x<=b)->(l.map F).sum<=b*l.length
 |[],_=>by simp
 |a::l,h=>by
  have h1:=h a aJ
  have h2:=ack (l:=l) fun x hx=>h x (gd _ hx)
  rw[lZ,Fj,eG,show((l.length+1:Nat):Int)=(l.length:Int)+1 by omega,Int.mul_add,Int.mul_one]
  omega
theorem zg.mu{s:NP}(h:zg s):muM s<=4200000:=by
 have hq:∀q∈s.qs,gJ (zI s.aq q)*(q.vars.length:Int)<=65536:=fun q hq=>by
  have hl:=h.ns.ok.hqo q hq
  have hs:mJ (zI s.aq q)=true:=(h.lw _ (dy hl.bf.1 hl.bf.2)).1
  have h1:0<=gJ (zI s.aq q)/\gJ (zI s.aq q)<=512:=by
   rw[gJ,aY hs];exact amI hs J J
  have h2:q.vars.length<=s.ak.length:=by
   have hn:(q.vars.map Int.toNat).Nodup:=by
    have e:q.vars.Nodup:=by rw[(h.ns.fit q hq).2];exact Wq q.code
    refine List.Pairwise.map _ ?_ (afL (S:=fun a b=>a.toNat≠b.toNat) ?_ e)
    .exact fun a b q=>q
    intro a b ha hb hab c
    have:=hl.vars a ha;have:=hl.vars b hb
    exact hab J
   have h3:(q.vars.map Int.toNat).length<=(List.range s.ak.length).length:=hn.length_le_of_subset fun x hx=>by
    obtain⟨a,ha,rfl⟩:=fN.1 hx
    have:=hl.vars a ha
    exact ou.2 J
   simpa using h3
  have h4:=h.nv
  have h5:gJ (zI s.aq q)*(q.vars.length:Int)<=512*128:=Int.mul_le_mul h1.2 J J J
  omega
 have h1:=ack hq
 have h2:=h.nq
 unfold muM
 omega
structure atn(s s':NP)(ok:Bool):Prop where
 net:zg s'
 aq:s'.aq=s.aq
 bf:s'.bf=s.bf
 qs:s'.qs=s.qs
 len:s'.ak.length=s.ak.length
 sk:s'.sk= !ok
 wr:s'.wr=s.wr
 yes:ok=true->nU (SN s) (QN s) (vQ s'.ak)/\(∀q,QN s q->fp q (vQ s'.ak))/\FR (SN s) (MN s) (vQ s'.ak) (wQ s'.bp)
 no:ok=false->s'.ak=s.ak/\s'.bp=s.bp/\¬vb (SN s) (QN s)/\¬vb (SN s) (MN s s'.wy)
theorem zc.skw{s:NP}(h:zc s)(b:Bool)(y:BitVec 64):zc {s with sk:=b,wy:=y}:=⟨⟨h.ok.QL,h.ok.O4,h.ok.oF,h.ok.QM,h.ok.XB,h.ok.hqn,h.ok.hqo,h.ok.hlt,h.ok.hlr,h.ok.yp⟩,h.fit,h.us,h.cl,h.si⟩
theorem ato{s:NP}(h:zg s)(hk:s.sk=false){us:List j5}(yp:qu us=s.us){c:za}{ok:Bool}{Un:BitVec 64}(hr:SpR (bB (pI us s).cs) us s.aq s.qs c ok s.wy Un)(hj:JN s (bB (pI us s).cs) c):
  atn s (if ok then(NP.mk s.aq s.bf c.ak c.bp s.us s.qs s.qs.length (pI us s).cs s.sk s.wy s.wr)else{s with sk:=true,wy:=Un}) ok:=by
 cases ok with
 |true=>
  rcases hr with⟨_,hw,_⟩|⟨q,_⟩
  .obtain⟨h1,h2,h3,h4⟩:=h.ns.settled yp hj hw
   have hv:c.ak.length=s.ak.length:=hj.ck.lv
   exact⟨⟨h1,h.lw,by show c.ak.length<=128;rw[hv];exact h.nv,h.nq,h.wy⟩,rfl,rfl,rfl,hv,hk,rfl,fun _=>⟨h2,h3,h4⟩,fun q=>by cases q⟩
  .cases q
 |false=>
  obtain⟨h1,h2⟩:=h.ns.stuck yp hj hr
  exact⟨⟨h.ns.skw true Un,h.lw,h.nv,h.nq,fun q=>by cases q⟩,rfl,rfl,rfl,rfl,rfl,rfl,fun q=>(by cases q),fun _=>⟨rfl,rfl,h1,h2⟩⟩
theorem aeJ{s:NP}(h:zg s){us:List j5}(yp:qu us=s.us):∀dc eN Km m6 x,JN s (bB (pI us s).cs) ⟨dc,eN,x::Km,m6⟩->∀r,oc (bB (pI us s).cs) us (zI s.aq (s.qs.getD x.toNat cX)) (s.qs.getD x.toNat cX) dc eN Km (m6.set x.toNat false) s.wy=r->r.ok=true->JN s (bB (pI us s).cs) ⟨r.ak,r.bp,r.wl,r.wi⟩/\muN s.aq s.bf s.ak.length s.qs ⟨r.ak,r.bp,r.wl,r.wi⟩<muN s.aq s.bf s.ak.length s.qs ⟨dc,eN,x::Km,m6⟩:=fun dc eN Km m6 x hj r hr hok=>by
 obtain⟨_,_,hl,_⟩:=Tr h.ns yp
 exact hj.look h.ns.fit (Ph.of (yp.trans h.ns.us)) hl hr hok
theorem zg.var{s:NP}(h:zg s){l:Int}(hl:0<=l/\l<s.aq.length)(hn:s.ak.length<128):zg (qZ s l (s.aq.getD l.toNat p5).low):=by
 have hx:=h.lw _ (dy (d:=p5) hl.1 hl.2)
 exact⟨h.ns.var hl hx.1 hx.2 J,h.lw,by simp[qZ];omega,h.nq,h.wy⟩
theorem zg.add{s:NP}(h:zg s){q:dD}(hf:NR s q)(hn:s.qs.length<64):zg (BL s q):=⟨h.ns.add hf J,h.lw,h.nv,by simp[BL];omega,h.wy⟩
structure tZ(p:lQ)(s:NP):Prop where
 lt:s.aq.map (fun x=>x.p.sh)=p.aq.map fun l=>l.zH.sh
 la:s.bf=p.vars.map sV.bf
 nv:s.ak.length=p.vars.length
section
variable{p:lQ}{s s':NP}{l:List gL}{x:gL}
theorem tZ.sh(h:tZ p s)(k:Nat):(s.aq.getD k p5).p.sh=(p.aq.getD k mP).zH.sh:=by
 have e:=aK (fun m:List Sh=>m.getD k Ed.sh) h.lt
 simp only[eV,qC]at e⊢
 cases h1:s.aq[k]?<;>cases h2:p.aq[k]?<;>simp only[h1,h2,Option.map_none,rp,Option.getD_none,RI]at e⊢<;>first|rfl|exact e
theorem tZ.len(h:tZ p s):s.aq.length=p.aq.length:=by have:=aK List.length h.lt;simpa using this
theorem tZ.bf(h:tZ p s)(i:Nat):s.bf.getD i 0=(p.vars.getD i fq).bf:=by grind[tZ,fq]
theorem tZ.sys(h:tZ p s):SN s=iI p:=by
 show(⟨s.ak.length,fun i=>(s.aq.getD (s.bf.getD i 0).toNat p5).p.sh⟩:Sys)=⟨p.vars.length,fun i=>(p.aq.getD (p.vars.getD i fq).bf.toNat mP).zH.sh⟩
 rw[h.nv]
 congr 1
 funext i
 rw[h.bf,h.sh]
theorem tZ.same(h:tZ p s)(h1:s'.aq=s.aq)(h2:s'.bf=s.bf)(h3:s'.ak.length=s.ak.length):tZ p s':=by grind[tZ]
theorem tZ.of(h:tZ p s)(hl:s.bf.length=s.ak.length)(v k:Int):ofB s.bf v k=true↔(0<=v/\v<p.vars.length)/\(p.vars.getD v.toNat fq).bf=k:=by grind[tZ,ofB,fq]
theorem tZ.fit(h:tZ p s)(hl:s.bf.length=s.ak.length)(ha:kT p x=true)(ho:x.op=8):wY s.aq s.bf x.bf x.code x.to=true:=by
 obtain⟨h1,h2,h3⟩:=Ec ha ho
 have e:=h.sh x.bf.toNat
 simp only[codeOk,cL]at h2
 rw[NH (q:=x.code.length) (by rw[h.len];exact h1) h2.2 J fun j a b=> ?_]
 .unfold NE
  unfold mv at h3
  by_cases c:x.to.var<0
  .rw[aY c]at h3⊢
   show cI (s.aq.getD x.bf.toNat p5).p.sh _=true
   rw[e];exact h3
  rw[aW c]at h3⊢
  have:=acj h3
  exact(h.of hl _ _).2 ⟨this.1,this.2.2⟩
 have hi:=iQ.1 h2.1 _ (dy (d:=bG) a b)
 simp only[wh,cL,qj,Cc,xg]at hi
 refine C3 ?_ ?_
 .rcases hi.1 with q|q
  .exact .inl q
  have:=acj q
  have:=(h.of hl _ _).2 ⟨this.1,this.2.2⟩
  simp only[ofB,eD]at this
  exact .inr this
 rcases hi.2 with q|q
 .exact .inl q
 refine .inr ?_
 show cI (s.aq.getD x.bf.toNat p5).p.sh _=true
 rw[e];exact q
end
theorem an2{s:NP}(hok:Em s){k:Int}{l:List dX}{t:iS}(h:wY s.aq s.bf k l t=true)(hl:l.length<=1000)(cv vv:Value)(y:BitVec 64):NR s ⟨k,cv,l,t,y,vv,dB l⟩:=by
 simp only[wY,cL,eD]at h
 obtain⟨⟨h1,h2⟩,h3,h4⟩:=h
 have of_:∀v,ofB s.bf v k=true->0<=v/\v<(s.ak.length:Int)/\(kH s.aq s.bf s.ak.length).sh v.toNat=shL s.aq k:=fun v hv=>by
  simp only[ofB,eD]at hv
  refine⟨hv.1,by have:=hok.hlt;omega,?_⟩
  show(s.aq.getD (s.bf.getD v.toNat 0).toNat p5).p.sh=_
  rw[hv.2.2];rfl
 refine⟨h1,hl,⟨h2,fun x hx ho=> ?_,fun x hx ho=> ?_,fun h0=> ?_,fun h0=> ?_⟩,rfl⟩
 .have hi:=iQ.1 h3 x hx
  simp only[FV,cL,qj,Cc,xg]at hi
  exact of_ _ (hi.1.resolve_left fun q=>q ho)
 .have hi:=iQ.1 h3 x hx
  simp only[FV,cL,qj,Cc,xg]at hi
  exact hi.2.resolve_left fun q=>q ho
 .rw[NE,aY h0]at h4;exact h4
 have h0':¬t.var<0:=by have:0<=t.var:=h0;omega
 rw[NE,aW h0']at h4
 have:=of_ _ h4
 exact⟨this.2.1,this.2.2⟩
def NT(i:Nat)(x:gL):Int×List dX×iS×BitVec 64:=(x.bf,x.code,x.to,(1#64)<<<i)
def Jc(q:dD):Int×List dX×iS×BitVec 64:=(q.bf,q.code,q.to,q.why)
def Bo(l:List gL)(k:Nat):List (Int×List dX×iS×BitVec 64):=((List.range k).filter fun i=>decide ((l.getD i dN).op=8)).map fun i=>NT i (l.getD i dN)
theorem QT{l:List gL}{k:Nat}:Bo l (k+1)=Bo l k++if(l.getD k dN).op=8 then[NT k (l.getD k dN)]else[]:=by grind[Bo,List.range_succ,dN]
section
variable{p:lQ}{s:NP}{l:List gL}{k:Nat}
theorem axV(h:tZ p s)(hq:s.qs.map Jc=Bo l k)(hk:k<=l.length):QN s=QP p (l.take k):=by
 funext q
 refine propext ⟨fun⟨i,hi,e⟩=> ?_,fun⟨x,hx,ho,e⟩=> ?_⟩
 .have hm:Jc (s.qs.getD i cX)∈Bo l k:=by rw[<-hq,getD_eq hi];exact fN.2 ⟨_,qD hi,rfl⟩
  obtain⟨j,hj,e2⟩:=fN.1 hm
  simp only[sG,ou,eD]at hj
  refine⟨l.getD j dN,?_,hj.2,?_⟩
  .rw[getD_eq J]
   exact HN.2 ⟨j,J,rfl⟩
  rw[e]
  simp only[NT,Jc,Yr]at e2
  obtain⟨a,b,c,_⟩:=e2
  unfold uS zI Gk iw
  rw[h.nv,h.sh,<-a,<-b,<-c]
 obtain⟨j,hj,e1⟩:=HN.1 hx
 have hj2:j<k/\j<l.length:=J
 have hm:NT j x∈Bo l k:=fN.2 ⟨j,by simp only[sG,ou,eD];exact⟨hj2.1,by rw[getD_eq hj2.2,e1];exact ho⟩,by rw[getD_eq hj2.2,e1]⟩
 rw[<-hq]at hm
 obtain⟨r,hr,e2⟩:=fN.1 hm
 obtain⟨i,hi,e3⟩:=vA.1 hr
 refine⟨i,hi,?_⟩
 rw[e,getD_eq hi,e3]
 simp only[NT,Jc,Yr]at e2
 obtain⟨a,b,c,_⟩:=e2
 unfold uS zI Gk iw
 rw[h.nv,h.sh,a,b,c]
end
theorem atp{cs:List (List Nat)}{us VD:List j5}{aq:List pY}{bf:List Int}{qs:List dD}{sn:Int}{n:Nat}{c:za}:(s5 cs us aq bf qs sn n c).cs=(s5 cs VD aq bf qs sn n c).cs:=by grind[s5]
def usB(s:NP):List j5:=s.us.map fun l=>⟨.slice none 0 0,l⟩
abbrev JB(s:NP):za->Prop:=JN s (bB (pI (usB s) s).cs)
abbrev muB(s:NP):za->Nat:=muN s.aq s.bf s.ak.length s.qs
theorem acm{s:NP}{us:List j5}:(pI us s).cs=(pI (usB s) s).cs:=atp
theorem axW{s:NP}(h:zg s):∀us:List j5,qu us=s.us->JB s (Wj (pI us s).s s.sn s.qs.length)/\muB s (Wj (pI us s).s s.sn s.qs.length)<=muM s/\∀dc eN Km m6 x,JB s ⟨dc,eN,x::Km,m6⟩->∀r,oc (bB (pI us s).cs) us (s.aq.getD (s.qs.getD x.toNat cX).bf.toNat p5).p.sh (s.qs.getD x.toNat cX) dc eN Km (m6.set x.toNat false) s.wy=r->r.ok=true->JB s ⟨r.ak,r.bp,r.wl,r.wi⟩/\muB s ⟨r.ak,r.bp,r.wl,r.wi⟩<muB s ⟨dc,eN,x::Km,m6⟩:=fun us yp=>by
 have hs:=Wx h.ns yp
 have hl:=aeJ h yp
 unfold JB
 rw[<-acm (us:=us)]
 exact⟨hs.1,hs.2,hl⟩
theorem ajF{s:NP}(h:zg s){us:List j5}(yp:qu us=s.us){c:za}{ok:Bool}{Un:BitVec 64}{a:Nat}(hr:SpR (bB (pI us s).cs) us s.aq s.qs c ok s.wy Un)(ha:a+muB s c<=muB s (Wj (pI us s).s s.sn s.qs.length)+(if ok then 0 else 1)):a<=muM s:=by
 have hm:=(Wx h.ns yp).2
 rcases hr with⟨e,_⟩|⟨e,x,wl,hw,_⟩
 .subst e;simp only[uB]at ha;unfold muB at ha;omega
 subst e
 have:1<=muB s c:=by unfold muB muN;rw[hw];simp only[eG];omega
 simp only[uL,x7]at ha
 unfold muB at ha this;omega
theorem Nq{ids:List Nat}{tl QU:List (Nat×Rl)}:∀{d:Wr},d.Fz ids tl->d.Fz ids (tl++QU)
 | .base p tb,h=>⟨h.1,fun i hi q hq=>dI _ (h.2 i hi q hq)⟩
 | .wrap m d,h=>⟨h.1,Nq h.2⟩
theorem XD.more{T:O3}{K:Vu}{ids:List Nat}{tl QU:List (Nat×Rl)}{x:pY}(h:XD T K ids tl x):XD T K ids (tl++QU) x:=⟨h.ops,Nq h.Fz,h.sh,h.zH,h.dep⟩
theorem ajG{p:lQ}(h:iZ p=true):∀l∈p.aq,l.zH.a6.length<=1000/\∀f∈l.zH.a6,f.names.length<=1000:=fun l hl=>by
 have hs:=n9 ((zf h).2.1 l hl)
 refine⟨by have:=pB l.zH;omega,fun f hf=> ?_⟩
 have:=(pO (hs.2.2 f.fc (fN.2 ⟨f,hf,rfl⟩))).1.2
 have e:f.fc.names=f.names:=rfl
 rw[e]at this;omega
structure Kn(p:lQ)(x:Value)(j:Nat)(s:NP):Prop where
 lt:s.aq.map (fun x=>x.p.sh)=p.aq.map fun l=>l.zH.sh
 la:s.bf=(p.vars.take j).map sV.bf
 nv:s.ak.length=j
 nw:zg s
 qs:s.qs=[]
 sk:s.sk=false
 wr:s.wr=x
structure NU(p:lQ)(j:Nat)(ls:List pY):Prop where
 lt:ls.map (fun x=>x.p.sh)=(p.aq.take j).map fun l=>l.zH.sh
 lw:∀x∈ls,mJ x.p.sh=true/\x.low=gI x.p.sh ez
def npL(ls:List pY)(x:Value):NP:=NP.mk ls [] [] [] [] [] 0 [[]] false 0 x
theorem NU.len{p:lQ}{j:Nat}{ls:List pY}(h:NU p j ls)(hj:j<=p.aq.length):ls.length=j:=by
 have:=aK List.length h.lt
 rw[gA,gA,ef]at this;omega
theorem NU.next{p:lQ}{k:Int}{ls:List pY}(h:NU p k.toNat ls)(h0:0<=k)(h1:k<p.aq.length){x:pY}(hs:mJ (p.aq.getD k.toNat mP).zH.sh=true)(hx:x.p.sh=(p.aq.getD k.toNat mP).zH.sh)(hw:x.low=gI (p.aq.getD k.toNat mP).zH.sh ez):NU p (k+1).toNat (ls++[x]):=by
 have hk:k.toNat<p.aq.length:=J
 refine⟨?_,fun y hy=> ?_⟩
 .rw[show(k+1).toNat=k.toNat+1 by omega,E7 hk,gP,gP,h.lt]
  simp only[lZ,Ci]
  rw[hx,getD_eq hk]
 rcases fh.1 hy with q|q
 .exact h.lw y q
 rw[gG.1 q,hx];exact⟨hs,hw⟩
theorem NU.fin{p:lQ}{k:Int}{ls:List pY}{x:Value}(h:NU p k.toNat ls)(h0:0<=k)(h1:¬k<p.aq.length):Kn p x 0 (npL ls x):=
 ⟨by show ls.map _=_;rw[h.lt,jg J],by simp[npL],rfl,⟨zc.start O O O O O O O,h.lw,by simp[npL],by simp[npL],fun _=>rfl⟩,rfl,rfl,rfl⟩
theorem Kn.next{p:lQ}{x:Value}{j:Int}{s:NP}(h:Kn p x j.toNat s)(h0:0<=j)(h1:j<p.vars.length)(hv:p.vars.length<=64)(hl:0<=(p.vars.getD j.toNat fq).bf/\(p.vars.getD j.toNat fq).bf<s.aq.length):Kn p x (j+1).toNat (qZ s (p.vars.getD j.toNat fq).bf (s.aq.getD (p.vars.getD j.toNat fq).bf.toNat p5).low):=by
 have hk:j.toNat<p.vars.length:=J
 have hn:=h.nv
 refine⟨h.lt,?_,by simp[qZ];omega,h.nw.var hl J,h.qs,h.sk,h.wr⟩
 rw[show(j+1).toNat=j.toNat+1 by omega,E7 hk,gP]
 show s.bf++[_]=_
 rw[h.la,getD_eq hk];rfl
theorem Kn.len{p:lQ}{x:Value}{j:Nat}{s:NP}(h:Kn p x j s):s.aq.length=p.aq.length:=by have:=aK List.length h.lt;simpa using this
theorem Kn.fin{p:lQ}{x:Value}{j:Int}{s:NP}(h:Kn p x j.toNat s)(h0:0<=j)(h2:j<=p.vars.length)(h1:¬j<p.vars.length):tZ p s:=by
 refine⟨h.lt,?_,by have:=h.nv;omega⟩
 rw[h.la,jg J]
structure axX(s s':NP)(ok:Bool):Prop where
 st:s.sk=true->ok=false/\s'=s
 go:s.sk=false->atn s s' ok
def tmS(s:NP)(lg:List (Value×mE))(tm:List Int):List Int:=if s.sk then tm else tm++[(lg.length:Int)]
theorem axZ{s:NP}{lg:List (Value×mE)}{tm:List Int}(h:s.sk=true):tmS s lg tm=tm:=by unfold tmS;rw[h];rfl
theorem ax0{s:NP}{lg:List (Value×mE)}{tm:List Int}(h:s.sk=false):tmS s lg tm=tm++[(lg.length:Int)]:=by unfold tmS;rw[h];rfl
def TmA(ok:Bool)(lg:List (Value×mE))(tm Uo:List Int):Prop:=Uo=if ok then tm++[(lg.length:Int)]else tm
structure Tt(s s':NP)(k:Int)(l:List dX)(t:iS)(y:BitVec 64)(ok:Bool):Prop where
 is:ok=true↔s.sk=false/\wY s.aq s.bf k l t=true
 add:ok=true->∃cv vv,s'=BL s ⟨k,cv,l,t,y,vv,dB l⟩
 same:ok=false->s'=s
theorem Tt.no{s:NP}{k:Int}{l:List dX}{t:iS}{y:BitVec 64}(h:¬(s.sk=false/\wY s.aq s.bf k l t=true)):Tt s s k l t y false:=by grind[NP,dX,iS,wY,Tt]
theorem Tt.yes{s:NP}{k:Int}{l:List dX}{t:iS}{y:BitVec 64}{cv vv:Value}(h:s.sk=false)(h2:wY s.aq s.bf k l t=true):Tt s (BL s ⟨k,cv,l,t,y,vv,dB l⟩) k l t y true:=⟨⟨fun _=>⟨h,h2⟩,fun _=>rfl⟩,fun _=>⟨_,_,rfl⟩,fun q=>by cases q⟩
structure Tu(s s':NP)(x:gL)(i:Nat)(ok:Bool):Prop where
 ne:x.op≠8->ok=true/\s'=s
 eq:x.op=8->Tt s s' x.bf x.code x.to (1#64<<<i) ok
def TmX(op:Int)(ok:Bool)(lg:List (Value×mE))(tm Uo:List Int):Prop:=if op=8 then TmA ok lg tm Uo else Uo=tm
theorem TmX.no{op:Int}{ok:Bool}{lg:List (Value×mE)}{tm:List Int}(h:op≠8):TmX op ok lg tm tm:=by grind[TmX]
theorem TmX.yes{op:Int}{ok:Bool}{lg:List (Value×mE)}{tm Uo:List Int}(h:op=8)(h2:TmA ok lg tm Uo):TmX op ok lg tm Uo:=by grind[TmX]
theorem aE2{i:Int}(h:0<=i/\i<=1000):(1#64<<<(BitVec.ofInt 64 i).toNat)=1#64<<<i.toNat:=by grind
def QPm(p:lQ)(l:List gL)(k:Nat)(a:BitVec 64):tT->Prop:=fun q=>∃j,j<k/\(l.getD j dN).op=8/\q=Gk p (l.getD j dN)/\ep (1#64<<<j) a=true
theorem ax1{p:lQ}{s:NP}{l:List gL}{k:Nat}(h:tZ p s)(hq:s.qs.map Jc=Bo l k):MN s=QPm p l k:=by
 have key:∀r:dD,∀x:gL,Jc r=NT 0 x\/(∃j,Jc r=NT j x)->uS s.aq s.ak.length r=Gk p x:=fun r x e=>by
  have e2:r.bf=x.bf/\r.code=x.code/\r.to=x.to:=by
   rcases e with e|⟨j,e⟩<;>(simp only[NT,Jc,Yr]at e;exact⟨e.1,e.2.1,e.2.2.1⟩)
  unfold uS zI Gk iw
  rw[h.nv,h.sh,e2.1,e2.2.1,e2.2.2]
 funext a q
 refine propext ⟨fun⟨i,hi,e,hs⟩=> ?_,fun⟨j,hj,ho,e,hs⟩=> ?_⟩
 .have hm:Jc (s.qs.getD i cX)∈Bo l k:=by rw[<-hq,getD_eq hi];exact fN.2 ⟨_,qD hi,rfl⟩
  obtain⟨j,hj,e2⟩:=fN.1 hm
  simp only[sG,ou,eD]at hj
  refine⟨j,hj.1,hj.2,by rw[e];exact key _ _ (.inr ⟨j,e2.symm⟩),?_⟩
  have e3:=aK (fun z=>z.2.2.2) e2
  simp only[NT,Jc]at e3
  rw[e3];exact hs
 have hm:NT j (l.getD j dN)∈Bo l k:=fN.2 ⟨j,by simp only[sG,ou,eD];exact⟨hj,ho⟩,rfl⟩
 rw[<-hq]at hm
 obtain⟨r,hr,e2⟩:=fN.1 hm
 obtain⟨i,hi,e3⟩:=vA.1 hr
 refine⟨i,hi,?_,?_⟩
 .rw[e,getD_eq hi,e3];exact(key _ _ (.inr ⟨j,e2⟩)).symm
 rw[getD_eq hi,e3]
 have e4:=aK (fun z=>z.2.2.2) e2
 simp only[NT,Jc]at e4
 rw[e4];exact hs
structure AI(p:lQ)(l:List gL)(k:Nat)(s:NP):Prop where
 np:tZ p s
 nw:zg s
 qs:s.qs.map Jc=Bo l k
theorem an3{l:List gL}{k:Nat}:(Bo l k).length<=k:=by grind[Bo]
section
variable{p:lQ}{l:List gL}{k:Nat}{s s':NP}{ok:Bool}
theorem AI.start(h1:tZ p s)(h2:zg s)(h3:s.qs=[]):AI p l 0 s:=⟨h1,h2,by rw[h3];rfl⟩
theorem AI.add(h:AI p l k s)(hk:k<l.length)(Sr:k<64)(ha:∀x∈l,kT p x=true)(hc:∀x∈l,x.code.length<=1000)(EC:s.sk=false)(hA:Tu s s' (l.getD k dN) k ok):ok=true/\AI p l (k+1) s'/\s'.sk=false/\s'.wr=s.wr/\s'.aq=s.aq:=by
 have hm:l.getD k dN∈l:=by rw[getD_eq hk];exact qD hk
 by_cases ho:(l.getD k dN).op=8
 .have hR:=hA.eq ho
  have hfb:=h.np.fit h.nw.ns.ok.hlt (ha _ hm) ho
  have hok:=hR.is.2 ⟨EC,hfb⟩
  obtain⟨cv,vv,e⟩:=hR.add hok
  have hf:=an2 h.nw.ns.ok hfb (hc _ hm) cv vv (1#64<<<k)
  have hq:s.qs.length<=k:=by have:=aK List.length h.qs;rw[gA]at this;have:=an3 (l:=l) (k:=k);omega
  subst e
  refine⟨hok,⟨⟨h.np.lt,h.np.la,h.np.nv⟩,h.nw.add hf J,?_⟩,EC,rfl,rfl⟩
  show(s.qs++[_]).map Jc=_
  rw[QT,aY ho,gP,h.qs];rfl
 obtain⟨h1,h2⟩:=hA.ne ho
 subst h2
 exact⟨h1,⟨h.np,h.nw,by rw[QT,aW ho,mG];exact h.qs⟩,EC,rfl,rfl⟩
theorem Tu.stuck{x:gL}{i:Nat}(hA:Tu s s' x i ok)(EC:s.sk=true):s'=s/\(ok=true↔x.op≠8):=by
 by_cases ho:x.op=8
 .have hR:=hA.eq ho
  have hno:ok=false:=by
   cases ok with
   |false=>rfl
   |true=>have:=(hR.is.1 O).1;rw[EC]at this;cases this
  exact⟨hR.same hno,⟨fun q=>(by rw[hno]at q;cases q),fun q=>absurd ho q⟩⟩
 obtain⟨h1,h2⟩:=hA.ne ho
 exact⟨h2,⟨fun _=>ho,fun _=>h1⟩⟩
structure atq(p:lQ)(l:List gL)(k:Nat)(s s':NP)(ok:Bool):Prop where
 net:AI p l k s'
 sk:s'.sk= !ok
 is:ok=true↔vb (iI p) (QP p (l.take k))
 low:ok=true->nU (iI p) (QP p (l.take k)) (vQ s'.ak)
 all:ok=true->∀q,QP p (l.take k) q->fp q (vQ s'.ak)
 why:ok=true->∀i,i<p.vars.length->∀u,u7 (iI p) (QPm p l k (s'.bp.getD i 0)) u->cS (s'.ak.getD i df) (u i)=true
 no:ok=false->¬vb (iI p) (QPm p l k s'.wy)
 same:ok=false->s'.ak=s.ak
theorem AI.set(h:AI p l k s)(hk:k<=l.length)(hS:atn s s' ok):atq p l k s s' ok:=by
 have e1:=h.np.sys
 have e2:=axV h.np h.qs hk
 have e3:=ax1 h.np h.qs
 have hl:AI p l k s':=⟨h.np.same hS.aq hS.bf hS.len,hS.net,by rw[hS.qs];exact h.qs⟩
 have hy:ok=true->_:=hS.yes
 have hn:ok=false->_:=hS.no
 rw[e1,e2,e3]at hy hn
 refine⟨hl,hS.sk,⟨fun q=>⟨_,(hy q).1.low.fit,(hy q).2.1⟩,fun q=> ?_⟩,fun q=>(hy q).1,fun q=>(hy q).2.1,fun q i hi u hu=>(hy q).2.2 i hi u hu,fun q=>(hn q).2.2.2,fun q=>(hn q).1⟩
 cases ok with
 |true=>rfl
 |false=>exact absurd q (hn O).2.2.1
end
theorem an4{p:ko}(h:lM p=true):p.aO.length<=64:=by grind[lM]
def xD:El:=tK df 0 1#64
def rQ(lv fv nv vv:Value):lQ:=⟨lv,[⟨⟨#[107]⟩,⟨false,fv,[⟨1,nv,wV,Rl.none⟩]⟩⟩],vv,[⟨⟨#[120]⟩,1,0⟩,⟨⟨#[121]⟩,1,0⟩]⟩
def a24(v:Value)(l:List dX)(t:iS):gL:=⟨8,0,v,l,t,amW,amW,0,qt⟩
def Bp(u v w:Value):List gL:=[a24 u [⟨2,0,xD⟩] ⟨0,df⟩,a24 v [⟨1,0,df⟩] ⟨1,df⟩,a24 w [⟨1,1,df⟩] ⟨-1,df⟩]
def N_:Value:= .slice none 0 0
theorem aE3(lv fv nv vv av u v w:Value):lM ⟨rQ lv fv nv vv,av,Bp u v w⟩=true:=(by decide+kernel:lM ⟨rQ N_ N_ N_ N_,N_,Bp N_ N_ N_⟩=true)
def C6(a b:El):Va:=fun i=>if i=0 then a else b
theorem Bq{lv fv nv vv:Value}{a b:El}(ha:cI (iw (rQ N_ N_ N_ N_) 0) a=true)(hb:cI (iw (rQ N_ N_ N_ N_) 0) b=true):qv (iI (rQ lv fv nv vv)) (C6 a b):=fun i hi=>by
 have hi':i<2:=hi
 rcases(by omega:i=0\/i=1)with rfl|rfl
 .exact ha
 exact hb
theorem Br:cI (iw (rQ N_ N_ N_ N_) 0) df=true:=by decide+kernel
theorem Bs:cI (iw (rQ N_ N_ N_ N_) 0) xD=true:=by decide+kernel
theorem yI(lv fv nv vv u v w:Value):
  (fp (Gk (rQ lv fv nv vv) ((Bp u v w).getD 0 dN)) (C6 xD xD)/\fp (Gk (rQ lv fv nv vv) ((Bp u v w).getD 0 dN)) (C6 xD df))/\
  (fp (Gk (rQ lv fv nv vv) ((Bp u v w).getD 1 dN)) (C6 xD xD)/\fp (Gk (rQ lv fv nv vv) ((Bp u v w).getD 1 dN)) (C6 df df))/\
  (fp (Gk (rQ lv fv nv vv) ((Bp u v w).getD 2 dN)) (C6 df df)/\fp (Gk (rQ lv fv nv vv) ((Bp u v w).getD 2 dN)) (C6 xD df)):=by
 refine⟨⟨?_,?_⟩,⟨?_,?_⟩,?_,?_⟩
 .exact(by decide+kernel:cS (eA (iw (rQ N_ N_ N_ N_) 0) [⟨2,0,xD⟩] [xD,xD]).1 xD=true)
 .exact(by decide+kernel:cS (eA (iw (rQ N_ N_ N_ N_) 0) [⟨2,0,xD⟩] [xD,df]).1 xD=true)
 .exact(by decide+kernel:cS (eA (iw (rQ N_ N_ N_ N_) 0) [⟨1,0,df⟩] [xD,xD]).1 xD=true)
 .exact(by decide+kernel:cS (eA (iw (rQ N_ N_ N_ N_) 0) [⟨1,0,df⟩] [df,df]).1 df=true)
 .exact(by decide+kernel:cS (eA (iw (rQ N_ N_ N_ N_) 0) [⟨1,1,df⟩] [df,df]).1 df=true)
 exact(by decide+kernel:cS (eA (iw (rQ N_ N_ N_ N_) 0) [⟨1,1,df⟩] [xD,df]).1 df=true)
theorem atr:cS xD df=false:=by decide+kernel
section
variable{lv fv nv vv u v w:Value}
theorem ajH{k:Nat}(hk:k<=3){q:tT}:QP (rQ lv fv nv vv) ((Bp u v w).take k) q↔∃j,j<k/\q=Gk (rQ lv fv nv vv) ((Bp u v w).getD j dN):=by
 have hl:(Bp u v w).length=3:=rfl
 have ho:∀j,j<3->((Bp u v w).getD j dN).op=8:=fun j hj=>by
  rcases(by omega:j=0\/j=1\/j=2)with rfl|rfl|rfl<;>rfl
 constructor
 .rintro⟨x,hx,_,e⟩
  obtain⟨j,hj,e1⟩:=HN.1 hx
  exact⟨j,J,by rw[e,<-e1,getD_eq J]⟩
 rintro⟨j,hj,e⟩
 refine⟨_,?_,ho j J,e⟩
 rw[getD_eq J]
 exact HN.2 ⟨j,J,rfl⟩
theorem ax3{k:Nat}(hk:k<=3){a:BitVec 64}{q:tT}(h:QPm (rQ lv fv nv vv) (Bp u v w) k a q):∃j,j<k/\q=Gk (rQ lv fv nv vv) ((Bp u v w).getD j dN)/\ep (1#64<<<j) a=true:=by
 obtain⟨j,hj,_,e,hs⟩:=h
 exact⟨j,hj,e,hs⟩
theorem ax4{x:Va}(h0:fp (Gk (rQ lv fv nv vv) ((Bp u v w).getD 0 dN)) x)(h1:fp (Gk (rQ lv fv nv vv) ((Bp u v w).getD 1 dN)) x)(hx:qv (iI (rQ lv fv nv vv)) x):cS xD (x 1)=true:=by
 have p0:cS xD (x 0)=true:=h0
 have p:=NL (S:=iI (rQ lv fv nv vv)) (sh:=iw (rQ lv fv nv vv) 0) (n:=2) (x:=⟨1,0,df⟩) (to:=⟨1,df⟩) O ⟨az,az⟩ az
 have e:sx ((Gk (rQ lv fv nv vv) ((Bp u v w).getD 1 dN)).ev x) (x 0):=p.ev x hx
 have p1:cS ((Gk (rQ lv fv nv vv) ((Bp u v w).getD 1 dN)).ev x) (x 1)=true:=h1
 exact fH p0 (fH (lB fun i hi=>(e i hi).symm) p1)
theorem att:vb (iI (rQ lv fv nv vv)) (QP (rQ lv fv nv vv) ((Bp u v w).take 2)):=by
 have h:=yI lv fv nv vv u v w
 refine⟨C6 xD xD,Bq Bs Bs,fun q hq=> ?_⟩
 obtain⟨j,hj,e⟩:=(ajH J).1 hq
 subst e
 rcases(by omega:j=0\/j=1)with rfl|rfl
 .exact h.1.1
 exact h.2.1.1
theorem an5{x:Va}(hl:nU (iI (rQ lv fv nv vv)) (QP (rQ lv fv nv vv) ((Bp u v w).take 2)) x)(hh:∀q,QP (rQ lv fv nv vv) ((Bp u v w).take 2) q->fp q x):sx (x 1) xD:=by
 have h:=yI lv fv nv vv u v w
 have hs:u7 (iI (rQ lv fv nv vv)) (QP (rQ lv fv nv vv) ((Bp u v w).take 2)) (C6 xD xD):=⟨Bq Bs Bs,fun q hq _=>by
  obtain⟨j,hj,e⟩:=(ajH J).1 hq
  subst e
  rcases(by omega:j=0\/j=1)with rfl|rfl
  .exact h.1.1
  exact h.2.1.1⟩
 exact Y5 (hl.low.low _ hs 1 (show 1<2 by decide)) (ax4 (hh _ ((ajH J).2 ⟨0,J,rfl⟩)) (hh _ ((ajH J).2 ⟨1,J,rfl⟩)) hl.low.fit)
theorem Wy{k:Nat}(hk:k<=3){a:BitVec 64}{x y:El}{i:Nat}(hf:qv (iI (rQ lv fv nv vv)) (C6 x y))(hn:¬∀q,QPm (rQ lv fv nv vv) (Bp u v w) k a q->fp q (C6 x y))(hh:∀j,j<k->j≠i->fp (Gk (rQ lv fv nv vv) ((Bp u v w).getD j dN)) (C6 x y)):ep (1#64<<<i) a=true:=by grind[ep,ax3]
theorem QV{a:BitVec 64}{i:Nat}(hi:i<64)(h:ep (1#64<<<i) a=true):a.getLsbD i=true:=by
 have:=aK (fun z:BitVec 64=>z.getLsbD i) (LB h)
 simp only[rh,Lw,afM,Ry,hi,decide_true,l7]at this
 simpa using this
theorem ax5{a:BitVec 64}(h0:ep (1#64<<<0) a=true)(h1:ep (1#64<<<1) a=true):a&&&3#64=3#64:=by
 have b0:=QV az h0
 have b1:=QV az h1
 refine XS fun i hi=> ?_
 rw[rh]
 rcases(by omega:i=0\/i=1\/2<=i)with rfl|rfl|h
 .rw[b0];rfl
 .rw[b1];rfl
 have:(3#64).getLsbD i=false:=by
  rw[Rx,XW (RB (by decide:3<2^2) (Rw az h))];simp
 rw[this,Ln]
theorem atu{a:BitVec 64}(h0:ep (1#64<<<0) a=true)(h1:ep (1#64<<<1) a=true)(h2:ep (1#64<<<2) a=true):a&&&7#64=7#64:=by
 have b0:=QV az h0
 have b1:=QV az h1
 have b2:=QV az h2
 refine XS fun i hi=> ?_
 rw[rh]
 rcases(by omega:i=0\/i=1\/i=2\/3<=i)with rfl|rfl|rfl|h
 .rw[b0];rfl
 .rw[b1];rfl
 .rw[b2];rfl
 have:(7#64).getLsbD i=false:=by
  rw[Rx,XW (RB (by decide:7<2^3) (Rw az h))];simp
 rw[this,Ln]
theorem ax6{x:Va}{a:BitVec 64}(he:sx (x 1) xD)(hw:∀y,u7 (iI (rQ lv fv nv vv)) (QPm (rQ lv fv nv vv) (Bp u v w) 2 a) y->cS (x 1) (y 1)=true):a&&&3#64=3#64:=by
 have h:=yI lv fv nv vv u v w
 have key:∀z:El,cS xD z=false->∀y:El,qv (iI (rQ lv fv nv vv)) (C6 y z)->¬∀q,QPm (rQ lv fv nv vv) (Bp u v w) 2 a q->fp q (C6 y z):=fun z hz y hf hq=>by
  have h1:=fH (lB fun i hi=>(he i hi).symm) (hw (C6 y z) (vb.sol hf hq))
  have h2:cS xD z=true:=h1
  rw[hz]at h2;cases h2
 refine ax5 (Wy (k:=2) (x:=df) (y:=df) J (Bq Br Br) (key _ atr _ (Bq Br Br)) fun j hj hne=> ?_) (Wy (k:=2) (x:=xD) (y:=df) J (Bq Bs Br) (key _ atr _ (Bq Bs Br)) fun j hj hne=> ?_)
 .have:j=1:=J
  subst this;exact h.2.1.2
 have:j=0:=J
 subst this;exact h.1.2
theorem ax7:¬vb (iI (rQ lv fv nv vv)) (QP (rQ lv fv nv vv) ((Bp u v w).take 3)):=by
 rintro⟨x,hx,hq⟩
 have g:∀j,j<3->fp (Gk (rQ lv fv nv vv) ((Bp u v w).getD j dN)) x:=fun j hj=>hq _ ((ajH J).2 ⟨j,hj,rfl⟩)
 have h1:=ax4 (g 0 J) (g 1 J) hx
 have p:=NL (S:=iI (rQ lv fv nv vv)) (sh:=iw (rQ lv fv nv vv) 0) (n:=2) (x:=⟨1,1,df⟩) (to:=⟨1,df⟩) O ⟨az,az⟩ az
 have e:sx ((Gk (rQ lv fv nv vv) ((Bp u v w).getD 2 dN)).ev x) (x 1):=p.ev x hx
 have h2:cS ((Gk (rQ lv fv nv vv) ((Bp u v w).getD 2 dN)).ev x) df=true:=g 2 J
 have h3:=fH h1 (fH (lB fun i hi=>(e i hi).symm) h2)
 rw[atr]at h3;cases h3
theorem an6{a:BitVec 64}(hs:¬vb (iI (rQ lv fv nv vv)) (QPm (rQ lv fv nv vv) (Bp u v w) 3 a)):a&&&7#64=7#64:=by
 have h:=yI lv fv nv vv u v w
 have key:∀y z:El,qv (iI (rQ lv fv nv vv)) (C6 y z)->¬∀q,QPm (rQ lv fv nv vv) (Bp u v w) 3 a q->fp q (C6 y z):=fun y z hf hq=>hs ⟨_,hf,hq⟩
 refine atu (Wy (k:=3) (x:=df) (y:=df) J (Bq Br Br) (key _ _ (Bq Br Br)) fun j hj hne=> ?_) (Wy (k:=3) (x:=xD) (y:=df) J (Bq Bs Br) (key _ _ (Bq Bs Br)) fun j hj hne=> ?_) (Wy (k:=3) (x:=xD) (y:=xD) J (Bq Bs Bs) (key _ _ (Bq Bs Bs)) fun j hj hne=> ?_)
 .rcases(by omega:j=1\/j=2)with rfl|rfl
  .exact h.2.1.2
  exact h.2.2.1
 .rcases(by omega:j=0\/j=2)with rfl|rfl
  .exact h.1.2
  exact h.2.2.2
 rcases(by omega:j=0\/j=1)with rfl|rfl
 .exact h.1.1
 exact h.2.1.1
end
theorem aE4(u v w:Value):∀x∈Bp u v w,x.code.length<=1000:=fun x hx=>by
 simp only[Bp,c8,HU,Ck]at hx
 rcases hx with rfl|rfl|rfl<;>(show 1<=1000;decide)
theorem aE5:mJ (iw (rQ N_ N_ N_ N_) 0)=true:=by decide+kernel
structure Wz(p:lQ)(l:List gL)(k:Nat)(s:NP):Prop where
 nw:zg s
 wr:s.wr= .nilFunc
 go:s.sk=false->AI p l k s
 st:s.sk=true->¬vb (iI p) (QP p (l.take k))
section
variable{p:lQ}{l:List gL}{k:Nat}{s s':NP}{ok:Bool}
theorem an7{q:tT}(h:QP p (l.take k) q):QP p (l.take (k+1)) q:=by
 obtain⟨x,hx,ho,e⟩:=h
 obtain⟨j,hj,e1⟩:=HN.1 hx
 exact⟨x,HN.2 ⟨j,J,e1⟩,ho,e⟩
theorem Wz.start(h:AI p l 0 s)(hs:s.sk=false)(hw:s.wr= .nilFunc):Wz p l 0 s:=⟨h.nw,hw,fun _=>h,fun q=>(by rw[hs]at q;cases q)⟩
theorem Wz.add(h:Wz p l k s)(hk:k<l.length)(Sr:k<64)(ha:∀x∈l,kT p x=true)(hc:∀x∈l,x.code.length<=1000)(hA:Tu s s' (l.getD k dN) k ok):(s.sk=false->ok=true)/\(s.sk=true->ok=decide ((l.getD k dN).op≠8))/\Wz p l (k+1) s'/\s'.sk=s.sk:=by
 cases EC:s.sk with
 |false=>
  obtain⟨h1,h2,h3,h4,_⟩:=(h.go EC).add hk Sr ha hc EC hA
  exact⟨fun _=>h1,fun q=>(by cases q),⟨h2.nw,h4.trans h.wr,fun _=>h2,fun q=>(by rw[h3]at q;cases q)⟩,h3⟩
 |true=>
  obtain⟨h1,h2⟩:=hA.stuck EC
  subst h1
  exact⟨fun q=>(by cases q),fun _=>gX.2 (by rw[h2];simp),⟨h.nw,h.wr,fun q=>(by rw[EC]at q;cases q),fun q hs=>h.st q (hs.less fun _=>an7)⟩,EC⟩
theorem Wz.set(h:Wz p l k s)(hk:k<=l.length)(hQ:axX s s' ok):Wz p l k s'/\(ok=true↔vb (iI p) (QP p (l.take k)))/\(ok=true->tZ p s'/\nU (iI p) (QP p (l.take k)) (vQ s'.ak)):=by
 cases EC:s.sk with
 |false=>
  have hP:=(h.go EC).set hk (hQ.go EC)
  refine⟨⟨hP.net.nw,(hQ.go EC).wr.trans h.wr,fun _=>hP.net,fun q=> ?_⟩,hP.is,fun q=>⟨hP.net.np,hP.low q⟩⟩
  rw[hP.sk]at q
  rw[<-hP.is]
  cases ok with
  |true=>cases q
  |false=>exact fun e=>(by cases e)
 |true=>
  obtain⟨h1,h2⟩:=hQ.st EC
  subst h1;subst h2
  exact⟨h,⟨fun q=>(by cases q),fun q=>absurd q (h.st EC)⟩,fun q=>(by cases q)⟩
end
theorem an8{K:Vu}{v:Value}{sz n:Nat}{cells:List Value}(h:oE K v sz n cells)(k:Nat)(hk:k<=n):oE K (wR v k) sz k (cells.take (k*sz)):=by
 obtain⟨a,cap,hv,hnc,ha⟩:=h.shape
 subst hv
 have e1:sb (.slice a k cap)=sb (.slice a n cap):=by cases a<;>rfl
 have e2:so (.slice a k cap)=so (.slice a n cap):=by cases a<;>rfl
 refine⟨⟨a,cap,rfl,J,fun h0=> ?_⟩,?_,fun j c hc=> ?_,kf hk h.small⟩
 .show a=some ⟨sb (.slice a k cap),so (.slice a k cap),none⟩
  rw[e1,e2];exact ha J
 .rw[ef,h.len]
  exact qB (sr _ hk)
 rw[vx]at hc
 split at hc
 .show P0 K (sb (.slice a k cap)) (so (.slice a k cap)+j) c
  rw[e1,e2];exact h.cell j c hc
 .cases hc
theorem rL.take{K:Vu}{p:ko}(h:rL K p){k:Nat}(hk:k<=p.aO.length):rL K ⟨p.s,wR p.av k,p.aO.take k⟩:=by
 refine⟨h.s,?_,fun x hx=>h.each x (uK hx)⟩
 have:=an8 h.aO k hk
 rw[DI ni]at this
 show oE K (wR p.av k) 18 (p.aO.take k).length _
 rw[ef,qB hk];exact this
def p8(l:List gL)(a:BitVec 64)(k:Nat):List gL:=((List.range k).filter fun i=>a.getLsbD i).map fun i=>l.getD i dN
theorem aeK{l:List gL}{a:BitVec 64}{k:Nat}:p8 l a (k+1)=p8 l a k++if a.getLsbD k then[l.getD k dN]else[]:=by
 unfold p8
 rw[vB,Lz,gP]
 congr 1
 by_cases c:a.getLsbD k=true
 .rw[aY c];simp[c]
 rw[aW c];simp[c]
theorem NV{l:List gL}{a:BitVec 64}{k:Nat}:(p8 l a k).length<=k:=by
 unfold p8
 rw[gA]
 exact kf (List.length_filter_le _ _) aJ
theorem Hh{l:List gL}{a:BitVec 64}{k:Nat}(hk:k<=l.length){x:gL}(h:x∈p8 l a k):x∈l:=by
 obtain⟨i,hi,rfl⟩:=fN.1 h
 have:=ou.1 (sG.1 hi).1
 rw[getD_eq J];exact qD _
theorem acn{a:BitVec 64}{k:Nat}(hk:k<64):(a>>>k%2#64=1#64)↔a.getLsbD k=true:=by
 have e:(a>>>k%2#64=1#64)↔(a.toNat>>>k)%2=1:=by
  constructor
  .intro h
   have:=aK BitVec.toNat h
   simpa[BitVec.toNat_umod,Lq]using this
  intro h
  refine Fa ?_
  simpa[BitVec.toNat_umod,Lq]using h
 rw[e,BitVec.getLsbD,afD,XN]
 simp
theorem ax8{k:Int}(h0:0<=k)(h:k<64):(BitVec.ofInt 64 k).toNat=k.toNat:=by
 rw[Lv]
 congr 1
 omega
theorem aco{a:BitVec 64}{k:Int}(h0:0<=k)(h:k<64)(e:a>>>(BitVec.ofInt 64 k).toNat%2#64=1#64):a.getLsbD k.toNat=true:=by
 rw[ax8 h0 h]at e;exact(acn J).1 e
theorem atv{a:BitVec 64}{k:Int}(h0:0<=k)(h:k<64)(e:¬a>>>(BitVec.ofInt 64 k).toNat%2#64=1#64):¬a.getLsbD k.toNat=true:=by
 rw[ax8 h0 h]at e;exact fun q=>e ((acn J).2 q)
theorem ax9{a:BitVec 64}{i:Nat}(h:a.getLsbD i=true):ep (1#64<<<i) a=true:=by
 refine gY (XS fun j hj=> ?_)
 simp only[rh,Lw,afM,Ry,hj,decide_true,l7]
 by_cases c:j=i
 .subst c;rw[h];simp
 by_cases c2:j<i
 .simp[c2]
 have:(1#64).getLsbD (j-i)=false:=by
  rw[Rx,XW (RB (by decide:1<2^1) (Rw az J))];simp
 rw[this];simp
theorem acp{p:lQ}{l:List gL}{a:BitVec 64}{k:Nat}(hk:k<=l.length)(Sr:k<=64):QP p (p8 l a k)=QPm p l k a:=by
 funext q
 refine propext ⟨fun⟨x,hx,ho,e⟩=> ?_,fun⟨j,hj,ho,e,hs⟩=> ?_⟩
 .obtain⟨i,hi,rfl⟩:=fN.1 hx
  obtain⟨h1,h2⟩:=sG.1 hi
  exact⟨i,ou.1 h1,ho,e,ax9 h2⟩
 exact⟨_,fN.2 ⟨j,sG.2 ⟨ou.2 hj,QV J hs⟩,rfl⟩,ho,e⟩
theorem acq{p:ko}(h:lM p=true)(a:BitVec 64)(v:Value):lM ⟨p.s,v,p8 p.aO a p.aO.length⟩=true:=by
 simp only[lM,cL,eD,iQ]at h⊢
 exact⟨⟨h.1.1,kf NV h.1.2⟩,fun x hx=>h.2 x (Hh (eu _) hx)⟩
theorem atw{p:ko}{s s':NP}{ok:Bool}(hP:atq p.s p.aO p.aO.length s s' ok)(ho:ok=true)(Sr:p.aO.length<=64){i:Int}(h0:0<=i)(hi:i<p.s.vars.length){a:BitVec 64}(ha:a=s'.bp.getD i.toNat 0):
  vb (iI p.s) (QP p.s (p8 p.aO a p.aO.length))/\∀v:List El,nU (iI p.s) (QP p.s (p8 p.aO a p.aO.length)) (ze p.s v)->(p.s.vars.getD i.toNat fq).kind=1->cS (s'.ak.getD i.toNat df) (v.getD i.toNat df)=true:=by
 rw[acp (eu _) Sr]
 subst ha
 refine⟨(hP.is.1 ho).less fun q ⟨j,hj,hop,e,_⟩=>⟨_,?_,hop,e⟩,fun v hv hk=> ?_⟩
 .rw[HT,getD_eq hj];exact qD hj
 have h:=hP.why ho i.toNat J _ ⟨hv.low.fit,hv.sol⟩
 unfold ze at h
 rwa[aY hk]at h
theorem atx{p:ko}{s s':NP}{ok:Bool}(hP:atq p.s p.aO p.aO.length s s' ok)(ho:ok=false)(Sr:p.aO.length<=64):¬vb (iI p.s) (QP p.s (p8 p.aO s'.wy p.aO.length)):=by
 rw[acp (eu _) Sr];exact hP.no ho
def aya(v:sV):sV:={v with kind:=1}
def aN3(p:lQ)(vv:Value):lQ:=⟨p.lv,p.aq,vv,p.vars.map aya⟩
def aKJ(l:List sV)(k:Nat):List sV:=(l.take k).map aya++l.drop k
end
end Go.Proofs.YtlhjdflgjbkpmaaGreatDoor.E
namespace Go.Proofs.YtlhjdflgjbkpmaaGreatDoor.M
section
open Go
structure ajI(r:Rl)(cl:List Nat):Prop where
 n:pts r=cl.length
 sym:∀i j:Int,bL r i j=true->bL r j i=true
 ayb:∀i j:Int,bL r i j=true->cr cl i.toNat=cr cl j.toNat
 lead:∀i:Nat,i<cl.length->bL (jo r) i (cr cl i)=true
theorem acr{r:Rl}(hs:∀i j:Int,bL r i j=true->bL r j i=true){i j:Int}(h:bL (jo r) i j=true):bL (jo r) j i=true:=by
 have h1:=(jT h).1
 rw[z7]at h1
 exact DR h (fun y=>bL (jo r) y i=true) (fun x y hx hy=>nM (GC (hs _ _ hy)) hx) (yP h1)
theorem ajJ{r q:Rl}(hp:pts q=pts r)(hm:∀i j:Int,bL r i j=true->bL q i j=true){i j:Int}(h:bL (jo r) i j=true):bL (jo q) i j=true:=by
 have h1:=(jT h).1
 rw[z7]at h1
 exact DR h (fun y=>bL (jo q) i y=true) (fun x y hx hy=>nM hx (GC (hm _ _ hy))) (yP (by rw[hp];exact h1))
section
variable{r:Rl}{cl:List Nat}{nd:List qN}
theorem ajI.same(h:ajI r cl){i j:Nat}(hi:i<cl.length)(hj:j<cl.length):cr cl i=cr cl j↔bL (jo r) i j=true:=by
 constructor
 .intro e
  have h1:=h.lead i hi;have h2:=h.lead j hj
  rw[e]at h1
  exact nM h1 (acr h.sym h2)
 intro hc
 have:=DR hc (fun y=>cr cl i=cr cl y.toNat) (fun x y hx hy=>hx.trans (h.ayb _ _ hy)) aJ
 simpa using this
theorem ajI.join(h:ajI r cl)(hf:Fo nd cl){q:Rl}{x y:Nat}(hx:x<cl.length)(hy:y<cl.length)(hp:pts q=pts r)(hq:∀i j:Int,bL q i j=true↔bL r i j=true\/(i=x/\j=y)\/(i=y/\j=x)):ajI q (iH cl (cr cl x) (cr cl y)):=by
 have hm:∀i j:Int,bL r i j=true->bL q i j=true:=fun i j e=>(hq i j).2 (.inl e)
 have hs:∀i j:Int,bL q i j=true->bL q j i=true:=fun i j e=>by
  rcases(hq i j).1 e with e|e|e
  .exact hm _ _ (h.sym _ _ e)
  .exact(hq j i).2 (.inr (.inr ⟨e.2,e.1⟩))
  exact(hq j i).2 (.inr (.inl ⟨e.2,e.1⟩))
 have hlen:(iH cl (cr cl x) (cr cl y)).length=cl.length:=by simp[iH]
 have hlc:∀i,i<cl.length->cr cl i<cl.length:=fun i hi=>by have:=(hf.lc i (by rw[<-hf.len];exact hi)).1;omega
 have gc:∀i,i<cl.length->cr (iH cl (cr cl x) (cr cl y)) i=IX (cr cl x) (cr cl y) (cr cl i):=fun i hi=>Aq hi
 have xy:bL (jo q) x y=true:=GC ((hq x y).2 (.inr (.inl ⟨rfl,rfl⟩)))
 have cs:∀{i j:Int},bL (jo q) i j=true->bL (jo q) j i=true:=fun e=>acr hs e
 have lq:∀i:Nat,i<cl.length->bL (jo q) i (cr cl i)=true:=fun i hi=>ajJ hp hm (h.lead i hi)
 have cxy:bL (jo q) (cr cl x) (cr cl y)=true:=nM (cs (lq x hx)) (nM xy (lq y hy))
 refine⟨by rw[hp,h.n,hlen],hs,fun i j e=> ?_,fun i hi=> ?_⟩
 .have hb:=jT e
  rw[hp,h.n]at hb
  rw[gc _ J,gc _ J]
  rcases(hq i j).1 e with e|e|e
  .rw[h.ayb _ _ e]
  .rw[e.1,e.2,eC,eC,kX (.inl O),kX (.inr O)]
  rw[e.1,e.2,eC,eC,kX (.inl O),kX (.inr O)]
 rw[hlen]at hi
 rw[gc i hi]
 by_cases c:cr cl i=cr cl x\/cr cl i=cr cl y
 .rw[kX c]
  have h1:=lq i hi
  rcases c with c|c<;>rw[c]at h1<;>rcases yd (cr cl x) (cr cl y)with e|e<;>rw[e]
  .exact h1
  .exact nM h1 cxy
  .exact nM h1 (cs cxy)
  exact h1
 rw[lA c];exact lq i hi
end
end
end Go.Proofs.YtlhjdflgjbkpmaaGreatDoor.M
namespace Go.Proofs.YtlhjdflgjbkpmaaGreatDoor.E
section
open Go Go.RowKit Go.Proofs.YtlhjdflgjbkpmaaGreatDoor.M
section
variable{P:Program}{n:Nat}{l:List Oper}{S:World->Prop}{k:K}{xs:List (Nat×K)}{r:K}{σ:Env}{w:World}{fuel i d:Nat}{listed:Array Bool}{op:Op}{ty:TypeId}{pos:String}{bO:Array Edge}{g:Option (Nat×Bool)}{v:Value}{dst:Option Tmp}
theorem V{ops:Array Oper}{rest:List Oper}{w':World}(hr:(execOp (ev σ) ⟨some d,op,ty,pos,bO,none⟩).run P w= .ok (.value v) w')(hk:RL P n ops k rest (me σ d v) w')(hd:Nat.blt d n=true:=by rfl):RL P n ops k (⟨some d,op,ty,pos,bO,none⟩::rest) σ w:=pA hd hr hk
abbrev Pn(b o:Nat):Value:= .pointer (some ⟨b,o,none⟩)
theorem mV{x:Operand}(v:Value)(hx:ev σ x=v):(execOp (ev σ) ⟨dst,.move x,ty,pos,bO,g⟩).run P w= .ok (.value v) w:=run_move hx
theorem aV{x:Operand}(v:Value)(hx:ev σ x=v):(execOp (ev σ) ⟨dst,.assign x,ty,pos,bO,g⟩).run P w= .ok (.value v) w:=run_assign hx
theorem AT(i:Nat)(hi:l[i]?=some ⟨some d,op,ty,pos,bO,none⟩)(hS:S w)(hy:∀w,S w->(execOp (ev σ) ⟨some d,op,ty,pos,bO,none⟩).run P w= .ok (.value v) w)
 (h:AN P n l S k fuel (listed.setIfInBounds i true) (me σ d v) w) (hd:Nat.blt d n=true:=by rfl) (hs:Region.noSelect l.toArray=true:=by kernel_rfl) (hf:Region.free .any l.toArray listed i=true:=by kernel_rfl)
 (hr:(Region.ready .any l.toArray listed).contains i=true:=by kernel_rfl):AN P n l S k (fuel+1) listed σ w:=by grind[agl]
theorem AG(i:Nat){j dj:Nat}{want:Bool}(hi:l[i]?=some ⟨some d,op,ty,pos,bO,some (j,want)⟩)(hj:(l[j]?).bind (·.dst)=some dj)(hb:σ dj= .bool want)
 (hS:S w) (hy:∀w,S w->(execOp (ev σ) ⟨some d,op,ty,pos,bO,some (j,want)⟩).run P w= .ok (.value v) w)
 (h:AN P n l S k fuel (listed.setIfInBounds i true) (me σ d v) w) (hd:Nat.blt d n=true:=by rfl) (hs:Region.noSelect l.toArray=true:=by kernel_rfl) (hf:Region.free .any l.toArray listed i=true:=by kernel_rfl)
 (hr:(Region.ready .any l.toArray listed).contains i=true:=by kernel_rfl):AN P n l S k (fuel+1) listed σ w:=by grind[arN]
theorem BQ(i:Nat){j dj:Nat}{want:Bool}(hi:l[i]?=some ⟨some d,op,ty,pos,bO,some (j,want)⟩)(hj:(l[j]?).bind (·.dst)=some dj)(hb:σ dj= .bool want)
 (hS:S w) (hy:∀{w},(execOp (ev σ) ⟨some d,op,ty,pos,bO,some (j,want)⟩).run P w= .ok (.value v) w)
 (h:AN P n l S k fuel (listed.setIfInBounds i true) (me σ d v) w) (hd:Nat.blt d n=true:=by rfl) (hs:Region.noSelect l.toArray=true:=by kernel_rfl) (hf:Region.free .any l.toArray listed i=true:=by kernel_rfl)
 (hr:(Region.ready .any l.toArray listed).contains i=true:=by kernel_rfl):AN P n l S k (fuel+1) listed σ w:=AG i hi hj hb hS (fun w _=>hy) h hd hs hf hr
theorem AK(i:Nat){j dj:Nat}{b want:Bool}(hi:l[i]?=some ⟨some d,op,ty,pos,bO,some (j,want)⟩)(hj:(l[j]?).bind (·.dst)=some dj)(hb:σ dj= .bool b)(hS:S w)
 (h:AN P n l S k fuel (listed.setIfInBounds i true) (me σ d undef) w) (hne:(b==want)=false:=by rfl) (hd:Nat.blt d n=true:=by rfl) (hs:Region.noSelect l.toArray=true:=by kernel_rfl) (hf:Region.free .any l.toArray listed i=true:=by kernel_rfl)
 (hr:(Region.ready .any l.toArray listed).contains i=true:=by kernel_rfl):AN P n l S k (fuel+1) listed σ w:=by grind[awy]
theorem AU(i:Nat){j dj:Nat}{want:Bool}(hi:l[i]?=some ⟨some d,op,ty,pos,bO,some (j,want)⟩)(hj:(l[j]?).bind (·.dst)=some dj)(hu:σ dj=undef)(hS:S w)
 (h:AN P n l S k fuel (listed.setIfInBounds i true) (me σ d undef) w) (hd:Nat.blt d n=true:=by rfl) (hs:Region.noSelect l.toArray=true:=by kernel_rfl) (hf:Region.free .any l.toArray listed i=true:=by kernel_rfl)
 (hr:(Region.ready .any l.toArray listed).contains i=true:=by kernel_rfl):AN P n l S k (fuel+1) listed σ w:=by grind[awz]
theorem AD(h:k σ w)(hr:Region.ready .any l.toArray listed=[]:=by kernel_rfl):AN P n l S k fuel listed σ w:=awx hr h
theorem A1(i:Nat)(h:AO P n l S k fuel listed σ w i)(hr:Region.ready .any l.toArray listed=[i]:=by kernel_rfl):AN P n l S k (fuel+1) listed σ w:=awA i hr h
theorem SR{id:Nat}{y:Code}(h:RL P n l.toArray (fun σ w=>CW P n y k xs r σ w) l σ w):CW P n (.seq (.region id l.toArray false) y) k xs r σ w:=ai (au h)
theorem fA{x:Operand}{s i m b o:Nat}{fs:Array Field}{f:Field}(hu:P.underlying s=some (.struct fs))(off:Nat)(hf:fs[i]?=some f)(hs:∀w,(sizeOf f.type).run P w= .ok m w)(hx:ev σ x= .pointer (some ⟨b,o,none⟩))(ho:f.offset=off:=by rfl)(hn:m≠0:=by decide):
 (execOp (ev σ) ⟨dst,.fieldAddr s x i,ty,pos,bO,g⟩).run P w= .ok (.value (.pointer (some ⟨b,o+off,none⟩))) w:=O9 hu hf ho hs hn hx
end
theorem sQ{α:Type}{a:α}{l l':List α}(h:l.Sublist l'):l.Sublist (a::l'):= .cons _ h
theorem sP{α:Type}{a:α}{l l':List α}(h:l.Sublist l'):(a::l).Sublist (a::l'):= .cons_cons _ h
theorem sR{α:Type}{l:List α}:l.Sublist l:= .refl _
theorem sA{α:Type}{l l' m:List α}(h:l.Sublist l'):l.Sublist (m++l'):=by grind
theorem pC{α:Type}{a:α}{l l':List α}(h:l.Perm l'):(a::l).Perm (a::l'):= .cons _ h
theorem pR{α:Type}{l:List α}:l.Perm l:= .refl _
theorem pS{α:Type}{a b:α}{l:List α}:(b::a::l).Perm (a::b::l):= .swap _ _ _
theorem z0{α:Type}{a b:α}{l:List α}:(a::l).set 0 b=b::l:=rfl
theorem z1{α:Type}{a b:α}{l:List α}{i:Nat}:(a::l).set (i+1) b=a::l.set i b:=rfl
theorem mT{α:Type}{a b:α}{l:List α}(h:a∈l):a∈b::l:=gd _ h
section
variable{ws:List Nat}{σ σ':Env}{d d1 d2 d3:Nat}{v v1 v2 v3:Value}
theorem Fr.u1(h:Fr ws σ σ')(hd:ws.contains d=true:=by rfl):Fr ws σ (me σ' d v):=h.u hd
theorem Fr.u4(h:Fr ws σ σ')(hd:ws.contains d=true:=by rfl)(h1:ws.contains d1=true:=by rfl)(h2:ws.contains d2=true:=by rfl)(h3:ws.contains d3=true:=by rfl):Fr ws σ (me (me (me (me σ' d v) d1 v1) d2 v2) d3 v3):=by grind[Fr,me]
end
section
variable{P:Program}{n:Nat}{l:List Oper}{S:World->Prop}{k:K}{xs:List (Nat×K)}{r:K}{σ σ':Env}{w:World}{fuel i d:Nat}{listed:Array Bool}{op:Op}{ty:TypeId}{pos:String}{bO:Array Edge}{g:Option (Nat×Bool)}{v:Value}{dst:Option Tmp}{ops:Array Oper}{rest:List Oper}{x:Operand}
theorem va{v:Value}(hx:ev σ x=v)(hk:RL P n ops k rest (me σ d v) w)(hd:Nat.blt d n=true:=by rfl):RL P n ops k (⟨some d,.assign x,ty,pos,bO,none⟩::rest) σ w:=pA hd (run_assign hx) hk
theorem aF{v:Value}(hx:ev σ x=v)(hk:RL P n ops k rest (me σ d v) w)(hd:Nat.blt d n=true:=by rfl):RL P n ops k (⟨some d,.move x,ty,pos,bO,none⟩::rest) σ w:=pA hd (run_move hx) hk
theorem aI{a:Int}(hx:ev σ x=I a)(hk:RL P n ops k rest (me σ d (I a)) w)(hd:Nat.blt d n=true:=by rfl):RL P n ops k (⟨some d,.assign x,ty,pos,bO,none⟩::rest) σ w:=va hx hk hd
theorem aB{a:Bool}(hx:ev σ x=B a)(hk:RL P n ops k rest (me σ d (B a)) w)(hd:Nat.blt d n=true:=by rfl):RL P n ops k (⟨some d,.assign x,ty,pos,bO,none⟩::rest) σ w:=va hx hk hd
theorem aU{a:BitVec 64}(hx:ev σ x=U a)(hk:RL P n ops k rest (me σ d (U a)) w)(hd:Nat.blt d n=true:=by rfl):RL P n ops k (⟨some d,.assign x,ty,pos,bO,none⟩::rest) σ w:=va hx hk hd
theorem mI{a:Int}(hx:ev σ x=I a)(hk:RL P n ops k rest (me σ d (I a)) w)(hd:Nat.blt d n=true:=by rfl):RL P n ops k (⟨some d,.move x,ty,pos,bO,none⟩::rest) σ w:=aF hx hk hd
theorem mB{a:Bool}(hx:ev σ x=B a)(hk:RL P n ops k rest (me σ d (B a)) w)(hd:Nat.blt d n=true:=by rfl):RL P n ops k (⟨some d,.move x,ty,pos,bO,none⟩::rest) σ w:=aF hx hk hd
theorem mU{a:BitVec 64}(hx:ev σ x=U a)(hk:RL P n ops k rest (me σ d (U a)) w)(hd:Nat.blt d n=true:=by rfl):RL P n ops k (⟨some d,.move x,ty,pos,bO,none⟩::rest) σ w:=aF hx hk hd
theorem AQ(i:Nat)(hi:l[i]?=some ⟨some d,op,ty,pos,bO,none⟩)(hS:S w)(hy:∀{w},(execOp (ev σ) ⟨some d,op,ty,pos,bO,none⟩).run P w= .ok (.value v) w)
 (h:AN P n l S k fuel (listed.setIfInBounds i true) (me σ d v) w) (hd:Nat.blt d n=true:=by rfl) (hs:Region.noSelect l.toArray=true:=by kernel_rfl) (hf:Region.free .any l.toArray listed i=true:=by kernel_rfl)
 (hr:(Region.ready .any l.toArray listed).contains i=true:=by kernel_rfl):AN P n l S k (fuel+1) listed σ w:=by grind[agl]
theorem Fr.w1{ws:List Nat}{v1:Value}(h:Fr ws σ σ')(i:Nat)(h1:σ i=v1:=by conv=>lhs;whnf)(c1:ws.contains i=false:=by rfl):σ' i=v1:=(h i c1).trans h1
theorem Fr.t1{ws:List Nat}{v1:Value}(h:Fr ws σ σ')(i:Nat)(h1:σ i=v1)(c1:ws.contains i=false:=by rfl):σ' i=v1:=(h i c1).trans h1
theorem Fr.w2{ws:List Nat}{v1 v2:Value}(h:Fr ws σ σ')(i j:Nat)(h1:σ i=v1:=by conv=>lhs;whnf)(h2:σ j=v2:=by conv=>lhs;whnf)(c1:ws.contains i=false:=by rfl)(c2:ws.contains j=false:=by rfl):σ' i=v1/\σ' j=v2:=⟨(h i c1).trans h1,(h j c2).trans h2⟩
theorem Fr.t2{ws:List Nat}{v1 v2:Value}(h:Fr ws σ σ')(i:Nat)(h1:σ i=v1)(j:Nat)(h2:σ j=v2)(c1:ws.contains i=false:=by rfl)(c2:ws.contains j=false:=by rfl):σ' i=v1/\σ' j=v2:=⟨(h i c1).trans h1,(h j c2).trans h2⟩
theorem Fr.w3{ws:List Nat}{v1 v2 v3:Value}(h:Fr ws σ σ')(i j k:Nat)(h1:σ i=v1:=by conv=>lhs;whnf)(h2:σ j=v2:=by conv=>lhs;whnf)(h3:σ k=v3:=by conv=>lhs;whnf)(c1:ws.contains i=false:=by rfl)(c2:ws.contains j=false:=by rfl)(c3:ws.contains k=false:=by rfl):σ' i=v1/\σ' j=v2/\σ' k=v3:=⟨(h i c1).trans h1,(h j c2).trans h2,(h k c3).trans h3⟩
theorem Fr.t3{ws:List Nat}{v1 v2 v3:Value}(h:Fr ws σ σ')(i:Nat)(h1:σ i=v1)(j:Nat)(h2:σ j=v2)(k:Nat)(h3:σ k=v3)(c1:ws.contains i=false:=by rfl)(c2:ws.contains j=false:=by rfl)(c3:ws.contains k=false:=by rfl):σ' i=v1/\σ' j=v2/\σ' k=v3:=⟨(h i c1).trans h1,(h j c2).trans h2,(h k c3).trans h3⟩
theorem Fr.w4{ws:List Nat}{v1 v2 v3 v4:Value}(h:Fr ws σ σ')(i j k l:Nat)(h1:σ i=v1:=by conv=>lhs;whnf)(h2:σ j=v2:=by conv=>lhs;whnf)(h3:σ k=v3:=by conv=>lhs;whnf)(h4:σ l=v4:=by conv=>lhs;whnf)(c1:ws.contains i=false:=by rfl)(c2:ws.contains j=false:=by rfl)(c3:ws.contains k=false:=by rfl)(c4:ws.contains l=false:=by rfl):σ' i=v1/\σ' j=v2/\σ' k=v3/\σ' l=v4:=⟨(h i c1).trans h1,(h j c2).trans h2,(h k c3).trans h3,(h l c4).trans h4⟩
theorem Fr.t4{ws:List Nat}{v1 v2 v3 v4:Value}(h:Fr ws σ σ')(i:Nat)(h1:σ i=v1)(j:Nat)(h2:σ j=v2)(k:Nat)(h3:σ k=v3)(l:Nat)(h4:σ l=v4)(c1:ws.contains i=false:=by rfl)(c2:ws.contains j=false:=by rfl)(c3:ws.contains k=false:=by rfl)(c4:ws.contains l=false:=by rfl):σ' i=v1/\σ' j=v2/\σ' k=v3/\σ' l=v4:=⟨(h i c1).trans h1,(h j c2).trans h2,(h k c3).trans h3,(h l c4).trans h4⟩
theorem Fr.w5{ws:List Nat}{v1 v2 v3 v4 v5:Value}(h:Fr ws σ σ')(i j k l m:Nat)(h1:σ i=v1:=by conv=>lhs;whnf)(h2:σ j=v2:=by conv=>lhs;whnf)(h3:σ k=v3:=by conv=>lhs;whnf)(h4:σ l=v4:=by conv=>lhs;whnf)(h5:σ m=v5:=by conv=>lhs;whnf)(c1:ws.contains i=false:=by rfl)(c2:ws.contains j=false:=by rfl)(c3:ws.contains k=false:=by rfl)(c4:ws.contains l=false:=by rfl)(c5:ws.contains m=false:=by rfl):σ' i=v1/\σ' j=v2/\σ' k=v3/\σ' l=v4/\σ' m=v5:=⟨(h i c1).trans h1,(h j c2).trans h2,(h k c3).trans h3,(h l c4).trans h4,(h m c5).trans h5⟩
theorem Fr.t5{ws:List Nat}{v1 v2 v3 v4 v5:Value}(h:Fr ws σ σ')(i:Nat)(h1:σ i=v1)(j:Nat)(h2:σ j=v2)(k:Nat)(h3:σ k=v3)(l:Nat)(h4:σ l=v4)(m:Nat)(h5:σ m=v5)(c1:ws.contains i=false:=by rfl)(c2:ws.contains j=false:=by rfl)(c3:ws.contains k=false:=by rfl)(c4:ws.contains l=false:=by rfl)(c5:ws.contains m=false:=by rfl):σ' i=v1/\σ' j=v2/\σ' k=v3/\σ' l=v4/\σ' m=v5:=⟨(h i c1).trans h1,(h j c2).trans h2,(h k c3).trans h3,(h l c4).trans h4,(h m c5).trans h5⟩
theorem Fr.w6{ws:List Nat}{v1 v2 v3 v4 v5 v6:Value}(h:Fr ws σ σ')(i j k l m o:Nat)(h1:σ i=v1:=by conv=>lhs;whnf)(h2:σ j=v2:=by conv=>lhs;whnf)(h3:σ k=v3:=by conv=>lhs;whnf)(h4:σ l=v4:=by conv=>lhs;whnf)(h5:σ m=v5:=by conv=>lhs;whnf)(h6:σ o=v6:=by conv=>lhs;whnf)(c1:ws.contains i=false:=by rfl)(c2:ws.contains j=false:=by rfl)(c3:ws.contains k=false:=by rfl)(c4:ws.contains l=false:=by rfl)(c5:ws.contains m=false:=by rfl)(c6:ws.contains o=false:=by rfl):σ' i=v1/\σ' j=v2/\σ' k=v3/\σ' l=v4/\σ' m=v5/\σ' o=v6:=⟨(h i c1).trans h1,(h j c2).trans h2,(h k c3).trans h3,(h l c4).trans h4,(h m c5).trans h5,(h o c6).trans h6⟩
theorem Fr.ii{ws:List Nat}(h:Fr ws σ σ')(i:Nat){a:Int}(hc:ws.contains i=false)(hv:σ i=E.I a):σ' i=E.I a:=(h i hc).trans hv
theorem Fr.bb{ws:List Nat}(h:Fr ws σ σ')(i:Nat){a:Bool}(hc:ws.contains i=false)(hv:σ i=E.B a):σ' i=E.B a:=(h i hc).trans hv
theorem Fr.ss{ws:List Nat}(h:Fr ws σ σ')(i:Nat){a:ByteArray}(hc:ws.contains i=false)(hv:σ i= .string a):σ' i= .string a:=(h i hc).trans hv
theorem Fr.vv{ws:List Nat}(h:Fr ws σ σ')(i:Nat){a:Value}(hc:ws.contains i=false)(hv:σ i=a):σ' i=a:=(h i hc).trans hv
end
def rg:Nat->Nat->List Nat->List Nat
 |_,0,l=>l
 |a,n+1,l=>a::rg (a+1) n l
theorem lC:(∀(k:IntKind) (n:Int),(Value.int k n).cells.toList=[Value.int k n])/\(∀b:Bool,(Value.bool b).cells.toList=[Value.bool b])/\(∀b:ByteArray,(Value.string b).cells.toList=[Value.string b])/\(∀a:Option Addr,(Value.pointer a).cells.toList=[Value.pointer a])/\(∀(a:Option Addr) (n c:Nat),(Value.slice a n c).cells.toList=[Value.slice a n c])/\(∀l:List Value,(Value.agg l.toArray).cells.toList=l)/\(∀(f:Value->List Value) (a:Value) (l:List Value),(a::l).flatMap f=f a++l.flatMap f)/\(∀f:Value->List Value,([]:List Value).flatMap f=[])/\(∀l:List Value,[]++l=l)/\(∀l:List Value,l++[]=l)/\(∀(a:Value) (l m:List Value),a::l++m=a::(l++m)):=by simp_all[clI,clB,clS,clP,clL,clA]
theorem z2{α:Type}:(∀(a b:α) (l:List α),(a::l).set 0 b=b::l)/\(∀(a b:α) (l:List α) (i:Nat),(a::l).set (i+1) b=a::l.set i b):=⟨fun _ _ _=>rfl,fun _ _ _ _=>rfl⟩
def pull{α:Type}:Nat->List α->List α
 |0,l=>l
 |n+1,a::l=>match pull n l with
  |b::m=>b::a::m
  |[]=>[a]
 |_,[]=>[]
def dm{α:Type}:List Nat->List α->List α
 |[],l=>l
 |n::ns,l=>match pull n l with
  |b::m=>b::dm ns m
  |[]=>[]
theorem ajK{α:Type}:∀(n:Nat) (l:List α),l.Perm (pull n l)
 |0,_=> .refl _
 |n+1,[]=> .refl _
 |n+1,a::l=>by
  have h:=ajK n l
  rw[pull]
  revert h;cases pull n l with
  |nil=>exact fun h=>h.cons a
  |cons b m=>exact fun h=>(h.cons a).trans (.swap _ _ _)
theorem acs{α:Type}:∀(ns:List Nat) (l:List α),l.Perm (dm ns l)
 |[],_=> .refl _
 |n::ns,l=>by
  have h:=ajK n l
  rw[dm]
  revert h;cases pull n l with
  |nil=>exact fun h=>h
  |cons b m=>exact fun h=>h.trans ((acs ns m).cons b)
theorem Hp.pj{w0 w:World}{L:List bu}(h:Hp w0 w L)(ns:List Nat):Hp w0 w (dm ns L):=h.perm (acs ns L)
theorem Hp.pk{w0 w:World}{L L':List bu}(h:Hp w0 w L)(ns:List Nat)(e:dm ns L=L':=by conv=>lhs;simp only[dm,pull]):Hp w0 w L':=e▸h.pj ns
section
variable{P:Program}{n:Nat}{ops:Array Oper}{k:K}{rest l:List Oper}{σ:Env}{w0 w:World}{L:List bu}{op:Op}{ty t e:TypeId}{pos:String}{bO:Array Edge}{d:Nat}{v:Value}{x:Operand}{fn:Func}{q:Value->World->Prop}
 {b off:Nat} {c:Array Value} {fr:Nat×Nat} {td:TypeDesc} {fuel:Nat} {listed:Array Bool}
theorem en{f:FuncId}{c:Code}{args:Array Value}(hf:P.funcs[f]?=some fn)(hb:fn.body=some c)(hn:fn.ntmps=n)(h:CW P n c (Out P fn q) [] (Out P fn q) (entry args) w)(ha:Nat.ble args.size n=true:=by rfl):Calls P f args w (j3 q):=enter hf hb hn ha h
theorem eH{f:FuncId}{c:Code}{args:Array Value}(hf:P.funcs[f]?=some fn)(hb:fn.body=some c)(hn:fn.ntmps=n)(h:Hp w w []->CW P n c (Out P fn q) [] (Out P fn q) (entry args) w)(ha:Nat.ble args.size n=true:=by rfl):Calls P f args w (j3 q):=enter hf hb hn ha (h (Hp.start w))
theorem lN{o:Obj}(hH:Hp w0 w L)(hr:(execOp (ev σ) ⟨some d,op,ty,pos,bO,none⟩).run P w= .ok (.value (.pointer (some ⟨w.heap.size,0,none⟩))) (w.alloc o))
 (hk:∀b w',Hp w0 w' (.blk b o::L)->RL P n ops k rest (me σ d (.pointer (some ⟨b,0,none⟩))) w') (hd:Nat.blt d n=true:=by rfl):RL P n ops k (⟨some d,op,ty,pos,bO,none⟩::rest) σ w:=YL hd hH (f:=fun b=> .pointer (some ⟨b,0,none⟩)) hr hk
theorem gO(hH:Hp w0 w L){v:Value}(hx:ev σ x=v)
 (hk:∀b w',Hp w0 w' (.blk b (.cells v.cells e)::L)->RL P n ops k rest (me σ d (.pointer (some ⟨b,0,none⟩))) w') (hd:Nat.blt d n=true:=by rfl):RL P n ops k (⟨some d,.box e x,ty,pos,bO,none⟩::rest) σ w:=lN hH (KI hx) hk hd
theorem ud(a m:Nat){o:Obj}(hH:Hp w0 w L)(hr:(execOp (ev σ) ⟨some d,op,ty,pos,bO,none⟩).run P w= .ok (.value (.slice (some ⟨w.heap.size,0,none⟩) a m)) (w.alloc o))
 (hk:∀b w',Hp w0 w' (.blk b o::L)->RL P n ops k rest (me σ d (.slice (some ⟨b,0,none⟩) a m)) w') (hd:Nat.blt d n=true:=by rfl):RL P n ops k (⟨some d,op,ty,pos,bO,none⟩::rest) σ w:=YL hd hH (f:=fun b=> .slice (some ⟨b,0,none⟩) a m) hr hk
theorem lV(hu:P.underlying t=some td)(hH:Hp w0 w L)(i:Nat)(hx:ev σ x= .pointer (some ⟨b,off,none⟩))(hi:L[i]?=some (.blk b (.cells c e fr)))(hc:c[off]?=some v)
 (hk:RL P n ops k rest (me σ d v) w) (hr:td.isRow=false:=by rfl) (hd:Nat.blt d n=true:=by rfl):RL P n ops k (⟨some d,.load t x,ty,pos,bO,none⟩::rest) σ w:=pA hd (aE hu hr hx (hH.cell hi hc)) hk
theorem lI{a:Int}(hu:P.underlying t=some td)(hH:Hp w0 w L)(i:Nat)(hx:ev σ x= .pointer (some ⟨b,off,none⟩))(hi:L[i]?=some (.blk b (.cells c e fr)))(hc:c[off]?=some (I a))
 (hk:RL P n ops k rest (me σ d (I a)) w) (hr:td.isRow=false:=by rfl) (hd:Nat.blt d n=true:=by rfl):RL P n ops k (⟨some d,.load t x,ty,pos,bO,none⟩::rest) σ w:=pA hd (aE hu hr hx (hH.cell hi hc)) hk
theorem lP{p q:Nat}(hu:P.underlying t=some td)(hH:Hp w0 w L)(i:Nat)(hx:ev σ x= .pointer (some ⟨b,off,none⟩))(hi:L[i]?=some (.blk b (.cells c e fr)))(hc:c[off]?=some (Pn p q))
 (hk:RL P n ops k rest (me σ d (Pn p q)) w) (hr:td.isRow=false:=by rfl) (hd:Nat.blt d n=true:=by rfl):RL P n ops k (⟨some d,.load t x,ty,pos,bO,none⟩::rest) σ w:=pA hd (aE hu hr hx (hH.cell hi hc)) hk
theorem tV(i:Nat)(hi:l[i]?=some ⟨some d,.load t x,ty,pos,bO,none⟩)(hS:Hp w0 w L)(hu:P.underlying t=some td)(j:Nat)(hx:ev σ x= .pointer (some ⟨b,off,none⟩))(hj:L[j]?=some (.blk b (.cells c e fr)))(hc:c[off]?=some v)
 (h:AN P n l (fun w=>Hp w0 w L) k fuel (listed.setIfInBounds i true) (me σ d v) w) (ht:td.isRow=false:=by rfl) (hd:Nat.blt d n=true:=by rfl) (hs:Region.noSelect l.toArray=true:=by kernel_rfl) (hf:Region.free .any l.toArray listed i=true:=by kernel_rfl)
 (hr:(Region.ready .any l.toArray listed).contains i=true:=by kernel_rfl):AN P n l (fun w=>Hp w0 w L) k (fuel+1) listed σ w:=agl i hi hd hs hf hr hS (fun w hS=>aE hu ht hx (hS.cell hj hc)) h
theorem tI{a:Int}(i:Nat)(hi:l[i]?=some ⟨some d,.load t x,ty,pos,bO,none⟩)(hS:Hp w0 w L)(hu:P.underlying t=some td)(j:Nat)(hx:ev σ x= .pointer (some ⟨b,off,none⟩))(hj:L[j]?=some (.blk b (.cells c e fr)))(hc:c[off]?=some (I a))
 (h:AN P n l (fun w=>Hp w0 w L) k fuel (listed.setIfInBounds i true) (me σ d (I a)) w) (ht:td.isRow=false:=by rfl) (hd:Nat.blt d n=true:=by rfl) (hs:Region.noSelect l.toArray=true:=by kernel_rfl) (hf:Region.free .any l.toArray listed i=true:=by kernel_rfl)
 (hr:(Region.ready .any l.toArray listed).contains i=true:=by kernel_rfl):AN P n l (fun w=>Hp w0 w L) k (fuel+1) listed σ w:=tV i hi hS hu j hx hj hc h ht hd hs hf hr
theorem tP{p q:Nat}(i:Nat)(hi:l[i]?=some ⟨some d,.load t x,ty,pos,bO,none⟩)(hS:Hp w0 w L)(hu:P.underlying t=some td)(j:Nat)(hx:ev σ x= .pointer (some ⟨b,off,none⟩))(hj:L[j]?=some (.blk b (.cells c e fr)))(hc:c[off]?=some (Pn p q))
 (h:AN P n l (fun w=>Hp w0 w L) k fuel (listed.setIfInBounds i true) (me σ d (Pn p q)) w) (ht:td.isRow=false:=by rfl) (hd:Nat.blt d n=true:=by rfl) (hs:Region.noSelect l.toArray=true:=by kernel_rfl) (hf:Region.free .any l.toArray listed i=true:=by kernel_rfl)
 (hr:(Region.ready .any l.toArray listed).contains i=true:=by kernel_rfl):AN P n l (fun w=>Hp w0 w L) k (fuel+1) listed σ w:=tV i hi hS hu j hx hj hc h ht hd hs hf hr
theorem oB{t:Nat}{a b:Bool}(h:fn.results=#[.tmp t])(he:a=b)(hH:Hp w0 w L)(hs:σ t=B a:=by rfl):Out P fn (fun u w'=>u=B b/\Below w0.heap.size w0 w') σ w:=Gu h (hs.trans (aK B he)) hH.below
theorem oI{t:Nat}{a b:Int}(h:fn.results=#[.tmp t])(he:a=b)(hH:Hp w0 w L)(hs:σ t=I a:=by rfl):Out P fn (fun u w'=>u=I b/\Below w0.heap.size w0 w') σ w:=Gu h (hs.trans (aK I he)) hH.below
theorem oU{t:Nat}{a b:BitVec 64}(h:fn.results=#[.tmp t])(he:a=b)(hH:Hp w0 w L)(hs:σ t=U a:=by rfl):Out P fn (fun u w'=>u=U b/\Below w0.heap.size w0 w') σ w:=Gu h (hs.trans (aK U he)) hH.below
end
end
section
open Go Go.RowKit Go.ChangeShapes Go.WideShapes Go.ChangeAt
theorem ER{H:Type}{enc:TypeId×Value->H}{P:Program}(hl:laidOutB P=true){W W':World}(hb:Below W.heap.size W W'):
  ∀{ts:List TypeId} {vs:List Value} {ds:List (DataW H)} {p:List MemPlace},(ts.all fun t=>P.readableRec t&&decide (t<P.types.size))=true->(∀x∈p,x.block<W.heap.size)->
   DataW.TrodAll enc P W 0 (fun _=>true) true ts vs ds p->DataW.TrodAll enc P W' 0 (fun b=>decide (b<W.heap.size)) true ts vs ds p
 |[],_,_,_,_,_,h=>by
  obtain⟨rfl,rfl,rfl⟩:=trodAll_nil h
  exact trodAll_mk0
 |t::ts,_,_,_,hr,hlt,h=>by
  obtain⟨v,F3,d,ds1,a,b,rfl,rfl,rfl,h1,h2⟩:=trodAll_cons h
  simp only[List.all_cons,cL,eD]at hr
  exact trodAll_cons_mk (Below.trod hl hr.1.1 hr.1.2 h1 hb fun x hx=>hlt x rz) (ER hl hb (by simpa using hr.2) (fun x hx=>hlt x rz) h2)
theorem ajL{H:Type}{enc:TypeId×Value->H}{P:Program}{f:FuncId}{fn:Func}{s:ChangeSpec}{W:World}{args:Array Value}{ds gs:List (DataW H)}{before:List MemPlace}{rt:TypeId}
  (hl:laidOutB P=true) (hro:(fn.params.toList.all fun t=>P.readableRec t&&decide (t<P.types.size))=true) (hrt:fn.resultTypes=#[rt]) (ayc:P.underlying rt=some .bool) (hvars:s.vars=[])
  (hres:(s.fn H (ds++gs)).results=[.lit (.bool true)]) (hargs:(s.fn H (ds++gs)).args=ds) (hvs:(s.fn H (ds++gs)).vars=[])
  (hW:DataW.Whole enc P fn.params.toList s.vars false W args.toList ds gs before)
  (hc:Calls P f args W (Pure (B true) W)):
  Calls P f args W fun e W'=>∃v,e= .returned v/\s.post enc P fn false true false false W args v W':=by
 refine hc.mono fun e W' hr=> ?_
 cases e with
 |panicked c=>exact hr.elim
 |outgrown=>exact hr.elim
 |returned v=>
  obtain⟨rfl,hb⟩:=hr
  have hW':=hW
  obtain⟨p,q,hA,hV,rfl,_⟩:=hW
  have hlt:∀x∈p,x.block<W.heap.size:=fun x hx=>by simpa using hW'.lt x rz
  refine⟨_,rfl,ds,gs,_,[],p,[],hW',?_,?_,?_,hb.frame _,fun h=>mO⟩
  .rw[hres,hrt]
   exact trodAll_cons_mk (shut_bool ayc _) trodAll_mk0
  .rw[hargs]
   exact ER hl hb hro hlt hA
  rw[hvs,hvars];rfl
theorem aE6{n:Int}(h:(Lit.int .u64 n).wf=true):∃a:BitVec 64,n=(a.toNat:Int):=by
 simp[Lit.wf,IntKind.min,IntKind.max,IntKind.signed,IntKind.bits]at h
 refine⟨BitVec.ofInt 64 n,?_⟩
 rw[Lv];omega
end
section
open Go Go.RowKit Go.ChangeShapes Go.WideShapes Go.ChangeAt Go.Proofs.YtlhjdflgjbkpmaaGreatDoor.M
theorem acu{α:Type}(cells:α->List Value)(sz:Nat)(hsz:∀a,(cells a).length=sz):∀(l:List α) (j:Nat) (c:Value),(l.flatMap cells)[j]?=some c->∃i a r,l[i]?=some a/\j=i*sz+r/\r<sz/\(cells a)[r]?=some c
 |[],j,c,h=>by simp at h
 |a::l,j,c,h=>by
  rw[uM]at h
  by_cases hj:j<sz
  .rw[zL (by rw[hsz];exact hj)]at h
   exact⟨0,a,j,rfl,J,hj,h⟩
  rw[E9 (by rw[hsz];omega),hsz]at h
  obtain⟨i,b,r,h1,h2,h3,h4⟩:=acu cells sz hsz l _ c h
  exact⟨i+1,b,r,Fv,by rw[lF];omega,h3,h4⟩
theorem ajM{α:Type}(cells:α->List Value)(sz:Nat)(hsz:∀a,(cells a).length=sz)(l:List α):(l.flatMap cells).length=l.length*sz:=by
 induction l with
 |nil=>simp
 |cons a l ih=>rw[uM,ed,hsz,ih,eG,lF];omega
theorem qx{α H:Type}{enc:TypeId×Value->H}{P:Program}{w:World}{base:Nat}{sp:Nat->Bool}{held:Bool}{t e:TypeId}{Be:List Value}{x:DataW H×List MemPlace}{fuel sz:Nat}(cells:α->List Value)(ok:α->Prop)
  (hsz:∀a,(cells a).length=sz) (hpos:0<sz) (ht:P.underlying t=some (.slice e)) (hc:P.cellsOf e=sz)
  (hE:∀fuel cs x,DataW.trod enc P w base sp held fuel e cs=some x->∃a,cs=cells a/\ok a) (h:DataW.trod enc P w base sp held fuel t Be=some x):
  ∃(v:Value) (l:List α),Be=[v]/\Sl w v sz l.length (l.flatMap cells)/\(∀a∈l,ok a)/\v.cells=#[v]:=by
 rcases DataW.trod_slice ht h with⟨h1,-⟩|⟨a,len,cap,elems,rest,n,_,rfl,-,hb,hl,hm,hlen,hel,-,-⟩
 .exact⟨_,[],h1,Sl.nil w sz,fun a ha=>by simp at ha,rfl⟩
 have key:∀k,k<=len->∃l:List α,l.length=k/\∀i b,l[i]?=some b->w.cells? base (a.add (i*sz)) sz=some (cells b)/\ok b:=fun k=>by
  induction k with
  |zero=>exact fun _=>⟨[],rfl,fun i b hi=>by simp at hi⟩
  |succ k ih=>
   intro hk
   obtain⟨l,h1,h2⟩:=ih J
   have h3:=hel k J
   rw[eF (by omega:k<elems.length),Option.bind_eq_some_iff,hc]at h3
   obtain⟨cs,h4,h5⟩:=h3
   obtain⟨b,rfl,XE⟩:=hE _ _ _ h5
   refine⟨l++[b],by simp[h1],fun i c hi=> ?_⟩
   by_cases hik:i<k
   .rw[zL J]at hi;exact h2 i c hi
   have:i=k:=by
    have:=(n7.1 hi).1
    simp[h1]at this;omega
   subst this
   rw[E9 J,h1]at hi
   simp at hi;subst hi;exact⟨h4,XE⟩
 obtain⟨l,h1,h2⟩:=key len (eu _)
 refine⟨_,l,rfl,?_,fun b XE=> ?_,rfl⟩
 .have aqf:0<len->a.spot=none:=fun h0=>by
   have h3:=(h2 0 (l.getD 0 (l[0]'J)) (by rw[eV,eF J];rfl)).1
   have h4:=(World.cells?_some h3).2.2 0 hpos
   rw[RR]at h4
   have h5:a.add 0=a\/a.spot=none:=by
    unfold Addr.add
    split
    .rename_i hs;exact .inl (by cases a;simp)
    rename_i hs;exact .inr (by cases hq:a.spot with
     |none=>rfl
     |some _=>simp_all)
   have hcs:((cells (l.getD 0 (l[0]'J)))[0]?)≠none:=by
    rw[Ne,List.getElem?_eq_none_iff,hsz];omega
   rcases h5 with h5|h5
   .rw[h5,h5]at h4
    unfold World.cell? at h4
    split at h4
    .split at h4
     .exact absurd h4.symm hcs
     rename_i hns;cases h6:a.spot with
     |none=>rfl
     |some _=>rw[h6]at hns;simp at hns
    exact absurd h4.symm hcs
   exact h5
  have aye:0<len->∀j,a.add j=⟨a.block,a.off+j,none⟩:=fun h0 j=>by
   have:=aqf h0
   unfold Addr.add
   cases a;simp_all
  refine⟨⟨some a,cap,by rw[h1],by rw[h1];exact hl,fun h0=> ?_⟩,ajM cells sz hsz l,fun j c hj=> ?_,by rw[h1];omega⟩
  .rw[h1]at h0
   have:=aqf h0
   cases a;simp_all [sb,so]
  obtain⟨i,b,r,hi,rfl,hr,hbr⟩:=acu cells sz hsz l j c hj
  have ayf:0<len:=by have:=(n7.1 hi).1;omega
  have h6:=(World.cells?_some (h2 i b hi).1).2.2 r hr
  rw[aye ayf,show(⟨a.block,a.off+i*sz,none⟩:Addr).add r=⟨a.block,a.off+i*sz+r,none⟩by simp[Addr.add]]at h6
  show w.cell? ⟨a.block,a.off+(i*sz+r),none⟩=some c
  rw[<-xW,h6,hbr]
 obtain⟨i,hi⟩:=List.getElem?_of_mem XE
 exact(h2 i b hi).2
end
section
open Go Go.RowKit Go.ChangeShapes Go.WideShapes Go.ChangeAt Go.Deep Go.Proofs.YtlhjdflgjbkpmaaGreatDoor.M
theorem ajN{cs:List Value}(hl:cs.length=8)(h:∀i,i<8->∃a:BitVec 64,cs[i]?=some (U a)):∃e:El,cs=pM e:=by
 have hf:∀i:Nat,∃a:BitVec 64,i<8->cs[i]?=some (U a):=fun i=>by
  by_cases hi:i<8
  .obtain⟨a,ha⟩:=h i hi;exact⟨a,fun _=>ha⟩
  exact⟨0#64,fun h=>absurd h hi⟩
 refine⟨fun i=>(hf i).choose,uu fun j=> ?_⟩
 by_cases hj:j<8
 .rw[(hf j).choose_spec hj];simp[pM,hj]
 rw[ot J,ot (by rw[cY];omega)]
theorem an9(l:List Tx):l.flatMap (fun s=>[Value.string s])=JL l:=by
 induction l with
 |nil=>rfl
 |cons a l ih=>rw[uM,ih];rfl
structure aqg(P:Program)(t ti ta te:TypeId):Prop where
 u:∃f0 f1:Field,P.underlying t=some (.struct #[f0,f1])/\(f0.type=ti/\f0.offset=0)/\(f1.type=ta/\f1.offset=1)
 i:P.underlying ti=some (.int .i64)
 ci:P.cellsOf ti=1
 a:P.underlying ta=some (.array 64 te)
 e:P.underlying te=some (.int .u64)
 ce:P.cellsOf te=1
 ca:P.cellsOf ta=64
 z:P.cellsOf t=65
structure aqh(P:Program)(t tk ts tx tr ti ta te:TypeId):Prop where
 r:aqg P tr ti ta te
 u:∃f0 f1 f2:Field,P.underlying t=some (.struct #[f0,f1,f2])/\(f0.type=tk/\f0.offset=0)/\(f1.type=ts/\f1.offset=1)/\(f2.type=tr/\f2.offset=2)
 k:P.underlying tk=some (.int .i64)
 ck:P.cellsOf tk=1
 s:P.underlying ts=some (.slice tx)
 cs:P.cellsOf ts=1
 x:P.underlying tx=some .string
 cx:P.cellsOf tx=1
 z:P.cellsOf t=67
structure aqi(P:Program)(t tb Ko tf tk ts tx tr ti ta te:TypeId):Prop where
 f:aqh P tf tk ts tx tr ti ta te
 u:∃f0 f1:Field,P.underlying t=some (.struct #[f0,f1])/\(f0.type=tb/\f0.offset=0)/\(f1.type=Ko/\f1.offset=1)
 b:P.underlying tb=some .bool
 cb:P.cellsOf tb=1
 fs:P.underlying Ko=some (.slice tf)
 cfs:P.cellsOf Ko=1
 z:P.cellsOf t=2
section
variable{H:Type}{enc:TypeId×Value->H}{P:Program}{w:World}{base:Nat}{sp:Nat->Bool}{held:Bool}{fuel:Nat}{cs:List Value}{x:DataW H×List MemPlace}{t tb Ko tf tk ts tx tr ti ta te:TypeId}
theorem NW{n:Nat}(ht:P.underlying t=some (.array n te))(he:P.underlying te=some (.int .u64))(hc:P.cellsOf te=1)(hz:P.cellsOf t=n)(h:DataW.trod enc P w base sp held fuel t cs=some x):
  cs.length=n/\∀i,i<n->∃a:BitVec 64,cs[i]?=some (U a):=by
 obtain⟨xs,m,-,-,hl,hn,hel⟩:=DataW.trod_array ht h
 refine⟨by rw[hl,hz],fun i hi=> ?_⟩
 have h1:=hel i hi
 rw[hc,l9,eF J]at h1
 obtain⟨k,h2,-,wf⟩:=uv he h1
 obtain⟨a,rfl⟩:=aE6 wf
 have h3:((cs.drop i).take 1)[0]?=some (U a):=by rw[h2];rfl
 rw[vx,aY J,Cb,LL]at h3
 exact⟨a,h3⟩
theorem acv(ht:P.underlying t=some (.array 8 te))(he:P.underlying te=some (.int .u64))(hc:P.cellsOf te=1)(hz:P.cellsOf t=8)(h:DataW.trod enc P w base sp held fuel t cs=some x):∃e:El,cs=pM e/\True:=by
 obtain⟨h1,h2⟩:=NW ht he hc hz h
 obtain⟨e,rfl⟩:=ajN h1 h2
 exact⟨e,rfl,trivial⟩
theorem ajO(T:aqg P t ti ta te)(h:DataW.trod enc P w base sp held fuel t cs=some x):∃r:Rl,cs=wS r:=by
 obtain⟨f0,f1,ht,h0,h1⟩:=T.u
 obtain⟨y0,y1,n,-,hl,h2,h3⟩:=trod_struct2 ht h
 rw[h0.1,h0.2,T.ci]at h2
 rw[h1.1,h1.2,T.ca]at h3
 obtain⟨m,h4,-⟩:=uv T.i h2
 obtain⟨h5,h6⟩:=NW T.a T.e T.ce T.ca h3
 rw[T.z]at hl
 have hf:∀i:Nat,∃a:BitVec 64,i<64->cs[i+1]?=some (U a):=fun i=>by
  by_cases hi:i<64
  .obtain⟨a,ha⟩:=h6 i hi
   rw[vx,aY hi,Cb,Nat.add_comm]at ha
   exact⟨a,fun _=>ha⟩
  exact⟨0#64,fun h=>absurd h hi⟩
 refine⟨⟨m,fun i=>(hf i).choose⟩,uu fun j=> ?_⟩
 match j with
 |0=>
  have h7:((cs.drop 0).take 1)[0]?=some (I m):=by rw[h4];rfl
  rw[vx,aY J,Cb,LL]at h7
  rw[h7];rfl
 |j+1=>
  by_cases hj:j<64
  .rw[(hf j).choose_spec hj];simp[wS,hj]
  rw[ot J,ot (by rw[pQ];omega)]
theorem ajP(T:aqh P t tk ts tx tr ti ta te)(h:DataW.trod enc P w base sp held fuel t cs=some x):∃f:qI,cs=sS f/\wU (Kw w) f:=by
 obtain⟨f0,f1,f2,ht,h0,h1,h2⟩:=T.u
 obtain⟨y0,y1,y2,n,-,hl,h3,h4,h5⟩:=trod_struct3 ht h
 rw[h0.1,h0.2,T.ck]at h3
 rw[h1.1,h1.2,T.cs]at h4
 rw[h2.1,h2.2,T.r.z]at h5
 obtain⟨m,e3,-⟩:=uv T.k h3
 obtain⟨v,l,e4,hs,-,-⟩:=qx (sz:=1) (fun s:Tx=>[Value.string s]) (fun _=>True) (fun _=>rfl) J T.s T.cx (fun _ _ _ hx=>by
  obtain⟨s,e,-⟩:=LC T.x hx
  exact⟨s,e,trivial⟩) h4
 obtain⟨r,e5⟩:=ajO T.r h5
 rw[an9]at hs
 rw[T.z]at hl
 refine⟨⟨m,v,l,r⟩,?_,⟨hs.slv⟩⟩
 match cs,hl with
 |a::b::c,hl=>
  simp only[eG]at hl
  simp only[LH,HM,xQ,Lt]at e3 e4 e5
  rw[jg J]at e5
  rw[sS,e5,(List.cons.inj e3).1,(List.cons.inj e4).1]
theorem ajQ(T:aqi P t tb Ko tf tk ts tx tr ti ta te)(h:DataW.trod enc P w base sp held fuel t cs=some x):∃s:kW,cs=[B s.tuple,s.fv]/\lm (Kw w) s:=by
 obtain⟨f0,f1,ht,h0,h1⟩:=T.u
 obtain⟨y0,y1,n,-,hl,h2,h3⟩:=trod_struct2 ht h
 rw[h0.1,h0.2,T.cb]at h2
 rw[h1.1,h1.2,T.cfs]at h3
 obtain⟨m,e2,-⟩:=DataW.trod_bool T.b h2
 obtain⟨v,l,e3,hs,hok,-⟩:=qx (sz:=67) sS (wU (Kw w)) fC J T.fs T.f.z (fun _ _ _ hx=>ajP T.f hx) h3
 rw[T.z]at hl
 refine⟨⟨m,v,l⟩,?_,⟨hs.slv,hok⟩⟩
 match cs,hl with
 |[a,b],_=>
  simp at e2 e3
  rw[e2,e3]
end
section
variable{P:Program}{w:World}{r:Reach}{b0:Nat}{t te:TypeId}{v:Value}
end
structure aqj(P:Program)(t tx ti:TypeId):Prop where
 u:∃f0 f1 f2:Field,P.underlying t=some (.struct #[f0,f1,f2])/\(f0.type=tx/\f0.offset=0)/\(f1.type=ti/\f1.offset=1)/\(f2.type=ti/\f2.offset=2)
 x:P.underlying tx=some .string
 cx:P.cellsOf tx=1
 i:P.underlying ti=some (.int .i64)
 ci:P.cellsOf ti=1
 z:P.cellsOf t=3
structure aKM(P:Program)(t ti:TypeId):Prop where
 u:∃f0 f1:Field,P.underlying t=some (.struct #[f0,f1])/\(f0.type=ti/\f0.offset=0)/\(f1.type=ti/\f1.offset=1)
 i:P.underlying ti=some (.int .i64)
 ci:P.cellsOf ti=1
 z:P.cellsOf t=2
structure aqk(P:Program)(t tsh tb Ko tf tk ts tx tr ti ta te:TypeId):Prop where
 s:aqi P tsh tb Ko tf tk ts tx tr ti ta te
 u:∃f0 f1:Field,P.underlying t=some (.struct #[f0,f1])/\(f0.type=tx/\f0.offset=0)/\(f1.type=tsh/\f1.offset=1)
 z:P.cellsOf t=3
structure aql(P:Program)(t tls tvs tv tl tsh tb Ko tf tk ts tx tr ti ta te:TypeId):Prop where
 l:aqk P tl tsh tb Ko tf tk ts tx tr ti ta te
 v:aqj P tv tx ti
 u:∃f0 f1:Field,P.underlying t=some (.struct #[f0,f1])/\(f0.type=tls/\f0.offset=0)/\(f1.type=tvs/\f1.offset=1)
 ls:P.underlying tls=some (.slice tl)
 vs:P.underlying tvs=some (.slice tv)
 cls:P.cellsOf tls=1
 cvs:P.cellsOf tvs=1
 z:P.cellsOf t=2
section
variable{H:Type}{enc:TypeId×Value->H}{P:Program}{w:World}{base:Nat}{sp:Nat->Bool}{held:Bool}{fuel:Nat}{cs:List Value}{x:DataW H×List MemPlace}{t tls tvs tv tl tsh tb Ko tf tk ts tx tr ti ta te:TypeId}
theorem ajR(T:aqj P t tx ti)(h:DataW.trod enc P w base sp held fuel t cs=some x):∃v:sV,cs=O8 v/\True:=by
 obtain⟨f0,f1,f2,ht,h0,h1,h2⟩:=T.u
 obtain⟨y0,y1,y2,n,-,hl,h3,h4,h5⟩:=trod_struct3 ht h
 rw[h0.1,h0.2,T.cx]at h3
 rw[h1.1,h1.2,T.ci]at h4
 rw[h2.1,h2.2,T.ci]at h5
 obtain⟨a,e3,-⟩:=LC T.x h3
 obtain⟨b,e4,-⟩:=uv T.i h4
 obtain⟨c,e5,-⟩:=uv T.i h5
 rw[T.z]at hl
 match cs,hl with
 |[u,v,z],_=>
  simp at e3 e4 e5
  exact⟨⟨a,b,c⟩,by rw[e3,e4,e5];rfl,trivial⟩
theorem ajS(T:aqk P t tsh tb Ko tf tk ts tx tr ti ta te)(h:DataW.trod enc P w base sp held fuel t cs=some x):∃l:Ee,cs=MV l/\lm (Kw w) l.zH:=by
 obtain⟨f0,f1,ht,h0,h1⟩:=T.u
 obtain⟨y0,y1,n,-,hl,h3,h4⟩:=trod_struct2 ht h
 rw[h0.1,h0.2,T.s.f.cx]at h3
 rw[h1.1,h1.2,T.s.z]at h4
 obtain⟨a,e3,-⟩:=LC T.s.f.x h3
 obtain⟨s,e4,hs⟩:=ajQ T.s h4
 rw[T.z]at hl
 refine⟨⟨a,s⟩,?_,hs⟩
 match cs,hl with
 |[u,v,z],_=>
  simp at e3 e4
  rw[e3,e4.1,e4.2];rfl
theorem ajT(T:aql P t tls tvs tv tl tsh tb Ko tf tk ts tx tr ti ta te)(h:DataW.trod enc P w base sp held fuel t cs=some x):∃s:lQ,cs=[s.lv,s.vv]/\Ef (Kw w) s:=by
 obtain⟨f0,f1,ht,h0,h1⟩:=T.u
 obtain⟨y0,y1,n,-,hl,h3,h4⟩:=trod_struct2 ht h
 rw[h0.1,h0.2,T.cls]at h3
 rw[h1.1,h1.2,T.cvs]at h4
 obtain⟨v,l,e3,hs,hok,-⟩:=qx (sz:=3) MV (fun l=>lm (Kw w) l.zH) oG J T.ls T.l.z (fun _ _ _ hx=>ajS T.l hx) h3
 obtain⟨v2,l2,e4,hs2,-,-⟩:=qx (sz:=3) O8 (fun _=>True) tN J T.vs T.v.z (fun _ _ _ hx=>ajR T.v hx) h4
 rw[T.z]at hl
 refine⟨⟨v,l,v2,l2⟩,?_,⟨hs.slv,hs2.slv,hok⟩⟩
 match cs,hl with
 |[a,b],_=>
  simp at e3 e4
  rw[e3,e4]
end
structure Z6(P:Program)(t ti te tu:TypeId):Prop where
 u:∃f0 f1:Field,P.underlying t=some (.struct #[f0,f1])/\(f0.type=ti/\f0.offset=0)/\(f1.type=te/\f1.offset=1)
 i:P.underlying ti=some (.int .i64)
 ci:P.cellsOf ti=1
 e:P.underlying te=some (.array 8 tu)
 hu:P.underlying tu=some (.int .u64)
 cu:P.cellsOf tu=1
 ce:P.cellsOf te=8
 z:P.cellsOf t=9
structure acw(P:Program)(t ta tx ti te tu:TypeId):Prop where
 a:Z6 P ta ti te tu
 u:∃f0 f1:Field,P.underlying t=some (.struct #[f0,f1])/\(f0.type=tx/\f0.offset=0)/\(f1.type=ta/\f1.offset=1)
 x:P.underlying tx=some .string
 cx:P.cellsOf tx=1
 z:P.cellsOf t=10
structure aqm(P:Program)(t Ko tf ta tx ti te tu:TypeId):Prop where
 f:acw P tf ta tx ti te tu
 u:∃f0 f1:Field,P.underlying t=some (.struct #[f0,f1])/\(f0.type=Ko/\f0.offset=0)/\(f1.type=ti/\f1.offset=1)
 fs:P.underlying Ko=some (.slice tf)
 cfs:P.cellsOf Ko=1
 z:P.cellsOf t=2
structure aqn(P:Program)(t ti te tu:TypeId):Prop where
 u:∃f0 f1 f2:Field,P.underlying t=some (.struct #[f0,f1,f2])/\(f0.type=ti/\f0.offset=0)/\(f1.type=ti/\f1.offset=1)/\(f2.type=te/\f2.offset=2)
 z:P.cellsOf t=10
structure aqo(P:Program)(t tcs tn tr Ko tf ta tx ti te tu:TypeId):Prop where
 r:aqm P tr Ko tf ta tx ti te tu
 n:aqn P tn ti te tu
 u:∃f0 f1 f2 f3 f4 f5 f6 f7:Field,P.underlying t=some (.struct #[f0,f1,f2,f3,f4,f5,f6,f7])/\(f0.type=ti/\f0.offset=0)/\(f1.type=ti/\f1.offset=1)/\(f2.type=tcs/\f2.offset=2)/\(f3.type=ta/\f3.offset=3)/\(f4.type=tr/\f4.offset=12)/\(f5.type=tr/\f5.offset=14)/\(f6.type=ti/\f6.offset=16)/\(f7.type=tx/\f7.offset=17)
 cs:P.underlying tcs=some (.slice tn)
 ccs:P.cellsOf tcs=1
 z:P.cellsOf t=18
structure ajU(P:Program)(t tas tss aob aoc aod aoe aof aog aoh aoi aoj acy acz acA acB acC ajV tcs tn tr Ko tf ta tx ti te tu:TypeId):Prop where
 a:aqo P ajV tcs tn tr Ko tf ta tx ti te tu
 s:aql P tss aob aoc aod aoe aof aog aoh aoi aoj acy acz acA acB acC tu
 u:∃f0 f1:Field,P.underlying t=some (.struct #[f0,f1])/\(f0.type=tss/\f0.offset=0)/\(f1.type=tas/\f1.offset=2)
 HK:P.underlying tas=some (.slice ajV)
 cas:P.cellsOf tas=1
 z:P.cellsOf t=3
section
variable{H:Type}{enc:TypeId×Value->H}{P:Program}{w:World}{base:Nat}{sp:Nat->Bool}{held:Bool}{fuel:Nat}{cs:List Value}{x:DataW H×List MemPlace}{t tas ajV tcs tn tr Ko tf ta tx ti te tu tss aob aoc aod aoe aof aog aoh aoi aoj acy acz acA acB acC:TypeId}
theorem QW(T:Z6 P t ti te tu)(h:DataW.trod enc P w base sp held fuel t cs=some x):∃a:iS,cs=jH a/\True:=by
 obtain⟨f0,f1,ht,h0,h1⟩:=T.u
 obtain⟨y0,y1,n,-,hl,h3,h4⟩:=trod_struct2 ht h
 rw[h0.1,h0.2,T.ci]at h3
 rw[h1.1,h1.2,T.ce]at h4
 obtain⟨b,e3,-⟩:=uv T.i h3
 obtain⟨c,e4,-⟩:=acv T.e T.hu T.cu T.ce h4
 rw[T.z]at hl
 match cs,hl with
 |u::cs,hl=>
  simp at e3 hl
  refine⟨⟨b,c⟩,?_,trivial⟩
  rw[Lt,LH,jg J]at e4
  rw[e3,e4];rfl
theorem Z7(T:acw P t ta tx ti te tu)(h:DataW.trod enc P w base sp held fuel t cs=some x):∃a:lK,cs=uE a/\True:=by
 obtain⟨f0,f1,ht,h0,h1⟩:=T.u
 obtain⟨y0,y1,n,-,hl,h3,h4⟩:=trod_struct2 ht h
 rw[h0.1,h0.2,T.cx]at h3
 rw[h1.1,h1.2,T.a.z]at h4
 obtain⟨b,e3,-⟩:=LC T.x h3
 obtain⟨c,e4,-⟩:=QW T.a h4
 rw[T.z]at hl
 match cs,hl with
 |u::cs,hl=>
  simp at e3 hl
  refine⟨⟨b,c⟩,?_,trivial⟩
  rw[Lt,LH,jg J]at e4
  rw[e3,e4];rfl
theorem QX(T:aqm P t Ko tf ta tx ti te tu)(h:DataW.trod enc P w base sp held fuel t cs=some x):∃r:BI,cs=SU r/\Zj (Kw w) r:=by
 obtain⟨f0,f1,ht,h0,h1⟩:=T.u
 obtain⟨y0,y1,n,-,hl,h3,h4⟩:=trod_struct2 ht h
 rw[h0.1,h0.2,T.cfs]at h3
 rw[h1.1,h1.2,T.f.a.ci]at h4
 obtain⟨v,l,e3,hs,-,-⟩:=qx (sz:=10) uE (fun _=>True) sW J T.fs T.f.z (fun _ _ _ hx=>Z7 T.f hx) h3
 obtain⟨b,e4,-⟩:=uv T.f.a.i h4
 rw[T.z]at hl
 refine⟨⟨v,l,b⟩,?_,⟨hs.slv⟩⟩
 match cs,hl with
 |[a,c],_=>
  simp at e3 e4
  rw[e3,e4];rfl
theorem ajW(A:Z6 P ta ti te tu)(T:aqn P t ti te tu)(h:DataW.trod enc P w base sp held fuel t cs=some x):∃a:dX,cs=kq a/\True:=by
 obtain⟨f0,f1,f2,ht,h0,h1,h2⟩:=T.u
 obtain⟨y0,y1,y2,n,-,hl,h3,h4,h5⟩:=trod_struct3 ht h
 rw[h0.1,h0.2,A.ci]at h3
 rw[h1.1,h1.2,A.ci]at h4
 rw[h2.1,h2.2,A.ce]at h5
 obtain⟨a,e3,-⟩:=uv A.i h3
 obtain⟨b,e4,-⟩:=uv A.i h4
 obtain⟨c,e5,-⟩:=acv A.e A.hu A.cu A.ce h5
 rw[T.z]at hl
 match cs,hl with
 |u::v::cs,hl=>
  simp at e3 e4 hl
  refine⟨⟨a,b,c⟩,?_,trivial⟩
  rw[Lt,Lt,LH,jg J]at e5
  rw[e3,e4,e5];rfl
theorem ajX(T:aqo P t tcs tn tr Ko tf ta tx ti te tu)(h:DataW.trod enc P w base sp held fuel t cs=some x):∃a:gL,cs=u3 a/\Ke (Kw w) a:=by
 obtain⟨f0,f1,f2,f3,f4,f5,f6,f7,ht,h0,h1,h2,h3,h4,h5,h6,h7⟩:=T.u
 obtain⟨xs,n,hfu,rfl,hl,hlen,hf⟩:=DataW.trod_struct ht h
 have g0:=hf 0 f0 O
 have g1:=hf 1 f1 O
 have g2:=hf 2 f2 O
 have g3:=hf 3 f3 O
 have g4:=hf 4 f4 O
 have g5:=hf 5 f5 O
 have g6:=hf 6 f6 O
 have g7:=hf 7 f7 O
 match xs,hlen with
 |[y0,y1,y2,y3,y4,y5,y6,y7],_=>
  simp only[List.getElem?_cons_zero,List.getElem?_cons_succ]at g0 g1 g2 g3 g4 g5 g6 g7
  rw[h0.1,h0.2,T.r.f.a.ci]at g0
  rw[h1.1,h1.2,T.r.f.a.ci]at g1
  rw[h2.1,h2.2,T.ccs]at g2
  rw[h3.1,h3.2,T.r.f.a.z]at g3
  rw[h4.1,h4.2,T.r.z]at g4
  rw[h5.1,h5.2,T.r.z]at g5
  rw[h6.1,h6.2,T.r.f.a.ci]at g6
  rw[h7.1,h7.2,T.r.f.cx]at g7
  obtain⟨op,e0,-⟩:=uv T.r.f.a.i g0
  obtain⟨bf,e1,-⟩:=uv T.r.f.a.i g1
  obtain⟨cv,code,e2,hc,-,-⟩:=qx (sz:=10) kq (fun _=>True) gS J T.cs T.n.z (fun _ _ _ hx=>ajW T.r.f.a T.n hx) g2
  obtain⟨to,e3,-⟩:=QW T.r.f.a g3
  obtain⟨a,e4,ha⟩:=QX T.r g4
  obtain⟨b,e5,hb⟩:=QX T.r g5
  obtain⟨var,e6,-⟩:=uv T.r.f.a.i g6
  obtain⟨field,e7,-⟩:=LC T.r.f.x g7
  rw[T.z]at hl
  refine⟨⟨op,bf,cv,code,to,a,b,var,field⟩,?_,⟨hc.slv,ha,hb⟩⟩
  match cs,hl with
  |[u0,u1,u2,v0,v1,v2,v3,v4,v5,v6,v7,v8,a0,a1,b0,b1,z0,z1],_=>
   simp[SU]at e0 e1 e2 e3 e4 e5 e6 e7
   rw[e0,e1,e2,e4.1,e4.2,e5.1,e5.2,e6,e7]
   show _=I op::I bf::cv::(jH to++_)
   rw[<-e3];rfl
theorem aeL(T:ajU P t tas tss aob aoc aod aoe aof aog aoh aoi aoj acy acz acA acB acC ajV tcs tn tr Ko tf ta tx ti te tu)(h:DataW.trod enc P w base sp held fuel t cs=some x):∃p:ko,cs=sy p/\rL (Kw w) p:=by
 obtain⟨f0,f1,ht,h0,h1⟩:=T.u
 obtain⟨y0,y1,n,-,hl,h3,h4⟩:=trod_struct2 ht h
 rw[h0.1,h0.2,T.s.z]at h3
 rw[h1.1,h1.2,T.cas]at h4
 obtain⟨s,e3,hs⟩:=ajT T.s h3
 obtain⟨v,l,e4,ha,hok,-⟩:=qx (sz:=18) u3 (fun x=>Ke (Kw w) x) ni J T.HK T.a.z (fun _ _ _ hx=>ajX T.a hx) h4
 rw[T.z]at hl
 refine⟨⟨s,v,l⟩,?_,⟨hs,ha.slv,hok⟩⟩
 match cs,hl with
 |[a,b,c],_=>
  simp at e3 e4
  rw[e3.1,e3.2,e4];rfl
theorem aeM{r:Reach}{b0:Nat}{v:Value}{d:DataW H}{ps:List MemPlace}(T:ajU P t tas tss aob aoc aod aoe aof aog aoh aoi aoj acy acz acA acB acC ajV tcs tn tr Ko tf ta tx ti te tu)(hval:Value.okWide P w r b0 t v)(hd:DataW.Trod enc P w base sp held t v d ps):∃p:ko,v= .agg (sy p).toArray/\rL (Kw w) p:=by
 obtain⟨f0,f1,ht,-⟩:=T.u
 obtain⟨cs,rfl,-⟩:=okWide_struct ht hval
 obtain⟨fuel,h⟩:=hd
 obtain⟨s,h1,h2⟩:=aeL T h
 refine⟨s,?_,h2⟩
 congr 1
 exact RW h1
end
end
end Go.Proofs.YtlhjdflgjbkpmaaGreatDoor.E

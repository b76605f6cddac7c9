/- Part 3 of the proof of FlowSteps: its plain laws and the walks of its functions. -/
import Derived.Test.YtlhjdflgjbkpmaaGreatDoorFlowStepsPartB
set_option linter.all false
namespace Go.Proofs.YtlhjdflgjbkpmaaGreatDoor.E
section
open Go Go.RowKit Go.Proofs.YtlhjdflgjbkpmaaGreatDoor.M
structure NF where
 vL:Value
 vt:Value
 vv:Value
 vy:Value
 vu:Value
 vq:Value
 vW:Value
 vU:Value
 vT:Value
 cn:Int
 vd:Value
 vm:Value
 cW:Option (Nat×Array Value)
 cU:Option (Nat×Array Value)
 W:List (BitVec 64)
 ul:List (Value×jS)
 ts:List Int
 us:List j4
def ZK:Value×mw:=(.tuple #[],.stuck)
def CS(lg:List (Value×mw))(k:Nat):List mw:=((lg.drop k).map Prod.snd).reverse
theorem QE{lg:List (Value×mw)}{k:Nat}(h:k<lg.length):CS lg k=CS lg (k+1)++[(lg.getD k ZK).2]:=by grind[CS,List.drop_eq_getElem_cons,List.reverse_cons,getD_eq]
theorem aiY{lg:List (Value×mw)}{k:Nat}(h:lg.length<=k):CS lg k=[]:=by simp_all[CS]
theorem V4{lg new:List (Value×mw)}:CS (lg++new) lg.length=(new.map Prod.snd).reverse:=by grind[CS]
theorem aes{lg:List (Value×mw)}{s:NP}{k:Nat}(h:k<lg.length):D9 (CS lg k) s=wm (lg.getD k ZK).2 (D9 (CS lg (k+1)) s):=by
 rw[QE h,VW];rfl
theorem anw{lg:List (Value×mw)}{s:NP}{o k:Nat}(ho:o<=k)(hk:k<lg.length)(h:okB (CS lg o) s):okN (lg.getD k ZK).2 (D9 (CS lg (k+1)) s):=by
 have e:CS lg o=CS lg k++(((lg.drop o).take (k-o)).map Prod.snd).reverse:=by
  unfold CS
  rw[<-List.reverse_append,<-gV]
  congr 2
  rw[show lg.drop k=(lg.drop o).drop (k-o)by rw[RB,show o+(k-o)=k by omega],HI]
 rw[e,S6,QE hk,S6]at h
 exact h.1.2.1
theorem Le.zb{K:Vu}{Z Z':List bu}(h:∀b o,bu.blk b o∈Z->bu.blk b o∈Z'):Le (Kz K Z) (Kz K Z'):=fun b o hb=>hb.imp id (h b o)
structure Ea(s:NP):Prop where
 T9:s.bq.length=s.ak.length
 OX:s.us.length=s.ak.length
 oy:(bB s.cs).length=s.ak.length
 QF:s.ak.length<=1000
 Xm:0<=s.sn/\s.sn<=s.qs.length
 hqn:s.qs.length<=1000
 hqo:ZJ s.aq.length s.ak.length s.qs
 hlt:s.bf.length=s.ak.length
 hlr:∀k:Nat,k<s.bf.length->0<=s.bf.getD k 0/\s.bf.getD k 0<s.aq.length
 yh:∀k:Nat,k<s.us.length->(s.us.getD k []).length<=1000/\∀i∈s.us.getD k [],0<=i/\i<(s.qs.length:Int)
theorem Hp.ZL{w0 w:World}{A Zf Lb E U L:List bu}(h:Hp w0 w (A++(Zf++(Lb++(E++(U++L)))))):Hp w0 w (A++(U++(Zf++(Lb++(E++L))))):=by
 refine h.perm (u7 A ?_)
 rw[show Zf++(Lb++(E++(U++L)))=((Zf++(Lb++E))++U)++L by simp only[dG],show U++(Zf++(Lb++(E++L)))=(U++(Zf++(Lb++E)))++L by simp only[dG]]
 exact List.Perm.append_right L ud
theorem CT{us:List j4}{k:Nat}:(qh us).getD k []=(us.getD k de).l:=by grind[j4,qh,de]
theorem V5{s:NP}(h:Ea s){us:List j4}(hu:qh us=s.us){t:TypeId}{L:List bu}:∀k:Nat,k<us.length->dR t (us.getD k de)∈us.map (dR t)++L/\(us.getD k de).l.length<=1000/\∀i∈(us.getD k de).l,0<=i/\i<(s.qs.length:Int):=fun k hk=>by
 have e:=CT (us:=us) (k:=k)
 rw[hu]at e
 have:=h.yh k (by rw[<-hu,gA];exact hk)
 rw[e]at this
 refine⟨dL _ (fZ.2 ⟨us.getD k de,?_,rfl⟩),this⟩
 rw[getD_eq hk]
 exact r8 hk
theorem ab1{lg new:List (Value×mw)}{k:Int}(h1:(lg.length:Int)<=k)(h2:k<(lg++new).length):(lg++new).getD k.toNat ZK∈new:=by grind
theorem V6{t:TypeId}{gs:List j4}{A E B:List bu}{b:Nat}{o:Obj}(h:bu.blk b o∈A++(E++(gs.map (dR t)++B))):bu.blk b o∈A++(E++B):=by grind[S8]
theorem ZM{f:Value}{s:NP}{y:BitVec 64}(h1:s.sk=false)(h2:s.wy=0):iP [(f,.stuck)] s {s with sk:=true,wy:=y}:=by
 refine iP.one ?_ trivial
 obtain⟨a,b,c,d,e,f,g,h,i,j,k⟩:=s
 simp only at h1 h2
 subst h1;subst h2;rfl
def ai0:Value->Bool
 | .nilFunc=>false
 |_=>true
section
variable{P:Program}{σ:Env}{w w':World}{dst:Option Tmp}{t ty u:TypeId}{pos:String}{bO:Array Edge}{g:Option (Nat×Bool)}{x y:Operand}{v:Value}
theorem aet(d:Nat){ps rs:Array TypeId}{vr:Bool}(ht:P.underlying t=some (.func ps rs vr)):(Op.equalIn (d+1) t .nilFunc .nilFunc).run P w= .ok true w:=by
 simp[Op.equalIn,kp ht]
theorem aeu{ps rs:Array TypeId}{vr:Bool}(hv:v= .nilFunc\/∃f c,v=jO f c)(ht:P.underlying t=some (.func ps rs vr))(hx:ev σ x=v)(hy:ev σ y= .nilFunc):
  (execOp (ev σ) ⟨dst,.binOp .neq t x y u,ty,pos,bO,g⟩).run P w= .ok (.value (.bool (ai0 v))) w:=by
 rcases hv with rfl|⟨f,c,rfl⟩
 .have h:(binOp .neq t .nilFunc .nilFunc).run P w= .ok (.bool false) w:=by
   simp only[binOp];simp[Op.equal,Op.maxDepth,aet 9999 ht]
  have he:(eqGuard .neq t x y .nilFunc .nilFunc)=pure ():=rfl
  simp only[execOp,hx,hy,he];simp[h,ai0]
 exact VE ht hx hy
end
theorem GY{T:OW}{K:Vu}{ids:List Nat}{tl:List (Nat×Rl)}{x:pP}(h:Xo T K ids tl x):∀u∈(Xn x).toArray,u.oneCell'=true:=by
 intro u hu
 obtain⟨f,g,k,a,b,c,e1,e2,e3⟩:=h.ops.one
 simp only[Xn,yd,Lu,c8,e8,HN,Ce]at hu
 rcases hu with(rfl|rfl)|(rfl|rfl|rfl)|hu
 .rfl
 .exact(l9 h.zx.aZ).1
 .rw[e1];rfl
 .rw[e2];rfl
 .rw[e3];rfl
 exact uQ x.low u q5
theorem QG{P p:kR}(h:P.sh=⟨true,Bd [p]⟩):P.aZ.map qz.fc=p.aZ.map qz.fc:=by
 have hq:=aK Sh.aZ h
 simp only[Bd,uC,List.flatMap_nil,mY]at hq
 exact hq
theorem anx{P p:kR}(h:P.sh=⟨true,Bd [p]⟩)(h1:p.aZ.length<=1000)(h2:∀f∈p.aZ,f.names.length<=1000):P.aZ.length<=1000/\∀f∈P.aZ,f.names.length<=1000:=by
 have hq:=QG h
 refine⟨?_,fun f hf=> ?_⟩
 .have:=aK List.length hq;rw[gF,gF]at this;omega
 have hm:f.fc∈p.aZ.map qz.fc:=hq▸fZ.2 ⟨f,hf,rfl⟩
 obtain⟨f2,h3,e⟩:=fZ.1 hm
 have:=h2 f2 h3
 have e2:f2.names=f.names:=aK Fc.names e
 rwa[e2]at this
theorem V7{f:Value}{s:NP}{x:pP}:iP [(f,.bf s.aq.length)] s {s with aq:=s.aq++[x]}:=
 iP.one (by simp only[wm];rw[ve]) (by show s.aq.length<=(s.aq++[x]).length;simp)
theorem Hp.us2{w0 w:World}{A Z B C U L:List bu}(h:Hp w0 w (A++(Z++(B++(C++(U++L)))))):Hp w0 w (A++(U++(Z++(B++(C++L))))):=h.perm (u7 A (by
 rw[show Z++(B++(C++(U++L)))=(Z++(B++C))++(U++L)by simp only[dG],show U++(Z++(B++(C++L)))=U++((Z++(B++C))++L)by simp only[dG]]
 exact wV _ _ _))
theorem Hp.us3{w0 w:World}{A Z B C D U L:List bu}(h:Hp w0 w (A++(Z++(B++(C++(D++(U++L))))))):Hp w0 w (A++(U++(Z++(B++(C++(D++L)))))):=h.perm (u7 A (by
 rw[show Z++(B++(C++(D++(U++L))))=(Z++(B++(C++D)))++(U++L)by simp only[dG],show U++(Z++(B++(C++(D++L))))=U++((Z++(B++(C++D)))++L)by simp only[dG]]
 exact wV _ _ _))
theorem Hp.us4{w0 w:World}{A Z B C D E U L:List bu}(h:Hp w0 w (A++(Z++(B++(C++(D++(E++(U++L)))))))):Hp w0 w (A++(U++(Z++(B++(C++(D++(E++L))))))):=h.perm (u7 A (by
 rw[show Z++(B++(C++(D++(E++(U++L)))))=(Z++(B++(C++(D++E))))++(U++L)by simp only[dG],show U++(Z++(B++(C++(D++(E++L)))))=U++((Z++(B++(C++(D++E))))++L)by simp only[dG]]
 exact wV _ _ _))
theorem VZ.snoc{T:OW}{K:Vu}{ids:List Nat}{tl:List (Nat×Rl)}{l:List pP}{x:pP}(h:VZ T K ids tl l)(hx:Xo T K ids tl x):VZ T K ids tl (l++[x]):=fun y hy=>by
 rcases e8.1 hy with q|q
 .exact h y q
 rw[gG.1 q];exact hx
theorem ai1{K:Vu}{p:kR}(h:k8 K p):∀u∈(yd p).toArray,u.oneCell'=true:=by
 intro u hu
 simp only[yd,Lu,c8,HN,Ce]at hu
 rcases hu with rfl|rfl
 .rfl
 exact(l9 h.aZ).1
theorem asU(x:pP):((Xn x).drop 5).take 8=pJ x.low:=by
 show(pJ x.low).take 8=_
 exact jm (by rw[cY];exact fh _)
def shL(aq:List pP)(k:Int):Sh:=(aq.getD k.toNat pT).p.sh
def ofB(bf:List Int)(v x:Int):Bool:=decide (0<=v/\v<bf.length/\bf.getD v.toNat 0=x)
def FL(aq:List pP)(bf:List Int)(k:Int)(x:dV):Bool:=(!decide (x.op=1)||ofB bf x.n k)&&(!decide (x.op=2)||cJ (shL aq k) x.c)
def Nx(aq:List pP)(bf:List Int)(k:Int)(t:iT):Bool:=if t.var<0 then cJ (shL aq k) t.c else ofB bf t.var k
def wP(aq:List pP)(bf:List Int)(k:Int)(l:List dV)(t:iT):Bool:=decide (0<=k/\k<aq.length)&&fU l&&(l.all (FL aq bf k)&&Nx aq bf k t)
section
variable{aq:List pP}{bf:List Int}{k q:Int}{l:List dV}{t:iT}{x:dV}
theorem Ny(h:¬(0<=k/\k<aq.length)):wP aq bf k l t=false:=by grind[wP]
theorem ai2(h:fU l=false):wP aq bf k l t=false:=by grind[wP]
theorem V8(h0:0<=q)(h1:q<l.length)(h:FL aq bf k (l.getD q.toNat bG)=false):wP aq bf k l t=false:=by grind[FL,dy,wP]
theorem Nz(h1:0<=k/\k<aq.length)(h2:fU l=true)(h3:¬q<l.length)(hg:∀j:Int,0<=j->j<q->FL aq bf k (l.getD j.toNat bG)=true):wP aq bf k l t=Nx aq bf k t:=by grind[FL,List.all_eq_true,List.mem_iff_getElem,Int.toNat_natCast,getD_eq,wP]
theorem ai3(h:x.op=1)(h2:¬(0<=x.n/\x.n<bf.length/\bf.getD x.n.toNat 0=k)):FL aq bf k x=false:=by grind[FL,ofB]
theorem ai4(h:x.op=2)(h2:cJ (shL aq k) x.c=false):FL aq bf k x=false:=by grind[FL]
theorem CU(h1:¬x.op=1\/(0<=x.n/\x.n<bf.length/\bf.getD x.n.toNat 0=k))(h2:¬x.op=2\/cJ (shL aq k) x.c=true):FL aq bf k x=true:=by grind[ofB,cJ,shL,FL]
theorem anz(h:t.var<0):Nx aq bf k t=cJ (shL aq k) t.c:=aX h
theorem anA(h:¬t.var<0):Nx aq bf k t=decide (0<=t.var/\t.var<bf.length/\bf.getD t.var.toNat 0=k):=aT h
end
theorem NA{α:Type}{l:List α}{a d:α}{i:Nat}:(l++[a]).getD i d=if i<l.length then l.getD i d else if i=l.length then a else d:=by grind
theorem oD{α:Type}{l:List α}{a d:α}{i:Nat}(h:i<l.length):(l++[a]).getD i d=l.getD i d:=by grind
theorem sW{α:Type}{l:List α}{a d:α}{i:Nat}(h:i=l.length):(l++[a]).getD i d=a:=by grind
def qP(s:NP)(l:Int)(e:El):NP:={s with bf:=s.bf++[l],ak:=s.ak++[e],bq:=s.bq++[0],us:=s.us++[[]],cs:=SX s.cs}
def FM(i:Int)(u:List (List Int))(v:Int):List (List Int):=u.set v.toNat (u.getD v.toNat []++[i])
theorem pV{i:Int}:∀{l:List Int} {u:List (List Int)},(l.foldl (FM i) u).length=u.length
 |[],u=>rfl
 |v::l,u=>by rw[pg,pV];simp[FM]
theorem CV{i:Int}:∀{l:List Int} {u:List (List Int)} {k:Nat},l.Nodup->(∀v∈l,0<=v/\v<u.length)->(l.foldl (FM i) u).getD k []=u.getD k []++if(k:Int)∈l then[i]else[]
 |[],u,k,_,_=>by simp
 |v::l,u,k,hn,hl=>by
  obtain⟨n1,n2⟩:=om.1 hn
  have h0:=hl v aJ
  rw[pg,CV n2 fun x hx=>by have:=hl x (fX _ hx);simp only[FM,nY];exact this]
  unfold FM
  rw[eT,p9]
  by_cases c:v.toNat=k
  .have e:(k:Int)=v:=J
   rw[aX c,aX J,e,aT n1,aX aJ,mY,c];rfl
  have e:¬(k:Int)=v:=J
  rw[aT c,<-eT]
  congr 1
  simp only[c8,e,false_or]
def BD(s:NP)(q:dD):NP:={s with qs:=s.qs++[q],us:=q.vars.foldl (FM s.qs.length) s.us}
theorem ai5{cs:List (List Nat)}(h:0<cs.length):(CK (SX cs) ((cs.length:Int)-1)).1=cs:=by
 unfold CK SX
 rw[aT xX,show((bB cs++[(bB cs).length])::cs).length-1-(max 0 ((cs.length:Int)-1)).toNat=1 by simp only[fw];omega]
 rfl
theorem ai6{f:Value}{s:NP}{l:Int}{e:El}(h1:s.bf.length=s.ak.length)(h2:s.bq.length=s.ak.length)(h3:s.us.length=s.ak.length)(h4:0<s.cs.length):iP [(f,.var s.ak.length ((s.cs.length:Int)-1))] s (qP s l e):=by
 refine iP.one ?_ ⟨by simp[qP];omega,by simp[qP],by simp[qP];omega,by simp[qP];omega⟩
 simp only[wm,qP]
 rw[ai5 h4,ve,show(s.bf++[l]).take s.ak.length=s.bf by rw[<-h1,ve],show(s.bq++[(0:BitVec 64)]).take s.ak.length=s.bq by rw[<-h2,ve],show(s.us++[([]:List Int)]).take s.ak.length=s.us by rw[<-h3,ve]]
theorem Hp.aEv{w0 w:World}{A B U R L:List bu}{x:bu}(h:Hp w0 w (x::(A++(B++((U++R)++L))))):Hp w0 w (A++((U++[x])++(R++(B++L)))):=by
 refine h.perm ((E5 (l₁:=A)).symm.trans (u7 A ?_))
 have h1:(B++((U++R)++L)).Perm (U++(R++(B++L))):=by
  rw[<-dG U R]
  exact wV _ _ _
 refine(h1.cons x).trans ?_
 rw[dG]
 exact E5.symm
theorem ai7{us:List j4}{u:List (List Int)}(h:qh us=u):qh (us++[de])=u++[[]]:=by grind[qh,de]
theorem NB(l:List dV):∀u∈l.flatMap kg,u.oneCell'=true:=by grind[vV]
theorem aev{aq:List pP}{bf:List Int}{k:Int}{l:List dV}{t:iT}(h:wP aq bf k l t=true):∀v∈dB l,0<=v/\v<bf.length:=by grind[sU,wP,FL,ofB]
theorem V9(l:List dV):(dB l).Nodup:=(Nr l).imp fun h=>by omega
theorem I5:∀{l:List Int} {u:List (List Int)},(l.foldl GV u).length=u.length
 |[],u=>rfl
 |v::l,u=>by rw[pg,I5];simp[GV]
theorem QH:∀{l:List Int} {u:List (List Int)} {k:Nat},l.Nodup->(∀v∈l,0<=v/\v<u.length)->(l.foldl GV u).getD k []=if(k:Int)∈l then(u.getD k []).dropLast else u.getD k []
 |[],u,k,_,_=>by simp
 |v::l,u,k,hn,hl=>by
  obtain⟨n1,n2⟩:=om.1 hn
  have h0:=hl v aJ
  rw[pg,QH n2 fun x hx=>by have:=hl x (fX _ hx);simp only[GV,nY];exact this]
  have e0:(GV u v).getD k []=if v.toNat=k then(u.getD k []).dropLast else u.getD k []:=by
   unfold GV
   rw[eT,p9]
   by_cases c:v.toNat=k
   .rw[aX c,aX J,aX c,c];rfl
   rw[aT c,aT c,<-eT]
  rw[e0]
  by_cases c:v.toNat=k
  .have e:(k:Int)=v:=J
   rw[aX c,e,aT n1,aX aJ]
  have e:¬(k:Int)=v:=J
  rw[aT c]
  simp only[c8,e,false_or]
theorem ai8{i:Int}{l:List Int}{u:List (List Int)}(hn:l.Nodup)(hl:∀v∈l,0<=v/\v<u.length):l.foldl GV (l.foldl (FM i) u)=u:=by
 apply ug
 intro k
 by_cases c:k<u.length
 .have h1:=QH (k:=k) (u:=l.foldl (FM i) u) hn fun v hv=>by rw[pV];exact hl v hv
  rw[CV hn hl]at h1
  have lk:k<(l.foldl GV (l.foldl (FM i) u)).length:=by rw[I5,pV];exact c
  rw[getD_eq lk,getD_eq c]at h1
  rw[eF lk,eF c,h1]
  by_cases q:(k:Int)∈l
  .rw[aX q,aX q,List.dropLast_concat]
  rw[aT q,aT q,mY]
 rw[og (by rw[I5,pV];omega),og J]
theorem ai9{f:Value}{s:NP}{q:dD}(hn:q.vars.Nodup)(hl:∀v∈q.vars,0<=v/\v<s.us.length):iP [(f,.add s.qs.length q)] s (BD s q):=by
 refine iP.one ?_ ⟨by simp[BD],hn,fun v hv=> ?_⟩
 .simp only[wm,BD]
  rw[ve,ai8 hn hl]
 have h0:=hl v hv
 refine⟨h0.1,by simp only[BD];rw[pV];exact h0.2,?_⟩
 simp only[BD]
 rw[CV hn hl,aX (by rw[gk h0.1];exact hv)]
 simp
theorem anB{i:Int}{l:List Int}{u:List (List Int)}{k b:Nat}(hn:l.Nodup)(hl:∀v∈l,0<=v/\v<u.length)(h:(u.getD k []).length<=b):((l.foldl (FM i) u).getD k []).length<=b+1:=by grind[CV]
theorem Hp.aEw{w0 w:World}{A B U Q R L:List bu}(h:Hp w0 w (A++(B++(U++(Q++(R++L)))))):Hp w0 w (A++(U++(R++(B++(Q++L))))):=by
 refine h.perm (u7 A ?_)
 refine(wV B U _).trans (u7 U ?_)
 rw[<-dG,<-dG B Q L]
 exact wV _ _ _
structure mM(S:Sys)(Q:Nat->s4)(y:Nat->BitVec 64)(N:Nat)(M:Qm)(v:Va)(ws:Nat->BitVec 64)(rep:Nat->Nat)(P:Nat->Prop):Prop where
 ok:∀i,i<N->tL S (Q i)/\M (y i) (Q i)
 all:∀a q,M a q->∃i,i<N/\q=Q i
 mok:ael M
 low:CO S (fun q=>∃i,i<N/\q=Q i) v
 why:FI S M v ws
 ring:∀i k,i<S.n->k<S.n->rep i=rep k->S.sh i=S.sh k/\rR (v i) (v k)/\ws i=ws k/\qF S (M (ws i)) fun j=>j<S.n/\rep j=rep i
 hold:∀i,i<N->¬P i->fp (Q i) v
section
variable{S:Sys}{Q:Nat->s4}{y:Nat->BitVec 64}{N:Nat}{M:Qm}{v:Va}{ws:Nat->BitVec 64}{rep:Nat->Nat}{P P':Nat->Prop}{i k:Nat}{W:BitVec 64}
theorem qF.more{Q Q':s4->Prop}{C:Nat->Prop}(h:qF S Q C)(hq:∀q,Q q->Q' q):qF S Q' C:=fun u hu=>h u (hu.less hq)
theorem mM.aja(h:mM S Q y N M v ws rep P)(hp:∀i,i<N->P i->P' i):mM S Q y N M v ws rep P':=⟨h.ok,h.all,h.mok,h.low,h.why,h.ring,fun i hi hn=>h.hold i hi fun q=>hn (hp i hi q)⟩
theorem mM.look(h:mM S Q y N M v ws rep P)(hh:fp (Q i) v):mM S Q y N M v ws rep fun j=>P j/\j≠i:=⟨h.ok,h.all,h.mok,h.low,h.why,h.ring,fun j hj hn=>by
 by_cases e:j=i
 .subst e;exact hh
 exact h.hold j hj fun q=>hn ⟨q,e⟩⟩
theorem mM.raise(h:mM S Q y N M v ws rep P)(hi:i<N)(hk:(Q i).to=some k)(hW1:eu (ws k) W=true)(hW2:eu (O9 (y i) ws (Q i).vars) W=true)
  (hP:∀j,j<N->j≠i->P j->P' j) (hU:∀j,j<N->∀x,x∈(Q j).vars->rep x=rep k->¬rR (v x) (eo (Q i).sh (v k) ((Q i).ev v))->P' j):
  mM S Q y N M (rE v (fun j=>j<S.n/\rep j=rep k) (eo (Q i).sh (v k) ((Q i).ev v))) (FJ ws (fun j=>j<S.n/\rep j=rep k) W) rep P':=by
 obtain⟨ho,hy⟩:=h.ok i hi
 obtain⟨k1,k2⟩:=ho.to k hk
 have hmem:(fun q=>∃i,i<N/\q=Q i) (Q i):=⟨i,hi,rfl⟩
 have hr:=h.ring k k k1 k1 O
 have hl:=h.low.lub hmem ho hk
 have hRQ:qF S (fun q=>∃i,i<N/\q=Q i) fun j=>j<S.n/\rep j=rep k:=hr.2.2.2.more fun q hq=>h.all _ q hq
 have hsh:∀j,(j<S.n/\rep j=rep k)->S.sh j=S.sh k:=fun j hj=>(h.ring j k hj.1 k1 hj.2).1
 have aeh:=h.low.ring hRQ (fun j hj=>hj.1) (k:=k) ⟨k1,rfl⟩ hsh hl.1 hl.2
 have asW:=h.why.raise h.mok h.low.fit ho hk hy hr.2.2.2 ⟨k1,rfl⟩ hW1 hW2
 have hup:∀j,j<S.n->cS (v j) (rE v (fun j=>j<S.n/\rep j=rep k) (eo (Q i).sh (v k) ((Q i).ev v)) j)=true:=fun j hj=>by
  unfold rE
  by_cases c:j<S.n/\rep j=rep k
  .rw[aX c]
   have e:=(h.ring j k hj k1 c.2).2.1
   have fk:=h.low.fit k k1
   rw[k2]at fk
   exact fG (lf e) (YV fk (ho.fit v h.low.fit)).1
  rw[aT c];exact kf _
 refine⟨h.ok,h.all,h.mok,aeh,asW,fun a b ha hb hab=> ?_,fun j hj hn=> ?_⟩
 .have hra:=h.ring a b ha hb hab
  unfold rE FJ
  by_cases c:a<S.n/\rep a=rep k
  .have c2:b<S.n/\rep b=rep k:=⟨hb,hab▸c.2⟩
   rw[aX c,aX c2,aX c,aX c2]
   refine⟨hra.1,fun _ _=>rfl,rfl,?_⟩
   have e:(fun j=>j<S.n/\rep j=rep a)=fun j=>j<S.n/\rep j=rep k:=by rw[c.2]
   rw[e]
   exact hr.2.2.2.more fun q hq=>h.mok _ _ _ hW1 hq
  have c2:¬(b<S.n/\rep b=rep k):=fun q=>c ⟨ha,hab.trans q.2⟩
  rw[aT c,aT c2,aT c,aT c2]
  exact hra
 have oj:=(h.ok j hj).1
 have hs:∀x,x∈(Q j).vars->cS (rE v (fun j=>j<S.n/\rep j=rep k) (eo (Q i).sh (v k) ((Q i).ev v)) x) (v x)=true:=fun x hx=>by
  unfold rE
  by_cases c:x<S.n/\rep x=rep k
  .rw[aX c]
   by_cases e:rR (v x) (eo (Q i).sh (v k) ((Q i).ev v))
   .exact lf fun q hq=>(e q hq).symm
   exact absurd (hU j hj x hx c.2 e) hn
  rw[aT c];exact kf _
 have hev:cS ((Q j).ev (rE v (fun j=>j<S.n/\rep j=rep k) (eo (Q i).sh (v k) ((Q i).ev v)))) ((Q j).ev v)=true:=oj.Qy _ _ aeh.fit h.low.fit hs
 by_cases e:j=i
 .subst e
  unfold fp s4.rhs
  rw[hk]
  have ek:rE v (fun j=>j<S.n/\rep j=rep k) (eo (Q j).sh (v k) ((Q j).ev v)) k=eo (Q j).sh (v k) ((Q j).ev v):=aX ⟨k1,rfl⟩
  show cS _ (rE v _ _ k)=true
  rw[ek]
  have fk:=h.low.fit k k1
  rw[k2]at fk
  exact fG hev (YV fk (ho.fit v h.low.fit)).2
 have hold:=h.hold j hj fun q=>hn (hP j hj e q)
 unfold fp s4.rhs at hold⊢
 cases ht:(Q j).to with
 |none=>rw[ht]at hold;exact fG hev hold
 |some x=>
  rw[ht]at hold
  exact fG hev (fG hold (hup x (oj.to x ht).1))
theorem mM.merge{C:Nat->Prop}[DecidablePred C]{e:El}{Wa:Nat->Nat}(h:mM S Q y N M v ws rep P)(hC:∀j,C j->j<S.n/\eu (ws j) W=true)(hsh:∀a b,C a->C b->S.sh a=S.sh b)(hr:qF S (M W) C)(hk:C k)(he:cJ (S.sh k) e=true)
  (hlo:∀u,uU S (M W) u->cS e (u k)=true) (hup:∀j,C j->cS (v j) e=true) (h2:∀a b,a<S.n->b<S.n->Wa a=Wa b->C a/\C b\/¬C a/\¬C b/\rep a=rep b)
  (hP:∀j,j<N->P j->P' j) (hU:∀j,j<N->∀x,x∈(Q j).vars->C x->¬rR (v x) e->P' j):mM S Q y N M (rE v C e) (FJ ws C W) Wa P':=by
 have aeh:=h.low.ring (hr.more fun q hq=>h.all _ q hq) (fun j hj=>(hC j hj).1) hk (fun j hj=>hsh j k hj hk) he fun u hu=>hlo u (hu.less fun q hq=>h.all _ q hq)
 have asW:FI S M (rE v C e) (FJ ws C W):=h.why.ring h.mok hr hC fun u hu i hi=>fG (hlo u hu) (lf (hr u hu k i hk hi))
 have hle:∀j,cS (v j) (rE v C e j)=true:=fun j=>by
  unfold rE
  by_cases c:C j
  .rw[aX c];exact hup j c
  rw[aT c];exact kf _
 refine⟨h.ok,h.all,h.mok,aeh,asW,fun a b ha hb hab=> ?_,fun j hj hn=> ?_⟩
 .unfold rE FJ
  rcases h2 a b ha hb hab with⟨c1,c2⟩|⟨c1,c2,c3⟩
  .rw[aX c1,aX c2,aX c1,aX c2]
   refine⟨hsh a b c1 c2,fun _ _=>rfl,rfl,fun u hu i j hi hj=> ?_⟩
   have ci:C i:=(h2 i a hi.1 ha hi.2).elim (fun q=>q.1) fun q=>absurd c1 q.2.1
   have cj:C j:=(h2 j a hj.1 ha hj.2).elim (fun q=>q.1) fun q=>absurd c1 q.2.1
   exact hr u hu i j ci cj
  rw[aT c1,aT c2,aT c1,aT c2]
  obtain⟨r1,r2,r3,r4⟩:=h.ring a b ha hb c3
  refine⟨r1,r2,r3,fun u hu i j hi hj=> ?_⟩
  have ci:rep i=rep a:=(h2 i a hi.1 ha hi.2).elim (fun q=>absurd q.2 c1) fun q=>q.2.2
  have cj:rep j=rep a:=(h2 j a hj.1 ha hj.2).elim (fun q=>absurd q.2 c1) fun q=>q.2.2
  exact r4 u hu i j ⟨hi.1,ci⟩ ⟨hj.1,cj⟩
 have oj:=(h.ok j hj).1
 have hs:∀x,x∈(Q j).vars->cS (rE v C e x) (v x)=true:=fun x hx=>by
  unfold rE
  by_cases c:C x
  .rw[aX c]
   by_cases q:rR (v x) e
   .exact lf fun i hi=>(q i hi).symm
   exact absurd (hU j hj x hx c q) hn
  rw[aT c];exact kf _
 have hev:=oj.Qy _ _ aeh.fit h.low.fit hs
 have hold:=h.hold j hj fun q=>hn (hP j hj q)
 unfold fp s4.rhs at hold⊢
 cases ht:(Q j).to with
 |none=>rw[ht]at hold;exact fG hev hold
 |some x=>rw[ht]at hold;exact fG hev (fG hold (hle x))
theorem mM.more(h:mM S Q y N M v ws rep P){M':Qm}(ho:tL S (Q N))(hy:M' (y N) (Q N))(hM:ael M')(h1:∀a q,M a q->M' a q)(h2:∀a q,M' a q->∃i,i<N+1/\q=Q i)(hs:FI S M v ws)(hN:P' N)(hp:∀i,i<N->P i->P' i):mM S Q y (N+1) M' v ws rep P':=by
 refine⟨fun i hi=> ?_,h2,hM,h.low.more fun q ⟨i,hi,e⟩=>⟨i,J,e⟩,fun k hk u hu=>hs k hk u (hu.less fun q hq=>h1 _ q hq),fun i k hi hk e=> ?_,fun i hi hn=> ?_⟩
 .by_cases e:i=N
  .subst e;exact⟨ho,hy⟩
  exact⟨(h.ok i J).1,h1 _ _ (h.ok i J).2⟩
 .obtain⟨a,b,c,d⟩:=h.ring i k hi hk e
  exact⟨a,b,c,d.more fun q hq=>h1 _ q hq⟩
 by_cases e:i=N
 .subst e;exact absurd hN hn
 exact h.hold i J fun q=>hn (hp i J q)
theorem mM.start(hM:∀a q,¬M a q)(hs:∀i,i<S.n->mA (S.sh i)=true)(hv:∀i,i<S.n->v i=gJ (S.sh i) ew):mM S Q y 0 M v ws id P:=
 ⟨fun i hi=>J,fun a q h=>absurd h (hM a q),fun a b q _ h=>absurd h (hM a q),abU hs hv,fun k hk u hu=>by rw[hv k hk];exact(P3 (hs k hk)).2 _ (hu.fit k hk),
  fun i k hi hk e=>by have:i=k:=e;subst this;exact⟨rfl,fun _ _=>rfl,rfl,fun u hu a b ha hb=>by have e1:a=i:=ha.2;have e2:b=i:=hb.2;rw[e1,e2];exact fun _ _=>rfl⟩,fun i hi=>J⟩
theorem mM.done(h:mM S Q y N M v ws rep fun _=>False):lE S (fun q=>∃i,i<N/\q=Q i) v/\∀i,i<N->fp (Q i) v:=
 ⟨⟨h.low,fun q ⟨i,hi,e⟩ _=>e▸h.hold i hi id⟩,fun i hi=>h.hold i hi id⟩
theorem mM.stuck(h:mM S Q y N M v ws rep P)(hi:i<N)(hk:(Q i).to=none)(hf:¬fp (Q i) v):(∀u,uU S (fun q=>∃i,i<N/\q=Q i) u->¬fp (Q i) u)/\∀u,uU S (M (O9 (y i) ws (Q i).vars)) u->¬fp (Q i) u:=
 ⟨h.low.apP (h.ok i hi).1 hk hf,h.why.stuck h.mok h.low.fit (h.ok i hi).1 hk hf⟩
end
theorem anC{E:Nat->Nat->Prop}{u:Va}{a b:Nat}(hE:∀x y,E x y->cS (u x) (u y)=true)(h:j5 E a b):cS (u a) (u b)=true:=by
 induction h with
 |refl=>exact kf _
 |step _ e ih=>exact fG ih (hE _ _ e)
section
variable{S:Sys}{Q:s4->Prop}
structure FN(S:Sys)(q:s4)(x y:Nat):Prop where
 to:q.to=some y
 ev:∀u,qj S u->rR (q.ev u) (u x)
theorem ajb{C:Nat->Prop}(h:∀i k,C i->C k->j5 (fun a b=>(∃q,Q q/\FN S q a b)\/∃D,D a/\D b/\qF S Q D) i k):qF S Q C:=qF.of fun u hu i k hi hk=>anC (fun x y e=>by
 rcases e with⟨q,hq,hp⟩|⟨D,hx,hy,hD⟩
 .have h1:=hu.hold q hq (by rw[hp.to];simp)
  unfold fp s4.rhs at h1
  rw[hp.to]at h1
  exact fG (lf fun i hi=>(hp.ev u hu.fit i hi).symm) h1
 exact lf (hD u hu x y hx hy)) (h i k hi hk)
theorem ZN{q:s4}{x y:Nat}{v:Va}(hp:FN S q x y)(hv:qj S v)(he:rR (v x) (v y)):fp q v:=by
 unfold fp s4.rhs
 rw[hp.to]
 exact fG (lf (hp.ev v hv)) (lf he)
theorem NC{sh:Sh}{n:Nat}{x:dV}{to:iT}(h1:x.op=1)(h0:0<=x.n/\x.n<n)(h2:0<=to.var):FN S (CP n sh [x] to) x.n.toNat to.var.toNat:=by
 refine⟨by unfold CP;simp;omega,fun u hu=> ?_⟩
 have hr:fU [x]=true:=by
  unfold fU jx
  simp[xj,h1]
 have hs:ij sh ((List.range n).map u) [x] (([x]:List dV).length:Nat)=some ([]++[((List.range n).map u).getD x.n.toNat dg]):=
  ahF (s:=sh) (v:=(List.range n).map u) (l:=[x]) (st:=[]) (k:=0) J aJ O h1 ⟨h0.1,by simpa using h0.2⟩
 show rR (ey sh [x] ((List.range n).map u)).1 (u x.n.toNat)
 rw[M4 hr (k:=(([x]:List dV).length:Nat)) J J hs]
 simp only[eN,List.getD_cons_zero]
 rw[qG J]
 exact fun _ _=>rfl
end
def kD(aq:List pP)(bf:List Int)(n:Nat):Sys:=⟨n,fun i=>(aq.getD (bf.getD i 0).toNat pT).p.sh⟩
def zy(aq:List pP)(q:dD):Sh:=(aq.getD q.bf.toNat pT).p.sh
def uI(aq:List pP)(n:Nat)(q:dD):s4:=CP n (zy aq q) q.code q.to
def vQ(ak:List El):Va:=fun i=>ak.getD i dg
def wQ(ws:List (BitVec 64)):Nat->BitVec 64:=fun i=>ws.getD i 0
def OY(aq:List pP)(n:Nat)(qs:List dD):Qm:=fun a q=>∃i,i<qs.length/\q=uI aq n (qs.getD i cX)/\eu (qs.getD i cX).why a=true
def Wb(aq:List pP)(bf:List Int)(n:Nat)(qs:List dD):Prop:=∀q∈qs,ZD (kD aq bf n) (zy aq q) q.code q.to/\q.vars=dB q.code
def yj(qs:List dD)(k:Nat):List Int:=((List.range qs.length).filter fun i=>decide ((k:Int)∈(qs.getD i cX).vars)).map fun i:Nat=>(i:Int)
abbrev S9(aq:List pP)(n:Nat)(qs:List dD):Nat->Nat:=VP (qs.map (uI aq n))
def muN(aq:List pP)(bf:List Int)(n:Nat)(qs:List dD)(c:yV):Nat:=c.wl.length+(pA (kD aq bf n) (S9 aq n qs) (vQ c.ak) n).toNat
section
variable{S:Sys}{v:Va}{e:El}{C D:Nat->Prop}
theorem ND[DecidablePred C][DecidablePred D](h:∀i,C i↔D i):rE v C e=rE v D e:=by grind[rE]
theorem NE{ws:Nat->BitVec 64}{W:BitVec 64}[DecidablePred C][DecidablePred D](h:∀i,C i↔D i):FJ ws C W=FJ ws D W:=by grind[FJ]
theorem asX{ak:List El}{k:Nat}(h:k<ak.length):vQ (ak.set k e)=GQ (vQ ak) k e:=by grind[vQ,GQ]
theorem ajc{ak:List El}{ks:List Int}(h:∀k∈ks,0<=k/\k<ak.length):vQ (gE ak ks e)=rE (vQ ak) (fun i=>(i:Int)∈ks) e:=by
 funext i;show(gE ak ks e).getD i dg=if(i:Int)∈ks then e else ak.getD i dg
 by_cases c:i<ak.length
 .exact sS c fun k hk=>(h k hk).1
 rw[eT,og (by rw[je];omega),aT fun q=>by have:=h _ q;omega,eT,og J]
theorem ajd{ws:List (BitVec 64)}{W:BitVec 64}{ks:List Int}(h:∀k∈ks,0<=k/\k<ws.length):wQ (gE ws ks W)=FJ (wQ ws) (fun i=>(i:Int)∈ks) W:=by grind[wQ,gE,FJ,sS,je]
theorem aje{ak:List El}{n:Nat}(h:ak.length=n):(List.range n).map (vQ ak)=ak:=by
 apply ug
 intro i
 rw[qu]
 by_cases c:i<n
 .rw[zF c,qV,eF J]
  unfold vQ;rw[getD_eq J]
 rw[og LP,og J];rfl
theorem ajf{p:List Int×List Bool}{i j:Int}(h:j∈p.1):j∈(pB p i).1:=by grind[pB]
theorem GZ:∀{l:List Int} {p:List Int×List Bool} {j:Int},j∈p.1->j∈(rU p l).1
 |[],p,j,h=>h
 |i::l,p,j,h=>GZ (l:=l) (p:=pB p i) (ajf h)
theorem Ta:∀{l:List Int} {wl:List Int} {wi:List Bool} {j:Int},uV wl wi->(∀i∈l,0<=i/\i<wi.length)->j∈l->j∈(rU (wl,wi) l).1
 |i::l,wl,wi,j,h,hl,hj=>by
  show j∈(rU (pB (wl,wi) i) l).1
  by_cases e:j=i
  .subst e
   refine GZ ?_
   unfold pB
   by_cases c:wi.getD j.toNat false=true
   .rw[aX c];exact(h.mem j).2 ⟨hl j aJ,c⟩
   rw[aT c];simp
  exact Ta (wl:=(pB (wl,wi) i).1) (wi:=(pB (wl,wi) i).2) (h.put (hl i aJ)) (fun k hk=>by rw[Nv];exact hl k (fX _ hk)) ((c8.1 hj).resolve_left e)
theorem ajg{ak:List El}{us:List j4}{p:List Int×List Bool}{k j:Int}(h:j∈p.1):j∈(mi ak us p k e).1:=by grind[mi,GZ]
theorem K8{us:List j4}:∀{ks:List Int} {ak:List El} {p:List Int×List Bool} {j:Int},j∈p.1->j∈(yg ak us p ks e).2.1
 |[],ak,p,j,h=>h
 |k::ks,ak,p,j,h=>K8 (ks:=ks) (ak:=ak.set k.toNat e) (p:=mi ak us p k e) (ajg h)
theorem ZO{us:List j4}{b:Nat}(hu:∀k:Nat,k<us.length->∀i∈(us.getD k de).l,0<=i/\i<(b:Int)){k:Nat}{j:Int}(hj:j∈(us.getD k de).l):∀{ks:List Int} {ak:List El} {wl:List Int} {wi:List Bool},uV wl wi->wi.length=b->(∀k∈ks,0<=k/\k<us.length)->ak.length=us.length->(k:Int)∈ks->¬rR (ak.getD k dg) e->j∈(yg ak us (wl,wi) ks e).2.1
 |a::ks,ak,wl,wi,h,hb,hk,hv,hm,hne=>by
  have ha:=hk a aJ
  show j∈(yg (ak.set a.toNat e) us (mi ak us (wl,wi) a e) ks e).2.1
  by_cases q:(k:Int)=a
  .refine K8 ?_
   unfold mi
   rw[<-q,eC,aT hne]
   exact Ta h (fun i hi=>by have:=hu k J i hi;omega) hj
  have h1:uV (mi ak us (wl,wi) a e).1 (mi ak us (wl,wi) a e).2:=by
   unfold mi;split
   .exact h
   exact h.rU fun i hi=>by have:=hu a.toNat J i hi;omega
  refine ZO hu hj (ks:=ks) (ak:=ak.set a.toNat e) (wl:=(mi ak us (wl,wi) a e).1) (wi:=(mi ak us (wl,wi) a e).2) h1 (Nw.trans hb) (fun x hx=>hk x (fX _ hx)) (by simpa using hv) ((c8.1 hm).resolve_left q) ?_
  rw[eT,p9,aT J,<-eT];exact hne
theorem ajh{us:List j4}{U:Nat->Nat}(hU:∀k,k<S.n->(us.getD k de).l.length<=U k):∀{ks:List Int} {ak:List El} {p:List Int×List Bool},ak.length=S.n->qj S (vQ ak)->
  (∀k∈ks,(0<=k/\k<S.n)/\cJ (S.sh k.toNat) e=true/\cS (ak.getD k.toNat dg) e=true)->((yg ak us p ks e).2.1.length:Int)+pA S U (vQ (yg ak us p ks e).1) S.n<=p.1.length+pA S U (vQ ak) S.n
 |[],ak,p,_,_,_=>lY _
 |k::ks,ak,p,hl,hv,hk=>by
  obtain⟨k1,k2,k3⟩:=hk k aJ
  have es:=asX (e:=e) (ak:=ak) (k:=k.toNat) J
  have fv:qj S (vQ (ak.set k.toNat e)):=by
   rw[es];intro i hi;unfold GQ
   by_cases c:i=k.toNat
   .rw[aX c,c];exact k2
   rw[aT c];exact hv i hi
  have ih:=ajh hU (ks:=ks) (ak:=ak.set k.toNat e) (p:=mi ak us p k e) (by simpa using hl) fv fun x hx=>by
   obtain⟨a,b,c⟩:=hk x (fX _ hx)
   refine⟨a,b,?_⟩
   rw[eT,p9]
   by_cases q:k.toNat=x.toNat
   .rw[aX q,aX J];exact kf _
   rw[aT q,<-eT];exact c
  show((yg (ak.set k.toNat e) us (mi ak us p k e) ks e).2.1.length:Int)+pA S U (vQ (yg (ak.set k.toNat e) us (mi ak us p k e) ks e).1) S.n<=_
  refine LC ih ?_
  rw[es]
  unfold mi
  have hkn:k.toNat<S.n:=J
  by_cases c:rR (ak.getD k.toNat dg) e
  .rw[aX c,S3,aX hkn]
   have h8:(S.sh k.toNat).aZ.length<=8:=by
    have:mA (S.sh k.toNat)=true:=by
     have:=k2;unfold cJ at this;simp only[cM]at this;exact this.1
    exact(n4 this).1.2
   have:m9 (S.sh k.toNat) (vQ ak k.toNat)=m9 (S.sh k.toNat) e:=U3 h8 c
   rw[this];omega
  rw[aT c]
  have h1:=Qz (U:=U) hv hkn k2 (show cS (vQ ak k.toNat) e=true from k3) (fun q=>c (ahS q))
  have h2:=GU (l:=(us.getD k.toNat de).l) (p:=p)
  have h3:=hU k.toNat hkn
  omega
end
theorem Tb(ws:List (BitVec 64)):∀(l:List Int) (y:BitVec 64),orW y ws l=O9 y (wQ ws) (l.map Int.toNat)
 |[],y=>rfl
 |a::l,y=>Tb ws l (y|||ws.getD a.toNat 0)
structure Pa(us:List j4)(qs:List dD)(n:Nat):Prop where
 len:us.length=n
 is:∀k,k<n->(us.getD k de).l=yj qs k
theorem CX{qs:List dD}{k:Nat}{i:Int}:i∈yj qs k↔(0<=i/\i<qs.length)/\(k:Int)∈(qs.getD i.toNat cX).vars:=by grind[yj]
theorem aji{k:Nat}:∀{l:List Nat},k∈l->1<=S5 k l
 |a::l,h=>by
  unfold S5
  rcases c8.1 h with e|h
  .rw[aX e];omega
  have:=aji h;omega
theorem ajj{aq:List pP}{n:Nat}{qs:List dD}(hv:∀q∈qs,q.vars=dB q.code)(k:Nat):(yj qs k).length<=S9 aq n qs k:=by
 have key:∀(qs:List dD),(∀q∈qs,q.vars=dB q.code)->(qs.filter fun q=>decide ((k:Int)∈q.vars)).length<=S9 aq n qs k:=by
  intro qs
  induction qs with
  |nil=>intro _;exact fh _
  |cons q qs ih=>
   intro h
   have h1:=ih fun p hp=>h p (fX _ hp)
   show _<=S5 k (uI aq n q).vars+S9 aq n qs k
   rw[B7]
   split
   .rename_i c
    have:k∈(uI aq n q).vars:=by
     refine fZ.2 ⟨(k:Int),?_,eC k⟩
     have:=h q aJ
     rw[<-this];simpa using c
    have:=aji this
    rw[fw];omega
   omega
 have e:(yj qs k).length=(qs.filter fun q=>decide ((k:Int)∈q.vars)).length:=by
  unfold yj
  rw[gF]
  have aEx:∀(l:List Nat) (m:List dD),l.map (fun i=>qs.getD i cX)=m->(l.filter fun i=>decide ((k:Int)∈(qs.getD i cX).vars)).length=(m.filter fun q=>decide ((k:Int)∈q.vars)).length:=fun l m h=>by
   subst h
   rw[List.filter_map,gF];rfl
  refine aEx _ _ ?_
  apply ug
  intro i
  rw[qu]
  by_cases c:i<qs.length
  .rw[zF c,qV,getD_eq c,eF c]
  rw[og LP,og J];rfl
 rw[e];exact key qs hv
def BE(cl:List Nat):Prop:=∀i,i<cl.length->cm cl i<=i/\cm cl (cm cl i)=cm cl i
structure ZP(aq:List pP)(bf:List Int)(qs:List dD)(rep:Nat->Nat)(n:Nat)(X:Nat->Prop)(c:yV):Prop where
 ck:QD qs.length n n c
 si:mM (kD aq bf n) (fun i=>uI aq n (qs.getD i cX)) (fun i=>(qs.getD i cX).why) qs.length (OY aq n qs) (vQ c.ak) (wQ c.bq) rep fun i=>(i:Int)∈c.wl\/X i
section
variable{us:List j4}{aq:List pP}{bf:List Int}{qs:List dD}{cl:List Nat}{n:Nat}{ak:List El}{bq:List (BitVec 64)}{wl:List Int}{wi:List Bool}{x:Int}{wy:BitVec 64}{q:dD}{rep:Nat->Nat}{X:Nat->Prop}{c:yV}
theorem Pa.hu(h:Pa us qs n):∀k:Nat,k<us.length->∀i∈(us.getD k de).l,0<=i/\i<(qs.length:Int):=by grind[Pa,de,CX]
theorem apT(hl:ak.length=n):(uI aq n q).ev (vQ ak)=lkE (zy aq q) q ak:=by
 show(ey _ _ ((List.range n).map (vQ ak))).1=_
 rw[aje hl];rfl
theorem asY:(uI aq n q).rhs (vQ ak)=if q.to.var<0 then q.to.c else ak.getD q.to.var.toNat dg:=by grind[s4.rhs,uI,CP,vQ]
theorem apU:(uI aq n q).to=if q.to.var<0 then none else some q.to.var.toNat:=rfl
theorem Tc(hl:ak.length=n):fp (uI aq n q) (vQ ak)↔cS (lkE (zy aq q) q ak) (if q.to.var<0 then q.to.c else ak.getD q.to.var.toNat dg)=true:=by
 unfold fp;rw[apT hl,asY]
theorem G0(hp:Fh q=true):∃y,q.code=[y]/\y.op=1/\0<=q.to.var:=by
 simp only[Fh,cM,eD]at hp
 obtain⟨⟨h1,h2⟩,h3⟩:=hp
 match hc:q.code,h1 with
 |[y],_=>rw[hc]at h2;exact⟨y,rfl,h2,h3⟩
theorem ED(hf:ZD (kD aq bf n) (zy aq q) q.code q.to)(hv:q.vars=dB q.code)(hp:Fh q=true):(0<=yC q/\yC q<n)/\(0<=q.to.var/\q.to.var<n)/\FN (kD aq bf n) (uI aq n q) (yC q).toNat q.to.var.toNat/\(kD aq bf n).sh (yC q).toNat=(kD aq bf n).sh q.to.var.toNat:=by
 obtain⟨y,hy,ho,h0⟩:=G0 hp
 have h1:=hf.var y (by rw[hy];simp) ho
 have h2:=hf.to1 h0
 have hn:(kD aq bf n).n=n:=rfl
 have e:yC q=y.n:=by unfold yC;rw[hv,hy];unfold dB;simp[ho,h1.1,tM]
 rw[e]
 refine⟨⟨h1.1,J⟩,⟨h0,J⟩,?_,by rw[h1.2.2,h2.2]⟩
 unfold uI
 rw[hy]
 exact NC ho ⟨h1.1,J⟩ h0
theorem G1(hv:q.vars=dB q.code):(uI aq n q).vars=q.vars.map Int.toNat:=by rw[hv];rfl
theorem ZP.look(hq:Wb aq bf n qs)(hu:Pa us qs n)(oy:cl.length=n)(h:ZP aq bf qs (cm cl) n (fun _=>False) ⟨ak,bq,x::wl,wi⟩){r:LkO}(hr:n8 cl us (zy aq (qs.getD x.toNat cX)) (qs.getD x.toNat cX) ak bq wl (wi.set x.toNat false) wy=r)(hok:r.ok=true):
  ZP aq bf qs (cm cl) n (fun _=>False) ⟨r.ak,r.bq,r.wl,r.wi⟩/\muN aq bf n qs ⟨r.ak,r.bq,r.wl,r.wi⟩<muN aq bf n qs ⟨ak,bq,x::wl,wi⟩:=by
 have hn:(kD aq bf n).n=n:=rfl
 obtain⟨hx,ck⟩:=h.ck.take
 have ckr:=aiX (cl:=cl) (us:=us) (sh:=zy aq (qs.getD x.toNat cX)) (q:=qs.getD x.toNat cX) (wy:=wy) hu.hu (by rw[oy,hu.len]) ck
 rw[hr]at ckr
 have U0:x.toNat<qs.length:=J
 have hm:=dy (d:=cX) hx.1 hx.2
 obtain⟨hf,hvs⟩:=hq _ hm
 generalize hqq:qs.getD x.toNat cX=q at*
 have lv:ak.length=n:=h.ck.lv
 have ly:bq.length=n:=h.ck.ly
 have nd:=om.1 h.ck.wq.nd
 have hsi:=h.si
 simp only at hsi
 have yes:fp (uI aq n q) (vQ ak)->mM (kD aq bf n) (fun i=>uI aq n (qs.getD i cX)) (fun i=>(qs.getD i cX).why) qs.length (OY aq n qs) (vQ ak) (wQ bq) (cm cl) (fun i=>(i:Int)∈wl\/False)/\muN aq bf n qs ⟨ak,bq,wl,wi.set x.toNat false⟩<muN aq bf n qs ⟨ak,bq,x::wl,wi⟩:=fun hh=>by
  have h1:=hsi.look (i:=x.toNat) (by show fp (uI aq n (qs.getD x.toNat cX)) _;rw[hqq];exact hh)
  refine⟨h1.aja fun i hi ⟨hp,hne⟩=> ?_,?_⟩
  .rcases hp with hp|hp
   .rcases c8.1 hp with e|e
    .exact absurd J hne
    exact .inl e
   exact hp.elim
  unfold muN;simp only[fw];omega
 unfold n8 at hr
 by_cases c1:skQ cl q=true
 .rw[aX c1]at hr;subst hr
  simp only[skQ,cM,eD]at c1
  obtain⟨p1,p2,p3,p4⟩:=ED hf hvs c1.1
  have e:=c1.2
  rw[nc J,nc J]at e
  have:=(hsi.ring _ _ J J (Int.ofNat.inj e)).2.1
  have:=yes (ZN p3 hsi.low.fit this)
  exact⟨⟨ckr,this.1⟩,this.2⟩
 rw[aT c1]at hr
 by_cases c2:q.to.var<0
 .rw[aX c2]at hr
  by_cases c3:cS (lkE (zy aq q) q ak) q.to.c=true
  .rw[aX c3]at hr;subst hr
   have:=yes ((Tc lv).2 (by rw[aX c2];exact c3))
   exact⟨⟨ckr,this.1⟩,this.2⟩
  rw[aT c3]at hr;subst hr;cases hok
 rw[aT c2]at hr
 by_cases c3:cS (lkE (zy aq q) q ak) (ak.getD q.to.var.toNat dg)=true
 .rw[aX c3]at hr;subst hr
  have:=yes ((Tc lv).2 (by rw[aT c2];exact c3))
  exact⟨⟨ckr,this.1⟩,this.2⟩
 rw[aT c3]at hr;subst hr
 have hto:=hf.to1 J
 have hk:(uI aq n q).to=some q.to.var.toNat:=by rw[apU,aT c2]
 have kn:q.to.var.toNat<n:=J
 have hks:∀k∈bP cl q.to.var,0<=k/\k<(n:Int):=fun k hk=>by have:=mL hk;omega
 have hCi:∀i:Nat,(i:Int)∈bP cl q.to.var↔i<n/\cm cl i=cm cl q.to.var.toNat:=fun i=>by
  rw[I3,eC]
  exact⟨fun⟨a,b,c,d⟩=>⟨J,d⟩,fun⟨a,b⟩=>⟨J,J,J,b⟩⟩
 have eJ:eo (uI aq n q).sh (vQ ak q.to.var.toNat) ((uI aq n q).ev (vQ ak))=lkJ (zy aq q) q ak:=by rw[apT lv];rfl
 have hq2:uI aq n (qs.getD x.toNat cX)=uI aq n q:=by rw[hqq]
 have h1:=hsi.raise (i:=x.toNat) (k:=q.to.var.toNat) (W:=bq.getD q.to.var.toNat 0|||orW q.why bq q.vars) (P':=fun i=>(i:Int)∈(yg ak us (wl,wi.set x.toNat false) (bP cl q.to.var) (lkJ (zy aq q) q ak)).2.1\/False) U0 (by show(uI aq n (qs.getD x.toNat cX)).to=_;rw[hqq];exact hk) (Im _ _)
  (by show eu (O9 (qs.getD x.toNat cX).why (wQ bq) (uI aq n (qs.getD x.toNat cX)).vars) _=true;rw[hqq,G1 hvs,<-Tb];exact Gu _ _)
  (fun j hj hne hp=>by
   rcases hp with hp|hp
   .rcases c8.1 hp with e|e
    .exact absurd J hne
    exact .inl (K8 e)
   exact hp.elim)
  (fun j hj y hy hr hne=>by
   simp only[hqq]at hy hne
   rw[eJ]at hne
   have hjm:=hq _ (dy (d:=cX) (l:=qs) (k:=(j:Int)) J J)
   rw[eC]at hjm
   rw[G1 hjm.2]at hy
   obtain⟨z,hz,rfl⟩:=fZ.1 hy
   have hz0:0<=z/\z<n:=by
    have:=hz
    rw[hjm.2]at this
    obtain⟨a,ha,ho,h0,rfl⟩:=sU.1 this
    have:=hjm.1.var a ha ho
    omega
   refine .inl (ZO hu.hu (k:=z.toNat) (j:=(j:Int)) ?_ ck.wq ck.li (fun k hk=>by have:=hks k hk;have:=hu.len;omega) (by rw[hu.len];exact lv) ?_ hne)
   .rw[hu.is _ J]
    refine CX.2 ⟨J,?_⟩
    rw[eC,gk hz0.1];exact hz
   exact(hCi _).2 ⟨J,hr⟩)
 simp only[hqq]at h1
 rw[eJ]at h1
 have e1:vQ (lkR cl us (zy aq q) q ak bq wl (wi.set x.toNat false) wy).ak=rE (vQ ak) (fun i=>i<n/\cm cl i=cm cl q.to.var.toNat) (lkJ (zy aq q) q ak):=by
  unfold lkR;simp only[yT]
  rw[ajc (by rw[lv];exact hks)]
  exact ND hCi
 have e2:wQ (lkR cl us (zy aq q) q ak bq wl (wi.set x.toNat false) wy).bq=FJ (wQ bq) (fun i=>i<n/\cm cl i=cm cl q.to.var.toNat) (bq.getD q.to.var.toNat 0|||orW q.why bq q.vars):=by
  unfold lkR;simp only
  rw[ajd (by rw[ly];exact hks)]
  exact NE hCi
 refine⟨⟨ckr,?_⟩,?_⟩
 .simp only;rw[e1,e2];exact h1
 have fv:=hsi.low.fit
 have io:=(hsi.ok x.toNat U0).1
 simp only[hqq]at io
 have fk:cJ (zy aq q) (vQ ak q.to.var.toNat)=true:=by rw[<-hto.2];exact fv _ J
 have fj:cJ (zy aq q) (lkJ (zy aq q) q ak)=true:=by rw[<-eJ];exact IJ fk (io.fit _ fv)
 have up:cS (vQ ak q.to.var.toNat) (lkJ (zy aq q) q ak)=true:=by rw[<-eJ];exact(YV fk (io.fit _ fv)).1
 have h2:=ajh (S:=kD aq bf n) (us:=us) (U:=S9 aq n qs) (e:=lkJ (zy aq q) q ak) (ks:=bP cl q.to.var) (ak:=ak) (p:=(wl,wi.set x.toNat false)) (fun k hk=>by rw[hu.is k hk];exact ajj (fun q hq'=>(hq q hq').2) k) lv fv fun k hk=>by
  have hc:=mL hk
  have Wc:=hsi.ring k.toNat q.to.var.toNat J J hc.2.2.2
  refine⟨by have:=hks k hk;omega,by rw[Wc.1,hto.2];exact fj,fG (lf Wc.2.1) up⟩
 have h3:=K6 (U:=S9 aq n qs) fv n (fh _)
 have h4:0<=pA (kD aq bf n) (S9 aq n qs) (rE (vQ ak) (fun i=>i<n/\cm cl i=cm cl q.to.var.toNat) (lkJ (zy aq q) q ak)) n:=K6 (U:=S9 aq n qs) h1.low.fit n (fh _)
 rw[<-e1]at h4
 rw[hn]at h2
 unfold muN
 simp only[fw]
 have e3:(lkR cl us (zy aq q) q ak bq wl (wi.set x.toNat false) wy).ak=(yg ak us (wl,wi.set x.toNat false) (bP cl q.to.var) (lkJ (zy aq q) q ak)).1:=rfl
 have e4:(lkR cl us (zy aq q) q ak bq wl (wi.set x.toNat false) wy).wl=(yg ak us (wl,wi.set x.toNat false) (bP cl q.to.var) (lkJ (zy aq q) q ak)).2.1:=rfl
 rw[e3]at h4⊢
 rw[e4]
 simp only at h2
 omega
end
section
variable{cl:List Nat}{x y a b:Nat}
theorem anD:IQ x y a=IQ x y b↔a=b\/((a=x\/a=y)/\(b=x\/b=y)):=by grind[IQ,x8]
theorem BE.join(h:BE cl)(ha:a<cl.length)(hb:b<cl.length):BE (iI cl (cm cl a) (cm cl b)):=by grind[BE,iI,cm,I0,IQ,Ai,kT,x8,ld]
theorem aew{cs:List (List Nat)}{i j:Int}(hi:0<=i/\i<(bB cs).length)(hj:0<=j/\j<(bB cs).length)(ha:a<(bB cs).length)(hb:b<(bB cs).length):
 cm (bB (jy cs i j).1) a=cm (bB (jy cs i j).1) b↔cm (bB cs) a=cm (bB cs) b\/((cm (bB cs) a=cm (bB cs) i.toNat\/cm (bB cs) a=cm (bB cs) j.toNat)/\(cm (bB cs) b=cm (bB cs) i.toNat\/cm (bB cs) b=cm (bB cs) j.toNat)):=by grind[IZ,bB,I1,cm,iI,Ai,anD,Nk]
theorem ajl{cs:List (List Nat)}{i j:Int}(hi:0<=i/\i<(bB cs).length)(hj:0<=j/\j<(bB cs).length)(h:BE (bB cs)):BE (bB (jy cs i j).1):=by
 by_cases q:IZ (bB cs).length (bB cs) i j
 .rw[I1 q];exact h.join J J
 rw[Nk q];exact h
def EG(cl:List Nat)(ks:List Int)(n k a b:Nat):Prop:=a<n/\b<n/\(cm cl a=cm cl b\/(a<k/\(b:Int)=ks.getD a 0)\/(b<k/\(a:Int)=ks.getD b 0))
structure MgK(cl jV:List Nat)(ks:List Int)(n k:Nat):Prop where
 ok:BE jV
 more:∀a b,a<n->b<n->cm cl a=cm cl b->cm jV a=cm jV b
 aiy:∀v,v<k->cm jV v=cm jV (ks.getD v 0).toNat
 way:∀a b,a<n->b<n->cm jV a=cm jV b->j5 (EG cl ks n k) a b
theorem ajm{cs:List (List Nat)}{ks:List Int}{n:Nat}(h:BE (bB cs))(hl:(bB cs).length=n)(hk:∀v,v<n->0<=ks.getD v 0/\ks.getD v 0<n):∀k,k<=n->MgK (bB cs) (bB (s5 cs ks k)) ks n k
 |0,_=>⟨h,fun a b _ _ q=>q,fun v hv=>J,fun a b ha hb q=> .one ⟨ha,hb,.inl q⟩⟩
 |k+1,hn=>by
  have ih:=ajm h hl hk k J
  have e:=GX (cs:=cs) (ks:=ks) (k:=(k:Int)) J
  rw[show((k:Int)+1).toNat=k+1 by omega,show((k:Int)).toNat=k by omega]at e
  have l2:(bB (s5 cs ks k)).length=n:=by rw[xo];exact hl
  have hkk:=hk k J
  have iff:=fun a b (ha:a<n) (hb:b<n)=>aew (cs:=s5 cs ks k) (i:=(k:Int)) (j:=ks.getD k 0) (a:=a) (b:=b) J J J J
  rw[eC]at iff
  rw[e]
  have st:∀a b,j5 (EG (bB cs) ks n k) a b->j5 (EG (bB cs) ks n (k+1)) a b:=fun a b w=>w.mono fun x y ⟨h1,h2,h3⟩=>⟨h1,h2,by
   rcases h3 with q|q|q
   .exact .inl q
   .exact .inr (.inl ⟨J,q.2⟩)
   exact .inr (.inr ⟨J,q.2⟩)⟩
  refine⟨ajl J J ih.ok,fun a b ha hb q=>(iff a b ha hb).2 (.inl (ih.more a b ha hb q)),fun v hv=> ?_,fun a b ha hb q=> ?_⟩
  .by_cases c:v=k
   .subst c;exact(iff v _ J J).2 (.inr ⟨.inl O,.inr O⟩)
   have:=hk v J
   exact(iff v _ J J).2 (.inl (ih.aiy v J))
  have jk:j5 (EG (bB cs) ks n (k+1)) k (ks.getD k 0).toNat:= .one ⟨J,J,.inr (.inl ⟨J,J⟩)⟩
  have kj:j5 (EG (bB cs) ks n (k+1)) (ks.getD k 0).toNat k:= .one ⟨J,J,.inr (.inr ⟨J,J⟩)⟩
  have kn:k<n:=J
  have jn:(ks.getD k 0).toNat<n:=J
  rcases(iff a b ha hb).1 q with q|⟨q,r⟩
  .exact st _ _ (ih.way a b ha hb q)
  have w1:j5 (EG (bB cs) ks n (k+1)) a k:=by
   rcases q with q|q
   .exact st _ _ (ih.way a k ha kn q)
   exact(st _ _ (ih.way a _ ha jn q)).trans kj
  have w2:j5 (EG (bB cs) ks n (k+1)) k b:=by
   rcases r with q|q
   .exact st _ _ (ih.way k b kn hb q.symm)
   exact jk.trans (st _ _ (ih.way _ b jn hb q.symm))
  exact w1.trans w2
theorem xp{α:Type}{p q:α->Bool}:∀{l:List α},(∀x∈l,p x=true->q x=true)->(l.filter p).length<=(l.filter q).length/\((l.filter p).length=(l.filter q).length->∀x∈l,q x=true->p x=true)
 |[],_=>⟨fh _,fun _ x hx=>by cases hx⟩
 |a::l,h=>by
  obtain⟨h1,h2⟩:=xp (l:=l) (p:=p) (q:=q) fun x hx=>h x (fX _ hx)
  rw[B7,B7]
  by_cases c:p a=true
  .rw[aX c,aX (h a aJ c)]
   simp only[fw]
   refine⟨J,fun e x hx hq=> ?_⟩
   rcases c8.1 hx with r|r
   .rw[r];exact c
   exact h2 J x r hq
  rw[aT c]
  by_cases d:q a=true
  .rw[aX d];simp only[fw]
   exact⟨J,fun e=>J⟩
  rw[aT d]
  refine⟨h1,fun e x hx hq=> ?_⟩
  rcases c8.1 hx with r|r
  .rw[r]at hq;exact absurd hq d
  exact h2 e x r hq
theorem ZQ{cl jV:List Nat}(h:BE cl)(h':BE jV)(hl:jV.length=cl.length)(hm:∀a b,a<cl.length->b<cl.length->cm cl a=cm cl b->cm jV a=cm jV b)(he:leads jV=leads cl):∀a,a<cl.length->cm jV a=cm cl a:=fun a ha=>by
 unfold leads at he
 rw[hl]at he
 have h1:=xp (l:=List.range cl.length) (p:=fun i=>cm jV i==i) (q:=fun i=>cm cl i==i) fun x hx hp=>by
  rw[Cd]at hp⊢
  have hx:=qv.1 hx
  have c1:=h x hx
  have c2:=hm x (cm cl x) hx J c1.2.symm
  have c3:=h' (cm cl x) J
  omega
 have ha1:=h a ha
 have h2:=h1.2 he (cm cl a) (qv.2 J) (by rw[Cd];exact ha1.2)
 rw[Cd]at h2
 rw[hm a (cm cl a) ha J ha1.2.symm,h2]
end
theorem Td{o:List (BitVec 64)}{k:Nat}{y:BitVec 64}(hk:k<o.length):(∀i,eu (o.getD i 0) ((o.set k (o.getD k 0|||y)).getD i 0)=true)/\eu y ((o.set k (o.getD k 0|||y)).getD k 0)=true:=by grind[Im,tC,Gu]
theorem ab3{α:Type}{f:List (BitVec 64)->α->List (BitVec 64)}{n:Nat}(hl:∀o a,(f o a).length=o.length)(l:List α)(hm:∀o:List (BitVec 64),o.length=n->∀a∈l,∀i,eu (o.getD i 0) ((f o a).getD i 0)=true):∀o:List (BitVec 64),o.length=n->(∀i,eu (o.getD i 0) ((l.foldl f o).getD i 0)=true)/\∀a∈l,∀y k,(∀o:List (BitVec 64),o.length=n->eu y ((f o a).getD k 0)=true)->eu y ((l.foldl f o).getD k 0)=true:=by
 induction l with
 |nil=>intro o _;exact⟨fun i=>tC _,fun a ha=>by cases ha⟩
 |cons b l ih=>
  intro o ho
  have h1:=ih (fun o h a ha=>hm o h a (fX _ ha)) (f o b) ((hl o b).trans ho)
  refine⟨fun i=>mc (hm o ho b aJ i) (h1.1 i),fun a ha y k hy=> ?_⟩
  rcases c8.1 ha with e|ha
  .subst e;exact mc (hy o ho) (h1.1 k)
  exact h1.2 a ha y k hy
theorem anE{cl:List Nat}{ws:List (BitVec 64)}{n:Nat}{qs:List dD}(h:BE cl)(hl:cl.length=n)(hp:VR n qs):
  (∀v,v<n->eu (ws.getD v 0) ((CQ cl ws n qs).getD (cm cl v) 0)=true)/\∀q∈qs,Fh q=true->yC q≠q.to.var->cm cl (yC q).toNat=cm cl q.to.var.toNat->eu q.why ((CQ cl ws n qs).getD (cm cl q.to.var.toNat) 0)=true:=by
 have fr:∀v:Nat,v<n->(fN cl (v:Int)).toNat=cm cl v/\cm cl v<n:=fun v hv=>by
  rw[nc J,eC,eC]
  have:=h v J
  exact⟨rfl,J⟩
 have hto:∀q∈qs,J3 cl q=true->(fN cl q.to.var).toNat=cm cl q.to.var.toNat/\cm cl q.to.var.toNat<n:=fun q hq hi=>by
  simp only[J3,cM,eD]at hi
  have h1:=hp q hq hi.1.1
  have h2:=(G0 hi.1.1)
  obtain⟨_,_,_,h0⟩:=h2
  have:=fr q.to.var.toNat J
  rwa[gk h0]at this
 have ra:(VT cl ws n).length=n:=by unfold VT;rw[D0 (Nu cl ws)];simp
 have hA:=ab3 (n:=n) (f:=Nt cl ws) (Nu cl ws) (List.range n) (fun o ho v hv i=>by
  have hv:=qv.1 hv
  unfold Nt;rw[(fr v hv).1];exact(Td (by rw[ho];exact(fr v hv).2)).1 i) (List.replicate n 0) aJ
 have hB:=ab3 (n:=n) (f:=Kg cl) (VU cl) qs (fun o ho q hq i=>by
  unfold Kg
  by_cases c:J3 cl q=true
  .rw[aX c,(hto q hq c).1];exact(Td (by rw[ho];exact(hto q hq c).2)).1 i
  rw[aT c];exact tC _) (VT cl ws n) ra
 refine⟨fun v hv=> ?_,fun q hq h1 h2 h3=> ?_⟩
 .have:=hA.2 v (qv.2 hv) (ws.getD v 0) (cm cl v) fun o ho=>by
   unfold Nt;rw[(fr v hv).1];exact(Td (by rw[ho];exact(fr v hv).2)).2
  exact mc this (hB.1 _)
 refine hB.2 q hq q.why _ fun o ho=> ?_
 have hv:=hp q hq h1
 have ci:J3 cl q=true:=by
  simp only[J3,cM,eD]
  obtain⟨_,_,_,h0⟩:=G0 h1
  refine⟨⟨h1,?_⟩,h2⟩
  rw[nc J,nc J,h3]
 unfold Kg
 rw[aX ci,(hto q hq ci).1];exact(Td (by rw[ho];exact(hto q hq ci).2)).2
theorem QI{n:Nat}:∀{qs:List dD} {g:List (List Int)} {a:Nat} {x:Int},(∀q∈qs,Fh q=true->0<=yC q)->x∈(qs.foldl grQ g).getD a []->x∈g.getD a []\/∃q∈qs,Fh q=true/\yC q=a/\q.to.var=x
 |[],g,a,x,_,h=> .inl h
 |q::qs,g,a,x,hp,h=>by
  rcases QI (n:=n) (qs:=qs) (g:=grQ g q) (fun p hp'=>hp p (fX _ hp')) h with h|⟨p,h1,h2⟩
  .unfold grQ at h
   by_cases c:Fh q=true
   .rw[aX c]at h
    rw[eT,p9]at h
    by_cases e:(yC q).toNat=a
    .rw[aX e]at h
     split at h
     .rcases e8.1 h with h|h
      .rw[e]at h;exact .inl h
      have:=hp q aJ c
      exact .inr ⟨q,aJ,c,J,(gG.1 h).symm⟩
     .cases h
    rw[aT e,<-eT]at h;exact .inl h
   rw[aT c]at h;exact .inl h
  exact .inr ⟨p,fX _ h1,h2⟩
theorem axD{n:Nat}{qs:List dD}{a b:Nat}(hp:∀q∈qs,Fh q=true->0<=yC q)(h:wj (cz n qs) a b):∃q∈qs,Fh q=true/\yC q=a/\q.to.var=b:=by
 obtain⟨_,_,i,hi,e⟩:=h
 have hm:(b:Int)∈(cz n qs).getD a []:=by rw[<-e,getD_eq hi];exact r8 hi
 rcases QI (n:=n) hp hm with q|q
 .rw[eT,XC]at q
  split at q<;>cases q
 exact q
theorem asZ(E:Nat->Nat->Prop)(k:Nat):∃o,OfK E k o:=by
 have key:∀m j:Nat,j<=m->tK E k j->∃o,OfK E k o:=by
  intro m
  induction m with
  |zero=>intro j hj h;exact⟨j,⟨j,rfl,h⟩,fun i _=>J⟩
  |succ m ih=>
   intro j hj h
   by_cases c:∃i,i<j/\tK E k i
   .obtain⟨i,hi,h2⟩:=c;exact ih i J h2
   exact⟨j,⟨j,rfl,h⟩,fun i hi=>by
    refine Lk fun q=>c ⟨i,J,hi⟩⟩
 exact key k k (fh _) ⟨.refl _,.refl _⟩
theorem tK.trans{E:Nat->Nat->Prop}{a b c:Nat}(h:tK E a b)(h2:tK E b c):tK E a c:=⟨h.1.trans h2.1,h2.2.trans h.2⟩
theorem Te{gl:List (List Int)}{v:Nat}(h:v<gl.length):OfK (wj gl) v ((pz gl).getD v 0):=by grind[asZ,wj,pz,aiH]
theorem ajn{gl:List (List Int)}{v u:Nat}(h:v<gl.length)(hu:u<gl.length)(hb:tK (wj gl) v u):(pz gl).getD v 0=(pz gl).getD u 0:=by
 have h1:=Te h;have h2:=Te hu
 obtain⟨j,e,hj⟩:=h2.is
 exact h1.same ⟨⟨j,e,tK.trans hb hj⟩,fun i hi=>h2.low i (tK.trans ⟨hb.2,hb.1⟩ hi)⟩
theorem anF{gl:List (List Int)}{a b:Nat}(h:j5 (wj gl) a b)(ha:a<gl.length):b<gl.length:=by grind[j5,wj]
theorem ajo{E E':Nat->Nat->Prop}{a b:Nat}(hE:∀y c,E y c->tK E a y->tK E a c->E' y c)(h:j5 E a b)(hb:j5 E b a):j5 E' a b:=by
 induction h with
 |refl=>exact .refl _
 |step h e ih=>
  have hy:j5 E _ a:=(j5.one e).trans hb
  exact(ih hy).step (hE _ _ e ⟨h,hy⟩ ⟨h.step e,hb⟩)
theorem mM.ajp{S:Sys}{Q:Nat->s4}{y:Nat->BitVec 64}{N:Nat}{M:Qm}{v:Va}{ws:Nat->BitVec 64}{rep Wa:Nat->Nat}{P:Nat->Prop}(h:mM S Q y N M v ws rep P)(hr:∀i k,i<S.n->k<S.n->Wa i=Wa k->rep i=rep k):mM S Q y N M v ws Wa P:=
 ⟨h.ok,h.all,h.mok,h.low,h.why,fun i k hi hk e=>by
  obtain⟨a,b,c,d⟩:=h.ring i k hi hk (hr i k hi hk e)
  exact⟨a,b,c,fun u hu p q hp hq=>d u hu p q ⟨hp.1,hr _ _ hp.1 hi hp.2⟩ ⟨hq.1,hr _ _ hq.1 hi hq.2⟩⟩,h.hold⟩
theorem ab4{sh:Sh}{ak:List El}:∀{ks:List Int} {e:El},cJ sh e=true->(∀k∈ks,cJ sh (ak.getD k.toNat dg)=true)->cJ sh (wu sh ak e ks)=true/\cS e (wu sh ak e ks)=true/\(∀k∈ks,cS (ak.getD k.toNat dg) (wu sh ak e ks)=true)/\∀u,cJ sh u=true->cS e u=true->(∀k∈ks,cS (ak.getD k.toNat dg) u=true)->cS (wu sh ak e ks) u=true
 |[],e,he,_=>⟨he,kf _,(fun k hk=>by cases hk),fun u _ h _=>h⟩
 |a::ks,e,he,hk=>by
  have fa:=hk a aJ
  have key:cJ sh (if rR (ak.getD a.toNat dg) e then e else eo sh e (ak.getD a.toNat dg))=true/\cS e (if rR (ak.getD a.toNat dg) e then e else eo sh e (ak.getD a.toNat dg))=true/\cS (ak.getD a.toNat dg) (if rR (ak.getD a.toNat dg) e then e else eo sh e (ak.getD a.toNat dg))=true/\∀u,cJ sh u=true->cS e u=true->cS (ak.getD a.toNat dg) u=true->cS (if rR (ak.getD a.toNat dg) e then e else eo sh e (ak.getD a.toNat dg)) u=true:=by
   by_cases c:rR (ak.getD a.toNat dg) e
   .rw[aX c];exact⟨he,kf _,lf c,fun u _ h _=>h⟩
   rw[aT c];exact⟨IJ he fa,(YV he fa).1,(YV he fa).2,fun u fu h1 h2=>abl he fa fu h1 h2⟩
  obtain⟨k1,k2,k3,k4⟩:=key
  obtain⟨h1,h2,h3,h4⟩:=ab4 (ks:=ks) k1 fun k h=>hk k (fX _ h)
  refine⟨h1,fG k2 h2,fun k h=> ?_,fun u fu hu CH=>h4 u fu (k4 u fu hu (CH a aJ)) fun k h=>CH k (fX _ h)⟩
  rcases c8.1 h with q|q
  .subst q;exact fG k3 h2
  exact h3 k q
theorem We{p:Nat->Bool}{v m:Nat}(hv:p v=true)(hlo:∀j,j<v->p j=false):∃t,(List.range (v+(m+1))).filter p=v::t:=by
 rw[Yb,Rr]
 have e:(List.range v).filter p=[]:=List.filter_eq_nil_iff.2 fun j hj=>by rw[hlo j (qv.1 hj)];exact Lh
 rw[e,eN,XF,lT,B7,aX (by simpa using hv)]
 exact⟨_,rfl⟩
theorem Wf{cl:List Nat}{v:Nat}(h:BE cl)(hv:v<cl.length)(he:cm cl v=v):∃t,bP cl v=(v:Int)::t:=by
 obtain⟨t,ht⟩:=We (p:=fun k=>cm cl v==cm cl k) (v:=v) (m:=cl.length-v-1) aJ fun j hj=>by
  have:=h j J
  rw[beq_eq_false_iff_ne];omega
 unfold bP Al
 rw[aX ⟨J,J⟩]
 rw[show v+(cl.length-v-1+1)=cl.length by omega]at ht
 rw[eC,ht]
 exact⟨_,rfl⟩
theorem ab5{cl:List Nat}{n:Nat}{p:Nat->Bool}{q:Nat->Bool}:∀{l:List Nat},(∀x∈l,¬(p x=true/\q x=true))->(l.filter p).length+(l.filter q).length<=(l.filter fun x=>p x||q x).length
 |[],_=>fh _
 |a::l,h=>by
  have ih:=ab5 (cl:=cl) (n:=n) (l:=l) (p:=p) (q:=q) fun x hx=>h x (fX _ hx)
  have ha:=h a aJ
  rw[B7,B7,B7]
  by_cases c1:p a=true<;>by_cases c2:q a=true
  .exact absurd ⟨c1,c2⟩ ha
  .rw[aX c1,aT c2,aX (by simp[c1])];simp only[fw];omega
  .rw[aT c1,aX c2,aX (by simp[c2])];simp only[fw];omega
  rw[aT c1,aT c2,aT (by simp[c1,c2])];exact ih
theorem apW{cl:List Nat}(h:BE cl):∀k,coJ cl k<=((List.range cl.length).filter fun j=>decide (cm cl j<k)).length
 |0=>nM _
 |k+1=>by
  have ih:=apW h k
  have h1:=ab5 (cl:=cl) (n:=0) (l:=List.range cl.length) (p:=fun j=>decide (cm cl j<k)) (q:=fun j=>cm cl k==cm cl j&&decide (cm cl k=k)) fun x _ ⟨a,b⟩=>by
   simp only[eD,cM,Cd]at a b;omega
  have h2:=(xp (l:=List.range cl.length) (p:=fun x=>decide (cm cl x<k)||(cm cl k==cm cl x&&decide (cm cl k=k))) (q:=fun j=>decide (cm cl j<k+1)) fun x _ q=>by
   simp only[eD,cM,qa,Cd]at q⊢;omega).1
  show coJ cl k+_<=_
  have h3:(if fN cl (k:Int)=(k:Int)then(bP cl (k:Int)).length-1 else 0)<=((List.range cl.length).filter fun j=>cm cl k==cm cl j&&decide (cm cl k=k)).length:=by
   by_cases c:fN cl (k:Int)=(k:Int)
   .rw[aX c]
    by_cases r:0<=(k:Int)/\(k:Int)<cl.length
    .rw[nc r,eC]at c
     have e:cm cl k=k:=J
     unfold bP Al
     rw[aX r,gF,eC]
     have:=(xp (l:=List.range cl.length) (p:=fun j=>cm cl k==cm cl j) (q:=fun j=>cm cl k==cm cl j&&decide (cm cl k=k)) fun x _ q=>by rw[cM,eD];exact⟨q,e⟩).1
     omega
    rw[IU r]at c;omega
   rw[aT c];exact nM _
  omega
theorem anG{cl:List Nat}(h:BE cl)(k:Nat):coJ cl k<=cl.length:=by grind[apW,cm]
def NG(cl jV:List Nat)(k a:Nat):Nat:=if cm jV a<k then 2*cm jV a else 2*cm cl a+1
structure CoA(aq:List pP)(bf:List Int)(qs:List dD)(cl jV:List Nat)(n:Nat)(X:Nat->Prop)(w0:List (BitVec 64))(k:Nat)(c:yV):Prop where
 j:ZP aq bf qs (NG cl jV k) n X c
 ws:∀j,j<n->k<=cm jV j->c.bq.getD j 0=w0.getD j 0
section
variable{us:List j4}{aq:List pP}{bf:List Int}{qs:List dD}{cl jV:List Nat}{n k:Nat}{X:Nat->Prop}{c:yV}{w0 rs:List (BitVec 64)}
structure RgN(aq:List pP)(bf:List Int)(qs:List dD)(jV:List Nat)(n:Nat)(w0 rs:List (BitVec 64)):Prop where
 ok:BE jV
 len:jV.length=n
 ring:∀v,v<n->cm jV v=v->qF (kD aq bf n) (OY aq n qs (rs.getD v 0)) fun j=>j<n/\cm jV j=v
 sh:∀a b,a<n->b<n->cm jV a=cm jV b->(kD aq bf n).sh a=(kD aq bf n).sh b
 ws:∀v,v<n->eu (w0.getD v 0) (rs.getD (cm jV v) 0)=true
theorem CoA.step(hq:Wb aq bf n qs)(hu:Pa us qs n)(hr:RgN aq bf qs jV n w0 rs)(h:CoA aq bf qs cl jV n X w0 k c)(hk:k<n):CoA aq bf qs cl jV n X w0 (k+1) (co1 jV us aq bf rs c k):=by
 have hn:(kD aq bf n).n=n:=rfl
 have hi:=hr.len
 have ck:=aiV (cl:=jV) (us:=us) (aq:=aq) (bf:=bf) (rs:=rs) (s:=c) (v:=k) hu.hu (by rw[hi,hu.len]) h.j.ck
 have lv:=h.j.ck.lv
 have ly:=h.j.ck.ly
 have si:=h.j.si
 have no:(∀a b,a<n->b<n->NG cl jV (k+1) a=NG cl jV (k+1) b->NG cl jV k a=NG cl jV k b)->co1 jV us aq bf rs c k=c->CoA aq bf qs cl jV n X w0 (k+1) (co1 jV us aq bf rs c k):=fun hf e=>by
  rw[e];exact⟨⟨h.j.ck,si.ajp hf⟩,fun j hj hjk=>h.ws j hj J⟩
 by_cases c1:cm jV k=k
 .obtain⟨t,ht⟩:=Wf hr.ok J c1
  have hCi:∀i:Nat,(i:Int)∈bP jV (k:Int)↔i<n/\cm jV i=k:=fun i=>by
   rw[I3,eC,eC,c1]
   exact⟨fun⟨a,b,c,d⟩=>⟨J,d⟩,fun⟨a,b⟩=>⟨J,J,J,b⟩⟩
  have fk:fN jV (k:Int)=k:=by rw[nc J,eC,c1]
  by_cases c2:(bP jV (k:Int)).length≠1
  .have hks:∀j∈bP jV (k:Int),0<=j/\j<(n:Int):=fun j hj=>by have:=mL hj;omega
   have e0:co1 jV us aq bf rs c k=_:=abZ (k:=(k:Int)) J fk c2
   simp only[eC]at e0
   have hfit:∀j:Nat,j<n->cm jV j=k->cJ ((kD aq bf n).sh k) (c.ak.getD j dg)=true:=fun j hj e=>by
    rw[<-hr.sh j k hj hk (by rw[e,c1])];exact si.low.fit j hj
   have hdr:∀j∈(bP jV (k:Int)).drop 1,0<=j/\j.toNat<n/\cm jV j.toNat=k:=fun j hj=>by
    have hm:=sw hj
    have:=hks j hm
    have:=(hCi j.toNat).1 (by rw[gk J];exact hm)
    exact⟨J,this⟩
   obtain⟨e1,e2,e3,e4⟩:=ab4 (sh:=(kD aq bf n).sh k) (ak:=c.ak) (ks:=(bP jV (k:Int)).drop 1) (e:=c.ak.getD k dg) (hfit k hk c1) fun j hj=>hfit _ (hdr j hj).2.1 (hdr j hj).2.2
   have eq:wu (aq.getD (bf.getD k 0).toNat pT).p.sh c.ak (c.ak.getD k dg) ((bP jV (k:Int)).drop 1)=wu ((kD aq bf n).sh k) c.ak (c.ak.getD k dg) ((bP jV (k:Int)).drop 1):=rfl
   rw[eq]at e0
   generalize hE:wu ((kD aq bf n).sh k) c.ak (c.ak.getD k dg) ((bP jV (k:Int)).drop 1)=e at*
   have hwC:∀j,j<n/\cm jV j=k->eu (wQ c.bq j) (rs.getD k 0)=true:=fun j hj=>by
    have:=hr.ws j hj.1
    rw[hj.2]at this
    show eu (c.bq.getD j 0) _=true
    rw[h.ws j hj.1 J];exact this
   have Wc:=hr.ring k hk c1
   have h1:=si.merge (C:=fun j=>j<n/\cm jV j=k) (e:=e) (W:=rs.getD k 0) (k:=k) (Wa:=NG cl jV (k+1)) (P':=fun i=>(i:Int)∈(yg c.ak us (c.wl,c.wi) (bP jV (k:Int)) e).2.1\/X i)
    (fun j hj=>⟨J,hwC j hj⟩) (fun a b ha hb=>hr.sh a b ha.1 hb.1 (by rw[ha.2,hb.2])) Wc ⟨hk,c1⟩ e1
    (fun u hu2=>by
     have hle:∀j,j<n/\cm jV j=k->cS (c.ak.getD j dg) (u k)=true:=fun j hj=>fG (si.why j J u (hu2.less fun q hq=>si.mok _ _ _ (hwC j hj) hq)) (lf (Wc u hu2 j k hj ⟨hk,c1⟩))
     exact e4 _ (hu2.fit k J) (hle k ⟨hk,c1⟩) fun j hj=>hle _ (hdr j hj).2)
    (fun j hj=>by
     have:=(hCi j).2 hj
     rw[ht]at this
     rcases c8.1 this with q|q
     .have:j=k:=J
      subst this;exact e2
     have:=e3 (j:Int) (by rw[ht];exact q)
     rwa[eC]at this)
    (fun a b ha hb hab=>by
     unfold NG at hab⊢
     by_cases ca:cm jV a<k+1<;>by_cases cb:cm jV b<k+1
     .rw[aX ca,aX cb]at hab
      by_cases q:cm jV a=k
      .exact .inl ⟨⟨J,q⟩,⟨J,J⟩⟩
      refine .inr ⟨fun x=>q x.2,fun x=>q J,?_⟩
      rw[aX J,aX J];omega
     .rw[aX ca,aT cb]at hab;omega
     .rw[aT ca,aX cb]at hab;omega
     rw[aT ca,aT cb]at hab
     refine .inr ⟨fun x=>J,fun x=>J,?_⟩
     rw[aT J,aT J];omega)
    (fun j hj hp=>hp.elim (fun q=> .inl (K8 q)) .inr)
    (fun j hj y hy hc hne=>by
     have hjm:=hq _ (dy (d:=cX) (l:=qs) (k:=(j:Int)) J J)
     rw[eC]at hjm
     rw[G1 hjm.2]at hy
     obtain⟨z,hz,rfl⟩:=fZ.1 hy
     have hz0:0<=z:=by
      have:=hz
      rw[hjm.2]at this
      obtain⟨a,ha,ho,h0,rfl⟩:=sU.1 this
      exact h0
     refine .inl (ZO hu.hu (k:=z.toNat) (j:=(j:Int)) ?_ h.j.ck.wq h.j.ck.li (fun k hk=>by have:=hks k hk;have:=hu.len;omega) (by rw[hu.len];exact lv) ((hCi _).2 hc) hne)
     rw[hu.is _ J]
     refine CX.2 ⟨J,?_⟩
     rw[eC,gk hz0];exact hz)
   refine⟨⟨ck,?_⟩,fun j hj hjk=> ?_⟩
   .rw[e0]
    simp only[yT]
    rw[ajc (by rw[lv];exact hks),ajd (by rw[ly];exact hks),ND hCi,NE hCi]
    exact h1
   rw[e0]
   simp only
   rw[sS J fun q hq=>(hks q hq).1,aT fun q=>by have:=(hCi j).1 q;omega]
   exact h.ws j hj J
  have c2:(bP jV (k:Int)).length=1:=Lk c2
  refine no (fun a b ha hb hab=> ?_) (S7 (k:=(k:Int)) J fun q=>q.2 c2)
  have one:∀a,a<n->cm jV a=k->a=k:=fun a ha e=>by
   have:=(hCi a).2 ⟨ha,e⟩
   rw[ht]at this c2
   have:t=[]:=by cases t with
    |nil=>rfl
    |cons _ _=>simp at c2
   subst this
   have:=gG.1 ‹(a:Int)∈[(k:Int)]›
   omega
  unfold NG at hab⊢
  by_cases ca:cm jV a<k+1<;>by_cases cb:cm jV b<k+1
  .rw[aX ca,aX cb]at hab
   by_cases q:cm jV a=k
   .have:=one a ha q;have:=one b hb J;subst this;subst a;rfl
   rw[aX J,aX J];omega
  .rw[aX ca,aT cb]at hab;omega
  .rw[aT ca,aX cb]at hab;omega
  rw[aT ca,aT cb]at hab
  rw[aT J,aT J];omega
 refine no (fun a b ha hb hab=> ?_) (S7 (k:=(k:Int)) J fun q=>c1 (by have:=q.1;rw[nc J,eC]at this;omega))
 have one:∀a,a<n->cm jV a≠k:=fun a ha e=>c1 (by have:=(hr.ok a J).2;rw[e]at this;exact this)
 have:=one a ha;have:=one b hb
 unfold NG at hab⊢
 by_cases ca:cm jV a<k+1<;>by_cases cb:cm jV b<k+1
 .rw[aX ca,aX cb]at hab
  rw[aX J,aX J];omega
 .rw[aX ca,aT cb]at hab;omega
 .rw[aT ca,aX cb]at hab;omega
 rw[aT ca,aT cb]at hab
 rw[aT J,aT J];omega
theorem CoA.all(hq:Wb aq bf n qs)(hu:Pa us qs n)(hr:RgN aq bf qs jV n w0 rs)(h:CoA aq bf qs cl jV n X w0 0 c):∀k,k<=n->CoA aq bf qs cl jV n X w0 k (coA jV us aq bf rs c k)
 |0,_=>h
 |k+1,hk=>by
  have e:=CR (cl:=jV) (us:=us) (aq:=aq) (bf:=bf) (rs:=rs) (s:=c) (k:=(k:Int)) J
  rw[show((k:Int)+1).toNat=k+1 by omega,eC]at e
  rw[e];exact(CoA.all hq hu hr h k J).step hq hu hr J
theorem Wb.pl(h:Wb aq bf n qs):VR n qs:=fun q hq hp=>by
 obtain⟨h1,h2⟩:=h q hq
 obtain⟨a,b,_,_⟩:=ED h1 h2 hp
 refine⟨?_,a,b.2⟩
 obtain⟨y,hy,ho,h0⟩:=G0 hp
 have:=h1.var y (by rw[hy];simp) ho
 rw[h2,hy];unfold dB;simp[ho,this.1,tM]
theorem anH{cs:List (List Nat)}{ak:List El}{bq:List (BitVec 64)}{P:Nat->Prop}(hq:Wb aq bf n qs)(hc:BE (bB cs))(hl:(bB cs).length=n)
  (si:mM (kD aq bf n) (fun i=>uI aq n (qs.getD i cX)) (fun i=>(qs.getD i cX).why) qs.length (OY aq n qs) (vQ ak) (wQ bq) (cm (bB cs)) P):
  MgK (bB cs) (bB (s5 cs (pz (cz n qs)) n)) (pz (cz n qs)) n n/\RgN aq bf qs (bB (s5 cs (pz (cz n qs)) n)) n bq (CQ (bB (s5 cs (pz (cz n qs)) n)) bq n qs):=by
 have gl:(cz n qs).length=n:=FK n qs
 have hp:=hq.pl
 have hpv:∀q∈qs,Fh q=true->0<=yC q:=fun q h1 h2=>(hp q h1 h2).2.1.1
 have oin:∀v,v<n->0<=(pz (cz n qs)).getD v 0/\(pz (cz n qs)).getD v 0<n:=fun v hv=>by
  obtain⟨j,e,hj⟩:=(Te (gl:=cz n qs) (v:=v) J).is
  have:=anF hj.1 J
  omega
 have mg:=ajm hc hl oin n (fh _)
 have l2:(bB (s5 cs (pz (cz n qs)) n)).length=n:=by rw[xo];exact hl
 have hR:=anE (ws:=bq) mg.ok l2 hp
 refine⟨mg,?_⟩
 generalize bB (s5 cs (pz (cz n qs)) n)=jV at*
 have both:∀a b,a<n->b<n->tK (wj (cz n qs)) a b->cm jV a=cm jV b:=fun a b ha hb h=>by
  rw[mg.aiy a ha,mg.aiy b hb,ajn J J h]
 have arc:∀a b,wj (cz n qs) a b->∃q∈qs,Fh q=true/\yC q=a/\q.to.var=b:=fun a b h=>axD hpv h
 have ash:∀a b,wj (cz n qs) a b->(kD aq bf n).sh a=(kD aq bf n).sh b:=fun a b h=>by
  obtain⟨q,h1,h2,h3,h4⟩:=arc a b h
  have:=(ED (hq q h1).1 (hq q h1).2 h2).2.2.2
  rwa[h3,h4,eC,eC]at this
 have wsh:∀a b,j5 (wj (cz n qs)) a b->(kD aq bf n).sh a=(kD aq bf n).sh b:=fun a b h=>by
  induction h with
  |refl=>rfl
  |step _ e ih=>exact ih.trans (ash _ _ e)
 have ab6:∀a b:Nat,a<n->(b:Int)=(pz (cz n qs)).getD a 0->tK (wj (cz n qs)) a b:=fun a b ha e=>by
  obtain⟨j,ej,hj⟩:=(Te (gl:=cz n qs) (v:=a) J).is
  have:b=j:=J
  subst this;exact hj
 refine⟨mg.ok,l2,fun v hv hvv=> ?_,fun a b ha hb e=> ?_,hR.1⟩
 .have aEB:∀(z:Nat) (Q:s4->Prop),qF (kD aq bf n) Q fun j=>j=z:=fun z Q u hu i k hi hk=>by
   rw[hi,hk];exact fun _ _=>rfl
  refine ajb fun i k hi hk=> ?_
  have w:=mg.way i k hi.1 hk.1 (by rw[hi.2,hk.2])
  have step:∀a b,EG (bB cs) (pz (cz n qs)) n n a b->cm jV a=v->j5 (fun a b=>(∃q,OY aq n qs ((CQ jV bq n qs).getD v 0) q/\FN (kD aq bf n) q a b)\/∃D:Nat->Prop,D a/\D b/\qF (kD aq bf n) (OY aq n qs ((CQ jV bq n qs).getD v 0)) D) a b/\cm jV b=v:=by
   have kn:∀a b,a<n->b<n->tK (wj (cz n qs)) a b->cm jV a=v->j5 (fun a b=>(∃q,OY aq n qs ((CQ jV bq n qs).getD v 0) q/\FN (kD aq bf n) q a b)\/∃D:Nat->Prop,D a/\D b/\qF (kD aq bf n) (OY aq n qs ((CQ jV bq n qs).getD v 0)) D) a b:=fun a b ha hb hab hav=>
    ajo (E:=wj (cz n qs)) (fun y c e hy hc'=>by
     by_cases q:y=c
     .subst q;exact .inr ⟨fun j=>j=y,rfl,rfl,aEB y _⟩
     obtain⟨q2,h1,h2,h3,h4⟩:=arc y c e
     have yn:y<n:=by have:=e.1;omega
     have cn:c<n:=by have:=e.2.1;omega
     have cy:cm jV y=v:=by rw[<-both a y ha yn hy];exact hav
     have cc:cm jV c=v:=by rw[<-both a c ha cn hc'];exact hav
     have hw:=hR.2 q2 h1 h2 J (by rw[h3,h4,eC,eC,cy,cc])
     rw[h4,eC,cc]at hw
     have hpq:=(ED (hq q2 h1).1 (hq q2 h1).2 h2).2.2.1
     rw[h3,h4,eC,eC]at hpq
     obtain⟨i,hi,ei⟩:=uf h1
     exact .inl ⟨_,⟨i,hi,by rw[getD_eq hi,ei],by rw[getD_eq hi,ei];exact hw⟩,hpq⟩) hab.1 hab.2
   rintro a b ⟨ha,hb,hs|⟨_,hs⟩|⟨_,hs⟩⟩ hav
   .have e2:=mg.more a b ha hb hs
    refine⟨.one (.inr ⟨fun j=>j<n/\cm (bB cs) j=cm (bB cs) a,⟨ha,rfl⟩,⟨hb,hs.symm⟩,?_⟩),by rw[<-e2];exact hav⟩
    have:=(si.ring a a ha ha O).2.2.2
    have hs2:=hR.1 a ha
    rw[hav]at hs2
    exact this.more fun q hq=>si.mok _ _ _ hs2 hq
   .have Xp:=ab6 a b ha hs
    exact⟨kn a b ha hb Xp hav,by rw[<-both a b ha hb Xp];exact hav⟩
   have Xp:=ab6 b a hb hs
   have hb3:tK (wj (cz n qs)) a b:=⟨Xp.2,Xp.1⟩
   exact⟨kn a b ha hb hb3 hav,by rw[<-both a b ha hb hb3];exact hav⟩
  have key:∀b,j5 (EG (bB cs) (pz (cz n qs)) n n) i b->j5 (fun a b=>(∃q,OY aq n qs ((CQ jV bq n qs).getD v 0) q/\FN (kD aq bf n) q a b)\/∃D:Nat->Prop,D a/\D b/\qF (kD aq bf n) (OY aq n qs ((CQ jV bq n qs).getD v 0)) D) i b/\cm jV b=v:=fun b wb=>by
   induction wb with
   |refl=>exact⟨.refl _,hi.2⟩
   |step _ e ih=>obtain⟨s1,s2⟩:=step _ _ e ih.2;exact⟨ih.1.trans s1,s2⟩
  exact(key k w).1
 have w:=mg.way a b ha hb e
 induction w with
 |refl=>rfl
 |step w1 e1 ih=>
  obtain⟨h1,h2,h3⟩:=e1
  have e3:∀x y,x<n->y<n->EG (bB cs) (pz (cz n qs)) n n x y->cm jV x=cm jV y/\(kD aq bf n).sh x=(kD aq bf n).sh y:=fun x y hx hy hs=>by
   rcases hs.2.2 with q|⟨_,q⟩|⟨_,q⟩
   .exact⟨mg.more x y hx hy q,(si.ring x y hx hy q).1⟩
   .have:=ab6 x y hx q
    exact⟨both x y hx hy this,wsh _ _ this.1⟩
   have:=ab6 y x hy q
   exact⟨(both y x hy hx this).symm,wsh _ _ this.2⟩
  have:=e3 _ _ h1 h2 ⟨h1,h2,h3⟩
  exact(ih h1 (by rw[this.1];exact e)).trans this.2
end
structure yW(s:NP):Prop where
 ok:Ea s
 fit:Wb s.aq s.bf s.ak.length s.qs
 us:s.us=(List.range s.ak.length).map (yj s.qs)
 cl:BE (bB s.cs)
 si:mM (kD s.aq s.bf s.ak.length) (fun i=>uI s.aq s.ak.length (s.qs.getD i cX)) (fun i=>(s.qs.getD i cX).why) s.qs.length (OY s.aq s.ak.length s.qs) (vQ s.ak) (wQ s.bq) (cm (bB s.cs)) fun i=>s.sn<=i
def muM(s:NP):Nat:=s.qs.length+((s.qs.map fun q=>gK (zy s.aq q)*q.vars.length).sum).toNat
theorem Pa.of{us:List j4}{qs:List dD}{n:Nat}(h:qh us=(List.range n).map (yj qs)):Pa us qs n:=by
 have hl:us.length=n:=by have:=aK List.length h;rwa[gA,gF,Rt]at this
 refine⟨hl,fun k hk=> ?_⟩
 rw[<-CT,h,eT,qu,zF hk];rfl
noncomputable abbrev pD(us:List j4)(s:NP):CoO:=sV s.cs us s.aq s.bf s.qs s.sn s.ak.length ⟨s.ak,s.bq,[],List.replicate s.qs.length false⟩
abbrev JN(s:NP)(cl:List Nat):yV->Prop:=ZP s.aq s.bf s.qs (cm cl) s.ak.length fun _=>False
theorem Tf{s:NP}(h:yW s){us:List j4}(yh:qh us=s.us):ZP s.aq s.bf s.qs (cm (bB (pD us s).cs)) s.ak.length (fun i=>s.sn<=(i:Int)) (pD us s).s/\BE (bB (pD us s).cs)/\(bB (pD us s).cs).length=s.ak.length/\(pD us s).j<=s.ak.length:=by
 have hu:=Pa.of (yh.trans h.us)
 have h0:QD s.qs.length s.ak.length s.ak.length ⟨s.ak,s.bq,[],List.replicate s.qs.length false⟩:=⟨rfl,h.ok.T9,aJ,I4 _⟩
 have j0:ZP s.aq s.bf s.qs (cm (bB s.cs)) s.ak.length (fun i=>s.sn<=(i:Int)) ⟨s.ak,s.bq,[],List.replicate s.qs.length false⟩:=⟨h0,h.si.aja fun i _ q=> .inr q⟩
 unfold pD sV
 split
 .obtain⟨mg,rg⟩:=anH h.fit h.cl h.ok.oy h.si
  simp only
  split
  .rename_i hle
   have e:=ZQ h.cl mg.ok (by rw[xo]) (fun a b ha hb=>mg.more a b (by have:=h.ok.oy;omega) (by have:=h.ok.oy;omega)) hle
   have oy:=h.ok.oy
   refine⟨⟨j0.ck,j0.si.ajp fun i k hi hk q=> ?_⟩,mg.ok,rg.len,nM _⟩
   have hi':i<s.ak.length:=hi;have hk':k<s.ak.length:=hk
   rw[e i J,e k J]at q;exact q
  have oy:=h.ok.oy
  have c0:CoA s.aq s.bf s.qs (bB s.cs) (bB (s5 s.cs (pz (cz s.ak.length s.qs)) s.ak.length)) s.ak.length (fun i=>s.sn<=(i:Int)) s.bq 0 ⟨s.ak,s.bq,[],List.replicate s.qs.length false⟩:=⟨⟨j0.ck,j0.si.ajp fun i k hi hk q=>by
   unfold NG at q
   rw[aT J,aT J]at q;omega⟩,fun j _ _=>rfl⟩
  have ca:=CoA.all h.fit hu rg c0 s.ak.length (fh _)
  refine⟨⟨ca.j.ck,ca.j.si.ajp fun i k hi hk q=> ?_⟩,mg.ok,rg.len,by have:=anG mg.ok s.ak.length;rw[rg.len]at this;exact this⟩
  have hi':i<s.ak.length:=hi;have hk':k<s.ak.length:=hk
  have h1:=mg.ok i (by rw[rg.len];exact hi');have h2:=mg.ok k (by rw[rg.len];exact hk')
  unfold NG
  rw[aX J,aX J,q]
 exact⟨j0,h.cl,h.ok.oy,nM _⟩
theorem Wg{s:NP}(h:yW s){us:List j4}(yh:qh us=s.us):JN s (bB (pD us s).cs) (V3 (pD us s).s s.sn s.qs.length)/\muN s.aq s.bf s.ak.length s.qs (V3 (pD us s).s s.sn s.qs.length)<=muM s:=by
 obtain⟨j,_,_,_⟩:=Tf h yh
 have ck:=asS (c:=(pD us s).s) j.ck (sn:=s.sn) h.ok.Xm.1
 have hup:∀i∈upI s.sn ((s.qs.length:Int)-s.sn).toNat,0<=i/\i<((pD us s).s.wi.length:Int):=fun i hi=>by
  obtain⟨x,hx,rfl⟩:=fZ.1 hi
  have:=qv.1 hx
  have:=j.ck.li
  have:=h.ok.Xm
  omega
 have hs:=h.ok.Xm
 refine⟨⟨ck,j.si.aja fun i hi hp=> .inl ?_⟩,?_⟩
 .rcases hp with q|q
  .exact GZ q
  refine Ta j.ck.wq hup ?_
  exact fZ.2 ⟨((i:Int)-s.sn).toNat,qv.2 J,J⟩
 have h1:=ck.wq.len
 have h2:=ck.li
 have h3:pA (kD s.aq s.bf s.ak.length) (S9 s.aq s.ak.length s.qs) (vQ (pD us s).s.ak) s.ak.length<=((s.qs.map (uI s.aq s.ak.length)).map fun q=>gK q.sh*q.vars.length).sum:=VQ fun q hq x hx=>by
  obtain⟨p,hp,rfl⟩:=fZ.1 hq
  exact aiL (h.fit p hp).1 hx
 rw[RI]at h3
 have e:s.qs.map ((fun q:s4=>gK q.sh*(q.vars.length:Int))∘uI s.aq s.ak.length)=s.qs.map fun q=>gK (zy s.aq q)*(q.vars.length:Int):=HK fun q hq=>by
  show gK (zy s.aq q)*((uI s.aq s.ak.length q).vars.length:Int)=_
  rw[G1 (h.fit q hq).2,gF]
 rw[e]at h3
 unfold muN muM
 show(V3 (pD us s).s s.sn s.qs.length).wl.length+(pA _ _ (vQ (pD us s).s.ak) _).toNat<=_
 omega
theorem JL{sh:Sh}{l:List dV}{v v':List El}(h:∀x∈l,x.op=1->0<=x.n/\x.n<v.length/\x.n<v'.length/\v.getD x.n.toNat dg=v'.getD x.n.toNat dg):ey sh l v=ey sh l v':=by
 have hs:∀(m:List dV),(∀x∈m,x∈l)->∀o,m.foldl (Be sh v) o=m.foldl (Be sh v') o:=by
  intro m
  induction m with
  |nil=>intros;rfl
  |cons x m ih=>
   intro hm o
   have e:Be sh v o x=Be sh v' o x:=by
    unfold Be
    by_cases c:x.op=1
    .obtain⟨h0,h1,h2,h3⟩:=h x (hm x aJ) c
     simp only[c,ur,aX (show 0<=x.n/\x.n<v.length from⟨h0,h1⟩),aX (show 0<=x.n/\x.n<v'.length from⟨h0,h2⟩),h3]
    simp only[c,xU]
   rw[pg,pg,e]
   exact ih (fun y hy=>hm y (fX _ hy)) _
 have e:ij sh v l l.length=ij sh v' l l.length:=hs _ (fun x hx=>r7 hx) _
 unfold ey
 rw[e]
theorem NH{sh:Sh}{code:List dV}{to:iT}{n n':Nat}(h:∀x∈code,x.op=1->0<=x.n/\x.n<n)(hn:n<=n'):CP n' sh code to=CP n sh code to:=by
 unfold CP
 congr 1
 funext u
 congr 1
 refine JL fun x hx ho=> ?_
 obtain⟨h0,h1⟩:=h x hx ho
 refine⟨h0,by simp;omega,by simp;omega,?_⟩
 rw[qG J,qG J]
theorem ajq{aq apY:List pP}{bf:List Int}{n n':Nat}{q:dD}(h:ZD (kD aq bf n) (zy aq q) q.code q.to)(hn:n<=n')(hs:zy apY q=zy aq q):uI apY n' q=uI aq n q:=by
 unfold uI
 rw[hs]
 exact NH (fun x hx ho=>by have:=h.var x hx ho;exact⟨this.1,this.2.1⟩) hn
section
variable{S S':Sys}{Q Q':Nat->s4}{y y':Nat->BitVec 64}{N:Nat}{M M':Qm}{v v':Va}{ws ws':Nat->BitVec 64}{rep ajr:Nat->Nat}{P:Nat->Prop}{q:s4}
theorem tL.wide(h:tL S q)(hn:S.n<=S'.n)(hs:∀i,i<S.n->S'.sh i=S.sh i):tL S' q:=by
 have hf:∀u,qj S' u->qj S u:=fun u hu i hi=>by rw[<-hs i hi];exact hu i J
 exact⟨fun u hu=>h.fit u (hf u hu),fun i hi=>by have:=h.lt i hi;omega,fun u w hu hw hl=>h.Qy u w (hf u hu) (hf w hw) hl,fun k hk=>by
  obtain⟨h1,h2⟩:=h.to k hk
  exact⟨J,by rw[hs k h1];exact h2⟩⟩
theorem qj.less{u:Va}(h:qj S' u)(hn:S.n<=S'.n)(hs:∀i,i<S.n->S'.sh i=S.sh i):qj S u:=fun i hi=>by rw[<-hs i hi];exact h i J
theorem mM.wide(h:mM S Q y N M v ws rep P)(hn:S.n<=S'.n)(hs:∀i,i<S.n->S'.sh i=S.sh i)(hv:∀i,i<S.n->v' i=v i)(hw:∀i,i<S.n->ws' i=ws i)
  (hb:∀i,S.n<=i->i<S'.n->mA (S'.sh i)=true/\v' i=gJ (S'.sh i) ew) (hr:∀i k,i<S'.n->k<S'.n->ajr i=ajr k->i=k\/(i<S.n/\k<S.n/\rep i=rep k)):mM S' Q y N M v' ws' ajr P:=by
 have as0:∀(R:s4->Prop) u,uU S' R u->uU S R u:=fun R u hu=>⟨hu.fit.less hn hs,hu.hold⟩
 refine⟨fun i hi=>⟨(h.ok i hi).1.wide hn hs,(h.ok i hi).2⟩,h.all,h.mok,⟨fun i hi=> ?_,fun u hu i hi=> ?_⟩,fun k hk u hu=> ?_,fun i k hi hk e=> ?_,fun i hi hp=> ?_⟩
 .by_cases c:i<S.n
  .rw[hs i c,hv i c];exact h.low.fit i c
  obtain⟨h1,h2⟩:=hb i J hi
  rw[h2];exact(P3 h1).1
 .by_cases c:i<S.n
  .rw[hv i c];exact h.low.low u (as0 _ u hu) i c
  obtain⟨h1,h2⟩:=hb i J hi
  rw[h2];exact(P3 h1).2 _ (hu.fit i hi)
 .by_cases c:k<S.n
  .rw[hv k c]
   rw[hw k c]at hu
   exact h.why k c u (as0 _ u hu)
  obtain⟨h1,h2⟩:=hb k J hk
  rw[h2];exact(P3 h1).2 _ (hu.fit k hk)
 .have ring:qF S' (M (ws' i)) fun j=>j<S'.n/\ajr j=ajr i:=fun u hu a b ha Xp=>by
   have h1:=hr a i ha.1 hi ha.2
   have h2:=hr b i Xp.1 hi Xp.2
   by_cases c:i<S.n
   .rw[hw i c]at hu
    refine(h.ring i i c c O).2.2.2 u (as0 _ u hu) a b ?_ ?_
    .rcases h1 with e1|e1
     .rw[e1];exact⟨c,rfl⟩
     exact⟨e1.1,e1.2.2⟩
    rcases h2 with e1|e1
    .rw[e1];exact⟨c,rfl⟩
    exact⟨e1.1,e1.2.2⟩
   have ea:a=i:=h1.resolve_right fun q=>c q.2.1
   have eb:b=i:=h2.resolve_right fun q=>c q.2.1
   rw[ea,eb];exact fun _ _=>rfl
  rcases hr i k hi hk e with e1|⟨c1,c2,e1⟩
  .subst e1;exact⟨rfl,fun _ _=>rfl,rfl,ring⟩
  obtain⟨r1,r2,r3,_⟩:=h.ring i k c1 c2 e1
  exact⟨by rw[hs i c1,hs k c2];exact r1,by rw[hv i c1,hv k c2];exact r2,by rw[hw i c1,hw k c2];exact r3,ring⟩
 have ho:=(h.ok i hi).1
 have hold:=h.hold i hi hp
 have fv:qj S v':=fun j hj=>by rw[hv j hj];exact h.low.fit j hj
 have e1:cS ((Q i).ev v') ((Q i).ev v)=true:=ho.Qy _ _ fv h.low.fit fun j hj=>by rw[hv j (ho.lt j hj)];exact kf _
 unfold fp s4.rhs at hold⊢
 cases ht:(Q i).to with
 |none=>rw[ht]at hold;exact fG e1 hold
 |some x=>
  rw[ht]at hold
  show cS _ (v' x)=true
  rw[hv x (ho.to x ht).1]
  exact fG e1 hold
theorem mM.congr(h:mM S Q y N M v ws rep P)(hq:∀i,i<N->Q' i=Q i/\y' i=y i):mM S Q' y' N M v ws rep P:=by
 refine⟨fun i hi=>by rw[(hq i hi).1,(hq i hi).2];exact h.ok i hi,fun a q ha=> ?_,h.mok,⟨h.low.fit,fun u hu=>h.low.low u ⟨hu.fit,fun q ⟨i,hi,e⟩=>hu.hold q ⟨i,hi,by rw[(hq i hi).1];exact e⟩⟩⟩,h.why,h.ring,fun i hi hp=>by rw[(hq i hi).1];exact h.hold i hi hp⟩
 obtain⟨i,hi,e⟩:=h.all a q ha
 exact⟨i,hi,by rw[(hq i hi).1];exact e⟩
end
theorem Ea.var{s:NP}(h:Ea s){l:Int}(hl:0<=l/\l<s.aq.length){e:El}(hn:s.ak.length<1000):Ea (qP s l e):=by
 have hln:(bB (SX s.cs)).length=(bB s.cs).length+1:=by
  show((bB s.cs)++[(bB s.cs).length]).length=_
  simp
 have h1:=h.T9;have h2:=h.OX;have h3:=h.oy;have h4:=h.QF;have h5:=h.hlt
 refine⟨by simp[qP,h1],by simp[qP,h2],by show(bB (SX s.cs)).length=_;rw[hln];simp[qP,h3],by simp[qP];omega,h.Xm,h.hqn,fun q hq=> ?_,by simp[qP,h5],fun k hk=> ?_,fun k hk=> ?_⟩
 .have:=h.hqo q hq
  refine⟨this.bf,this.code,?_,fun hp=> ?_,fun v hv=> ?_⟩
  .have:=this.to;simp[qP];omega
  .have:=this.pl hp;simp[qP];omega
  have:=this.vars v hv;simp[qP];omega
 .show 0<=(s.bf++[l]).getD k 0/\(s.bf++[l]).getD k 0<s.aq.length
  rw[NA]
  by_cases c:k<s.bf.length
  .rw[aX c];exact h.hlr k c
  have:k=s.bf.length:=by simp[qP]at hk;omega
  rw[aT c,aX this];exact hl
 show((s.us++[[]]).getD k []).length<=1000/\∀i∈(s.us++[[]]).getD k [],0<=i/\i<(s.qs.length:Int)
 rw[NA]
 by_cases c:k<s.us.length
 .rw[aX c];exact h.yh k c
 rw[aT c]
 split<;>exact⟨aJ,fun i hi=>by cases hi⟩
theorem yW.var{s:NP}(h:yW s){l:Int}(hl:0<=l/\l<s.aq.length)(hs:mA (s.aq.getD l.toNat pT).p.sh=true){e:El}(he:e=gJ (s.aq.getD l.toNat pT).p.sh ew)(hn:s.ak.length<1000):yW (qP s l e):=by
 have hok:=h.ok
 have h1:=hok.T9;have h3:=hok.oy;have h5:=hok.hlt
 have el:(qP s l e).ak.length=s.ak.length+1:=by simp[qP]
 have hsh:∀i,i<s.ak.length->(kD s.aq (s.bf++[l]) (s.ak.length+1)).sh i=(kD s.aq s.bf s.ak.length).sh i:=fun i hi=>by
  show(s.aq.getD ((s.bf++[l]).getD i 0).toNat pT).p.sh=(s.aq.getD (s.bf.getD i 0).toNat pT).p.sh
  rw[oD J]
 have hq:∀i,uI s.aq (s.ak.length+1) (s.qs.getD i cX)=uI s.aq s.ak.length (s.qs.getD i cX):=fun i=>by
  by_cases c:i<s.qs.length
  .have hm:=dy (d:=cX) (l:=s.qs) (k:=(i:Int)) J J
   rw[eC]at hm
   exact ajq (h.fit _ hm).1 J O
  rw[eT,og J]
  exact NH (fun x hx=>by cases hx) J
 have hM:OY s.aq (s.ak.length+1) s.qs=OY s.aq s.ak.length s.qs:=by
  funext a q
  unfold OY
  exact propext ⟨fun⟨i,h1,h2,h3⟩=>⟨i,h1,by rw[<-hq];exact h2,h3⟩,fun⟨i,h1,h2,h3⟩=>⟨i,h1,by rw[hq];exact h2,h3⟩⟩
 refine⟨hok.var hl hn,fun q hq2=> ?_,?_,?_,?_⟩
 .obtain⟨hf,hv⟩:=h.fit q hq2
  rw[el]
  refine⟨⟨hf.right,fun x hx ho=> ?_,hf.con,hf.to0,fun h0=> ?_⟩,hv⟩
  .obtain⟨a,b,c⟩:=hf.var x hx ho
   have b':x.n<(s.ak.length:Int):=b
   exact⟨a,by show x.n<((s.ak.length+1:Nat):Int);omega,(hsh _ J).trans c⟩
  obtain⟨b,c⟩:=hf.to1 h0
  have b':q.to.var<(s.ak.length:Int):=b
  exact⟨by show q.to.var<((s.ak.length+1:Nat):Int);omega,(hsh _ J).trans c⟩
 .rw[el,xO,gV]
  show s.us++[[]]=_
  rw[h.us]
  have:yj s.qs s.ak.length=[]:=by
   refine Rg.2 fun i hi=> ?_
   obtain⟨h1,h2⟩:=CX.1 hi
   have:=(hok.hqo _ (dy (d:=cX) (l:=s.qs) h1.1 h1.2)).vars _ h2
   omega
  show _=(List.range s.ak.length).map (yj s.qs)++[yj s.qs s.ak.length]
  rw[this]
 .intro i hi
  show cm (bB s.cs++[(bB s.cs).length]) i<=i/\cm (bB s.cs++[(bB s.cs).length]) (cm (bB s.cs++[(bB s.cs).length]) i)=cm (bB s.cs++[(bB s.cs).length]) i
  have hi2:i<(bB s.cs).length+1:=by
   have:(bB (SX s.cs)).length=(bB s.cs).length+1:=by show((bB s.cs)++[(bB s.cs).length]).length=_;simp
   exact this▸hi
  by_cases c:i<(bB s.cs).length
  .have q:=h.cl i c
   have e1:cm (bB s.cs++[(bB s.cs).length]) i=cm (bB s.cs) i:=oD c
   have e2:cm (bB s.cs++[(bB s.cs).length]) (cm (bB s.cs) i)=cm (bB s.cs) (cm (bB s.cs) i):=oD J
   rw[e1,e2];exact q
  have e1:cm (bB s.cs++[(bB s.cs).length]) i=i:=(sW J).trans J
  rw[e1,e1];exact⟨fh _,rfl⟩
 rw[el]
 show mM (kD s.aq (s.bf++[l]) (s.ak.length+1)) (fun i=>uI s.aq (s.ak.length+1) (s.qs.getD i cX)) (fun i=>(s.qs.getD i cX).why) s.qs.length (OY s.aq (s.ak.length+1) s.qs) (vQ (s.ak++[e])) (wQ (s.bq++[0])) (cm (bB s.cs++[(bB s.cs).length])) fun i=>s.sn<=i
 rw[hM,show(fun i=>uI s.aq (s.ak.length+1) (s.qs.getD i cX))=fun i=>uI s.aq s.ak.length (s.qs.getD i cX)from funext hq]
 refine h.si.wide (S':=kD s.aq (s.bf++[l]) (s.ak.length+1)) (Nat.le_succ _) hsh (fun i hi=>oD hi) (fun i hi=>oD (by have:i<s.ak.length:=hi;omega)) (fun i h1 h2=> ?_) fun i k hi hk he=> ?_
 .have h1':s.ak.length<=i:=h1
  have h2':i<s.ak.length+1:=h2
  have e1:(kD s.aq (s.bf++[l]) (s.ak.length+1)).sh i=(s.aq.getD l.toNat pT).p.sh:=by
   show(s.aq.getD ((s.bf++[l]).getD i 0).toNat pT).p.sh=_
   rw[sW J]
  rw[e1]
  exact⟨hs,(sW J).trans he⟩
 have hi':i<s.ak.length+1:=hi
 have hk':k<s.ak.length+1:=hk
 have hc:∀j,j<s.ak.length->cm (bB s.cs++[(bB s.cs).length]) j=cm (bB s.cs) j/\cm (bB s.cs) j<=j:=fun j hj=>⟨oD J,(h.cl j J).1⟩
 have hd:cm (bB s.cs++[(bB s.cs).length]) s.ak.length=s.ak.length:=(sW J).trans J
 by_cases c1:i<s.ak.length<;>by_cases c2:k<s.ak.length
 .rw[(hc i c1).1,(hc k c2).1]at he
  exact .inr ⟨c1,c2,he⟩
 .have:k=s.ak.length:=J
  subst this
  rw[(hc i c1).1,hd]at he
  have:=(hc i c1).2;omega
 .have:i=s.ak.length:=J
  subst this
  rw[(hc k c2).1,hd]at he
  have:=(hc k c2).2;omega
 exact .inl J
theorem aex{qs:List dD}{q:dD}{k:Nat}:yj (qs++[q]) k=yj qs k++if(k:Int)∈q.vars then[(qs.length:Int)]else[]:=by
 unfold yj
 rw[ec,eA,xO,Rr,gV]
 congr 1
 .congr 1
  refine List.filter_congr fun i hi=> ?_
  rw[oD (qv.1 hi)]
 rw[B7,sW O]
 by_cases c:(k:Int)∈q.vars
 .rw[aX LP,aX c];rfl
 rw[aT LP,aT c];rfl
structure NJ(s:NP)(q:dD):Prop where
 bf:0<=q.bf/\q.bf<s.aq.length
 code:q.code.length<=1000
 fit:ZD (kD s.aq s.bf s.ak.length) (zy s.aq q) q.code q.to
 vars:q.vars=dB q.code
theorem NJ.vin{s:NP}{q:dD}(h:NJ s q):∀v∈q.vars,0<=v/\v<s.ak.length:=fun v hv=>by
 rw[h.vars]at hv
 obtain⟨x,hx,ho,h0,rfl⟩:=sU.1 hv
 have:x.n<(s.ak.length:Int):=(h.fit.var x hx ho).2.1
 exact⟨h0,this⟩
theorem NJ.nd{s:NP}{q:dD}(h:NJ s q):q.vars.Nodup:=by
 rw[h.vars]
 exact(Nr q.code).imp fun h=>by omega
theorem NJ.qok{s:NP}{q:dD}(h:NJ s q):QOk s.aq.length s.ak.length q:=by
 refine⟨h.bf,h.code,?_,fun hp=> ?_,h.vin⟩
 .by_cases c:q.to.var<0
  .omega
  have:q.to.var<(s.ak.length:Int):=(h.fit.to1 J).1
  exact this
 obtain⟨a,b,_,_⟩:=ED h.fit h.vars hp
 obtain⟨y,hy,ho,h0⟩:=G0 hp
 have:=h.fit.var y (by rw[hy];simp) ho
 refine⟨?_,a⟩
 rw[h.vars,hy];unfold dB;simp[ho,this.1,tM]
theorem anJ{qs:List dD}{k:Nat}:(yj qs k).length<=qs.length/\∀i∈yj qs k,0<=i/\i<(qs.length:Int):=by grind[CX,yj]
theorem ab7{s:NP}{q:dD}(hu:s.us=(List.range s.ak.length).map (yj s.qs))(hf:NJ s q):(BD s q).us=(List.range s.ak.length).map (yj (s.qs++[q])):=by
 have hl:s.us.length=s.ak.length:=by rw[hu];simp
 apply ug
 intro k
 show(q.vars.foldl (FM (s.qs.length:Int)) s.us)[k]?=_
 by_cases c:k<s.ak.length
 .have e1:=CV (i:=(s.qs.length:Int)) (u:=s.us) (k:=k) hf.nd fun v hv=>by have:=hf.vin v hv;omega
  have lk:k<(q.vars.foldl (FM (s.qs.length:Int)) s.us).length:=by rw[pV];omega
  rw[getD_eq lk]at e1
  rw[eF lk,e1,qu,zF c,qV,aex]
  congr 2
  rw[hu,eT,qu,zF c];rfl
 rw[og (by rw[pV];omega),og iY]
theorem Ea.add{s:NP}(h:Ea s)(hu:s.us=(List.range s.ak.length).map (yj s.qs)){q:dD}(hf:NJ s q)(hn:s.qs.length<1000):Ea (BD s q):=by
 have h2:=h.OX
 refine⟨h.T9,by show(q.vars.foldl _ s.us).length=_;rw[pV];exact h2,h.oy,h.QF,?_,by simp[BD];omega,fun p hp=> ?_,h.hlt,h.hlr,fun k hk=> ?_⟩
 .have:=h.Xm;simp[BD];omega
 .rcases e8.1 hp with c|c
  .exact h.hqo p c
  rw[gG.1 c];exact hf.qok
 have CH:k<s.us.length:=by have:k<(q.vars.foldl (FM (s.qs.length:Int)) s.us).length:=hk;rwa[pV]at this
 rw[ab7 hu hf,eT,qu,zF J,qV,Ry]
 have:=anJ (qs:=s.qs++[q]) (k:=k)
 rw[ec,eA]at this
 exact⟨J,fun i hi=>by have:=this.2 i hi;show 0<=i/\i<((s.qs++[q]).length:Int);rw[ec,eA];exact this⟩
theorem yW.add{s:NP}(h:yW s){q:dD}(hf:NJ s q)(hn:s.qs.length<1000):yW (BD s q):=by
 have hu:=ab7 h.us hf
 have e0:uI s.aq s.ak.length ((s.qs++[q]).getD s.qs.length cX)=uI s.aq s.ak.length q:=by rw[sW O]
 have e1:∀i,i<s.qs.length->(s.qs++[q]).getD i cX=s.qs.getD i cX:=fun i hi=>oD hi
 have hsub:∀a p,OY s.aq s.ak.length s.qs a p->OY s.aq s.ak.length (s.qs++[q]) a p:=fun a p ⟨i,hi,h1,h2⟩=>⟨i,by simp;omega,by rw[e1 i hi];exact h1,by rw[e1 i hi];exact h2⟩
 refine⟨h.ok.add h.us hf hn,fun p hp=> ?_,hu,h.cl,?_⟩
 .rcases e8.1 hp with c|c
  .exact h.fit p c
  rw[gG.1 c];exact⟨hf.fit,hf.vars⟩
 show mM (kD s.aq s.bf s.ak.length) (fun i=>uI s.aq s.ak.length ((s.qs++[q]).getD i cX)) (fun i=>((s.qs++[q]).getD i cX).why) (s.qs++[q]).length (OY s.aq s.ak.length (s.qs++[q])) (vQ s.ak) (wQ s.bq) (cm (bB s.cs)) fun i=>s.sn<=i
 have hl:(s.qs++[q]).length=s.qs.length+1:=aJ
 rw[hl]
 refine mM.more (h.si.congr fun i hi=>⟨by rw[e1 i hi],by rw[e1 i hi]⟩) ?_ ?_ ?_ hsub (fun a p ⟨i,hi,h1,h2⟩=>⟨i,by rw[hl]at hi;exact hi,h1⟩) h.si.why (by have:=h.ok.Xm;omega) fun i hi hp=>hp
 .show tL _ (uI s.aq s.ak.length ((s.qs++[q]).getD s.qs.length cX))
  rw[e0];exact aiJ hf.fit
 .show OY _ _ _ ((s.qs++[q]).getD s.qs.length cX).why (uI s.aq s.ak.length ((s.qs++[q]).getD s.qs.length cX))
  exact⟨s.qs.length,by rw[hl];omega,rfl,tC _⟩
 exact fun a b p hab ⟨i,hi,h1,h2⟩=>⟨i,hi,h1,mc h2 hab⟩
theorem yW.start{s:NP}(h1:s.bf=[])(h2:s.ak=[])(h3:s.bq=[])(h4:s.us=[])(h5:s.qs=[])(h6:s.sn=0)(h7:s.cs=[[]]):yW s:=by
 obtain⟨aq,bf,ak,bq,us,qs,sn,cs,sk,wy,wr⟩:=s
 simp only at h1 h2 h3 h4 h5 h6 h7
 subst h1;subst h2;subst h3;subst h4;subst h5;subst h6;subst h7
 refine⟨⟨rfl,rfl,rfl,aJ,aJ,aJ,(fun q hq=>by cases hq),rfl,(fun k hk=>by cases hk),fun k hk=>by cases hk⟩,(fun q hq=>by cases hq),rfl,(fun i hi=>by cases hi),?_⟩
 have hM:∀a q,¬OY aq 0 [] a q:=fun a q ⟨i,hi,_⟩=>by cases hi
 exact(mM.start (P:=fun i=>(0:Int)<=i) hM (fun i hi=>by cases hi) (fun i hi=>by cases hi)).ajp fun i k hi=>by cases hi
def wv(S:Sys)(Q:s4->Prop):Prop:=∃u,qj S u/\∀q,Q q->fp q u
theorem wv.sol{S:Sys}{Q:s4->Prop}{u:Va}(h:qj S u)(hq:∀q,Q q->fp q u):uU S Q u:=⟨h,fun q h1 _=>hq q h1⟩
theorem lE.aED{S:Sys}{Q:s4->Prop}{v:Va}(h:lE S Q v)(ho:∀q,Q q->tL S q):wv S Q↔∀q,Q q->q.to=none->fp q v:=by
 constructor
 .rintro⟨u,hu,hq⟩ q h1 h2
  exact Lj fun hn=>(h.low.apP (ho q h1) h2 hn) u (wv.sol hu hq) (hq q h1)
 intro hh
 refine⟨v,h.low.fit,fun q h1=> ?_⟩
 by_cases c:q.to=none
 .exact hh q h1 c
 exact h.sol q h1 c
theorem wv.less{S:Sys}{Q Q':s4->Prop}(h:wv S Q')(hq:∀q,Q q->Q' q):wv S Q:=by
 obtain⟨u,h1,h2⟩:=h
 exact⟨u,h1,fun q OZ=>h2 q (hq q OZ)⟩
def QN(s:NP):s4->Prop:=fun q=>∃i,i<s.qs.length/\q=uI s.aq s.ak.length (s.qs.getD i cX)
abbrev SN(s:NP):Sys:=kD s.aq s.bf s.ak.length
abbrev MN(s:NP):Qm:=OY s.aq s.ak.length s.qs
def aEE(s:NP)(c:yV)(cs:List (List Nat)):NP:=NP.mk s.aq s.bf c.ak c.bq s.us s.qs s.qs.length cs s.sk s.wy s.wr
theorem yW.settled{s:NP}(h:yW s){us:List j4}(yh:qh us=s.us){c:yV}(hj:JN s (bB (pD us s).cs) c)(hw:c.wl=[]):
  yW (aEE s c (pD us s).cs)/\lE (SN s) (QN s) (vQ c.ak)/\(∀q,QN s q->fp q (vQ c.ak))/\FI (SN s) (MN s) (vQ c.ak) (wQ c.bq):=by
 obtain⟨_,j1,j2,_⟩:=Tf h yh
 have si:=hj.si.aja (P':=fun _=>False) fun i hi q=>by
  rcases q with q|q
  .rw[hw]at q;cases q
  exact q
 have hv:c.ak.length=s.ak.length:=hj.ck.lv
 have hy:c.bq.length=s.ak.length:=hj.ck.ly
 have hk:=h.ok
 refine⟨⟨⟨hy.trans hv.symm,hk.OX.trans hv.symm,j2.trans hv.symm,by show c.ak.length<=1000;rw[hv];exact hk.QF,⟨Int.natCast_nonneg _,lY _⟩,hk.hqn,?_,hk.hlt.trans hv.symm,hk.hlr,hk.yh⟩,?_,?_,j1,?_⟩,si.done.1,fun q ⟨i,hi,e⟩=>e▸si.done.2 i hi,si.why⟩
 .show ZJ s.aq.length c.ak.length s.qs;rw[hv];exact hk.hqo
 .show Wb s.aq s.bf c.ak.length s.qs;rw[hv];exact h.fit
 .show s.us=(List.range c.ak.length).map (yj s.qs);rw[hv];exact h.us
 show mM (kD s.aq s.bf c.ak.length) (fun i=>uI s.aq c.ak.length (s.qs.getD i cX)) (fun i=>(s.qs.getD i cX).why) s.qs.length (OY s.aq c.ak.length s.qs) (vQ c.ak) (wQ c.bq) (cm (bB (pD us s).cs)) fun i=>(s.qs.length:Int)<=i
 rw[hv]
 exact si.aja fun i hi q=>q.elim
theorem yW.stuck{s:NP}(h:yW s){us:List j4}(yh:qh us=s.us){c:yV}(hj:JN s (bB (pD us s).cs) c){wy Ua:BitVec 64}(hr:SpR (bB (pD us s).cs) us s.aq s.qs c false wy Ua):¬wv (SN s) (QN s)/\¬wv (SN s) (MN s Ua):=by
 rcases hr with⟨q,_⟩|⟨_,x,wl,hw,hl,hy⟩
 .cases q
 obtain⟨ak,bq,cwl,wi⟩:=c
 simp only at hw hl hy
 subst hw
 obtain⟨hx,ck⟩:=hj.ck.take
 have U0:x.toNat<s.qs.length:=J
 obtain⟨hf,hvs⟩:=h.fit _ (dy (d:=cX) hx.1 hx.2)
 have lv:ak.length=s.ak.length:=hj.ck.lv
 have si:=hj.si
 simp only at si
 have key:(s.qs.getD x.toNat cX).to.var<0/\¬fp (uI s.aq s.ak.length (s.qs.getD x.toNat cX)) (vQ ak)/\Ua=O9 (s.qs.getD x.toNat cX).why (wQ bq) (uI s.aq s.ak.length (s.qs.getD x.toNat cX)).vars:=by
  rw[G1 hvs,<-Tb,Tc lv]
  generalize s.qs.getD x.toNat cX=q at*
  unfold n8 at hl hy
  split at hl
  .cases hl
  rename_i c1
  rw[aT c1]at hy
  split at hl
  .rename_i c2
   rw[aX c2]at hy
   split at hl
   .cases hl
   rename_i c3
   rw[aT c3]at hy
   exact⟨c2,by rw[aX c2];exact c3,hy⟩
  split at hl
  .cases hl
  .cases hl
 obtain⟨k1,k2,k3⟩:=key
 have hto:(uI s.aq s.ak.length (s.qs.getD x.toNat cX)).to=none:=by rw[apU,aX k1]
 obtain⟨s1,s2⟩:=si.stuck U0 hto k2
 have hmem:=(si.ok x.toNat U0).2
 rw[<-k3]at s2
 refine⟨fun⟨u,h1,h2⟩=>s1 u (wv.sol h1 h2) (h2 _ ⟨_,U0,rfl⟩),fun⟨u,h1,h2⟩=>s2 u (wv.sol h1 h2) (h2 _ ?_)⟩
 rw[k3]
 exact si.mok _ _ _ (GR _ _ _).1 hmem
def yl(s:lM)(v:List El):Va:=fun i=>if(s.vars.getD i fq).kind=1 then v.getD i dg else gJ (iv s (s.vars.getD i fq).bf) ew
def F9(s:lM)(x:iO):s4:=CP s.vars.length (iv s x.bf) x.code x.to
def QP(s:lM)(l:List iO):s4->Prop:=fun q=>∃x∈l,x.op=8/\q=F9 s x
section
variable{s:lM}{l:List iO}{v:List El}{x:iO}
theorem D1(h:kO s x=true)(ho:x.op=8):(0<=x.bf/\x.bf<s.aq.length)/\codeOk s x.bf x.code=true/\mh s x.bf x.to=true:=by grind[kO]
theorem ab8{v kd bf:Int}(h:rf s v kd bf=true):(0<=v/\v<s.vars.length)/\(s.vars.getD v.toNat fq).kind=kd/\(s.vars.getD v.toNat fq).bf=bf:=by grind[rf]
theorem anK(h:codeOk s x.bf x.code=true){y:dV}(hy:y∈x.code)(ho:y.op=1):(0<=y.n/\y.n<s.vars.length)/\(s.vars.getD y.n.toNat fq).kind=1:=by
 simp only[codeOk,cM]at h
 have h2:=iR.1 h.1 y hy
 simp only[vY,cM,qa,B6,wW]at h2
 have:=ab8 (h2.1.resolve_left fun q=>q ho)
 exact⟨this.1,this.2.1⟩
theorem ajs(h:kO s x=true)(ho:x.op=8):tL (iA s) (F9 s x):=by
 obtain⟨h1,h2,h3⟩:=D1 h ho
 exact aiJ (asN h2 h3)
theorem ZR(h:kO s x=true)(ho:x.op=8)(hv:v.length=s.vars.length):(F9 s x).ev (yl s v)=(ey (iv s x.bf) x.code v).1:=by
 obtain⟨h1,h2,h3⟩:=D1 h ho
 show(ey _ _ ((List.range s.vars.length).map (yl s v))).1=_
 congr 1
 refine JL fun y hy hp=> ?_
 obtain⟨⟨a,b⟩,c⟩:=anK h2 hy hp
 refine⟨a,by simp;omega,J,?_⟩
 rw[qG J]
 unfold yl
 rw[aX c]
theorem Tg(h:kO s x=true)(ho:x.op=8)(ht:0<=x.to.var):x.to.var<s.vars.length/\(F9 s x).to=some x.to.var.toNat/\yl s v x.to.var.toNat=v.getD x.to.var.toNat dg/\(s.vars.getD x.to.var.toNat fq).kind=1:=by
 obtain⟨h1,h2,h3⟩:=D1 h ho
 rw[mh,aT J]at h3
 obtain⟨a,b,c⟩:=ab8 h3
 refine⟨a.2,?_,by unfold yl;rw[aX b],b⟩
 show(if x.to.var<0 then none else some x.to.var.toNat)=_
 rw[aT J]
theorem as1(h:kO s x=true)(ho:x.op=8)(ht:0<=x.to.var)(hv:v.length=s.vars.length):fp (F9 s x) (yl s v)↔cS (ey (iv s x.bf) x.code v).1 (v.getD x.to.var.toNat dg)=true:=by
 obtain⟨_,h2,h3,_⟩:=Tg (v:=v) h ho ht
 unfold fp s4.rhs
 rw[ZR h ho hv,h2]
 simp only
 rw[h3]
theorem ZS(h:kO s x=true)(ho:x.op=8)(ht:x.to.var<0)(hv:v.length=s.vars.length):(F9 s x).to=none/\(fp (F9 s x) (yl s v)↔cS (ey (iv s x.bf) x.code v).1 x.to.c=true):=by
 have h2:(F9 s x).to=none:=by
  show(if x.to.var<0 then none else some x.to.var.toNat)=_
  rw[aX ht]
 refine⟨h2,?_⟩
 unfold fp s4.rhs
 rw[ZR h ho hv,h2];exact Cg
structure Pb(s:lM)(l:List iO)(v:List El):Prop where
 len:v.length=s.vars.length
 low:CO (iA s) (QP s l) (yl s v)
theorem yX(h:jc s=true):(s.aq.length<=16/\s.vars.length<=64)/\(∀x∈s.aq,mA x.zx.sh=true)/\∀v∈s.vars,(v.kind=1\/v.kind=2)/\0<=v.bf/\v.bf<s.aq.length:=by grind[jc,MZ,LM]
theorem as2(h:jc s=true):∀i,i<(iA s).n->mA ((iA s).sh i)=true:=by grind[jc,iA,mA,yX,fq,getD_eq,iv,dy]
theorem Pb.start(h:jc s=true):Pb s l (MW s.sc).labels:=by
 refine⟨by show(s.vars.map (Ad s.sc)).length=_;simp,abU (as2 h) fun i hi=> ?_⟩
 have hi':i<s.vars.length:=hi
 obtain⟨_,h2,h3⟩:=yX h
 have hv:=h3 (s.vars.getD i fq) (by rw[getD_eq hi'];exact r8 hi')
 show yl s (s.vars.map (Ad s.sc)) i=gJ (iv s (s.vars.getD i fq).bf) ew
 unfold yl
 by_cases c:(s.vars.getD i fq).kind=1
 .rw[aX c,eT,qu,eF hi']
  rw[getD_eq hi']at c hv⊢
  show Ad s.sc s.vars[i]=_
  unfold Ad
  rw[aX ⟨c,hv.2.1,by show _<((s.aq.map fun l=>l.zx.sh).length:Int);rw[gF];exact hv.2.2⟩]
  congr 1
  show(s.aq.map fun l=>l.zx.sh).getD _ _=(s.aq.getD _ mJ).zx.sh
  have:(s.vars[i]).bf.toNat<s.aq.length:=by have:=hv.2;omega
  rw[eT,qu,eF this,eT,eF this];rfl
 rw[aT c]
def aey(s:lM)(v:List El):Nat:=(pA (iA s) (fun _=>1) (yl s v) s.vars.length).toNat
theorem ajt{k:Nat}{e:El}(hk:k<v.length)(hc:(s.vars.getD k fq).kind=1):yl s (v.set k e)=GQ (yl s v) k e:=by
 funext i
 show(if(s.vars.getD i fq).kind=1 then(v.set k e).getD i dg else gJ (iv s (s.vars.getD i fq).bf) ew)=if i=k then e else if(s.vars.getD i fq).kind=1 then v.getD i dg else gJ (iv s (s.vars.getD i fq).bf) ew
 by_cases c:i=k
 .subst c
  rw[aX hc,aX O,eT,p9,aX O,aX hk];rfl
 rw[aT c]
 by_cases d:(s.vars.getD i fq).kind=1
 .rw[aX d,aX d,eT,p9,aT fun q=>c q.symm,<-eT]
 rw[aT d,aT d]
theorem Pb.raise(h:Pb s l v)(hm:x∈l)(ha:kO s x=true)(ho:x.op=8)(ht:0<=x.to.var)(hn:¬cS (ey (iv s x.bf) x.code v).1 (v.getD x.to.var.toNat dg)=true):
  Pb s l (v.set x.to.var.toNat (eo (iv s x.bf) (v.getD x.to.var.toNat dg) (ey (iv s x.bf) x.code v).1))/\aey s (v.set x.to.var.toNat (eo (iv s x.bf) (v.getD x.to.var.toNat dg) (ey (iv s x.bf) x.code v).1))<aey s v:=by
 obtain⟨t1,t2,t3,t4⟩:=Tg (v:=v) ha ho ht
 have hk:x.to.var.toNat<v.length:=by have:=h.len;omega
 have io:=ajs ha ho
 have e1:=ZR (v:=v) ha ho h.len
 have es:=ajt (e:=eo (iv s x.bf) (v.getD x.to.var.toNat dg) (ey (iv s x.bf) x.code v).1) hk t4
 have hl:=h.low.raise ⟨x,hm,ho,rfl⟩ io t2
 rw[e1,t3]at hl
 have hks:=io.to _ t2
 have fk:=h.low.fit _ hks.1
 rw[hks.2,t3]at fk
 have fe:=io.fit _ h.low.fit
 rw[e1]at fe
 have fj:=IJ fk fe
 have up:=YV fk fe
 have hp:=Qz (S:=iA s) (U:=fun _=>1) (v:=yl s v) (k:=x.to.var.toNat) (e:=eo (iv s x.bf) (v.getD x.to.var.toNat dg) (ey (iv s x.bf) x.code v).1) h.low.fit hks.1 (by rw[hks.2];exact fj) (by rw[t3];exact up.1) fun q=>hn (by
  rw[t3]at q
  exact fG up.2 (lf q))
 refine⟨⟨by rw[nY];exact h.len,by rw[es];exact hl⟩,?_⟩
 have h0:=K6 (U:=fun _=>1) hl.fit s.vars.length (fh _)
 unfold aey
 rw[es]
 have Qj:(iA s).n=s.vars.length:=rfl
 have ej:(F9 s x).sh=iv s x.bf:=rfl
 rw[ej]at h0
 rw[Qj]at hp
 omega
theorem Pb.done(h:Pb s l v)(ha:∀x∈l,kO s x=true)(hh:∀x∈l,x.op=8->0<=x.to.var->cS (ey (iv s x.bf) x.code v).1 (v.getD x.to.var.toNat dg)=true):lE (iA s) (QP s l) (yl s v):=by
 refine⟨h.low,?_⟩
 rintro q ⟨x,hx,ho,rfl⟩ hq
 by_cases c:0<=x.to.var
 .exact(as1 (ha x hx) ho c h.len).2 (hh x hx ho c)
 exact absurd (ZS (ha x hx) ho J h.len).1 hq
theorem NK(h:lE (iA s) (QP s l) (yl s v))(hl:v.length=s.vars.length)(ha:∀x∈l,kO s x=true):wv (iA s) (QP s l)↔∀x∈l,x.op=8->x.to.var<0->cS (ey (iv s x.bf) x.code v).1 x.to.c=true:=by
 rw[h.aED fun q ⟨x,hx,ho,e⟩=>e▸ajs (ha x hx) ho]
 constructor
 .intro hh x hx ho ht
  obtain⟨h1,h2⟩:=ZS (ha x hx) ho ht hl
  exact h2.1 (hh _ ⟨x,hx,ho,rfl⟩ h1)
 rintro hh q ⟨x,hx,ho,rfl⟩ hq
 by_cases c:0<=x.to.var
 .rw[(Tg (v:=v) (ha x hx) ho c).2.1]at hq;cases hq
 exact(ZS (ha x hx) ho J hl).2.2 (hh x hx ho J)
theorem Ax{p:n7}(h:kS p=true):jc p.s=true/\∀x∈p.aY,kO p.s x=true:=by grind[kS]
theorem anL{K:Vu}{u:Value}{l:List El}{k m:Nat}{e:El}(h:oR K u 8 m (qM (l.flatMap pJ) (k*8) (pJ e)))(hk:k<l.length)(hm:m=l.length):oR K u 8 (l.set k e).length ((l.set k e).flatMap pJ):=by simp_all[DW,cY]
end
structure yY(s:NP):Prop where
 ns:yW s
 lw:∀x∈s.aq,mA x.p.sh=true/\x.low=gJ x.p.sh ew
 nv:s.ak.length<=128
 nq:s.qs.length<=64
 wy:s.sk=false->s.wy=0
theorem ab9{α:Type}{F:α->Int}{b:Int}:∀{l:List α},(∀x∈l,F x<=b)->(l.map F).sum<=b*l.length
 |[],_=>by simp
 |a::l,h=>by
  have h1:=h a aJ
  have h2:=ab9 (l:=l) fun x hx=>h x (fX _ hx)
  rw[lT,E8,fw,show((l.length+1:Nat):Int)=(l.length:Int)+1 by omega,Int.mul_add,Int.mul_one]
  omega
theorem yY.mu{s:NP}(h:yY s):muM s<=4200000:=by
 have hq:∀q∈s.qs,gK (zy s.aq q)*(q.vars.length:Int)<=65536:=fun q hq=>by
  have hl:=h.ns.ok.hqo q hq
  have hs:mA (zy s.aq q)=true:=(h.lw _ (dy hl.bf.1 hl.bf.2)).1
  have h1:0<=gK (zy s.aq q)/\gK (zy s.aq q)<=512:=by
   rw[gK,aX hs];exact ams hs J J
  have h2:q.vars.length<=s.ak.length:=by
   have hn:(q.vars.map Int.toNat).Nodup:=by
    have e:q.vars.Nodup:=by rw[(h.ns.fit q hq).2];exact V9 q.code
    refine List.Pairwise.map _ ?_ (afA (S:=fun a b=>a.toNat≠b.toNat) ?_ e)
    .exact fun a b q=>q
    intro a b ha hb hab c
    have:=hl.vars a ha;have:=hl.vars b hb
    exact hab J
   have h3:(q.vars.map Int.toNat).length<=(List.range s.ak.length).length:=hn.length_le_of_subset fun x hx=>by
    obtain⟨a,ha,rfl⟩:=fZ.1 hx
    have:=hl.vars a ha
    exact qv.2 J
   simpa using h3
  have h4:=h.nv
  have h5:gK (zy s.aq q)*(q.vars.length:Int)<=512*128:=Int.mul_le_mul h1.2 J J J
  omega
 have h1:=ab9 hq
 have h2:=h.nq
 unfold muM
 omega
structure as3(s s':NP)(ok:Bool):Prop where
 net:yY s'
 aq:s'.aq=s.aq
 bf:s'.bf=s.bf
 qs:s'.qs=s.qs
 len:s'.ak.length=s.ak.length
 sk:s'.sk= !ok
 wr:s'.wr=s.wr
 yes:ok=true->lE (SN s) (QN s) (vQ s'.ak)/\(∀q,QN s q->fp q (vQ s'.ak))/\FI (SN s) (MN s) (vQ s'.ak) (wQ s'.bq)
 no:ok=false->s'.ak=s.ak/\s'.bq=s.bq/\¬wv (SN s) (QN s)/\¬wv (SN s) (MN s s'.wy)
theorem yW.skw{s:NP}(h:yW s)(b:Bool)(y:BitVec 64):yW {s with sk:=b,wy:=y}:=⟨⟨h.ok.T9,h.ok.OX,h.ok.oy,h.ok.QF,h.ok.Xm,h.ok.hqn,h.ok.hqo,h.ok.hlt,h.ok.hlr,h.ok.yh⟩,h.fit,h.us,h.cl,h.si⟩
theorem as4{s:NP}(h:yY s)(hk:s.sk=false){us:List j4}(yh:qh us=s.us){c:yV}{ok:Bool}{Ua:BitVec 64}(hr:SpR (bB (pD us s).cs) us s.aq s.qs c ok s.wy Ua)(hj:JN s (bB (pD us s).cs) c):
  as3 s (if ok then(NP.mk s.aq s.bf c.ak c.bq s.us s.qs s.qs.length (pD us s).cs s.sk s.wy s.wr)else{s with sk:=true,wy:=Ua}) ok:=by
 cases ok with
 |true=>
  rcases hr with⟨_,hw,_⟩|⟨q,_⟩
  .obtain⟨h1,h2,h3,h4⟩:=h.ns.settled yh hj hw
   have hv:c.ak.length=s.ak.length:=hj.ck.lv
   exact⟨⟨h1,h.lw,by show c.ak.length<=128;rw[hv];exact h.nv,h.nq,h.wy⟩,rfl,rfl,rfl,hv,hk,rfl,fun _=>⟨h2,h3,h4⟩,fun q=>by cases q⟩
  .cases q
 |false=>
  obtain⟨h1,h2⟩:=h.ns.stuck yh hj hr
  exact⟨⟨h.ns.skw true Ua,h.lw,h.nv,h.nq,fun q=>by cases q⟩,rfl,rfl,rfl,rfl,rfl,rfl,fun q=>(by cases q),fun _=>⟨rfl,rfl,h1,h2⟩⟩
theorem aez{s:NP}(h:yY s){us:List j4}(yh:qh us=s.us):∀dc eK Kh mX x,JN s (bB (pD us s).cs) ⟨dc,eK,x::Kh,mX⟩->∀r,n8 (bB (pD us s).cs) us (zy s.aq (s.qs.getD x.toNat cX)) (s.qs.getD x.toNat cX) dc eK Kh (mX.set x.toNat false) s.wy=r->r.ok=true->JN s (bB (pD us s).cs) ⟨r.ak,r.bq,r.wl,r.wi⟩/\muN s.aq s.bf s.ak.length s.qs ⟨r.ak,r.bq,r.wl,r.wi⟩<muN s.aq s.bf s.ak.length s.qs ⟨dc,eK,x::Kh,mX⟩:=fun dc eK Kh mX x hj r hr hok=>by
 obtain⟨_,_,hl,_⟩:=Tf h.ns yh
 exact hj.look h.ns.fit (Pa.of (yh.trans h.ns.us)) hl hr hok
theorem yY.var{s:NP}(h:yY s){l:Int}(hl:0<=l/\l<s.aq.length)(hn:s.ak.length<128):yY (qP s l (s.aq.getD l.toNat pT).low):=by
 have hx:=h.lw _ (dy (d:=pT) hl.1 hl.2)
 exact⟨h.ns.var hl hx.1 hx.2 J,h.lw,by simp[qP];omega,h.nq,h.wy⟩
theorem yY.add{s:NP}(h:yY s){q:dD}(hf:NJ s q)(hn:s.qs.length<64):yY (BD s q):=⟨h.ns.add hf J,h.lw,h.nv,by simp[BD];omega,h.wy⟩
structure tQ(p:lM)(s:NP):Prop where
 lt:s.aq.map (fun x=>x.p.sh)=p.aq.map fun l=>l.zx.sh
 la:s.bf=p.vars.map vO.bf
 nv:s.ak.length=p.vars.length
section
variable{p:lM}{s s':NP}{l:List iO}{x:iO}
theorem tQ.sh(h:tQ p s)(k:Nat):(s.aq.getD k pT).p.sh=(p.aq.getD k mJ).zx.sh:=by
 have e:=aK (fun m:List Sh=>m.getD k D2.sh) h.lt
 simp only[eT,qu]at e⊢
 cases h1:s.aq[k]?<;>cases h2:p.aq[k]?<;>simp only[h1,h2,Option.map_none,qV,Option.getD_none,Ry]at e⊢<;>first|rfl|exact e
theorem tQ.len(h:tQ p s):s.aq.length=p.aq.length:=by have:=aK List.length h.lt;simpa using this
theorem tQ.bf(h:tQ p s)(i:Nat):s.bf.getD i 0=(p.vars.getD i fq).bf:=by grind[tQ,fq]
theorem tQ.sys(h:tQ p s):SN s=iA p:=by
 show(⟨s.ak.length,fun i=>(s.aq.getD (s.bf.getD i 0).toNat pT).p.sh⟩:Sys)=⟨p.vars.length,fun i=>(p.aq.getD (p.vars.getD i fq).bf.toNat mJ).zx.sh⟩
 rw[h.nv]
 congr 1
 funext i
 rw[h.bf,h.sh]
theorem tQ.same(h:tQ p s)(h1:s'.aq=s.aq)(h2:s'.bf=s.bf)(h3:s'.ak.length=s.ak.length):tQ p s':=by grind[tQ]
theorem tQ.of(h:tQ p s)(hl:s.bf.length=s.ak.length)(v k:Int):ofB s.bf v k=true↔(0<=v/\v<p.vars.length)/\(p.vars.getD v.toNat fq).bf=k:=by grind[tQ,ofB,fq]
theorem tQ.fit(h:tQ p s)(hl:s.bf.length=s.ak.length)(ha:kO p x=true)(ho:x.op=8):wP s.aq s.bf x.bf x.code x.to=true:=by
 obtain⟨h1,h2,h3⟩:=D1 ha ho
 have e:=h.sh x.bf.toNat
 simp only[codeOk,cM]at h2
 rw[Nz (q:=x.code.length) (by rw[h.len];exact h1) h2.2 J fun j a b=> ?_]
 .unfold Nx
  unfold mh at h3
  by_cases c:x.to.var<0
  .rw[aX c]at h3⊢
   show cJ (s.aq.getD x.bf.toNat pT).p.sh _=true
   rw[e];exact h3
  rw[aT c]at h3⊢
  have:=ab8 h3
  exact(h.of hl _ _).2 ⟨this.1,this.2.2⟩
 have hi:=iR.1 h2.1 _ (dy (d:=bG) a b)
 simp only[vY,cM,qa,B6,wW]at hi
 refine CU ?_ ?_
 .rcases hi.1 with q|q
  .exact .inl q
  have:=ab8 q
  have:=(h.of hl _ _).2 ⟨this.1,this.2.2⟩
  simp only[ofB,eD]at this
  exact .inr this
 rcases hi.2 with q|q
 .exact .inl q
 refine .inr ?_
 show cJ (s.aq.getD x.bf.toNat pT).p.sh _=true
 rw[e];exact q
end
theorem anN{s:NP}(hok:Ea s){k:Int}{l:List dV}{t:iT}(h:wP s.aq s.bf k l t=true)(hl:l.length<=1000)(cv vv:Value)(y:BitVec 64):NJ s ⟨k,cv,l,t,y,vv,dB l⟩:=by
 simp only[wP,cM,eD]at h
 obtain⟨⟨h1,h2⟩,h3,h4⟩:=h
 have of_:∀v,ofB s.bf v k=true->0<=v/\v<(s.ak.length:Int)/\(kD s.aq s.bf s.ak.length).sh v.toNat=shL s.aq k:=fun v hv=>by
  simp only[ofB,eD]at hv
  refine⟨hv.1,by have:=hok.hlt;omega,?_⟩
  show(s.aq.getD (s.bf.getD v.toNat 0).toNat pT).p.sh=_
  rw[hv.2.2];rfl
 refine⟨h1,hl,⟨h2,fun x hx ho=> ?_,fun x hx ho=> ?_,fun h0=> ?_,fun h0=> ?_⟩,rfl⟩
 .have hi:=iR.1 h3 x hx
  simp only[FL,cM,qa,B6,wW]at hi
  exact of_ _ (hi.1.resolve_left fun q=>q ho)
 .have hi:=iR.1 h3 x hx
  simp only[FL,cM,qa,B6,wW]at hi
  exact hi.2.resolve_left fun q=>q ho
 .rw[Nx,aX h0]at h4;exact h4
 have h0':¬t.var<0:=by have:0<=t.var:=h0;omega
 rw[Nx,aT h0']at h4
 have:=of_ _ h4
 exact⟨this.2.1,this.2.2⟩
def NL(i:Nat)(x:iO):Int×List dV×iT×BitVec 64:=(x.bf,x.code,x.to,(1#64)<<<i)
def I6(q:dD):Int×List dV×iT×BitVec 64:=(q.bf,q.code,q.to,q.why)
def Bh(l:List iO)(k:Nat):List (Int×List dV×iT×BitVec 64):=((List.range k).filter fun i=>decide ((l.getD i dQ).op=8)).map fun i=>NL i (l.getD i dQ)
theorem QJ{l:List iO}{k:Nat}:Bh l (k+1)=Bh l k++if(l.getD k dQ).op=8 then[NL k (l.getD k dQ)]else[]:=by grind[Bh,List.range_succ,dQ]
section
variable{p:lM}{s:NP}{l:List iO}{k:Nat}
theorem axE(h:tQ p s)(hq:s.qs.map I6=Bh l k)(hk:k<=l.length):QN s=QP p (l.take k):=by
 funext q
 refine propext ⟨fun⟨i,hi,e⟩=> ?_,fun⟨x,hx,ho,e⟩=> ?_⟩
 .have hm:I6 (s.qs.getD i cX)∈Bh l k:=by rw[<-hq,getD_eq hi];exact fZ.2 ⟨_,r8 hi,rfl⟩
  obtain⟨j,hj,e2⟩:=fZ.1 hm
  simp only[xP,qv,eD]at hj
  refine⟨l.getD j dQ,?_,hj.2,?_⟩
  .rw[getD_eq J]
   exact HF.2 ⟨j,J,rfl⟩
  rw[e]
  simp only[NL,I6,Yg]at e2
  obtain⟨a,b,c,_⟩:=e2
  unfold uI zy F9 iv
  rw[h.nv,h.sh,<-a,<-b,<-c]
 obtain⟨j,hj,e1⟩:=HF.1 hx
 have hj2:j<k/\j<l.length:=J
 have hm:NL j x∈Bh l k:=fZ.2 ⟨j,by simp only[xP,qv,eD];exact⟨hj2.1,by rw[getD_eq hj2.2,e1];exact ho⟩,by rw[getD_eq hj2.2,e1]⟩
 rw[<-hq]at hm
 obtain⟨r,hr,e2⟩:=fZ.1 hm
 obtain⟨i,hi,e3⟩:=vc.1 hr
 refine⟨i,hi,?_⟩
 rw[e,getD_eq hi,e3]
 simp only[NL,I6,Yg]at e2
 obtain⟨a,b,c,_⟩:=e2
 unfold uI zy F9 iv
 rw[h.nv,h.sh,a,b,c]
end
theorem as5{cs:List (List Nat)}{us Vn:List j4}{aq:List pP}{bf:List Int}{qs:List dD}{sn:Int}{n:Nat}{c:yV}:(sV cs us aq bf qs sn n c).cs=(sV cs Vn aq bf qs sn n c).cs:=by grind[sV]
def usB(s:NP):List j4:=s.us.map fun l=>⟨.slice none 0 0,l⟩
abbrev JB(s:NP):yV->Prop:=JN s (bB (pD (usB s) s).cs)
abbrev muB(s:NP):yV->Nat:=muN s.aq s.bf s.ak.length s.qs
theorem acd{s:NP}{us:List j4}:(pD us s).cs=(pD (usB s) s).cs:=as5
theorem axF{s:NP}(h:yY s):∀us:List j4,qh us=s.us->JB s (V3 (pD us s).s s.sn s.qs.length)/\muB s (V3 (pD us s).s s.sn s.qs.length)<=muM s/\∀dc eK Kh mX x,JB s ⟨dc,eK,x::Kh,mX⟩->∀r,n8 (bB (pD us s).cs) us (s.aq.getD (s.qs.getD x.toNat cX).bf.toNat pT).p.sh (s.qs.getD x.toNat cX) dc eK Kh (mX.set x.toNat false) s.wy=r->r.ok=true->JB s ⟨r.ak,r.bq,r.wl,r.wi⟩/\muB s ⟨r.ak,r.bq,r.wl,r.wi⟩<muB s ⟨dc,eK,x::Kh,mX⟩:=fun us yh=>by
 have hs:=Wg h.ns yh
 have hl:=aez h yh
 unfold JB
 rw[<-acd (us:=us)]
 exact⟨hs.1,hs.2,hl⟩
theorem aju{s:NP}(h:yY s){us:List j4}(yh:qh us=s.us){c:yV}{ok:Bool}{Ua:BitVec 64}{a:Nat}(hr:SpR (bB (pD us s).cs) us s.aq s.qs c ok s.wy Ua)(ha:a+muB s c<=muB s (V3 (pD us s).s s.sn s.qs.length)+(if ok then 0 else 1)):a<=muM s:=by
 have hm:=(Wg h.ns yh).2
 rcases hr with⟨e,_⟩|⟨e,x,wl,hw,_⟩
 .subst e;simp only[ur]at ha;unfold muB at ha;omega
 subst e
 have:1<=muB s c:=by unfold muB muN;rw[hw];simp only[fw];omega
 simp only[uB,xU]at ha
 unfold muB at ha this;omega
theorem Ni{ids:List Nat}{tl QK:List (Nat×Rl)}:∀{d:Wr},d.Fp ids tl->d.Fp ids (tl++QK)
 | .base p tb,h=>⟨h.1,fun i hi q hq=>dL _ (h.2 i hi q hq)⟩
 | .wrap m d,h=>⟨h.1,Ni h.2⟩
theorem Xo.more{T:OW}{K:Vu}{ids:List Nat}{tl QK:List (Nat×Rl)}{x:pP}(h:Xo T K ids tl x):Xo T K ids (tl++QK) x:=⟨h.ops,Ni h.Fp,h.sh,h.zx,h.dep⟩
theorem ajv{p:lM}(h:jc p=true):∀l∈p.aq,l.zx.aZ.length<=1000/\∀f∈l.zx.aZ,f.names.length<=1000:=fun l hl=>by
 have hs:=n4 ((yX h).2.1 l hl)
 refine⟨by have:=pw l.zx;omega,fun f hf=> ?_⟩
 have:=(pG (hs.2.2 f.fc (fZ.2 ⟨f,hf,rfl⟩))).1.2
 have e:f.fc.names=f.names:=rfl
 rw[e]at this;omega
structure Ki(p:lM)(x:Value)(j:Nat)(s:NP):Prop where
 lt:s.aq.map (fun x=>x.p.sh)=p.aq.map fun l=>l.zx.sh
 la:s.bf=(p.vars.take j).map vO.bf
 nv:s.ak.length=j
 nw:yY s
 qs:s.qs=[]
 sk:s.sk=false
 wr:s.wr=x
structure NM(p:lM)(j:Nat)(ls:List pP):Prop where
 lt:ls.map (fun x=>x.p.sh)=(p.aq.take j).map fun l=>l.zx.sh
 lw:∀x∈ls,mA x.p.sh=true/\x.low=gJ x.p.sh ew
def npL(ls:List pP)(x:Value):NP:=NP.mk ls [] [] [] [] [] 0 [[]] false 0 x
theorem NM.len{p:lM}{j:Nat}{ls:List pP}(h:NM p j ls)(hj:j<=p.aq.length):ls.length=j:=by
 have:=aK List.length h.lt
 rw[gF,gF,dW]at this;omega
theorem NM.next{p:lM}{k:Int}{ls:List pP}(h:NM p k.toNat ls)(h0:0<=k)(h1:k<p.aq.length){x:pP}(hs:mA (p.aq.getD k.toNat mJ).zx.sh=true)(hx:x.p.sh=(p.aq.getD k.toNat mJ).zx.sh)(hw:x.low=gJ (p.aq.getD k.toNat mJ).zx.sh ew):NM p (k+1).toNat (ls++[x]):=by
 have hk:k.toNat<p.aq.length:=J
 refine⟨?_,fun y hy=> ?_⟩
 .rw[show(k+1).toNat=k.toNat+1 by omega,EZ hk,gV,gV,h.lt]
  simp only[lT,Cc]
  rw[hx,getD_eq hk]
 rcases e8.1 hy with q|q
 .exact h.lw y q
 rw[gG.1 q,hx];exact⟨hs,hw⟩
theorem NM.fin{p:lM}{k:Int}{ls:List pP}{x:Value}(h:NM p k.toNat ls)(h0:0<=k)(h1:¬k<p.aq.length):Ki p x 0 (npL ls x):=
 ⟨by show ls.map _=_;rw[h.lt,jm J],by simp[npL],rfl,⟨yW.start O O O O O O O,h.lw,by simp[npL],by simp[npL],fun _=>rfl⟩,rfl,rfl,rfl⟩
theorem Ki.next{p:lM}{x:Value}{j:Int}{s:NP}(h:Ki p x j.toNat s)(h0:0<=j)(h1:j<p.vars.length)(hv:p.vars.length<=64)(hl:0<=(p.vars.getD j.toNat fq).bf/\(p.vars.getD j.toNat fq).bf<s.aq.length):Ki p x (j+1).toNat (qP s (p.vars.getD j.toNat fq).bf (s.aq.getD (p.vars.getD j.toNat fq).bf.toNat pT).low):=by
 have hk:j.toNat<p.vars.length:=J
 have hn:=h.nv
 refine⟨h.lt,?_,by simp[qP];omega,h.nw.var hl J,h.qs,h.sk,h.wr⟩
 rw[show(j+1).toNat=j.toNat+1 by omega,EZ hk,gV]
 show s.bf++[_]=_
 rw[h.la,getD_eq hk];rfl
theorem Ki.len{p:lM}{x:Value}{j:Nat}{s:NP}(h:Ki p x j s):s.aq.length=p.aq.length:=by have:=aK List.length h.lt;simpa using this
theorem Ki.fin{p:lM}{x:Value}{j:Int}{s:NP}(h:Ki p x j.toNat s)(h0:0<=j)(h2:j<=p.vars.length)(h1:¬j<p.vars.length):tQ p s:=by
 refine⟨h.lt,?_,by have:=h.nv;omega⟩
 rw[h.la,jm J]
structure axG(s s':NP)(ok:Bool):Prop where
 st:s.sk=true->ok=false/\s'=s
 go:s.sk=false->as3 s s' ok
def tmS(s:NP)(lg:List (Value×mw))(tm:List Int):List Int:=if s.sk then tm else tm++[(lg.length:Int)]
theorem axI{s:NP}{lg:List (Value×mw)}{tm:List Int}(h:s.sk=true):tmS s lg tm=tm:=by unfold tmS;rw[h];rfl
theorem axJ{s:NP}{lg:List (Value×mw)}{tm:List Int}(h:s.sk=false):tmS s lg tm=tm++[(lg.length:Int)]:=by unfold tmS;rw[h];rfl
def TmA(ok:Bool)(lg:List (Value×mw))(tm Ub:List Int):Prop:=Ub=if ok then tm++[(lg.length:Int)]else tm
structure Th(s s':NP)(k:Int)(l:List dV)(t:iT)(y:BitVec 64)(ok:Bool):Prop where
 is:ok=true↔s.sk=false/\wP s.aq s.bf k l t=true
 add:ok=true->∃cv vv,s'=BD s ⟨k,cv,l,t,y,vv,dB l⟩
 same:ok=false->s'=s
theorem Th.no{s:NP}{k:Int}{l:List dV}{t:iT}{y:BitVec 64}(h:¬(s.sk=false/\wP s.aq s.bf k l t=true)):Th s s k l t y false:=by grind[NP,dV,iT,wP,Th]
theorem Th.yes{s:NP}{k:Int}{l:List dV}{t:iT}{y:BitVec 64}{cv vv:Value}(h:s.sk=false)(h2:wP s.aq s.bf k l t=true):Th s (BD s ⟨k,cv,l,t,y,vv,dB l⟩) k l t y true:=⟨⟨fun _=>⟨h,h2⟩,fun _=>rfl⟩,fun _=>⟨_,_,rfl⟩,fun q=>by cases q⟩
structure Ti(s s':NP)(x:iO)(i:Nat)(ok:Bool):Prop where
 ne:x.op≠8->ok=true/\s'=s
 eq:x.op=8->Th s s' x.bf x.code x.to (1#64<<<i) ok
def TmX(op:Int)(ok:Bool)(lg:List (Value×mw))(tm Ub:List Int):Prop:=if op=8 then TmA ok lg tm Ub else Ub=tm
theorem TmX.no{op:Int}{ok:Bool}{lg:List (Value×mw)}{tm:List Int}(h:op≠8):TmX op ok lg tm tm:=by grind[TmX]
theorem TmX.yes{op:Int}{ok:Bool}{lg:List (Value×mw)}{tm Ub:List Int}(h:op=8)(h2:TmA ok lg tm Ub):TmX op ok lg tm Ub:=by grind[TmX]
theorem aEG{i:Int}(h:0<=i/\i<=1000):(1#64<<<(BitVec.ofInt 64 i).toNat)=1#64<<<i.toNat:=by grind
def QPm(p:lM)(l:List iO)(k:Nat)(a:BitVec 64):s4->Prop:=fun q=>∃j,j<k/\(l.getD j dQ).op=8/\q=F9 p (l.getD j dQ)/\eu (1#64<<<j) a=true
theorem axK{p:lM}{s:NP}{l:List iO}{k:Nat}(h:tQ p s)(hq:s.qs.map I6=Bh l k):MN s=QPm p l k:=by
 have key:∀r:dD,∀x:iO,I6 r=NL 0 x\/(∃j,I6 r=NL j x)->uI s.aq s.ak.length r=F9 p x:=fun r x e=>by
  have e2:r.bf=x.bf/\r.code=x.code/\r.to=x.to:=by
   rcases e with e|⟨j,e⟩<;>(simp only[NL,I6,Yg]at e;exact⟨e.1,e.2.1,e.2.2.1⟩)
  unfold uI zy F9 iv
  rw[h.nv,h.sh,e2.1,e2.2.1,e2.2.2]
 funext a q
 refine propext ⟨fun⟨i,hi,e,hs⟩=> ?_,fun⟨j,hj,ho,e,hs⟩=> ?_⟩
 .have hm:I6 (s.qs.getD i cX)∈Bh l k:=by rw[<-hq,getD_eq hi];exact fZ.2 ⟨_,r8 hi,rfl⟩
  obtain⟨j,hj,e2⟩:=fZ.1 hm
  simp only[xP,qv,eD]at hj
  refine⟨j,hj.1,hj.2,by rw[e];exact key _ _ (.inr ⟨j,e2.symm⟩),?_⟩
  have e3:=aK (fun z=>z.2.2.2) e2
  simp only[NL,I6]at e3
  rw[e3];exact hs
 have hm:NL j (l.getD j dQ)∈Bh l k:=fZ.2 ⟨j,by simp only[xP,qv,eD];exact⟨hj,ho⟩,rfl⟩
 rw[<-hq]at hm
 obtain⟨r,hr,e2⟩:=fZ.1 hm
 obtain⟨i,hi,e3⟩:=vc.1 hr
 refine⟨i,hi,?_,?_⟩
 .rw[e,getD_eq hi,e3];exact(key _ _ (.inr ⟨j,e2⟩)).symm
 rw[getD_eq hi,e3]
 have e4:=aK (fun z=>z.2.2.2) e2
 simp only[NL,I6]at e4
 rw[e4];exact hs
structure BF(p:lM)(l:List iO)(k:Nat)(s:NP):Prop where
 np:tQ p s
 nw:yY s
 qs:s.qs.map I6=Bh l k
theorem anP{l:List iO}{k:Nat}:(Bh l k).length<=k:=by grind[Bh]
section
variable{p:lM}{l:List iO}{k:Nat}{s s':NP}{ok:Bool}
theorem BF.start(h1:tQ p s)(h2:yY s)(h3:s.qs=[]):BF p l 0 s:=⟨h1,h2,by rw[h3];rfl⟩
theorem BF.add(h:BF p l k s)(hk:k<l.length)(h64:k<64)(ha:∀x∈l,kO p x=true)(hc:∀x∈l,x.code.length<=1000)(Es:s.sk=false)(hA:Ti s s' (l.getD k dQ) k ok):ok=true/\BF p l (k+1) s'/\s'.sk=false/\s'.wr=s.wr/\s'.aq=s.aq:=by
 have hm:l.getD k dQ∈l:=by rw[getD_eq hk];exact r8 hk
 by_cases ho:(l.getD k dQ).op=8
 .have hR:=hA.eq ho
  have hfb:=h.np.fit h.nw.ns.ok.hlt (ha _ hm) ho
  have hok:=hR.is.2 ⟨Es,hfb⟩
  obtain⟨cv,vv,e⟩:=hR.add hok
  have hf:=anN h.nw.ns.ok hfb (hc _ hm) cv vv (1#64<<<k)
  have hq:s.qs.length<=k:=by have:=aK List.length h.qs;rw[gF]at this;have:=anP (l:=l) (k:=k);omega
  subst e
  refine⟨hok,⟨⟨h.np.lt,h.np.la,h.np.nv⟩,h.nw.add hf J,?_⟩,Es,rfl,rfl⟩
  show(s.qs++[_]).map I6=_
  rw[QJ,aX ho,gV,h.qs];rfl
 obtain⟨h1,h2⟩:=hA.ne ho
 subst h2
 exact⟨h1,⟨h.np,h.nw,by rw[QJ,aT ho,mY];exact h.qs⟩,Es,rfl,rfl⟩
theorem Ti.stuck{x:iO}{i:Nat}(hA:Ti s s' x i ok)(Es:s.sk=true):s'=s/\(ok=true↔x.op≠8):=by
 by_cases ho:x.op=8
 .have hR:=hA.eq ho
  have hno:ok=false:=by
   cases ok with
   |false=>rfl
   |true=>have:=(hR.is.1 O).1;rw[Es]at this;cases this
  exact⟨hR.same hno,⟨fun q=>(by rw[hno]at q;cases q),fun q=>absurd ho q⟩⟩
 obtain⟨h1,h2⟩:=hA.ne ho
 exact⟨h2,⟨fun _=>ho,fun _=>h1⟩⟩
structure aEH(p:lM)(l:List iO)(k:Nat)(s s':NP)(ok:Bool):Prop where
 net:BF p l k s'
 sk:s'.sk= !ok
 is:ok=true↔wv (iA p) (QP p (l.take k))
 low:ok=true->lE (iA p) (QP p (l.take k)) (vQ s'.ak)
 all:ok=true->∀q,QP p (l.take k) q->fp q (vQ s'.ak)
 why:ok=true->∀i,i<p.vars.length->∀u,uU (iA p) (QPm p l k (s'.bq.getD i 0)) u->cS (s'.ak.getD i dg) (u i)=true
 no:ok=false->¬wv (iA p) (QPm p l k s'.wy)
 same:ok=false->s'.ak=s.ak
theorem BF.set(h:BF p l k s)(hk:k<=l.length)(hS:as3 s s' ok):aEH p l k s s' ok:=by
 have e1:=h.np.sys
 have e2:=axE h.np h.qs hk
 have e3:=axK h.np h.qs
 have hl:BF p l k s':=⟨h.np.same hS.aq hS.bf hS.len,hS.net,by rw[hS.qs];exact h.qs⟩
 have hy:ok=true->_:=hS.yes
 have hn:ok=false->_:=hS.no
 rw[e1,e2,e3]at hy hn
 refine⟨hl,hS.sk,⟨fun q=>⟨_,(hy q).1.low.fit,(hy q).2.1⟩,fun q=> ?_⟩,fun q=>(hy q).1,fun q=>(hy q).2.1,fun q i hi u hu=>(hy q).2.2 i hi u hu,fun q=>(hn q).2.2.2,fun q=>(hn q).1⟩
 cases ok with
 |true=>rfl
 |false=>exact absurd q (hn O).2.2.1
end
theorem anQ{p:lM}{Q:s4->Prop}{ak v:List El}(h1:lE (iA p) Q (vQ ak))(h2:lE (iA p) Q (yl p v)){i:Nat}(hi:i<p.vars.length)(hk:(p.vars.getD i fq).kind=1):rR (ak.getD i dg) (v.getD i dg):=by
 have h:=h1.same h2 i hi
 unfold yl at h
 rw[aX hk]at h
 exact h
theorem anR{p:n7}(h:kS p=true):p.aY.length<=64:=by grind[kS]
def xq:El:=tB dg 0 1#64
def rG(lv fv nv vv:Value):lM:=⟨lv,[⟨⟨#[107]⟩,⟨false,fv,[⟨1,nv,wM,Rl.none⟩]⟩⟩],vv,[⟨⟨#[120]⟩,1,0⟩,⟨⟨#[121]⟩,1,0⟩]⟩
def a24(v:Value)(l:List dV)(t:iT):iO:=⟨8,0,v,l,t,amG,amG,0,qg⟩
def Bi(u v w:Value):List iO:=[a24 u [⟨2,0,xq⟩] ⟨0,dg⟩,a24 v [⟨1,0,dg⟩] ⟨1,dg⟩,a24 w [⟨1,1,dg⟩] ⟨-1,dg⟩]
def N_:Value:= .slice none 0 0
theorem aEI(lv fv nv vv av u v w:Value):kS ⟨rG lv fv nv vv,av,Bi u v w⟩=true:=(by decide+kernel:kS ⟨rG N_ N_ N_ N_,N_,Bi N_ N_ N_⟩=true)
def CY(a b:El):Va:=fun i=>if i=0 then a else b
theorem Bj{lv fv nv vv:Value}{a b:El}(ha:cJ (iv (rG N_ N_ N_ N_) 0) a=true)(hb:cJ (iv (rG N_ N_ N_ N_) 0) b=true):qj (iA (rG lv fv nv vv)) (CY a b):=fun i hi=>by
 have hi':i<2:=hi
 rcases(by omega:i=0\/i=1)with rfl|rfl
 .exact ha
 exact hb
theorem Bl:cJ (iv (rG N_ N_ N_ N_) 0) dg=true:=by decide+kernel
theorem Bm:cJ (iv (rG N_ N_ N_ N_) 0) xq=true:=by decide+kernel
theorem xu(lv fv nv vv u v w:Value):
  (fp (F9 (rG lv fv nv vv) ((Bi u v w).getD 0 dQ)) (CY xq xq)/\fp (F9 (rG lv fv nv vv) ((Bi u v w).getD 0 dQ)) (CY xq dg))/\
  (fp (F9 (rG lv fv nv vv) ((Bi u v w).getD 1 dQ)) (CY xq xq)/\fp (F9 (rG lv fv nv vv) ((Bi u v w).getD 1 dQ)) (CY dg dg))/\
  (fp (F9 (rG lv fv nv vv) ((Bi u v w).getD 2 dQ)) (CY dg dg)/\fp (F9 (rG lv fv nv vv) ((Bi u v w).getD 2 dQ)) (CY xq dg)):=by
 refine⟨⟨?_,?_⟩,⟨?_,?_⟩,?_,?_⟩
 .exact(by decide+kernel:cS (ey (iv (rG N_ N_ N_ N_) 0) [⟨2,0,xq⟩] [xq,xq]).1 xq=true)
 .exact(by decide+kernel:cS (ey (iv (rG N_ N_ N_ N_) 0) [⟨2,0,xq⟩] [xq,dg]).1 xq=true)
 .exact(by decide+kernel:cS (ey (iv (rG N_ N_ N_ N_) 0) [⟨1,0,dg⟩] [xq,xq]).1 xq=true)
 .exact(by decide+kernel:cS (ey (iv (rG N_ N_ N_ N_) 0) [⟨1,0,dg⟩] [dg,dg]).1 dg=true)
 .exact(by decide+kernel:cS (ey (iv (rG N_ N_ N_ N_) 0) [⟨1,1,dg⟩] [dg,dg]).1 dg=true)
 exact(by decide+kernel:cS (ey (iv (rG N_ N_ N_ N_) 0) [⟨1,1,dg⟩] [xq,dg]).1 dg=true)
theorem as6:cS xq dg=false:=by decide+kernel
section
variable{lv fv nv vv u v w:Value}
theorem ajw{k:Nat}(hk:k<=3){q:s4}:QP (rG lv fv nv vv) ((Bi u v w).take k) q↔∃j,j<k/\q=F9 (rG lv fv nv vv) ((Bi u v w).getD j dQ):=by
 have hl:(Bi u v w).length=3:=rfl
 have ho:∀j,j<3->((Bi u v w).getD j dQ).op=8:=fun j hj=>by
  rcases(by omega:j=0\/j=1\/j=2)with rfl|rfl|rfl<;>rfl
 constructor
 .rintro⟨x,hx,_,e⟩
  obtain⟨j,hj,e1⟩:=HF.1 hx
  exact⟨j,J,by rw[e,<-e1,getD_eq J]⟩
 rintro⟨j,hj,e⟩
 refine⟨_,?_,ho j J,e⟩
 rw[getD_eq J]
 exact HF.2 ⟨j,J,rfl⟩
theorem axM{k:Nat}(hk:k<=3){a:BitVec 64}{q:s4}(h:QPm (rG lv fv nv vv) (Bi u v w) k a q):∃j,j<k/\q=F9 (rG lv fv nv vv) ((Bi u v w).getD j dQ)/\eu (1#64<<<j) a=true:=by
 obtain⟨j,hj,_,e,hs⟩:=h
 exact⟨j,hj,e,hs⟩
theorem axN{x:Va}(h0:fp (F9 (rG lv fv nv vv) ((Bi u v w).getD 0 dQ)) x)(h1:fp (F9 (rG lv fv nv vv) ((Bi u v w).getD 1 dQ)) x)(hx:qj (iA (rG lv fv nv vv)) x):cS xq (x 1)=true:=by
 have p0:cS xq (x 0)=true:=h0
 have p:=NC (S:=iA (rG lv fv nv vv)) (sh:=iv (rG lv fv nv vv) 0) (n:=2) (x:=⟨1,0,dg⟩) (to:=⟨1,dg⟩) O ⟨az,az⟩ az
 have e:rR ((F9 (rG lv fv nv vv) ((Bi u v w).getD 1 dQ)).ev x) (x 0):=p.ev x hx
 have p1:cS ((F9 (rG lv fv nv vv) ((Bi u v w).getD 1 dQ)).ev x) (x 1)=true:=h1
 exact fG p0 (fG (lf fun i hi=>(e i hi).symm) p1)
theorem as7:wv (iA (rG lv fv nv vv)) (QP (rG lv fv nv vv) ((Bi u v w).take 2)):=by
 have h:=xu lv fv nv vv u v w
 refine⟨CY xq xq,Bj Bm Bm,fun q hq=> ?_⟩
 obtain⟨j,hj,e⟩:=(ajw J).1 hq
 subst e
 rcases(by omega:j=0\/j=1)with rfl|rfl
 .exact h.1.1
 exact h.2.1.1
theorem anS{x:Va}(hl:lE (iA (rG lv fv nv vv)) (QP (rG lv fv nv vv) ((Bi u v w).take 2)) x)(hh:∀q,QP (rG lv fv nv vv) ((Bi u v w).take 2) q->fp q x):rR (x 1) xq:=by
 have h:=xu lv fv nv vv u v w
 have hs:uU (iA (rG lv fv nv vv)) (QP (rG lv fv nv vv) ((Bi u v w).take 2)) (CY xq xq):=⟨Bj Bm Bm,fun q hq _=>by
  obtain⟨j,hj,e⟩:=(ajw J).1 hq
  subst e
  rcases(by omega:j=0\/j=1)with rfl|rfl
  .exact h.1.1
  exact h.2.1.1⟩
 exact YW (hl.low.low _ hs 1 (show 1<2 by decide)) (axN (hh _ ((ajw J).2 ⟨0,J,rfl⟩)) (hh _ ((ajw J).2 ⟨1,J,rfl⟩)) hl.low.fit)
theorem Wh{k:Nat}(hk:k<=3){a:BitVec 64}{x y:El}{i:Nat}(hf:qj (iA (rG lv fv nv vv)) (CY x y))(hn:¬∀q,QPm (rG lv fv nv vv) (Bi u v w) k a q->fp q (CY x y))(hh:∀j,j<k->j≠i->fp (F9 (rG lv fv nv vv) ((Bi u v w).getD j dQ)) (CY x y)):eu (1#64<<<i) a=true:=by grind[eu,axM]
theorem Wi{a:BitVec 64}{i:Nat}(hi:i<64)(h:eu (1#64<<<i) a=true):a.getLsbD i=true:=by
 have:=aK (fun z:BitVec 64=>z.getLsbD i) (Lr h)
 simp only[sx,Rq,BitVec.getLsbD_shiftLeft,XJ,hi,decide_true,mF]at this
 simpa using this
theorem axO{a:BitVec 64}(h0:eu (1#64<<<0) a=true)(h1:eu (1#64<<<1) a=true):a&&&3#64=3#64:=by
 have b0:=Wi az h0
 have b1:=Wi az h1
 refine BitVec.eq_of_getLsbD_eq fun i hi=> ?_
 rw[sx]
 rcases(by omega:i=0\/i=1\/2<=i)with rfl|rfl|h
 .rw[b0];rfl
 .rw[b1];rfl
 have:(3#64).getLsbD i=false:=by
  rw[XI,Nat.testBit_lt_two_pow (XN (by decide:3<2^2) (XH az h))];simp
 rw[this,Li]
theorem as8{a:BitVec 64}(h0:eu (1#64<<<0) a=true)(h1:eu (1#64<<<1) a=true)(h2:eu (1#64<<<2) a=true):a&&&7#64=7#64:=by
 have b0:=Wi az h0
 have b1:=Wi az h1
 have b2:=Wi az h2
 refine BitVec.eq_of_getLsbD_eq fun i hi=> ?_
 rw[sx]
 rcases(by omega:i=0\/i=1\/i=2\/3<=i)with rfl|rfl|rfl|h
 .rw[b0];rfl
 .rw[b1];rfl
 .rw[b2];rfl
 have:(7#64).getLsbD i=false:=by
  rw[XI,Nat.testBit_lt_two_pow (XN (by decide:7<2^3) (XH az h))];simp
 rw[this,Li]
theorem axP{x:Va}{a:BitVec 64}(he:rR (x 1) xq)(hw:∀y,uU (iA (rG lv fv nv vv)) (QPm (rG lv fv nv vv) (Bi u v w) 2 a) y->cS (x 1) (y 1)=true):a&&&3#64=3#64:=by
 have h:=xu lv fv nv vv u v w
 have key:∀z:El,cS xq z=false->∀y:El,qj (iA (rG lv fv nv vv)) (CY y z)->¬∀q,QPm (rG lv fv nv vv) (Bi u v w) 2 a q->fp q (CY y z):=fun z hz y hf hq=>by
  have h1:=fG (lf fun i hi=>(he i hi).symm) (hw (CY y z) (wv.sol hf hq))
  have h2:cS xq z=true:=h1
  rw[hz]at h2;cases h2
 refine axO (Wh (k:=2) (x:=dg) (y:=dg) J (Bj Bl Bl) (key _ as6 _ (Bj Bl Bl)) fun j hj hne=> ?_) (Wh (k:=2) (x:=xq) (y:=dg) J (Bj Bm Bl) (key _ as6 _ (Bj Bm Bl)) fun j hj hne=> ?_)
 .have:j=1:=J
  subst this;exact h.2.1.2
 have:j=0:=J
 subst this;exact h.1.2
theorem axQ:¬wv (iA (rG lv fv nv vv)) (QP (rG lv fv nv vv) ((Bi u v w).take 3)):=by
 rintro⟨x,hx,hq⟩
 have g:∀j,j<3->fp (F9 (rG lv fv nv vv) ((Bi u v w).getD j dQ)) x:=fun j hj=>hq _ ((ajw J).2 ⟨j,hj,rfl⟩)
 have h1:=axN (g 0 J) (g 1 J) hx
 have p:=NC (S:=iA (rG lv fv nv vv)) (sh:=iv (rG lv fv nv vv) 0) (n:=2) (x:=⟨1,1,dg⟩) (to:=⟨1,dg⟩) O ⟨az,az⟩ az
 have e:rR ((F9 (rG lv fv nv vv) ((Bi u v w).getD 2 dQ)).ev x) (x 1):=p.ev x hx
 have h2:cS ((F9 (rG lv fv nv vv) ((Bi u v w).getD 2 dQ)).ev x) dg=true:=g 2 J
 have h3:=fG h1 (fG (lf fun i hi=>(e i hi).symm) h2)
 rw[as6]at h3;cases h3
theorem anT{a:BitVec 64}(hs:¬wv (iA (rG lv fv nv vv)) (QPm (rG lv fv nv vv) (Bi u v w) 3 a)):a&&&7#64=7#64:=by
 have h:=xu lv fv nv vv u v w
 have key:∀y z:El,qj (iA (rG lv fv nv vv)) (CY y z)->¬∀q,QPm (rG lv fv nv vv) (Bi u v w) 3 a q->fp q (CY y z):=fun y z hf hq=>hs ⟨_,hf,hq⟩
 refine as8 (Wh (k:=3) (x:=dg) (y:=dg) J (Bj Bl Bl) (key _ _ (Bj Bl Bl)) fun j hj hne=> ?_) (Wh (k:=3) (x:=xq) (y:=dg) J (Bj Bm Bl) (key _ _ (Bj Bm Bl)) fun j hj hne=> ?_) (Wh (k:=3) (x:=xq) (y:=xq) J (Bj Bm Bm) (key _ _ (Bj Bm Bm)) fun j hj hne=> ?_)
 .rcases(by omega:j=1\/j=2)with rfl|rfl
  .exact h.2.1.2
  exact h.2.2.1
 .rcases(by omega:j=0\/j=2)with rfl|rfl
  .exact h.1.2
  exact h.2.2.2
 rcases(by omega:j=0\/j=1)with rfl|rfl
 .exact h.1.1
 exact h.2.1.1
end
theorem aEJ(u v w:Value):∀x∈Bi u v w,x.code.length<=1000:=fun x hx=>by
 simp only[Bi,c8,HN,Ce]at hx
 rcases hx with rfl|rfl|rfl<;>(show 1<=1000;decide)
theorem aEK:mA (iv (rG N_ N_ N_ N_) 0)=true:=by decide+kernel
structure Pc(p:lM)(l:List iO)(k:Nat)(s:NP):Prop where
 nw:yY s
 wr:s.wr= .nilFunc
 go:s.sk=false->BF p l k s
 st:s.sk=true->¬wv (iA p) (QP p (l.take k))
section
variable{p:lM}{l:List iO}{k:Nat}{s s':NP}{ok:Bool}
theorem anU{q:s4}(h:QP p (l.take k) q):QP p (l.take (k+1)) q:=by
 obtain⟨x,hx,ho,e⟩:=h
 obtain⟨j,hj,e1⟩:=HF.1 hx
 exact⟨x,HF.2 ⟨j,J,e1⟩,ho,e⟩
theorem Pc.start(h:BF p l 0 s)(hs:s.sk=false)(hw:s.wr= .nilFunc):Pc p l 0 s:=⟨h.nw,hw,fun _=>h,fun q=>(by rw[hs]at q;cases q)⟩
theorem Pc.add(h:Pc p l k s)(hk:k<l.length)(h64:k<64)(ha:∀x∈l,kO p x=true)(hc:∀x∈l,x.code.length<=1000)(hA:Ti s s' (l.getD k dQ) k ok):(s.sk=false->ok=true)/\(s.sk=true->ok=decide ((l.getD k dQ).op≠8))/\Pc p l (k+1) s'/\s'.sk=s.sk:=by
 cases Es:s.sk with
 |false=>
  obtain⟨h1,h2,h3,h4,_⟩:=(h.go Es).add hk h64 ha hc Es hA
  exact⟨fun _=>h1,fun q=>(by cases q),⟨h2.nw,h4.trans h.wr,fun _=>h2,fun q=>(by rw[h3]at q;cases q)⟩,h3⟩
 |true=>
  obtain⟨h1,h2⟩:=hA.stuck Es
  subst h1
  exact⟨fun q=>(by cases q),fun _=>gH.2 (by rw[h2];simp),⟨h.nw,h.wr,fun q=>(by rw[Es]at q;cases q),fun q hs=>h.st q (hs.less fun _=>anU)⟩,Es⟩
theorem Pc.set(h:Pc p l k s)(hk:k<=l.length)(hQ:axG s s' ok):Pc p l k s'/\(ok=true↔wv (iA p) (QP p (l.take k)))/\(ok=true->tQ p s'/\lE (iA p) (QP p (l.take k)) (vQ s'.ak)):=by
 cases Es:s.sk with
 |false=>
  have hP:=(h.go Es).set hk (hQ.go Es)
  refine⟨⟨hP.net.nw,(hQ.go Es).wr.trans h.wr,fun _=>hP.net,fun q=> ?_⟩,hP.is,fun q=>⟨hP.net.np,hP.low q⟩⟩
  rw[hP.sk]at q
  rw[<-hP.is]
  cases ok with
  |true=>cases q
  |false=>exact fun e=>(by cases e)
 |true=>
  obtain⟨h1,h2⟩:=hQ.st Es
  subst h1;subst h2
  exact⟨h,⟨fun q=>(by cases q),fun q=>absurd q (h.st Es)⟩,fun q=>(by cases q)⟩
end
theorem ace{K:Vu}{v:Value}{sz n:Nat}{cells:List Value}(h:oR K v sz n cells)(k:Nat)(hk:k<=n):oR K (uL v k) sz k (cells.take (k*sz)):=by
 obtain⟨a,cap,hv,hnc,ha⟩:=h.shape
 subst hv
 have e1:sb (.slice a k cap)=sb (.slice a n cap):=by cases a<;>rfl
 have e2:so (.slice a k cap)=so (.slice a n cap):=by cases a<;>rfl
 refine⟨⟨a,cap,rfl,J,fun h0=> ?_⟩,?_,fun j c hc=> ?_,kL hk h.small⟩
 .show a=some ⟨sb (.slice a k cap),so (.slice a k cap),none⟩
  rw[e1,e2];exact ha J
 .rw[dW,h.len]
  exact qt (r6 _ hk)
 rw[u9]at hc
 split at hc
 .show PU K (sb (.slice a k cap)) (so (.slice a k cap)+j) c
  rw[e1,e2];exact h.cell j c hc
 .cases hc
theorem vS.take{K:Vu}{p:n7}(h:vS K p){k:Nat}(hk:k<=p.aY.length):vS K ⟨p.s,uL p.av k,p.aY.take k⟩:=by
 refine⟨h.s,?_,fun x hx=>h.each x (r7 hx)⟩
 have:=ace h.aY k hk
 rw[Dx vR]at this
 show oR K (uL p.av k) 18 (p.aY.take k).length _
 rw[dW,qt hk];exact this
theorem anV{p:n7}(h:kS p=true)(k:Nat)(v:Value):kS ⟨p.s,v,p.aY.take k⟩=true:=by
 simp only[kS,cM,eD,iR]at h⊢
 exact⟨⟨h.1.1,by rw[dW];omega⟩,fun x hx=>h.2 x (r7 hx)⟩
end
end Go.Proofs.YtlhjdflgjbkpmaaGreatDoor.E
namespace Go.Proofs.YtlhjdflgjbkpmaaGreatDoor.M
section
open Go
structure ajx(r:Rl)(cl:List Nat):Prop where
 n:pts r=cl.length
 sym:∀i j:Int,bL r i j=true->bL r j i=true
 axR:∀i j:Int,bL r i j=true->cm cl i.toNat=cm cl j.toNat
 lead:∀i:Nat,i<cl.length->bL (js r) i (cm cl i)=true
theorem acf{r:Rl}(hs:∀i j:Int,bL r i j=true->bL r j i=true){i j:Int}(h:bL (js r) i j=true):bL (js r) j i=true:=by
 have h1:=(jR h).1
 rw[zS]at h1
 exact DG h (fun y=>bL (js r) y i=true) (fun x y hx hy=>nn (Gm (hs _ _ hy)) hx) (yJ h1)
theorem ajy{r q:Rl}(hp:pts q=pts r)(hm:∀i j:Int,bL r i j=true->bL q i j=true){i j:Int}(h:bL (js r) i j=true):bL (js q) i j=true:=by
 have h1:=(jR h).1
 rw[zS]at h1
 exact DG h (fun y=>bL (js q) i y=true) (fun x y hx hy=>nn hx (Gm (hm _ _ hy))) (yJ (by rw[hp];exact h1))
section
variable{r:Rl}{cl:List Nat}{nd:List qD}
theorem ajx.same(h:ajx r cl){i j:Nat}(hi:i<cl.length)(hj:j<cl.length):cm cl i=cm cl j↔bL (js r) i j=true:=by
 constructor
 .intro e
  have h1:=h.lead i hi;have h2:=h.lead j hj
  rw[e]at h1
  exact nn h1 (acf h.sym h2)
 intro hc
 have:=DG hc (fun y=>cm cl i=cm cl y.toNat) (fun x y hx hy=>hx.trans (h.axR _ _ hy)) aJ
 simpa using this
theorem ajx.join(h:ajx r cl)(hf:Fo nd cl){q:Rl}{x y:Nat}(hx:x<cl.length)(hy:y<cl.length)(hp:pts q=pts r)(hq:∀i j:Int,bL q i j=true↔bL r i j=true\/(i=x/\j=y)\/(i=y/\j=x)):ajx q (iI cl (cm cl x) (cm cl y)):=by
 have hm:∀i j:Int,bL r i j=true->bL q i j=true:=fun i j e=>(hq i j).2 (.inl e)
 have hs:∀i j:Int,bL q i j=true->bL q j i=true:=fun i j e=>by
  rcases(hq i j).1 e with e|e|e
  .exact hm _ _ (h.sym _ _ e)
  .exact(hq j i).2 (.inr (.inr ⟨e.2,e.1⟩))
  exact(hq j i).2 (.inr (.inl ⟨e.2,e.1⟩))
 have hlen:(iI cl (cm cl x) (cm cl y)).length=cl.length:=by simp[iI]
 have hlc:∀i,i<cl.length->cm cl i<cl.length:=fun i hi=>by have:=(hf.lc i (by rw[<-hf.len];exact hi)).1;omega
 have gc:∀i,i<cl.length->cm (iI cl (cm cl x) (cm cl y)) i=IQ (cm cl x) (cm cl y) (cm cl i):=fun i hi=>Ai hi
 have xy:bL (js q) x y=true:=Gm ((hq x y).2 (.inr (.inl ⟨rfl,rfl⟩)))
 have cs:∀{i j:Int},bL (js q) i j=true->bL (js q) j i=true:=fun e=>acf hs e
 have lq:∀i:Nat,i<cl.length->bL (js q) i (cm cl i)=true:=fun i hi=>ajy hp hm (h.lead i hi)
 have cxy:bL (js q) (cm cl x) (cm cl y)=true:=nn (cs (lq x hx)) (nn xy (lq y hy))
 refine⟨by rw[hp,h.n,hlen],hs,fun i j e=> ?_,fun i hi=> ?_⟩
 .have hb:=jR e
  rw[hp,h.n]at hb
  rw[gc _ J,gc _ J]
  rcases(hq i j).1 e with e|e|e
  .rw[h.axR _ _ e]
  .rw[e.1,e.2,eC,eC,kT (.inl O),kT (.inr O)]
  rw[e.1,e.2,eC,eC,kT (.inl O),kT (.inr O)]
 rw[hlen]at hi
 rw[gc i hi]
 by_cases c:cm cl i=cm cl x\/cm cl i=cm cl y
 .rw[kT c]
  have h1:=lq i hi
  rcases c with c|c<;>rw[c]at h1<;>rcases x8 (cm cl x) (cm cl y)with e|e<;>rw[e]
  .exact h1
  .exact nn h1 cxy
  .exact nn h1 (cs cxy)
  exact h1
 rw[ld c];exact lq i hi
end
end
end Go.Proofs.YtlhjdflgjbkpmaaGreatDoor.M
namespace Go.Proofs.YtlhjdflgjbkpmaaGreatDoor.E
section
open Go Go.RowKit Go.Proofs.YtlhjdflgjbkpmaaGreatDoor.M
section
variable{P:Program}{n:Nat}{l:List Oper}{S:World->Prop}{k:K}{xs:List (Nat×K)}{r:K}{σ:Env}{w:World}{fuel i d:Nat}{listed:Array Bool}{op:Op}{ty:TypeId}{pos:String}{bO:Array Edge}{g:Option (Nat×Bool)}{v:Value}{dst:Option Tmp}
theorem V{ops:Array Oper}{rest:List Oper}{w':World}(hr:(execOp (ev σ) ⟨some d,op,ty,pos,bO,none⟩).run P w= .ok (.value v) w')(hk:RL P n ops k rest (lZ σ d v) w')(hd:Nat.blt d n=true:=by rfl):RL P n ops k (⟨some d,op,ty,pos,bO,none⟩::rest) σ w:=pu hd hr hk
abbrev Pn(b o:Nat):Value:= .pointer (some ⟨b,o,none⟩)
theorem mV{x:Operand}(v:Value)(hx:ev σ x=v):(execOp (ev σ) ⟨dst,.move x,ty,pos,bO,g⟩).run P w= .ok (.value v) w:=run_move hx
theorem aV{x:Operand}(v:Value)(hx:ev σ x=v):(execOp (ev σ) ⟨dst,.assign x,ty,pos,bO,g⟩).run P w= .ok (.value v) w:=run_assign hx
theorem AT(i:Nat)(hi:l[i]?=some ⟨some d,op,ty,pos,bO,none⟩)(hS:S w)(hy:∀w,S w->(execOp (ev σ) ⟨some d,op,ty,pos,bO,none⟩).run P w= .ok (.value v) w)
 (h:AN P n l S k fuel (listed.setIfInBounds i true) (lZ σ d v) w) (hd:Nat.blt d n=true:=by rfl) (hs:Region.noSelect l.toArray=true:=by kernel_rfl) (hf:Region.free .any l.toArray listed i=true:=by kernel_rfl)
 (hr:(Region.ready .any l.toArray listed).contains i=true:=by kernel_rfl):AN P n l S k (fuel+1) listed σ w:=by grind[af9]
theorem AG(i:Nat){j dj:Nat}{want:Bool}(hi:l[i]?=some ⟨some d,op,ty,pos,bO,some (j,want)⟩)(hj:(l[j]?).bind (·.dst)=some dj)(hb:σ dj= .bool want)
 (hS:S w) (hy:∀w,S w->(execOp (ev σ) ⟨some d,op,ty,pos,bO,some (j,want)⟩).run P w= .ok (.value v) w)
 (h:AN P n l S k fuel (listed.setIfInBounds i true) (lZ σ d v) w) (hd:Nat.blt d n=true:=by rfl) (hs:Region.noSelect l.toArray=true:=by kernel_rfl) (hf:Region.free .any l.toArray listed i=true:=by kernel_rfl)
 (hr:(Region.ready .any l.toArray listed).contains i=true:=by kernel_rfl):AN P n l S k (fuel+1) listed σ w:=by grind[arq]
theorem BQ(i:Nat){j dj:Nat}{want:Bool}(hi:l[i]?=some ⟨some d,op,ty,pos,bO,some (j,want)⟩)(hj:(l[j]?).bind (·.dst)=some dj)(hb:σ dj= .bool want)
 (hS:S w) (hy:∀{w},(execOp (ev σ) ⟨some d,op,ty,pos,bO,some (j,want)⟩).run P w= .ok (.value v) w)
 (h:AN P n l S k fuel (listed.setIfInBounds i true) (lZ σ d v) w) (hd:Nat.blt d n=true:=by rfl) (hs:Region.noSelect l.toArray=true:=by kernel_rfl) (hf:Region.free .any l.toArray listed i=true:=by kernel_rfl)
 (hr:(Region.ready .any l.toArray listed).contains i=true:=by kernel_rfl):AN P n l S k (fuel+1) listed σ w:=AG i hi hj hb hS (fun w _=>hy) h hd hs hf hr
theorem AK(i:Nat){j dj:Nat}{b want:Bool}(hi:l[i]?=some ⟨some d,op,ty,pos,bO,some (j,want)⟩)(hj:(l[j]?).bind (·.dst)=some dj)(hb:σ dj= .bool b)(hS:S w)
 (h:AN P n l S k fuel (listed.setIfInBounds i true) (lZ σ d undef) w) (hne:(b==want)=false:=by rfl) (hd:Nat.blt d n=true:=by rfl) (hs:Region.noSelect l.toArray=true:=by kernel_rfl) (hf:Region.free .any l.toArray listed i=true:=by kernel_rfl)
 (hr:(Region.ready .any l.toArray listed).contains i=true:=by kernel_rfl):AN P n l S k (fuel+1) listed σ w:=by grind[awh]
theorem AU(i:Nat){j dj:Nat}{want:Bool}(hi:l[i]?=some ⟨some d,op,ty,pos,bO,some (j,want)⟩)(hj:(l[j]?).bind (·.dst)=some dj)(hu:σ dj=undef)(hS:S w)
 (h:AN P n l S k fuel (listed.setIfInBounds i true) (lZ σ d undef) w) (hd:Nat.blt d n=true:=by rfl) (hs:Region.noSelect l.toArray=true:=by kernel_rfl) (hf:Region.free .any l.toArray listed i=true:=by kernel_rfl)
 (hr:(Region.ready .any l.toArray listed).contains i=true:=by kernel_rfl):AN P n l S k (fuel+1) listed σ w:=by grind[awi]
theorem AD(h:k σ w)(hr:Region.ready .any l.toArray listed=[]:=by kernel_rfl):AN P n l S k fuel listed σ w:=awg hr h
theorem A1(i:Nat)(h:AO P n l S k fuel listed σ w i)(hr:Region.ready .any l.toArray listed=[i]:=by kernel_rfl):AN P n l S k (fuel+1) listed σ w:=awj i hr h
theorem SR{id:Nat}{y:Code}(h:RL P n l.toArray (fun σ w=>CW P n y k xs r σ w) l σ w):CW P n (.seq (.region id l.toArray false) y) k xs r σ w:=ai (au h)
theorem fA{x:Operand}{s i m b o:Nat}{fs:Array Field}{f:Field}(hu:P.underlying s=some (.struct fs))(off:Nat)(hf:fs[i]?=some f)(hs:∀w,(sizeOf f.type).run P w= .ok m w)(hx:ev σ x= .pointer (some ⟨b,o,none⟩))(ho:f.offset=off:=by rfl)(hn:m≠0:=by decide):
 (execOp (ev σ) ⟨dst,.fieldAddr s x i,ty,pos,bO,g⟩).run P w= .ok (.value (.pointer (some ⟨b,o+off,none⟩))) w:=O2 hu hf ho hs hn hx
end
theorem sQ{α:Type}{a:α}{l l':List α}(h:l.Sublist l'):l.Sublist (a::l'):= .cons _ h
theorem sP{α:Type}{a:α}{l l':List α}(h:l.Sublist l'):(a::l).Sublist (a::l'):= .cons_cons _ h
theorem sR{α:Type}{l:List α}:l.Sublist l:= .refl _
theorem sA{α:Type}{l l' m:List α}(h:l.Sublist l'):l.Sublist (m++l'):=by grind
theorem pC{α:Type}{a:α}{l l':List α}(h:l.Perm l'):(a::l).Perm (a::l'):= .cons _ h
theorem pR{α:Type}{l:List α}:l.Perm l:= .refl _
theorem pS{α:Type}{a b:α}{l:List α}:(b::a::l).Perm (a::b::l):= .swap _ _ _
theorem z0{α:Type}{a b:α}{l:List α}:(a::l).set 0 b=b::l:=rfl
theorem z1{α:Type}{a b:α}{l:List α}{i:Nat}:(a::l).set (i+1) b=a::l.set i b:=rfl
theorem mT{α:Type}{a b:α}{l:List α}(h:a∈l):a∈b::l:=fX _ h
section
variable{ws:List Nat}{σ σ':Env}{d d1 d2 d3:Nat}{v v1 v2 v3:Value}
theorem Fr.u1(h:Fr ws σ σ')(hd:ws.contains d=true:=by rfl):Fr ws σ (lZ σ' d v):=h.u hd
theorem Fr.u4(h:Fr ws σ σ')(hd:ws.contains d=true:=by rfl)(h1:ws.contains d1=true:=by rfl)(h2:ws.contains d2=true:=by rfl)(h3:ws.contains d3=true:=by rfl):Fr ws σ (lZ (lZ (lZ (lZ σ' d v) d1 v1) d2 v2) d3 v3):=by grind[Fr,lZ]
end
section
variable{P:Program}{n:Nat}{l:List Oper}{S:World->Prop}{k:K}{xs:List (Nat×K)}{r:K}{σ σ':Env}{w:World}{fuel i d:Nat}{listed:Array Bool}{op:Op}{ty:TypeId}{pos:String}{bO:Array Edge}{g:Option (Nat×Bool)}{v:Value}{dst:Option Tmp}{ops:Array Oper}{rest:List Oper}{x:Operand}
theorem va{v:Value}(hx:ev σ x=v)(hk:RL P n ops k rest (lZ σ d v) w)(hd:Nat.blt d n=true:=by rfl):RL P n ops k (⟨some d,.assign x,ty,pos,bO,none⟩::rest) σ w:=pu hd (run_assign hx) hk
theorem aE{v:Value}(hx:ev σ x=v)(hk:RL P n ops k rest (lZ σ d v) w)(hd:Nat.blt d n=true:=by rfl):RL P n ops k (⟨some d,.move x,ty,pos,bO,none⟩::rest) σ w:=pu hd (run_move hx) hk
theorem aI{a:Int}(hx:ev σ x=I a)(hk:RL P n ops k rest (lZ σ d (I a)) w)(hd:Nat.blt d n=true:=by rfl):RL P n ops k (⟨some d,.assign x,ty,pos,bO,none⟩::rest) σ w:=va hx hk hd
theorem aB{a:Bool}(hx:ev σ x=B a)(hk:RL P n ops k rest (lZ σ d (B a)) w)(hd:Nat.blt d n=true:=by rfl):RL P n ops k (⟨some d,.assign x,ty,pos,bO,none⟩::rest) σ w:=va hx hk hd
theorem aU{a:BitVec 64}(hx:ev σ x=U a)(hk:RL P n ops k rest (lZ σ d (U a)) w)(hd:Nat.blt d n=true:=by rfl):RL P n ops k (⟨some d,.assign x,ty,pos,bO,none⟩::rest) σ w:=va hx hk hd
theorem mI{a:Int}(hx:ev σ x=I a)(hk:RL P n ops k rest (lZ σ d (I a)) w)(hd:Nat.blt d n=true:=by rfl):RL P n ops k (⟨some d,.move x,ty,pos,bO,none⟩::rest) σ w:=aE hx hk hd
theorem mB{a:Bool}(hx:ev σ x=B a)(hk:RL P n ops k rest (lZ σ d (B a)) w)(hd:Nat.blt d n=true:=by rfl):RL P n ops k (⟨some d,.move x,ty,pos,bO,none⟩::rest) σ w:=aE hx hk hd
theorem mU{a:BitVec 64}(hx:ev σ x=U a)(hk:RL P n ops k rest (lZ σ d (U a)) w)(hd:Nat.blt d n=true:=by rfl):RL P n ops k (⟨some d,.move x,ty,pos,bO,none⟩::rest) σ w:=aE hx hk hd
theorem AQ(i:Nat)(hi:l[i]?=some ⟨some d,op,ty,pos,bO,none⟩)(hS:S w)(hy:∀{w},(execOp (ev σ) ⟨some d,op,ty,pos,bO,none⟩).run P w= .ok (.value v) w)
 (h:AN P n l S k fuel (listed.setIfInBounds i true) (lZ σ d v) w) (hd:Nat.blt d n=true:=by rfl) (hs:Region.noSelect l.toArray=true:=by kernel_rfl) (hf:Region.free .any l.toArray listed i=true:=by kernel_rfl)
 (hr:(Region.ready .any l.toArray listed).contains i=true:=by kernel_rfl):AN P n l S k (fuel+1) listed σ w:=by grind[af9]
theorem Fr.w1{ws:List Nat}{v1:Value}(h:Fr ws σ σ')(i:Nat)(h1:σ i=v1:=by conv=>lhs;whnf)(c1:ws.contains i=false:=by rfl):σ' i=v1:=(h i c1).trans h1
theorem Fr.t1{ws:List Nat}{v1:Value}(h:Fr ws σ σ')(i:Nat)(h1:σ i=v1)(c1:ws.contains i=false:=by rfl):σ' i=v1:=(h i c1).trans h1
theorem Fr.w2{ws:List Nat}{v1 v2:Value}(h:Fr ws σ σ')(i j:Nat)(h1:σ i=v1:=by conv=>lhs;whnf)(h2:σ j=v2:=by conv=>lhs;whnf)(c1:ws.contains i=false:=by rfl)(c2:ws.contains j=false:=by rfl):σ' i=v1/\σ' j=v2:=⟨(h i c1).trans h1,(h j c2).trans h2⟩
theorem Fr.t2{ws:List Nat}{v1 v2:Value}(h:Fr ws σ σ')(i:Nat)(h1:σ i=v1)(j:Nat)(h2:σ j=v2)(c1:ws.contains i=false:=by rfl)(c2:ws.contains j=false:=by rfl):σ' i=v1/\σ' j=v2:=⟨(h i c1).trans h1,(h j c2).trans h2⟩
theorem Fr.w3{ws:List Nat}{v1 v2 v3:Value}(h:Fr ws σ σ')(i j k:Nat)(h1:σ i=v1:=by conv=>lhs;whnf)(h2:σ j=v2:=by conv=>lhs;whnf)(h3:σ k=v3:=by conv=>lhs;whnf)(c1:ws.contains i=false:=by rfl)(c2:ws.contains j=false:=by rfl)(c3:ws.contains k=false:=by rfl):σ' i=v1/\σ' j=v2/\σ' k=v3:=⟨(h i c1).trans h1,(h j c2).trans h2,(h k c3).trans h3⟩
theorem Fr.t3{ws:List Nat}{v1 v2 v3:Value}(h:Fr ws σ σ')(i:Nat)(h1:σ i=v1)(j:Nat)(h2:σ j=v2)(k:Nat)(h3:σ k=v3)(c1:ws.contains i=false:=by rfl)(c2:ws.contains j=false:=by rfl)(c3:ws.contains k=false:=by rfl):σ' i=v1/\σ' j=v2/\σ' k=v3:=⟨(h i c1).trans h1,(h j c2).trans h2,(h k c3).trans h3⟩
theorem Fr.w4{ws:List Nat}{v1 v2 v3 v4:Value}(h:Fr ws σ σ')(i j k l:Nat)(h1:σ i=v1:=by conv=>lhs;whnf)(h2:σ j=v2:=by conv=>lhs;whnf)(h3:σ k=v3:=by conv=>lhs;whnf)(h4:σ l=v4:=by conv=>lhs;whnf)(c1:ws.contains i=false:=by rfl)(c2:ws.contains j=false:=by rfl)(c3:ws.contains k=false:=by rfl)(c4:ws.contains l=false:=by rfl):σ' i=v1/\σ' j=v2/\σ' k=v3/\σ' l=v4:=⟨(h i c1).trans h1,(h j c2).trans h2,(h k c3).trans h3,(h l c4).trans h4⟩
theorem Fr.t4{ws:List Nat}{v1 v2 v3 v4:Value}(h:Fr ws σ σ')(i:Nat)(h1:σ i=v1)(j:Nat)(h2:σ j=v2)(k:Nat)(h3:σ k=v3)(l:Nat)(h4:σ l=v4)(c1:ws.contains i=false:=by rfl)(c2:ws.contains j=false:=by rfl)(c3:ws.contains k=false:=by rfl)(c4:ws.contains l=false:=by rfl):σ' i=v1/\σ' j=v2/\σ' k=v3/\σ' l=v4:=⟨(h i c1).trans h1,(h j c2).trans h2,(h k c3).trans h3,(h l c4).trans h4⟩
theorem Fr.w5{ws:List Nat}{v1 v2 v3 v4 v5:Value}(h:Fr ws σ σ')(i j k l m:Nat)(h1:σ i=v1:=by conv=>lhs;whnf)(h2:σ j=v2:=by conv=>lhs;whnf)(h3:σ k=v3:=by conv=>lhs;whnf)(h4:σ l=v4:=by conv=>lhs;whnf)(h5:σ m=v5:=by conv=>lhs;whnf)(c1:ws.contains i=false:=by rfl)(c2:ws.contains j=false:=by rfl)(c3:ws.contains k=false:=by rfl)(c4:ws.contains l=false:=by rfl)(c5:ws.contains m=false:=by rfl):σ' i=v1/\σ' j=v2/\σ' k=v3/\σ' l=v4/\σ' m=v5:=⟨(h i c1).trans h1,(h j c2).trans h2,(h k c3).trans h3,(h l c4).trans h4,(h m c5).trans h5⟩
theorem Fr.t5{ws:List Nat}{v1 v2 v3 v4 v5:Value}(h:Fr ws σ σ')(i:Nat)(h1:σ i=v1)(j:Nat)(h2:σ j=v2)(k:Nat)(h3:σ k=v3)(l:Nat)(h4:σ l=v4)(m:Nat)(h5:σ m=v5)(c1:ws.contains i=false:=by rfl)(c2:ws.contains j=false:=by rfl)(c3:ws.contains k=false:=by rfl)(c4:ws.contains l=false:=by rfl)(c5:ws.contains m=false:=by rfl):σ' i=v1/\σ' j=v2/\σ' k=v3/\σ' l=v4/\σ' m=v5:=⟨(h i c1).trans h1,(h j c2).trans h2,(h k c3).trans h3,(h l c4).trans h4,(h m c5).trans h5⟩
theorem Fr.w6{ws:List Nat}{v1 v2 v3 v4 v5 v6:Value}(h:Fr ws σ σ')(i j k l m o:Nat)(h1:σ i=v1:=by conv=>lhs;whnf)(h2:σ j=v2:=by conv=>lhs;whnf)(h3:σ k=v3:=by conv=>lhs;whnf)(h4:σ l=v4:=by conv=>lhs;whnf)(h5:σ m=v5:=by conv=>lhs;whnf)(h6:σ o=v6:=by conv=>lhs;whnf)(c1:ws.contains i=false:=by rfl)(c2:ws.contains j=false:=by rfl)(c3:ws.contains k=false:=by rfl)(c4:ws.contains l=false:=by rfl)(c5:ws.contains m=false:=by rfl)(c6:ws.contains o=false:=by rfl):σ' i=v1/\σ' j=v2/\σ' k=v3/\σ' l=v4/\σ' m=v5/\σ' o=v6:=⟨(h i c1).trans h1,(h j c2).trans h2,(h k c3).trans h3,(h l c4).trans h4,(h m c5).trans h5,(h o c6).trans h6⟩
theorem Fr.ii{ws:List Nat}(h:Fr ws σ σ')(i:Nat){a:Int}(hc:ws.contains i=false)(hv:σ i=E.I a):σ' i=E.I a:=(h i hc).trans hv
theorem Fr.bb{ws:List Nat}(h:Fr ws σ σ')(i:Nat){a:Bool}(hc:ws.contains i=false)(hv:σ i=E.B a):σ' i=E.B a:=(h i hc).trans hv
theorem Fr.ss{ws:List Nat}(h:Fr ws σ σ')(i:Nat){a:ByteArray}(hc:ws.contains i=false)(hv:σ i= .string a):σ' i= .string a:=(h i hc).trans hv
theorem Fr.vv{ws:List Nat}(h:Fr ws σ σ')(i:Nat){a:Value}(hc:ws.contains i=false)(hv:σ i=a):σ' i=a:=(h i hc).trans hv
end
def rg:Nat->Nat->List Nat->List Nat
 |_,0,l=>l
 |a,n+1,l=>a::rg (a+1) n l
theorem lj:(∀(k:IntKind) (n:Int),(Value.int k n).cells.toList=[Value.int k n])/\(∀b:Bool,(Value.bool b).cells.toList=[Value.bool b])/\(∀b:ByteArray,(Value.string b).cells.toList=[Value.string b])/\(∀a:Option Addr,(Value.pointer a).cells.toList=[Value.pointer a])/\(∀(a:Option Addr) (n c:Nat),(Value.slice a n c).cells.toList=[Value.slice a n c])/\(∀l:List Value,(Value.agg l.toArray).cells.toList=l)/\(∀(f:Value->List Value) (a:Value) (l:List Value),(a::l).flatMap f=f a++l.flatMap f)/\(∀f:Value->List Value,([]:List Value).flatMap f=[])/\(∀l:List Value,[]++l=l)/\(∀l:List Value,l++[]=l)/\(∀(a:Value) (l m:List Value),a::l++m=a::(l++m)):=by simp_all[clI,clB,clS,clP,clL,clA]
theorem z2{α:Type}:(∀(a b:α) (l:List α),(a::l).set 0 b=b::l)/\(∀(a b:α) (l:List α) (i:Nat),(a::l).set (i+1) b=a::l.set i b):=⟨fun _ _ _=>rfl,fun _ _ _ _=>rfl⟩
def pull{α:Type}:Nat->List α->List α
 |0,l=>l
 |n+1,a::l=>match pull n l with
  |b::m=>b::a::m
  |[]=>[a]
 |_,[]=>[]
def dr{α:Type}:List Nat->List α->List α
 |[],l=>l
 |n::ns,l=>match pull n l with
  |b::m=>b::dr ns m
  |[]=>[]
theorem ajz{α:Type}:∀(n:Nat) (l:List α),l.Perm (pull n l)
 |0,_=> .refl _
 |n+1,[]=> .refl _
 |n+1,a::l=>by
  have h:=ajz n l
  rw[pull]
  revert h;cases pull n l with
  |nil=>exact fun h=>h.cons a
  |cons b m=>exact fun h=>(h.cons a).trans (.swap _ _ _)
theorem acg{α:Type}:∀(ns:List Nat) (l:List α),l.Perm (dr ns l)
 |[],_=> .refl _
 |n::ns,l=>by
  have h:=ajz n l
  rw[dr]
  revert h;cases pull n l with
  |nil=>exact fun h=>h
  |cons b m=>exact fun h=>h.trans ((acg ns m).cons b)
theorem Hp.pj{w0 w:World}{L:List bu}(h:Hp w0 w L)(ns:List Nat):Hp w0 w (dr ns L):=h.perm (acg ns L)
theorem Hp.pk{w0 w:World}{L L':List bu}(h:Hp w0 w L)(ns:List Nat)(e:dr ns L=L':=by conv=>lhs;simp only[dr,pull]):Hp w0 w L':=e▸h.pj ns
section
variable{P:Program}{n:Nat}{ops:Array Oper}{k:K}{rest l:List Oper}{σ:Env}{w0 w:World}{L:List bu}{op:Op}{ty t e:TypeId}{pos:String}{bO:Array Edge}{d:Nat}{v:Value}{x:Operand}{fn:Func}{q:Value->World->Prop}
 {b off:Nat} {c:Array Value} {fr:Nat×Nat} {td:TypeDesc} {fuel:Nat} {listed:Array Bool}
theorem en{f:FuncId}{c:Code}{args:Array Value}(hf:P.funcs[f]?=some fn)(hb:fn.body=some c)(hn:fn.ntmps=n)(h:CW P n c (Out P fn q) [] (Out P fn q) (entry args) w)(ha:Nat.ble args.size n=true:=by rfl):Calls P f args w (jY q):=enter hf hb hn ha h
theorem eH{f:FuncId}{c:Code}{args:Array Value}(hf:P.funcs[f]?=some fn)(hb:fn.body=some c)(hn:fn.ntmps=n)(h:Hp w w []->CW P n c (Out P fn q) [] (Out P fn q) (entry args) w)(ha:Nat.ble args.size n=true:=by rfl):Calls P f args w (jY q):=enter hf hb hn ha (h (Hp.start w))
theorem lK{o:Obj}(hH:Hp w0 w L)(hr:(execOp (ev σ) ⟨some d,op,ty,pos,bO,none⟩).run P w= .ok (.value (.pointer (some ⟨w.heap.size,0,none⟩))) (w.alloc o))
 (hk:∀b w',Hp w0 w' (.blk b o::L)->RL P n ops k rest (lZ σ d (.pointer (some ⟨b,0,none⟩))) w') (hd:Nat.blt d n=true:=by rfl):RL P n ops k (⟨some d,op,ty,pos,bO,none⟩::rest) σ w:=YB hd hH (f:=fun b=> .pointer (some ⟨b,0,none⟩)) hr hk
theorem gN(hH:Hp w0 w L){v:Value}(hx:ev σ x=v)
 (hk:∀b w',Hp w0 w' (.blk b (.cells v.cells e)::L)->RL P n ops k rest (lZ σ d (.pointer (some ⟨b,0,none⟩))) w') (hd:Nat.blt d n=true:=by rfl):RL P n ops k (⟨some d,.box e x,ty,pos,bO,none⟩::rest) σ w:=lK hH (KD hx) hk hd
theorem tR(a m:Nat){o:Obj}(hH:Hp w0 w L)(hr:(execOp (ev σ) ⟨some d,op,ty,pos,bO,none⟩).run P w= .ok (.value (.slice (some ⟨w.heap.size,0,none⟩) a m)) (w.alloc o))
 (hk:∀b w',Hp w0 w' (.blk b o::L)->RL P n ops k rest (lZ σ d (.slice (some ⟨b,0,none⟩) a m)) w') (hd:Nat.blt d n=true:=by rfl):RL P n ops k (⟨some d,op,ty,pos,bO,none⟩::rest) σ w:=YB hd hH (f:=fun b=> .slice (some ⟨b,0,none⟩) a m) hr hk
theorem lV(hu:P.underlying t=some td)(hH:Hp w0 w L)(i:Nat)(hx:ev σ x= .pointer (some ⟨b,off,none⟩))(hi:L[i]?=some (.blk b (.cells c e fr)))(hc:c[off]?=some v)
 (hk:RL P n ops k rest (lZ σ d v) w) (hr:td.isRow=false:=by rfl) (hd:Nat.blt d n=true:=by rfl):RL P n ops k (⟨some d,.load t x,ty,pos,bO,none⟩::rest) σ w:=pu hd (aG hu hr hx (hH.cell hi hc)) hk
theorem lI{a:Int}(hu:P.underlying t=some td)(hH:Hp w0 w L)(i:Nat)(hx:ev σ x= .pointer (some ⟨b,off,none⟩))(hi:L[i]?=some (.blk b (.cells c e fr)))(hc:c[off]?=some (I a))
 (hk:RL P n ops k rest (lZ σ d (I a)) w) (hr:td.isRow=false:=by rfl) (hd:Nat.blt d n=true:=by rfl):RL P n ops k (⟨some d,.load t x,ty,pos,bO,none⟩::rest) σ w:=pu hd (aG hu hr hx (hH.cell hi hc)) hk
theorem lP{p q:Nat}(hu:P.underlying t=some td)(hH:Hp w0 w L)(i:Nat)(hx:ev σ x= .pointer (some ⟨b,off,none⟩))(hi:L[i]?=some (.blk b (.cells c e fr)))(hc:c[off]?=some (Pn p q))
 (hk:RL P n ops k rest (lZ σ d (Pn p q)) w) (hr:td.isRow=false:=by rfl) (hd:Nat.blt d n=true:=by rfl):RL P n ops k (⟨some d,.load t x,ty,pos,bO,none⟩::rest) σ w:=pu hd (aG hu hr hx (hH.cell hi hc)) hk
theorem tV(i:Nat)(hi:l[i]?=some ⟨some d,.load t x,ty,pos,bO,none⟩)(hS:Hp w0 w L)(hu:P.underlying t=some td)(j:Nat)(hx:ev σ x= .pointer (some ⟨b,off,none⟩))(hj:L[j]?=some (.blk b (.cells c e fr)))(hc:c[off]?=some v)
 (h:AN P n l (fun w=>Hp w0 w L) k fuel (listed.setIfInBounds i true) (lZ σ d v) w) (ht:td.isRow=false:=by rfl) (hd:Nat.blt d n=true:=by rfl) (hs:Region.noSelect l.toArray=true:=by kernel_rfl) (hf:Region.free .any l.toArray listed i=true:=by kernel_rfl)
 (hr:(Region.ready .any l.toArray listed).contains i=true:=by kernel_rfl):AN P n l (fun w=>Hp w0 w L) k (fuel+1) listed σ w:=af9 i hi hd hs hf hr hS (fun w hS=>aG hu ht hx (hS.cell hj hc)) h
theorem tI{a:Int}(i:Nat)(hi:l[i]?=some ⟨some d,.load t x,ty,pos,bO,none⟩)(hS:Hp w0 w L)(hu:P.underlying t=some td)(j:Nat)(hx:ev σ x= .pointer (some ⟨b,off,none⟩))(hj:L[j]?=some (.blk b (.cells c e fr)))(hc:c[off]?=some (I a))
 (h:AN P n l (fun w=>Hp w0 w L) k fuel (listed.setIfInBounds i true) (lZ σ d (I a)) w) (ht:td.isRow=false:=by rfl) (hd:Nat.blt d n=true:=by rfl) (hs:Region.noSelect l.toArray=true:=by kernel_rfl) (hf:Region.free .any l.toArray listed i=true:=by kernel_rfl)
 (hr:(Region.ready .any l.toArray listed).contains i=true:=by kernel_rfl):AN P n l (fun w=>Hp w0 w L) k (fuel+1) listed σ w:=tV i hi hS hu j hx hj hc h ht hd hs hf hr
theorem tP{p q:Nat}(i:Nat)(hi:l[i]?=some ⟨some d,.load t x,ty,pos,bO,none⟩)(hS:Hp w0 w L)(hu:P.underlying t=some td)(j:Nat)(hx:ev σ x= .pointer (some ⟨b,off,none⟩))(hj:L[j]?=some (.blk b (.cells c e fr)))(hc:c[off]?=some (Pn p q))
 (h:AN P n l (fun w=>Hp w0 w L) k fuel (listed.setIfInBounds i true) (lZ σ d (Pn p q)) w) (ht:td.isRow=false:=by rfl) (hd:Nat.blt d n=true:=by rfl) (hs:Region.noSelect l.toArray=true:=by kernel_rfl) (hf:Region.free .any l.toArray listed i=true:=by kernel_rfl)
 (hr:(Region.ready .any l.toArray listed).contains i=true:=by kernel_rfl):AN P n l (fun w=>Hp w0 w L) k (fuel+1) listed σ w:=tV i hi hS hu j hx hj hc h ht hd hs hf hr
theorem oB{t:Nat}{a b:Bool}(h:fn.results=#[.tmp t])(he:a=b)(hH:Hp w0 w L)(hs:σ t=B a:=by rfl):Out P fn (fun u w'=>u=B b/\Below w0.heap.size w0 w') σ w:=Gg h (hs.trans (aK B he)) hH.below
theorem oI{t:Nat}{a b:Int}(h:fn.results=#[.tmp t])(he:a=b)(hH:Hp w0 w L)(hs:σ t=I a:=by rfl):Out P fn (fun u w'=>u=I b/\Below w0.heap.size w0 w') σ w:=Gg h (hs.trans (aK I he)) hH.below
theorem oU{t:Nat}{a b:BitVec 64}(h:fn.results=#[.tmp t])(he:a=b)(hH:Hp w0 w L)(hs:σ t=U a:=by rfl):Out P fn (fun u w'=>u=U b/\Below w0.heap.size w0 w') σ w:=Gg h (hs.trans (aK U he)) hH.below
end
end
section
open Go Go.RowKit Go.ChangeShapes Go.WideShapes Go.ChangeAt
theorem EH{H:Type}{enc:TypeId×Value->H}{P:Program}(hl:laidOutB P=true){W W':World}(hb:Below W.heap.size W W'):
  ∀{ts:List TypeId} {vs:List Value} {ds:List (DataW H)} {p:List MemPlace},(ts.all fun t=>P.readableRec t&&decide (t<P.types.size))=true->(∀x∈p,x.block<W.heap.size)->
   DataW.TrodAll enc P W 0 (fun _=>true) true ts vs ds p->DataW.TrodAll enc P W' 0 (fun b=>decide (b<W.heap.size)) true ts vs ds p
 |[],_,_,_,_,_,h=>by
  obtain⟨rfl,rfl,rfl⟩:=trodAll_nil h
  exact trodAll_mk0
 |t::ts,_,_,_,hr,hlt,h=>by
  obtain⟨v,EI,d,ds1,a,b,rfl,rfl,rfl,h1,h2⟩:=trodAll_cons h
  simp only[List.all_cons,cM,eD]at hr
  exact trodAll_cons_mk (Below.trod hl hr.1.1 hr.1.2 h1 hb fun x hx=>hlt x q7) (EH hl hb (by simpa using hr.2) (fun x hx=>hlt x q7) h2)
theorem ajA{H:Type}{enc:TypeId×Value->H}{P:Program}{f:FuncId}{fn:Func}{s:ChangeSpec}{W:World}{args:Array Value}{ds gs:List (DataW H)}{before:List MemPlace}{rt:TypeId}
  (hl:laidOutB P=true) (hro:(fn.params.toList.all fun t=>P.readableRec t&&decide (t<P.types.size))=true) (hrt:fn.resultTypes=#[rt]) (axS:P.underlying rt=some .bool) (hvars:s.vars=[])
  (hres:(s.fn H (ds++gs)).results=[.lit (.bool true)]) (hargs:(s.fn H (ds++gs)).args=ds) (hvs:(s.fn H (ds++gs)).vars=[])
  (hW:DataW.Whole enc P fn.params.toList s.vars false W args.toList ds gs before)
  (hc:Calls P f args W (Pure (B true) W)):
  Calls P f args W fun e W'=>∃v,e= .returned v/\s.post enc P fn false true false false W args v W':=by
 refine hc.mono fun e W' hr=> ?_
 cases e with
 |panicked c=>exact hr.elim
 |outgrown=>exact hr.elim
 |returned v=>
  obtain⟨rfl,hb⟩:=hr
  have hW':=hW
  obtain⟨p,q,hA,hV,rfl,_⟩:=hW
  have hlt:∀x∈p,x.block<W.heap.size:=fun x hx=>by simpa using hW'.lt x q7
  refine⟨_,rfl,ds,gs,_,[],p,[],hW',?_,?_,?_,hb.frame _,fun h=>mH⟩
  .rw[hres,hrt]
   exact trodAll_cons_mk (shut_bool axS _) trodAll_mk0
  .rw[hargs]
   exact EH hl hb hro hlt hA
  rw[hvs,hvars];rfl
theorem axU{n:Int}(h:(Lit.int .u64 n).wf=true):∃a:BitVec 64,n=(a.toNat:Int):=by
 simp[Lit.wf,IntKind.min,IntKind.max,IntKind.signed,IntKind.bits]at h
 refine⟨BitVec.ofInt 64 n,?_⟩
 rw[Rp];omega
end
section
open Go Go.RowKit Go.ChangeShapes Go.WideShapes Go.ChangeAt Go.Proofs.YtlhjdflgjbkpmaaGreatDoor.M
theorem ach{α:Type}(cells:α->List Value)(sz:Nat)(hsz:∀a,(cells a).length=sz):∀(l:List α) (j:Nat) (c:Value),(l.flatMap cells)[j]?=some c->∃i a r,l[i]?=some a/\j=i*sz+r/\r<sz/\(cells a)[r]?=some c
 |[],j,c,h=>by simp at h
 |a::l,j,c,h=>by
  rw[uC]at h
  by_cases hj:j<sz
  .rw[zD (by rw[hsz];exact hj)]at h
   exact⟨0,a,j,rfl,J,hj,h⟩
  rw[E1 (by rw[hsz];omega),hsz]at h
  obtain⟨i,b,r,h1,h2,h3,h4⟩:=ach cells sz hsz l _ c h
  exact⟨i+1,b,r,Fj,by rw[lz];omega,h3,h4⟩
theorem ajB{α:Type}(cells:α->List Value)(sz:Nat)(hsz:∀a,(cells a).length=sz)(l:List α):(l.flatMap cells).length=l.length*sz:=by
 induction l with
 |nil=>simp
 |cons a l ih=>rw[uC,ec,hsz,ih,fw,lz];omega
theorem qm{α H:Type}{enc:TypeId×Value->H}{P:Program}{w:World}{base:Nat}{sp:Nat->Bool}{held:Bool}{t e:TypeId}{A7:List Value}{x:DataW H×List MemPlace}{fuel sz:Nat}(cells:α->List Value)(ok:α->Prop)
  (hsz:∀a,(cells a).length=sz) (hpos:0<sz) (ht:P.underlying t=some (.slice e)) (hc:P.cellsOf e=sz)
  (hE:∀fuel cs x,DataW.trod enc P w base sp held fuel e cs=some x->∃a,cs=cells a/\ok a) (h:DataW.trod enc P w base sp held fuel t A7=some x):
  ∃(v:Value) (l:List α),A7=[v]/\Sl w v sz l.length (l.flatMap cells)/\(∀a∈l,ok a)/\v.cells=#[v]:=by
 rcases DataW.trod_slice ht h with⟨h1,-⟩|⟨a,len,cap,elems,rest,n,_,rfl,-,hb,hl,hm,hlen,hel,-,-⟩
 .exact⟨_,[],h1,Sl.nil w sz,fun a ha=>by simp at ha,rfl⟩
 have key:∀k,k<=len->∃l:List α,l.length=k/\∀i b,l[i]?=some b->w.cells? base (a.add (i*sz)) sz=some (cells b)/\ok b:=fun k=>by
  induction k with
  |zero=>exact fun _=>⟨[],rfl,fun i b hi=>by simp at hi⟩
  |succ k ih=>
   intro hk
   obtain⟨l,h1,h2⟩:=ih J
   have h3:=hel k J
   rw[eF (by omega:k<elems.length),Option.bind_eq_some_iff,hc]at h3
   obtain⟨cs,h4,h5⟩:=h3
   obtain⟨b,rfl,Xp⟩:=hE _ _ _ h5
   refine⟨l++[b],by simp[h1],fun i c hi=> ?_⟩
   by_cases hik:i<k
   .rw[zD J]at hi;exact h2 i c hi
   have:i=k:=by
    have:=(nX.1 hi).1
    simp[h1]at this;omega
   subst this
   rw[E1 J,h1]at hi
   simp at hi;subst hi;exact⟨h4,Xp⟩
 obtain⟨l,h1,h2⟩:=key len (fh _)
 refine⟨_,l,rfl,?_,fun b Xp=> ?_,rfl⟩
 .have ap0:0<len->a.spot=none:=fun h0=>by
   have h3:=(h2 0 (l.getD 0 (l[0]'J)) (by rw[eT,eF J];rfl)).1
   have h4:=(World.cells?_some h3).2.2 0 hpos
   rw[RH]at h4
   have h5:a.add 0=a\/a.spot=none:=by
    unfold Addr.add
    split
    .rename_i hs;exact .inl (by cases a;simp)
    rename_i hs;exact .inr (by cases hq:a.spot with
     |none=>rfl
     |some _=>simp_all)
   have hcs:((cells (l.getD 0 (l[0]'J)))[0]?)≠none:=by
    rw[Ne,List.getElem?_eq_none_iff,hsz];omega
   rcases h5 with h5|h5
   .rw[h5,h5]at h4
    unfold World.cell? at h4
    split at h4
    .split at h4
     .exact absurd h4.symm hcs
     rename_i hns;cases h6:a.spot with
     |none=>rfl
     |some _=>rw[h6]at hns;simp at hns
    exact absurd h4.symm hcs
   exact h5
  have axV:0<len->∀j,a.add j=⟨a.block,a.off+j,none⟩:=fun h0 j=>by
   have:=ap0 h0
   unfold Addr.add
   cases a;simp_all
  refine⟨⟨some a,cap,by rw[h1],by rw[h1];exact hl,fun h0=> ?_⟩,ajB cells sz hsz l,fun j c hj=> ?_,by rw[h1];omega⟩
  .rw[h1]at h0
   have:=ap0 h0
   cases a;simp_all [sb,so]
  obtain⟨i,b,r,hi,rfl,hr,hbr⟩:=ach cells sz hsz l j c hj
  have axW:0<len:=by have:=(nX.1 hi).1;omega
  have h6:=(World.cells?_some (h2 i b hi).1).2.2 r hr
  rw[axV axW,show(⟨a.block,a.off+i*sz,none⟩:Addr).add r=⟨a.block,a.off+i*sz+r,none⟩by simp[Addr.add]]at h6
  show w.cell? ⟨a.block,a.off+(i*sz+r),none⟩=some c
  rw[<-zH,h6,hbr]
 obtain⟨i,hi⟩:=List.getElem?_of_mem Xp
 exact(h2 i b hi).2
end
section
open Go Go.RowKit Go.ChangeShapes Go.WideShapes Go.ChangeAt Go.Deep Go.Proofs.YtlhjdflgjbkpmaaGreatDoor.M
theorem ajC{cs:List Value}(hl:cs.length=8)(h:∀i,i<8->∃a:BitVec 64,cs[i]?=some (U a)):∃e:El,cs=pJ e:=by
 have hf:∀i:Nat,∃a:BitVec 64,i<8->cs[i]?=some (U a):=fun i=>by
  by_cases hi:i<8
  .obtain⟨a,ha⟩:=h i hi;exact⟨a,fun _=>ha⟩
  exact⟨0#64,fun h=>absurd h hi⟩
 refine⟨fun i=>(hf i).choose,ug fun j=> ?_⟩
 by_cases hj:j<8
 .rw[(hf j).choose_spec hj];simp[pJ,hj]
 rw[og J,og (by rw[cY];omega)]
theorem anW(l:List Tx):l.flatMap (fun s=>[Value.string s])=JD l:=by
 induction l with
 |nil=>rfl
 |cons a l ih=>rw[uC,ih];rfl
structure ap1(P:Program)(t ti ta te:TypeId):Prop where
 u:∃f0 f1:Field,P.underlying t=some (.struct #[f0,f1])/\(f0.type=ti/\f0.offset=0)/\(f1.type=ta/\f1.offset=1)
 i:P.underlying ti=some (.int .i64)
 ci:P.cellsOf ti=1
 a:P.underlying ta=some (.array 64 te)
 e:P.underlying te=some (.int .u64)
 ce:P.cellsOf te=1
 ca:P.cellsOf ta=64
 z:P.cellsOf t=65
structure ap2(P:Program)(t tk ts tx tr ti ta te:TypeId):Prop where
 r:ap1 P tr ti ta te
 u:∃f0 f1 f2:Field,P.underlying t=some (.struct #[f0,f1,f2])/\(f0.type=tk/\f0.offset=0)/\(f1.type=ts/\f1.offset=1)/\(f2.type=tr/\f2.offset=2)
 k:P.underlying tk=some (.int .i64)
 ck:P.cellsOf tk=1
 s:P.underlying ts=some (.slice tx)
 cs:P.cellsOf ts=1
 x:P.underlying tx=some .string
 cx:P.cellsOf tx=1
 z:P.cellsOf t=67
structure ap3(P:Program)(t tb Kj tf tk ts tx tr ti ta te:TypeId):Prop where
 f:ap2 P tf tk ts tx tr ti ta te
 u:∃f0 f1:Field,P.underlying t=some (.struct #[f0,f1])/\(f0.type=tb/\f0.offset=0)/\(f1.type=Kj/\f1.offset=1)
 b:P.underlying tb=some .bool
 cb:P.cellsOf tb=1
 fs:P.underlying Kj=some (.slice tf)
 cfs:P.cellsOf Kj=1
 z:P.cellsOf t=2
section
variable{H:Type}{enc:TypeId×Value->H}{P:Program}{w:World}{base:Nat}{sp:Nat->Bool}{held:Bool}{fuel:Nat}{cs:List Value}{x:DataW H×List MemPlace}{t tb Kj tf tk ts tx tr ti ta te:TypeId}
theorem NN{n:Nat}(ht:P.underlying t=some (.array n te))(he:P.underlying te=some (.int .u64))(hc:P.cellsOf te=1)(hz:P.cellsOf t=n)(h:DataW.trod enc P w base sp held fuel t cs=some x):
  cs.length=n/\∀i,i<n->∃a:BitVec 64,cs[i]?=some (U a):=by
 obtain⟨xs,m,-,-,hl,hn,hel⟩:=DataW.trod_array ht h
 refine⟨by rw[hl,hz],fun i hi=> ?_⟩
 have h1:=hel i hi
 rw[hc,lX,eF J]at h1
 obtain⟨k,h2,-,wf⟩:=uh he h1
 obtain⟨a,rfl⟩:=axU wf
 have h3:((cs.drop i).take 1)[0]?=some (U a):=by rw[h2];rfl
 rw[u9,aX J,B5,LB]at h3
 exact⟨a,h3⟩
theorem aci(ht:P.underlying t=some (.array 8 te))(he:P.underlying te=some (.int .u64))(hc:P.cellsOf te=1)(hz:P.cellsOf t=8)(h:DataW.trod enc P w base sp held fuel t cs=some x):∃e:El,cs=pJ e/\True:=by
 obtain⟨h1,h2⟩:=NN ht he hc hz h
 obtain⟨e,rfl⟩:=ajC h1 h2
 exact⟨e,rfl,trivial⟩
theorem ajD(T:ap1 P t ti ta te)(h:DataW.trod enc P w base sp held fuel t cs=some x):∃r:Rl,cs=wJ r:=by
 obtain⟨f0,f1,ht,h0,h1⟩:=T.u
 obtain⟨y0,y1,n,-,hl,h2,h3⟩:=trod_struct2 ht h
 rw[h0.1,h0.2,T.ci]at h2
 rw[h1.1,h1.2,T.ca]at h3
 obtain⟨m,h4,-⟩:=uh T.i h2
 obtain⟨h5,h6⟩:=NN T.a T.e T.ce T.ca h3
 rw[T.z]at hl
 have hf:∀i:Nat,∃a:BitVec 64,i<64->cs[i+1]?=some (U a):=fun i=>by
  by_cases hi:i<64
  .obtain⟨a,ha⟩:=h6 i hi
   rw[u9,aX hi,B5,Nat.add_comm]at ha
   exact⟨a,fun _=>ha⟩
  exact⟨0#64,fun h=>absurd h hi⟩
 refine⟨⟨m,fun i=>(hf i).choose⟩,ug fun j=> ?_⟩
 match j with
 |0=>
  have h7:((cs.drop 0).take 1)[0]?=some (I m):=by rw[h4];rfl
  rw[u9,aX J,B5,LB]at h7
  rw[h7];rfl
 |j+1=>
  by_cases hj:j<64
  .rw[(hf j).choose_spec hj];simp[wJ,hj]
  rw[og J,og (by rw[pI];omega)]
theorem ajE(T:ap2 P t tk ts tx tr ti ta te)(h:DataW.trod enc P w base sp held fuel t cs=some x):∃f:qz,cs=sI f/\wL (Kw w) f:=by
 obtain⟨f0,f1,f2,ht,h0,h1,h2⟩:=T.u
 obtain⟨y0,y1,y2,n,-,hl,h3,h4,h5⟩:=trod_struct3 ht h
 rw[h0.1,h0.2,T.ck]at h3
 rw[h1.1,h1.2,T.cs]at h4
 rw[h2.1,h2.2,T.r.z]at h5
 obtain⟨m,e3,-⟩:=uh T.k h3
 obtain⟨v,l,e4,hs,-,-⟩:=qm (sz:=1) (fun s:Tx=>[Value.string s]) (fun _=>True) (fun _=>rfl) J T.s T.cx (fun _ _ _ hx=>by
  obtain⟨s,e,-⟩:=Ls T.x hx
  exact⟨s,e,trivial⟩) h4
 obtain⟨r,e5⟩:=ajD T.r h5
 rw[anW]at hs
 rw[T.z]at hl
 refine⟨⟨m,v,l,r⟩,?_,⟨hs.slv⟩⟩
 match cs,hl with
 |a::b::c,hl=>
  simp only[fw]at hl
  simp only[Lw,HE,xK,Ln]at e3 e4 e5
  rw[jm J]at e5
  rw[sI,e5,(List.cons.inj e3).1,(List.cons.inj e4).1]
theorem ajF(T:ap3 P t tb Kj tf tk ts tx tr ti ta te)(h:DataW.trod enc P w base sp held fuel t cs=some x):∃s:kR,cs=[B s.tuple,s.fv]/\k8 (Kw w) s:=by
 obtain⟨f0,f1,ht,h0,h1⟩:=T.u
 obtain⟨y0,y1,n,-,hl,h2,h3⟩:=trod_struct2 ht h
 rw[h0.1,h0.2,T.cb]at h2
 rw[h1.1,h1.2,T.cfs]at h3
 obtain⟨m,e2,-⟩:=DataW.trod_bool T.b h2
 obtain⟨v,l,e3,hs,hok,-⟩:=qm (sz:=67) sI (wL (Kw w)) fB J T.fs T.f.z (fun _ _ _ hx=>ajE T.f hx) h3
 rw[T.z]at hl
 refine⟨⟨m,v,l⟩,?_,⟨hs.slv,hok⟩⟩
 match cs,hl with
 |[a,b],_=>
  simp at e2 e3
  rw[e2,e3]
end
section
variable{P:Program}{w:World}{r:Reach}{b0:Nat}{t te:TypeId}{v:Value}
end
structure ap4(P:Program)(t tx ti:TypeId):Prop where
 u:∃f0 f1 f2:Field,P.underlying t=some (.struct #[f0,f1,f2])/\(f0.type=tx/\f0.offset=0)/\(f1.type=ti/\f1.offset=1)/\(f2.type=ti/\f2.offset=2)
 x:P.underlying tx=some .string
 cx:P.cellsOf tx=1
 i:P.underlying ti=some (.int .i64)
 ci:P.cellsOf ti=1
 z:P.cellsOf t=3
structure aKl(P:Program)(t ti:TypeId):Prop where
 u:∃f0 f1:Field,P.underlying t=some (.struct #[f0,f1])/\(f0.type=ti/\f0.offset=0)/\(f1.type=ti/\f1.offset=1)
 i:P.underlying ti=some (.int .i64)
 ci:P.cellsOf ti=1
 z:P.cellsOf t=2
structure ap5(P:Program)(t tsh tb Kj tf tk ts tx tr ti ta te:TypeId):Prop where
 s:ap3 P tsh tb Kj tf tk ts tx tr ti ta te
 u:∃f0 f1:Field,P.underlying t=some (.struct #[f0,f1])/\(f0.type=tx/\f0.offset=0)/\(f1.type=tsh/\f1.offset=1)
 z:P.cellsOf t=3
structure ap6(P:Program)(t tls tvs tv tl tsh tb Kj tf tk ts tx tr ti ta te:TypeId):Prop where
 l:ap5 P tl tsh tb Kj tf tk ts tx tr ti ta te
 v:ap4 P tv tx ti
 u:∃f0 f1:Field,P.underlying t=some (.struct #[f0,f1])/\(f0.type=tls/\f0.offset=0)/\(f1.type=tvs/\f1.offset=1)
 ls:P.underlying tls=some (.slice tl)
 vs:P.underlying tvs=some (.slice tv)
 cls:P.cellsOf tls=1
 cvs:P.cellsOf tvs=1
 z:P.cellsOf t=2
section
variable{H:Type}{enc:TypeId×Value->H}{P:Program}{w:World}{base:Nat}{sp:Nat->Bool}{held:Bool}{fuel:Nat}{cs:List Value}{x:DataW H×List MemPlace}{t tls tvs tv tl tsh tb Kj tf tk ts tx tr ti ta te:TypeId}
theorem ajG(T:ap4 P t tx ti)(h:DataW.trod enc P w base sp held fuel t cs=some x):∃v:vO,cs=O1 v/\True:=by
 obtain⟨f0,f1,f2,ht,h0,h1,h2⟩:=T.u
 obtain⟨y0,y1,y2,n,-,hl,h3,h4,h5⟩:=trod_struct3 ht h
 rw[h0.1,h0.2,T.cx]at h3
 rw[h1.1,h1.2,T.ci]at h4
 rw[h2.1,h2.2,T.ci]at h5
 obtain⟨a,e3,-⟩:=Ls T.x h3
 obtain⟨b,e4,-⟩:=uh T.i h4
 obtain⟨c,e5,-⟩:=uh T.i h5
 rw[T.z]at hl
 match cs,hl with
 |[u,v,z],_=>
  simp at e3 e4 e5
  exact⟨⟨a,b,c⟩,by rw[e3,e4,e5];rfl,trivial⟩
theorem ajH(T:ap5 P t tsh tb Kj tf tk ts tx tr ti ta te)(h:DataW.trod enc P w base sp held fuel t cs=some x):∃l:D3,cs=MP l/\k8 (Kw w) l.zx:=by
 obtain⟨f0,f1,ht,h0,h1⟩:=T.u
 obtain⟨y0,y1,n,-,hl,h3,h4⟩:=trod_struct2 ht h
 rw[h0.1,h0.2,T.s.f.cx]at h3
 rw[h1.1,h1.2,T.s.z]at h4
 obtain⟨a,e3,-⟩:=Ls T.s.f.x h3
 obtain⟨s,e4,hs⟩:=ajF T.s h4
 rw[T.z]at hl
 refine⟨⟨a,s⟩,?_,hs⟩
 match cs,hl with
 |[u,v,z],_=>
  simp at e3 e4
  rw[e3,e4.1,e4.2];rfl
theorem ajI(T:ap6 P t tls tvs tv tl tsh tb Kj tf tk ts tx tr ti ta te)(h:DataW.trod enc P w base sp held fuel t cs=some x):∃s:lM,cs=[s.lv,s.vv]/\D4 (Kw w) s:=by
 obtain⟨f0,f1,ht,h0,h1⟩:=T.u
 obtain⟨y0,y1,n,-,hl,h3,h4⟩:=trod_struct2 ht h
 rw[h0.1,h0.2,T.cls]at h3
 rw[h1.1,h1.2,T.cvs]at h4
 obtain⟨v,l,e3,hs,hok,-⟩:=qm (sz:=3) MP (fun l=>k8 (Kw w) l.zx) oz J T.ls T.l.z (fun _ _ _ hx=>ajH T.l hx) h3
 obtain⟨v2,l2,e4,hs2,-,-⟩:=qm (sz:=3) O1 (fun _=>True) tF J T.vs T.v.z (fun _ _ _ hx=>ajG T.v hx) h4
 rw[T.z]at hl
 refine⟨⟨v,l,v2,l2⟩,?_,⟨hs.slv,hs2.slv,hok⟩⟩
 match cs,hl with
 |[a,b],_=>
  simp at e3 e4
  rw[e3,e4]
end
structure ZT(P:Program)(t ti te tu:TypeId):Prop where
 u:∃f0 f1:Field,P.underlying t=some (.struct #[f0,f1])/\(f0.type=ti/\f0.offset=0)/\(f1.type=te/\f1.offset=1)
 i:P.underlying ti=some (.int .i64)
 ci:P.cellsOf ti=1
 e:P.underlying te=some (.array 8 tu)
 hu:P.underlying tu=some (.int .u64)
 cu:P.cellsOf tu=1
 ce:P.cellsOf te=8
 z:P.cellsOf t=9
structure acj(P:Program)(t ta tx ti te tu:TypeId):Prop where
 a:ZT P ta ti te tu
 u:∃f0 f1:Field,P.underlying t=some (.struct #[f0,f1])/\(f0.type=tx/\f0.offset=0)/\(f1.type=ta/\f1.offset=1)
 x:P.underlying tx=some .string
 cx:P.cellsOf tx=1
 z:P.cellsOf t=10
structure ap7(P:Program)(t Kj tf ta tx ti te tu:TypeId):Prop where
 f:acj P tf ta tx ti te tu
 u:∃f0 f1:Field,P.underlying t=some (.struct #[f0,f1])/\(f0.type=Kj/\f0.offset=0)/\(f1.type=ti/\f1.offset=1)
 fs:P.underlying Kj=some (.slice tf)
 cfs:P.cellsOf Kj=1
 z:P.cellsOf t=2
structure ap8(P:Program)(t ti te tu:TypeId):Prop where
 u:∃f0 f1 f2:Field,P.underlying t=some (.struct #[f0,f1,f2])/\(f0.type=ti/\f0.offset=0)/\(f1.type=ti/\f1.offset=1)/\(f2.type=te/\f2.offset=2)
 z:P.cellsOf t=10
structure ap9(P:Program)(t tcs tn tr Kj tf ta tx ti te tu:TypeId):Prop where
 r:ap7 P tr Kj tf ta tx ti te tu
 n:ap8 P tn ti te tu
 u:∃f0 f1 f2 f3 f4 f5 f6 f7:Field,P.underlying t=some (.struct #[f0,f1,f2,f3,f4,f5,f6,f7])/\(f0.type=ti/\f0.offset=0)/\(f1.type=ti/\f1.offset=1)/\(f2.type=tcs/\f2.offset=2)/\(f3.type=ta/\f3.offset=3)/\(f4.type=tr/\f4.offset=12)/\(f5.type=tr/\f5.offset=14)/\(f6.type=ti/\f6.offset=16)/\(f7.type=tx/\f7.offset=17)
 cs:P.underlying tcs=some (.slice tn)
 ccs:P.cellsOf tcs=1
 z:P.cellsOf t=18
structure ajJ(P:Program)(t tas tss anY anZ an0 an1 an2 an3 an4 an5 an6 ack acm acn aco acp ajK tcs tn tr Kj tf ta tx ti te tu:TypeId):Prop where
 a:ap9 P ajK tcs tn tr Kj tf ta tx ti te tu
 s:ap6 P tss anY anZ an0 an1 an2 an3 an4 an5 an6 ack acm acn aco acp tu
 u:∃f0 f1:Field,P.underlying t=some (.struct #[f0,f1])/\(f0.type=tss/\f0.offset=0)/\(f1.type=tas/\f1.offset=2)
 HC:P.underlying tas=some (.slice ajK)
 cas:P.cellsOf tas=1
 z:P.cellsOf t=3
section
variable{H:Type}{enc:TypeId×Value->H}{P:Program}{w:World}{base:Nat}{sp:Nat->Bool}{held:Bool}{fuel:Nat}{cs:List Value}{x:DataW H×List MemPlace}{t tas ajK tcs tn tr Kj tf ta tx ti te tu tss anY anZ an0 an1 an2 an3 an4 an5 an6 ack acm acn aco acp:TypeId}
theorem QL(T:ZT P t ti te tu)(h:DataW.trod enc P w base sp held fuel t cs=some x):∃a:iT,cs=jJ a/\True:=by
 obtain⟨f0,f1,ht,h0,h1⟩:=T.u
 obtain⟨y0,y1,n,-,hl,h3,h4⟩:=trod_struct2 ht h
 rw[h0.1,h0.2,T.ci]at h3
 rw[h1.1,h1.2,T.ce]at h4
 obtain⟨b,e3,-⟩:=uh T.i h3
 obtain⟨c,e4,-⟩:=aci T.e T.hu T.cu T.ce h4
 rw[T.z]at hl
 match cs,hl with
 |u::cs,hl=>
  simp at e3 hl
  refine⟨⟨b,c⟩,?_,trivial⟩
  rw[Ln,Lw,jm J]at e4
  rw[e3,e4];rfl
theorem ZU(T:acj P t ta tx ti te tu)(h:DataW.trod enc P w base sp held fuel t cs=some x):∃a:lD,cs=uv a/\True:=by
 obtain⟨f0,f1,ht,h0,h1⟩:=T.u
 obtain⟨y0,y1,n,-,hl,h3,h4⟩:=trod_struct2 ht h
 rw[h0.1,h0.2,T.cx]at h3
 rw[h1.1,h1.2,T.a.z]at h4
 obtain⟨b,e3,-⟩:=Ls T.x h3
 obtain⟨c,e4,-⟩:=QL T.a h4
 rw[T.z]at hl
 match cs,hl with
 |u::cs,hl=>
  simp at e3 hl
  refine⟨⟨b,c⟩,?_,trivial⟩
  rw[Ln,Lw,jm J]at e4
  rw[e3,e4];rfl
theorem QM(T:ap7 P t Kj tf ta tx ti te tu)(h:DataW.trod enc P w base sp held fuel t cs=some x):∃r:BA,cs=SE r/\Y8 (Kw w) r:=by
 obtain⟨f0,f1,ht,h0,h1⟩:=T.u
 obtain⟨y0,y1,n,-,hl,h3,h4⟩:=trod_struct2 ht h
 rw[h0.1,h0.2,T.cfs]at h3
 rw[h1.1,h1.2,T.f.a.ci]at h4
 obtain⟨v,l,e3,hs,-,-⟩:=qm (sz:=10) uv (fun _=>True) sK J T.fs T.f.z (fun _ _ _ hx=>ZU T.f hx) h3
 obtain⟨b,e4,-⟩:=uh T.f.a.i h4
 rw[T.z]at hl
 refine⟨⟨v,l,b⟩,?_,⟨hs.slv⟩⟩
 match cs,hl with
 |[a,c],_=>
  simp at e3 e4
  rw[e3,e4];rfl
theorem ajL(A:ZT P ta ti te tu)(T:ap8 P t ti te tu)(h:DataW.trod enc P w base sp held fuel t cs=some x):∃a:dV,cs=kg a/\True:=by
 obtain⟨f0,f1,f2,ht,h0,h1,h2⟩:=T.u
 obtain⟨y0,y1,y2,n,-,hl,h3,h4,h5⟩:=trod_struct3 ht h
 rw[h0.1,h0.2,A.ci]at h3
 rw[h1.1,h1.2,A.ci]at h4
 rw[h2.1,h2.2,A.ce]at h5
 obtain⟨a,e3,-⟩:=uh A.i h3
 obtain⟨b,e4,-⟩:=uh A.i h4
 obtain⟨c,e5,-⟩:=aci A.e A.hu A.cu A.ce h5
 rw[T.z]at hl
 match cs,hl with
 |u::v::cs,hl=>
  simp at e3 e4 hl
  refine⟨⟨a,b,c⟩,?_,trivial⟩
  rw[Ln,Ln,Lw,jm J]at e5
  rw[e3,e4,e5];rfl
theorem ajM(T:ap9 P t tcs tn tr Kj tf ta tx ti te tu)(h:DataW.trod enc P w base sp held fuel t cs=some x):∃a:iO,cs=uR a/\J8 (Kw w) a:=by
 obtain⟨f0,f1,f2,f3,f4,f5,f6,f7,ht,h0,h1,h2,h3,h4,h5,h6,h7⟩:=T.u
 obtain⟨xs,n,hfu,rfl,hl,hlen,hf⟩:=DataW.trod_struct ht h
 have g0:=hf 0 f0 O
 have g1:=hf 1 f1 O
 have g2:=hf 2 f2 O
 have g3:=hf 3 f3 O
 have g4:=hf 4 f4 O
 have g5:=hf 5 f5 O
 have g6:=hf 6 f6 O
 have g7:=hf 7 f7 O
 match xs,hlen with
 |[y0,y1,y2,y3,y4,y5,y6,y7],_=>
  simp only[List.getElem?_cons_zero,List.getElem?_cons_succ]at g0 g1 g2 g3 g4 g5 g6 g7
  rw[h0.1,h0.2,T.r.f.a.ci]at g0
  rw[h1.1,h1.2,T.r.f.a.ci]at g1
  rw[h2.1,h2.2,T.ccs]at g2
  rw[h3.1,h3.2,T.r.f.a.z]at g3
  rw[h4.1,h4.2,T.r.z]at g4
  rw[h5.1,h5.2,T.r.z]at g5
  rw[h6.1,h6.2,T.r.f.a.ci]at g6
  rw[h7.1,h7.2,T.r.f.cx]at g7
  obtain⟨op,e0,-⟩:=uh T.r.f.a.i g0
  obtain⟨bf,e1,-⟩:=uh T.r.f.a.i g1
  obtain⟨cv,code,e2,hc,-,-⟩:=qm (sz:=10) kg (fun _=>True) gP J T.cs T.n.z (fun _ _ _ hx=>ajL T.r.f.a T.n hx) g2
  obtain⟨to,e3,-⟩:=QL T.r.f.a g3
  obtain⟨a,e4,ha⟩:=QM T.r g4
  obtain⟨b,e5,hb⟩:=QM T.r g5
  obtain⟨var,e6,-⟩:=uh T.r.f.a.i g6
  obtain⟨field,e7,-⟩:=Ls T.r.f.x g7
  rw[T.z]at hl
  refine⟨⟨op,bf,cv,code,to,a,b,var,field⟩,?_,⟨hc.slv,ha,hb⟩⟩
  match cs,hl with
  |[u0,u1,u2,v0,v1,v2,v3,v4,v5,v6,v7,v8,a0,a1,b0,b1,z0,z1],_=>
   simp[SE]at e0 e1 e2 e3 e4 e5 e6 e7
   rw[e0,e1,e2,e4.1,e4.2,e5.1,e5.2,e6,e7]
   show _=I op::I bf::cv::(jJ to++_)
   rw[<-e3];rfl
theorem aeA(T:ajJ P t tas tss anY anZ an0 an1 an2 an3 an4 an5 an6 ack acm acn aco acp ajK tcs tn tr Kj tf ta tx ti te tu)(h:DataW.trod enc P w base sp held fuel t cs=some x):∃p:n7,cs=xh p/\vS (Kw w) p:=by
 obtain⟨f0,f1,ht,h0,h1⟩:=T.u
 obtain⟨y0,y1,n,-,hl,h3,h4⟩:=trod_struct2 ht h
 rw[h0.1,h0.2,T.s.z]at h3
 rw[h1.1,h1.2,T.cas]at h4
 obtain⟨s,e3,hs⟩:=ajI T.s h3
 obtain⟨v,l,e4,ha,hok,-⟩:=qm (sz:=18) uR (fun x=>J8 (Kw w) x) vR J T.HC T.a.z (fun _ _ _ hx=>ajM T.a hx) h4
 rw[T.z]at hl
 refine⟨⟨s,v,l⟩,?_,⟨hs,ha.slv,hok⟩⟩
 match cs,hl with
 |[a,b,c],_=>
  simp at e3 e4
  rw[e3.1,e3.2,e4];rfl
theorem aeB{r:Reach}{b0:Nat}{v:Value}{d:DataW H}{ps:List MemPlace}(T:ajJ P t tas tss anY anZ an0 an1 an2 an3 an4 an5 an6 ack acm acn aco acp ajK tcs tn tr Kj tf ta tx ti te tu)(hval:Value.okWide P w r b0 t v)(hd:DataW.Trod enc P w base sp held t v d ps):∃p:n7,v= .agg (xh p).toArray/\vS (Kw w) p:=by
 obtain⟨f0,f1,ht,-⟩:=T.u
 obtain⟨cs,rfl,-⟩:=okWide_struct ht hval
 obtain⟨fuel,h⟩:=hd
 obtain⟨s,h1,h2⟩:=aeA T h
 refine⟨s,?_,h2⟩
 congr 1
 exact RM h1
end
end
end Go.Proofs.YtlhjdflgjbkpmaaGreatDoor.E

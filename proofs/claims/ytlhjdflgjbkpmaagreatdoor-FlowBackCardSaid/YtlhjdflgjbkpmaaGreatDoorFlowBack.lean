/-
  The law clearancelaw24.FlowBack of the given program returns true whatever it is given, and leaves its arguments as they were.
  It has no condition.
-/
import Derived.Test.YtlhjdflgjbkpmaaGreatDoorFlowBackPartG
import Derived.Test.YtlhjdflgjbkpmaaGreatDoorFlowBackClosed
set_option linter.all false
namespace Go.Proofs.YtlhjdflgjbkpmaaGreatDoor.flowBack
open Go Go.ChangeShapes Go.WideShapes Go.ChangeAt Go.RowKit Go.Proofs.YtlhjdflgjbkpmaaGreatDoor.E Go.Proofs.YtlhjdflgjbkpmaaGreatDoor.M Go.Proofs.YtlhjdflgjbkpmaaGreatDoor.W
theorem own:ownKnob Tryz.prog.godebug=none:=by kernel_rfl
theorem laidOut:laidOutB Tryz.prog=true:=by kernel_rfl
theorem gTab:Tryz.prog.globalNamed "math/bits.deBruijn64tab" =some 0:=by kernel_rfl
theorem gTabType:(Tryz.prog.globals[0]?).map (·.type)=some 280:=by kernel_rfl
theorem cells280:Tryz.prog.cellsOf 280=64:=by kernel_rfl
theorem cells5:Tryz.prog.cellsOf 5=1:=by kernel_rfl
theorem table{W:World}(h:laidMetH Tryz.prog Rows.flowBackRow.laid W):Lib.TabIs Tryz.prog W "math/bits.deBruijn64tab" .u8 zZ:=
 Lib.tabIs_of_head (rest:=[]) gTab gTabType Tryz.underlying280 Tryz.underlying5 cells5 cells280 h
set_option maxRecDepth 100000 in
theorem contract(H:Type)(enc:TypeId×Value→H)(W:World)(base:Nat)(args:Array Value)(ds gs:List (DataW H))(before:List MemPlace)
  (hval:∀(j:Nat) t v,Tryz.f7.params[j]?=some t→args[j]?=some v→Value.okWide Tryz.prog W .any base t v)
  (hW:DataW.Whole enc Tryz.prog Tryz.f7.params.toList Rows.flowBackSpec.vars false W args.toList ds gs before) (hL:laidMetH Tryz.prog Rows.flowBackRow.laid W):
  Calls Tryz.prog 7 args W fun e W'=>∃v,e= .returned v∧Rows.flowBackSpec.post enc Tryz.prog Tryz.f7 false true false false W args v W':=by
 have hW':=hW
 obtain⟨p,q,hA0,hV,rfl,hfz,hnd⟩:=hW
 have hA:DataW.TrodAll enc Tryz.prog W 0 (fun _=>true) true Tryz.f7.params.toList args.toList ds p:=hA0
 clear hA0
 rw[Tryz.params7]at hA hval
 obtain⟨v0,vs0,d0,ds0,p0,q0,hargs,rfl,rfl,h0,r0⟩:=trodAll_cons hA
 obtain⟨v1,ME,d1,ds1,p1,q1,rfl,rfl,rfl,h1,r1⟩:=trodAll_cons r0
 obtain⟨v2,vs2,d2,ds2,p2,q2,rfl,rfl,rfl,h2,r2⟩:=trodAll_cons r1
 obtain⟨rfl,rfl,rfl⟩:=trodAll_nil r2
 obtain rfl:args=#[v0,v1,v2]:=by cases args;simp_all
 obtain⟨rfl,rfl⟩:=trodVars_none hV
 refine aix laidOut (by kernel_rfl) O Tryz.underlying4 O O O O hW' ?_
 clear hW' hV hfz hnd
 obtain⟨a0,rfl,hs0⟩:=ada (show aiG Tryz.prog 28 26 25 22 23 63 58 56 4 54 88 3 83 9 86 3 84 44 34 90 42 40 143 39 9 3 37 35 from⟨⟨⟨⟨⟨⟨_,_,Tryz.underlying39,⟨rfl,rfl⟩,⟨rfl,rfl⟩⟩,Tryz.underlying3,by kernel_rfl,Tryz.underlying37,Tryz.underlying35,by kernel_rfl,by kernel_rfl,by kernel_rfl⟩,⟨_,_,Tryz.underlying143,⟨rfl,rfl⟩,⟨rfl,rfl⟩⟩,Tryz.underlying9,by kernel_rfl,by kernel_rfl⟩,⟨_,_,Tryz.underlying42,⟨rfl,rfl⟩,⟨rfl,rfl⟩⟩,Tryz.underlying40,by kernel_rfl,by kernel_rfl⟩,⟨⟨_,_,_,Tryz.underlying90,⟨rfl,rfl⟩,⟨rfl,rfl⟩,⟨rfl,rfl⟩⟩,by kernel_rfl⟩,⟨_,_,_,_,_,_,_,_,Tryz.underlying44,⟨rfl,rfl⟩,⟨rfl,rfl⟩,⟨rfl,rfl⟩,⟨rfl,rfl⟩,⟨rfl,rfl⟩,⟨rfl,rfl⟩,⟨rfl,rfl⟩,⟨rfl,rfl⟩⟩,Tryz.underlying34,by kernel_rfl,by kernel_rfl⟩,⟨⟨⟨⟨⟨⟨_,_,Tryz.underlying86,⟨rfl,rfl⟩,⟨rfl,rfl⟩⟩,Tryz.underlying3,by kernel_rfl,Tryz.underlying84,Tryz.underlying35,by kernel_rfl,by kernel_rfl,by kernel_rfl⟩,⟨_,_,_,Tryz.underlying88,⟨rfl,rfl⟩,⟨rfl,rfl⟩,⟨rfl,rfl⟩⟩,Tryz.underlying3,by kernel_rfl,Tryz.underlying83,by kernel_rfl,Tryz.underlying9,by kernel_rfl,by kernel_rfl⟩,⟨_,_,Tryz.underlying56,⟨rfl,rfl⟩,⟨rfl,rfl⟩⟩,Tryz.underlying4,by kernel_rfl,Tryz.underlying54,by kernel_rfl,by kernel_rfl⟩,⟨_,_,Tryz.underlying58,⟨rfl,rfl⟩,⟨rfl,rfl⟩⟩,by kernel_rfl⟩,⟨⟨_,_,_,Tryz.underlying63,⟨rfl,rfl⟩,⟨rfl,rfl⟩,⟨rfl,rfl⟩⟩,Tryz.underlying9,by kernel_rfl,Tryz.underlying3,by kernel_rfl,by kernel_rfl⟩,⟨_,_,Tryz.underlying25,⟨rfl,rfl⟩,⟨rfl,rfl⟩⟩,Tryz.underlying22,Tryz.underlying23,by kernel_rfl,by kernel_rfl,by kernel_rfl⟩,⟨_,_,Tryz.underlying28,⟨rfl,rfl⟩,⟨rfl,rfl⟩⟩,Tryz.underlying26,by kernel_rfl,by kernel_rfl⟩) (hval 0 28 v0 O O) h0
 obtain⟨a1,rfl,rfl,rfl,wf1⟩:=open_int Tryz.underlying5 (hval 1 5 v1 O O) h1
 have bd1:=wf_u8 wf1
 obtain⟨a2,rfl,rfl,rfl,wf2⟩:=open_int Tryz.underlying5 (hval 2 5 v2 O O) h2
 have bd2:=wf_u8 wf2
 have hT:oh W:=fun j hj=>by
  have h1:=(table hL).cell gTab j hj
  exact h1
 exact vZ a0 a1 a2 bd1 bd2 W hs0 hT
def wargs:Array Value:=#[.agg #[.slice none 0 0,.slice none 0 0,.slice none 0 0],.int .u8 0,.int .u8 0]
noncomputable def laidWorld(os:Os):World:=
 {World.holding Tryz.prog os ⟨#[],#[],[]⟩with heap:=(World.holding Tryz.prog os ⟨#[],#[],[]⟩).heap.modify 0 fun
  | .cells _ t frozen=> .cells #[.int .u8 0,.int .u8 1,.int .u8 56,.int .u8 2,.int .u8 57,.int .u8 49,.int .u8 28,.int .u8 3,.int .u8 61,.int .u8 58,.int .u8 42,.int .u8 50,.int .u8 38,.int .u8 29,.int .u8 17,.int .u8 4,.int .u8 62,.int .u8 47,.int .u8 59,.int .u8 36,.int .u8 45,.int .u8 43,.int .u8 51,.int .u8 22,.int .u8 53,.int .u8 39,.int .u8 33,.int .u8 30,.int .u8 24,.int .u8 18,.int .u8 12,.int .u8 5,.int .u8 63,.int .u8 55,.int .u8 48,.int .u8 27,.int .u8 60,.int .u8 41,.int .u8 37,.int .u8 16,.int .u8 46,.int .u8 35,.int .u8 44,.int .u8 21,.int .u8 52,.int .u8 32,.int .u8 23,.int .u8 11,.int .u8 54,.int .u8 26,.int .u8 40,.int .u8 15,.int .u8 34,.int .u8 20,.int .u8 31,.int .u8 10,.int .u8 25,.int .u8 14,.int .u8 19,.int .u8 9,.int .u8 13,.int .u8 8,.int .u8 7,.int .u8 6] t frozen
  |o=>o}
theorem laid_met(os:Os):laidMet Tryz.prog Rows.flowBackRow.laid ((laidWorld os).forCall (fun _ _=>0) ⟨#[],wargs,[]⟩).memory:=
 laidMet_of_run' 8 (by kernel_rfl) (by kernel_rfl)
theorem reads(os:Os){H:Type}(enc:TypeId×Value→H):∃places,DataW.whole enc Tryz.prog ((laidWorld os).forCall (fun _ _=>0) ⟨#[],wargs,[]⟩).memory Tryz.f7.params.toList Rows.flowBackSpec.vars false wargs.toList 8=some ([.agg [.agg [.nil,.nil],.nil],.lit (.int .u8 0),.lit (.int .u8 0)],[],places):=
 ⟨[],by kernel_rfl⟩
set_option maxRecDepth 100000 in
theorem lifted(os:Os)(started:os.Started)(H:Type)(enc:TypeId×Value→H)(F:Stop.Interp):
  ReturnsInHanded {} Tryz.checked os 7 .any ((OpenSpec.ofChange Rows.flowBackSpec).preRow enc Tryz.prog Tryz.f7 Rows.flowBackRow.domain false Rows.flowBackRow.laid) (((OpenSpec.ofChange Rows.flowBackSpec).at F).post enc Tryz.prog Tryz.f7 false true false false):=by
 obtain⟨places,hx⟩:=reads os enc
 refine returnsInHanded_of_row (C:=Tryz.checked) (s:=OpenSpec.ofChange Rows.flowBackSpec) own started (by kernel_rfl) Tryz.func7
  (witness_row_at (enc:=enc) (C:=Tryz.checked) false (laidWorld os) wargs O (by kernel_rfl) (by kernel_rfl) (by kernel_rfl)
   (OpenSpec.preRow_of_cond 8 hx (by kernel_rfl) (fun k hk=>by cases hk) (by kernel_rfl) (laid_met os))) ?_
 intro W base args ds gs before hval hW _ hcond _ hL _ _
 exact contract H enc W base args ds gs before hval hW hL
theorem said:Rows.FlowBackSaid:=
 OpenClaim.holds_of_cond 7 Tryz.f7 O O O O O O O ⟨rfl,rfl,rfl,rfl,rfl⟩ O O O O O (by kernel_rfl) Tryz.func7 closed
  (Kh (by kernel_rfl)) (by unfold Func.isWrapper;first|(rw[aQ (by decide+kernel)];kernel_rfl)|(rw[aP (by decide+kernel)];exact⟨rfl,rfl⟩))
  (fun os started H enc _ F=>by rw[OpenClaim.pre_eq_preRow];exact lifted os started H enc F)
theorem plain(f:FuncId)(fn:Func)(hf:Tryz.pinned.checked.prog.funcNamed "clearance/clearancelaw24.FlowBack" =some f)(hfn:Tryz.pinned.checked.prog.funcs[f]?=some fn):
  false=Tryz.pinned.checked.prog.looks []∧∀(j:Nat) t,fn.params[j]?=some t→Tryz.pinned.checked.prog.wantsStandIn t=false:=by
 obtain rfl:f=7:=Option.some.inj ((show Tryz.prog.funcNamed "clearance/clearancelaw24.FlowBack" =some 7 by kernel_rfl).symm.trans hf)|>.symm
 obtain rfl:fn=Tryz.f7:=(Option.some.inj (Tryz.func7.symm.trans hfn)).symm
 refine⟨by kernel_rfl,fun j t ht=> ?_⟩
 rw[Tryz.params7]at ht
 have hm:t∈(#[28,5,5]:Array TypeId):=Array.mem_of_getElem? ht
 have hall:((#[28,5,5]:Array TypeId).toList.all fun t=> !Tryz.prog.wantsStandIn t)=true:=by kernel_rfl
 have:=iC.1 hall t (by simpa using hm)
 have h2:Tryz.prog.wantsStandIn t=false:=by simpa using this
 exact h2
theorem proved:Rows.FlowBackCardSaid:=
 Claim7.holds_tied_plain_at .later [] _ _ _ _ said (fun _ h=>by cases h) (by kernel_rfl) (fun _ h=>by cases h) flowBack_row_tie O ⟨rfl,rfl⟩ (by kernel_rfl) O plain (by kernel_rfl)
#print axioms proved
end Go.Proofs.YtlhjdflgjbkpmaaGreatDoor.flowBack

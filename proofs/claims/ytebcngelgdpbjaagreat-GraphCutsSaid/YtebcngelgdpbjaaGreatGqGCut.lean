/- 'GraphCuts': whatever the input, the law returns true, and everything that was there reads as it did. No condition. -/
import Derived.Test.YtebcngelgdpbjaaGreatGq34
set_option linter.all false
section
namespace Go.Proofs.YtebcngelgdpbjaaGreat.graphCuts
open Go.ChangeShapes Go.WideShapes Go.ChangeAt Go.RowKit
set_option maxRecDepth 100000 in
theorem row {H:Type} (enc:TypeId×Value->H) {W:World} {base:Nat} {args:Array Value} {ds gs:List (DataW H)} {before:List MemPlace}
  (hval:∀(j:Nat) t v,Tryz.f4.params[j]?=some t->args[j]?=some v->Value.okWide Tryz.prog W .any base t v)
  (hW:DataW.Whole enc Tryz.prog Tryz.f4.params.toList Rows.graphCutsSpec.vars false W args.toList ds gs before) :
  Calls Tryz.prog 4 args W fun e W'=>∃v,e=.returned v/\Rows.graphCutsSpec.post enc Tryz.prog Tryz.f4 false true false false W args v W':=by
 have hW':=hW
 obtain ⟨p,q,hA,hV,rfl,_,_⟩:=hW
 obtain ⟨v0,vs0,d0,ds0,p0,q0,hargs,rfl,rfl,h0,r0⟩:=trodAll_cons (show DataW.TrodAll enc Tryz.prog W 0 (fun _=>true) true [22,3,26,47] args.toList ds p from hA)
 obtain ⟨v1,vs1,d1,ds1,p1,q1,rfl,rfl,rfl,h1,r1⟩:=trodAll_cons r0
 obtain ⟨v2,vs2,d2,ds2,p2,q2,rfl,rfl,rfl,h2,r2⟩:=trodAll_cons r1
 obtain ⟨v3,vs3,d3,ds3,p3,q3,rfl,rfl,rfl,h3,r3⟩:=trodAll_cons r2
 obtain ⟨rfl,rfl,rfl⟩:=trodAll_nil r3
 obtain rfl:args = #[v0,v1,v2,v3]:=by cases args;simp_all
 obtain ⟨rfl,rfl⟩:=trodVars_none hV
 obtain ⟨a0',n0,c0,rfl⟩:=Go.WideShapes.okWide_slice Tryz.underlying22 (hval 0 22 v0 rfl rfl)
 obtain ⟨f0,hf0⟩:=h0
 obtain ⟨w0,e0,ts0,cc0,sv0,sl0,sc0,st0⟩:=zSe hf0
 obtain rfl:Value.slice a0' n0 c0=w0:=by
  simp [Value.cells]at e0
  exact e0
 obtain ⟨i1,rfl⟩:=Go.WideShapes.okWide_int Tryz.underlying3 (hval 1 3 v1 rfl rfl)
 obtain ⟨f1,hf1⟩:=h1
 have bi1:=QXC hf1
 obtain ⟨a2',n2,c2,rfl⟩:=Go.WideShapes.okWide_slice Tryz.underlying26 (hval 2 26 v2 rfl rfl)
 obtain ⟨f2,hf2⟩:=h2
 obtain ⟨w2,e2,⟨xs2,sa2⟩⟩:=z9H hf2
 obtain rfl:Value.slice a2' n2 c2=w2:=by
  simp [Value.cells]at e2
  exact e2
 obtain ⟨c3,rfl,_⟩:=Go.WideShapes.okWide_struct Tryz.underlying47 (hval 3 47 v3 rfl rfl)
 obtain ⟨f3,hf3⟩:=h3
 obtain ⟨i3,k3,e3,bi3,bk3⟩:=qJX hf3
 obtain rfl:c3 = #[.int .i64 i3,.int .i64 k3]:=by
  apply Array.toList_inj.1
  simpa [Value.cells] using e3
 have In0:=In.nil (K:=KC Tryz.prog) W
 obtain ⟨ρe,he,se,Me,I0,vre,rde,oke,cpe,exe⟩:=In0.evs sv0 sl0 sc0 st0
 obtain ⟨x0,s0,B0,I1,vr0,rd0,ex0,cp0⟩:=I0.sl (r:=intR) zDi sa2
 refine (KAv I1 (VL.cons (vre.ext (ex0)) (VL.cons (.i _ _) (VL.cons vr0 (VL.cons (q2N (VL.cons (.i _ _) (VL.one (.i _ _)))) (VL.nil _))))) (XKF I1.hz (rde.app [B0]) cpe rd0 i1 i3 k3).c).mono ?_
 rintro e W' ⟨rfl,hk⟩
 exact ⟨_,rfl,K1O Tryz.laidOut Tryz.underlying4 rfl rfl rfl (by kernel_rfl) hW' hk⟩
end Go.Proofs.YtebcngelgdpbjaaGreat.graphCuts
end
section
namespace Go.Proofs.YtebcngelgdpbjaaGreat.graphCuts
open Go.ChangeShapes Go.WideShapes Go.ChangeAt Go.RowKit
set_option maxRecDepth 100000 in
theorem qea (os:Os) (started:os.Started) (H:Type) (enc:TypeId×Value->H) :
  ReturnsInHanded {} Tryz.checked os 4 .any (Rows.graphCutsSpec.pre6 enc Tryz.prog Tryz.f4 Rows.graphCutsRow.domain false) (Rows.graphCutsSpec.post enc Tryz.prog Tryz.f4 false true false false):=by
 refine returnsInHanded_of_change (C:=Tryz.checked) Tryz.own started (by kernel_rfl) Tryz.func4
  (ChangeSpec.witness6 (enc:=enc) (C:=Tryz.checked) false ⟨#[],#[.slice none 0 0,.int .i64 0,.slice none 0 0,.agg #[.int .i64 0,.int .i64 0]],[]⟩ 8 (by kernel_rfl) (by kernel_rfl) (by kernel_rfl) (by kernel_rfl)) ?_
 intro W base args ds gs before hval0 hW hcnd _
 have hval:∀(j:Nat) t v,Tryz.f4.params[j]?=some t->args[j]?=some v->Value.okWide Tryz.prog W .any base t v:=hval0
 exact row enc hval hW
theorem over:Rows.graphCutsRow.holds Tryz.pinned (OpenSpec.ofChange Rows.graphCutsSpec):=
 OpenClaim.holds_of_wide 4 Tryz.f4 rfl rfl rfl rfl rfl rfl rfl ⟨rfl,rfl,rfl,rfl,rfl⟩ rfl rfl rfl rfl rfl (by kernel_rfl) Tryz.func4 (by kernel_rfl)
  (of_decide_eq_true (by kernel_rfl)) (by unfold Func.isWrapper;first|(rw[if_pos (by decide +kernel)];kernel_rfl)|(rw[if_neg (by decide +kernel)];exact ⟨rfl,rfl⟩))
  (fun os started H enc _=>qea os started H enc)
theorem proved:Rows.GraphCutsSaid:=over
#print axioms proved
end Go.Proofs.YtebcngelgdpbjaaGreat.graphCuts
end

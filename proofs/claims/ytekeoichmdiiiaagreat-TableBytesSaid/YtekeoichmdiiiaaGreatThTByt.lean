/- 'TableBytes': whatever the input, the law returns true, and everything that was there reads as it did. No condition. -/
import Derived.Test.YtekeoichmdiiiaaGreatTh34
set_option linter.all false
section
namespace Go.Proofs.YtekeoichmdiiiaaGreat.tableBytes
open Go.ChangeShapes Go.WideShapes Go.ChangeAt Go.RowKit
set_option maxRecDepth 100000 in
theorem row {H:Type} (enc:TypeId×Value->H) {W:World} {base:Nat} {args:Array Value} {ds gs:List (DataW H)} {before:List MemPlace}
  (hval:∀(j:Nat) t v,Tryz.f7.params[j]?=some t->args[j]?=some v->Value.okWide Tryz.prog W .any base t v)
  (hW:DataW.Whole enc Tryz.prog Tryz.f7.params.toList Rows.tableBytesSpec.vars false W args.toList ds gs before) :
  Calls Tryz.prog 7 args W fun e W'=>∃v,e=.returned v/\Rows.tableBytesSpec.post enc Tryz.prog Tryz.f7 false true false false W args v W':=by
 have hW':=hW
 obtain ⟨p,q,hA,hV,rfl,_,_⟩:=hW
 obtain ⟨v0,vs0,d0,ds0,p0,q0,hargs,rfl,rfl,h0,r0⟩:=trodAll_cons (show DataW.TrodAll enc Tryz.prog W 0 (fun _=>true) true [25,32] args.toList ds p from hA)
 obtain ⟨v1,vs1,d1,ds1,p1,q1,rfl,rfl,rfl,h1,r1⟩:=trodAll_cons r0
 obtain ⟨rfl,rfl,rfl⟩:=trodAll_nil r1
 obtain rfl:args = #[v0,v1]:=by cases args;simp_all
 obtain ⟨rfl,rfl⟩:=trodVars_none hV
 obtain ⟨c0,rfl,_⟩:=Go.WideShapes.okWide_struct Tryz.underlying25 (hval 0 25 v0 rfl rfl)
 obtain ⟨f0,hf0⟩:=h0
 obtain ⟨a0,b0,e0,⟨xs0,sa0⟩,⟨ts0,sb0⟩⟩:=Xvh hf0
 obtain rfl:c0 = #[a0,b0]:=by
  apply Array.toList_inj.1
  simpa [Value.cells] using e0
 obtain ⟨a1',n1,c1,rfl⟩:=Go.WideShapes.okWide_slice Tryz.underlying32 (hval 1 32 v1 rfl rfl)
 obtain ⟨f1,hf1⟩:=h1
 obtain ⟨w1,e1,⟨xs1,sa1⟩⟩:=XTZ hf1
 obtain rfl:Value.slice a1' n1 c1=w1:=by
  simp [Value.cells]at e1
  exact e1
 have In0:=In.nil (K:=KC Tryz.prog) W
 obtain ⟨ρe,he,ve,se,Ne,Me,I0,vre,rde,exe⟩:=In0.table sa0 sb0
 obtain ⟨x0,s0,B0,I1,vr0,rd0,ex0,cp0⟩:=I0.sl (r:=X0d) JOF sa1
 refine (X2M I1 (VL.cons (vre.ext (ex0)) (VL.cons vr0 (VL.nil _))) (JAH I1.hz (rde.app [B0]) rd0).c).mono ?_
 rintro e W' ⟨rfl,hk⟩
 exact ⟨_,rfl,KQ0 Tryz.laidOut Tryz.underlying4 rfl rfl rfl (by kernel_rfl) hW' hk⟩
end Go.Proofs.YtekeoichmdiiiaaGreat.tableBytes
end
section
namespace Go.Proofs.YtekeoichmdiiiaaGreat.tableBytes
open Go.ChangeShapes Go.WideShapes Go.ChangeAt Go.RowKit
set_option maxRecDepth 100000 in
theorem Jh4 (os:Os) (started:os.Started) (H:Type) (enc:TypeId×Value->H) :
  ReturnsInHanded {} Tryz.checked os 7 .any (Rows.tableBytesSpec.pre6 enc Tryz.prog Tryz.f7 Rows.tableBytesRow.domain false) (Rows.tableBytesSpec.post enc Tryz.prog Tryz.f7 false true false false):=by
 refine returnsInHanded_of_change (C:=Tryz.checked) Tryz.own started (by kernel_rfl) Tryz.func7
  (ChangeSpec.witness6 (enc:=enc) (C:=Tryz.checked) false ⟨#[],#[.agg #[.slice none 0 0,.slice none 0 0],.slice none 0 0],[]⟩ 8 (by kernel_rfl) (by kernel_rfl) (by kernel_rfl) (by kernel_rfl)) ?_
 intro W base args ds gs before hval0 hW hcnd _
 have hval:∀(j:Nat) t v,Tryz.f7.params[j]?=some t->args[j]?=some v->Value.okWide Tryz.prog W .any base t v:=hval0
 exact row enc hval hW
theorem over:Rows.tableBytesRow.holds Tryz.pinned (OpenSpec.ofChange Rows.tableBytesSpec):=
 OpenClaim.holds_of_wide 7 Tryz.f7 rfl rfl rfl rfl rfl rfl rfl ⟨rfl,rfl,rfl,rfl,rfl⟩ rfl rfl rfl rfl rfl (by kernel_rfl) Tryz.func7 Ykn
  (of_decide_eq_true (by kernel_rfl)) (by unfold Func.isWrapper;first|(rw[if_pos (by decide +kernel)];kernel_rfl)|(rw[if_neg (by decide +kernel)];exact ⟨rfl,rfl⟩))
  (fun os started H enc _=>Jh4 os started H enc)
theorem proved:Rows.TableBytesSaid:=over
#print axioms proved
end Go.Proofs.YtekeoichmdiiiaaGreat.tableBytes
end

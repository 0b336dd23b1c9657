/- UnifyRuns returns true at every input, and what was handed in reads behind the call as it read before. Conditions: none beyond the row's own. -/
import Derived.Test.YtblfeokjlecgkaaV20
import Derived.Test.YtblfeokjlecgkaaV91
namespace Go.Proofs.Ytblfeokjlecgkaa
open Go.ChangeShapes Go.WideShapes Go.ChangeAt Go.WideMaps Go.WideElems Go.RowKit Go.Deep
set_option maxRecDepth 100000 in
theorem Gv (os:Os) (started:os.Started) (H:Type) (enc:TypeId×Value->H):
  ReturnsInHanded {} Try.checked os 3 .any (Rows.unifyRunsSpec.pre6 enc Try.prog Try.f3 Rows.unifyRunsRow.domain false) (Rows.unifyRunsSpec.post enc Try.prog Try.f3 false true false false):=by
 refine returnsInHanded_of_change (C:=Try.checked) own started (by kernel_rfl) Try.func3
  (ChangeSpec.witness6 (enc:=enc) (C:=Try.checked) false ⟨#[],#[.int .i64 0,.slice none 0 0],[]⟩ 8 (by kernel_rfl) (by kernel_rfl) (by kernel_rfl) (by kernel_rfl)) ?_
 intro W base args ds gs before hval0 hW _ _;have hval:∀(j:Nat) t v,Try.f3.params[j]?=some t->args[j]?=some v->Value.okWide Try.prog W .any base t v:=hval0;have hW':=hW;obtain ⟨p,q,U3,hV,rfl,_,_⟩:=hW;have hA:DataW.TrodAll enc Try.prog W 0 (fun _=>true) true Try.f3.params.toList args.toList ds p:=U3;rw [Try.params3] at hA hval;obtain ⟨v0,v1,d0,d1,p0,p1,rfl,rfl,rfl,h0,h1⟩:=trodAll_two hA;obtain ⟨rfl,rfl⟩:=trodVars_none hV;obtain ⟨x0,rfl,_,_,wf0⟩:=open_int Try.underlying3 (hval 0 3 v0 rfl rfl) h0;obtain ⟨A1,x1,y1,c1,rfl,t1,s1,hc1,l1,o1⟩:=U_ (hval 1 22 v1 rfl rfl) h1;clear U3 hval0;simp only [List.append_nil] at hW';have alZ:∀x∈p0,x.block<W.heap.size:=fun x hx=>by simpa using hW'.lt x (by simp [hx])
 have hlt1:∀x∈p1,x.block<W.heap.size:=fun x hx=>by simpa using hW'.lt x (by simp [hx])
 have ha0:∀(W':World),Below W.heap.size W W'->DataW.Trod enc Try.prog W' 0 (fun b=>decide (b<W.heap.size)) true 3 (.int .i64 x0) d0 p0:=fun W' hn=>Below.trod PE (by kernel_rfl) (of_decide_eq_true (by kernel_rfl)) h0 hn alZ;have ha1:∀(W':World),Below W.heap.size W W'->DataW.Trod enc Try.prog W' 0 (fun b=>decide (b<W.heap.size)) true 22 (.slice A1 x1.length c1) d1 p1:=fun W' hn=>Below.trod PE (by kernel_rfl) (of_decide_eq_true (by kernel_rfl)) h1 hn hlt1;refine (MZ x0 A1 c1 x1 y1 W t1 s1 l1 o1).mono fun e W' ⟨he,hnx⟩=>?_;subst he;exact ⟨_,rfl,_,_,_,[],_,[],hW',trodAll_mk1 (shut_bool Try.underlying4 true),trodAll_mk2 (ha0 _ hnx) (ha1 _ hnx),rfl,hnx.frame _,fun h=>by cases h⟩
theorem unifyRuns_holds:Rows.UnifyRunsSaid:=
 OpenClaim.holds_of_wide 3 Try.f3 rfl rfl rfl rfl rfl rfl rfl ⟨rfl,rfl,rfl,rfl,rfl⟩ rfl rfl rfl rfl rfl (by kernel_rfl) Try.func3 (by kernel_rfl)
  (of_decide_eq_true (by kernel_rfl)) (by unfold Func.isWrapper;first|(rw [if_pos (by decide+kernel)];kernel_rfl)|(rw [if_neg (by decide+kernel)];exact ⟨rfl,rfl⟩))
  (fun os started H enc _=>Gv os started H enc)
end Go.Proofs.Ytblfeokjlecgkaa

/- CastBare returns true at every input, and what was handed in reads behind the call as it read before. Conditions: none beyond the row's own. -/
import Derived.Test.YtmjdhfbnmmdjiaaGreatH38
import Derived.Test.YtmjdhfbnmmdjiaaGreatH95
namespace Go.Proofs.YtmjdhfbnmmdjiaaGreat
open Go.ChangeShapes Go.WideShapes Go.ChangeAt Go.WideMaps Go.WideElems Go.RowKit Go.Deep
set_option maxRecDepth 100000 in
theorem EN (os:Os) (started:os.Started) (H:Type) (enc:TypeId×Value->H):
  ReturnsInHanded {} Tryz.checked os 6 .any (Rows.castBareSpec.pre6 enc Tryz.prog Tryz.f6 Rows.castBareRow.domain false) (Rows.castBareSpec.post enc Tryz.prog Tryz.f6 false true false false):=by
 refine returnsInHanded_of_change (C:=Tryz.checked) own started (by kernel_rfl) Tryz.func6
  (ChangeSpec.witness6 (enc:=enc) (C:=Tryz.checked) false ⟨#[],#[.slice none 0 0,.slice none 0 0],[]⟩ 8 (by kernel_rfl) (by kernel_rfl) (by kernel_rfl) (by kernel_rfl)) ?_
 intro W base args ds gs before hval0 hW _ _;have hval:∀(j:Nat) t v,Tryz.f6.params[j]?=some t->args[j]?=some v->Value.okWide Tryz.prog W .any base t v:=hval0;have hW':=hW;obtain ⟨p,q,RF,hV,rfl,_,_⟩:=hW;have hA:DataW.TrodAll enc Tryz.prog W 0 (fun _=>true) true Tryz.f6.params.toList args.toList ds p:=RF;rw [Tryz.params6] at hA hval;obtain ⟨v0,v1,d0,d1,p0,p1,rfl,rfl,rfl,h0,h1⟩:=trodAll_two hA;obtain ⟨rfl,rfl⟩:=trodVars_none hV;obtain ⟨A0,b0,x0,c0,rfl,r0,n0,f0,t0,s0⟩:=EJ (hval 0 22 v0 rfl rfl) h0;obtain ⟨A1,x1,c1,rfl,t1,hc1,l1⟩:=Ce (hval 1 24 v1 rfl rfl) h1;clear RF hval0;simp only [List.append_nil] at hW';have RG:∀x∈p0,x.block<W.heap.size:=fun x hx=>by simpa using hW'.lt x (by simp [hx])
 have hlt1:∀x∈p1,x.block<W.heap.size:=fun x hx=>by simpa using hW'.lt x (by simp [hx])
 have ha0:∀(W':World),Below W.heap.size W W'->DataW.Trod enc Tryz.prog W' 0 (fun b=>decide (b<W.heap.size)) true 22 (.slice A0 b0.length c0) d0 p0:=fun W' hn=>Below.trod tK (by kernel_rfl) (of_decide_eq_true (by kernel_rfl)) h0 hn RG;have ha1:∀(W':World),Below W.heap.size W W'->DataW.Trod enc Tryz.prog W' 0 (fun b=>decide (b<W.heap.size)) true 24 (.slice A1 x1.length c1) d1 p1:=fun W' hn=>Below.trod tK (by kernel_rfl) (of_decide_eq_true (by kernel_rfl)) h1 hn hlt1;refine (KH A0 A1 c0 c1 b0 x0 x1 W ⟨r0,n0,f0,t0,t1,s0,l1⟩).mono fun e W' ⟨he,hnx⟩=>?_;subst he;exact ⟨_,rfl,_,_,_,[],_,[],hW',trodAll_mk1 (shut_bool Tryz.underlying4 true),trodAll_mk2 (ha0 _ hnx) (ha1 _ hnx),rfl,hnx.frame _,fun h=>by cases h⟩
theorem castBare_holds:Rows.CastBareSaid:=
 OpenClaim.holds_of_wide 6 Tryz.f6 rfl rfl rfl rfl rfl rfl rfl ⟨rfl,rfl,rfl,rfl,rfl⟩ rfl rfl rfl rfl rfl (by kernel_rfl) Tryz.func6 (by kernel_rfl)
  (of_decide_eq_true (by kernel_rfl)) (by unfold Func.isWrapper;first|(rw [if_pos (by decide+kernel)];kernel_rfl)|(rw [if_neg (by decide+kernel)];exact ⟨rfl,rfl⟩))
  (fun os started H enc _=>EN os started H enc)
end Go.Proofs.YtmjdhfbnmmdjiaaGreat

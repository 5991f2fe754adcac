/- PruneWorld: the row: whatever comes in, the call returns true and changes nothing that was there. No condition beyond the row's own. -/
import Derived.Test.YtgbmnlmnhbkdbaaGreatJ28
import Derived.Test.YtgbmnlmnhbkdbaaGreatOpen
import Derived.Test.YtgbmnlmnhbkdbaaGreatFacts
set_option linter.unusedVariables false
set_option linter.unusedSimpArgs false
namespace Go.Proofs.YtgbmnlmnhbkdbaaGreat.PruneWorldRow
open Go.ChangeShapes Go.WideShapes Go.ChangeAt Go.RowKit

set_option maxRecDepth 100000 in
set_option maxHeartbeats 1600000 in
theorem lifted (os:Os) (started:os.Started) (H:Type) (enc:TypeId × Value→H) :
 ReturnsInHanded {} Tryz.checked os 3 .any (Rows.pruneWorldSpec.pre6 enc Tryz.prog Tryz.f3 Rows.pruneWorldRow.domain false) (Rows.pruneWorldSpec.post enc Tryz.prog Tryz.f3 false true false false):=by
 refine returnsInHanded_of_change_sized (C:=Tryz.checked) own started (by kernel_rfl) Tryz.func3
  (ChangeSpec.witness6 (enc:=enc) (C:=Tryz.checked) false ⟨#[],#[.agg #[.slice none 0 0,.slice none 0 0,.slice none 0 0,.slice none 0 0,.int .i64 0]],[]⟩ 8 (by kernel_rfl) (by kernel_rfl) (by kernel_rfl) (by kernel_rfl)) ?_
 intro W base args ds gs before hval0 hW _ hsz0 _
 have hsz:(DataW.weightsEach Tryz.prog (Tryz.f3.params.toList ++ Rows.pruneWorldSpec.plain.varTypes Tryz.prog) (ds ++ gs)).all (·≤reachBytes)=true:=hsz0
 clear hsz0
 have hval:∀ (j:Nat) t v,Tryz.f3.params[j]?=some t→args[j]?=some v→Value.okWide Tryz.prog W .any base t v:=hval0
 have hW':=hW
 obtain ⟨p,q,hA0,hV,rfl,_,_⟩:=hW
 have hA:DataW.TrodAll enc Tryz.prog W 0 (fun _=>true) true Tryz.f3.params.toList args.toList ds p:=hA0
 obtain ⟨rfl,rfl⟩:=trodVars_none hV
 have hpost:∀ W',Below W.heap.size W W'→(∃ d0,ds=[d0])→Rows.pruneWorldSpec.post enc Tryz.prog Tryz.f3 false true false false W args (.bool true) W':=by
  intro W' hb hl
  obtain ⟨d0,rfl⟩:=hl
  exact post_true (tb:=4) laidOut hW' rfl (by kernel_rfl) Tryz.underlying4 (by
   rw [Tryz.params3]
   intro t ht
   have ht':t ∈ ([25]:List TypeId):=ht
   simp only [List.mem_cons,List.not_mem_nil,or_false] at ht'
   rcases ht' with rfl <;> exact ⟨by kernel_rfl,of_decide_eq_true (by kernel_rfl)⟩) rfl rfl rfl hb
 rw [Tryz.params3] at hA hval hsz
 obtain ⟨v0,vs0,d0,ds0,p0,q0,hargs,rfl,rfl,h0,r0⟩:=trodAll_cons hA
 obtain ⟨rfl,rfl,rfl⟩:=trodAll_nil r0
 obtain rfl:args=#[v0]:=by cases args;simp_all
 have w0:Wt Tryz.prog 25 d0:=Wt.each hsz 0 25 d0 rfl rfl
 obtain ⟨x0,rfl,s0⟩:=open_world (hval 0 25 v0 rfl rfl) h0 w0
 refine (world_any x0 W s0).mono fun e W' ⟨he,hb⟩=>?_
 exact ⟨_,he,hpost W' hb ⟨_,rfl⟩⟩

theorem nam:Tryz.checked.prog.funcNamed Rows.pruneWorldRow.func=some 3:=by kernel_rfl
theorem inst:Tryz.f3.isInstance Tryz.checked.prog Rows.pruneWorldRow.origin Rows.pruneWorldRow.targs:=of_decide_eq_true (by kernel_rfl)
theorem wrap:Tryz.f3.isWrapper Tryz.checked.prog Rows.pruneWorldRow.wrapper Rows.pruneWorldRow.mainSum:=by unfold Func.isWrapper;first | (rw [if_pos (by decide +kernel)];kernel_rfl) | (rw [if_neg (by decide +kernel)];exact ⟨rfl,rfl⟩)
theorem k1:(Rows.pruneWorldRow.inPlace == Tryz.prog.inPlace 3)=true:=by kernel_rfl
theorem k2:(Rows.pruneWorldRow.unfollowed == Tryz.prog.unfollowed 3)=true:=by kernel_rfl
theorem k3:(Rows.pruneWorldRow.recurses == Tryz.prog.recurses 3)=true:=by kernel_rfl
theorem k4:(Rows.pruneWorldRow.named == Tryz.prog.varsNamed 3)=true:=by kernel_rfl
theorem clo:joinedFacts Tryz.checked.prog 3 Tryz.f3 Rows.pruneWorldSpec Rows.pruneWorldRow=true:=Facts.closed (by kernel_rfl) k1 k2 k3 k4
theorem proved:Rows.PruneWorldSaid:=
 OpenClaim.holds_of_wide 3 Tryz.f3 rfl rfl rfl rfl rfl rfl rfl ⟨rfl,rfl,rfl,rfl,rfl⟩ rfl rfl rfl rfl rfl nam Tryz.func3 clo
  inst wrap
  (fun os started H enc _=>lifted os started H enc)
#print axioms proved
end Go.Proofs.YtgbmnlmnhbkdbaaGreat.PruneWorldRow

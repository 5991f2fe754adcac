/- SenseTurn: the row: whatever comes in, the call returns true and changes nothing that was there. No condition beyond the row's own. -/
import Derived.Test.YtmncjibcoffmfaaGreatOpenSpot
import Derived.Test.YtmncjibcoffmfaaGreatOpen
import Derived.Test.YtmncjibcoffmfaaGreatFacts
import Derived.Test.YtmncjibcoffmfaaGreatJ24
set_option linter.unusedVariables false
set_option linter.unusedSimpArgs false
namespace Go.Proofs.YtmncjibcoffmfaaGreat.SenseTurnRow
open Go.ChangeShapes Go.WideShapes Go.ChangeAt Go.RowKit

set_option maxRecDepth 100000 in
set_option maxHeartbeats 1600000 in
theorem lifted (os:Os) (started:os.Started) (H:Type) (enc:TypeId × Value→H) (F0:Stop.Interp) :
 ReturnsInHanded {} Tryz.checked os 3 .any ((Rows.OpenSpec.upto Rows.senseTurnSpec).pre6 enc Tryz.prog Tryz.f3 Rows.senseTurnUptoRow.domain false) (((Rows.OpenSpec.upto Rows.senseTurnSpec).at F0).post enc Tryz.prog Tryz.f3 false true false false):=by
 refine returnsInHanded_of_cond_sized (C:=Tryz.checked) (s:=Rows.OpenSpec.upto Rows.senseTurnSpec) (k:=Rows.uptoSmall) (F:=F0) rfl own started (by kernel_rfl) Tryz.func3
  (OpenSpec.witness (enc:=enc) (C:=Tryz.checked) (s:=Rows.OpenSpec.upto Rows.senseTurnSpec) (k:=Rows.uptoSmall) rfl false ⟨#[],#[.agg #[.string ⟨#[]⟩,.slice none 0 0,.slice none 0 0,.slice none 0 0,.slice none 0 0,.int .i64 0,.int .i64 0,.int .i64 0,.slice none 0 0,.slice none 0 0],.agg #[.bool false,.slice none 0 0,.slice none 0 0]],[]⟩ 8 (by kernel_rfl) (by kernel_rfl) (by kernel_rfl) (x:=([.agg [.agg [.lit (.string []),.nil,.nil,.nil,.nil],.lit (.int .i64 0),.lit (.int .i64 0),.lit (.int .i64 0),.nil,.nil],.agg [.agg [.lit (.bool false),.nil],.nil]],[],[])) (by kernel_rfl) (by kernel_rfl) (by kernel_rfl)) ?_
 intro W base args ds gs before hval0 hW _ hk0 hsz0 _
 have hsz:(DataW.weightsEach Tryz.prog (Tryz.f3.params.toList ++ Rows.senseTurnSpec.plain.varTypes Tryz.prog) (ds ++ gs)).all (·≤reachBytes)=true:=hsz0
 clear hsz0
 have hval:∀ (j:Nat) t v,Tryz.f3.params[j]?=some t→args[j]?=some v→Value.okWide Tryz.prog W .any base t v:=hval0
 have hW':=hW
 obtain ⟨p,q,hA0,hV,rfl,_,_⟩:=hW
 have hA:DataW.TrodAll enc Tryz.prog W 0 (fun _=>true) true Tryz.f3.params.toList args.toList ds p:=hA0
 obtain ⟨rfl,rfl⟩:=trodVars_none hV
 have hpost:∀ W',Below W.heap.size W W'→(∃ d0 d1,ds=[d0,d1])→((Rows.OpenSpec.upto Rows.senseTurnSpec).at F0).post enc Tryz.prog Tryz.f3 false true false false W args (.bool true) W':=by
  intro W' hb hl
  obtain ⟨d0,d1,rfl⟩:=hl
  exact post_true (tb:=4) laidOut hW' rfl (by kernel_rfl) Tryz.underlying4 (by
   rw [Tryz.params3]
   intro t ht
   have ht':t ∈ ([30,36]:List TypeId):=ht
   simp only [List.mem_cons,List.not_mem_nil,or_false] at ht'
   rcases ht' with rfl | rfl <;> exact ⟨by kernel_rfl,of_decide_eq_true (by kernel_rfl)⟩) rfl rfl rfl hb
 rw [Tryz.params3] at hA hval hsz
 obtain ⟨v0,vs0,d0,ds0,p0,q0,hargs,rfl,rfl,h0,r0⟩:=trodAll_cons hA
 obtain ⟨v1,vs1,d1,ds1,p1,q1,rfl,rfl,rfl,h1,r1⟩:=trodAll_cons r0
 obtain ⟨rfl,rfl,rfl⟩:=trodAll_nil r1
 obtain rfl:args=#[v0,v1]:=by cases args;simp_all
 have w0:Wt Tryz.prog 30 d0:=Wt.each hsz 0 30 d0 rfl rfl
 have w1:Wt Tryz.prog 36 d1:=Wt.each hsz 1 36 d1 rfl rfl
 have hk:Rows.uptoBulkAll ([d0,d1]:List (DataW H))≤1048576:=by simpa [Rows.uptoSmall] using hk0
 simp only [Rows.uptoBulkAll] at hk
 obtain ⟨N0,A0a,A0b,A0c,A0d,c0a,c0b,c0c,c0d,x0,z0,u0,A0e,n0e,c0e,A0f,n0f,c0f,rfl,s0a,s0b,s0c⟩:=open_spot (hval 0 30 v0 rfl rfl) h0 w0 (by omega)
 obtain ⟨x1,r1x,rfl,s1a,s1b⟩:=open_ratarg (hval 1 36 v1 rfl rfl) h1 w1
 refine (sense_row N0 A0a A0b A0c A0d c0a c0b c0c c0d x0 z0 u0 A0e n0e c0e A0f n0f c0f x1 r1x W s0a s0b s0c s1a (by omega)).mono fun e W' ⟨he,hb⟩=>?_
 exact ⟨_,he,hpost W' hb ⟨_,_,rfl⟩⟩

theorem nam:Tryz.checked.prog.funcNamed Rows.senseTurnUptoRow.func=some 3:=by kernel_rfl
theorem inst:Tryz.f3.isInstance Tryz.checked.prog Rows.senseTurnUptoRow.origin Rows.senseTurnUptoRow.targs:=of_decide_eq_true (by kernel_rfl)
theorem wrap:Tryz.f3.isWrapper Tryz.checked.prog Rows.senseTurnUptoRow.wrapper Rows.senseTurnUptoRow.mainSum:=by unfold Func.isWrapper;first | (rw [if_pos (by decide +kernel)];kernel_rfl) | (rw [if_neg (by decide +kernel)];exact ⟨rfl,rfl⟩)
theorem k1:(Rows.senseTurnUptoRow.inPlace == Tryz.prog.inPlace 3)=true:=by kernel_rfl
theorem k2:(Rows.senseTurnUptoRow.unfollowed == Tryz.prog.unfollowed 3)=true:=by kernel_rfl
theorem k3:(Rows.senseTurnUptoRow.recurses == Tryz.prog.recurses 3)=true:=by kernel_rfl
theorem k4:(Rows.senseTurnUptoRow.named == Tryz.prog.varsNamed 3)=true:=by kernel_rfl
theorem clo:joinedFacts Tryz.checked.prog 3 Tryz.f3 (Rows.OpenSpec.upto Rows.senseTurnSpec).bare Rows.senseTurnUptoRow=true:=Facts.closed (by kernel_rfl) k1 k2 k3 k4
theorem proved:Rows.SenseTurnUptoSaid:=
 OpenClaim.holds_of_cond 3 Tryz.f3 rfl rfl rfl rfl rfl rfl rfl ⟨rfl,rfl,rfl,rfl,rfl⟩ rfl rfl rfl rfl rfl nam Tryz.func3 clo
  inst wrap
  (fun os started H enc _ F0=>lifted os started H enc F0)
#print axioms proved
end Go.Proofs.YtmncjibcoffmfaaGreat.SenseTurnRow

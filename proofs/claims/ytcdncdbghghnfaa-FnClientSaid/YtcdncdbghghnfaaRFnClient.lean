/- For every string of bytes: a client that a draw makes, and that hears a drawn message, is answered once; what it is told a second time, or of another call, does nothing. No condition. -/
import Derived.Test.YtcdncdbghghnfaaRows
import Derived.Test.YtcdncdbghghnfaaPFnClient
namespace Go.Proofs.Ytcdncdbghghnfaa
open Go Go.Proofs.Ytcdncdbghghnfaa.V
theorem ownFnClient : ownKnob Try.prog.godebug = none := by kernel_rfl
theorem laidOutFnClient : laidOutB Try.prog = true := by kernel_rfl
theorem parFnClient : ParB Try.prog Try.f3.params.toList [t22] := ⟨⟨12, by kernel_rfl⟩, rfl, by kernel_rfl, of_decide_eq_true (by kernel_rfl), trivial⟩
set_option maxRecDepth 100000 in
theorem fnClient_lifted (os : Os) (started : os.Started) (H : Type) (enc : TypeId × Value → H) :
    ReturnsInHanded {} Try.checked os 3 .any (Rows.fnClientSpec.pre6 enc Try.prog Try.f3 Rows.fnClientRow.domain false) (Rows.fnClientSpec.post enc Try.prog Try.f3 false true false false) := by
  refine returnsInHanded_of_change (C := Try.checked) ownFnClient started (by kernel_rfl) Try.func3
    (ChangeSpec.witness6 (enc := enc) (C := Try.checked) false ⟨#[], #[toVal t22 (zc t22)], []⟩ 12 (by kernel_rfl) (by kernel_rfl) (by kernel_rfl) (by kernel_rfl)) ?_
  intro W base args ds gs before hval hW _ _
  exact law_ok (P := Try.prog) c3.1 (fun x hx => ⟨_, law3 x hx, rfl⟩) laidOutFnClient parFnClient rfl (by kernel_rfl : Try.prog.underlying 4 = some .bool) rfl
    (fun ds h => match ds, h with
      | [d0], _ => rfl) hval hW
theorem fnClient_holds : Rows.FnClientSaid :=
  OpenClaim.holds_of_wide 3 Try.f3 rfl rfl rfl rfl rfl rfl rfl ⟨rfl, rfl, rfl, rfl, rfl⟩ rfl rfl rfl rfl rfl (by kernel_rfl) Try.func3 (by kernel_rfl)
    (of_decide_eq_true (by kernel_rfl)) (by unfold Func.isWrapper; first | (rw [if_pos (by decide +kernel)]; kernel_rfl) | (rw [if_neg (by decide +kernel)]; exact ⟨rfl, rfl⟩))
    (fun os started H enc _ => fnClient_lifted os started H enc)
#print axioms fnClient_holds
end Go.Proofs.Ytcdncdbghghnfaa

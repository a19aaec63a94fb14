/- For every client the program's ClientOk answers what the reference's ClientOk answers. No condition. -/
import Derived.Test.YtopeacfbcdoljaaRows
import Derived.Test.YtopeacfbcdoljaaPClientOk
namespace Go.Proofs.Ytopeacfbcdoljaa
open Go Go.Proofs.Ytopeacfbcdoljaa.V
theorem ownClientOk : ownKnob Try.prog.godebug = none := by kernel_rfl
theorem laidOutClientOk : laidOutB Try.prog = true := by kernel_rfl
theorem parClientOk : ParB Try.prog Try.f3.params.toList [t25] := ⟨⟨12, by kernel_rfl⟩, rfl, by kernel_rfl, of_decide_eq_true (by kernel_rfl), trivial⟩
set_option maxRecDepth 100000 in
theorem fnExactClientOk_lifted (os : Os) (started : os.Started) (H : Type) (enc : TypeId × Value → H) :
    ReturnsInHanded {} Try.checked os 3 .any (Rows.fnExactClientOkSpec.pre6 enc Try.prog Try.f3 Rows.fnExactClientOkRow.domain false) (Rows.fnExactClientOkSpec.post enc Try.prog Try.f3 false true false false) := by
  refine returnsInHanded_of_change (C := Try.checked) ownClientOk started (by kernel_rfl) Try.func3
    (ChangeSpec.witness6 (enc := enc) (C := Try.checked) false ⟨#[], #[toVal t25 (zc t25)], []⟩ 12 (by kernel_rfl) (by kernel_rfl) (by kernel_rfl) (by kernel_rfl)) ?_
  intro W base args ds gs before hval hW _ _
  exact law_ok (P := Try.prog) c3.1 (fun x hx => ⟨_, law3 x hx, rfl⟩) laidOutClientOk parClientOk rfl (by kernel_rfl : Try.prog.underlying 4 = some .bool) rfl
    (fun ds h => match ds, h with
      | [d0], _ => rfl) hval hW
theorem fnExactClientOk_holds : Rows.FnExactClientOkSaid :=
  OpenClaim.holds_of_wide 3 Try.f3 rfl rfl rfl rfl rfl rfl rfl ⟨rfl, rfl, rfl, rfl, rfl⟩ rfl rfl rfl rfl rfl (by kernel_rfl) Try.func3 (by kernel_rfl)
    (of_decide_eq_true (by kernel_rfl)) (by unfold Func.isWrapper; first | (rw [if_pos (by decide +kernel)]; kernel_rfl) | (rw [if_neg (by decide +kernel)]; exact ⟨rfl, rfl⟩))
    (fun os started H enc _ => fnExactClientOk_lifted os started H enc)
#print axioms fnExactClientOk_holds
end Go.Proofs.Ytopeacfbcdoljaa

/- For every client, message and number the program's ClientHear answers what the reference's ClientHear answers. No condition. -/
import Derived.Test.YtopeacfbcdoljaaRows
import Derived.Test.YtopeacfbcdoljaaPClientHear
namespace Go.Proofs.Ytopeacfbcdoljaa
open Go Go.Proofs.Ytopeacfbcdoljaa.V
theorem ownClientHear : ownKnob Try.prog.godebug = none := by kernel_rfl
theorem laidOutClientHear : laidOutB Try.prog = true := by kernel_rfl
theorem parClientHear : ParB Try.prog Try.f6.params.toList [t25, t49, (.int .i64)] := ⟨⟨12, by kernel_rfl⟩, rfl, by kernel_rfl, of_decide_eq_true (by kernel_rfl), ⟨⟨12, by kernel_rfl⟩, rfl, by kernel_rfl, of_decide_eq_true (by kernel_rfl), ⟨⟨12, by kernel_rfl⟩, rfl, by kernel_rfl, of_decide_eq_true (by kernel_rfl), trivial⟩⟩⟩
set_option maxRecDepth 100000 in
theorem fnExactClientHear_lifted (os : Os) (started : os.Started) (H : Type) (enc : TypeId × Value → H) :
    ReturnsInHanded {} Try.checked os 6 .any (Rows.fnExactClientHearSpec.pre6 enc Try.prog Try.f6 Rows.fnExactClientHearRow.domain false) (Rows.fnExactClientHearSpec.post enc Try.prog Try.f6 false true false false) := by
  refine returnsInHanded_of_change (C := Try.checked) ownClientHear started (by kernel_rfl) Try.func6
    (ChangeSpec.witness6 (enc := enc) (C := Try.checked) false ⟨#[], #[toVal t25 (zc t25), toVal t49 (zc t49), toVal (.int .i64) (zc (.int .i64))], []⟩ 12 (by kernel_rfl) (by kernel_rfl) (by kernel_rfl) (by kernel_rfl)) ?_
  intro W base args ds gs before hval hW _ _
  exact law_ok (P := Try.prog) c6.1 (fun x hx => ⟨_, law6 x hx, rfl⟩) laidOutClientHear parClientHear rfl (by kernel_rfl : Try.prog.underlying 4 = some .bool) rfl
    (fun ds h => match ds, h with
      | [d0, d1, d2], _ => rfl) hval hW
theorem fnExactClientHear_holds : Rows.FnExactClientHearSaid :=
  OpenClaim.holds_of_wide 6 Try.f6 rfl rfl rfl rfl rfl rfl rfl ⟨rfl, rfl, rfl, rfl, rfl⟩ rfl rfl rfl rfl rfl (by kernel_rfl) Try.func6 (by kernel_rfl)
    (of_decide_eq_true (by kernel_rfl)) (by unfold Func.isWrapper; first | (rw [if_pos (by decide +kernel)]; kernel_rfl) | (rw [if_neg (by decide +kernel)]; exact ⟨rfl, rfl⟩))
    (fun os started H enc _ => fnExactClientHear_lifted os started H enc)
#print axioms fnExactClientHear_holds
end Go.Proofs.Ytopeacfbcdoljaa

/- For every client, op and number the program's ClientCall answers what the reference's ClientCall answers. No condition. -/
import Derived.Test.YtopeacfbcdoljaaRows
import Derived.Test.YtopeacfbcdoljaaPClientCall
namespace Go.Proofs.Ytopeacfbcdoljaa
open Go Go.Proofs.Ytopeacfbcdoljaa.V
theorem ownClientCall : ownKnob Try.prog.godebug = none := by kernel_rfl
theorem laidOutClientCall : laidOutB Try.prog = true := by kernel_rfl
theorem parClientCall : ParB Try.prog Try.f4.params.toList [t25, t23, (.int .i64)] := ⟨⟨12, by kernel_rfl⟩, rfl, by kernel_rfl, of_decide_eq_true (by kernel_rfl), ⟨⟨12, by kernel_rfl⟩, rfl, by kernel_rfl, of_decide_eq_true (by kernel_rfl), ⟨⟨12, by kernel_rfl⟩, rfl, by kernel_rfl, of_decide_eq_true (by kernel_rfl), trivial⟩⟩⟩
set_option maxRecDepth 100000 in
theorem fnExactClientCall_lifted (os : Os) (started : os.Started) (H : Type) (enc : TypeId × Value → H) :
    ReturnsInHanded {} Try.checked os 4 .any (Rows.fnExactClientCallSpec.pre6 enc Try.prog Try.f4 Rows.fnExactClientCallRow.domain false) (Rows.fnExactClientCallSpec.post enc Try.prog Try.f4 false true false false) := by
  refine returnsInHanded_of_change (C := Try.checked) ownClientCall started (by kernel_rfl) Try.func4
    (ChangeSpec.witness6 (enc := enc) (C := Try.checked) false ⟨#[], #[toVal t25 (zc t25), toVal t23 (zc t23), toVal (.int .i64) (zc (.int .i64))], []⟩ 12 (by kernel_rfl) (by kernel_rfl) (by kernel_rfl) (by kernel_rfl)) ?_
  intro W base args ds gs before hval hW _ _
  exact law_ok (P := Try.prog) c4.1 (fun x hx => ⟨_, law4 x hx, rfl⟩) laidOutClientCall parClientCall rfl (by kernel_rfl : Try.prog.underlying 4 = some .bool) rfl
    (fun ds h => match ds, h with
      | [d0, d1, d2], _ => rfl) hval hW
theorem fnExactClientCall_holds : Rows.FnExactClientCallSaid :=
  OpenClaim.holds_of_wide 4 Try.f4 rfl rfl rfl rfl rfl rfl rfl ⟨rfl, rfl, rfl, rfl, rfl⟩ rfl rfl rfl rfl rfl (by kernel_rfl) Try.func4 (by kernel_rfl)
    (of_decide_eq_true (by kernel_rfl)) (by unfold Func.isWrapper; first | (rw [if_pos (by decide +kernel)]; kernel_rfl) | (rw [if_neg (by decide +kernel)]; exact ⟨rfl, rfl⟩))
    (fun os started H enc _ => fnExactClientCall_lifted os started H enc)
#print axioms fnExactClientCall_holds
end Go.Proofs.Ytopeacfbcdoljaa

/- For every client and number the program's ClientSay answers what the reference's ClientSay answers, and what it hands back is shared with nothing. No condition. -/
import Derived.Test.YtopeacfbcdoljaaRows
import Derived.Test.YtopeacfbcdoljaaPClientSay
namespace Go.Proofs.Ytopeacfbcdoljaa
open Go Go.Proofs.Ytopeacfbcdoljaa.V
theorem ownClientSay : ownKnob Try.prog.godebug = none := by kernel_rfl
theorem laidOutClientSay : laidOutB Try.prog = true := by kernel_rfl
theorem parClientSay : ParB Try.prog Try.f5.params.toList [t25, (.int .i64)] := ⟨⟨12, by kernel_rfl⟩, rfl, by kernel_rfl, of_decide_eq_true (by kernel_rfl), ⟨⟨12, by kernel_rfl⟩, rfl, by kernel_rfl, of_decide_eq_true (by kernel_rfl), trivial⟩⟩
set_option maxRecDepth 100000 in
theorem fnExactClientSay_lifted (os : Os) (started : os.Started) (H : Type) (enc : TypeId × Value → H) :
    ReturnsInHanded {} Try.checked os 5 .any (Rows.fnExactClientSaySpec.pre6 enc Try.prog Try.f5 Rows.fnExactClientSayRow.domain false) (Rows.fnExactClientSaySpec.post enc Try.prog Try.f5 false true false false) := by
  refine returnsInHanded_of_change (C := Try.checked) ownClientSay started (by kernel_rfl) Try.func5
    (ChangeSpec.witness6 (enc := enc) (C := Try.checked) false ⟨#[], #[toVal t25 (zc t25), toVal (.int .i64) (zc (.int .i64))], []⟩ 12 (by kernel_rfl) (by kernel_rfl) (by kernel_rfl) (by kernel_rfl)) ?_
  intro W base args ds gs before hval hW _ _
  exact law_ok (P := Try.prog) c5.1 (fun x hx => ⟨_, law5 x hx, rfl⟩) laidOutClientSay parClientSay rfl (by kernel_rfl : Try.prog.underlying 4 = some .bool) rfl
    (fun ds h => match ds, h with
      | [d0, d1], _ => rfl) hval hW
theorem fnExactClientSay_holds : Rows.FnExactClientSaySaid :=
  OpenClaim.holds_of_wide 5 Try.f5 rfl rfl rfl rfl rfl rfl rfl ⟨rfl, rfl, rfl, rfl, rfl⟩ rfl rfl rfl rfl rfl (by kernel_rfl) Try.func5 (by kernel_rfl)
    (of_decide_eq_true (by kernel_rfl)) (by unfold Func.isWrapper; first | (rw [if_pos (by decide +kernel)]; kernel_rfl) | (rw [if_neg (by decide +kernel)]; exact ⟨rfl, rfl⟩))
    (fun os started H enc _ => fnExactClientSay_lifted os started H enc)
#print axioms fnExactClientSay_holds
end Go.Proofs.Ytopeacfbcdoljaa

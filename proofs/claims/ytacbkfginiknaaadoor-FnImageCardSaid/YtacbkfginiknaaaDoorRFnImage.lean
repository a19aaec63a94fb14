/- For every draw, where the table of the digest's words reads as the program lays it: a registry that is put away and taken back is the same, and serves the next call as it. -/
import Derived.Test.YtacbkfginiknaaaDoorRows
import Derived.Test.YtacbkfginiknaaaDoorCards
import Derived.Test.YtacbkfginiknaaaDoorTie
import Derived.Test.YtacbkfginiknaaaDoorPFnImage
import Derived.ProofKit
import Derived.LaidMore
import Derived.OpenShut
import Derived.Stop.Joined
import Derived.SevenTiedAt
namespace Go.Proofs.YtacbkfginiknaaaDoor
open Go Go.Proofs.YtacbkfginiknaaaDoor.V
open Go.ChangeShapes Go.WideShapes Go.ChangeAt Go.RowKit
abbrev laidW : List (String × DataW Unit) := [("loop.example/g00358/impl.shaWords", Rows.laid_loop_example_g00358_impl_shaWords)]
theorem ownW : ownKnob Tryd.prog.godebug = none := by kernel_rfl
theorem laidOutW : laidOutB Tryd.prog = true := by kernel_rfl
theorem parW : ParB Tryd.prog Tryd.f5.params.toList [t63] := ⟨⟨12, by kernel_rfl⟩, rfl, by kernel_rfl, of_decide_eq_true (by kernel_rfl), trivial⟩
theorem gNameW : Tryd.prog.globalNamed "loop.example/g00358/impl.shaWords" = some 0 := by kernel_rfl
theorem gTypeW : (Tryd.prog.globals[0]?).map (·.type) = some 203 := by kernel_rfl
theorem doorMetW (os : Os) (args : Array Value) : laidMetH Tryd.prog laidW ((World.doorLaid Tryd.prog 14 os).forCall (fun _ _ => 0) ⟨#[], args, []⟩).memory :=
  laidMetH_of_parts3 (fuel := 8) (laidMet_of_run' 8 (by kernel_rfl) (by kernel_rfl)) (by kernel_rfl) (by kernel_rfl)
theorem hglW {W : World} (hL : laidMetH Tryd.prog laidW W) : ∀ p ∈ gdat, GRead W p.1 p.2 ∧ p.1 < W.heap.size := by
  intro p hp
  have he : p = (0, ⟨.arr 64 (.int .u32), gv0, []⟩) := List.mem_singleton.1 hp
  subst he
  exact gread_arr (te := 173) hL (by kernel_rfl) gNameW gTypeW (by kernel_rfl) (by kernel_rfl) (by kernel_rfl) (by kernel_rfl)
set_option maxRecDepth 100000 in
theorem fnImage_lifted (os : Os) (started : os.Started) (H : Type) (enc : TypeId × Value → H) :
    ReturnsInHanded {} Tryd.checked os 5 .any (fun w args => (Rows.fnImageSpec.pre enc Tryd.prog Tryd.f5 [] false w args ∧ laidMetH Tryd.prog laidW w) ∧ sizedMet enc Tryd.prog Tryd.f5 (OpenSpec.ofChange Rows.fnImageSpec) false w args)
      (Rows.fnImageSpec.post enc Tryd.prog Tryd.f5 false true false false) := by
  refine returnsInHanded_of_change_and (C := Tryd.checked) (X := fun w _ => laidMetH Tryd.prog laidW w) (fun _ _ _ hh h => h.of_heap hh) ownW started (by kernel_rfl) Tryd.func5
    (ChangeSpec.witness_shaped (enc := enc) (C := Tryd.checked) (os := os) (X := fun w _ => laidMetH Tryd.prog laidW w) false (World.doorLaid Tryd.prog 14 os) #[toVal t63 (zc t63)] 12 rfl (World.shaped_of_RefB (by kernel_rfl) (by kernel_rfl)) (by kernel_rfl) (by kernel_rfl) (by kernel_rfl) (doorMetW os _)) ?_
  intro W base args ds gs before hval hW _ _ hL _
  exact law_okV (P := Tryd.prog) c5.1 (fun x hx => ⟨_, law10 x, rfl⟩) laidOutW parW rfl (by kernel_rfl : Tryd.prog.underlying 4 = some .bool) rfl gNameW gTypeW (by kernel_rfl) (of_decide_eq_true (by kernel_rfl))
    (fun ds gs h1 h2 => match ds, gs, h1, h2 with
      | [_], [_], _, _ => rfl) hval hW (hglW hL)
theorem fnImage_holds : Rows.FnImageSaid :=
  OpenClaim.holds_of_wide 5 Tryd.f5 rfl rfl rfl rfl rfl rfl rfl ⟨rfl, rfl, rfl, rfl, rfl⟩ rfl rfl rfl rfl rfl (by kernel_rfl) Tryd.func5 (by kernel_rfl)
    (of_decide_eq_true (by kernel_rfl)) (by unfold Func.isWrapper; first | (rw [if_pos (by decide +kernel)]; kernel_rfl) | (rw [if_neg (by decide +kernel)]; exact ⟨rfl, rfl⟩))
    (fun os started H enc _ => fnImage_lifted os started H enc)
theorem fnImage_card : Rows.FnImageCardSaid :=
  Claim7.holds_tied_plain_at .later [] [.data] true (true, "a41457ff83bf0a203aed937958e961eb5edf9b5f59cb0420fd796b24d3342bac") false
    fnImage_holds (fun _ h => by cases h) (by kernel_rfl) (fun _ h => by cases h) fnImage_row_tie rfl ⟨rfl, rfl⟩ (by kernel_rfl) rfl
    (fun f fn hf hfn => by
      obtain rfl : f = 5 := Option.some.inj ((show Tryd.prog.funcNamed "loop.example/g00358/laws.FnImage" = some 5 by kernel_rfl).symm.trans hf) |>.symm
      obtain rfl : fn = Tryd.f5 := (Option.some.inj (Tryd.func5.symm.trans hfn)).symm
      exact ⟨by kernel_rfl, fun j t ht => by
        have hall : (Tryd.f5.params.toList.all fun u => !Tryd.prog.wantsStandIn u) = true := by kernel_rfl
        have hm : t ∈ Tryd.f5.params.toList := by simpa using Array.mem_of_getElem? ht
        exact (show Tryd.prog.wantsStandIn t = false by simpa using List.all_eq_true.1 hall t hm)⟩)
    (by kernel_rfl)
#print axioms fnImage_card
end Go.Proofs.YtacbkfginiknaaaDoor

/- For every registry, client, serial, call and index, where the table of the digest's words reads as the program lays it: the program's Serve returns what the reference's returns. -/
import Derived.Test.YtibidhcmenljoaaGreatDoorRows
import Derived.Test.YtibidhcmenljoaaGreatDoorCards
import Derived.Test.YtibidhcmenljoaaGreatDoorTie
import Derived.Test.YtibidhcmenljoaaGreatDoorPFnServe
import Derived.ProofKit
import Derived.LaidMore
import Derived.OpenShut
import Derived.Stop.Joined
import Derived.SevenTiedAt
namespace Go.Proofs.YtibidhcmenljoaaGreatDoor
open Go Go.Proofs.YtibidhcmenljoaaGreatDoor.V
open Go.ChangeShapes Go.WideShapes Go.ChangeAt Go.RowKit
abbrev laidW : List (String × DataW Unit) := [("loop.example/g00358/impl.shaWords", Rows.laid_loop_example_g00358_impl_shaWords)]
theorem ownW : ownKnob Tryz.prog.godebug = none := by kernel_rfl
theorem laidOutW : laidOutB Tryz.prog = true := by kernel_rfl
theorem parW : ParB Tryz.prog Tryz.f3.params.toList [t26, .int .i64, .int .i64, t28, .int .i64] := ⟨⟨12, by kernel_rfl⟩, rfl, by kernel_rfl, of_decide_eq_true (by kernel_rfl), ⟨⟨12, by kernel_rfl⟩, rfl, by kernel_rfl, of_decide_eq_true (by kernel_rfl), ⟨⟨12, by kernel_rfl⟩, rfl, by kernel_rfl, of_decide_eq_true (by kernel_rfl), ⟨⟨12, by kernel_rfl⟩, rfl, by kernel_rfl, of_decide_eq_true (by kernel_rfl), ⟨⟨12, by kernel_rfl⟩, rfl, by kernel_rfl, of_decide_eq_true (by kernel_rfl), trivial⟩⟩⟩⟩⟩
theorem gNameW : Tryz.prog.globalNamed "loop.example/g00358/impl.shaWords" = some 0 := by kernel_rfl
theorem gTypeW : (Tryz.prog.globals[0]?).map (·.type) = some 204 := by kernel_rfl
theorem doorMetW (os : Os) (args : Array Value) : laidMetH Tryz.prog laidW ((World.doorLaid Tryz.prog 14 os).forCall (fun _ _ => 0) ⟨#[], args, []⟩).memory :=
  laidMetH_of_parts3 (fuel := 8) (laidMet_of_run' 8 (by kernel_rfl) (by kernel_rfl)) (by kernel_rfl) (by kernel_rfl)
theorem hglW {W : World} (hL : laidMetH Tryz.prog laidW W) : ∀ p ∈ gdat, GRead W p.1 p.2 ∧ p.1 < W.heap.size := by
  intro p hp
  have he : p = (0, ⟨.arr 64 (.int .u32), gv0, []⟩) := List.mem_singleton.1 hp
  subst he
  exact gread_arr (te := 173) hL (by kernel_rfl) gNameW gTypeW (by kernel_rfl) (by kernel_rfl) (by kernel_rfl) (by kernel_rfl)
set_option maxRecDepth 100000 in
theorem fnExactServe_lifted (os : Os) (started : os.Started) (H : Type) (enc : TypeId × Value → H) :
    ReturnsInHanded {} Tryz.checked os 3 .any (fun w args => (Rows.fnExactServeSpec.pre enc Tryz.prog Tryz.f3 [] false w args ∧ laidMetH Tryz.prog laidW w) ∧ sizedMet enc Tryz.prog Tryz.f3 (OpenSpec.ofChange Rows.fnExactServeSpec) false w args)
      (Rows.fnExactServeSpec.post enc Tryz.prog Tryz.f3 false true false false) := by
  refine returnsInHanded_of_change_and (C := Tryz.checked) (X := fun w _ => laidMetH Tryz.prog laidW w) (fun _ _ _ hh h => h.of_heap hh) ownW started (by kernel_rfl) Tryz.func3
    (ChangeSpec.witness_shaped (enc := enc) (C := Tryz.checked) (os := os) (X := fun w _ => laidMetH Tryz.prog laidW w) false (World.doorLaid Tryz.prog 14 os) #[toVal t26 (zc t26), toVal (.int .i64) (zc (.int .i64)), toVal (.int .i64) (zc (.int .i64)), toVal t28 (zc t28), toVal (.int .i64) (zc (.int .i64))] 12 rfl (World.shaped_of_RefB (by kernel_rfl) (by kernel_rfl)) (by kernel_rfl) (by kernel_rfl) (by kernel_rfl) (doorMetW os _)) ?_
  intro W base args ds gs before hval hW _ _ hL _
  exact law_okV (P := Tryz.prog) c3.1 (fun x hx => ⟨_, lawSW x hx, rfl⟩) laidOutW parW rfl (by kernel_rfl : Tryz.prog.underlying 4 = some .bool) rfl gNameW gTypeW (by kernel_rfl) (of_decide_eq_true (by kernel_rfl))
    (fun ds gs h1 h2 => match ds, gs, h1, h2 with
      | [_, _, _, _, _], [_], _, _ => rfl) hval hW (hglW hL)
theorem fnExactServe_holds : Rows.FnExactServeSaid :=
  OpenClaim.holds_of_wide 3 Tryz.f3 rfl rfl rfl rfl rfl rfl rfl ⟨rfl, rfl, rfl, rfl, rfl⟩ rfl rfl rfl rfl rfl (by kernel_rfl) Tryz.func3 (by kernel_rfl)
    (of_decide_eq_true (by kernel_rfl)) (by unfold Func.isWrapper; first | (rw [if_pos (by decide +kernel)]; kernel_rfl) | (rw [if_neg (by decide +kernel)]; exact ⟨rfl, rfl⟩))
    (fun os started H enc _ => fnExactServe_lifted os started H enc)
theorem fnExactServe_card : Rows.FnExactServeCardSaid :=
  Claim7.holds_tied_plain_at .later [] [.data] true (true, "3cec7aa116f05257544ba98604b63935bffbf178de94e47a54e549e17cdfff11") false
    fnExactServe_holds (fun _ h => by cases h) (by kernel_rfl) (fun _ h => by cases h) fnExactServe_row_tie rfl ⟨rfl, rfl⟩ (by kernel_rfl) rfl
    (fun f fn hf hfn => by
      obtain rfl : f = 3 := Option.some.inj ((show Tryz.prog.funcNamed "loop.example/g00358/laws.FnExactServe" = some 3 by kernel_rfl).symm.trans hf) |>.symm
      obtain rfl : fn = Tryz.f3 := (Option.some.inj (Tryz.func3.symm.trans hfn)).symm
      exact ⟨by kernel_rfl, fun j t ht => by
        have hall : (Tryz.f3.params.toList.all fun u => !Tryz.prog.wantsStandIn u) = true := by kernel_rfl
        have hm : t ∈ Tryz.f3.params.toList := by simpa using Array.mem_of_getElem? ht
        exact (show Tryz.prog.wantsStandIn t = false by simpa using List.all_eq_true.1 hall t hm)⟩)
    (by kernel_rfl)
#print axioms fnExactServe_card
end Go.Proofs.YtibidhcmenljoaaGreatDoor

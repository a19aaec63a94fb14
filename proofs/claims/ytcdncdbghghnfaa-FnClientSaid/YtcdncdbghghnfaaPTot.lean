/- The plain law: the program's checks and readers of messages come back. -/
import Derived.Test.YtcdncdbghghnfaaPMsgA
namespace Go.Proofs.Ytcdncdbghghnfaa
open Go Go.Proofs.Ytcdncdbghghnfaa.V
theorem numP_len (x : List UInt8 × Bool) : (numP x).2.1.length ≤ x.1.length := by
  unfold numP
  split
  · exact Nat.le_refl _
  · simp only [List.length_drop]; omega
theorem i_ReadAnswer_tot (s : List UInt8) : TotT (i_ReadAnswer s) := by
  unfold i_ReadAnswer
  simp only [scan_num_is, Option.bind_some]
  refine totT_bind ?_ fun q => totT_bind ?_ fun r => ?_
  · refine totT_bif (fun _ => totT_some _) (fun _ => totT_some _)
  · refine totT_bif (fun _ => totT_bind (showAnswer_is _) fun _ => totT_some _) (fun _ => totT_some _)
  · refine totT_bif (fun _ => totT_some _) (fun _ => totT_some _)
theorem scan_byte_tot (s : List UInt8) (b : Bool) : ∃ y, i_scan_byte (s, b) = some y ∧ y.2.1.length ≤ s.length := by
  cases b with
  | true => exact ⟨(0, s, true), by simp [i_scan_byte, i_scan_cut], Nat.le_refl _⟩
  | false =>
    cases s with
    | nil => exact ⟨_, scan_byte_nil, Nat.le_refl _⟩
    | cons b t => exact ⟨_, scan_byte_cons b t, by simp⟩
theorem i_ReadOp_tot (s : List UInt8) (h : s.length ≤ 1048576) : TotT (i_ReadOp s) := by
  unfold i_ReadOp i_scan_op
  obtain ⟨y, hy, hl⟩ := scan_byte_tot s false
  simp only [hy, Option.bind_some, scan_num_is]
  have h1 := numP_len y.2
  have h2 := numP_len (numP y.2).2
  refine totT_bind ?_ fun q => totT_bind ?_ fun r => ?_
  · refine totT_bif (fun _ => totT_some _) (fun _ => totT_some _)
  · refine totT_bif (fun _ => totT_bind (showOp_is (by simp only; omega)) fun _ => totT_some _) (fun _ => totT_some _)
  · refine totT_bif (fun _ => totT_some _) (fun _ => totT_some _)
theorem i_addressed_tot (m : MsgT) : TotT (i_addressed m) := by
  unfold i_addressed i_addressed_L8
  simp only [server_i, client_i, Option.bind_some, bAnd, bOr]
  repeat' first | exact totT_some _ | refine totT_bif (fun _ => ?_) (fun _ => ?_) | refine totT_bind ?_ (fun _ => ?_)
theorem i_named_tot (m : MsgT) : TotT (i_named m) := by
  unfold i_named i_named_L8 i_named_L12 i_named_L16
  repeat' first | exact totT_some _ | refine totT_bif (fun _ => ?_) (fun _ => ?_) | refine totT_bind ?_ (fun _ => ?_)
theorem i_MsgOk_tot (m : MsgT) (h : m.2.2.2.2.2.2.2.2.1.length ≤ 1048576) (hd : m.2.2.2.2.2.2.2.2.2.length ≤ 1048576) : TotT (i_MsgOk m) := by
  unfold i_MsgOk
  simp only [in_i, base_i, Option.bind_some, server_i, client_i, i_isVersion]
  repeat' first | exact totT_some _ | refine totT_bif (fun _ => ?_) (fun _ => ?_) | exact i_addressed_tot m | exact i_named_tot m | exact ⟨_, iSameMsg_is h⟩ | exact ⟨_, iRun_is h⟩ | exact i_ReadOp_tot _ hd | exact i_ReadAnswer_tot _ | refine totT_bind ?_ (fun _ => ?_)
end Go.Proofs.Ytcdncdbghghnfaa

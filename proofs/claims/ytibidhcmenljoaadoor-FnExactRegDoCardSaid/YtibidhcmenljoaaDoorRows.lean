/-
  NARROWER THAN 'FOR EVERY INPUT', by the rows' own cells (each row's printed sentence says how): FnExactRegDo: laid · FnForward: laid · FnOnce: laid · FnPublished: laid · FnExactFoldReg: laid · FnExactOrderOf: laid · FnExactLinear: laid · FnImage: laid · FnExactGateOk: laid.
  DERIVED. THE GIVEN ROWS OF THIS SEAT. 9 by the template 'for every input the law returns true; each argument reads behind the call as it read before'; 0 by the template 'total and deterministic' (their statements: YtibidhcmenljoaaDoorTotals.lean).
  GIVEN WITH THE SEED: the statements are not yours to turn. If you find one false, say at which input.
  Laid BY PROGRAM, IN A SANDBOX (cutbox-rows.mjs): the forced cells as the released guide's own fill.sh prints them over the translation 87dd495fcc05fb5e… (all of the seat's roots in one cut). By AI agents, Wed Nov 11 2026. No macro, syntax, notation, axiom, sorry.
-/
import Derived.Test.YtibidhcmenljoaaDoorChecked
import GoSem.Claim
import GoSem.ClaimJoined
import GoSem.ClaimMapViews
import Derived.JoinedTies
import Derived.KernelRfl
namespace Go.Proofs.YtibidhcmenljoaaDoor
/- THE CELL 'sum', in the pinned program and in every row, IS THE sha256 OF THE DUMP (.gsa) THAT YtibidhcmenljoaaDoorProg.lean LOADS. Nothing in Lean hashes anything: it is a label: what it is worth is what the hold of that sum in a sandbox is worth. -/
noncomputable def Tryd.pinned : Pinned := { name := "ytibidhcmenljoaadoor", sum := "87dd495fcc05fb5e6919b297d0794cf88fa1232bea31fe604b4cce8fa1897107", checked := Tryd.checked }
namespace Rows
def none {H : Type} : Left H := { results := [], args := [] }

/- WHAT THE LISTED PACKAGE-LEVEL VARIABLES READ AS WHEN THE CALL BEGINS. Each datum BY PROGRAM (the guide's laid-datum.mjs) off the statement by which the dump's own 'gosem.cut.vars' lays the variable. In a bare row this is a premise. The card (YtibidhcmenljoaaDoorCards.lean) ties it to the program's text. -/
def laid_loop_example_g00358_impl_shaWords {H : Type} : DataW H := .agg [.lit (.int .u32 1116352408), .lit (.int .u32 1899447441), .lit (.int .u32 3049323471), .lit (.int .u32 3921009573), .lit (.int .u32 961987163), .lit (.int .u32 1508970993), .lit (.int .u32 2453635748), .lit (.int .u32 2870763221), .lit (.int .u32 3624381080), .lit (.int .u32 310598401), .lit (.int .u32 607225278), .lit (.int .u32 1426881987), .lit (.int .u32 1925078388), .lit (.int .u32 2162078206), .lit (.int .u32 2614888103), .lit (.int .u32 3248222580), .lit (.int .u32 3835390401), .lit (.int .u32 4022224774), .lit (.int .u32 264347078), .lit (.int .u32 604807628), .lit (.int .u32 770255983), .lit (.int .u32 1249150122), .lit (.int .u32 1555081692), .lit (.int .u32 1996064986), .lit (.int .u32 2554220882), .lit (.int .u32 2821834349), .lit (.int .u32 2952996808), .lit (.int .u32 3210313671), .lit (.int .u32 3336571891), .lit (.int .u32 3584528711), .lit (.int .u32 113926993), .lit (.int .u32 338241895), .lit (.int .u32 666307205), .lit (.int .u32 773529912), .lit (.int .u32 1294757372), .lit (.int .u32 1396182291), .lit (.int .u32 1695183700), .lit (.int .u32 1986661051), .lit (.int .u32 2177026350), .lit (.int .u32 2456956037), .lit (.int .u32 2730485921), .lit (.int .u32 2820302411), .lit (.int .u32 3259730800), .lit (.int .u32 3345764771), .lit (.int .u32 3516065817), .lit (.int .u32 3600352804), .lit (.int .u32 4094571909), .lit (.int .u32 275423344), .lit (.int .u32 430227734), .lit (.int .u32 506948616), .lit (.int .u32 659060556), .lit (.int .u32 883997877), .lit (.int .u32 958139571), .lit (.int .u32 1322822218), .lit (.int .u32 1537002063), .lit (.int .u32 1747873779), .lit (.int .u32 1955562222), .lit (.int .u32 2024104815), .lit (.int .u32 2227730452), .lit (.int .u32 2361852424), .lit (.int .u32 2428436474), .lit (.int .u32 2756734187), .lit (.int .u32 3204031479), .lit (.int .u32 3329325298)]

/-- 'laws.FnExactRegDo': WHATEVER THE INPUT: true; the input reads as it did. -/
def fnExactRegDoSpec : ChangeSpec := { name := "fnExactRegDo", vars := ["loop.example/g00358/impl.shaWords"], fn := fun _ => fun
  | [d1, d2, g1] => { results := [.lit (.bool true)], args := [d1, d2], vars := [g1] }
  | _ => none }
def fnExactRegDoRow : OpenClaim := { program := "ytibidhcmenljoaadoor", sum := "87dd495fcc05fb5e6919b297d0794cf88fa1232bea31fe604b4cce8fa1897107", func := "loop.example/g00358/laws.FnExactRegDo", spec := "fnExactRegDo", unfollowed := true, recurses := true, named := ["loop.example/g00358/impl.shaWords"], apart := false, laid := [("loop.example/g00358/impl.shaWords", laid_loop_example_g00358_impl_shaWords)] }
def FnExactRegDoSaid : Prop := fnExactRegDoRow.holds Tryd.pinned (OpenSpec.ofChange fnExactRegDoSpec)

/-- ITS FALSE NEIGHBOUR: 'it returns false'. Refute it at one input. -/
def fnExactRegDoWrong : ChangeSpec := { name := "fnExactRegDo", vars := ["loop.example/g00358/impl.shaWords"], fn := fun _ => fun
  | [d1, d2, g1] => { results := [.lit (.bool false)], args := [d1, d2], vars := [g1] }
  | _ => none }
def FnExactRegDoWrongFalsely : Prop := fnExactRegDoRow.holds Tryd.pinned (OpenSpec.ofChange fnExactRegDoWrong)

/-- 'laws.FnForward': WHATEVER THE INPUT: true; the input reads as it did. -/
def fnForwardSpec : ChangeSpec := { name := "fnForward", vars := ["loop.example/g00358/impl.shaWords"], fn := fun _ => fun
  | [d, g1] => { results := [.lit (.bool true)], args := [d], vars := [g1] }
  | _ => none }
def fnForwardRow : OpenClaim := { program := "ytibidhcmenljoaadoor", sum := "87dd495fcc05fb5e6919b297d0794cf88fa1232bea31fe604b4cce8fa1897107", func := "loop.example/g00358/laws.FnForward", spec := "fnForward", unfollowed := true, recurses := true, named := ["loop.example/g00358/impl.shaWords"], apart := false, laid := [("loop.example/g00358/impl.shaWords", laid_loop_example_g00358_impl_shaWords)] }
def FnForwardSaid : Prop := fnForwardRow.holds Tryd.pinned (OpenSpec.ofChange fnForwardSpec)

/-- ITS FALSE NEIGHBOUR: 'it returns false'. Refute it at one input. -/
def fnForwardWrong : ChangeSpec := { name := "fnForward", vars := ["loop.example/g00358/impl.shaWords"], fn := fun _ => fun
  | [d, g1] => { results := [.lit (.bool false)], args := [d], vars := [g1] }
  | _ => none }
def FnForwardWrongFalsely : Prop := fnForwardRow.holds Tryd.pinned (OpenSpec.ofChange fnForwardWrong)

/-- 'laws.FnOnce': WHATEVER THE INPUT: true; the input reads as it did. -/
def fnOnceSpec : ChangeSpec := { name := "fnOnce", vars := ["loop.example/g00358/impl.shaWords"], fn := fun _ => fun
  | [d, g1] => { results := [.lit (.bool true)], args := [d], vars := [g1] }
  | _ => none }
def fnOnceRow : OpenClaim := { program := "ytibidhcmenljoaadoor", sum := "87dd495fcc05fb5e6919b297d0794cf88fa1232bea31fe604b4cce8fa1897107", func := "loop.example/g00358/laws.FnOnce", spec := "fnOnce", inPlace := ["slices.overlaps[loop.example/g00358/impl.Session]"], unfollowed := true, recurses := true, named := ["loop.example/g00358/impl.shaWords"], apart := false, laid := [("loop.example/g00358/impl.shaWords", laid_loop_example_g00358_impl_shaWords)] }
def FnOnceSaid : Prop := fnOnceRow.holds Tryd.pinned (OpenSpec.ofChange fnOnceSpec)

/-- ITS FALSE NEIGHBOUR: 'it returns false'. Refute it at one input. -/
def fnOnceWrong : ChangeSpec := { name := "fnOnce", vars := ["loop.example/g00358/impl.shaWords"], fn := fun _ => fun
  | [d, g1] => { results := [.lit (.bool false)], args := [d], vars := [g1] }
  | _ => none }
def FnOnceWrongFalsely : Prop := fnOnceRow.holds Tryd.pinned (OpenSpec.ofChange fnOnceWrong)

/-- 'laws.FnPublished': WHATEVER THE INPUT: true; the input reads as it did. -/
def fnPublishedSpec : ChangeSpec := { name := "fnPublished", vars := ["loop.example/g00358/impl.shaWords"], fn := fun _ => fun
  | [d, g1] => { results := [.lit (.bool true)], args := [d], vars := [g1] }
  | _ => none }
def fnPublishedRow : OpenClaim := { program := "ytibidhcmenljoaadoor", sum := "87dd495fcc05fb5e6919b297d0794cf88fa1232bea31fe604b4cce8fa1897107", func := "loop.example/g00358/laws.FnPublished", spec := "fnPublished", unfollowed := true, recurses := true, named := ["loop.example/g00358/impl.shaWords"], apart := false, laid := [("loop.example/g00358/impl.shaWords", laid_loop_example_g00358_impl_shaWords)] }
def FnPublishedSaid : Prop := fnPublishedRow.holds Tryd.pinned (OpenSpec.ofChange fnPublishedSpec)

/-- ITS FALSE NEIGHBOUR: 'it returns false'. Refute it at one input. -/
def fnPublishedWrong : ChangeSpec := { name := "fnPublished", vars := ["loop.example/g00358/impl.shaWords"], fn := fun _ => fun
  | [d, g1] => { results := [.lit (.bool false)], args := [d], vars := [g1] }
  | _ => none }
def FnPublishedWrongFalsely : Prop := fnPublishedRow.holds Tryd.pinned (OpenSpec.ofChange fnPublishedWrong)

/-- 'laws.FnExactFoldReg': WHATEVER THE INPUT: true; the input reads as it did. -/
def fnExactFoldRegSpec : ChangeSpec := { name := "fnExactFoldReg", vars := ["loop.example/g00358/impl.shaWords"], fn := fun _ => fun
  | [d1, d2, g1] => { results := [.lit (.bool true)], args := [d1, d2], vars := [g1] }
  | _ => none }
def fnExactFoldRegRow : OpenClaim := { program := "ytibidhcmenljoaadoor", sum := "87dd495fcc05fb5e6919b297d0794cf88fa1232bea31fe604b4cce8fa1897107", func := "loop.example/g00358/laws.FnExactFoldReg", spec := "fnExactFoldReg", inPlace := ["slices.overlaps[loop.example/g00358/impl.Session]"], unfollowed := true, recurses := true, named := ["loop.example/g00358/impl.shaWords"], apart := false, laid := [("loop.example/g00358/impl.shaWords", laid_loop_example_g00358_impl_shaWords)] }
def FnExactFoldRegSaid : Prop := fnExactFoldRegRow.holds Tryd.pinned (OpenSpec.ofChange fnExactFoldRegSpec)

/-- ITS FALSE NEIGHBOUR: 'it returns false'. Refute it at one input. -/
def fnExactFoldRegWrong : ChangeSpec := { name := "fnExactFoldReg", vars := ["loop.example/g00358/impl.shaWords"], fn := fun _ => fun
  | [d1, d2, g1] => { results := [.lit (.bool false)], args := [d1, d2], vars := [g1] }
  | _ => none }
def FnExactFoldRegWrongFalsely : Prop := fnExactFoldRegRow.holds Tryd.pinned (OpenSpec.ofChange fnExactFoldRegWrong)

/-- 'laws.FnExactOrderOf': WHATEVER THE INPUT: true; the input reads as it did. -/
def fnExactOrderOfSpec : ChangeSpec := { name := "fnExactOrderOf", vars := ["loop.example/g00358/impl.shaWords"], fn := fun _ => fun
  | [d, g1] => { results := [.lit (.bool true)], args := [d], vars := [g1] }
  | _ => none }
def fnExactOrderOfRow : OpenClaim := { program := "ytibidhcmenljoaadoor", sum := "87dd495fcc05fb5e6919b297d0794cf88fa1232bea31fe604b4cce8fa1897107", func := "loop.example/g00358/laws.FnExactOrderOf", spec := "fnExactOrderOf", inPlace := ["slices.overlaps[loop.example/g00358/impl.Session]"], unfollowed := true, recurses := true, named := ["loop.example/g00358/impl.shaWords"], apart := false, laid := [("loop.example/g00358/impl.shaWords", laid_loop_example_g00358_impl_shaWords)] }
def FnExactOrderOfSaid : Prop := fnExactOrderOfRow.holds Tryd.pinned (OpenSpec.ofChange fnExactOrderOfSpec)

/-- ITS FALSE NEIGHBOUR: 'it returns false'. Refute it at one input. -/
def fnExactOrderOfWrong : ChangeSpec := { name := "fnExactOrderOf", vars := ["loop.example/g00358/impl.shaWords"], fn := fun _ => fun
  | [d, g1] => { results := [.lit (.bool false)], args := [d], vars := [g1] }
  | _ => none }
def FnExactOrderOfWrongFalsely : Prop := fnExactOrderOfRow.holds Tryd.pinned (OpenSpec.ofChange fnExactOrderOfWrong)

/-- 'laws.FnExactLinear': WHATEVER THE INPUT: true; the input reads as it did. -/
def fnExactLinearSpec : ChangeSpec := { name := "fnExactLinear", vars := ["loop.example/g00358/impl.shaWords"], fn := fun _ => fun
  | [d1, d2, g1] => { results := [.lit (.bool true)], args := [d1, d2], vars := [g1] }
  | _ => none }
def fnExactLinearRow : OpenClaim := { program := "ytibidhcmenljoaadoor", sum := "87dd495fcc05fb5e6919b297d0794cf88fa1232bea31fe604b4cce8fa1897107", func := "loop.example/g00358/laws.FnExactLinear", spec := "fnExactLinear", inPlace := ["slices.overlaps[loop.example/g00358/impl.Session]"], unfollowed := true, recurses := true, named := ["loop.example/g00358/impl.shaWords"], apart := false, laid := [("loop.example/g00358/impl.shaWords", laid_loop_example_g00358_impl_shaWords)] }
def FnExactLinearSaid : Prop := fnExactLinearRow.holds Tryd.pinned (OpenSpec.ofChange fnExactLinearSpec)

/-- ITS FALSE NEIGHBOUR: 'it returns false'. Refute it at one input. -/
def fnExactLinearWrong : ChangeSpec := { name := "fnExactLinear", vars := ["loop.example/g00358/impl.shaWords"], fn := fun _ => fun
  | [d1, d2, g1] => { results := [.lit (.bool false)], args := [d1, d2], vars := [g1] }
  | _ => none }
def FnExactLinearWrongFalsely : Prop := fnExactLinearRow.holds Tryd.pinned (OpenSpec.ofChange fnExactLinearWrong)

/-- 'laws.FnImage': WHATEVER THE INPUT: true; the input reads as it did. -/
def fnImageSpec : ChangeSpec := { name := "fnImage", vars := ["loop.example/g00358/impl.shaWords"], fn := fun _ => fun
  | [d, g1] => { results := [.lit (.bool true)], args := [d], vars := [g1] }
  | _ => none }
def fnImageRow : OpenClaim := { program := "ytibidhcmenljoaadoor", sum := "87dd495fcc05fb5e6919b297d0794cf88fa1232bea31fe604b4cce8fa1897107", func := "loop.example/g00358/laws.FnImage", spec := "fnImage", inPlace := ["slices.overlaps[loop.example/g00358/impl.Session]"], unfollowed := true, recurses := true, named := ["loop.example/g00358/impl.shaWords"], apart := false, laid := [("loop.example/g00358/impl.shaWords", laid_loop_example_g00358_impl_shaWords)] }
def FnImageSaid : Prop := fnImageRow.holds Tryd.pinned (OpenSpec.ofChange fnImageSpec)

/-- ITS FALSE NEIGHBOUR: 'it returns false'. Refute it at one input. -/
def fnImageWrong : ChangeSpec := { name := "fnImage", vars := ["loop.example/g00358/impl.shaWords"], fn := fun _ => fun
  | [d, g1] => { results := [.lit (.bool false)], args := [d], vars := [g1] }
  | _ => none }
def FnImageWrongFalsely : Prop := fnImageRow.holds Tryd.pinned (OpenSpec.ofChange fnImageWrong)

/-- 'laws.FnExactGateOk': WHATEVER THE INPUT: true; the input reads as it did. -/
def fnExactGateOkSpec : ChangeSpec := { name := "fnExactGateOk", vars := ["loop.example/g00358/impl.shaWords"], fn := fun _ => fun
  | [d, g1] => { results := [.lit (.bool true)], args := [d], vars := [g1] }
  | _ => none }
def fnExactGateOkRow : OpenClaim := { program := "ytibidhcmenljoaadoor", sum := "87dd495fcc05fb5e6919b297d0794cf88fa1232bea31fe604b4cce8fa1897107", func := "loop.example/g00358/laws.FnExactGateOk", spec := "fnExactGateOk", unfollowed := true, recurses := true, named := ["loop.example/g00358/impl.shaWords"], apart := false, laid := [("loop.example/g00358/impl.shaWords", laid_loop_example_g00358_impl_shaWords)] }
def FnExactGateOkSaid : Prop := fnExactGateOkRow.holds Tryd.pinned (OpenSpec.ofChange fnExactGateOkSpec)

/-- ITS FALSE NEIGHBOUR: 'it returns false'. Refute it at one input. -/
def fnExactGateOkWrong : ChangeSpec := { name := "fnExactGateOk", vars := ["loop.example/g00358/impl.shaWords"], fn := fun _ => fun
  | [d, g1] => { results := [.lit (.bool false)], args := [d], vars := [g1] }
  | _ => none }
def FnExactGateOkWrongFalsely : Prop := fnExactGateOkRow.holds Tryd.pinned (OpenSpec.ofChange fnExactGateOkWrong)

/- THE SECOND FORM. 'bulk': how many values and letters a reading holds, each counted each time it is reached (what is shared counts as often as it is met; a slice's spare places count too). A statement '..UptoSaid' is the law's where the arguments, and the package variables that the reading takes, are together of bulk at most 1048576: NARROWER than '..Said'. Prove '..Said' where nothing that the law and all that it calls make is longer than what came in: it says more and counts as full. Else prove '..UptoSaid'. A law counts once. -/
mutual
def uptoBulk {H : Type} : DataW H → Nat
  | .lit (.string bytes) => bytes.length + 1
  | .lit _ => 1
  | .nil => 1
  | .ptr d => uptoBulk d + 1
  | .slice elems spare => uptoBulkAll elems + uptoBulkAll spare + 1
  | .agg parts => uptoBulkAll parts + 1
  | .iface _ d => uptoBulk d + 1
  | .map entries => uptoBulkEntries entries + 1
  | .held _ => 1
def uptoBulkAll {H : Type} : List (DataW H) → Nat
  | [] => 0
  | d :: r => uptoBulk d + uptoBulkAll r
def uptoBulkEntries {H : Type} : List (Lit × DataW H) → Nat
  | [] => 0
  | x :: r => uptoBulkEntry x + uptoBulkEntries r
def uptoBulkEntry {H : Type} : Lit × DataW H → Nat
  | (.string bytes, d) => bytes.length + uptoBulk d + 1
  | (_, d) => uptoBulk d + 1
 end
def uptoSmall : (H : Type) → List (DataW H) → Bool := fun _ ds => decide (uptoBulkAll ds ≤ 1048576)
def OpenSpec.upto (s : _root_.Go.ChangeSpec) : _root_.Go.OpenSpec := { _root_.Go.OpenSpec.ofChange s with cond := some uptoSmall }

/-- 'laws.FnExactRegDo', WHERE WHAT IT READS IS OF BULK AT MOST 1048576: true; the input reads as it did. -/
def fnExactRegDoUptoRow : OpenClaim := { program := "ytibidhcmenljoaadoor", sum := "87dd495fcc05fb5e6919b297d0794cf88fa1232bea31fe604b4cce8fa1897107", func := "loop.example/g00358/laws.FnExactRegDo", spec := "fnExactRegDo", unfollowed := true, recurses := true, named := ["loop.example/g00358/impl.shaWords"], apart := false, laid := [("loop.example/g00358/impl.shaWords", laid_loop_example_g00358_impl_shaWords)], narrowed := true }
def FnExactRegDoUptoSaid : Prop := fnExactRegDoUptoRow.holds Tryd.pinned (OpenSpec.upto fnExactRegDoSpec)

/-- 'laws.FnForward', WHERE WHAT IT READS IS OF BULK AT MOST 1048576: true; the input reads as it did. -/
def fnForwardUptoRow : OpenClaim := { program := "ytibidhcmenljoaadoor", sum := "87dd495fcc05fb5e6919b297d0794cf88fa1232bea31fe604b4cce8fa1897107", func := "loop.example/g00358/laws.FnForward", spec := "fnForward", unfollowed := true, recurses := true, named := ["loop.example/g00358/impl.shaWords"], apart := false, laid := [("loop.example/g00358/impl.shaWords", laid_loop_example_g00358_impl_shaWords)], narrowed := true }
def FnForwardUptoSaid : Prop := fnForwardUptoRow.holds Tryd.pinned (OpenSpec.upto fnForwardSpec)

/-- 'laws.FnOnce', WHERE WHAT IT READS IS OF BULK AT MOST 1048576: true; the input reads as it did. -/
def fnOnceUptoRow : OpenClaim := { program := "ytibidhcmenljoaadoor", sum := "87dd495fcc05fb5e6919b297d0794cf88fa1232bea31fe604b4cce8fa1897107", func := "loop.example/g00358/laws.FnOnce", spec := "fnOnce", inPlace := ["slices.overlaps[loop.example/g00358/impl.Session]"], unfollowed := true, recurses := true, named := ["loop.example/g00358/impl.shaWords"], apart := false, laid := [("loop.example/g00358/impl.shaWords", laid_loop_example_g00358_impl_shaWords)], narrowed := true }
def FnOnceUptoSaid : Prop := fnOnceUptoRow.holds Tryd.pinned (OpenSpec.upto fnOnceSpec)

/-- 'laws.FnPublished', WHERE WHAT IT READS IS OF BULK AT MOST 1048576: true; the input reads as it did. -/
def fnPublishedUptoRow : OpenClaim := { program := "ytibidhcmenljoaadoor", sum := "87dd495fcc05fb5e6919b297d0794cf88fa1232bea31fe604b4cce8fa1897107", func := "loop.example/g00358/laws.FnPublished", spec := "fnPublished", unfollowed := true, recurses := true, named := ["loop.example/g00358/impl.shaWords"], apart := false, laid := [("loop.example/g00358/impl.shaWords", laid_loop_example_g00358_impl_shaWords)], narrowed := true }
def FnPublishedUptoSaid : Prop := fnPublishedUptoRow.holds Tryd.pinned (OpenSpec.upto fnPublishedSpec)

/-- 'laws.FnExactFoldReg', WHERE WHAT IT READS IS OF BULK AT MOST 1048576: true; the input reads as it did. -/
def fnExactFoldRegUptoRow : OpenClaim := { program := "ytibidhcmenljoaadoor", sum := "87dd495fcc05fb5e6919b297d0794cf88fa1232bea31fe604b4cce8fa1897107", func := "loop.example/g00358/laws.FnExactFoldReg", spec := "fnExactFoldReg", inPlace := ["slices.overlaps[loop.example/g00358/impl.Session]"], unfollowed := true, recurses := true, named := ["loop.example/g00358/impl.shaWords"], apart := false, laid := [("loop.example/g00358/impl.shaWords", laid_loop_example_g00358_impl_shaWords)], narrowed := true }
def FnExactFoldRegUptoSaid : Prop := fnExactFoldRegUptoRow.holds Tryd.pinned (OpenSpec.upto fnExactFoldRegSpec)

/-- 'laws.FnExactOrderOf', WHERE WHAT IT READS IS OF BULK AT MOST 1048576: true; the input reads as it did. -/
def fnExactOrderOfUptoRow : OpenClaim := { program := "ytibidhcmenljoaadoor", sum := "87dd495fcc05fb5e6919b297d0794cf88fa1232bea31fe604b4cce8fa1897107", func := "loop.example/g00358/laws.FnExactOrderOf", spec := "fnExactOrderOf", inPlace := ["slices.overlaps[loop.example/g00358/impl.Session]"], unfollowed := true, recurses := true, named := ["loop.example/g00358/impl.shaWords"], apart := false, laid := [("loop.example/g00358/impl.shaWords", laid_loop_example_g00358_impl_shaWords)], narrowed := true }
def FnExactOrderOfUptoSaid : Prop := fnExactOrderOfUptoRow.holds Tryd.pinned (OpenSpec.upto fnExactOrderOfSpec)

/-- 'laws.FnExactLinear', WHERE WHAT IT READS IS OF BULK AT MOST 1048576: true; the input reads as it did. -/
def fnExactLinearUptoRow : OpenClaim := { program := "ytibidhcmenljoaadoor", sum := "87dd495fcc05fb5e6919b297d0794cf88fa1232bea31fe604b4cce8fa1897107", func := "loop.example/g00358/laws.FnExactLinear", spec := "fnExactLinear", inPlace := ["slices.overlaps[loop.example/g00358/impl.Session]"], unfollowed := true, recurses := true, named := ["loop.example/g00358/impl.shaWords"], apart := false, laid := [("loop.example/g00358/impl.shaWords", laid_loop_example_g00358_impl_shaWords)], narrowed := true }
def FnExactLinearUptoSaid : Prop := fnExactLinearUptoRow.holds Tryd.pinned (OpenSpec.upto fnExactLinearSpec)

/-- 'laws.FnImage', WHERE WHAT IT READS IS OF BULK AT MOST 1048576: true; the input reads as it did. -/
def fnImageUptoRow : OpenClaim := { program := "ytibidhcmenljoaadoor", sum := "87dd495fcc05fb5e6919b297d0794cf88fa1232bea31fe604b4cce8fa1897107", func := "loop.example/g00358/laws.FnImage", spec := "fnImage", inPlace := ["slices.overlaps[loop.example/g00358/impl.Session]"], unfollowed := true, recurses := true, named := ["loop.example/g00358/impl.shaWords"], apart := false, laid := [("loop.example/g00358/impl.shaWords", laid_loop_example_g00358_impl_shaWords)], narrowed := true }
def FnImageUptoSaid : Prop := fnImageUptoRow.holds Tryd.pinned (OpenSpec.upto fnImageSpec)

/-- 'laws.FnExactGateOk', WHERE WHAT IT READS IS OF BULK AT MOST 1048576: true; the input reads as it did. -/
def fnExactGateOkUptoRow : OpenClaim := { program := "ytibidhcmenljoaadoor", sum := "87dd495fcc05fb5e6919b297d0794cf88fa1232bea31fe604b4cce8fa1897107", func := "loop.example/g00358/laws.FnExactGateOk", spec := "fnExactGateOk", unfollowed := true, recurses := true, named := ["loop.example/g00358/impl.shaWords"], apart := false, laid := [("loop.example/g00358/impl.shaWords", laid_loop_example_g00358_impl_shaWords)], narrowed := true }
def FnExactGateOkUptoSaid : Prop := fnExactGateOkUptoRow.holds Tryd.pinned (OpenSpec.upto fnExactGateOkSpec)

end Rows
end Go.Proofs.YtibidhcmenljoaaDoor

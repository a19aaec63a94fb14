/- The types and the functions that the laws reach: what each computes, and that it computes it. Printed by a program of this session (mk2.py). -/
import Derived.Test.YtcdncdbghghnfaaVD
namespace Go.Proofs.Ytcdncdbghghnfaa
open Go Go.Proofs.Ytcdncdbghghnfaa.V
set_option maxRecDepth 100000
def t7 : Ty := .st (.pair (.int .i64) (.pair (.int .i64) (.pair .bool (.int .u8))))
def t8 : Ty := .st (.pair (.int .i64) (.pair (.int .i64) (.pair .bool (.int .u8))))
def t22 : Ty := .sl 5 (.int .u8)
def t24 : Ty := .st (.pair (.int .i64) (.pair (.int .i64) (.pair (.int .i64) .str)))
def t25 : Ty := .st (.pair (.int .i64) (.pair (.int .i64) (.pair (.int .i64) .str)))
def t26 : Ty := .st (.pair (.int .i64) (.pair (.int .i64) (.pair .bool (.pair t25 (.int .i64)))))
def t27 : Ty := .st (.pair (.int .i64) (.pair (.int .i64) (.pair .bool (.pair t25 (.int .i64)))))
def t84 : Ty := .st (.pair (.int .i64) .str)
def t29 : Ty := .st (.pair (.int .i64) (.pair (.int .i64) (.pair (.int .i64) (.pair (.int .i64) (.pair (.int .i64) (.pair (.int .i64) (.pair (.int .i64) (.pair .bool (.pair (.sl 84 t84) .str)))))))))
def t30 : Ty := .st (.pair (.int .i64) (.pair (.int .i64) (.pair (.int .i64) (.pair (.int .i64) (.pair (.int .i64) (.pair (.int .i64) (.pair (.int .i64) (.pair .bool (.pair (.sl 84 t84) .str)))))))))
def t33 : Ty := .st (.pair (.int .i64) (.pair (.int .i64) (.pair (.int .i64) (.pair .str (.pair (.int .i64) (.int .i64))))))
def t34 : Ty := .st (.pair (.int .i64) (.pair (.int .i64) (.pair (.int .i64) (.pair .str (.pair (.int .i64) (.int .i64))))))
def t35 : Ty := .st (.pair (.int .i64) (.pair (.int .i64) (.pair t25 (.pair t34 (.pair (.int .i64) (.int .i64))))))
def t36 : Ty := .st (.pair (.int .i64) (.pair (.int .i64) (.pair t25 (.pair t34 (.pair (.int .i64) (.int .i64))))))
def t54 : Ty := .st (.pair t22 (.pair (.int .i64) (.int .i64)))
def t55 : Ty := .st (.pair t22 (.pair (.int .i64) (.int .i64)))
def t58 : Ty := .sl 3 (.int .i64)
def t70 : Ty := .st (.pair .str .bool)
def t71 : Ty := .st (.pair .str .bool)
def t93 : Ty := .st (.pair (.int .i64) (.int .i64))
def t74 : Ty := .st (.pair (.sl 93 t93) .unit)
def t75 : Ty := .st (.pair (.sl 93 t93) .unit)
def t83 : Ty := .st (.pair (.int .i64) .str)
def t92 : Ty := .st (.pair (.int .i64) (.int .i64))
def t94 : Ty := .sl 98 (.int .u32)
def tyl : List (Option Ty) := [none, none, some (.int .i64), some (.int .i64), some .bool, some (.int .u8), some (.int .u8), some t7, some t8, some .str, some .str, some .str, some (.int .u64), none, none, none, none, none, none, none, none, some (.int .i32), some t22, none, some t24, some t25, some t26, some t27, some (.sl 84 t84), some t29, some t30, none, none, some t33, some t34, some t35, some t36, none, none, none, none, none, none, none, none, none, none, none, none, none, none, none, none, none, some t54, some t55, none, none, some t58, none, none, none, none, none, none, none, none, none, none, none, some t70, some t71, none, some (.sl 93 t93), some t74, some t75, none, none, none, none, none, none, none, some t83, some t84, none, none, none, none, none, some (.int .u64), none, some t92, some t93, some t94, none, none, none, some (.int .u32), none, some (.sl 9 .str), none, none, none, none, none, none, none, none, none, none, some (.int .u8), some (.int .u8), none, none, some (.int .i32), some (.int .i32)]
theorem mix_ok : Try.prog.follows .mixedOrders = true := by kernel_rfl
theorem tyl_ok : tabB Try.prog 12 tyl 0 = true := by kernel_rfl
/-- laws.big -/
def s4 : Sig := ⟨[.ro t22], [(.bool, true)], false⟩
noncomputable def w_big (x : List Int) : Option (Bool) :=
  some (decide (1048576 < (↑x.length : Int)))
theorem w_big_eq (x) : fnK ⟨tabT tyl, ftab []⟩ (C0) Try.f4 s4 x = w_big x := by kernel_rfl
theorem c4 : FnOk Try.prog 4 ⟨s4, w_big⟩ := fn_of mix_ok rfl tyl_ok (fl := []) trivial Try.func4 rfl rfl cuts0 w_big_eq
/-- spec.l1New -/
def s9 : Sig := ⟨[.ro t22], [(t55, false)], true⟩
def s9_9 : CutSig := ⟨32, [0, 3, 4], [.ro t22, .ro (.int .i64), .ro (.int .i64)], [(.ex 0, [3], [((.int .i64), true)])]⟩
noncomputable def s_l1New_L9 (go : List Int × Int × Int → Option (Int)) (x : List Int × Int × Int) : Option (Int) :=
  (bif decide (x.snd.snd < (↑(List.length x.fst) : Int)) then some (decide (x.snd.snd < 4000)) else some false).bind
  fun x_1 =>
  bif x_1 then
    bif decide (0 ≤ x.snd.snd) then
      x.fst[Int.toNat x.snd.snd]?.bind fun x_2 =>
        go
          (x.fst,
            IntKind.i64.wrap
              (↑(BitVec.ofInt IntKind.i64.bits
                        (IntKind.i64.wrap
                          (IntKind.i64.wrap (IntKind.i64.wrap (x.snd.fst * 131) + IntKind.i64.wrap x_2) + 7)) &&&
                      BitVec.ofInt IntKind.i64.bits 1073741823).toNat :
                Int),
            IntKind.i64.wrap (x.snd.snd + 1))
    else none
  else some x.snd.fst
theorem s_l1New_L9_eq (go x) : loopStep ⟨tabT tyl, ftab []⟩ (C0) (loopOf Try.f9 9) s9_9 go x = s_l1New_L9 go x := by kernel_rfl
theorem l9_9 : CutOk Try.prog ⟨s9_9, iter s_l1New_L9 FUEL⟩ (.loop (loopOf Try.f9 9)) := loop_of mix_ok rfl tyl_ok (fl := []) trivial (C := C0) rfl (pts := []) (by kernel_rfl) trivial s_l1New_L9_eq
noncomputable def s_l1New (x : List Int) : Option (List Int × Int × Int) :=
  (iter s_l1New_L9 FUEL (x, IntKind.i64.wrap (10101 + (↑x.length : Int)), 0)).bind fun x_1 => some (x, 0, x_1)
theorem s_l1New_eq (x) : fnK ⟨tabT tyl, ftab []⟩ (ctab [(9, ⟨s9_9, iter s_l1New_L9 FUEL⟩)]) Try.f9 s9 x = s_l1New x := by kernel_rfl
theorem c9 : FnOk Try.prog 9 ⟨s9, s_l1New⟩ := fn_of2 mix_ok rfl tyl_ok (fl := []) trivial Try.func9 rfl rfl (C := ctab [(9, ⟨s9_9, iter s_l1New_L9 FUEL⟩)]) (pts := [(⟨s9_9, iter s_l1New_L9 FUEL⟩, .loop (loopOf Try.f9 9))]) (by kernel_rfl) ⟨l9_9, trivial⟩ s_l1New_eq
/-- spec.l1Byte -/
def s40 : Sig := ⟨[.mu t55], [((.int .i64), true)], false⟩
noncomputable def s_l1Byte (x : List Int × Int × Int) : Option (Int × List Int × Int × Int) :=
  bif decide (x.snd.fst < (↑(List.length x.fst) : Int)) then
  bif decide (0 ≤ x.snd.fst) then
    x.fst[Int.toNat x.snd.fst]?.bind fun x_1 =>
      some
        (IntKind.i64.wrap
            (↑(BitVec.ofInt IntKind.i64.bits
                      (IntKind.i64.wrap
                        (IntKind.i64.wrap
                            (↑(BitVec.ofInt IntKind.i64.bits
                                      (IntKind.i64.wrap
                                        (↑(BitVec.ofInt IntKind.i64.bits
                                                  ((IntKind.i64.wrap
                                                        (IntKind.i64.wrap (x.snd.snd * 6364136223846793005) +
                                                          1442695040888963407)).fdiv
                                                    (2 ^ min (Int.toNat 33) IntKind.i64.bits)) ^^^
                                                BitVec.ofInt IntKind.i64.bits
                                                  ((IntKind.i64.wrap
                                                        (IntKind.i64.wrap (x.snd.snd * 6364136223846793005) +
                                                          1442695040888963407)).fdiv
                                                    (2 ^ min (Int.toNat 45) IntKind.i64.bits))).toNat :
                                          Int)) &&&
                                    BitVec.ofInt IntKind.i64.bits 255).toNat :
                              Int) +
                          IntKind.i64.wrap x_1)) &&&
                    BitVec.ofInt IntKind.i64.bits 255).toNat :
              Int),
          x.fst, IntKind.i64.wrap (x.snd.fst + 1),
          IntKind.i64.wrap (IntKind.i64.wrap (x.snd.snd * 6364136223846793005) + 1442695040888963407))
  else none
else
  some
    (IntKind.i64.wrap
        (↑(BitVec.ofInt IntKind.i64.bits
                  (IntKind.i64.wrap
                    (↑(BitVec.ofInt IntKind.i64.bits
                              ((IntKind.i64.wrap
                                    (IntKind.i64.wrap (x.snd.snd * 6364136223846793005) + 1442695040888963407)).fdiv
                                (2 ^ min (Int.toNat 33) IntKind.i64.bits)) ^^^
                            BitVec.ofInt IntKind.i64.bits
                              ((IntKind.i64.wrap
                                    (IntKind.i64.wrap (x.snd.snd * 6364136223846793005) + 1442695040888963407)).fdiv
                                (2 ^ min (Int.toNat 45) IntKind.i64.bits))).toNat :
                      Int)) &&&
                BitVec.ofInt IntKind.i64.bits 255).toNat :
          Int),
      x.fst, x.snd.fst, IntKind.i64.wrap (IntKind.i64.wrap (x.snd.snd * 6364136223846793005) + 1442695040888963407))
theorem s_l1Byte_eq (x) : fnK ⟨tabT tyl, ftab []⟩ (C0) Try.f40 s40 x = s_l1Byte x := by kernel_rfl
theorem c40 : FnOk Try.prog 40 ⟨s40, s_l1Byte⟩ := fn_of mix_ok rfl tyl_ok (fl := []) trivial Try.func40 rfl rfl cuts0 s_l1Byte_eq
/-- spec.l1Below -/
def s23 : Sig := ⟨[.mu t55, .ro (.int .i64)], [((.int .i64), true)], false⟩
noncomputable def s_l1Below (x : (List Int × Int × Int) × Int) : Option (Int × List Int × Int × Int) :=
  bif decide (x.snd ≤ 0) then some (0, x.fst)
else
  bif decide (x.snd ≤ 256) then
    (s_l1Byte x.fst).bind fun x_1 => bif !decide (x.snd = 0) then some (Int.tmod x_1.fst x.snd, x_1.snd) else none
  else
    (s_l1Byte x.fst).bind fun x_1 =>
      (s_l1Byte x_1.snd).bind fun x_2 =>
        (s_l1Byte x_2.snd).bind fun x_3 =>
          (s_l1Byte x_3.snd).bind fun x_4 =>
            bif !decide (x.snd = 0) then
              some
                ((IntKind.i64.wrap
                        (IntKind.i64.wrap
                            (IntKind.i64.wrap
                                (IntKind.i64.wrap (x_1.fst * 16777216) + IntKind.i64.wrap (x_2.fst * 65536)) +
                              IntKind.i64.wrap (x_3.fst * 256)) +
                          x_4.fst)).tmod
                    x.snd,
                  x_4.snd)
            else none
theorem s_l1Below_eq (x) : fnK ⟨tabT tyl, ftab [(40, ⟨s40, s_l1Byte⟩)]⟩ (C0) Try.f23 s23 x = s_l1Below x := by kernel_rfl
theorem c23 : FnOk Try.prog 23 ⟨s23, s_l1Below⟩ := fn_of mix_ok rfl tyl_ok (fl := [(40, ⟨s40, s_l1Byte⟩)]) ⟨c40, trivial⟩ Try.func23 rfl rfl cuts0 s_l1Below_eq
/-- spec.l1Once -/
def s21 : Sig := ⟨[.mu t55, .ro (.int .i64)], [(.bool, true)], false⟩
noncomputable def s_l1Once (x : (List Int × Int × Int) × Int) : Option (Bool × List Int × Int × Int) :=
  (s_l1Below (x.fst, x.snd)).bind fun x => some (decide (x.fst = 0), x.snd)
theorem s_l1Once_eq (x) : fnK ⟨tabT tyl, ftab [(23, ⟨s23, s_l1Below⟩)]⟩ (C0) Try.f21 s21 x = s_l1Once x := by kernel_rfl
theorem c21 : FnOk Try.prog 21 ⟨s21, s_l1Once⟩ := fn_of mix_ok rfl tyl_ok (fl := [(23, ⟨s23, s_l1Below⟩)]) ⟨c23, trivial⟩ Try.func21 rfl rfl cuts0 s_l1Once_eq
/-- spec.l1PickInt -/
def s22 : Sig := ⟨[.mu t55, .ro t58], [((.int .i64), true)], false⟩
noncomputable def s_l1PickInt (x : (List Int × Int × Int) × List Int) : Option (Int × List Int × Int × Int) :=
  (s_l1Below (x.fst, (↑(List.length x.snd) : Int))).bind fun x_1 =>
  bif decide (0 ≤ x_1.fst) then x.snd[Int.toNat x_1.fst]?.bind fun x => some (x, x_1.snd) else none
theorem s_l1PickInt_eq (x) : fnK ⟨tabT tyl, ftab [(23, ⟨s23, s_l1Below⟩)]⟩ (C0) Try.f22 s22 x = s_l1PickInt x := by kernel_rfl
theorem c22 : FnOk Try.prog 22 ⟨s22, s_l1PickInt⟩ := fn_of mix_ok rfl tyl_ok (fl := [(23, ⟨s23, s_l1Below⟩)]) ⟨c23, trivial⟩ Try.func22 rfl rfl cuts0 s_l1PickInt_eq
/-- spec.l19Now -/
def s10 : Sig := ⟨[.mu t55], [((.int .i64), true)], false⟩
noncomputable def s_l19Now (x : List Int × Int × Int) : Option (Int × List Int × Int × Int) :=
  (s_l1Once (x, 15)).bind fun x =>
  bif x.fst then
    (s_l1PickInt (x.snd, ((((List.replicate 4 0).set 0 (-1)).set 1 0).set 2 1000000).set 3 1000001)).bind fun x =>
      some (x.fst, x.snd)
  else (s_l1Below (x.snd, 90)).bind fun x => some (x.fst, x.snd)
theorem s_l19Now_eq (x) : fnK ⟨tabT tyl, ftab [(21, ⟨s21, s_l1Once⟩), (22, ⟨s22, s_l1PickInt⟩), (23, ⟨s23, s_l1Below⟩)]⟩ (C0) Try.f10 s10 x = s_l19Now x := by kernel_rfl
theorem c10 : FnOk Try.prog 10 ⟨s10, s_l19Now⟩ := fn_of mix_ok rfl tyl_ok (fl := [(21, ⟨s21, s_l1Once⟩), (22, ⟨s22, s_l1PickInt⟩), (23, ⟨s23, s_l1Below⟩)]) ⟨c21, c22, c23, trivial⟩ Try.func10 rfl rfl cuts0 s_l19Now_eq
/-- spec.l1In -/
def s18 : Sig := ⟨[.ro (.int .i64), .ro (.int .i64), .ro (.int .i64)], [(.bool, true)], false⟩
noncomputable def s_l1In (x : Int × Int × Int) : Option (Bool) :=
  (bif decide (x.snd.fst ≤ x.fst) then some (decide (x.fst ≤ x.snd.snd)) else some false).bind fun x => some x
theorem s_l1In_eq (x) : fnK ⟨tabT tyl, ftab []⟩ (C0) Try.f18 s18 x = s_l1In x := by kernel_rfl
theorem c18 : FnOk Try.prog 18 ⟨s18, s_l1In⟩ := fn_of mix_ok rfl tyl_ok (fl := []) trivial Try.func18 rfl rfl cuts0 s_l1In_eq
/-- spec.Var -/
def s45 : Sig := ⟨[.ro (.int .i64)], [(.str, true)], false⟩
def s45_11 : CutSig := ⟨25, [0, 3], [.ro (.int .i64), .own t22], [(.ex 0, [0, 3], [((.int .i64), true), (t22, true)])]⟩
noncomputable def s_Var_L11 (go : Int × List Int → Option (Int × List Int)) (x : Int × List Int) : Option (Int × List Int) :=
  bif decide (128 ≤ x.fst) then
  bif
      true && (3 == 0 || 3 == 1 || [3, 2].contains 3 || [].contains 3) &&
        decide
          (List.length x.snd +
              ((List.replicate 1 0).set 0 (IntKind.u8.wrap (IntKind.i64.wrap (128 + Int.tmod x.fst 128)))).length ≤
            4294967296) then
    go
      (IntKind.i64.wrap (Int.tdiv x.fst 128),
        x.snd ++ (List.replicate 1 0).set 0 (IntKind.u8.wrap (IntKind.i64.wrap (128 + Int.tmod x.fst 128))))
  else none
else some (x.fst, x.snd)
theorem s_Var_L11_eq (go x) : loopStep ⟨tabT tyl, ftab []⟩ (C0) (loopOf Try.f45 11) s45_11 go x = s_Var_L11 go x := by kernel_rfl
theorem l45_11 : CutOk Try.prog ⟨s45_11, iter s_Var_L11 FUEL⟩ (.loop (loopOf Try.f45 11)) := loop_of mix_ok rfl tyl_ok (fl := []) trivial (C := C0) rfl (pts := []) (by kernel_rfl) trivial s_Var_L11_eq
noncomputable def s_Var (x : Int) : Option (List UInt8) :=
  (s_l1In (x, 0, 562949953421311)).bind fun x_1 =>
  bif !x_1 then some []
  else
    (iter s_Var_L11 FUEL (x, List.replicate 0 0)).bind fun x =>
      bif
          true && (4 == 0 || 4 == 1 || [4, 3].contains 4 || [].contains 4) &&
            decide (List.length x.snd + ((List.replicate 1 0).set 0 (IntKind.u8.wrap x.fst)).length ≤ 4294967296) then
        some (List.map (fun (b : Int) => UInt8.ofNat b.toNat) (x.snd ++ (List.replicate 1 0).set 0 (IntKind.u8.wrap x.fst)))
      else none
theorem s_Var_eq (x) : fnK ⟨tabT tyl, ftab [(18, ⟨s18, s_l1In⟩)]⟩ (ctab [(11, ⟨s45_11, iter s_Var_L11 FUEL⟩)]) Try.f45 s45 x = s_Var x := by kernel_rfl
theorem c45 : FnOk Try.prog 45 ⟨s45, s_Var⟩ := fn_of2 mix_ok rfl tyl_ok (fl := [(18, ⟨s18, s_l1In⟩)]) ⟨c18, trivial⟩ Try.func45 rfl rfl (C := ctab [(11, ⟨s45_11, iter s_Var_L11 FUEL⟩)]) (pts := [(⟨s45_11, iter s_Var_L11 FUEL⟩, .loop (loopOf Try.f45 11))]) (by kernel_rfl) ⟨l45_11, trivial⟩ s_Var_eq
/-- spec.l7Bytes -/
def s69 : Sig := ⟨[.ro (.sl 9 .str), .ro (.int .i64)], [(.str, true)], false⟩
noncomputable def s_l7Bytes (x : List (List UInt8) × Int) : Option (List UInt8) :=
  bif decide (x.snd < 256) then
  some (List.map (fun (b : Int) => UInt8.ofNat b.toNat) ((List.replicate 1 0).set 0 (IntKind.u8.wrap x.snd)))
else
  bif decide (0 ≤ IntKind.i64.wrap (x.snd - 256)) then
    x.fst[(IntKind.i64.wrap (x.snd - 256)).toNat]?.bind fun x => some x
  else none
theorem s_l7Bytes_eq (x) : fnK ⟨tabT tyl, ftab []⟩ (C0) Try.f69 s69 x = s_l7Bytes x := by kernel_rfl
theorem c69 : FnOk Try.prog 69 ⟨s69, s_l7Bytes⟩ := fn_of mix_ok rfl tyl_ok (fl := []) trivial Try.func69 rfl rfl cuts0 s_l7Bytes_eq
/-- spec.l7Table -/
def s66 : Sig := ⟨[.ro t75], [((.sl 9 .str), true), (.bool, true)], false⟩
def s66_31 : CutSig := ⟨72, [4, 5, 7, 8], [.own (.sl 9 .str), .ro (.int .i64), .ro .str, .ro (.int .i64)], [(.ex 2, [4], [((.sl 9 .str), true)]), (.ret, [2, 3], [((.sl 9 .str), true), (.bool, true)])]⟩
noncomputable def s_l7Table_L31 (go : List (List UInt8) × Int × List UInt8 × Int → Option (List (List UInt8) ⊕ List (List UInt8) × Bool)) (x : List (List UInt8) × Int × List UInt8 × Int) : Option (List (List UInt8) ⊕ List (List UInt8) × Bool) :=
  bif decide (x.snd.snd.snd < x.snd.fst) then
  bif decide (0 ≤ x.snd.snd.snd) then
    x.fst[Int.toNat x.snd.snd.snd]?.bind fun x_1 =>
      x.fst[Int.toNat x.snd.snd.snd]?.bind fun x_2 =>
        bif decide (x_2 = x.snd.snd.fst) then some (Sum.inr (x.fst, false))
        else go (x.fst, x.snd.fst, x.snd.snd.fst, IntKind.i64.wrap (x.snd.snd.snd + 1))
  else none
else some (Sum.inl x.fst)
theorem s_l7Table_L31_eq (go x) : loopStep ⟨tabT tyl, ftab []⟩ (C0) (loopOf Try.f66 31) s66_31 go x = s_l7Table_L31 go x := by kernel_rfl
theorem l66_31 : CutOk Try.prog ⟨s66_31, iter s_l7Table_L31 FUEL⟩ (.loop (loopOf Try.f66 31)) := loop_of mix_ok rfl tyl_ok (fl := []) trivial (C := C0) rfl (pts := []) (by kernel_rfl) trivial s_l7Table_L31_eq
def s66_13 : CutSig := ⟨72, [1, 4, 5], [.pin t75, .own (.sl 9 .str), .ro (.int .i64)], [(.ex 0, [4], [((.sl 9 .str), true)]), (.ret, [2, 3], [((.sl 9 .str), true), (.bool, true)])]⟩
noncomputable def s_l7Table_L13 (go : (List (Int × Int) × PUnit) × List (List UInt8) × Int → Option (List (List UInt8) ⊕ List (List UInt8) × Bool)) (x : (List (Int × Int) × PUnit) × List (List UInt8) × Int) : Option (List (List UInt8) ⊕ List (List UInt8) × Bool) :=
  bif decide (x.snd.snd < (↑(List.length x.fst.fst) : Int)) then
  bif decide (0 ≤ x.snd.snd) then
    x.fst.fst[Int.toNat x.snd.snd]?.bind fun x_1 =>
      (s_l1In (x_1.fst, 0, IntKind.i64.wrap (255 + x.snd.snd))).bind fun x_2 =>
        (bif !!x_2 then (s_l1In (x_1.snd, 0, IntKind.i64.wrap (255 + x.snd.snd))).bind fun x => some !x
            else some true).bind
          fun x_3 =>
          bif x_3 then some (Sum.inr (x.snd.fst, false))
          else
            (s_l7Bytes (x.snd.fst, x_1.fst)).bind fun x_4 =>
              (s_l7Bytes (x.snd.fst, x_1.snd)).bind fun x_5 =>
                bif decide (x_4.length + x_5.length ≤ 4611686018427387904) then
                  bif decide (24 < (↑(x_4 ++ x_5).length : Int)) then some (Sum.inr (x.snd.fst, false))
                  else
                    (iter s_l7Table_L31 FUEL (x.snd.fst, x.snd.snd, x_4 ++ x_5, 0)).bind fun x_6 =>
                      sumK x_6
                        (fun y =>
                          bif
                              true && (5 == 0 || 5 == 1 || [5, 4].contains 5 || [].contains 5) &&
                                decide (y.length + ((List.replicate 1 []).set 0 (x_4 ++ x_5)).length ≤ 4294967296) then
                            go (x.fst, y ++ (List.replicate 1 []).set 0 (x_4 ++ x_5), IntKind.i64.wrap (x.snd.snd + 1))
                          else none)
                        fun z => some (Sum.inr (z.fst, z.snd))
                else none
  else none
else some (Sum.inl x.snd.fst)
theorem s_l7Table_L13_eq (go x) : loopStep ⟨tabT tyl, ftab [(18, ⟨s18, s_l1In⟩), (69, ⟨s69, s_l7Bytes⟩)]⟩ (ctab [(31, ⟨s66_31, iter s_l7Table_L31 FUEL⟩)]) (loopOf Try.f66 13) s66_13 go x = s_l7Table_L13 go x := by kernel_rfl
theorem l66_13 : CutOk Try.prog ⟨s66_13, iter s_l7Table_L13 FUEL⟩ (.loop (loopOf Try.f66 13)) := loop_of mix_ok rfl tyl_ok (fl := [(18, ⟨s18, s_l1In⟩), (69, ⟨s69, s_l7Bytes⟩)]) ⟨c18, c69, trivial⟩ (C := ctab [(31, ⟨s66_31, iter s_l7Table_L31 FUEL⟩)]) rfl (pts := [(⟨s66_31, iter s_l7Table_L31 FUEL⟩, .loop (loopOf Try.f66 31))]) (by kernel_rfl) ⟨l66_31, trivial⟩ s_l7Table_L13_eq
noncomputable def s_l7Table (x : List (Int × Int) × PUnit) : Option (List (List UInt8) × Bool) :=
  bif decide (60 < (↑(List.length x.fst) : Int)) then some (List.replicate 0 [], false)
else
  (iter s_l7Table_L13 FUEL (x, List.replicate 0 [], 0)).bind fun x =>
    sumK x (fun y => some (y, true)) fun z => some (z.fst, z.snd)
theorem s_l7Table_eq (x) : fnK ⟨tabT tyl, ftab [(18, ⟨s18, s_l1In⟩), (69, ⟨s69, s_l7Bytes⟩)]⟩ (ctab [(13, ⟨s66_13, iter s_l7Table_L13 FUEL⟩)]) Try.f66 s66 x = s_l7Table x := by kernel_rfl
theorem c66 : FnOk Try.prog 66 ⟨s66, s_l7Table⟩ := fn_of2 mix_ok rfl tyl_ok (fl := [(18, ⟨s18, s_l1In⟩), (69, ⟨s69, s_l7Bytes⟩)]) ⟨c18, c69, trivial⟩ Try.func66 rfl rfl (C := ctab [(13, ⟨s66_13, iter s_l7Table_L13 FUEL⟩)]) (pts := [(⟨s66_13, iter s_l7Table_L13 FUEL⟩, .loop (loopOf Try.f66 13))]) (by kernel_rfl) ⟨l66_13, trivial⟩ s_l7Table_eq
/-- spec.VocabOk -/
def s58 : Sig := ⟨[.ro t75], [(.bool, true)], false⟩
noncomputable def s_VocabOk (x : List (Int × Int) × PUnit) : Option (Bool) :=
  (s_l7Table x).bind fun x => some x.snd
theorem s_VocabOk_eq (x) : fnK ⟨tabT tyl, ftab [(66, ⟨s66, s_l7Table⟩)]⟩ (C0) Try.f58 s58 x = s_VocabOk x := by kernel_rfl
theorem c58 : FnOk Try.prog 58 ⟨s58, s_VocabOk⟩ := fn_of mix_ok rfl tyl_ok (fl := [(66, ⟨s66, s_l7Table⟩)]) ⟨c66, trivial⟩ Try.func58 rfl rfl cuts0 s_VocabOk_eq
/-- spec.Canon -/
def s41 : Sig := ⟨[.ro t75], [(.str, true)], false⟩
def s41_13 : CutSig := ⟨38, [1, 3, 4], [.pin t75, .ro .str, .ro (.int .i64)], [(.ex 0, [3], [(.str, true)])]⟩
noncomputable def s_Canon_L13 (go : (List (Int × Int) × PUnit) × List UInt8 × Int → Option (List UInt8)) (x : (List (Int × Int) × PUnit) × List UInt8 × Int) : Option (List UInt8) :=
  bif decide (x.snd.snd < (↑(List.length x.fst.fst) : Int)) then
  bif decide (0 ≤ x.snd.snd) then
    x.fst.fst[Int.toNat x.snd.snd]?.bind fun x_1 =>
      (s_Var x_1.fst).bind fun x_2 =>
        bif decide (List.length x.snd.fst + x_2.length ≤ 4611686018427387904) then
          bif decide (0 ≤ x.snd.snd) then
            x.fst.fst[Int.toNat x.snd.snd]?.bind fun x_3 =>
              (s_Var x_3.snd).bind fun x_4 =>
                bif decide ((x.snd.fst ++ x_2).length + x_4.length ≤ 4611686018427387904) then
                  go (x.fst, x.snd.fst ++ x_2 ++ x_4, IntKind.i64.wrap (x.snd.snd + 1))
                else none
          else none
        else none
  else none
else some x.snd.fst
theorem s_Canon_L13_eq (go x) : loopStep ⟨tabT tyl, ftab [(45, ⟨s45, s_Var⟩)]⟩ (C0) (loopOf Try.f41 13) s41_13 go x = s_Canon_L13 go x := by kernel_rfl
theorem l41_13 : CutOk Try.prog ⟨s41_13, iter s_Canon_L13 FUEL⟩ (.loop (loopOf Try.f41 13)) := loop_of mix_ok rfl tyl_ok (fl := [(45, ⟨s45, s_Var⟩)]) ⟨c45, trivial⟩ (C := C0) rfl (pts := []) (by kernel_rfl) trivial s_Canon_L13_eq
noncomputable def s_Canon (x : List (Int × Int) × PUnit) : Option (List UInt8) :=
  (s_VocabOk x).bind fun x_1 =>
  bif !x_1 then some []
  else
    (s_Var (↑(List.length x.fst) : Int)).bind fun x_2 =>
      bif
          decide
            ([(98 : UInt8), (112 : UInt8),
                    (101 : UInt8)].length +
                x_2.length ≤
              4611686018427387904) then
        (iter s_Canon_L13 FUEL
              (x,
                [(98 : UInt8), (112 : UInt8),
                    (101 : UInt8)] ++
                  x_2,
                0)).bind
          fun x => some x
      else none
theorem s_Canon_eq (x) : fnK ⟨tabT tyl, ftab [(45, ⟨s45, s_Var⟩), (58, ⟨s58, s_VocabOk⟩)]⟩ (ctab [(13, ⟨s41_13, iter s_Canon_L13 FUEL⟩)]) Try.f41 s41 x = s_Canon x := by kernel_rfl
theorem c41 : FnOk Try.prog 41 ⟨s41, s_Canon⟩ := fn_of2 mix_ok rfl tyl_ok (fl := [(45, ⟨s45, s_Var⟩), (58, ⟨s58, s_VocabOk⟩)]) ⟨c45, c58, trivial⟩ Try.func41 rfl rfl (C := ctab [(13, ⟨s41_13, iter s_Canon_L13 FUEL⟩)]) (pts := [(⟨s41_13, iter s_Canon_L13 FUEL⟩, .loop (loopOf Try.f41 13))]) (by kernel_rfl) ⟨l41_13, trivial⟩ s_Canon_eq
/-- spec.l7Draw -/
def s42 : Sig := ⟨[.mu t55, .ro (.int .i64)], [(t75, true)], false⟩
def s42_18 : CutSig := ⟨72, [0, 7, 26], [.mu t55, .ro (.int .i64), .ro .bool], [(.nor, [7], [((.int .i64), true)])]⟩
noncomputable def s_l7Draw_L18 (x : (List Int × Int × Int) × Int × Bool) : Option (Int × List Int × Int × Int) :=
  bif x.snd.snd then
  (s_l1PickInt (x.fst, (((((List.replicate 5 0).set 0 32).set 1 48).set 2 200).set 3 0).set 4 255)).bind fun x =>
    some (x.fst, x.snd)
else some (x.snd.fst, x.fst)
theorem s_l7Draw_L18_eq (x) : cutFn ⟨tabT tyl, ftab [(22, ⟨s22, s_l1PickInt⟩)]⟩ (C0) (condOf Try.f42 18) s42_18 x = s_l7Draw_L18 x := by kernel_rfl
theorem l42_18 : CutOk Try.prog ⟨s42_18, s_l7Draw_L18⟩ (condOf Try.f42 18) := cond_of mix_ok rfl tyl_ok (fl := [(22, ⟨s22, s_l1PickInt⟩)]) ⟨c22, trivial⟩ (C := C0) rfl (pts := []) (by kernel_rfl) trivial s_l7Draw_L18_eq
def s42_9 : CutSig := ⟨72, [0, 5, 6], [.mu t55, .pio t75, .ro (.int .i64)], [(.ex 0, [], [])]⟩
noncomputable def s_l7Draw_L9 (go : (List Int × Int × Int) × (List (Int × Int) × PUnit) × Int → Option ((List Int × Int × Int) × List (Int × Int) × PUnit)) (x : (List Int × Int × Int) × (List (Int × Int) × PUnit) × Int) : Option ((List Int × Int × Int) × List (Int × Int) × PUnit) :=
  bif decide (0 < x.snd.snd) then
  (s_l1Below (x.fst, 3)).bind fun x_1 =>
    (s_l1Below (x_1.snd, 3)).bind fun x_2 =>
      (s_l1Once (x_2.snd, 6)).bind fun x_3 =>
        (s_l7Draw_L18 (x_3.snd, IntKind.i64.wrap (97 + x_1.fst), x_3.fst)).bind fun x_4 =>
          bif decide (0 < (↑(List.length x.snd.fst.fst) : Int)) then
            (s_l1Once (x_4.snd, 2)).bind fun x_5 =>
              bif x_5.fst then
                (s_l1Below (x_5.snd, (↑(List.length x.snd.fst.fst) : Int))).bind fun x_6 =>
                  bif decide (0 < (↑(List.length x.snd.fst.fst) : Int)) then
                    (s_l1Once (x_6.snd, 3)).bind fun x_7 =>
                      bif x_7.fst then
                        (s_l1Below (x_7.snd, (↑(List.length x.snd.fst.fst) : Int))).bind fun x_8 =>
                          bif
                              true && (3 == 0 || 3 == 1 || [5, 3].contains 3 || [].contains 3) &&
                                decide ((List.replicate 0 (0, 0)).length + List.length x.snd.fst.fst ≤ 4294967296) then
                            bif
                                true && (7 == 0 || 7 == 1 || [7, 6, 3].contains 7 || [].contains 7) &&
                                  decide
                                    ((List.replicate 0 (0, 0) ++ x.snd.fst.fst).length +
                                        ((List.replicate 1 (0, 0)).set 0
                                            (IntKind.i64.wrap (256 + x_6.fst),
                                              IntKind.i64.wrap (256 + x_8.fst))).length ≤
                                      4294967296) then
                              (s_VocabOk
                                    (List.replicate 0 (0, 0) ++ x.snd.fst.fst ++
                                        (List.replicate 1 (0, 0)).set 0
                                          (IntKind.i64.wrap (256 + x_6.fst), IntKind.i64.wrap (256 + x_8.fst)),
                                      ())).bind
                                fun x_9 =>
                                bif x_9 then
                                  go
                                    (x_8.snd,
                                      (List.replicate 0 (0, 0) ++ x.snd.fst.fst ++
                                          (List.replicate 1 (0, 0)).set 0
                                            (IntKind.i64.wrap (256 + x_6.fst), IntKind.i64.wrap (256 + x_8.fst)),
                                        ()),
                                      IntKind.i64.wrap (x.snd.snd - 1))
                                else go (x_8.snd, x.snd.fst, IntKind.i64.wrap (x.snd.snd - 1))
                            else none
                          else none
                      else
                        bif
                            true && (3 == 0 || 3 == 1 || [5, 3].contains 3 || [].contains 3) &&
                              decide ((List.replicate 0 (0, 0)).length + List.length x.snd.fst.fst ≤ 4294967296) then
                          bif
                              true && (7 == 0 || 7 == 1 || [7, 6, 3].contains 7 || [].contains 7) &&
                                decide
                                  ((List.replicate 0 (0, 0) ++ x.snd.fst.fst).length +
                                      ((List.replicate 1 (0, 0)).set 0
                                          (IntKind.i64.wrap (256 + x_6.fst), IntKind.i64.wrap (97 + x_2.fst))).length ≤
                                    4294967296) then
                            (s_VocabOk
                                  (List.replicate 0 (0, 0) ++ x.snd.fst.fst ++
                                      (List.replicate 1 (0, 0)).set 0
                                        (IntKind.i64.wrap (256 + x_6.fst), IntKind.i64.wrap (97 + x_2.fst)),
                                    ())).bind
                              fun x_8 =>
                              bif x_8 then
                                go
                                  (x_7.snd,
                                    (List.replicate 0 (0, 0) ++ x.snd.fst.fst ++
                                        (List.replicate 1 (0, 0)).set 0
                                          (IntKind.i64.wrap (256 + x_6.fst), IntKind.i64.wrap (97 + x_2.fst)),
                                      ()),
                                    IntKind.i64.wrap (x.snd.snd - 1))
                              else go (x_7.snd, x.snd.fst, IntKind.i64.wrap (x.snd.snd - 1))
                          else none
                        else none
                  else
                    bif
                        true && (3 == 0 || 3 == 1 || [5, 3].contains 3 || [].contains 3) &&
                          decide ((List.replicate 0 (0, 0)).length + List.length x.snd.fst.fst ≤ 4294967296) then
                      bif
                          true && (7 == 0 || 7 == 1 || [7, 6, 3].contains 7 || [].contains 7) &&
                            decide
                              ((List.replicate 0 (0, 0) ++ x.snd.fst.fst).length +
                                  ((List.replicate 1 (0, 0)).set 0
                                      (IntKind.i64.wrap (256 + x_6.fst), IntKind.i64.wrap (97 + x_2.fst))).length ≤
                                4294967296) then
                        (s_VocabOk
                              (List.replicate 0 (0, 0) ++ x.snd.fst.fst ++
                                  (List.replicate 1 (0, 0)).set 0
                                    (IntKind.i64.wrap (256 + x_6.fst), IntKind.i64.wrap (97 + x_2.fst)),
                                ())).bind
                          fun x_7 =>
                          bif x_7 then
                            go
                              (x_6.snd,
                                (List.replicate 0 (0, 0) ++ x.snd.fst.fst ++
                                    (List.replicate 1 (0, 0)).set 0
                                      (IntKind.i64.wrap (256 + x_6.fst), IntKind.i64.wrap (97 + x_2.fst)),
                                  ()),
                                IntKind.i64.wrap (x.snd.snd - 1))
                          else go (x_6.snd, x.snd.fst, IntKind.i64.wrap (x.snd.snd - 1))
                      else none
                    else none
              else
                bif decide (0 < (↑(List.length x.snd.fst.fst) : Int)) then
                  (s_l1Once (x_5.snd, 3)).bind fun x_6 =>
                    bif x_6.fst then
                      (s_l1Below (x_6.snd, (↑(List.length x.snd.fst.fst) : Int))).bind fun x_7 =>
                        bif
                            true && (3 == 0 || 3 == 1 || [5, 3].contains 3 || [].contains 3) &&
                              decide ((List.replicate 0 (0, 0)).length + List.length x.snd.fst.fst ≤ 4294967296) then
                          bif
                              true && (7 == 0 || 7 == 1 || [7, 6, 3].contains 7 || [].contains 7) &&
                                decide
                                  ((List.replicate 0 (0, 0) ++ x.snd.fst.fst).length +
                                      ((List.replicate 1 (0, 0)).set 0
                                          (x_4.fst, IntKind.i64.wrap (256 + x_7.fst))).length ≤
                                    4294967296) then
                            (s_VocabOk
                                  (List.replicate 0 (0, 0) ++ x.snd.fst.fst ++
                                      (List.replicate 1 (0, 0)).set 0 (x_4.fst, IntKind.i64.wrap (256 + x_7.fst)),
                                    ())).bind
                              fun x_8 =>
                              bif x_8 then
                                go
                                  (x_7.snd,
                                    (List.replicate 0 (0, 0) ++ x.snd.fst.fst ++
                                        (List.replicate 1 (0, 0)).set 0 (x_4.fst, IntKind.i64.wrap (256 + x_7.fst)),
                                      ()),
                                    IntKind.i64.wrap (x.snd.snd - 1))
                              else go (x_7.snd, x.snd.fst, IntKind.i64.wrap (x.snd.snd - 1))
                          else none
                        else none
                    else
                      bif
                          true && (3 == 0 || 3 == 1 || [5, 3].contains 3 || [].contains 3) &&
                            decide ((List.replicate 0 (0, 0)).length + List.length x.snd.fst.fst ≤ 4294967296) then
                        bif
                            true && (7 == 0 || 7 == 1 || [7, 6, 3].contains 7 || [].contains 7) &&
                              decide
                                ((List.replicate 0 (0, 0) ++ x.snd.fst.fst).length +
                                    ((List.replicate 1 (0, 0)).set 0
                                        (x_4.fst, IntKind.i64.wrap (97 + x_2.fst))).length ≤
                                  4294967296) then
                          (s_VocabOk
                                (List.replicate 0 (0, 0) ++ x.snd.fst.fst ++
                                    (List.replicate 1 (0, 0)).set 0 (x_4.fst, IntKind.i64.wrap (97 + x_2.fst)),
                                  ())).bind
                            fun x_7 =>
                            bif x_7 then
                              go
                                (x_6.snd,
                                  (List.replicate 0 (0, 0) ++ x.snd.fst.fst ++
                                      (List.replicate 1 (0, 0)).set 0 (x_4.fst, IntKind.i64.wrap (97 + x_2.fst)),
                                    ()),
                                  IntKind.i64.wrap (x.snd.snd - 1))
                            else go (x_6.snd, x.snd.fst, IntKind.i64.wrap (x.snd.snd - 1))
                        else none
                      else none
                else
                  bif
                      true && (3 == 0 || 3 == 1 || [5, 3].contains 3 || [].contains 3) &&
                        decide ((List.replicate 0 (0, 0)).length + List.length x.snd.fst.fst ≤ 4294967296) then
                    bif
                        true && (7 == 0 || 7 == 1 || [7, 6, 3].contains 7 || [].contains 7) &&
                          decide
                            ((List.replicate 0 (0, 0) ++ x.snd.fst.fst).length +
                                ((List.replicate 1 (0, 0)).set 0 (x_4.fst, IntKind.i64.wrap (97 + x_2.fst))).length ≤
                              4294967296) then
                      (s_VocabOk
                            (List.replicate 0 (0, 0) ++ x.snd.fst.fst ++
                                (List.replicate 1 (0, 0)).set 0 (x_4.fst, IntKind.i64.wrap (97 + x_2.fst)),
                              ())).bind
                        fun x_6 =>
                        bif x_6 then
                          go
                            (x_5.snd,
                              (List.replicate 0 (0, 0) ++ x.snd.fst.fst ++
                                  (List.replicate 1 (0, 0)).set 0 (x_4.fst, IntKind.i64.wrap (97 + x_2.fst)),
                                ()),
                              IntKind.i64.wrap (x.snd.snd - 1))
                        else go (x_5.snd, x.snd.fst, IntKind.i64.wrap (x.snd.snd - 1))
                    else none
                  else none
          else
            bif decide (0 < (↑(List.length x.snd.fst.fst) : Int)) then
              (s_l1Once (x_4.snd, 3)).bind fun x_5 =>
                bif x_5.fst then
                  (s_l1Below (x_5.snd, (↑(List.length x.snd.fst.fst) : Int))).bind fun x_6 =>
                    bif
                        true && (3 == 0 || 3 == 1 || [5, 3].contains 3 || [].contains 3) &&
                          decide ((List.replicate 0 (0, 0)).length + List.length x.snd.fst.fst ≤ 4294967296) then
                      bif
                          true && (7 == 0 || 7 == 1 || [7, 6, 3].contains 7 || [].contains 7) &&
                            decide
                              ((List.replicate 0 (0, 0) ++ x.snd.fst.fst).length +
                                  ((List.replicate 1 (0, 0)).set 0 (x_4.fst, IntKind.i64.wrap (256 + x_6.fst))).length ≤
                                4294967296) then
                        (s_VocabOk
                              (List.replicate 0 (0, 0) ++ x.snd.fst.fst ++
                                  (List.replicate 1 (0, 0)).set 0 (x_4.fst, IntKind.i64.wrap (256 + x_6.fst)),
                                ())).bind
                          fun x_7 =>
                          bif x_7 then
                            go
                              (x_6.snd,
                                (List.replicate 0 (0, 0) ++ x.snd.fst.fst ++
                                    (List.replicate 1 (0, 0)).set 0 (x_4.fst, IntKind.i64.wrap (256 + x_6.fst)),
                                  ()),
                                IntKind.i64.wrap (x.snd.snd - 1))
                          else go (x_6.snd, x.snd.fst, IntKind.i64.wrap (x.snd.snd - 1))
                      else none
                    else none
                else
                  bif
                      true && (3 == 0 || 3 == 1 || [5, 3].contains 3 || [].contains 3) &&
                        decide ((List.replicate 0 (0, 0)).length + List.length x.snd.fst.fst ≤ 4294967296) then
                    bif
                        true && (7 == 0 || 7 == 1 || [7, 6, 3].contains 7 || [].contains 7) &&
                          decide
                            ((List.replicate 0 (0, 0) ++ x.snd.fst.fst).length +
                                ((List.replicate 1 (0, 0)).set 0 (x_4.fst, IntKind.i64.wrap (97 + x_2.fst))).length ≤
                              4294967296) then
                      (s_VocabOk
                            (List.replicate 0 (0, 0) ++ x.snd.fst.fst ++
                                (List.replicate 1 (0, 0)).set 0 (x_4.fst, IntKind.i64.wrap (97 + x_2.fst)),
                              ())).bind
                        fun x_6 =>
                        bif x_6 then
                          go
                            (x_5.snd,
                              (List.replicate 0 (0, 0) ++ x.snd.fst.fst ++
                                  (List.replicate 1 (0, 0)).set 0 (x_4.fst, IntKind.i64.wrap (97 + x_2.fst)),
                                ()),
                              IntKind.i64.wrap (x.snd.snd - 1))
                        else go (x_5.snd, x.snd.fst, IntKind.i64.wrap (x.snd.snd - 1))
                    else none
                  else none
            else
              bif
                  true && (3 == 0 || 3 == 1 || [5, 3].contains 3 || [].contains 3) &&
                    decide ((List.replicate 0 (0, 0)).length + List.length x.snd.fst.fst ≤ 4294967296) then
                bif
                    true && (7 == 0 || 7 == 1 || [7, 6, 3].contains 7 || [].contains 7) &&
                      decide
                        ((List.replicate 0 (0, 0) ++ x.snd.fst.fst).length +
                            ((List.replicate 1 (0, 0)).set 0 (x_4.fst, IntKind.i64.wrap (97 + x_2.fst))).length ≤
                          4294967296) then
                  (s_VocabOk
                        (List.replicate 0 (0, 0) ++ x.snd.fst.fst ++
                            (List.replicate 1 (0, 0)).set 0 (x_4.fst, IntKind.i64.wrap (97 + x_2.fst)),
                          ())).bind
                    fun x_5 =>
                    bif x_5 then
                      go
                        (x_4.snd,
                          (List.replicate 0 (0, 0) ++ x.snd.fst.fst ++
                              (List.replicate 1 (0, 0)).set 0 (x_4.fst, IntKind.i64.wrap (97 + x_2.fst)),
                            ()),
                          IntKind.i64.wrap (x.snd.snd - 1))
                    else go (x_4.snd, x.snd.fst, IntKind.i64.wrap (x.snd.snd - 1))
                else none
              else none
else some (x.fst, x.snd.fst)
theorem s_l7Draw_L9_eq (go x) : loopStep ⟨tabT tyl, ftab [(21, ⟨s21, s_l1Once⟩), (22, ⟨s22, s_l1PickInt⟩), (23, ⟨s23, s_l1Below⟩), (58, ⟨s58, s_VocabOk⟩)]⟩ (ctab [(18, ⟨s42_18, s_l7Draw_L18⟩)]) (loopOf Try.f42 9) s42_9 go x = s_l7Draw_L9 go x := by kernel_rfl
theorem l42_9 : CutOk Try.prog ⟨s42_9, iter s_l7Draw_L9 FUEL⟩ (.loop (loopOf Try.f42 9)) := loop_of mix_ok rfl tyl_ok (fl := [(21, ⟨s21, s_l1Once⟩), (22, ⟨s22, s_l1PickInt⟩), (23, ⟨s23, s_l1Below⟩), (58, ⟨s58, s_VocabOk⟩)]) ⟨c21, c22, c23, c58, trivial⟩ (C := ctab [(18, ⟨s42_18, s_l7Draw_L18⟩)]) rfl (pts := [(⟨s42_18, s_l7Draw_L18⟩, condOf Try.f42 18)]) (by kernel_rfl) ⟨l42_18, trivial⟩ s_l7Draw_L9_eq
noncomputable def s_l7Draw (x : (List Int × Int × Int) × Int) : Option ((List (Int × Int) × PUnit) × List Int × Int × Int) :=
  (s_l1Below (x.fst, IntKind.i64.wrap (x.snd + 1))).bind fun x =>
  (iter s_l7Draw_L9 FUEL (x.snd, ([], ()), x.fst)).bind fun x => some (x.snd, x.fst)
theorem s_l7Draw_eq (x) : fnK ⟨tabT tyl, ftab [(21, ⟨s21, s_l1Once⟩), (22, ⟨s22, s_l1PickInt⟩), (23, ⟨s23, s_l1Below⟩), (58, ⟨s58, s_VocabOk⟩)]⟩ (ctab [(9, ⟨s42_9, iter s_l7Draw_L9 FUEL⟩)]) Try.f42 s42 x = s_l7Draw x := by kernel_rfl
theorem c42 : FnOk Try.prog 42 ⟨s42, s_l7Draw⟩ := fn_of2 mix_ok rfl tyl_ok (fl := [(21, ⟨s21, s_l1Once⟩), (22, ⟨s22, s_l1PickInt⟩), (23, ⟨s23, s_l1Below⟩), (58, ⟨s58, s_VocabOk⟩)]) ⟨c21, c22, c23, c58, trivial⟩ Try.func42 rfl rfl (C := ctab [(9, ⟨s42_9, iter s_l7Draw_L9 FUEL⟩)]) (pts := [(⟨s42_9, iter s_l7Draw_L9 FUEL⟩, .loop (loopOf Try.f42 9))]) (by kernel_rfl) ⟨l42_9, trivial⟩ s_l7Draw_eq
/-- spec.l1Text -/
def s47 : Sig := ⟨[.mu t55, .ro (.int .i64)], [(.str, true)], false⟩
def s47_11 : CutSig := ⟨38, [0, 5, 6, 7], [.mu t55, .own t22, .ro (.int .i64), .ro (.int .i64)], [(.ex 0, [5], [(t22, true)])]⟩
noncomputable def s_l1Text_L11 (go : (List Int × Int × Int) × List Int × Int × Int → Option (List Int × List Int × Int × Int)) (x : (List Int × Int × Int) × List Int × Int × Int) : Option (List Int × List Int × Int × Int) :=
  bif decide (0 < x.snd.snd.snd) then
  (s_l1Byte x.fst).bind fun x_1 =>
    bif decide (x.snd.snd.fst = 1) then
      bif decide (x.snd.snd.fst = 2) then
        bif
            true && (4 == 0 || 4 == 1 || [4, 3].contains 4 || [].contains 4) &&
              decide
                (List.length x.snd.fst +
                    ((List.replicate 1 0).set 0
                        (IntKind.u8.wrap (IntKind.i64.wrap (97 + (Int.tmod x_1.fst 2).tmod 4)))).length ≤
                  4294967296) then
          go
            (x_1.snd,
              x.snd.fst ++
                (List.replicate 1 0).set 0 (IntKind.u8.wrap (IntKind.i64.wrap (97 + (Int.tmod x_1.fst 2).tmod 4))),
              x.snd.snd.fst, IntKind.i64.wrap (x.snd.snd.snd - 1))
        else none
      else
        bif
            true && (4 == 0 || 4 == 1 || [4, 3].contains 4 || [].contains 4) &&
              decide
                (List.length x.snd.fst + ((List.replicate 1 0).set 0 (IntKind.u8.wrap (Int.tmod x_1.fst 2))).length ≤
                  4294967296) then
          go
            (x_1.snd, x.snd.fst ++ (List.replicate 1 0).set 0 (IntKind.u8.wrap (Int.tmod x_1.fst 2)), x.snd.snd.fst,
              IntKind.i64.wrap (x.snd.snd.snd - 1))
        else none
    else
      bif decide (x.snd.snd.fst = 2) then
        bif
            true && (4 == 0 || 4 == 1 || [4, 3].contains 4 || [].contains 4) &&
              decide
                (List.length x.snd.fst +
                    ((List.replicate 1 0).set 0 (IntKind.u8.wrap (IntKind.i64.wrap (97 + Int.tmod x_1.fst 4)))).length ≤
                  4294967296) then
          go
            (x_1.snd,
              x.snd.fst ++ (List.replicate 1 0).set 0 (IntKind.u8.wrap (IntKind.i64.wrap (97 + Int.tmod x_1.fst 4))),
              x.snd.snd.fst, IntKind.i64.wrap (x.snd.snd.snd - 1))
        else none
      else
        bif
            true && (4 == 0 || 4 == 1 || [4, 3].contains 4 || [].contains 4) &&
              decide
                (List.length x.snd.fst + ((List.replicate 1 0).set 0 (IntKind.u8.wrap x_1.fst)).length ≤
                  4294967296) then
          go
            (x_1.snd, x.snd.fst ++ (List.replicate 1 0).set 0 (IntKind.u8.wrap x_1.fst), x.snd.snd.fst,
              IntKind.i64.wrap (x.snd.snd.snd - 1))
        else none
else some (x.snd.fst, x.fst)
theorem s_l1Text_L11_eq (go x) : loopStep ⟨tabT tyl, ftab [(40, ⟨s40, s_l1Byte⟩)]⟩ (C0) (loopOf Try.f47 11) s47_11 go x = s_l1Text_L11 go x := by kernel_rfl
theorem l47_11 : CutOk Try.prog ⟨s47_11, iter s_l1Text_L11 FUEL⟩ (.loop (loopOf Try.f47 11)) := loop_of mix_ok rfl tyl_ok (fl := [(40, ⟨s40, s_l1Byte⟩)]) ⟨c40, trivial⟩ (C := C0) rfl (pts := []) (by kernel_rfl) trivial s_l1Text_L11_eq
noncomputable def s_l1Text (x : (List Int × Int × Int) × Int) : Option (List UInt8 × List Int × Int × Int) :=
  (s_l1Below (x.fst, 4)).bind fun x_1 =>
  (s_l1Below (x_1.snd, IntKind.i64.wrap (x.snd + 1))).bind fun x =>
    (iter s_l1Text_L11 FUEL (x.snd, List.replicate 0 0, x_1.fst, x.fst)).bind fun x =>
      some (List.map (fun (b : Int) => UInt8.ofNat b.toNat) x.fst, x.snd)
theorem s_l1Text_eq (x) : fnK ⟨tabT tyl, ftab [(23, ⟨s23, s_l1Below⟩), (40, ⟨s40, s_l1Byte⟩)]⟩ (ctab [(11, ⟨s47_11, iter s_l1Text_L11 FUEL⟩)]) Try.f47 s47 x = s_l1Text x := by kernel_rfl
theorem c47 : FnOk Try.prog 47 ⟨s47, s_l1Text⟩ := fn_of2 mix_ok rfl tyl_ok (fl := [(23, ⟨s23, s_l1Below⟩), (40, ⟨s40, s_l1Byte⟩)]) ⟨c23, c40, trivial⟩ Try.func47 rfl rfl (C := ctab [(11, ⟨s47_11, iter s_l1Text_L11 FUEL⟩)]) (pts := [(⟨s47_11, iter s_l1Text_L11 FUEL⟩, .loop (loopOf Try.f47 11))]) (by kernel_rfl) ⟨l47_11, trivial⟩ s_l1Text_eq
/-- spec.l1Spoil -/
def s43 : Sig := ⟨[.mu t55, .ro .str], [(.str, true)], false⟩
noncomputable def s_l1Spoil (x : (List Int × Int × Int) × List UInt8) : Option (List UInt8 × List Int × Int × Int) :=
  bif decide ((↑(List.length x.snd) : Int) = 0) then (s_l1Text (x.fst, 3)).bind fun x => some (x.fst, x.snd)
else
  (s_l1Below (x.fst, (↑(List.length x.snd) : Int))).bind fun x_1 =>
    (s_l1Below (x_1.snd, 4)).bind fun x_2 =>
      bif decide (x_2.fst = 0) then
        bif decide (0 ≤ x_1.fst) && decide (x_1.fst ≤ (↑(List.length x.snd) : Int)) then
          bif
              decide (0 ≤ IntKind.i64.wrap (x_1.fst + 1)) &&
                decide (IntKind.i64.wrap (x_1.fst + 1) ≤ (↑(List.length x.snd) : Int)) then
            bif
                decide
                  ((List.take (Int.toNat x_1.fst) x.snd).length +
                      (List.drop (IntKind.i64.wrap (x_1.fst + 1)).toNat x.snd).length ≤
                    4611686018427387904) then
              some
                (List.take (Int.toNat x_1.fst) x.snd ++ List.drop (IntKind.i64.wrap (x_1.fst + 1)).toNat x.snd, x_2.snd)
            else none
          else none
        else none
      else
        bif decide (x_2.fst = 1) then
          bif decide (0 ≤ x_1.fst) && decide (x_1.fst ≤ (↑(List.length x.snd) : Int)) then
            (s_l1Byte x_2.snd).bind fun x_3 =>
              bif
                  decide
                    ((List.take (Int.toNat x_1.fst) x.snd).length +
                        (List.map (fun (b : Int) => UInt8.ofNat b.toNat)
                            ((List.replicate 1 0).set 0 (IntKind.u8.wrap x_3.fst))).length ≤
                      4611686018427387904) then
                bif decide (0 ≤ x_1.fst) && decide (x_1.fst ≤ (↑(List.length x.snd) : Int)) then
                  bif
                      decide
                        ((List.take (Int.toNat x_1.fst) x.snd ++
                                List.map (fun (b : Int) => UInt8.ofNat b.toNat)
                                  ((List.replicate 1 0).set 0 (IntKind.u8.wrap x_3.fst))).length +
                            (List.drop (Int.toNat x_1.fst) x.snd).length ≤
                          4611686018427387904) then
                    some
                      (List.take (Int.toNat x_1.fst) x.snd ++
                            List.map (fun (b : Int) => UInt8.ofNat b.toNat)
                              ((List.replicate 1 0).set 0 (IntKind.u8.wrap x_3.fst)) ++
                          List.drop (Int.toNat x_1.fst) x.snd,
                        x_3.snd)
                  else none
                else none
              else none
          else none
        else
          bif decide (x_2.fst = 2) then
            bif decide (0 ≤ x_1.fst) && decide (x_1.fst ≤ (↑(List.length x.snd) : Int)) then
              some (List.take (Int.toNat x_1.fst) x.snd, x_2.snd)
            else none
          else
            bif decide (0 ≤ x_1.fst) && decide (x_1.fst ≤ (↑(List.length x.snd) : Int)) then
              bif decide (0 ≤ x_1.fst) then
                x.snd[Int.toNat x_1.fst]?.bind fun x_3 =>
                  (s_l1Below (x_2.snd, 255)).bind fun x_4 =>
                    bif
                        decide
                          ((List.take (Int.toNat x_1.fst) x.snd).length +
                              (List.map (fun (b : Int) => UInt8.ofNat b.toNat)
                                  ((List.replicate 1 0).set 0
                                    (IntKind.u8.wrap
                                      (IntKind.i64.wrap
                                        (↑(BitVec.ofInt IntKind.i64.bits (IntKind.i64.wrap (↑x_3.toNat : Int)) ^^^
                                                BitVec.ofInt IntKind.i64.bits (IntKind.i64.wrap (1 + x_4.fst))).toNat :
                                          Int))))).length ≤
                            4611686018427387904) then
                      bif
                          decide (0 ≤ IntKind.i64.wrap (x_1.fst + 1)) &&
                            decide (IntKind.i64.wrap (x_1.fst + 1) ≤ (↑(List.length x.snd) : Int)) then
                        bif
                            decide
                              ((List.take (Int.toNat x_1.fst) x.snd ++
                                      List.map (fun (b : Int) => UInt8.ofNat b.toNat)
                                        ((List.replicate 1 0).set 0
                                          (IntKind.u8.wrap
                                            (IntKind.i64.wrap
                                              (↑(BitVec.ofInt IntKind.i64.bits (IntKind.i64.wrap (↑x_3.toNat : Int)) ^^^
                                                      BitVec.ofInt IntKind.i64.bits
                                                        (IntKind.i64.wrap (1 + x_4.fst))).toNat :
                                                Int))))).length +
                                  (List.drop (IntKind.i64.wrap (x_1.fst + 1)).toNat x.snd).length ≤
                                4611686018427387904) then
                          some
                            (List.take (Int.toNat x_1.fst) x.snd ++
                                  List.map (fun (b : Int) => UInt8.ofNat b.toNat)
                                    ((List.replicate 1 0).set 0
                                      (IntKind.u8.wrap
                                        (IntKind.i64.wrap
                                          (↑(BitVec.ofInt IntKind.i64.bits (IntKind.i64.wrap (↑x_3.toNat : Int)) ^^^
                                                  BitVec.ofInt IntKind.i64.bits
                                                    (IntKind.i64.wrap (1 + x_4.fst))).toNat :
                                            Int)))) ++
                                List.drop (IntKind.i64.wrap (x_1.fst + 1)).toNat x.snd,
                              x_4.snd)
                        else none
                      else none
                    else none
              else none
            else none
theorem s_l1Spoil_eq (x) : fnK ⟨tabT tyl, ftab [(23, ⟨s23, s_l1Below⟩), (40, ⟨s40, s_l1Byte⟩), (47, ⟨s47, s_l1Text⟩)]⟩ (C0) Try.f43 s43 x = s_l1Spoil x := by kernel_rfl
theorem c43 : FnOk Try.prog 43 ⟨s43, s_l1Spoil⟩ := fn_of mix_ok rfl tyl_ok (fl := [(23, ⟨s23, s_l1Below⟩), (40, ⟨s40, s_l1Byte⟩), (47, ⟨s47, s_l1Text⟩)]) ⟨c23, c40, c47, trivial⟩ Try.func43 rfl rfl cuts0 s_l1Spoil_eq
/-- spec.l12Op -/
def s24 : Sig := ⟨[.mu t55], [(t25, true)], false⟩
def s24_22 : CutSig := ⟨87, [0, 4, 12, 30], [.mu t55, .pio t25, .ro (.int .i64), .ro .bool], [(.nor, [], [])]⟩
noncomputable def s_l12Op_L22 (x : (List Int × Int × Int) × (Int × Int × Int × List UInt8) × Int × Bool) : Option ((List Int × Int × Int) × Int × Int × Int × List UInt8) :=
  bif x.snd.snd.snd then
  (s_l1Below (x.fst, 4)).bind fun x_1 =>
    (s_l1Below (x_1.snd, 3)).bind fun x_2 =>
      some (x_2.snd, x.snd.fst.fst, x_2.fst, IntKind.i64.wrap (1 + x_1.fst), x.snd.fst.snd.snd.snd)
else
  bif decide (x.snd.snd.fst = 5) then
    (s_l1Once (x.fst, 2)).bind fun x_1 =>
      bif x_1.fst then
        (s_l1Below (x_1.snd, 4)).bind fun x_2 =>
          some (x_2.snd, x.snd.fst.fst, x.snd.fst.snd.fst, IntKind.i64.wrap (1 + x_2.fst), x.snd.fst.snd.snd.snd)
      else (s_l1Below (x_1.snd, 3)).bind fun x_2 => some (x_2.snd, x.snd.fst.fst, x_2.fst, x.snd.fst.snd.snd)
  else
    (s_l1Below (x.fst, 4)).bind fun x_1 =>
      some (x_1.snd, x.snd.fst.fst, x.snd.fst.snd.fst, IntKind.i64.wrap (1 + x_1.fst), x.snd.fst.snd.snd.snd)
theorem s_l12Op_L22_eq (x) : cutFn ⟨tabT tyl, ftab [(21, ⟨s21, s_l1Once⟩), (23, ⟨s23, s_l1Below⟩)]⟩ (C0) (condOf Try.f24 22) s24_22 x = s_l12Op_L22 x := by kernel_rfl
theorem l24_22 : CutOk Try.prog ⟨s24_22, s_l12Op_L22⟩ (condOf Try.f24 22) := cond_of mix_ok rfl tyl_ok (fl := [(21, ⟨s21, s_l1Once⟩), (23, ⟨s23, s_l1Below⟩)]) ⟨c21, c23, trivial⟩ (C := C0) rfl (pts := []) (by kernel_rfl) trivial s_l12Op_L22_eq
def s24_43 : CutSig := ⟨87, [5, 6], [.ro (.int .i64), .own t22], [(.ex 2, [6], [(t22, true)])]⟩
noncomputable def s_l12Op_L43 (go : Int × List Int → Option (List Int)) (x : Int × List Int) : Option (List Int) :=
  bif decide ((↑(List.length x.snd) : Int) < x.fst) then
  bif
      true && (false || [3, 2].contains 3 || [].contains 3) &&
        decide (List.length x.snd + ((List.replicate 1 0).set 0 98).length ≤ 4294967296) then
    go (x.fst, x.snd ++ (List.replicate 1 0).set 0 98)
  else none
else some x.snd
theorem s_l12Op_L43_eq (go x) : loopStep ⟨tabT tyl, ftab []⟩ (C0) (loopOf Try.f24 43) s24_43 go x = s_l12Op_L43 go x := by kernel_rfl
theorem l24_43 : CutOk Try.prog ⟨s24_43, iter s_l12Op_L43 FUEL⟩ (.loop (loopOf Try.f24 43)) := loop_of mix_ok rfl tyl_ok (fl := []) trivial (C := C0) rfl (pts := []) (by kernel_rfl) trivial s_l12Op_L43_eq
noncomputable def s_l12Op (x : List Int × Int × Int) : Option ((Int × Int × Int × List UInt8) × List Int × Int × Int) :=
  (s_l1Below (x, 5)).bind fun x =>
  bif decide (IntKind.i64.wrap (1 + x.fst) = 1) then
    (s_l7Draw (x.snd, 3)).bind fun x_1 =>
      (s_Canon x_1.fst).bind fun x_2 =>
        (s_l1Once (x_1.snd, 12)).bind fun x_3 =>
          bif x_3.fst then
            (s_l1Spoil (x_3.snd, x_2)).bind fun x_4 =>
              (s_l1Once (x_4.snd, 25)).bind fun x_5 =>
                bif x_5.fst then
                  (s_l1Below (x_5.snd, 4)).bind fun x_6 =>
                    bif decide (x_6.fst = 0) then
                      (s_l1Below (x_6.snd, 8)).bind fun x => some ((IntKind.i64.wrap (x.fst - 1), 0, 0, x_4.fst), x.snd)
                    else
                      bif decide (x_6.fst = 1) then
                        (s_l1PickInt (x_6.snd, ((((List.replicate 4 0).set 0 (-1)).set 1 0).set 2 6).set 3 7)).bind fun x_7 =>
                          some ((IntKind.i64.wrap (1 + x.fst), 0, x_7.fst, x_4.fst), x_7.snd)
                      else
                        bif decide (x_6.fst = 2) then
                          (s_l1PickInt (x_6.snd, ((List.replicate 2 0).set 0 (-1)).set 1 3)).bind fun x_7 =>
                            some ((IntKind.i64.wrap (1 + x.fst), x_7.fst, 0, x_4.fst), x_7.snd)
                        else
                          (s_l1Below (x_6.snd, 2)).bind fun x_7 =>
                            (iter s_l12Op_L43 FUEL (IntKind.i64.wrap (250 + x_7.fst), List.replicate 0 0)).bind fun x_8 =>
                              some
                                ((IntKind.i64.wrap (1 + x.fst), 0, 0, List.map (fun (b : Int) => UInt8.ofNat b.toNat) x_8),
                                  x_7.snd)
                else some ((IntKind.i64.wrap (1 + x.fst), 0, 0, x_4.fst), x_5.snd)
          else
            (s_l1Once (x_3.snd, 25)).bind fun x_4 =>
              bif x_4.fst then
                (s_l1Below (x_4.snd, 4)).bind fun x_5 =>
                  bif decide (x_5.fst = 0) then
                    (s_l1Below (x_5.snd, 8)).bind fun x => some ((IntKind.i64.wrap (x.fst - 1), 0, 0, x_2), x.snd)
                  else
                    bif decide (x_5.fst = 1) then
                      (s_l1PickInt (x_5.snd, ((((List.replicate 4 0).set 0 (-1)).set 1 0).set 2 6).set 3 7)).bind fun x_6 =>
                        some ((IntKind.i64.wrap (1 + x.fst), 0, x_6.fst, x_2), x_6.snd)
                    else
                      bif decide (x_5.fst = 2) then
                        (s_l1PickInt (x_5.snd, ((List.replicate 2 0).set 0 (-1)).set 1 3)).bind fun x_6 =>
                          some ((IntKind.i64.wrap (1 + x.fst), x_6.fst, 0, x_2), x_6.snd)
                      else
                        (s_l1Below (x_5.snd, 2)).bind fun x_6 =>
                          (iter s_l12Op_L43 FUEL (IntKind.i64.wrap (250 + x_6.fst), List.replicate 0 0)).bind fun x_7 =>
                            some
                              ((IntKind.i64.wrap (1 + x.fst), 0, 0, List.map (fun (b : Int) => UInt8.ofNat b.toNat) x_7),
                                x_6.snd)
              else some ((IntKind.i64.wrap (1 + x.fst), 0, 0, x_2), x_4.snd)
  else
    (s_l12Op_L22
          (x.snd, (IntKind.i64.wrap (1 + x.fst), 0, 0, []), IntKind.i64.wrap (1 + x.fst),
            decide (IntKind.i64.wrap (1 + x.fst) = 2))).bind
      fun x =>
      (s_l1Once (x.fst, 25)).bind fun x_1 =>
        bif x_1.fst then
          (s_l1Below (x_1.snd, 4)).bind fun x_2 =>
            bif decide (x_2.fst = 0) then
              (s_l1Below (x_2.snd, 8)).bind fun x_3 => some ((IntKind.i64.wrap (x_3.fst - 1), x.snd.snd), x_3.snd)
            else
              bif decide (x_2.fst = 1) then
                (s_l1PickInt (x_2.snd, ((((List.replicate 4 0).set 0 (-1)).set 1 0).set 2 6).set 3 7)).bind fun x_3 =>
                  some ((x.snd.fst, x.snd.snd.fst, x_3.fst, x.snd.snd.snd.snd), x_3.snd)
              else
                bif decide (x_2.fst = 2) then
                  (s_l1PickInt (x_2.snd, ((List.replicate 2 0).set 0 (-1)).set 1 3)).bind fun x_3 =>
                    some ((x.snd.fst, x_3.fst, x.snd.snd.snd), x_3.snd)
                else
                  (s_l1Below (x_2.snd, 2)).bind fun x_3 =>
                    (iter s_l12Op_L43 FUEL (IntKind.i64.wrap (250 + x_3.fst), List.replicate 0 0)).bind fun x_4 =>
                      some
                        ((x.snd.fst, x.snd.snd.fst, x.snd.snd.snd.fst, List.map (fun (b : Int) => UInt8.ofNat b.toNat) x_4),
                          x_3.snd)
        else some (x.snd, x_1.snd)
theorem s_l12Op_eq (x) : fnK ⟨tabT tyl, ftab [(21, ⟨s21, s_l1Once⟩), (22, ⟨s22, s_l1PickInt⟩), (23, ⟨s23, s_l1Below⟩), (41, ⟨s41, s_Canon⟩), (42, ⟨s42, s_l7Draw⟩), (43, ⟨s43, s_l1Spoil⟩)]⟩ (ctab [(22, ⟨s24_22, s_l12Op_L22⟩), (43, ⟨s24_43, iter s_l12Op_L43 FUEL⟩)]) Try.f24 s24 x = s_l12Op x := by kernel_rfl
theorem c24 : FnOk Try.prog 24 ⟨s24, s_l12Op⟩ := fn_of2 mix_ok rfl tyl_ok (fl := [(21, ⟨s21, s_l1Once⟩), (22, ⟨s22, s_l1PickInt⟩), (23, ⟨s23, s_l1Below⟩), (41, ⟨s41, s_Canon⟩), (42, ⟨s42, s_l7Draw⟩), (43, ⟨s43, s_l1Spoil⟩)]) ⟨c21, c22, c23, c41, c42, c43, trivial⟩ Try.func24 rfl rfl (C := ctab [(22, ⟨s24_22, s_l12Op_L22⟩), (43, ⟨s24_43, iter s_l12Op_L43 FUEL⟩)]) (pts := [(⟨s24_22, s_l12Op_L22⟩, condOf Try.f24 22), (⟨s24_43, iter s_l12Op_L43 FUEL⟩, .loop (loopOf Try.f24 43))]) (by kernel_rfl) ⟨l24_22, l24_43, trivial⟩ s_l12Op_eq
/-- spec.OpOk -/
def s19 : Sig := ⟨[.ro t25], [(.bool, true)], false⟩
noncomputable def s_OpOk (x : Int × Int × Int × List UInt8) : Option (Bool) :=
  (s_l1In (x.snd.snd.fst, 1, 6)).bind fun x_1 =>
  (s_l1In (x.snd.fst, 0, 2)).bind fun x_2 =>
    bif decide (x.fst = 1) then
      (bif decide ((↑(List.length x.snd.snd.snd) : Int) ≤ 250) then some (decide (x.snd.snd.fst = 0))
          else some false).bind
        fun x_3 => (bif x_3 then some (decide (x.snd.fst = 0)) else some false).bind fun x => some x
    else
      bif decide (x.fst = 2) then
        (bif x_1 then some x_2 else some false).bind fun x_3 =>
          (bif x_3 then some (decide (x.snd.snd.snd = [])) else some false).bind fun x => some x
      else
        bif decide (x.fst = 3) then
          bif decide (x.fst = 3) then
            (bif x_1 then some (decide (x.snd.fst = 0)) else some false).bind fun x_3 =>
              (bif x_3 then some (decide (x.snd.snd.snd = [])) else some false).bind fun x => some x
          else
            bif decide (x.fst = 5) then
              (bif decide (x.snd.snd.snd = []) then
                    (bif x_1 then some (decide (x.snd.fst = 0)) else some false).bind fun x_3 =>
                      (bif !x_3 then (bif decide (x.snd.snd.fst = 0) then some x_2 else some false).bind fun x => some x
                          else some true).bind
                        fun x => some x
                  else some false).bind
                fun x => some x
            else some false
        else
          bif decide (x.fst = 4) then
            (bif x_1 then some (decide (x.snd.fst = 0)) else some false).bind fun x_3 =>
              (bif x_3 then some (decide (x.snd.snd.snd = [])) else some false).bind fun x => some x
          else
            bif decide (x.fst = 5) then
              (bif decide (x.snd.snd.snd = []) then
                    (bif x_1 then some (decide (x.snd.fst = 0)) else some false).bind fun x_3 =>
                      (bif !x_3 then (bif decide (x.snd.snd.fst = 0) then some x_2 else some false).bind fun x => some x
                          else some true).bind
                        fun x => some x
                  else some false).bind
                fun x => some x
            else some false
theorem s_OpOk_eq (x) : fnK ⟨tabT tyl, ftab [(18, ⟨s18, s_l1In⟩)]⟩ (C0) Try.f19 s19 x = s_OpOk x := by kernel_rfl
theorem c19 : FnOk Try.prog 19 ⟨s19, s_OpOk⟩ := fn_of mix_ok rfl tyl_ok (fl := [(18, ⟨s18, s_l1In⟩)]) ⟨c18, trivial⟩ Try.func19 rfl rfl cuts0 s_OpOk_eq
/-- spec.ClientOk -/
def s7 : Sig := ⟨[.ro t27], [(.bool, true)], false⟩
noncomputable def s_ClientOk (x : Int × Int × Bool × (Int × Int × Int × List UInt8) × Int) : Option (Bool) :=
  (s_l1In (x.fst, 1, 6)).bind fun x_1 =>
  (bif !!x_1 then (s_l1In (x.snd.fst, 0, 1000000)).bind fun x => some !x else some true).bind fun x_2 =>
    (bif !x_2 then (s_l1In (x.snd.snd.snd.snd, 0, 1000000)).bind fun x => some !x else some true).bind fun x_3 =>
      bif x_3 then some false
      else
        bif x.snd.snd.fst then
          (bif decide (1 ≤ x.snd.fst) then (s_OpOk x.snd.snd.snd.fst).bind fun x => some x else some false).bind fun x =>
            some x
        else
          (bif
                  decide (x.snd.snd.snd.fst.fst = 0) &&
                    (decide (x.snd.snd.snd.fst.snd.fst = 0) &&
                      (decide (x.snd.snd.snd.fst.snd.snd.fst = 0) && decide (x.snd.snd.snd.fst.snd.snd.snd = []))) then
                some (decide (x.snd.snd.snd.snd = 0))
              else some false).bind
            fun x => some x
theorem s_ClientOk_eq (x) : fnK ⟨tabT tyl, ftab [(18, ⟨s18, s_l1In⟩), (19, ⟨s19, s_OpOk⟩)]⟩ (C0) Try.f7 s7 x = s_ClientOk x := by kernel_rfl
theorem c7 : FnOk Try.prog 7 ⟨s7, s_ClientOk⟩ := fn_of mix_ok rfl tyl_ok (fl := [(18, ⟨s18, s_l1In⟩), (19, ⟨s19, s_OpOk⟩)]) ⟨c18, c19, trivial⟩ Try.func7 rfl rfl cuts0 s_ClientOk_eq
/-- spec.ClientCall -/
def s25 : Sig := ⟨[.ro t27, .ro t25, .ro (.int .i64)], [(t27, true), (.bool, true)], false⟩
noncomputable def s_ClientCall (x : (Int × Int × Bool × (Int × Int × Int × List UInt8) × Int) × (Int × Int × Int × List UInt8) × Int) : Option ((Int × Int × Bool × (Int × Int × Int × List UInt8) × Int) × Bool) :=
  (s_ClientOk x.fst).bind fun x_1 =>
  bif !x_1 then some ((0, 0, false, (0, 0, 0, []), 0), false)
  else
    (bif !x.fst.snd.snd.fst then (s_OpOk x.snd.fst).bind fun x => some !x else some true).bind fun x_2 =>
      (bif !x_2 then some (decide (1000000 ≤ x.fst.snd.fst)) else some true).bind fun x_3 =>
        (bif !x_3 then (s_l1In (x.snd.snd, 0, 1000000)).bind fun x => some !x else some true).bind fun x_4 =>
          bif x_4 then some (x.fst, false)
          else some ((x.fst.fst, IntKind.i64.wrap (x.fst.snd.fst + 1), true, x.snd.fst, x.snd.snd), true)
theorem s_ClientCall_eq (x) : fnK ⟨tabT tyl, ftab [(7, ⟨s7, s_ClientOk⟩), (18, ⟨s18, s_l1In⟩), (19, ⟨s19, s_OpOk⟩)]⟩ (C0) Try.f25 s25 x = s_ClientCall x := by kernel_rfl
theorem c25 : FnOk Try.prog 25 ⟨s25, s_ClientCall⟩ := fn_of mix_ok rfl tyl_ok (fl := [(7, ⟨s7, s_ClientOk⟩), (18, ⟨s18, s_l1In⟩), (19, ⟨s19, s_OpOk⟩)]) ⟨c7, c18, c19, trivial⟩ Try.func25 rfl rfl cuts0 s_ClientCall_eq
/-- spec.l19Client -/
def s11 : Sig := ⟨[.mu t55], [(t27, true)], false⟩
noncomputable def s_l19Client (x : List Int × Int × Int) : Option ((Int × Int × Bool × (Int × Int × Int × List UInt8) × Int) × List Int × Int × Int) :=
  (s_l1Below (x, 6)).bind fun x =>
  (s_l1Below (x.snd, 5)).bind fun x_1 =>
    (s_l1Once (x_1.snd, 2)).bind fun x_2 =>
      bif x_2.fst then
        (s_l12Op x_2.snd).bind fun x_3 =>
          (s_l1Below (x_3.snd, 50)).bind fun x_4 =>
            (s_ClientCall ((IntKind.i64.wrap (1 + x.fst), x_1.fst, false, (0, 0, 0, []), 0), x_3.fst, x_4.fst)).bind fun x_5 =>
              bif x_5.snd then
                (s_l1Once (x_4.snd, 10)).bind fun x =>
                  bif x.fst then
                    (s_l1Below (x.snd, 5)).bind fun x =>
                      bif decide (x.fst = 0) then
                        (s_l1PickInt (x.snd, (((List.replicate 3 0).set 0 (-1)).set 1 0).set 2 7)).bind fun x =>
                          some ((x.fst, x_5.fst.snd), x.snd)
                      else
                        bif decide (x.fst = 1) then
                          (s_l1PickInt (x.snd, ((((List.replicate 4 0).set 0 (-1)).set 1 0).set 2 1000000).set 3 1000001)).bind
                            fun x => some ((x_5.fst.fst, x.fst, x_5.fst.snd.snd), x.snd)
                        else
                          bif decide (x.fst = 2) then
                            some ((x_5.fst.fst, x_5.fst.snd.fst, !x_5.fst.snd.snd.fst, x_5.fst.snd.snd.snd), x.snd)
                          else
                            bif decide (x.fst = 3) then
                              (s_l1PickInt
                                    (x.snd,
                                      ((((List.replicate 4 0).set 0 (-1)).set 1 1).set 2 1000000).set 3 1000001)).bind
                                fun x =>
                                some
                                  ((x_5.fst.fst, x_5.fst.snd.fst, x_5.fst.snd.snd.fst, x_5.fst.snd.snd.snd.fst, x.fst),
                                    x.snd)
                            else
                              (s_l1Below (x.snd, 7)).bind fun x =>
                                some
                                  ((x_5.fst.fst, x_5.fst.snd.fst, x_5.fst.snd.snd.fst,
                                      (x.fst, x_5.fst.snd.snd.snd.fst.snd), x_5.fst.snd.snd.snd.snd),
                                    x.snd)
                  else some (x_5.fst, x.snd)
              else
                (s_l1Once (x_4.snd, 10)).bind fun x_6 =>
                  bif x_6.fst then
                    (s_l1Below (x_6.snd, 5)).bind fun x_7 =>
                      bif decide (x_7.fst = 0) then
                        (s_l1PickInt (x_7.snd, (((List.replicate 3 0).set 0 (-1)).set 1 0).set 2 7)).bind fun x =>
                          some ((x.fst, x_1.fst, false, (0, 0, 0, []), 0), x.snd)
                      else
                        bif decide (x_7.fst = 1) then
                          (s_l1PickInt
                                (x_7.snd,
                                  ((((List.replicate 4 0).set 0 (-1)).set 1 0).set 2 1000000).set 3 1000001)).bind
                            fun x_8 => some ((IntKind.i64.wrap (1 + x.fst), x_8.fst, false, (0, 0, 0, []), 0), x_8.snd)
                        else
                          bif decide (x_7.fst = 2) then
                            some ((IntKind.i64.wrap (1 + x.fst), x_1.fst, true, (0, 0, 0, []), 0), x_7.snd)
                          else
                            bif decide (x_7.fst = 3) then
                              (s_l1PickInt
                                    (x_7.snd,
                                      ((((List.replicate 4 0).set 0 (-1)).set 1 1).set 2 1000000).set 3 1000001)).bind
                                fun x_8 =>
                                some ((IntKind.i64.wrap (1 + x.fst), x_1.fst, false, (0, 0, 0, []), x_8.fst), x_8.snd)
                            else
                              (s_l1Below (x_7.snd, 7)).bind fun x_8 =>
                                some ((IntKind.i64.wrap (1 + x.fst), x_1.fst, false, (x_8.fst, 0, 0, []), 0), x_8.snd)
                  else some ((IntKind.i64.wrap (1 + x.fst), x_1.fst, false, (0, 0, 0, []), 0), x_6.snd)
      else
        (s_l1Once (x_2.snd, 10)).bind fun x_3 =>
          bif x_3.fst then
            (s_l1Below (x_3.snd, 5)).bind fun x_4 =>
              bif decide (x_4.fst = 0) then
                (s_l1PickInt (x_4.snd, (((List.replicate 3 0).set 0 (-1)).set 1 0).set 2 7)).bind fun x =>
                  some ((x.fst, x_1.fst, false, (0, 0, 0, []), 0), x.snd)
              else
                bif decide (x_4.fst = 1) then
                  (s_l1PickInt (x_4.snd, ((((List.replicate 4 0).set 0 (-1)).set 1 0).set 2 1000000).set 3 1000001)).bind
                    fun x_5 => some ((IntKind.i64.wrap (1 + x.fst), x_5.fst, false, (0, 0, 0, []), 0), x_5.snd)
                else
                  bif decide (x_4.fst = 2) then
                    some ((IntKind.i64.wrap (1 + x.fst), x_1.fst, true, (0, 0, 0, []), 0), x_4.snd)
                  else
                    bif decide (x_4.fst = 3) then
                      (s_l1PickInt (x_4.snd, ((((List.replicate 4 0).set 0 (-1)).set 1 1).set 2 1000000).set 3 1000001)).bind
                        fun x_5 =>
                        some ((IntKind.i64.wrap (1 + x.fst), x_1.fst, false, (0, 0, 0, []), x_5.fst), x_5.snd)
                    else
                      (s_l1Below (x_4.snd, 7)).bind fun x_5 =>
                        some ((IntKind.i64.wrap (1 + x.fst), x_1.fst, false, (x_5.fst, 0, 0, []), 0), x_5.snd)
          else some ((IntKind.i64.wrap (1 + x.fst), x_1.fst, false, (0, 0, 0, []), 0), x_3.snd)
theorem s_l19Client_eq (x) : fnK ⟨tabT tyl, ftab [(21, ⟨s21, s_l1Once⟩), (22, ⟨s22, s_l1PickInt⟩), (23, ⟨s23, s_l1Below⟩), (24, ⟨s24, s_l12Op⟩), (25, ⟨s25, s_ClientCall⟩)]⟩ (C0) Try.f11 s11 x = s_l19Client x := by kernel_rfl
theorem c11 : FnOk Try.prog 11 ⟨s11, s_l19Client⟩ := fn_of mix_ok rfl tyl_ok (fl := [(21, ⟨s21, s_l1Once⟩), (22, ⟨s22, s_l1PickInt⟩), (23, ⟨s23, s_l1Below⟩), (24, ⟨s24, s_l12Op⟩), (25, ⟨s25, s_ClientCall⟩)]) ⟨c21, c22, c23, c24, c25, trivial⟩ Try.func11 rfl rfl cuts0 s_l19Client_eq
/-- spec.AnswerOk -/
def s44 : Sig := ⟨[.ro t34], [(.bool, true)], false⟩
noncomputable def s_AnswerOk (x : Int × Int × Int × List UInt8 × Int × Int) : Option (Bool) :=
  (s_l1In (x.fst, 0, 5)).bind fun x_1 =>
  (bif x_1 then (s_l1In (x.snd.fst, 0, 6)).bind fun x => some x else some false).bind fun x_2 =>
    (bif x_2 then (s_l1In (x.snd.snd.fst, 0, 4)).bind fun x => some x else some false).bind fun x_3 =>
      (bif x_3 then
            (bif !decide ((↑(List.length x.snd.snd.snd.fst) : Int) = 0) then
                  some (decide ((↑(List.length x.snd.snd.snd.fst) : Int) = 32))
                else some true).bind
              fun x => some x
          else some false).bind
        fun x_4 =>
        (bif x_4 then (s_l1In (x.snd.snd.snd.snd.fst, 0, 250)).bind fun x => some x else some false).bind fun x_5 =>
          (bif x_5 then (s_l1In (x.snd.snd.snd.snd.snd, 0, 100000)).bind fun x => some x else some false).bind fun x =>
            some x
theorem s_AnswerOk_eq (x) : fnK ⟨tabT tyl, ftab [(18, ⟨s18, s_l1In⟩)]⟩ (C0) Try.f44 s44 x = s_AnswerOk x := by kernel_rfl
theorem c44 : FnOk Try.prog 44 ⟨s44, s_AnswerOk⟩ := fn_of mix_ok rfl tyl_ok (fl := [(18, ⟨s18, s_l1In⟩)]) ⟨c18, trivial⟩ Try.func44 rfl rfl cuts0 s_AnswerOk_eq
/-- spec.ShowAnswer -/
def s26 : Sig := ⟨[.ro t34], [(.str, true)], false⟩
noncomputable def s_ShowAnswer (x : Int × Int × Int × List UInt8 × Int × Int) : Option (List UInt8) :=
  (s_AnswerOk x).bind fun x_1 =>
  bif !x_1 then some []
  else
    (s_Var x.fst).bind fun x_2 =>
      (s_Var x.snd.fst).bind fun x_3 =>
        bif decide (x_2.length + x_3.length ≤ 4611686018427387904) then
          (s_Var x.snd.snd.fst).bind fun x_4 =>
            bif decide ((x_2 ++ x_3).length + x_4.length ≤ 4611686018427387904) then
              (s_Var x.snd.snd.snd.snd.fst).bind fun x_5 =>
                bif decide ((x_2 ++ x_3 ++ x_4).length + x_5.length ≤ 4611686018427387904) then
                  (s_Var x.snd.snd.snd.snd.snd).bind fun x_6 =>
                    bif decide ((x_2 ++ x_3 ++ x_4 ++ x_5).length + x_6.length ≤ 4611686018427387904) then
                      bif
                          decide
                            ((x_2 ++ x_3 ++ x_4 ++ x_5 ++ x_6).length + List.length x.snd.snd.snd.fst ≤
                              4611686018427387904) then
                        some (x_2 ++ x_3 ++ x_4 ++ x_5 ++ x_6 ++ x.snd.snd.snd.fst)
                      else none
                    else none
                else none
            else none
        else none
theorem s_ShowAnswer_eq (x) : fnK ⟨tabT tyl, ftab [(44, ⟨s44, s_AnswerOk⟩), (45, ⟨s45, s_Var⟩)]⟩ (C0) Try.f26 s26 x = s_ShowAnswer x := by kernel_rfl
theorem c26 : FnOk Try.prog 26 ⟨s26, s_ShowAnswer⟩ := fn_of mix_ok rfl tyl_ok (fl := [(44, ⟨s44, s_AnswerOk⟩), (45, ⟨s45, s_Var⟩)]) ⟨c44, c45, trivial⟩ Try.func26 rfl rfl cuts0 s_ShowAnswer_eq
/-- spec.l2Begin -/
def s59 : Sig := ⟨[], [(t94, true)], false⟩
noncomputable def s_l2Begin (x : PUnit) : Option (List Int) :=
  some
  (((((((((List.replicate 8 0).set 0 1779033703).set 1 3144134277).set 2 1013904242).set 3 2773480762).set 4
                1359893119).set
            5 2600822924).set
        6 528734635).set
    7 1541459225)
theorem s_l2Begin_eq (x) : fnK ⟨tabT tyl, ftab []⟩ (C0) Try.f59 s59 x = s_l2Begin x := by kernel_rfl
theorem c59 : FnOk Try.prog 59 ⟨s59, s_l2Begin⟩ := fn_of mix_ok rfl tyl_ok (fl := []) trivial Try.func59 rfl rfl cuts0 s_l2Begin_eq
/-- spec.l2Table -/
def s60 : Sig := ⟨[], [(t94, true)], false⟩
noncomputable def s_l2Table (x : PUnit) : Option (List Int) :=
  some
  (((((((((((((((((((((((((((((((((((((((((((((((((((((((((((((((((List.replicate 64 0).set 0 1116352408).set 1
                                                                                                                                                                                                                                                            1899447441).set
                                                                                                                                                                                                                                                        2
                                                                                                                                                                                                                                                        3049323471).set
                                                                                                                                                                                                                                                    3
                                                                                                                                                                                                                                                    3921009573).set
                                                                                                                                                                                                                                                4
                                                                                                                                                                                                                                                961987163).set
                                                                                                                                                                                                                                            5
                                                                                                                                                                                                                                            1508970993).set
                                                                                                                                                                                                                                        6
                                                                                                                                                                                                                                        2453635748).set
                                                                                                                                                                                                                                    7
                                                                                                                                                                                                                                    2870763221).set
                                                                                                                                                                                                                                8
                                                                                                                                                                                                                                3624381080).set
                                                                                                                                                                                                                            9
                                                                                                                                                                                                                            310598401).set
                                                                                                                                                                                                                        10
                                                                                                                                                                                                                        607225278).set
                                                                                                                                                                                                                    11
                                                                                                                                                                                                                    1426881987).set
                                                                                                                                                                                                                12
                                                                                                                                                                                                                1925078388).set
                                                                                                                                                                                                            13
                                                                                                                                                                                                            2162078206).set
                                                                                                                                                                                                        14
                                                                                                                                                                                                        2614888103).set
                                                                                                                                                                                                    15
                                                                                                                                                                                                    3248222580).set
                                                                                                                                                                                                16
                                                                                                                                                                                                3835390401).set
                                                                                                                                                                                            17
                                                                                                                                                                                            4022224774).set
                                                                                                                                                                                        18
                                                                                                                                                                                        264347078).set
                                                                                                                                                                                    19
                                                                                                                                                                                    604807628).set
                                                                                                                                                                                20
                                                                                                                                                                                770255983).set
                                                                                                                                                                            21
                                                                                                                                                                            1249150122).set
                                                                                                                                                                        22
                                                                                                                                                                        1555081692).set
                                                                                                                                                                    23
                                                                                                                                                                    1996064986).set
                                                                                                                                                                24
                                                                                                                                                                2554220882).set
                                                                                                                                                            25
                                                                                                                                                            2821834349).set
                                                                                                                                                        26
                                                                                                                                                        2952996808).set
                                                                                                                                                    27
                                                                                                                                                    3210313671).set
                                                                                                                                                28
                                                                                                                                                3336571891).set
                                                                                                                                            29
                                                                                                                                            3584528711).set
                                                                                                                                        30
                                                                                                                                        113926993).set
                                                                                                                                    31
                                                                                                                                    338241895).set
                                                                                                                                32
                                                                                                                                666307205).set
                                                                                                                            33
                                                                                                                            773529912).set
                                                                                                                        34
                                                                                                                        1294757372).set
                                                                                                                    35
                                                                                                                    1396182291).set
                                                                                                                36
                                                                                                                1695183700).set
                                                                                                            37
                                                                                                            1986661051).set
                                                                                                        38
                                                                                                        2177026350).set
                                                                                                    39 2456956037).set
                                                                                                40 2730485921).set
                                                                                            41 2820302411).set
                                                                                        42 3259730800).set
                                                                                    43 3345764771).set
                                                                                44 3516065817).set
                                                                            45 3600352804).set
                                                                        46 4094571909).set
                                                                    47 275423344).set
                                                                48 430227734).set
                                                            49 506948616).set
                                                        50 659060556).set
                                                    51 883997877).set
                                                52 958139571).set
                                            53 1322822218).set
                                        54 1537002063).set
                                    55 1747873779).set
                                56 1955562222).set
                            57 2024104815).set
                        58 2227730452).set
                    59 2361852424).set
                60 2428436474).set
            61 2756734187).set
        62 3204031479).set
    63 3329325298)
theorem s_l2Table_eq (x) : fnK ⟨tabT tyl, ftab []⟩ (C0) Try.f60 s60 x = s_l2Table x := by kernel_rfl
theorem c60 : FnOk Try.prog 60 ⟨s60, s_l2Table⟩ := fn_of mix_ok rfl tyl_ok (fl := []) trivial Try.func60 rfl rfl cuts0 s_l2Table_eq
/-- spec.Fixed -/
def s61 : Sig := ⟨[.ro (.int .i64), .ro (.int .i64)], [(.str, true)], false⟩
def s61_13 : CutSig := ⟨31, [0, 1, 5, 6], [.ro (.int .i64), .ro (.int .i64), .ro .str, .ro (.int .i64)], [(.ex 0, [0, 5], [((.int .i64), true), (.str, true)])]⟩
noncomputable def s_Fixed_L13 (go : Int × Int × List UInt8 × Int → Option (Int × List UInt8)) (x : Int × Int × List UInt8 × Int) : Option (Int × List UInt8) :=
  bif decide (x.snd.snd.snd < x.snd.fst) then
  bif
      decide
        ((List.map (fun (b : Int) => UInt8.ofNat b.toNat)
                ((List.replicate 1 0).set 0 (IntKind.u8.wrap (Int.tmod x.fst 256)))).length +
            List.length x.snd.snd.fst ≤
          4611686018427387904) then
    go
      (IntKind.i64.wrap (Int.tdiv x.fst 256), x.snd.fst,
        List.map (fun (b : Int) => UInt8.ofNat b.toNat) ((List.replicate 1 0).set 0 (IntKind.u8.wrap (Int.tmod x.fst 256))) ++
          x.snd.snd.fst,
        IntKind.i64.wrap (x.snd.snd.snd + 1))
  else none
else some (x.fst, x.snd.snd.fst)
theorem s_Fixed_L13_eq (go x) : loopStep ⟨tabT tyl, ftab []⟩ (C0) (loopOf Try.f61 13) s61_13 go x = s_Fixed_L13 go x := by kernel_rfl
theorem l61_13 : CutOk Try.prog ⟨s61_13, iter s_Fixed_L13 FUEL⟩ (.loop (loopOf Try.f61 13)) := loop_of mix_ok rfl tyl_ok (fl := []) trivial (C := C0) rfl (pts := []) (by kernel_rfl) trivial s_Fixed_L13_eq
noncomputable def s_Fixed (x : Int × Int) : Option (List UInt8) :=
  (s_l1In (x.snd, 1, 7)).bind fun x_1 =>
  (bif !!x_1 then some (decide (x.fst < 0)) else some true).bind fun x_2 =>
    bif x_2 then some []
    else (iter s_Fixed_L13 FUEL (x.fst, x.snd, [], 0)).bind fun x => bif decide (0 < x.fst) then some [] else some x.snd
theorem s_Fixed_eq (x) : fnK ⟨tabT tyl, ftab [(18, ⟨s18, s_l1In⟩)]⟩ (ctab [(13, ⟨s61_13, iter s_Fixed_L13 FUEL⟩)]) Try.f61 s61 x = s_Fixed x := by kernel_rfl
theorem c61 : FnOk Try.prog 61 ⟨s61, s_Fixed⟩ := fn_of2 mix_ok rfl tyl_ok (fl := [(18, ⟨s18, s_l1In⟩)]) ⟨c18, trivial⟩ Try.func61 rfl rfl (C := ctab [(13, ⟨s61_13, iter s_Fixed_L13 FUEL⟩)]) (pts := [(⟨s61_13, iter s_Fixed_L13 FUEL⟩, .loop (loopOf Try.f61 13))]) (by kernel_rfl) ⟨l61_13, trivial⟩ s_Fixed_eq
/-- spec.l2Turn -/
def s67 : Sig := ⟨[.ro (.int .u32), .ro (.int .i64)], [((.int .u32), true)], false⟩
noncomputable def s_l2Turn (x : Int × Int) : Option (Int) :=
  bif decide (0 ≤ IntKind.u64.wrap x.snd) then
  bif decide (0 ≤ IntKind.u64.wrap (IntKind.i64.wrap (32 - x.snd))) then
    some
      (IntKind.u32.wrap
        (↑(BitVec.ofInt IntKind.u32.bits (Int.fdiv x.fst (2 ^ min (IntKind.u64.wrap x.snd).toNat IntKind.u32.bits)) |||
                BitVec.ofInt IntKind.u32.bits
                  (IntKind.u32.wrap
                    (x.fst *
                      2 ^ min (IntKind.u64.wrap (IntKind.i64.wrap (32 - x.snd))).toNat IntKind.u32.bits))).toNat :
          Int))
  else none
else none
theorem s_l2Turn_eq (x) : fnK ⟨tabT tyl, ftab []⟩ (C0) Try.f67 s67 x = s_l2Turn x := by kernel_rfl
theorem c67 : FnOk Try.prog 67 ⟨s67, s_l2Turn⟩ := fn_of mix_ok rfl tyl_ok (fl := []) trivial Try.func67 rfl rfl cuts0 s_l2Turn_eq
/-- spec.l2Block -/
def s62 : Sig := ⟨[.ro t94, .ro t94, .ro .str], [(t94, true)], false⟩
def s62_9 : CutSig := ⟨256, [2, 7, 8], [.ro .str, .own t94, .ro (.int .i64)], [(.ex 0, [7], [(t94, true)])]⟩
noncomputable def s_l2Block_L9 (go : List UInt8 × List Int × Int → Option (List Int)) (x : List UInt8 × List Int × Int) : Option (List Int) :=
  bif decide (x.snd.snd < 16) then
  bif decide (0 ≤ IntKind.i64.wrap (4 * x.snd.snd)) then
    x.fst[(IntKind.i64.wrap (4 * x.snd.snd)).toNat]?.bind fun x_1 =>
      bif decide (0 ≤ IntKind.i64.wrap (IntKind.i64.wrap (4 * x.snd.snd) + 1)) then
        x.fst[(IntKind.i64.wrap (IntKind.i64.wrap (4 * x.snd.snd) + 1)).toNat]?.bind fun x_2 =>
          bif decide (0 ≤ IntKind.i64.wrap (IntKind.i64.wrap (4 * x.snd.snd) + 2)) then
            x.fst[(IntKind.i64.wrap (IntKind.i64.wrap (4 * x.snd.snd) + 2)).toNat]?.bind fun x_3 =>
              bif decide (0 ≤ IntKind.i64.wrap (IntKind.i64.wrap (4 * x.snd.snd) + 3)) then
                x.fst[(IntKind.i64.wrap (IntKind.i64.wrap (4 * x.snd.snd) + 3)).toNat]?.bind fun x_4 =>
                  bif
                      true && (3 == 0 || 3 == 1 || [3, 2].contains 3 || [].contains 3) &&
                        decide
                          (List.length x.snd.fst +
                              ((List.replicate 1 0).set 0
                                  (IntKind.u32.wrap
                                    (↑(BitVec.ofInt IntKind.u32.bits
                                              (IntKind.u32.wrap
                                                (↑(BitVec.ofInt IntKind.u32.bits
                                                          (IntKind.u32.wrap
                                                            (↑(BitVec.ofInt IntKind.u32.bits
                                                                      (IntKind.u32.wrap
                                                                        (IntKind.u32.wrap (↑x_1.toNat : Int) *
                                                                          2 ^ min (Int.toNat 24) IntKind.u32.bits)) |||
                                                                    BitVec.ofInt IntKind.u32.bits
                                                                      (IntKind.u32.wrap
                                                                        (IntKind.u32.wrap (↑x_2.toNat : Int) *
                                                                          2 ^
                                                                            min (Int.toNat 16)
                                                                              IntKind.u32.bits))).toNat :
                                                              Int)) |||
                                                        BitVec.ofInt IntKind.u32.bits
                                                          (IntKind.u32.wrap
                                                            (IntKind.u32.wrap (↑x_3.toNat : Int) *
                                                              2 ^ min (Int.toNat 8) IntKind.u32.bits))).toNat :
                                                  Int)) |||
                                            BitVec.ofInt IntKind.u32.bits (IntKind.u32.wrap (↑x_4.toNat : Int))).toNat :
                                      Int))).length ≤
                            4294967296) then
                    go
                      (x.fst,
                        x.snd.fst ++
                          (List.replicate 1 0).set 0
                            (IntKind.u32.wrap
                              (↑(BitVec.ofInt IntKind.u32.bits
                                        (IntKind.u32.wrap
                                          (↑(BitVec.ofInt IntKind.u32.bits
                                                    (IntKind.u32.wrap
                                                      (↑(BitVec.ofInt IntKind.u32.bits
                                                                (IntKind.u32.wrap
                                                                  (IntKind.u32.wrap (↑x_1.toNat : Int) *
                                                                    2 ^ min (Int.toNat 24) IntKind.u32.bits)) |||
                                                              BitVec.ofInt IntKind.u32.bits
                                                                (IntKind.u32.wrap
                                                                  (IntKind.u32.wrap (↑x_2.toNat : Int) *
                                                                    2 ^ min (Int.toNat 16) IntKind.u32.bits))).toNat :
                                                        Int)) |||
                                                  BitVec.ofInt IntKind.u32.bits
                                                    (IntKind.u32.wrap
                                                      (IntKind.u32.wrap (↑x_3.toNat : Int) *
                                                        2 ^ min (Int.toNat 8) IntKind.u32.bits))).toNat :
                                            Int)) |||
                                      BitVec.ofInt IntKind.u32.bits (IntKind.u32.wrap (↑x_4.toNat : Int))).toNat :
                                Int)),
                        IntKind.i64.wrap (x.snd.snd + 1))
                  else none
              else none
          else none
      else none
  else none
else some x.snd.fst
theorem s_l2Block_L9_eq (go x) : loopStep ⟨tabT tyl, ftab []⟩ (C0) (loopOf Try.f62 9) s62_9 go x = s_l2Block_L9 go x := by kernel_rfl
theorem l62_9 : CutOk Try.prog ⟨s62_9, iter s_l2Block_L9 FUEL⟩ (.loop (loopOf Try.f62 9)) := loop_of mix_ok rfl tyl_ok (fl := []) trivial (C := C0) rfl (pts := []) (by kernel_rfl) trivial s_l2Block_L9_eq
def s62_17 : CutSig := ⟨256, [7, 9], [.own t94, .ro (.int .i64)], [(.ex 2, [7], [(t94, true)])]⟩
noncomputable def s_l2Block_L17 (go : List Int × Int → Option (List Int)) (x : List Int × Int) : Option (List Int) :=
  bif decide (x.snd < 64) then
  bif decide (0 ≤ IntKind.i64.wrap (x.snd - 15)) then
    x.fst[(IntKind.i64.wrap (x.snd - 15)).toNat]?.bind fun x_1 =>
      x.fst[Int.toNat (IntKind.i64.wrap (x.snd - 15))]?.bind fun x_2 =>
        (s_l2Turn (x_2, 7)).bind fun x_3 =>
          bif decide (0 ≤ IntKind.i64.wrap (x.snd - 15)) then
            x.fst[(IntKind.i64.wrap (x.snd - 15)).toNat]?.bind fun x_4 =>
              x.fst[Int.toNat (IntKind.i64.wrap (x.snd - 15))]?.bind fun x_5 =>
                (s_l2Turn (x_5, 18)).bind fun x_6 =>
                  bif decide (0 ≤ IntKind.i64.wrap (x.snd - 15)) then
                    x.fst[(IntKind.i64.wrap (x.snd - 15)).toNat]?.bind fun x_7 =>
                      x.fst[Int.toNat (IntKind.i64.wrap (x.snd - 15))]?.bind fun x_8 =>
                        bif decide (0 ≤ IntKind.i64.wrap (x.snd - 2)) then
                          x.fst[(IntKind.i64.wrap (x.snd - 2)).toNat]?.bind fun x_9 =>
                            x.fst[Int.toNat (IntKind.i64.wrap (x.snd - 2))]?.bind fun x_10 =>
                              (s_l2Turn (x_10, 17)).bind fun x_11 =>
                                bif decide (0 ≤ IntKind.i64.wrap (x.snd - 2)) then
                                  x.fst[(IntKind.i64.wrap (x.snd - 2)).toNat]?.bind fun x_12 =>
                                    x.fst[Int.toNat (IntKind.i64.wrap (x.snd - 2))]?.bind
                                      fun x_13 =>
                                      (s_l2Turn (x_13, 19)).bind fun x_14 =>
                                        bif decide (0 ≤ IntKind.i64.wrap (x.snd - 2)) then
                                          x.fst[(IntKind.i64.wrap (x.snd - 2)).toNat]?.bind fun x_15 =>
                                            x.fst[Int.toNat (IntKind.i64.wrap (x.snd - 2))]?.bind
                                              fun x_16 =>
                                              bif decide (0 ≤ IntKind.i64.wrap (x.snd - 16)) then
                                                x.fst[(IntKind.i64.wrap (x.snd - 16)).toNat]?.bind fun x_17 =>
                                                  x.fst[Int.toNat (IntKind.i64.wrap (x.snd - 16))]?.bind
                                                    fun x_18 =>
                                                    bif decide (0 ≤ IntKind.i64.wrap (x.snd - 7)) then
                                                      x.fst[(IntKind.i64.wrap (x.snd - 7)).toNat]?.bind fun x_19 =>
                                                        x.fst[Int.toNat (IntKind.i64.wrap (x.snd - 7))]?.bind
                                                          fun x_20 =>
                                                          bif
                                                              true &&
                                                                  (3 == 0 || 3 == 1 || [3, 2].contains 3 ||
                                                                    [].contains 3) &&
                                                                decide
                                                                  (List.length x.fst +
                                                                      ((List.replicate 1 0).set 0
                                                                          (IntKind.u32.wrap
                                                                            (IntKind.u32.wrap
                                                                                (IntKind.u32.wrap
                                                                                    (x_18 +
                                                                                      IntKind.u32.wrap
                                                                                        (↑(BitVec.ofInt IntKind.u32.bits
                                                                                                  (IntKind.u32.wrap
                                                                                                    (↑(BitVec.ofInt
                                                                                                              IntKind.u32.bits
                                                                                                              x_3 ^^^
                                                                                                            BitVec.ofInt
                                                                                                              IntKind.u32.bits
                                                                                                              x_6).toNat :
                                                                                                      Int)) ^^^
                                                                                                BitVec.ofInt
                                                                                                  IntKind.u32.bits
                                                                                                  (x_8.fdiv
                                                                                                    (2 ^
                                                                                                      min (Int.toNat 3)
                                                                                                        IntKind.u32.bits))).toNat :
                                                                                          Int)) +
                                                                                  x_20) +
                                                                              IntKind.u32.wrap
                                                                                (↑(BitVec.ofInt IntKind.u32.bits
                                                                                          (IntKind.u32.wrap
                                                                                            (↑(BitVec.ofInt
                                                                                                      IntKind.u32.bits
                                                                                                      x_11 ^^^
                                                                                                    BitVec.ofInt
                                                                                                      IntKind.u32.bits
                                                                                                      x_14).toNat :
                                                                                              Int)) ^^^
                                                                                        BitVec.ofInt IntKind.u32.bits
                                                                                          (x_16.fdiv
                                                                                            (2 ^
                                                                                              min (Int.toNat 10)
                                                                                                IntKind.u32.bits))).toNat :
                                                                                  Int)))).length ≤
                                                                    4294967296) then
                                                            go
                                                              (x.fst ++
                                                                  (List.replicate 1 0).set 0
                                                                    (IntKind.u32.wrap
                                                                      (IntKind.u32.wrap
                                                                          (IntKind.u32.wrap
                                                                              (x_18 +
                                                                                IntKind.u32.wrap
                                                                                  (↑(BitVec.ofInt IntKind.u32.bits
                                                                                            (IntKind.u32.wrap
                                                                                              (↑(BitVec.ofInt
                                                                                                        IntKind.u32.bits
                                                                                                        x_3 ^^^
                                                                                                      BitVec.ofInt
                                                                                                        IntKind.u32.bits
                                                                                                        x_6).toNat :
                                                                                                Int)) ^^^
                                                                                          BitVec.ofInt IntKind.u32.bits
                                                                                            (x_8.fdiv
                                                                                              (2 ^
                                                                                                min (Int.toNat 3)
                                                                                                  IntKind.u32.bits))).toNat :
                                                                                    Int)) +
                                                                            x_20) +
                                                                        IntKind.u32.wrap
                                                                          (↑(BitVec.ofInt IntKind.u32.bits
                                                                                    (IntKind.u32.wrap
                                                                                      (↑(BitVec.ofInt IntKind.u32.bits
                                                                                                x_11 ^^^
                                                                                              BitVec.ofInt
                                                                                                IntKind.u32.bits
                                                                                                x_14).toNat :
                                                                                        Int)) ^^^
                                                                                  BitVec.ofInt IntKind.u32.bits
                                                                                    (x_16.fdiv
                                                                                      (2 ^
                                                                                        min (Int.toNat 10)
                                                                                          IntKind.u32.bits))).toNat :
                                                                            Int))),
                                                                IntKind.i64.wrap (x.snd + 1))
                                                          else none
                                                    else none
                                              else none
                                        else none
                                else none
                        else none
                  else none
          else none
  else none
else some x.fst
theorem s_l2Block_L17_eq (go x) : loopStep ⟨tabT tyl, ftab [(67, ⟨s67, s_l2Turn⟩)]⟩ (C0) (loopOf Try.f62 17) s62_17 go x = s_l2Block_L17 go x := by kernel_rfl
theorem l62_17 : CutOk Try.prog ⟨s62_17, iter s_l2Block_L17 FUEL⟩ (.loop (loopOf Try.f62 17)) := loop_of mix_ok rfl tyl_ok (fl := [(67, ⟨s67, s_l2Turn⟩)]) ⟨c67, trivial⟩ (C := C0) rfl (pts := []) (by kernel_rfl) trivial s_l2Block_L17_eq
def s62_31 : CutSig := ⟨256, [1, 7, 12, 13], [.ro t94, .ro t94, .own t94, .ro (.int .i64)], [(.ex 4, [12], [(t94, true)])]⟩
noncomputable def s_l2Block_L31 (go : List Int × List Int × List Int × Int → Option (List Int)) (x : List Int × List Int × List Int × Int) : Option (List Int) :=
  bif decide (x.snd.snd.snd < 64) then
  x.snd.snd.fst[Int.toNat 4]?.bind fun x_1 =>
    x.snd.snd.fst[4]?.bind fun x_2 =>
      (s_l2Turn (x_2, 6)).bind fun x_3 =>
        x.snd.snd.fst[Int.toNat 4]?.bind fun x_4 =>
          x.snd.snd.fst[4]?.bind fun x_5 =>
            (s_l2Turn (x_5, 11)).bind fun x_6 =>
              x.snd.snd.fst[Int.toNat 4]?.bind fun x_7 =>
                x.snd.snd.fst[4]?.bind fun x_8 =>
                  (s_l2Turn (x_8, 25)).bind fun x_9 =>
                    x.snd.snd.fst[Int.toNat 7]?.bind fun x_10 =>
                      x.snd.snd.fst[7]?.bind fun x_11 =>
                        x.snd.snd.fst[Int.toNat 4]?.bind fun x_12 =>
                          x.snd.snd.fst[4]?.bind fun x_13 =>
                            x.snd.snd.fst[Int.toNat 5]?.bind fun x_14 =>
                              x.snd.snd.fst[5]?.bind fun x_15 =>
                                x.snd.snd.fst[Int.toNat 4]?.bind fun x_16 =>
                                  x.snd.snd.fst[4]?.bind fun x_17 =>
                                    x.snd.snd.fst[Int.toNat 6]?.bind fun x_18 =>
                                      x.snd.snd.fst[6]?.bind fun x_19 =>
                                        bif decide (0 ≤ x.snd.snd.snd) then
                                          x.fst[Int.toNat x.snd.snd.snd]?.bind fun x_20 =>
                                            bif decide (0 ≤ x.snd.snd.snd) then
                                              x.snd.fst[Int.toNat x.snd.snd.snd]?.bind fun x_21 =>
                                                x.snd.snd.fst[Int.toNat 0]?.bind fun x_22 =>
                                                  x.snd.snd.fst[0]?.bind fun x_23 =>
                                                    (s_l2Turn (x_23, 2)).bind fun x_24 =>
                                                      x.snd.snd.fst[Int.toNat 0]?.bind fun x_25 =>
                                                        x.snd.snd.fst[0]?.bind fun x_26 =>
                                                          (s_l2Turn (x_26, 13)).bind fun x_27 =>
                                                            x.snd.snd.fst[Int.toNat 0]?.bind fun x_28 =>
                                                              x.snd.snd.fst[0]?.bind fun x_29 =>
                                                                (s_l2Turn (x_29, 22)).bind fun x_30 =>
                                                                  x.snd.snd.fst[Int.toNat 0]?.bind fun x_31 =>
                                                                    x.snd.snd.fst[0]?.bind fun x_32 =>
                                                                      x.snd.snd.fst[Int.toNat 1]?.bind fun x_33 =>
                                                                        x.snd.snd.fst[1]?.bind fun x_34 =>
                                                                          x.snd.snd.fst[Int.toNat 0]?.bind fun x_35 =>
                                                                            x.snd.snd.fst[0]?.bind fun x_36 =>
                                                                              x.snd.snd.fst[Int.toNat 2]?.bind
                                                                                fun x_37 =>
                                                                                x.snd.snd.fst[2]?.bind fun x_38 =>
                                                                                  x.snd.snd.fst[Int.toNat 1]?.bind
                                                                                    fun x_39 =>
                                                                                    x.snd.snd.fst[1]?.bind fun x_40 =>
                                                                                      x.snd.snd.fst[Int.toNat 2]?.bind
                                                                                        fun x_41 =>
                                                                                        x.snd.snd.fst[2]?.bind
                                                                                          fun x_42 =>
                                                                                          x.snd.snd.fst[Int.toNat
                                                                                                  0]?.bind
                                                                                            fun x_43 =>
                                                                                            x.snd.snd.fst[0]?.bind
                                                                                              fun x_44 =>
                                                                                              x.snd.snd.fst[Int.toNat
                                                                                                      1]?.bind
                                                                                                fun x_45 =>
                                                                                                x.snd.snd.fst[1]?.bind
                                                                                                  fun x_46 =>
                                                                                                  x.snd.snd.fst[Int.toNat
                                                                                                          2]?.bind
                                                                                                    fun x_47 =>
                                                                                                    x.snd.snd.fst[2]?.bind
                                                                                                      fun x_48 =>
                                                                                                      x.snd.snd.fst[Int.toNat
                                                                                                              3]?.bind
                                                                                                        fun x_49 =>
                                                                                                        x.snd.snd.fst[3]?.bind
                                                                                                          fun x_50 =>
                                                                                                          x.snd.snd.fst[Int.toNat
                                                                                                                  4]?.bind
                                                                                                            fun x_51 =>
                                                                                                            x.snd.snd.fst[4]?.bind
                                                                                                              fun
                                                                                                                x_52 =>
                                                                                                              x.snd.snd.fst[Int.toNat
                                                                                                                      5]?.bind
                                                                                                                fun
                                                                                                                  x_53 =>
                                                                                                                x.snd.snd.fst[5]?.bind
                                                                                                                  fun
                                                                                                                    x_54 =>
                                                                                                                  x.snd.snd.fst[Int.toNat
                                                                                                                          6]?.bind
                                                                                                                    fun
                                                                                                                      x_55 =>
                                                                                                                    x.snd.snd.fst[6]?.bind
                                                                                                                      fun
                                                                                                                        x_56 =>
                                                                                                                      go
                                                                                                                        (x.fst,
                                                                                                                          x.snd.fst,
                                                                                                                          ((((((((List.replicate
                                                                                                                                                            8
                                                                                                                                                            0).set
                                                                                                                                                        0
                                                                                                                                                        (IntKind.u32.wrap
                                                                                                                                                          (IntKind.u32.wrap
                                                                                                                                                              (IntKind.u32.wrap
                                                                                                                                                                  (IntKind.u32.wrap
                                                                                                                                                                      (IntKind.u32.wrap
                                                                                                                                                                          (x_11 +
                                                                                                                                                                            IntKind.u32.wrap
                                                                                                                                                                              (↑(BitVec.ofInt
                                                                                                                                                                                        IntKind.u32.bits
                                                                                                                                                                                        (IntKind.u32.wrap
                                                                                                                                                                                          (↑(BitVec.ofInt
                                                                                                                                                                                                    IntKind.u32.bits
                                                                                                                                                                                                    x_3 ^^^
                                                                                                                                                                                                  BitVec.ofInt
                                                                                                                                                                                                    IntKind.u32.bits
                                                                                                                                                                                                    x_6).toNat :
                                                                                                                                                                                            Int)) ^^^
                                                                                                                                                                                      BitVec.ofInt
                                                                                                                                                                                        IntKind.u32.bits
                                                                                                                                                                                        x_9).toNat :
                                                                                                                                                                                Int)) +
                                                                                                                                                                        IntKind.u32.wrap
                                                                                                                                                                          (↑(BitVec.ofInt
                                                                                                                                                                                    IntKind.u32.bits
                                                                                                                                                                                    (IntKind.u32.wrap
                                                                                                                                                                                      (↑(BitVec.ofInt
                                                                                                                                                                                                IntKind.u32.bits
                                                                                                                                                                                                x_13 &&&
                                                                                                                                                                                              BitVec.ofInt
                                                                                                                                                                                                IntKind.u32.bits
                                                                                                                                                                                                x_15).toNat :
                                                                                                                                                                                        Int)) ^^^
                                                                                                                                                                                  BitVec.ofInt
                                                                                                                                                                                    IntKind.u32.bits
                                                                                                                                                                                    (IntKind.u32.wrap
                                                                                                                                                                                      (↑(BitVec.ofInt
                                                                                                                                                                                                IntKind.u32.bits
                                                                                                                                                                                                (IntKind.u32.wrap
                                                                                                                                                                                                  (↑(BitVec.ofInt
                                                                                                                                                                                                            IntKind.u32.bits
                                                                                                                                                                                                            (if
                                                                                                                                                                                                                false =
                                                                                                                                                                                                                  true then
                                                                                                                                                                                                              -1
                                                                                                                                                                                                            else
                                                                                                                                                                                                              IntKind.u32.max) ^^^
                                                                                                                                                                                                          BitVec.ofInt
                                                                                                                                                                                                            IntKind.u32.bits
                                                                                                                                                                                                            x_17).toNat :
                                                                                                                                                                                                    Int)) &&&
                                                                                                                                                                                              BitVec.ofInt
                                                                                                                                                                                                IntKind.u32.bits
                                                                                                                                                                                                x_19).toNat :
                                                                                                                                                                                        Int))).toNat :
                                                                                                                                                                            Int)) +
                                                                                                                                                                    x_20) +
                                                                                                                                                                x_21) +
                                                                                                                                                            IntKind.u32.wrap
                                                                                                                                                              (IntKind.u32.wrap
                                                                                                                                                                  (↑(BitVec.ofInt
                                                                                                                                                                            IntKind.u32.bits
                                                                                                                                                                            (IntKind.u32.wrap
                                                                                                                                                                              (↑(BitVec.ofInt
                                                                                                                                                                                        IntKind.u32.bits
                                                                                                                                                                                        x_24 ^^^
                                                                                                                                                                                      BitVec.ofInt
                                                                                                                                                                                        IntKind.u32.bits
                                                                                                                                                                                        x_27).toNat :
                                                                                                                                                                                Int)) ^^^
                                                                                                                                                                          BitVec.ofInt
                                                                                                                                                                            IntKind.u32.bits
                                                                                                                                                                            x_30).toNat :
                                                                                                                                                                    Int) +
                                                                                                                                                                IntKind.u32.wrap
                                                                                                                                                                  (↑(BitVec.ofInt
                                                                                                                                                                            IntKind.u32.bits
                                                                                                                                                                            (IntKind.u32.wrap
                                                                                                                                                                              (↑(BitVec.ofInt
                                                                                                                                                                                        IntKind.u32.bits
                                                                                                                                                                                        (IntKind.u32.wrap
                                                                                                                                                                                          (↑(BitVec.ofInt
                                                                                                                                                                                                    IntKind.u32.bits
                                                                                                                                                                                                    x_32 &&&
                                                                                                                                                                                                  BitVec.ofInt
                                                                                                                                                                                                    IntKind.u32.bits
                                                                                                                                                                                                    x_34).toNat :
                                                                                                                                                                                            Int)) ^^^
                                                                                                                                                                                      BitVec.ofInt
                                                                                                                                                                                        IntKind.u32.bits
                                                                                                                                                                                        (IntKind.u32.wrap
                                                                                                                                                                                          (↑(BitVec.ofInt
                                                                                                                                                                                                    IntKind.u32.bits
                                                                                                                                                                                                    x_36 &&&
                                                                                                                                                                                                  BitVec.ofInt
                                                                                                                                                                                                    IntKind.u32.bits
                                                                                                                                                                                                    x_38).toNat :
                                                                                                                                                                                            Int))).toNat :
                                                                                                                                                                                Int)) ^^^
                                                                                                                                                                          BitVec.ofInt
                                                                                                                                                                            IntKind.u32.bits
                                                                                                                                                                            (IntKind.u32.wrap
                                                                                                                                                                              (↑(BitVec.ofInt
                                                                                                                                                                                        IntKind.u32.bits
                                                                                                                                                                                        x_40 &&&
                                                                                                                                                                                      BitVec.ofInt
                                                                                                                                                                                        IntKind.u32.bits
                                                                                                                                                                                        x_42).toNat :
                                                                                                                                                                                Int))).toNat :
                                                                                                                                                                    Int))))).set
                                                                                                                                                    1
                                                                                                                                                    x_44).set
                                                                                                                                                2
                                                                                                                                                x_46).set
                                                                                                                                            3
                                                                                                                                            x_48).set
                                                                                                                                        4
                                                                                                                                        (IntKind.u32.wrap
                                                                                                                                          (x_50 +
                                                                                                                                            IntKind.u32.wrap
                                                                                                                                              (IntKind.u32.wrap
                                                                                                                                                  (IntKind.u32.wrap
                                                                                                                                                      (IntKind.u32.wrap
                                                                                                                                                          (x_11 +
                                                                                                                                                            IntKind.u32.wrap
                                                                                                                                                              (↑(BitVec.ofInt
                                                                                                                                                                        IntKind.u32.bits
                                                                                                                                                                        (IntKind.u32.wrap
                                                                                                                                                                          (↑(BitVec.ofInt
                                                                                                                                                                                    IntKind.u32.bits
                                                                                                                                                                                    x_3 ^^^
                                                                                                                                                                                  BitVec.ofInt
                                                                                                                                                                                    IntKind.u32.bits
                                                                                                                                                                                    x_6).toNat :
                                                                                                                                                                            Int)) ^^^
                                                                                                                                                                      BitVec.ofInt
                                                                                                                                                                        IntKind.u32.bits
                                                                                                                                                                        x_9).toNat :
                                                                                                                                                                Int)) +
                                                                                                                                                        IntKind.u32.wrap
                                                                                                                                                          (↑(BitVec.ofInt
                                                                                                                                                                    IntKind.u32.bits
                                                                                                                                                                    (IntKind.u32.wrap
                                                                                                                                                                      (↑(BitVec.ofInt
                                                                                                                                                                                IntKind.u32.bits
                                                                                                                                                                                x_13 &&&
                                                                                                                                                                              BitVec.ofInt
                                                                                                                                                                                IntKind.u32.bits
                                                                                                                                                                                x_15).toNat :
                                                                                                                                                                        Int)) ^^^
                                                                                                                                                                  BitVec.ofInt
                                                                                                                                                                    IntKind.u32.bits
                                                                                                                                                                    (IntKind.u32.wrap
                                                                                                                                                                      (↑(BitVec.ofInt
                                                                                                                                                                                IntKind.u32.bits
                                                                                                                                                                                (IntKind.u32.wrap
                                                                                                                                                                                  (↑(BitVec.ofInt
                                                                                                                                                                                            IntKind.u32.bits
                                                                                                                                                                                            (if
                                                                                                                                                                                                false =
                                                                                                                                                                                                  true then
                                                                                                                                                                                              -1
                                                                                                                                                                                            else
                                                                                                                                                                                              IntKind.u32.max) ^^^
                                                                                                                                                                                          BitVec.ofInt
                                                                                                                                                                                            IntKind.u32.bits
                                                                                                                                                                                            x_17).toNat :
                                                                                                                                                                                    Int)) &&&
                                                                                                                                                                              BitVec.ofInt
                                                                                                                                                                                IntKind.u32.bits
                                                                                                                                                                                x_19).toNat :
                                                                                                                                                                        Int))).toNat :
                                                                                                                                                            Int)) +
                                                                                                                                                    x_20) +
                                                                                                                                                x_21)))).set
                                                                                                                                    5
                                                                                                                                    x_52).set
                                                                                                                                6
                                                                                                                                x_54).set
                                                                                                                            7
                                                                                                                            x_56,
                                                                                                                          IntKind.i64.wrap
                                                                                                                            (x.snd.snd.snd +
                                                                                                                              1))
                                            else none
                                        else none
else some x.snd.snd.fst
theorem s_l2Block_L31_eq (go x) : loopStep ⟨tabT tyl, ftab [(67, ⟨s67, s_l2Turn⟩)]⟩ (C0) (loopOf Try.f62 31) s62_31 go x = s_l2Block_L31 go x := by kernel_rfl
theorem l62_31 : CutOk Try.prog ⟨s62_31, iter s_l2Block_L31 FUEL⟩ (.loop (loopOf Try.f62 31)) := loop_of mix_ok rfl tyl_ok (fl := [(67, ⟨s67, s_l2Turn⟩)]) ⟨c67, trivial⟩ (C := C0) rfl (pts := []) (by kernel_rfl) trivial s_l2Block_L31_eq
def s62_49 : CutSig := ⟨256, [0, 12, 18, 19], [.ro t94, .ro t94, .own t94, .ro (.int .i64)], [(.ex 6, [18], [(t94, true)])]⟩
noncomputable def s_l2Block_L49 (go : List Int × List Int × List Int × Int → Option (List Int)) (x : List Int × List Int × List Int × Int) : Option (List Int) :=
  bif decide (x.snd.snd.snd < 8) then
  bif decide (0 ≤ x.snd.snd.snd) then
    x.fst[Int.toNat x.snd.snd.snd]?.bind fun x_1 =>
      bif decide (0 ≤ x.snd.snd.snd) then
        x.snd.fst[Int.toNat x.snd.snd.snd]?.bind fun x_2 =>
          bif
              true && (3 == 0 || 3 == 1 || [3, 2].contains 3 || [].contains 3) &&
                decide
                  (List.length x.snd.snd.fst + ((List.replicate 1 0).set 0 (IntKind.u32.wrap (x_1 + x_2))).length ≤
                    4294967296) then
            go
              (x.fst, x.snd.fst, x.snd.snd.fst ++ (List.replicate 1 0).set 0 (IntKind.u32.wrap (x_1 + x_2)),
                IntKind.i64.wrap (x.snd.snd.snd + 1))
          else none
      else none
  else none
else some x.snd.snd.fst
theorem s_l2Block_L49_eq (go x) : loopStep ⟨tabT tyl, ftab []⟩ (C0) (loopOf Try.f62 49) s62_49 go x = s_l2Block_L49 go x := by kernel_rfl
theorem l62_49 : CutOk Try.prog ⟨s62_49, iter s_l2Block_L49 FUEL⟩ (.loop (loopOf Try.f62 49)) := loop_of mix_ok rfl tyl_ok (fl := []) trivial (C := C0) rfl (pts := []) (by kernel_rfl) trivial s_l2Block_L49_eq
noncomputable def s_l2Block (x : List Int × List Int × List UInt8) : Option (List Int) :=
  (iter s_l2Block_L9 FUEL (x.snd.snd, List.replicate 0 0, 0)).bind fun x_1 =>
  (iter s_l2Block_L17 FUEL (x_1, 16)).bind fun x_2 =>
    bif
        true && (0 == 0 || 0 == 1 || [5, 4].contains 0 || [].contains 0) &&
          decide ((List.replicate 0 0).length + List.length x.fst ≤ 4294967296) then
      (iter s_l2Block_L31 FUEL (x.snd.fst, x_2, List.replicate 0 0 ++ x.fst, 0)).bind fun x_3 =>
        (iter s_l2Block_L49 FUEL (x.fst, x_3, List.replicate 0 0, 0)).bind fun x => some x
    else none
theorem s_l2Block_eq (x) : fnK ⟨tabT tyl, ftab [(67, ⟨s67, s_l2Turn⟩)]⟩ (ctab [(9, ⟨s62_9, iter s_l2Block_L9 FUEL⟩), (17, ⟨s62_17, iter s_l2Block_L17 FUEL⟩), (31, ⟨s62_31, iter s_l2Block_L31 FUEL⟩), (49, ⟨s62_49, iter s_l2Block_L49 FUEL⟩)]) Try.f62 s62 x = s_l2Block x := by kernel_rfl
theorem c62 : FnOk Try.prog 62 ⟨s62, s_l2Block⟩ := fn_of2 mix_ok rfl tyl_ok (fl := [(67, ⟨s67, s_l2Turn⟩)]) ⟨c67, trivial⟩ Try.func62 rfl rfl (C := ctab [(9, ⟨s62_9, iter s_l2Block_L9 FUEL⟩), (17, ⟨s62_17, iter s_l2Block_L17 FUEL⟩), (31, ⟨s62_31, iter s_l2Block_L31 FUEL⟩), (49, ⟨s62_49, iter s_l2Block_L49 FUEL⟩)]) (pts := [(⟨s62_9, iter s_l2Block_L9 FUEL⟩, .loop (loopOf Try.f62 9)), (⟨s62_17, iter s_l2Block_L17 FUEL⟩, .loop (loopOf Try.f62 17)), (⟨s62_31, iter s_l2Block_L31 FUEL⟩, .loop (loopOf Try.f62 31)), (⟨s62_49, iter s_l2Block_L49 FUEL⟩, .loop (loopOf Try.f62 49))]) (by kernel_rfl) ⟨l62_9, l62_17, l62_31, l62_49, trivial⟩ s_l2Block_eq
/-- spec.Sha -/
def s46 : Sig := ⟨[.ro .str], [(.str, true)], false⟩
def s46_11 : CutSig := ⟨86, [0, 5], [.ro .str, .own t22], [(.ex 0, [5], [(t22, true)])]⟩
noncomputable def s_Sha_L11 (go : List UInt8 × List Int → Option (List Int)) (x : List UInt8 × List Int) : Option (List Int) :=
  bif !decide ((IntKind.i64.wrap ((↑(List.length x.fst) : Int) + (↑(List.length x.snd) : Int))).tmod 64 = 56) then
  bif
      true && (false || [3, 2].contains 3 || [].contains 3) &&
        decide (List.length x.snd + ((List.replicate 1 0).set 0 0).length ≤ 4294967296) then
    go (x.fst, x.snd ++ (List.replicate 1 0).set 0 0)
  else none
else some x.snd
theorem s_Sha_L11_eq (go x) : loopStep ⟨tabT tyl, ftab []⟩ (C0) (loopOf Try.f46 11) s46_11 go x = s_Sha_L11 go x := by kernel_rfl
theorem l46_11 : CutOk Try.prog ⟨s46_11, iter s_Sha_L11 FUEL⟩ (.loop (loopOf Try.f46 11)) := loop_of mix_ok rfl tyl_ok (fl := []) trivial (C := C0) rfl (pts := []) (by kernel_rfl) trivial s_Sha_L11_eq
def s46_21 : CutSig := ⟨86, [0, 3, 4, 7, 8], [.ro .str, .own t94, .ro t94, .ro (.int .i64), .ro (.int .i64)], [(.ex 2, [3], [(t94, true)])]⟩
noncomputable def s_Sha_L21 (go : List UInt8 × List Int × List Int × Int × Int → Option (List Int)) (x : List UInt8 × List Int × List Int × Int × Int) : Option (List Int) :=
  bif decide (x.snd.snd.snd.snd < x.snd.snd.snd.fst) then
  bif
      decide (0 ≤ x.snd.snd.snd.snd) && decide (x.snd.snd.snd.snd ≤ IntKind.i64.wrap (x.snd.snd.snd.snd + 64)) &&
          decide (0 ≤ IntKind.i64.wrap (x.snd.snd.snd.snd + 64)) &&
        decide (IntKind.i64.wrap (x.snd.snd.snd.snd + 64) ≤ (↑(List.length x.fst) : Int)) then
    (s_l2Block
          (x.snd.fst, x.snd.snd.fst,
            List.drop (Int.toNat x.snd.snd.snd.snd)
              (List.take (IntKind.i64.wrap (x.snd.snd.snd.snd + 64)).toNat x.fst))).bind
      fun x_1 => go (x.fst, x_1, x.snd.snd.fst, x.snd.snd.snd.fst, IntKind.i64.wrap (x.snd.snd.snd.snd + 64))
  else none
else some x.snd.fst
theorem s_Sha_L21_eq (go x) : loopStep ⟨tabT tyl, ftab [(62, ⟨s62, s_l2Block⟩)]⟩ (C0) (loopOf Try.f46 21) s46_21 go x = s_Sha_L21 go x := by kernel_rfl
theorem l46_21 : CutOk Try.prog ⟨s46_21, iter s_Sha_L21 FUEL⟩ (.loop (loopOf Try.f46 21)) := loop_of mix_ok rfl tyl_ok (fl := [(62, ⟨s62, s_l2Block⟩)]) ⟨c62, trivial⟩ (C := C0) rfl (pts := []) (by kernel_rfl) trivial s_Sha_L21_eq
def s46_31 : CutSig := ⟨86, [3, 4, 9, 10], [.own t94, .ro t94, .ro .str, .ro (.int .i64)], [(.ex 4, [3], [(t94, true)])]⟩
noncomputable def s_Sha_L31 (go : List Int × List Int × List UInt8 × Int → Option (List Int)) (x : List Int × List Int × List UInt8 × Int) : Option (List Int) :=
  bif decide (IntKind.i64.wrap (x.snd.snd.snd + 64) ≤ (↑(List.length x.snd.snd.fst) : Int)) then
  bif
      decide (0 ≤ x.snd.snd.snd) && decide (x.snd.snd.snd ≤ IntKind.i64.wrap (x.snd.snd.snd + 64)) &&
          decide (0 ≤ IntKind.i64.wrap (x.snd.snd.snd + 64)) &&
        decide (IntKind.i64.wrap (x.snd.snd.snd + 64) ≤ (↑(List.length x.snd.snd.fst) : Int)) then
    (s_l2Block
          (x.fst, x.snd.fst,
            List.drop (Int.toNat x.snd.snd.snd)
              (List.take (IntKind.i64.wrap (x.snd.snd.snd + 64)).toNat x.snd.snd.fst))).bind
      fun x_1 => go (x_1, x.snd.fst, x.snd.snd.fst, IntKind.i64.wrap (x.snd.snd.snd + 64))
  else none
else some x.fst
theorem s_Sha_L31_eq (go x) : loopStep ⟨tabT tyl, ftab [(62, ⟨s62, s_l2Block⟩)]⟩ (C0) (loopOf Try.f46 31) s46_31 go x = s_Sha_L31 go x := by kernel_rfl
theorem l46_31 : CutOk Try.prog ⟨s46_31, iter s_Sha_L31 FUEL⟩ (.loop (loopOf Try.f46 31)) := loop_of mix_ok rfl tyl_ok (fl := [(62, ⟨s62, s_l2Block⟩)]) ⟨c62, trivial⟩ (C := C0) rfl (pts := []) (by kernel_rfl) trivial s_Sha_L31_eq
def s46_41 : CutSig := ⟨86, [3, 11, 12], [.ro t94, .ro .str, .ro (.int .i64)], [(.ex 6, [11], [(.str, true)])]⟩
noncomputable def s_Sha_L41 (go : List Int × List UInt8 × Int → Option (List UInt8)) (x : List Int × List UInt8 × Int) : Option (List UInt8) :=
  bif decide (x.snd.snd < 8) then
  bif decide (0 ≤ x.snd.snd) then
    x.fst[Int.toNat x.snd.snd]?.bind fun x_1 =>
      (s_Fixed (IntKind.i64.wrap x_1, 4)).bind fun x_2 =>
        bif decide (List.length x.snd.fst + x_2.length ≤ 4611686018427387904) then
          go (x.fst, x.snd.fst ++ x_2, IntKind.i64.wrap (x.snd.snd + 1))
        else none
  else none
else some x.snd.fst
theorem s_Sha_L41_eq (go x) : loopStep ⟨tabT tyl, ftab [(61, ⟨s61, s_Fixed⟩)]⟩ (C0) (loopOf Try.f46 41) s46_41 go x = s_Sha_L41 go x := by kernel_rfl
theorem l46_41 : CutOk Try.prog ⟨s46_41, iter s_Sha_L41 FUEL⟩ (.loop (loopOf Try.f46 41)) := loop_of mix_ok rfl tyl_ok (fl := [(61, ⟨s61, s_Fixed⟩)]) ⟨c61, trivial⟩ (C := C0) rfl (pts := []) (by kernel_rfl) trivial s_Sha_L41_eq
noncomputable def s_Sha (x : List UInt8) : Option (List UInt8) :=
  (s_l2Begin ()).bind fun x_1 =>
  (s_l2Table ()).bind fun x_2 =>
    (iter s_Sha_L11 FUEL (x, (List.replicate 1 0).set 0 128)).bind fun x_3 =>
      bif
          decide
            ((List.map (fun (b : Int) => UInt8.ofNat b.toNat) x_3).length +
                (List.map (fun (b : Int) => UInt8.ofNat b.toNat) ((List.replicate 1 0).set 0 0)).length ≤
              4611686018427387904) then
        (s_Fixed (IntKind.i64.wrap (8 * (↑x.length : Int)), 7)).bind fun x_4 =>
          bif
              decide
                ((List.map (fun (b : Int) => UInt8.ofNat b.toNat) x_3 ++
                        List.map (fun (b : Int) => UInt8.ofNat b.toNat) ((List.replicate 1 0).set 0 0)).length +
                    x_4.length ≤
                  4611686018427387904) then
            (iter s_Sha_L21 FUEL
                  (x, x_1, x_2, IntKind.i64.wrap (IntKind.i64.wrap ((↑x.length : Int).tdiv 64) * 64), 0)).bind
              fun x_5 =>
              bif
                  decide (0 ≤ IntKind.i64.wrap (IntKind.i64.wrap ((↑x.length : Int).tdiv 64) * 64)) &&
                    decide
                      (IntKind.i64.wrap (IntKind.i64.wrap ((↑x.length : Int).tdiv 64) * 64) ≤ (↑x.length : Int)) then
                bif
                    decide
                      ((List.drop (IntKind.i64.wrap (IntKind.i64.wrap ((↑x.length : Int).tdiv 64) * 64)).toNat
                              x).length +
                          (List.map (fun (b : Int) => UInt8.ofNat b.toNat) x_3 ++
                                List.map (fun (b : Int) => UInt8.ofNat b.toNat) ((List.replicate 1 0).set 0 0) ++
                              x_4).length ≤
                        4611686018427387904) then
                  (iter s_Sha_L31 FUEL
                        (x_5, x_2,
                          List.drop (IntKind.i64.wrap (IntKind.i64.wrap ((↑x.length : Int).tdiv 64) * 64)).toNat x ++
                            (List.map (fun (b : Int) => UInt8.ofNat b.toNat) x_3 ++
                                List.map (fun (b : Int) => UInt8.ofNat b.toNat) ((List.replicate 1 0).set 0 0) ++
                              x_4),
                          0)).bind
                    fun x => (iter s_Sha_L41 FUEL (x, [], 0)).bind fun x => some x
                else none
              else none
          else none
      else none
theorem s_Sha_eq (x) : fnK ⟨tabT tyl, ftab [(59, ⟨s59, s_l2Begin⟩), (60, ⟨s60, s_l2Table⟩), (61, ⟨s61, s_Fixed⟩), (62, ⟨s62, s_l2Block⟩)]⟩ (ctab [(11, ⟨s46_11, iter s_Sha_L11 FUEL⟩), (21, ⟨s46_21, iter s_Sha_L21 FUEL⟩), (31, ⟨s46_31, iter s_Sha_L31 FUEL⟩), (41, ⟨s46_41, iter s_Sha_L41 FUEL⟩)]) Try.f46 s46 x = s_Sha x := by kernel_rfl
theorem c46 : FnOk Try.prog 46 ⟨s46, s_Sha⟩ := fn_of2 mix_ok rfl tyl_ok (fl := [(59, ⟨s59, s_l2Begin⟩), (60, ⟨s60, s_l2Table⟩), (61, ⟨s61, s_Fixed⟩), (62, ⟨s62, s_l2Block⟩)]) ⟨c59, c60, c61, c62, trivial⟩ Try.func46 rfl rfl (C := ctab [(11, ⟨s46_11, iter s_Sha_L11 FUEL⟩), (21, ⟨s46_21, iter s_Sha_L21 FUEL⟩), (31, ⟨s46_31, iter s_Sha_L31 FUEL⟩), (41, ⟨s46_41, iter s_Sha_L41 FUEL⟩)]) (pts := [(⟨s46_11, iter s_Sha_L11 FUEL⟩, .loop (loopOf Try.f46 11)), (⟨s46_21, iter s_Sha_L21 FUEL⟩, .loop (loopOf Try.f46 21)), (⟨s46_31, iter s_Sha_L31 FUEL⟩, .loop (loopOf Try.f46 31)), (⟨s46_41, iter s_Sha_L41 FUEL⟩, .loop (loopOf Try.f46 41))]) (by kernel_rfl) ⟨l46_11, l46_21, l46_31, l46_41, trivial⟩ s_Sha_eq
/-- spec.l12Answer -/
def s27 : Sig := ⟨[.mu t55], [(t34, true)], false⟩
noncomputable def s_l12Answer (x : List Int × Int × Int) : Option ((Int × Int × Int × List UInt8 × Int × Int) × List Int × Int × Int) :=
  (s_l1Below (x, 6)).bind fun x =>
  (s_l1Below (x.snd, 7)).bind fun x_1 =>
    (s_l1Below (x_1.snd, 5)).bind fun x_2 =>
      (s_l1Below (x_2.snd, 100)).bind fun x_3 =>
        (s_l1Below (x_3.snd, 300)).bind fun x_4 =>
          (s_l1Once (x_4.snd, 2)).bind fun x_5 =>
            bif x_5.fst then
              (s_l1Text (x_5.snd, 3)).bind fun x_6 =>
                (s_Sha x_6.fst).bind fun x_7 =>
                  (s_l1Once (x_6.snd, 8)).bind fun x_8 =>
                    bif x_8.fst then
                      (s_l1Below (x_8.snd, 5)).bind fun x_9 =>
                        bif decide (x_9.fst = 0) then
                          (s_l1PickInt (x_9.snd, ((List.replicate 2 0).set 0 (-1)).set 1 6)).bind fun x =>
                            some ((x.fst, x_1.fst, x_2.fst, x_7, x_3.fst, x_4.fst), x.snd)
                        else
                          bif decide (x_9.fst = 1) then
                            (s_l1PickInt (x_9.snd, ((List.replicate 2 0).set 0 (-1)).set 1 7)).bind fun x_10 =>
                              some ((x.fst, x_10.fst, x_2.fst, x_7, x_3.fst, x_4.fst), x_10.snd)
                          else
                            bif decide (x_9.fst = 2) then
                              (s_l1Text (x_9.snd, 33)).bind fun x_10 =>
                                some ((x.fst, x_1.fst, x_2.fst, x_10.fst, x_3.fst, x_4.fst), x_10.snd)
                            else
                              bif decide (x_9.fst = 3) then
                                (s_l1PickInt (x_9.snd, (((List.replicate 3 0).set 0 (-1)).set 1 250).set 2 251)).bind
                                  fun x_10 => some ((x.fst, x_1.fst, x_2.fst, x_7, x_10.fst, x_4.fst), x_10.snd)
                              else
                                (s_l1PickInt (x_9.snd, (((List.replicate 3 0).set 0 (-1)).set 1 100000).set 2 100001)).bind
                                  fun x_10 => some ((x.fst, x_1.fst, x_2.fst, x_7, x_3.fst, x_10.fst), x_10.snd)
                    else some ((x.fst, x_1.fst, x_2.fst, x_7, x_3.fst, x_4.fst), x_8.snd)
            else
              (s_l1Once (x_5.snd, 8)).bind fun x_6 =>
                bif x_6.fst then
                  (s_l1Below (x_6.snd, 5)).bind fun x_7 =>
                    bif decide (x_7.fst = 0) then
                      (s_l1PickInt (x_7.snd, ((List.replicate 2 0).set 0 (-1)).set 1 6)).bind fun x =>
                        some ((x.fst, x_1.fst, x_2.fst, [], x_3.fst, x_4.fst), x.snd)
                    else
                      bif decide (x_7.fst = 1) then
                        (s_l1PickInt (x_7.snd, ((List.replicate 2 0).set 0 (-1)).set 1 7)).bind fun x_8 =>
                          some ((x.fst, x_8.fst, x_2.fst, [], x_3.fst, x_4.fst), x_8.snd)
                      else
                        bif decide (x_7.fst = 2) then
                          (s_l1Text (x_7.snd, 33)).bind fun x_8 =>
                            some ((x.fst, x_1.fst, x_2.fst, x_8.fst, x_3.fst, x_4.fst), x_8.snd)
                        else
                          bif decide (x_7.fst = 3) then
                            (s_l1PickInt (x_7.snd, (((List.replicate 3 0).set 0 (-1)).set 1 250).set 2 251)).bind fun x_8 =>
                              some ((x.fst, x_1.fst, x_2.fst, [], x_8.fst, x_4.fst), x_8.snd)
                          else
                            (s_l1PickInt (x_7.snd, (((List.replicate 3 0).set 0 (-1)).set 1 100000).set 2 100001)).bind
                              fun x_8 => some ((x.fst, x_1.fst, x_2.fst, [], x_3.fst, x_8.fst), x_8.snd)
                else some ((x.fst, x_1.fst, x_2.fst, [], x_3.fst, x_4.fst), x_6.snd)
theorem s_l12Answer_eq (x) : fnK ⟨tabT tyl, ftab [(21, ⟨s21, s_l1Once⟩), (22, ⟨s22, s_l1PickInt⟩), (23, ⟨s23, s_l1Below⟩), (46, ⟨s46, s_Sha⟩), (47, ⟨s47, s_l1Text⟩)]⟩ (C0) Try.f27 s27 x = s_l12Answer x := by kernel_rfl
theorem c27 : FnOk Try.prog 27 ⟨s27, s_l12Answer⟩ := fn_of mix_ok rfl tyl_ok (fl := [(21, ⟨s21, s_l1Once⟩), (22, ⟨s22, s_l1PickInt⟩), (23, ⟨s23, s_l1Below⟩), (46, ⟨s46, s_Sha⟩), (47, ⟨s47, s_l1Text⟩)]) ⟨c21, c22, c23, c46, c47, trivial⟩ Try.func27 rfl rfl cuts0 s_l12Answer_eq
/-- spec.l5Entries -/
def s63 : Sig := ⟨[.mu t55, .ro (.int .i64), .ro (.int .i64), .ro (.int .i64)], [((.sl 84 t84), true)], false⟩
def s63_9 : CutSig := ⟨45, [0, 2, 3, 9, 10], [.mu t55, .ro (.int .i64), .ro (.int .i64), .own (.sl 84 t84), .ro (.int .i64)], [(.ex 0, [9], [((.sl 84 t84), true)]), (.ret, [8], [((.sl 84 t84), true)])]⟩
noncomputable def s_l5Entries_L9 (go : (List Int × Int × Int) × Int × Int × List (Int × List UInt8) × Int → Option (List (Int × List UInt8) × List Int × Int × Int ⊕ List (Int × List UInt8) × List Int × Int × Int)) (x : (List Int × Int × Int) × Int × Int × List (Int × List UInt8) × Int) : Option (List (Int × List UInt8) × List Int × Int × Int ⊕ List (Int × List UInt8) × List Int × Int × Int) :=
  bif decide (0 < x.snd.snd.snd.snd) then
  bif !decide (x.snd.fst < 1) then
    bif decide (x.snd.fst < x.snd.snd.fst) then
      (s_l1Once (x.fst, 3)).bind fun x_1 =>
        bif x_1.fst then
          bif decide (x.snd.snd.fst < IntKind.i64.wrap (x.snd.fst + 1)) then some (Sum.inr (x.snd.snd.snd.fst, x_1.snd))
          else
            (s_l1Text (x_1.snd, 8)).bind fun x_2 =>
              bif
                  true && (4 == 0 || 4 == 1 || [4, 3].contains 4 || [].contains 4) &&
                    decide
                      (List.length x.snd.snd.snd.fst +
                          ((List.replicate 1 ((0, []) : Int × List UInt8)).set 0 (IntKind.i64.wrap (x.snd.fst + 1), x_2.fst)).length ≤
                        4294967296) then
                go
                  (x_2.snd, IntKind.i64.wrap (x.snd.fst + 1), x.snd.snd.fst,
                    x.snd.snd.snd.fst ++ (List.replicate 1 ((0, []) : Int × List UInt8)).set 0 (IntKind.i64.wrap (x.snd.fst + 1), x_2.fst),
                    IntKind.i64.wrap (x.snd.snd.snd.snd - 1))
              else none
        else
          bif decide (x.snd.snd.fst < x.snd.fst) then some (Sum.inr (x.snd.snd.snd.fst, x_1.snd))
          else
            (s_l1Text (x_1.snd, 8)).bind fun x_2 =>
              bif
                  true && (4 == 0 || 4 == 1 || [4, 3].contains 4 || [].contains 4) &&
                    decide
                      (List.length x.snd.snd.snd.fst + ((List.replicate 1 ((0, []) : Int × List UInt8)).set 0 (x.snd.fst, x_2.fst)).length ≤
                        4294967296) then
                go
                  (x_2.snd, x.snd.fst, x.snd.snd.fst,
                    x.snd.snd.snd.fst ++ (List.replicate 1 ((0, []) : Int × List UInt8)).set 0 (x.snd.fst, x_2.fst),
                    IntKind.i64.wrap (x.snd.snd.snd.snd - 1))
              else none
    else
      bif decide (x.snd.snd.fst < x.snd.fst) then some (Sum.inr (x.snd.snd.snd.fst, x.fst))
      else
        (s_l1Text (x.fst, 8)).bind fun x_1 =>
          bif
              true && (4 == 0 || 4 == 1 || [4, 3].contains 4 || [].contains 4) &&
                decide
                  (List.length x.snd.snd.snd.fst + ((List.replicate 1 ((0, []) : Int × List UInt8)).set 0 (x.snd.fst, x_1.fst)).length ≤
                    4294967296) then
            go
              (x_1.snd, x.snd.fst, x.snd.snd.fst,
                x.snd.snd.snd.fst ++ (List.replicate 1 ((0, []) : Int × List UInt8)).set 0 (x.snd.fst, x_1.fst),
                IntKind.i64.wrap (x.snd.snd.snd.snd - 1))
          else none
  else
    bif decide (x.snd.snd.fst < IntKind.i64.wrap (x.snd.fst + 1)) then some (Sum.inr (x.snd.snd.snd.fst, x.fst))
    else
      (s_l1Text (x.fst, 8)).bind fun x_1 =>
        bif
            true && (4 == 0 || 4 == 1 || [4, 3].contains 4 || [].contains 4) &&
              decide
                (List.length x.snd.snd.snd.fst +
                    ((List.replicate 1 ((0, []) : Int × List UInt8)).set 0 (IntKind.i64.wrap (x.snd.fst + 1), x_1.fst)).length ≤
                  4294967296) then
          go
            (x_1.snd, IntKind.i64.wrap (x.snd.fst + 1), x.snd.snd.fst,
              x.snd.snd.snd.fst ++ (List.replicate 1 ((0, []) : Int × List UInt8)).set 0 (IntKind.i64.wrap (x.snd.fst + 1), x_1.fst),
              IntKind.i64.wrap (x.snd.snd.snd.snd - 1))
        else none
else some (Sum.inl (x.snd.snd.snd.fst, x.fst))
theorem s_l5Entries_L9_eq (go x) : loopStep ⟨tabT tyl, ftab [(21, ⟨s21, s_l1Once⟩), (47, ⟨s47, s_l1Text⟩)]⟩ (C0) (loopOf Try.f63 9) s63_9 go x = s_l5Entries_L9 go x := by kernel_rfl
theorem l63_9 : CutOk Try.prog ⟨s63_9, iter s_l5Entries_L9 FUEL⟩ (.loop (loopOf Try.f63 9)) := loop_of mix_ok rfl tyl_ok (fl := [(21, ⟨s21, s_l1Once⟩), (47, ⟨s47, s_l1Text⟩)]) ⟨c21, c47, trivial⟩ (C := C0) rfl (pts := []) (by kernel_rfl) trivial s_l5Entries_L9_eq
noncomputable def s_l5Entries (x : (List Int × Int × Int) × Int × Int × Int) : Option (List (Int × List UInt8) × List Int × Int × Int) :=
  (s_l1Below (x.fst, IntKind.i64.wrap (x.snd.fst + 1))).bind fun x_1 =>
  (iter s_l5Entries_L9 FUEL (x_1.snd, x.snd.snd.fst, x.snd.snd.snd, List.replicate 0 ((0, []) : Int × List UInt8), x_1.fst)).bind fun x =>
    sumK x (fun y => some (y.fst, y.snd)) fun z => some (z.fst, z.snd)
theorem s_l5Entries_eq (x) : fnK ⟨tabT tyl, ftab [(21, ⟨s21, s_l1Once⟩), (23, ⟨s23, s_l1Below⟩), (47, ⟨s47, s_l1Text⟩)]⟩ (ctab [(9, ⟨s63_9, iter s_l5Entries_L9 FUEL⟩)]) Try.f63 s63 x = s_l5Entries x := by kernel_rfl
theorem c63 : FnOk Try.prog 63 ⟨s63, s_l5Entries⟩ := fn_of2 mix_ok rfl tyl_ok (fl := [(21, ⟨s21, s_l1Once⟩), (23, ⟨s23, s_l1Below⟩), (47, ⟨s47, s_l1Text⟩)]) ⟨c21, c23, c47, trivial⟩ Try.func63 rfl rfl (C := ctab [(9, ⟨s63_9, iter s_l5Entries_L9 FUEL⟩)]) (pts := [(⟨s63_9, iter s_l5Entries_L9 FUEL⟩, .loop (loopOf Try.f63 9))]) (by kernel_rfl) ⟨l63_9, trivial⟩ s_l5Entries_eq
/-- spec.l15Msg -/
def s48 : Sig := ⟨[.mu t55, .ro (.int .i64), .ro (.int .i64), .ro (.int .i64)], [(t30, true)], false⟩
def s48_8 : CutSig := ⟨94, [9, 29], [.pio t30, .ro .bool], [(.nor, [], [])]⟩
noncomputable def s_l15Msg_L8 (x : (Int × Int × Int × Int × Int × Int × Int × Bool × List (Int × List UInt8) × List UInt8) × Bool) : Option (Int × Int × Int × Int × Int × Int × Int × Bool × List (Int × List UInt8) × List UInt8) :=
  bif x.snd then some (x.fst.fst, x.fst.snd.fst, x.fst.snd.snd.fst, 1, x.fst.snd.snd.snd.snd) else some x.fst
theorem s_l15Msg_L8_eq (x) : cutFn ⟨tabT tyl, ftab []⟩ (C0) (condOf Try.f48 8) s48_8 x = s_l15Msg_L8 x := by kernel_rfl
theorem l48_8 : CutOk Try.prog ⟨s48_8, s_l15Msg_L8⟩ (condOf Try.f48 8) := cond_of mix_ok rfl tyl_ok (fl := []) trivial (C := C0) rfl (pts := []) (by kernel_rfl) trivial s_l15Msg_L8_eq
noncomputable def s_l15Msg (x : (List Int × Int × Int) × Int × Int × Int) : Option ((Int × Int × Int × Int × Int × Int × Int × Bool × List (Int × List UInt8) × List UInt8) × List Int × Int × Int) :=
  (s_l1Below (x.fst, 5)).bind fun x_1 =>
  (s_l1Below (x_1.snd, x.snd.fst)).bind fun x_2 =>
    (s_l1Below (x_2.snd, x.snd.fst)).bind fun x_3 =>
      (s_l1Below (x_3.snd, 3)).bind fun x_4 =>
        (s_l15Msg_L8
              ((IntKind.i64.wrap (1 + x_1.fst), x_2.fst, x_3.fst,
                  IntKind.i64.wrap (IntKind.i64.wrap (x.snd.snd.fst + x_4.fst) - 1), 0, 0, 0, false, [], []),
                decide (IntKind.i64.wrap (IntKind.i64.wrap (x.snd.snd.fst + x_4.fst) - 1) < 1))).bind
          fun x_5 =>
          (s_l1Below (x_4.snd, IntKind.i64.wrap (x.snd.snd.snd + 2))).bind fun x_6 =>
            bif decide (0 < x_6.fst) then
              (s_l1Below (x_6.snd, x_5.snd.snd.snd.fst)).bind fun x_7 =>
                bif decide (x_5.fst = 1) then
                  some
                    ((x_5.fst, x_5.snd.fst, x_5.snd.snd.fst, x_5.snd.snd.snd.fst, x_6.fst,
                        IntKind.i64.wrap (1 + x_7.fst), x_5.snd.snd.snd.snd.snd.snd),
                      x_7.snd)
                else
                  bif decide (x_5.fst = 2) then
                    (s_l1Once (x_7.snd, 4)).bind fun x =>
                      some
                        ((x_5.fst, x_5.snd.fst, x_5.snd.snd.fst, x_5.snd.snd.snd.fst, x_5.snd.snd.snd.snd.fst,
                            x_5.snd.snd.snd.snd.snd.fst, x_5.snd.snd.snd.snd.snd.snd.fst, !x.fst,
                            x_5.snd.snd.snd.snd.snd.snd.snd.snd),
                          x.snd)
                  else
                    bif decide (x_5.fst = 3) then
                      (s_l1Below (x_7.snd, IntKind.i64.wrap (x.snd.snd.snd + 3))).bind fun x =>
                        (s_l5Entries (x.snd, 4, IntKind.i64.wrap (1 + x_7.fst), x_5.snd.snd.snd.fst)).bind fun x_8 =>
                          some
                            ((x_5.fst, x_5.snd.fst, x_5.snd.snd.fst, x_5.snd.snd.snd.fst, x_6.fst,
                                IntKind.i64.wrap (1 + x_7.fst), x.fst, x_5.snd.snd.snd.snd.snd.snd.snd.fst, x_8.fst,
                                x_5.snd.snd.snd.snd.snd.snd.snd.snd.snd),
                              x_8.snd)
                    else
                      bif decide (x_5.fst = 4) then
                        (s_l1Once (x_7.snd, 3)).bind fun x =>
                          some
                            ((x_5.fst, x_5.snd.fst, x_5.snd.snd.fst, x_5.snd.snd.snd.fst, x_6.fst,
                                x_5.snd.snd.snd.snd.snd.fst, x_5.snd.snd.snd.snd.snd.snd.fst, !x.fst,
                                x_5.snd.snd.snd.snd.snd.snd.snd.snd),
                              x.snd)
                      else
                        (s_l1Below (x_7.snd, x_5.snd.snd.snd.fst)).bind fun x =>
                          (s_l1Text (x.snd, 6)).bind fun x_8 =>
                            some
                              ((x_5.fst, x_5.snd.fst, x_5.snd.snd.fst, x_5.snd.snd.snd.fst,
                                  IntKind.i64.wrap (1 + x_6.fst), IntKind.i64.wrap (1 + x.fst),
                                  x_5.snd.snd.snd.snd.snd.snd.fst, x_5.snd.snd.snd.snd.snd.snd.snd.fst,
                                  x_5.snd.snd.snd.snd.snd.snd.snd.snd.fst, x_8.fst),
                                x_8.snd)
            else
              bif decide (x_5.fst = 1) then
                some
                  ((x_5.fst, x_5.snd.fst, x_5.snd.snd.fst, x_5.snd.snd.snd.fst, x_6.fst, 0,
                      x_5.snd.snd.snd.snd.snd.snd),
                    x_6.snd)
              else
                bif decide (x_5.fst = 2) then
                  (s_l1Once (x_6.snd, 4)).bind fun x =>
                    some
                      ((x_5.fst, x_5.snd.fst, x_5.snd.snd.fst, x_5.snd.snd.snd.fst, x_5.snd.snd.snd.snd.fst,
                          x_5.snd.snd.snd.snd.snd.fst, x_5.snd.snd.snd.snd.snd.snd.fst, !x.fst,
                          x_5.snd.snd.snd.snd.snd.snd.snd.snd),
                        x.snd)
                else
                  bif decide (x_5.fst = 3) then
                    (s_l1Below (x_6.snd, IntKind.i64.wrap (x.snd.snd.snd + 3))).bind fun x =>
                      (s_l5Entries (x.snd, 4, 0, x_5.snd.snd.snd.fst)).bind fun x_7 =>
                        some
                          ((x_5.fst, x_5.snd.fst, x_5.snd.snd.fst, x_5.snd.snd.snd.fst, x_6.fst, 0, x.fst,
                              x_5.snd.snd.snd.snd.snd.snd.snd.fst, x_7.fst, x_5.snd.snd.snd.snd.snd.snd.snd.snd.snd),
                            x_7.snd)
                  else
                    bif decide (x_5.fst = 4) then
                      (s_l1Once (x_6.snd, 3)).bind fun x =>
                        some
                          ((x_5.fst, x_5.snd.fst, x_5.snd.snd.fst, x_5.snd.snd.snd.fst, x_6.fst,
                              x_5.snd.snd.snd.snd.snd.fst, x_5.snd.snd.snd.snd.snd.snd.fst, !x.fst,
                              x_5.snd.snd.snd.snd.snd.snd.snd.snd),
                            x.snd)
                    else
                      (s_l1Below (x_6.snd, x_5.snd.snd.snd.fst)).bind fun x =>
                        (s_l1Text (x.snd, 6)).bind fun x_7 =>
                          some
                            ((x_5.fst, x_5.snd.fst, x_5.snd.snd.fst, x_5.snd.snd.snd.fst,
                                IntKind.i64.wrap (1 + x_6.fst), IntKind.i64.wrap (1 + x.fst),
                                x_5.snd.snd.snd.snd.snd.snd.fst, x_5.snd.snd.snd.snd.snd.snd.snd.fst,
                                x_5.snd.snd.snd.snd.snd.snd.snd.snd.fst, x_7.fst),
                              x_7.snd)
theorem s_l15Msg_eq (x) : fnK ⟨tabT tyl, ftab [(21, ⟨s21, s_l1Once⟩), (23, ⟨s23, s_l1Below⟩), (47, ⟨s47, s_l1Text⟩), (63, ⟨s63, s_l5Entries⟩)]⟩ (ctab [(8, ⟨s48_8, s_l15Msg_L8⟩)]) Try.f48 s48 x = s_l15Msg x := by kernel_rfl
theorem c48 : FnOk Try.prog 48 ⟨s48, s_l15Msg⟩ := fn_of2 mix_ok rfl tyl_ok (fl := [(21, ⟨s21, s_l1Once⟩), (23, ⟨s23, s_l1Below⟩), (47, ⟨s47, s_l1Text⟩), (63, ⟨s63, s_l5Entries⟩)]) ⟨c21, c23, c47, c63, trivial⟩ Try.func48 rfl rfl (C := ctab [(8, ⟨s48_8, s_l15Msg_L8⟩)]) (pts := [(⟨s48_8, s_l15Msg_L8⟩, condOf Try.f48 8)]) (by kernel_rfl) ⟨l48_8, trivial⟩ s_l15Msg_eq
/-- spec.ShowOp -/
def s64 : Sig := ⟨[.ro t25], [(.str, true)], false⟩
noncomputable def s_ShowOp (x : Int × Int × Int × List UInt8) : Option (List UInt8) :=
  (s_OpOk x).bind fun x_1 =>
  bif !x_1 then some []
  else
    (s_Var x.snd.fst).bind fun x_2 =>
      bif
          decide
            ((List.map (fun (b : Int) => UInt8.ofNat b.toNat) ((List.replicate 1 0).set 0 (IntKind.u8.wrap x.fst))).length +
                x_2.length ≤
              4611686018427387904) then
        (s_Var x.snd.snd.fst).bind fun x_3 =>
          bif
              decide
                ((List.map (fun (b : Int) => UInt8.ofNat b.toNat) ((List.replicate 1 0).set 0 (IntKind.u8.wrap x.fst)) ++
                        x_2).length +
                    x_3.length ≤
                  4611686018427387904) then
            bif
                decide
                  ((List.map (fun (b : Int) => UInt8.ofNat b.toNat) ((List.replicate 1 0).set 0 (IntKind.u8.wrap x.fst)) ++
                            x_2 ++
                          x_3).length +
                      List.length x.snd.snd.snd ≤
                    4611686018427387904) then
              some
                (List.map (fun (b : Int) => UInt8.ofNat b.toNat) ((List.replicate 1 0).set 0 (IntKind.u8.wrap x.fst)) ++ x_2 ++
                    x_3 ++
                  x.snd.snd.snd)
            else none
          else none
      else none
theorem s_ShowOp_eq (x) : fnK ⟨tabT tyl, ftab [(19, ⟨s19, s_OpOk⟩), (45, ⟨s45, s_Var⟩)]⟩ (C0) Try.f64 s64 x = s_ShowOp x := by kernel_rfl
theorem c64 : FnOk Try.prog 64 ⟨s64, s_ShowOp⟩ := fn_of mix_ok rfl tyl_ok (fl := [(19, ⟨s19, s_OpOk⟩), (45, ⟨s45, s_Var⟩)]) ⟨c19, c45, trivial⟩ Try.func64 rfl rfl cuts0 s_ShowOp_eq
/-- spec.l15Mail -/
def s49 : Sig := ⟨[.mu t55], [(t30, true)], false⟩
noncomputable def s_l15Mail (x : List Int × Int × Int) : Option ((Int × Int × Int × Int × Int × Int × Int × Bool × List (Int × List UInt8) × List UInt8) × List Int × Int × Int) :=
  (s_l1Below (x, 6)).bind fun x =>
  (s_l1Below (x.snd, 5)).bind fun x_1 =>
    (s_l1Below (x_1.snd, 4)).bind fun x_2 =>
      bif decide (x_2.fst = 0) then
        (s_l1Below (x_2.snd, 4)).bind fun x_3 =>
          (s_l12Op x_3.snd).bind fun x_4 =>
            (s_ShowOp x_4.fst).bind fun x_5 =>
              some
                ((6, IntKind.i64.wrap (11 + x.fst), x_1.fst, 0, IntKind.i64.wrap (1 + x_3.fst), 0, 0, false, [], x_5),
                  x_4.snd)
      else
        bif decide (x_2.fst = 1) then
          (s_l1Below (x_2.snd, 4)).bind fun x_3 =>
            (s_l12Answer x_3.snd).bind fun x_4 =>
              (s_ShowAnswer x_4.fst).bind fun x_5 =>
                some
                  ((7, x_1.fst, IntKind.i64.wrap (11 + x.fst), 0, IntKind.i64.wrap (1 + x_3.fst), 0, 0, false, [], x_5),
                    x_4.snd)
        else
          bif decide (x_2.fst = 2) then
            (s_l1Below (x_2.snd, 7)).bind fun x_3 =>
              (s_l1PickInt (x_3.snd, ((((List.replicate 4 0).set 0 0).set 1 64).set 2 250).set 3 251)).bind fun x_4 =>
                some
                  ((8, IntKind.i64.wrap (11 + x.fst), x_1.fst, 0, IntKind.i64.wrap (1 + x_3.fst), 0, x_4.fst, false, [],
                      []),
                    x_4.snd)
          else
            (s_l1Below (x_2.snd, 6)).bind fun x_3 =>
              (s_l1Below (x_3.snd, 70)).bind fun x_4 =>
                (s_l1Once (x_4.snd, 3)).bind fun x_5 =>
                  bif !x_5.fst then
                    (s_l1Text (x_5.snd, 20)).bind fun x_6 =>
                      some
                        ((9, x_1.fst, IntKind.i64.wrap (11 + x.fst), 0, IntKind.i64.wrap (1 + x_3.fst), 0, x_4.fst,
                            !x_5.fst, [], x_6.fst),
                          x_6.snd)
                  else
                    some
                      ((9, x_1.fst, IntKind.i64.wrap (11 + x.fst), 0, IntKind.i64.wrap (1 + x_3.fst), 0, x_4.fst,
                          !x_5.fst, [], []),
                        x_5.snd)
theorem s_l15Mail_eq (x) : fnK ⟨tabT tyl, ftab [(21, ⟨s21, s_l1Once⟩), (22, ⟨s22, s_l1PickInt⟩), (23, ⟨s23, s_l1Below⟩), (24, ⟨s24, s_l12Op⟩), (26, ⟨s26, s_ShowAnswer⟩), (27, ⟨s27, s_l12Answer⟩), (47, ⟨s47, s_l1Text⟩), (64, ⟨s64, s_ShowOp⟩)]⟩ (C0) Try.f49 s49 x = s_l15Mail x := by kernel_rfl
theorem c49 : FnOk Try.prog 49 ⟨s49, s_l15Mail⟩ := fn_of mix_ok rfl tyl_ok (fl := [(21, ⟨s21, s_l1Once⟩), (22, ⟨s22, s_l1PickInt⟩), (23, ⟨s23, s_l1Below⟩), (24, ⟨s24, s_l12Op⟩), (26, ⟨s26, s_ShowAnswer⟩), (27, ⟨s27, s_l12Answer⟩), (47, ⟨s47, s_l1Text⟩), (64, ⟨s64, s_ShowOp⟩)]) ⟨c21, c22, c23, c24, c26, c27, c47, c64, trivial⟩ Try.func49 rfl rfl cuts0 s_l15Mail_eq
/-- spec.l15Any -/
def s28 : Sig := ⟨[.mu t55], [(t30, true)], false⟩
noncomputable def s_l15Any (x : List Int × Int × Int) : Option ((Int × Int × Int × Int × Int × Int × Int × Bool × List (Int × List UInt8) × List UInt8) × List Int × Int × Int) :=
  (s_l15Msg (x, 5, 3, 6)).bind fun x =>
  (s_l1Once (x.snd, 3)).bind fun x_1 =>
    bif x_1.fst then
      (s_l15Mail x_1.snd).bind fun x =>
        (s_l1Once (x.snd, 8)).bind fun x_2 =>
          bif x_2.fst then
            (s_l1Below (x_2.snd, 8)).bind fun x_3 =>
              bif decide (x_3.fst = 0) then
                (s_l1Below (x_3.snd, 12)).bind fun x_4 => some ((IntKind.i64.wrap (x_4.fst - 1), x.fst.snd), x_4.snd)
              else
                bif decide (x_3.fst = 1) then
                  (s_l1PickInt
                        (x_3.snd,
                          ((((((List.replicate 6 0).set 0 (-1)).set 1 5).set 2 10).set 3 11).set 4 16).set 5 17)).bind
                    fun x_4 => some ((x.fst.fst, x.fst.snd.fst, x_4.fst, x.fst.snd.snd.snd), x_4.snd)
                else
                  bif decide (x_3.fst = 2) then
                    (s_l1PickInt (x_3.snd, ((((List.replicate 4 0).set 0 (-1)).set 1 0).set 2 100000).set 3 100001)).bind
                      fun x_4 =>
                      some ((x.fst.fst, x.fst.snd.fst, x.fst.snd.snd.fst, x_4.fst, x.fst.snd.snd.snd.snd), x_4.snd)
                  else
                    bif decide (x_3.fst = 3) then
                      (s_l1PickInt (x_3.snd, ((((List.replicate 4 0).set 0 (-1)).set 1 0).set 2 100000).set 3 100001)).bind
                        fun x_4 =>
                        some
                          ((x.fst.fst, x.fst.snd.fst, x.fst.snd.snd.fst, x.fst.snd.snd.snd.fst, x_4.fst,
                              x.fst.snd.snd.snd.snd.snd),
                            x_4.snd)
                    else
                      bif decide (x_3.fst = 4) then
                        (s_l1PickInt (x_3.snd, ((((List.replicate 4 0).set 0 (-1)).set 1 1).set 2 100000).set 3 100001)).bind
                          fun x_4 =>
                          some
                            ((x.fst.fst, x.fst.snd.fst, x.fst.snd.snd.fst, x.fst.snd.snd.snd.fst,
                                x.fst.snd.snd.snd.snd.fst, x.fst.snd.snd.snd.snd.snd.fst, x_4.fst,
                                x.fst.snd.snd.snd.snd.snd.snd.snd),
                              x_4.snd)
                      else
                        bif decide (x_3.fst = 5) then
                          some
                            ((x.fst.fst, x.fst.snd.fst, x.fst.snd.snd.fst, x.fst.snd.snd.snd.fst,
                                x.fst.snd.snd.snd.snd.fst, x.fst.snd.snd.snd.snd.snd.fst,
                                x.fst.snd.snd.snd.snd.snd.snd.fst, !x.fst.snd.snd.snd.snd.snd.snd.snd.fst,
                                x.fst.snd.snd.snd.snd.snd.snd.snd.snd),
                              x_3.snd)
                        else
                          bif decide (x_3.fst = 6) then
                            (s_l1Below (x_3.snd, 5)).bind fun x_4 =>
                              bif
                                  true && (0 == 0 || 0 == 1 || [6, 4].contains 0 || [].contains 0) &&
                                    decide
                                      (List.length x.fst.snd.snd.snd.snd.snd.snd.snd.snd.fst +
                                          ((List.replicate 1 ((0, []) : Int × List UInt8)).set 0 (x_4.fst, [])).length ≤
                                        4294967296) then
                                some
                                  ((x.fst.fst, x.fst.snd.fst, x.fst.snd.snd.fst, x.fst.snd.snd.snd.fst,
                                      x.fst.snd.snd.snd.snd.fst, x.fst.snd.snd.snd.snd.snd.fst,
                                      x.fst.snd.snd.snd.snd.snd.snd.fst, x.fst.snd.snd.snd.snd.snd.snd.snd.fst,
                                      x.fst.snd.snd.snd.snd.snd.snd.snd.snd.fst ++
                                        (List.replicate 1 ((0, []) : Int × List UInt8)).set 0 (x_4.fst, []),
                                      x.fst.snd.snd.snd.snd.snd.snd.snd.snd.snd),
                                    x_4.snd)
                              else none
                          else
                            bif
                                decide
                                  (List.length x.fst.snd.snd.snd.snd.snd.snd.snd.snd.snd +
                                      [(120 : UInt8)].length ≤
                                    4611686018427387904) then
                              some
                                ((x.fst.fst, x.fst.snd.fst, x.fst.snd.snd.fst, x.fst.snd.snd.snd.fst,
                                    x.fst.snd.snd.snd.snd.fst, x.fst.snd.snd.snd.snd.snd.fst,
                                    x.fst.snd.snd.snd.snd.snd.snd.fst, x.fst.snd.snd.snd.snd.snd.snd.snd.fst,
                                    x.fst.snd.snd.snd.snd.snd.snd.snd.snd.fst,
                                    x.fst.snd.snd.snd.snd.snd.snd.snd.snd.snd ++
                                      [(120 : UInt8)]),
                                  x_3.snd)
                            else none
          else some (x.fst, x_2.snd)
    else
      (s_l1Once (x_1.snd, 8)).bind fun x_2 =>
        bif x_2.fst then
          (s_l1Below (x_2.snd, 8)).bind fun x_3 =>
            bif decide (x_3.fst = 0) then
              (s_l1Below (x_3.snd, 12)).bind fun x_4 => some ((IntKind.i64.wrap (x_4.fst - 1), x.fst.snd), x_4.snd)
            else
              bif decide (x_3.fst = 1) then
                (s_l1PickInt
                      (x_3.snd,
                        ((((((List.replicate 6 0).set 0 (-1)).set 1 5).set 2 10).set 3 11).set 4 16).set 5 17)).bind
                  fun x_4 => some ((x.fst.fst, x.fst.snd.fst, x_4.fst, x.fst.snd.snd.snd), x_4.snd)
              else
                bif decide (x_3.fst = 2) then
                  (s_l1PickInt (x_3.snd, ((((List.replicate 4 0).set 0 (-1)).set 1 0).set 2 100000).set 3 100001)).bind
                    fun x_4 =>
                    some ((x.fst.fst, x.fst.snd.fst, x.fst.snd.snd.fst, x_4.fst, x.fst.snd.snd.snd.snd), x_4.snd)
                else
                  bif decide (x_3.fst = 3) then
                    (s_l1PickInt (x_3.snd, ((((List.replicate 4 0).set 0 (-1)).set 1 0).set 2 100000).set 3 100001)).bind
                      fun x_4 =>
                      some
                        ((x.fst.fst, x.fst.snd.fst, x.fst.snd.snd.fst, x.fst.snd.snd.snd.fst, x_4.fst,
                            x.fst.snd.snd.snd.snd.snd),
                          x_4.snd)
                  else
                    bif decide (x_3.fst = 4) then
                      (s_l1PickInt (x_3.snd, ((((List.replicate 4 0).set 0 (-1)).set 1 1).set 2 100000).set 3 100001)).bind
                        fun x_4 =>
                        some
                          ((x.fst.fst, x.fst.snd.fst, x.fst.snd.snd.fst, x.fst.snd.snd.snd.fst,
                              x.fst.snd.snd.snd.snd.fst, x.fst.snd.snd.snd.snd.snd.fst, x_4.fst,
                              x.fst.snd.snd.snd.snd.snd.snd.snd),
                            x_4.snd)
                    else
                      bif decide (x_3.fst = 5) then
                        some
                          ((x.fst.fst, x.fst.snd.fst, x.fst.snd.snd.fst, x.fst.snd.snd.snd.fst,
                              x.fst.snd.snd.snd.snd.fst, x.fst.snd.snd.snd.snd.snd.fst,
                              x.fst.snd.snd.snd.snd.snd.snd.fst, !x.fst.snd.snd.snd.snd.snd.snd.snd.fst,
                              x.fst.snd.snd.snd.snd.snd.snd.snd.snd),
                            x_3.snd)
                      else
                        bif decide (x_3.fst = 6) then
                          (s_l1Below (x_3.snd, 5)).bind fun x_4 =>
                            bif
                                true && (0 == 0 || 0 == 1 || [4].contains 0 || [].contains 0) &&
                                  decide
                                    (List.length x.fst.snd.snd.snd.snd.snd.snd.snd.snd.fst +
                                        ((List.replicate 1 ((0, []) : Int × List UInt8)).set 0 (x_4.fst, [])).length ≤
                                      4294967296) then
                              some
                                ((x.fst.fst, x.fst.snd.fst, x.fst.snd.snd.fst, x.fst.snd.snd.snd.fst,
                                    x.fst.snd.snd.snd.snd.fst, x.fst.snd.snd.snd.snd.snd.fst,
                                    x.fst.snd.snd.snd.snd.snd.snd.fst, x.fst.snd.snd.snd.snd.snd.snd.snd.fst,
                                    x.fst.snd.snd.snd.snd.snd.snd.snd.snd.fst ++
                                      (List.replicate 1 ((0, []) : Int × List UInt8)).set 0 (x_4.fst, []),
                                    x.fst.snd.snd.snd.snd.snd.snd.snd.snd.snd),
                                  x_4.snd)
                            else none
                        else
                          bif
                              decide
                                (List.length x.fst.snd.snd.snd.snd.snd.snd.snd.snd.snd +
                                    [(120 : UInt8)].length ≤
                                  4611686018427387904) then
                            some
                              ((x.fst.fst, x.fst.snd.fst, x.fst.snd.snd.fst, x.fst.snd.snd.snd.fst,
                                  x.fst.snd.snd.snd.snd.fst, x.fst.snd.snd.snd.snd.snd.fst,
                                  x.fst.snd.snd.snd.snd.snd.snd.fst, x.fst.snd.snd.snd.snd.snd.snd.snd.fst,
                                  x.fst.snd.snd.snd.snd.snd.snd.snd.snd.fst,
                                  x.fst.snd.snd.snd.snd.snd.snd.snd.snd.snd ++ [(120 : UInt8)]),
                                x_3.snd)
                          else none
        else some (x.fst, x_2.snd)
theorem s_l15Any_eq (x) : fnK ⟨tabT tyl, ftab [(21, ⟨s21, s_l1Once⟩), (22, ⟨s22, s_l1PickInt⟩), (23, ⟨s23, s_l1Below⟩), (48, ⟨s48, s_l15Msg⟩), (49, ⟨s49, s_l15Mail⟩)]⟩ (C0) Try.f28 s28 x = s_l15Any x := by kernel_rfl
theorem c28 : FnOk Try.prog 28 ⟨s28, s_l15Any⟩ := fn_of mix_ok rfl tyl_ok (fl := [(21, ⟨s21, s_l1Once⟩), (22, ⟨s22, s_l1PickInt⟩), (23, ⟨s23, s_l1Below⟩), (48, ⟨s48, s_l15Msg⟩), (49, ⟨s49, s_l15Mail⟩)]) ⟨c21, c22, c23, c48, c49, trivial⟩ Try.func28 rfl rfl cuts0 s_l15Any_eq
/-- spec.l19Mail -/
def s12 : Sig := ⟨[.mu t55, .ro t27], [(t30, true)], false⟩
noncomputable def s_l19Mail (x : (List Int × Int × Int) × Int × Int × Bool × (Int × Int × Int × List UInt8) × Int) : Option ((Int × Int × Int × Int × Int × Int × Int × Bool × List (Int × List UInt8) × List UInt8) × List Int × Int × Int) :=
  (s_l1Below (x.fst, 3)).bind fun x_1 =>
  (s_l12Answer x_1.snd).bind fun x_2 =>
    (s_ShowAnswer x_2.fst).bind fun x_3 =>
      (s_l1Once (x_2.snd, 5)).bind fun x_4 =>
        bif x_4.fst then
          (s_l15Any x_4.snd).bind fun x =>
            (s_l1Once (x.snd, 6)).bind fun x_5 =>
              bif x_5.fst then
                some
                  ((x.fst.fst, x.fst.snd.fst, x.fst.snd.snd.fst, x.fst.snd.snd.snd.fst,
                      IntKind.i64.wrap (x.fst.snd.snd.snd.snd.fst + 1), x.fst.snd.snd.snd.snd.snd),
                    x_5.snd)
              else some (x.fst, x_5.snd)
        else
          (s_l1Once (x_4.snd, 6)).bind fun x_5 =>
            bif x_5.fst then
              some
                ((7, x_1.fst, IntKind.i64.wrap (10 + x.snd.fst), 0, IntKind.i64.wrap (x.snd.snd.fst + 1), 0, 0, false,
                    [], x_3),
                  x_5.snd)
            else some ((7, x_1.fst, IntKind.i64.wrap (10 + x.snd.fst), 0, x.snd.snd.fst, 0, 0, false, [], x_3), x_5.snd)
theorem s_l19Mail_eq (x) : fnK ⟨tabT tyl, ftab [(21, ⟨s21, s_l1Once⟩), (23, ⟨s23, s_l1Below⟩), (26, ⟨s26, s_ShowAnswer⟩), (27, ⟨s27, s_l12Answer⟩), (28, ⟨s28, s_l15Any⟩)]⟩ (C0) Try.f12 s12 x = s_l19Mail x := by kernel_rfl
theorem c12 : FnOk Try.prog 12 ⟨s12, s_l19Mail⟩ := fn_of mix_ok rfl tyl_ok (fl := [(21, ⟨s21, s_l1Once⟩), (23, ⟨s23, s_l1Below⟩), (26, ⟨s26, s_ShowAnswer⟩), (27, ⟨s27, s_l12Answer⟩), (28, ⟨s28, s_l15Any⟩)]) ⟨c21, c23, c26, c27, c28, trivial⟩ Try.func12 rfl rfl cuts0 s_l19Mail_eq
/-- spec.DrawClientHear -/
def s5 : Sig := ⟨[.ro t22], [(t27, true), (t30, false), ((.int .i64), true)], false⟩
noncomputable def s_DrawClientHear (x : List Int) : Option ((Int × Int × Bool × (Int × Int × Int × List UInt8) × Int) ×
  (Int × Int × Int × Int × Int × Int × Int × Bool × List (Int × List UInt8) × List UInt8) × Int) :=
  (s_l1New x).bind fun x =>
  (s_l19Now x).bind fun x =>
    (s_l19Client x.snd).bind fun x_1 => (s_l19Mail (x_1.snd, x_1.fst)).bind fun x_2 => some (x_1.fst, x_2.fst, x.fst)
theorem s_DrawClientHear_eq (x) : fnK ⟨tabT tyl, ftab [(9, ⟨s9, s_l1New⟩), (10, ⟨s10, s_l19Now⟩), (11, ⟨s11, s_l19Client⟩), (12, ⟨s12, s_l19Mail⟩)]⟩ (C0) Try.f5 s5 x = s_DrawClientHear x := by kernel_rfl
theorem c5 : FnOk Try.prog 5 ⟨s5, s_DrawClientHear⟩ := fn_of mix_ok rfl tyl_ok (fl := [(9, ⟨s9, s_l1New⟩), (10, ⟨s10, s_l19Now⟩), (11, ⟨s11, s_l19Client⟩), (12, ⟨s12, s_l19Mail⟩)]) ⟨c9, c10, c11, c12, trivial⟩ Try.func5 rfl rfl cuts0 s_DrawClientHear_eq
/-- impl.within -/
def s29 : Sig := ⟨[.ro (.int .i64), .ro (.int .i64), .ro (.int .i64)], [(.bool, true)], false⟩
noncomputable def i_within (x : Int × Int × Int) : Option (Bool) :=
  (bif decide (x.snd.fst ≤ x.fst) then some (decide (x.fst ≤ x.snd.snd)) else some false).bind fun x => some x
theorem i_within_eq (x) : fnK ⟨tabT tyl, ftab []⟩ (C0) Try.f29 s29 x = i_within x := by kernel_rfl
theorem c29 : FnOk Try.prog 29 ⟨s29, i_within⟩ := fn_of mix_ok rfl tyl_ok (fl := []) trivial Try.func29 rfl rfl cuts0 i_within_eq
/-- impl.isNow -/
def s16 : Sig := ⟨[.ro (.int .i64)], [(.bool, true)], false⟩
noncomputable def i_isNow (x : Int) : Option (Bool) :=
  (i_within (x, 0, 1000000)).bind fun x => some x
theorem i_isNow_eq (x) : fnK ⟨tabT tyl, ftab [(29, ⟨s29, i_within⟩)]⟩ (C0) Try.f16 s16 x = i_isNow x := by kernel_rfl
theorem c16 : FnOk Try.prog 16 ⟨s16, i_isNow⟩ := fn_of mix_ok rfl tyl_ok (fl := [(29, ⟨s29, i_within⟩)]) ⟨c29, trivial⟩ Try.func16 rfl rfl cuts0 i_isNow_eq
/-- impl.isVersion -/
def s36 : Sig := ⟨[.ro (.int .i64)], [(.bool, true)], false⟩
noncomputable def i_isVersion (x : Int) : Option (Bool) :=
  (i_within (x, 1, 6)).bind fun x => some x
theorem i_isVersion_eq (x) : fnK ⟨tabT tyl, ftab [(29, ⟨s29, i_within⟩)]⟩ (C0) Try.f36 s36 x = i_isVersion x := by kernel_rfl
theorem c36 : FnOk Try.prog 36 ⟨s36, i_isVersion⟩ := fn_of mix_ok rfl tyl_ok (fl := [(29, ⟨s29, i_within⟩)]) ⟨c29, trivial⟩ Try.func36 rfl rfl cuts0 i_isVersion_eq
/-- impl.isChannel -/
def s39 : Sig := ⟨[.ro (.int .i64)], [(.bool, true)], false⟩
noncomputable def i_isChannel (x : Int) : Option (Bool) :=
  (i_within (x, 0, 2)).bind fun x => some x
theorem i_isChannel_eq (x) : fnK ⟨tabT tyl, ftab [(29, ⟨s29, i_within⟩)]⟩ (C0) Try.f39 s39 x = i_isChannel x := by kernel_rfl
theorem c39 : FnOk Try.prog 39 ⟨s39, i_isChannel⟩ := fn_of mix_ok rfl tyl_ok (fl := [(29, ⟨s29, i_within⟩)]) ⟨c29, trivial⟩ Try.func39 rfl rfl cuts0 i_isChannel_eq
/-- impl.OpOk -/
def s20 : Sig := ⟨[.ro t25], [(.bool, true)], false⟩
noncomputable def i_OpOk (x : Int × Int × Int × List UInt8) : Option (Bool) :=
  (bif !decide (x.fst = 1) then some !decide (x.snd.snd.snd = []) else some false).bind fun x_1 =>
  bif x_1 then some false
  else
    bif decide (x.fst = 1) then
      (bif decide (x.snd.fst = 0) then some (decide (x.snd.snd.fst = 0)) else some false).bind fun x_2 =>
        (bif x_2 then some (decide ((↑(List.length x.snd.snd.snd) : Int) ≤ 250)) else some false).bind fun x => some x
    else
      bif decide (x.fst = 2) then
        (i_isVersion x.snd.snd.fst).bind fun x_2 =>
          (bif x_2 then (i_isChannel x.snd.fst).bind fun x => some x else some false).bind fun x => some x
      else
        bif decide (x.fst = 3) then
          bif decide (x.fst = 3) then
            (i_isVersion x.snd.snd.fst).bind fun x_2 =>
              (bif x_2 then some (decide (x.snd.fst = 0)) else some false).bind fun x => some x
          else
            bif decide (x.fst = 5) then
              (i_isVersion x.snd.snd.fst).bind fun x_2 =>
                (bif x_2 then some (decide (x.snd.fst = 0)) else some false).bind fun x_3 =>
                  (bif !x_3 then
                        (bif decide (x.snd.snd.fst = 0) then (i_isChannel x.snd.fst).bind fun x => some x else some false).bind
                          fun x => some x
                      else some true).bind
                    fun x => some x
            else some false
        else
          bif decide (x.fst = 4) then
            (i_isVersion x.snd.snd.fst).bind fun x_2 =>
              (bif x_2 then some (decide (x.snd.fst = 0)) else some false).bind fun x => some x
          else
            bif decide (x.fst = 5) then
              (i_isVersion x.snd.snd.fst).bind fun x_2 =>
                (bif x_2 then some (decide (x.snd.fst = 0)) else some false).bind fun x_3 =>
                  (bif !x_3 then
                        (bif decide (x.snd.snd.fst = 0) then (i_isChannel x.snd.fst).bind fun x => some x else some false).bind
                          fun x => some x
                      else some true).bind
                    fun x => some x
            else some false
theorem i_OpOk_eq (x) : fnK ⟨tabT tyl, ftab [(36, ⟨s36, i_isVersion⟩), (39, ⟨s39, i_isChannel⟩)]⟩ (C0) Try.f20 s20 x = i_OpOk x := by kernel_rfl
theorem c20 : FnOk Try.prog 20 ⟨s20, i_OpOk⟩ := fn_of mix_ok rfl tyl_ok (fl := [(36, ⟨s36, i_isVersion⟩), (39, ⟨s39, i_isChannel⟩)]) ⟨c36, c39, trivial⟩ Try.func20 rfl rfl cuts0 i_OpOk_eq
/-- impl.ClientOk -/
def s13 : Sig := ⟨[.ro t27], [(.bool, true)], false⟩
noncomputable def i_ClientOk (x : Int × Int × Bool × (Int × Int × Int × List UInt8) × Int) : Option (Bool) :=
  (i_within (x.fst, 1, 6)).bind fun x_1 =>
  (bif !!x_1 then (i_within (x.snd.fst, 0, 1000000)).bind fun x => some !x else some true).bind fun x_2 =>
    (bif !x_2 then (i_isNow x.snd.snd.snd.snd).bind fun x => some !x else some true).bind fun x_3 =>
      bif x_3 then some false
      else
        bif x.snd.snd.fst then
          (bif decide (1 ≤ x.snd.fst) then (i_OpOk x.snd.snd.snd.fst).bind fun x => some x else some false).bind fun x =>
            some x
        else
          (bif
                  decide (x.snd.snd.snd.fst.fst = 0) &&
                    (decide (x.snd.snd.snd.fst.snd.fst = 0) &&
                      (decide (x.snd.snd.snd.fst.snd.snd.fst = 0) && decide (x.snd.snd.snd.fst.snd.snd.snd = []))) then
                some (decide (x.snd.snd.snd.snd = 0))
              else some false).bind
            fun x => some x
theorem i_ClientOk_eq (x) : fnK ⟨tabT tyl, ftab [(16, ⟨s16, i_isNow⟩), (20, ⟨s20, i_OpOk⟩), (29, ⟨s29, i_within⟩)]⟩ (C0) Try.f13 s13 x = i_ClientOk x := by kernel_rfl
theorem c13 : FnOk Try.prog 13 ⟨s13, i_ClientOk⟩ := fn_of mix_ok rfl tyl_ok (fl := [(16, ⟨s16, i_isNow⟩), (20, ⟨s20, i_OpOk⟩), (29, ⟨s29, i_within⟩)]) ⟨c16, c20, c29, trivial⟩ Try.func13 rfl rfl cuts0 i_ClientOk_eq
/-- impl.Var -/
def s57 : Sig := ⟨[.ro (.int .i64)], [(.str, true)], false⟩
def s57_11 : CutSig := ⟨25, [0, 3], [.ro (.int .i64), .own t22], [(.ex 0, [0, 3], [((.int .i64), true), (t22, true)])]⟩
noncomputable def i_Var_L11 (go : Int × List Int → Option (Int × List Int)) (x : Int × List Int) : Option (Int × List Int) :=
  bif decide (127 < x.fst) then
  bif
      true && (3 == 0 || 3 == 1 || [3, 2].contains 3 || [].contains 3) &&
        decide
          (List.length x.snd +
              ((List.replicate 1 0).set 0
                  (IntKind.u8.wrap
                    (IntKind.i64.wrap
                      (↑(BitVec.ofInt IntKind.i64.bits
                                (IntKind.i64.wrap
                                  (↑(BitVec.ofInt IntKind.i64.bits x.fst &&& BitVec.ofInt IntKind.i64.bits 127).toNat :
                                    Int)) |||
                              BitVec.ofInt IntKind.i64.bits 128).toNat :
                        Int)))).length ≤
            4294967296) then
    go
      (Int.fdiv x.fst (2 ^ min (Int.toNat 7) IntKind.i64.bits),
        x.snd ++
          (List.replicate 1 0).set 0
            (IntKind.u8.wrap
              (IntKind.i64.wrap
                (↑(BitVec.ofInt IntKind.i64.bits
                          (IntKind.i64.wrap
                            (↑(BitVec.ofInt IntKind.i64.bits x.fst &&& BitVec.ofInt IntKind.i64.bits 127).toNat :
                              Int)) |||
                        BitVec.ofInt IntKind.i64.bits 128).toNat :
                  Int))))
  else none
else some (x.fst, x.snd)
theorem i_Var_L11_eq (go x) : loopStep ⟨tabT tyl, ftab []⟩ (C0) (loopOf Try.f57 11) s57_11 go x = i_Var_L11 go x := by kernel_rfl
theorem l57_11 : CutOk Try.prog ⟨s57_11, iter i_Var_L11 FUEL⟩ (.loop (loopOf Try.f57 11)) := loop_of mix_ok rfl tyl_ok (fl := []) trivial (C := C0) rfl (pts := []) (by kernel_rfl) trivial i_Var_L11_eq
noncomputable def i_Var (x : Int) : Option (List UInt8) :=
  (i_within (x, 0, 562949953421311)).bind fun x_1 =>
  bif !x_1 then some []
  else
    (iter i_Var_L11 FUEL (x, List.replicate 0 0)).bind fun x =>
      bif
          true && (4 == 0 || 4 == 1 || [4, 3].contains 4 || [].contains 4) &&
            decide (List.length x.snd + ((List.replicate 1 0).set 0 (IntKind.u8.wrap x.fst)).length ≤ 4294967296) then
        some (List.map (fun (b : Int) => UInt8.ofNat b.toNat) (x.snd ++ (List.replicate 1 0).set 0 (IntKind.u8.wrap x.fst)))
      else none
theorem i_Var_eq (x) : fnK ⟨tabT tyl, ftab [(29, ⟨s29, i_within⟩)]⟩ (ctab [(11, ⟨s57_11, iter i_Var_L11 FUEL⟩)]) Try.f57 s57 x = i_Var x := by kernel_rfl
theorem c57 : FnOk Try.prog 57 ⟨s57, i_Var⟩ := fn_of2 mix_ok rfl tyl_ok (fl := [(29, ⟨s29, i_within⟩)]) ⟨c29, trivial⟩ Try.func57 rfl rfl (C := ctab [(11, ⟨s57_11, iter i_Var_L11 FUEL⟩)]) (pts := [(⟨s57_11, iter i_Var_L11 FUEL⟩, .loop (loopOf Try.f57 11))]) (by kernel_rfl) ⟨l57_11, trivial⟩ i_Var_eq
/-- impl.ReadVar -/
def s55 : Sig := ⟨[.ro .str], [((.int .i64), true), ((.int .i64), true)], false⟩
def s55_9 : CutSig := ⟨40, [0, 4, 5], [.ro .str, .ro (.int .i64), .ro (.int .i64)], [(.ex 0, [], []), (.ret, [2, 3], [((.int .i64), true), ((.int .i64), true)])]⟩
noncomputable def i_ReadVar_L9 (go : List UInt8 × Int × Int → Option (PUnit ⊕ Int × Int)) (x : List UInt8 × Int × Int) : Option (PUnit ⊕ Int × Int) :=
  (bif decide (x.snd.snd < (↑(List.length x.fst) : Int)) then some (decide (x.snd.snd < 7)) else some false).bind
  fun x_1 =>
  bif x_1 then
    bif decide (0 ≤ x.snd.snd) then
      x.fst[Int.toNat x.snd.snd]?.bind fun x_2 =>
        bif decide (0 ≤ IntKind.i64.wrap (7 * x.snd.snd)) then
          bif decide (0 ≤ x.snd.snd) then
            x.fst[Int.toNat x.snd.snd]?.bind fun x_3 =>
              bif decide ((↑x_3.toNat : Int) < 128) then
                (i_Var
                      (IntKind.i64.wrap
                        (↑(BitVec.ofInt IntKind.i64.bits x.snd.fst |||
                                BitVec.ofInt IntKind.i64.bits
                                  (IntKind.i64.wrap
                                    (IntKind.i64.wrap
                                        (IntKind.u8.wrap
                                          (↑(BitVec.ofInt IntKind.u8.bits (↑x_2.toNat : Int) &&&
                                                  BitVec.ofInt IntKind.u8.bits 127).toNat :
                                            Int)) *
                                      2 ^ min (IntKind.i64.wrap (7 * x.snd.snd)).toNat IntKind.i64.bits))).toNat :
                          Int))).bind
                  fun x_4 =>
                  bif
                      decide (0 ≤ IntKind.i64.wrap (x.snd.snd + 1)) &&
                        decide (IntKind.i64.wrap (x.snd.snd + 1) ≤ (↑(List.length x.fst) : Int)) then
                    bif !decide (x_4 = List.take (IntKind.i64.wrap (x.snd.snd + 1)).toNat x.fst) then
                      some (Sum.inr (0, 0))
                    else
                      some
                        (Sum.inr
                          (IntKind.i64.wrap
                              (↑(BitVec.ofInt IntKind.i64.bits x.snd.fst |||
                                      BitVec.ofInt IntKind.i64.bits
                                        (IntKind.i64.wrap
                                          (IntKind.i64.wrap
                                              (IntKind.u8.wrap
                                                (↑(BitVec.ofInt IntKind.u8.bits (↑x_2.toNat : Int) &&&
                                                        BitVec.ofInt IntKind.u8.bits 127).toNat :
                                                  Int)) *
                                            2 ^ min (IntKind.i64.wrap (7 * x.snd.snd)).toNat IntKind.i64.bits))).toNat :
                                Int),
                            IntKind.i64.wrap (x.snd.snd + 1)))
                  else none
              else
                go
                  (x.fst,
                    IntKind.i64.wrap
                      (↑(BitVec.ofInt IntKind.i64.bits x.snd.fst |||
                              BitVec.ofInt IntKind.i64.bits
                                (IntKind.i64.wrap
                                  (IntKind.i64.wrap
                                      (IntKind.u8.wrap
                                        (↑(BitVec.ofInt IntKind.u8.bits (↑x_2.toNat : Int) &&&
                                                BitVec.ofInt IntKind.u8.bits 127).toNat :
                                          Int)) *
                                    2 ^ min (IntKind.i64.wrap (7 * x.snd.snd)).toNat IntKind.i64.bits))).toNat :
                        Int),
                    IntKind.i64.wrap (x.snd.snd + 1))
          else none
        else none
    else none
  else some (Sum.inl ())
theorem i_ReadVar_L9_eq (go x) : loopStep ⟨tabT tyl, ftab [(57, ⟨s57, i_Var⟩)]⟩ (C0) (loopOf Try.f55 9) s55_9 go x = i_ReadVar_L9 go x := by kernel_rfl
theorem l55_9 : CutOk Try.prog ⟨s55_9, iter i_ReadVar_L9 FUEL⟩ (.loop (loopOf Try.f55 9)) := loop_of mix_ok rfl tyl_ok (fl := [(57, ⟨s57, i_Var⟩)]) ⟨c57, trivial⟩ (C := C0) rfl (pts := []) (by kernel_rfl) trivial i_ReadVar_L9_eq
noncomputable def i_ReadVar (x : List UInt8) : Option (Int × Int) :=
  (iter i_ReadVar_L9 FUEL (x, 0, 0)).bind fun x => sumK x (fun y => some (0, 0)) fun z => some (z.fst, z.snd)
theorem i_ReadVar_eq (x) : fnK ⟨tabT tyl, ftab [(57, ⟨s57, i_Var⟩)]⟩ (ctab [(9, ⟨s55_9, iter i_ReadVar_L9 FUEL⟩)]) Try.f55 s55 x = i_ReadVar x := by kernel_rfl
theorem c55 : FnOk Try.prog 55 ⟨s55, i_ReadVar⟩ := fn_of2 mix_ok rfl tyl_ok (fl := [(57, ⟨s57, i_Var⟩)]) ⟨c57, trivial⟩ Try.func55 rfl rfl (C := ctab [(9, ⟨s55_9, iter i_ReadVar_L9 FUEL⟩)]) (pts := [(⟨s55_9, iter i_ReadVar_L9 FUEL⟩, .loop (loopOf Try.f55 9))]) (by kernel_rfl) ⟨l55_9, trivial⟩ i_ReadVar_eq
/-- (*impl.scan).num -/
def s37 : Sig := ⟨[.pio t71], [((.int .i64), true)], false⟩
noncomputable def i_scan_num (x : List UInt8 × Bool) : Option (Int × List UInt8 × Bool) :=
  (i_ReadVar x.fst).bind fun x_1 =>
  (bif !x.snd then some (decide (x_1.snd = 0)) else some true).bind fun x_2 =>
    bif x_2 then some (0, x.fst, true)
    else
      bif decide (0 ≤ x_1.snd) && decide (x_1.snd ≤ (↑(List.length x.fst) : Int)) then
        some (x_1.fst, List.drop (Int.toNat x_1.snd) x.fst, x.snd)
      else none
theorem i_scan_num_eq (x) : fnK ⟨tabT tyl, ftab [(55, ⟨s55, i_ReadVar⟩)]⟩ (C0) Try.f37 s37 x = i_scan_num x := by kernel_rfl
theorem c37 : FnOk Try.prog 37 ⟨s37, i_scan_num⟩ := fn_of mix_ok rfl tyl_ok (fl := [(55, ⟨s55, i_ReadVar⟩)]) ⟨c55, trivial⟩ Try.func37 rfl rfl cuts0 i_scan_num_eq
/-- impl.AnswerOk -/
def s56 : Sig := ⟨[.ro t34], [(.bool, true)], false⟩
noncomputable def i_AnswerOk (x : Int × Int × Int × List UInt8 × Int × Int) : Option (Bool) :=
  (i_within (x.fst, 0, 5)).bind fun x_1 =>
  (bif x_1 then (i_within (x.snd.fst, 0, 6)).bind fun x => some x else some false).bind fun x_2 =>
    (bif x_2 then (i_within (x.snd.snd.fst, 0, 4)).bind fun x => some x else some false).bind fun x_3 =>
      (bif x_3 then
            (bif !decide ((↑(List.length x.snd.snd.snd.fst) : Int) = 0) then
                  some (decide ((↑(List.length x.snd.snd.snd.fst) : Int) = 32))
                else some true).bind
              fun x => some x
          else some false).bind
        fun x_4 =>
        (bif x_4 then (i_within (x.snd.snd.snd.snd.fst, 0, 250)).bind fun x => some x else some false).bind fun x_5 =>
          (bif x_5 then (i_within (x.snd.snd.snd.snd.snd, 0, 100000)).bind fun x => some x else some false).bind fun x =>
            some x
theorem i_AnswerOk_eq (x) : fnK ⟨tabT tyl, ftab [(29, ⟨s29, i_within⟩)]⟩ (C0) Try.f56 s56 x = i_AnswerOk x := by kernel_rfl
theorem c56 : FnOk Try.prog 56 ⟨s56, i_AnswerOk⟩ := fn_of mix_ok rfl tyl_ok (fl := [(29, ⟨s29, i_within⟩)]) ⟨c29, trivial⟩ Try.func56 rfl rfl cuts0 i_AnswerOk_eq
/-- impl.ShowAnswer -/
def s38 : Sig := ⟨[.ro t34], [(.str, true)], false⟩
noncomputable def i_ShowAnswer (x : Int × Int × Int × List UInt8 × Int × Int) : Option (List UInt8) :=
  (i_AnswerOk x).bind fun x_1 =>
  bif !x_1 then some []
  else
    (i_Var x.fst).bind fun x_2 =>
      (i_Var x.snd.fst).bind fun x_3 =>
        bif decide (x_2.length + x_3.length ≤ 4611686018427387904) then
          (i_Var x.snd.snd.fst).bind fun x_4 =>
            bif decide ((x_2 ++ x_3).length + x_4.length ≤ 4611686018427387904) then
              (i_Var x.snd.snd.snd.snd.fst).bind fun x_5 =>
                bif decide ((x_2 ++ x_3 ++ x_4).length + x_5.length ≤ 4611686018427387904) then
                  (i_Var x.snd.snd.snd.snd.snd).bind fun x_6 =>
                    bif decide ((x_2 ++ x_3 ++ x_4 ++ x_5).length + x_6.length ≤ 4611686018427387904) then
                      bif
                          decide
                            ((x_2 ++ x_3 ++ x_4 ++ x_5 ++ x_6).length + List.length x.snd.snd.snd.fst ≤
                              4611686018427387904) then
                        some (x_2 ++ x_3 ++ x_4 ++ x_5 ++ x_6 ++ x.snd.snd.snd.fst)
                      else none
                    else none
                else none
            else none
        else none
theorem i_ShowAnswer_eq (x) : fnK ⟨tabT tyl, ftab [(56, ⟨s56, i_AnswerOk⟩), (57, ⟨s57, i_Var⟩)]⟩ (C0) Try.f38 s38 x = i_ShowAnswer x := by kernel_rfl
theorem c38 : FnOk Try.prog 38 ⟨s38, i_ShowAnswer⟩ := fn_of mix_ok rfl tyl_ok (fl := [(56, ⟨s56, i_AnswerOk⟩), (57, ⟨s57, i_Var⟩)]) ⟨c56, c57, trivial⟩ Try.func38 rfl rfl cuts0 i_ShowAnswer_eq
/-- impl.ReadAnswer -/
def s17 : Sig := ⟨[.ro .str], [(t34, true), (.bool, true)], false⟩
noncomputable def i_ReadAnswer (x : List UInt8) : Option ((Int × Int × Int × List UInt8 × Int × Int) × Bool) :=
  (i_scan_num (x, false)).bind fun x_1 =>
  (i_scan_num x_1.snd).bind fun x_2 =>
    (i_scan_num x_2.snd).bind fun x_3 =>
      (i_scan_num x_3.snd).bind fun x_4 =>
        (i_scan_num x_4.snd).bind fun x_5 =>
          (bif !x_5.snd.snd then some (decide (x = [])) else some true).bind fun x_6 =>
            (bif !x_6 then
                  (i_ShowAnswer (x_1.fst, x_2.fst, x_3.fst, x_5.snd.fst, x_4.fst, x_5.fst)).bind fun x_7 =>
                    some !decide (x_7 = x)
                else some true).bind
              fun x =>
              bif x then some ((0, 0, 0, [], 0, 0), false)
              else some ((x_1.fst, x_2.fst, x_3.fst, x_5.snd.fst, x_4.fst, x_5.fst), true)
theorem i_ReadAnswer_eq (x) : fnK ⟨tabT tyl, ftab [(37, ⟨s37, i_scan_num⟩), (38, ⟨s38, i_ShowAnswer⟩)]⟩ (C0) Try.f17 s17 x = i_ReadAnswer x := by kernel_rfl
theorem c17 : FnOk Try.prog 17 ⟨s17, i_ReadAnswer⟩ := fn_of mix_ok rfl tyl_ok (fl := [(37, ⟨s37, i_scan_num⟩), (38, ⟨s38, i_ShowAnswer⟩)]) ⟨c37, c38, trivial⟩ Try.func17 rfl rfl cuts0 i_ReadAnswer_eq
/-- impl.isServer -/
def s50 : Sig := ⟨[.ro (.int .i64)], [(.bool, true)], false⟩
noncomputable def i_isServer (x : Int) : Option (Bool) :=
  (i_within (x, 0, 4)).bind fun x => some x
theorem i_isServer_eq (x) : fnK ⟨tabT tyl, ftab [(29, ⟨s29, i_within⟩)]⟩ (C0) Try.f50 s50 x = i_isServer x := by kernel_rfl
theorem c50 : FnOk Try.prog 50 ⟨s50, i_isServer⟩ := fn_of mix_ok rfl tyl_ok (fl := [(29, ⟨s29, i_within⟩)]) ⟨c29, trivial⟩ Try.func50 rfl rfl cuts0 i_isServer_eq
/-- impl.isClient -/
def s51 : Sig := ⟨[.ro (.int .i64)], [(.bool, true)], false⟩
noncomputable def i_isClient (x : Int) : Option (Bool) :=
  (i_within (x, 11, 16)).bind fun x => some x
theorem i_isClient_eq (x) : fnK ⟨tabT tyl, ftab [(29, ⟨s29, i_within⟩)]⟩ (C0) Try.f51 s51 x = i_isClient x := by kernel_rfl
theorem c51 : FnOk Try.prog 51 ⟨s51, i_isClient⟩ := fn_of mix_ok rfl tyl_ok (fl := [(29, ⟨s29, i_within⟩)]) ⟨c29, trivial⟩ Try.func51 rfl rfl cuts0 i_isClient_eq
/-- impl.addressed -/
def s30 : Sig := ⟨[.ro t30], [(.bool, true)], false⟩
def s30_8 : CutSig := ⟨48, [4, 5], [.ro (.int .i64), .ro .bool], [(.nor, [5], [(.bool, true)])]⟩
noncomputable def i_addressed_L8 (x : Int × Bool) : Option (Bool) :=
  bif x.snd then some x.snd
else
  bif decide (x.fst = 2) then some (decide (x.fst = 2))
  else
    bif decide (x.fst = 3) then some (decide (x.fst = 3))
    else bif decide (x.fst = 4) then some (decide (x.fst = 4)) else some (decide (x.fst = 5))
theorem i_addressed_L8_eq (x) : cutFn ⟨tabT tyl, ftab []⟩ (C0) (condOf Try.f30 8) s30_8 x = i_addressed_L8 x := by kernel_rfl
theorem l30_8 : CutOk Try.prog ⟨s30_8, i_addressed_L8⟩ (condOf Try.f30 8) := cond_of mix_ok rfl tyl_ok (fl := []) trivial (C := C0) rfl (pts := []) (by kernel_rfl) trivial i_addressed_L8_eq
noncomputable def i_addressed (x : Int × Int × Int × Int × Int × Int × Int × Bool × List (Int × List UInt8) × List UInt8) : Option (Bool) :=
  (i_addressed_L8 (x.fst, decide (x.fst = 1))).bind fun x_1 =>
  bif x_1 then
    (i_isServer x.snd.fst).bind fun x_2 =>
      (bif x_2 then (i_isServer x.snd.snd.fst).bind fun x => some x else some false).bind fun x_3 =>
        (bif x_3 then some !decide (x.snd.fst = x.snd.snd.fst) else some false).bind fun x => some x
  else
    bif decide (x.fst = 6) then
      bif decide (x.fst = 6) then
        (i_isClient x.snd.fst).bind fun x_2 =>
          (bif x_2 then (i_isServer x.snd.snd.fst).bind fun x => some x else some false).bind fun x => some x
      else
        bif decide (x.fst = 7) then
          bif decide (x.fst = 7) then
            (i_isServer x.snd.fst).bind fun x_2 =>
              (bif x_2 then (i_isClient x.snd.snd.fst).bind fun x => some x else some false).bind fun x => some x
          else some false
        else
          bif decide (x.fst = 9) then
            (i_isServer x.snd.fst).bind fun x_2 =>
              (bif x_2 then (i_isClient x.snd.snd.fst).bind fun x => some x else some false).bind fun x => some x
          else some false
    else
      bif decide (x.fst = 8) then
        (i_isClient x.snd.fst).bind fun x_2 =>
          (bif x_2 then (i_isServer x.snd.snd.fst).bind fun x => some x else some false).bind fun x => some x
      else
        bif decide (x.fst = 7) then
          bif decide (x.fst = 7) then
            (i_isServer x.snd.fst).bind fun x_2 =>
              (bif x_2 then (i_isClient x.snd.snd.fst).bind fun x => some x else some false).bind fun x => some x
          else some false
        else
          bif decide (x.fst = 9) then
            (i_isServer x.snd.fst).bind fun x_2 =>
              (bif x_2 then (i_isClient x.snd.snd.fst).bind fun x => some x else some false).bind fun x => some x
          else some false
theorem i_addressed_eq (x) : fnK ⟨tabT tyl, ftab [(50, ⟨s50, i_isServer⟩), (51, ⟨s51, i_isClient⟩)]⟩ (ctab [(8, ⟨s30_8, i_addressed_L8⟩)]) Try.f30 s30 x = i_addressed x := by kernel_rfl
theorem c30 : FnOk Try.prog 30 ⟨s30, i_addressed⟩ := fn_of2 mix_ok rfl tyl_ok (fl := [(50, ⟨s50, i_isServer⟩), (51, ⟨s51, i_isClient⟩)]) ⟨c50, c51, trivial⟩ Try.func30 rfl rfl (C := ctab [(8, ⟨s30_8, i_addressed_L8⟩)]) (pts := [(⟨s30_8, i_addressed_L8⟩, condOf Try.f30 8)]) (by kernel_rfl) ⟨l30_8, trivial⟩ i_addressed_eq
/-- slices.Equal[[]impl.Entry,impl.Entry] -/
def s52 : Sig := ⟨[.ro (.sl 84 t84), .ro (.sl 84 t84)], [(.bool, true)], false⟩
def s52_11 : CutSig := ⟨26, [0, 1, 12, 13], [.ro (.sl 84 t84), .ro (.sl 84 t84), .ro (.int .i64), .ro (.int .i64)], [(.ex 0, [], []), (.ret, [4], [(.bool, true)])]⟩
noncomputable def g_slices_Equal_impl_Entry_impl_Entry_L11 (go : List (Int × List UInt8) × List (Int × List UInt8) × Int × Int → Option (PUnit ⊕ Bool)) (x : List (Int × List UInt8) × List (Int × List UInt8) × Int × Int) : Option (PUnit ⊕ Bool) :=
  bif decide (x.snd.snd.snd < x.snd.snd.fst) then
  bif decide (0 ≤ x.snd.snd.snd) then
    x.fst[Int.toNat x.snd.snd.snd]?.bind fun x_1 =>
      bif decide (0 ≤ x.snd.snd.snd) then
        x.snd.fst[Int.toNat x.snd.snd.snd]?.bind fun x_2 =>
          bif !(decide (x_1.fst = x_2.fst) && decide (x_1.snd = x_2.snd)) then some (Sum.inr false)
          else go (x.fst, x.snd.fst, x.snd.snd.fst, IntKind.i64.wrap (x.snd.snd.snd + 1))
      else none
  else none
else some (Sum.inl ())
theorem g_slices_Equal_impl_Entry_impl_Entry_L11_eq (go x) : loopStep ⟨tabT tyl, ftab []⟩ (C0) (loopOf Try.f52 11) s52_11 go x = g_slices_Equal_impl_Entry_impl_Entry_L11 go x := by kernel_rfl
theorem l52_11 : CutOk Try.prog ⟨s52_11, iter g_slices_Equal_impl_Entry_impl_Entry_L11 FUEL⟩ (.loop (loopOf Try.f52 11)) := loop_of mix_ok rfl tyl_ok (fl := []) trivial (C := C0) rfl (pts := []) (by kernel_rfl) trivial g_slices_Equal_impl_Entry_impl_Entry_L11_eq
noncomputable def g_slices_Equal_impl_Entry_impl_Entry (x : List (Int × List UInt8) × List (Int × List UInt8)) : Option (Bool) :=
  bif !decide ((↑(List.length x.fst) : Int) = (↑(List.length x.snd) : Int)) then some false
else
  (iter g_slices_Equal_impl_Entry_impl_Entry_L11 FUEL (x.fst, x.snd, (↑(List.length x.fst) : Int), 0)).bind fun x =>
    sumK x (fun y => some true) fun z => some z
theorem g_slices_Equal_impl_Entry_impl_Entry_eq (x) : fnK ⟨tabT tyl, ftab []⟩ (ctab [(11, ⟨s52_11, iter g_slices_Equal_impl_Entry_impl_Entry_L11 FUEL⟩)]) Try.f52 s52 x = g_slices_Equal_impl_Entry_impl_Entry x := by kernel_rfl
theorem c52 : FnOk Try.prog 52 ⟨s52, g_slices_Equal_impl_Entry_impl_Entry⟩ := fn_of2 mix_ok rfl tyl_ok (fl := []) trivial Try.func52 rfl rfl (C := ctab [(11, ⟨s52_11, iter g_slices_Equal_impl_Entry_impl_Entry_L11 FUEL⟩)]) (pts := [(⟨s52_11, iter g_slices_Equal_impl_Entry_impl_Entry_L11 FUEL⟩, .loop (loopOf Try.f52 11))]) (by kernel_rfl) ⟨l52_11, trivial⟩ g_slices_Equal_impl_Entry_impl_Entry_eq
/-- impl.sameMsg -/
def s31 : Sig := ⟨[.ro t30, .ro t30], [(.bool, true)], false⟩
noncomputable def i_sameMsg (x : (Int × Int × Int × Int × Int × Int × Int × Bool × List (Int × List UInt8) × List UInt8) ×
  Int × Int × Int × Int × Int × Int × Int × Bool × List (Int × List UInt8) × List UInt8) : Option (Bool) :=
  (bif decide (x.fst.fst = x.snd.fst) then some (decide (x.fst.snd.fst = x.snd.snd.fst)) else some false).bind fun x_1 =>
  (bif x_1 then some (decide (x.fst.snd.snd.fst = x.snd.snd.snd.fst)) else some false).bind fun x_2 =>
    (bif x_2 then some (decide (x.fst.snd.snd.snd.fst = x.snd.snd.snd.snd.fst)) else some false).bind fun x_3 =>
      (bif x_3 then some (decide (x.fst.snd.snd.snd.snd.fst = x.snd.snd.snd.snd.snd.fst)) else some false).bind
        fun x_4 =>
        (bif x_4 then some (decide (x.fst.snd.snd.snd.snd.snd.fst = x.snd.snd.snd.snd.snd.snd.fst))
            else some false).bind
          fun x_5 =>
          (bif x_5 then some (decide (x.fst.snd.snd.snd.snd.snd.snd.fst = x.snd.snd.snd.snd.snd.snd.snd.fst))
              else some false).bind
            fun x_6 =>
            (bif x_6 then some (x.fst.snd.snd.snd.snd.snd.snd.snd.fst == x.snd.snd.snd.snd.snd.snd.snd.snd.fst)
                else some false).bind
              fun x_7 =>
              (bif x_7 then
                    (g_slices_Equal_impl_Entry_impl_Entry (x.fst.snd.snd.snd.snd.snd.snd.snd.snd.fst, x.snd.snd.snd.snd.snd.snd.snd.snd.snd.fst)).bind
                      fun x => some x
                  else some false).bind
                fun x_8 =>
                (bif x_8 then
                      some
                        (decide (x.fst.snd.snd.snd.snd.snd.snd.snd.snd.snd = x.snd.snd.snd.snd.snd.snd.snd.snd.snd.snd))
                    else some false).bind
                  fun x => some x
theorem i_sameMsg_eq (x) : fnK ⟨tabT tyl, ftab [(52, ⟨s52, g_slices_Equal_impl_Entry_impl_Entry⟩)]⟩ (C0) Try.f31 s31 x = i_sameMsg x := by kernel_rfl
theorem c31 : FnOk Try.prog 31 ⟨s31, i_sameMsg⟩ := fn_of mix_ok rfl tyl_ok (fl := [(52, ⟨s52, g_slices_Equal_impl_Entry_impl_Entry⟩)]) ⟨c52, trivial⟩ Try.func31 rfl rfl cuts0 i_sameMsg_eq
/-- impl.named -/
def s32 : Sig := ⟨[.ro t30], [(t30, false)], false⟩
def s32_8 : CutSig := ⟨89, [1, 3, 13], [.pin t30, .pio t30, .ro .bool], [(.nor, [], [])]⟩
noncomputable def i_named_L8 (x : (Int × Int × Int × Int × Int × Int × Int × Bool × List (Int × List UInt8) × List UInt8) ×
  (Int × Int × Int × Int × Int × Int × Int × Bool × List (Int × List UInt8) × List UInt8) × Bool) : Option (Int × Int × Int × Int × Int × Int × Int × Bool × List (Int × List UInt8) × List UInt8) :=
  bif x.snd.snd then
  some (x.snd.fst.fst, x.snd.fst.snd.fst, x.snd.fst.snd.snd.fst, x.fst.snd.snd.snd.fst, x.snd.fst.snd.snd.snd.snd)
else some x.snd.fst
theorem i_named_L8_eq (x) : cutFn ⟨tabT tyl, ftab []⟩ (C0) (condOf Try.f32 8) s32_8 x = i_named_L8 x := by kernel_rfl
theorem l32_8 : CutOk Try.prog ⟨s32_8, i_named_L8⟩ (condOf Try.f32 8) := cond_of mix_ok rfl tyl_ok (fl := []) trivial (C := C0) rfl (pts := []) (by kernel_rfl) trivial i_named_L8_eq
def s32_12 : CutSig := ⟨89, [1, 3, 19], [.pin t30, .pio t30, .ro .bool], [(.nor, [], [])]⟩
noncomputable def i_named_L12 (x : (Int × Int × Int × Int × Int × Int × Int × Bool × List (Int × List UInt8) × List UInt8) ×
  (Int × Int × Int × Int × Int × Int × Int × Bool × List (Int × List UInt8) × List UInt8) × Bool) : Option (Int × Int × Int × Int × Int × Int × Int × Bool × List (Int × List UInt8) × List UInt8) :=
  bif x.snd.snd then
  some
    (x.snd.fst.fst, x.snd.fst.snd.fst, x.snd.fst.snd.snd.fst, x.snd.fst.snd.snd.snd.fst, x.fst.snd.snd.snd.snd.fst,
      x.snd.fst.snd.snd.snd.snd.snd)
else some x.snd.fst
theorem i_named_L12_eq (x) : cutFn ⟨tabT tyl, ftab []⟩ (C0) (condOf Try.f32 12) s32_12 x = i_named_L12 x := by kernel_rfl
theorem l32_12 : CutOk Try.prog ⟨s32_12, i_named_L12⟩ (condOf Try.f32 12) := cond_of mix_ok rfl tyl_ok (fl := []) trivial (C := C0) rfl (pts := []) (by kernel_rfl) trivial i_named_L12_eq
def s32_16 : CutSig := ⟨89, [1, 3, 35], [.pin t30, .pio t30, .ro .bool], [(.nor, [], [])]⟩
noncomputable def i_named_L16 (x : (Int × Int × Int × Int × Int × Int × Int × Bool × List (Int × List UInt8) × List UInt8) ×
  (Int × Int × Int × Int × Int × Int × Int × Bool × List (Int × List UInt8) × List UInt8) × Bool) : Option (Int × Int × Int × Int × Int × Int × Int × Bool × List (Int × List UInt8) × List UInt8) :=
  bif x.snd.snd then
  some
    (x.snd.fst.fst, x.snd.fst.snd.fst, x.snd.fst.snd.snd.fst, x.snd.fst.snd.snd.snd.fst, x.snd.fst.snd.snd.snd.snd.fst,
      x.fst.snd.snd.snd.snd.snd.fst, x.snd.fst.snd.snd.snd.snd.snd.snd)
else some x.snd.fst
theorem i_named_L16_eq (x) : cutFn ⟨tabT tyl, ftab []⟩ (C0) (condOf Try.f32 16) s32_16 x = i_named_L16 x := by kernel_rfl
theorem l32_16 : CutOk Try.prog ⟨s32_16, i_named_L16⟩ (condOf Try.f32 16) := cond_of mix_ok rfl tyl_ok (fl := []) trivial (C := C0) rfl (pts := []) (by kernel_rfl) trivial i_named_L16_eq
noncomputable def i_named (x : Int × Int × Int × Int × Int × Int × Int × Bool × List (Int × List UInt8) × List UInt8) : Option (Int × Int × Int × Int × Int × Int × Int × Bool × List (Int × List UInt8) × List UInt8) :=
  (i_named_L8 (x, (x.fst, x.snd.fst, x.snd.snd.fst, 0, 0, 0, 0, false, [], []), decide (x.fst ≤ 5))).bind fun x_1 =>
  (i_named_L12 (x, x_1, !decide (x.fst = 2))).bind fun x_2 =>
    (bif !decide (x.fst = 1) then some (decide (x.fst = 3)) else some true).bind fun x_3 =>
      (bif !x_3 then some (decide (x.fst = 5)) else some true).bind fun x_4 =>
        (i_named_L16 (x, x_2, x_4)).bind fun x_5 =>
          (bif !decide (x.fst = 3) then some (decide (x.fst = 8)) else some true).bind fun x_6 =>
            (bif !x_6 then some (decide (x.fst = 9)) else some true).bind fun x_7 =>
              bif x_7 then
                (bif !decide (x.fst = 2) then some (decide (x.fst = 4)) else some true).bind fun x_8 =>
                  (bif !x_8 then some (decide (x.fst = 9)) else some true).bind fun x_9 =>
                    bif x_9 then
                      bif decide (x.fst = 3) then
                        (bif decide (5 ≤ x.fst) then some !decide (x.fst = 8) else some false).bind fun x_10 =>
                          bif x_10 then
                            some
                              (x_5.fst, x_5.snd.fst, x_5.snd.snd.fst, x_5.snd.snd.snd.fst, x_5.snd.snd.snd.snd.fst,
                                x_5.snd.snd.snd.snd.snd.fst, x.snd.snd.snd.snd.snd.snd.fst,
                                x.snd.snd.snd.snd.snd.snd.snd.fst, x.snd.snd.snd.snd.snd.snd.snd.snd.fst,
                                x.snd.snd.snd.snd.snd.snd.snd.snd.snd)
                          else
                            some
                              (x_5.fst, x_5.snd.fst, x_5.snd.snd.fst, x_5.snd.snd.snd.fst, x_5.snd.snd.snd.snd.fst,
                                x_5.snd.snd.snd.snd.snd.fst, x.snd.snd.snd.snd.snd.snd.fst,
                                x.snd.snd.snd.snd.snd.snd.snd.fst, x.snd.snd.snd.snd.snd.snd.snd.snd.fst,
                                x_5.snd.snd.snd.snd.snd.snd.snd.snd.snd)
                      else
                        (bif decide (5 ≤ x.fst) then some !decide (x.fst = 8) else some false).bind fun x_10 =>
                          bif x_10 then
                            some
                              (x_5.fst, x_5.snd.fst, x_5.snd.snd.fst, x_5.snd.snd.snd.fst, x_5.snd.snd.snd.snd.fst,
                                x_5.snd.snd.snd.snd.snd.fst, x.snd.snd.snd.snd.snd.snd.fst,
                                x.snd.snd.snd.snd.snd.snd.snd.fst, x_5.snd.snd.snd.snd.snd.snd.snd.snd.fst,
                                x.snd.snd.snd.snd.snd.snd.snd.snd.snd)
                          else
                            some
                              (x_5.fst, x_5.snd.fst, x_5.snd.snd.fst, x_5.snd.snd.snd.fst, x_5.snd.snd.snd.snd.fst,
                                x_5.snd.snd.snd.snd.snd.fst, x.snd.snd.snd.snd.snd.snd.fst,
                                x.snd.snd.snd.snd.snd.snd.snd.fst, x_5.snd.snd.snd.snd.snd.snd.snd.snd)
                    else
                      bif decide (x.fst = 3) then
                        (bif decide (5 ≤ x.fst) then some !decide (x.fst = 8) else some false).bind fun x_10 =>
                          bif x_10 then
                            some
                              (x_5.fst, x_5.snd.fst, x_5.snd.snd.fst, x_5.snd.snd.snd.fst, x_5.snd.snd.snd.snd.fst,
                                x_5.snd.snd.snd.snd.snd.fst, x.snd.snd.snd.snd.snd.snd.fst,
                                x_5.snd.snd.snd.snd.snd.snd.snd.fst, x.snd.snd.snd.snd.snd.snd.snd.snd.fst,
                                x.snd.snd.snd.snd.snd.snd.snd.snd.snd)
                          else
                            some
                              (x_5.fst, x_5.snd.fst, x_5.snd.snd.fst, x_5.snd.snd.snd.fst, x_5.snd.snd.snd.snd.fst,
                                x_5.snd.snd.snd.snd.snd.fst, x.snd.snd.snd.snd.snd.snd.fst,
                                x_5.snd.snd.snd.snd.snd.snd.snd.fst, x.snd.snd.snd.snd.snd.snd.snd.snd.fst,
                                x_5.snd.snd.snd.snd.snd.snd.snd.snd.snd)
                      else
                        (bif decide (5 ≤ x.fst) then some !decide (x.fst = 8) else some false).bind fun x_10 =>
                          bif x_10 then
                            some
                              (x_5.fst, x_5.snd.fst, x_5.snd.snd.fst, x_5.snd.snd.snd.fst, x_5.snd.snd.snd.snd.fst,
                                x_5.snd.snd.snd.snd.snd.fst, x.snd.snd.snd.snd.snd.snd.fst,
                                x_5.snd.snd.snd.snd.snd.snd.snd.fst, x_5.snd.snd.snd.snd.snd.snd.snd.snd.fst,
                                x.snd.snd.snd.snd.snd.snd.snd.snd.snd)
                          else
                            some
                              (x_5.fst, x_5.snd.fst, x_5.snd.snd.fst, x_5.snd.snd.snd.fst, x_5.snd.snd.snd.snd.fst,
                                x_5.snd.snd.snd.snd.snd.fst, x.snd.snd.snd.snd.snd.snd.fst,
                                x_5.snd.snd.snd.snd.snd.snd.snd)
              else
                (bif !decide (x.fst = 2) then some (decide (x.fst = 4)) else some true).bind fun x_8 =>
                  (bif !x_8 then some (decide (x.fst = 9)) else some true).bind fun x_9 =>
                    bif x_9 then
                      bif decide (x.fst = 3) then
                        (bif decide (5 ≤ x.fst) then some !decide (x.fst = 8) else some false).bind fun x_10 =>
                          bif x_10 then
                            some
                              (x_5.fst, x_5.snd.fst, x_5.snd.snd.fst, x_5.snd.snd.snd.fst, x_5.snd.snd.snd.snd.fst,
                                x_5.snd.snd.snd.snd.snd.fst, x_5.snd.snd.snd.snd.snd.snd.fst,
                                x.snd.snd.snd.snd.snd.snd.snd.fst, x.snd.snd.snd.snd.snd.snd.snd.snd.fst,
                                x.snd.snd.snd.snd.snd.snd.snd.snd.snd)
                          else
                            some
                              (x_5.fst, x_5.snd.fst, x_5.snd.snd.fst, x_5.snd.snd.snd.fst, x_5.snd.snd.snd.snd.fst,
                                x_5.snd.snd.snd.snd.snd.fst, x_5.snd.snd.snd.snd.snd.snd.fst,
                                x.snd.snd.snd.snd.snd.snd.snd.fst, x.snd.snd.snd.snd.snd.snd.snd.snd.fst,
                                x_5.snd.snd.snd.snd.snd.snd.snd.snd.snd)
                      else
                        (bif decide (5 ≤ x.fst) then some !decide (x.fst = 8) else some false).bind fun x_10 =>
                          bif x_10 then
                            some
                              (x_5.fst, x_5.snd.fst, x_5.snd.snd.fst, x_5.snd.snd.snd.fst, x_5.snd.snd.snd.snd.fst,
                                x_5.snd.snd.snd.snd.snd.fst, x_5.snd.snd.snd.snd.snd.snd.fst,
                                x.snd.snd.snd.snd.snd.snd.snd.fst, x_5.snd.snd.snd.snd.snd.snd.snd.snd.fst,
                                x.snd.snd.snd.snd.snd.snd.snd.snd.snd)
                          else
                            some
                              (x_5.fst, x_5.snd.fst, x_5.snd.snd.fst, x_5.snd.snd.snd.fst, x_5.snd.snd.snd.snd.fst,
                                x_5.snd.snd.snd.snd.snd.fst, x_5.snd.snd.snd.snd.snd.snd.fst,
                                x.snd.snd.snd.snd.snd.snd.snd.fst, x_5.snd.snd.snd.snd.snd.snd.snd.snd)
                    else
                      bif decide (x.fst = 3) then
                        (bif decide (5 ≤ x.fst) then some !decide (x.fst = 8) else some false).bind fun x_10 =>
                          bif x_10 then
                            some
                              (x_5.fst, x_5.snd.fst, x_5.snd.snd.fst, x_5.snd.snd.snd.fst, x_5.snd.snd.snd.snd.fst,
                                x_5.snd.snd.snd.snd.snd.fst, x_5.snd.snd.snd.snd.snd.snd.fst,
                                x_5.snd.snd.snd.snd.snd.snd.snd.fst, x.snd.snd.snd.snd.snd.snd.snd.snd.fst,
                                x.snd.snd.snd.snd.snd.snd.snd.snd.snd)
                          else
                            some
                              (x_5.fst, x_5.snd.fst, x_5.snd.snd.fst, x_5.snd.snd.snd.fst, x_5.snd.snd.snd.snd.fst,
                                x_5.snd.snd.snd.snd.snd.fst, x_5.snd.snd.snd.snd.snd.snd.fst,
                                x_5.snd.snd.snd.snd.snd.snd.snd.fst, x.snd.snd.snd.snd.snd.snd.snd.snd.fst,
                                x_5.snd.snd.snd.snd.snd.snd.snd.snd.snd)
                      else
                        (bif decide (5 ≤ x.fst) then some !decide (x.fst = 8) else some false).bind fun x_10 =>
                          bif x_10 then
                            some
                              (x_5.fst, x_5.snd.fst, x_5.snd.snd.fst, x_5.snd.snd.snd.fst, x_5.snd.snd.snd.snd.fst,
                                x_5.snd.snd.snd.snd.snd.fst, x_5.snd.snd.snd.snd.snd.snd.fst,
                                x_5.snd.snd.snd.snd.snd.snd.snd.fst, x_5.snd.snd.snd.snd.snd.snd.snd.snd.fst,
                                x.snd.snd.snd.snd.snd.snd.snd.snd.snd)
                          else some x_5
theorem i_named_eq (x) : fnK ⟨tabT tyl, ftab []⟩ (ctab [(8, ⟨s32_8, i_named_L8⟩), (12, ⟨s32_12, i_named_L12⟩), (16, ⟨s32_16, i_named_L16⟩)]) Try.f32 s32 x = i_named x := by kernel_rfl
theorem c32 : FnOk Try.prog 32 ⟨s32, i_named⟩ := fn_of2 mix_ok rfl tyl_ok (fl := []) trivial Try.func32 rfl rfl (C := ctab [(8, ⟨s32_8, i_named_L8⟩), (12, ⟨s32_12, i_named_L12⟩), (16, ⟨s32_16, i_named_L16⟩)]) (pts := [(⟨s32_8, i_named_L8⟩, condOf Try.f32 8), (⟨s32_12, i_named_L12⟩, condOf Try.f32 12), (⟨s32_16, i_named_L16⟩, condOf Try.f32 16)]) (by kernel_rfl) ⟨l32_8, l32_12, l32_16, trivial⟩ i_named_eq
/-- impl.isBase -/
def s33 : Sig := ⟨[.ro (.int .i64), .ro (.int .i64)], [(.bool, true)], false⟩
noncomputable def i_isBase (x : Int × Int) : Option (Bool) :=
  (bif decide (x.fst = 0) then some (decide (x.snd = 0)) else some false).bind fun x_1 =>
  (bif !x_1 then
        (i_within (x.fst, 1, 100000)).bind fun x_2 =>
          (bif x_2 then (i_within (x.snd, 1, 100000)).bind fun x => some x else some false).bind fun x => some x
      else some true).bind
    fun x => some x
theorem i_isBase_eq (x) : fnK ⟨tabT tyl, ftab [(29, ⟨s29, i_within⟩)]⟩ (C0) Try.f33 s33 x = i_isBase x := by kernel_rfl
theorem c33 : FnOk Try.prog 33 ⟨s33, i_isBase⟩ := fn_of mix_ok rfl tyl_ok (fl := [(29, ⟨s29, i_within⟩)]) ⟨c29, trivial⟩ Try.func33 rfl rfl cuts0 i_isBase_eq
/-- impl.entriesOk -/
def s34 : Sig := ⟨[.ro t30], [(.bool, true)], false⟩
def s34_9 : CutSig := ⟨45, [1, 3, 10, 11, 12], [.pin t30, .ro (.int .i64), .ro (.sl 84 t84), .ro (.int .i64), .ro (.int .i64)], [(.ex 0, [], []), (.ret, [2], [(.bool, true)])]⟩
noncomputable def i_entriesOk_L9 (go : (Int × Int × Int × Int × Int × Int × Int × Bool × List (Int × List UInt8) × List UInt8) ×
  Int × List (Int × List UInt8) × Int × Int → Option (PUnit ⊕ Bool)) (x : (Int × Int × Int × Int × Int × Int × Int × Bool × List (Int × List UInt8) × List UInt8) ×
  Int × List (Int × List UInt8) × Int × Int) : Option (PUnit ⊕ Bool) :=
  bif decide (x.snd.snd.snd.snd < x.snd.snd.snd.fst) then
  bif decide (0 ≤ x.snd.snd.snd.snd) then
    x.snd.snd.fst[Int.toNat x.snd.snd.snd.snd]?.bind fun x_1 =>
      (bif !decide (900 < (↑(List.length x_1.snd) : Int)) then
            (i_within (x_1.fst, x.snd.fst, x.fst.snd.snd.snd.fst)).bind fun x => some !x
          else some true).bind
        fun x_2 =>
        bif x_2 then some (Sum.inr false)
        else go (x.fst, x_1.fst, x.snd.snd.fst, x.snd.snd.snd.fst, IntKind.i64.wrap (x.snd.snd.snd.snd + 1))
  else none
else some (Sum.inl ())
theorem i_entriesOk_L9_eq (go x) : loopStep ⟨tabT tyl, ftab [(29, ⟨s29, i_within⟩)]⟩ (C0) (loopOf Try.f34 9) s34_9 go x = i_entriesOk_L9 go x := by kernel_rfl
theorem l34_9 : CutOk Try.prog ⟨s34_9, iter i_entriesOk_L9 FUEL⟩ (.loop (loopOf Try.f34 9)) := loop_of mix_ok rfl tyl_ok (fl := [(29, ⟨s29, i_within⟩)]) ⟨c29, trivial⟩ (C := C0) rfl (pts := []) (by kernel_rfl) trivial i_entriesOk_L9_eq
noncomputable def i_entriesOk (x : Int × Int × Int × Int × Int × Int × Int × Bool × List (Int × List UInt8) × List UInt8) : Option (Bool) :=
  (iter i_entriesOk_L9 FUEL
      (x, bif decide (1 < x.snd.snd.snd.snd.snd.fst) then x.snd.snd.snd.snd.snd.fst else 1,
        x.snd.snd.snd.snd.snd.snd.snd.snd.fst, (↑(List.length x.snd.snd.snd.snd.snd.snd.snd.snd.fst) : Int), 0)).bind
  fun x_1 =>
  sumK x_1
    (fun y =>
      (bif decide ((↑(List.length x.snd.snd.snd.snd.snd.snd.snd.snd.fst) : Int) ≤ 4) then
            some
              (decide
                (IntKind.i64.wrap
                    (x.snd.snd.snd.snd.fst + (↑(List.length x.snd.snd.snd.snd.snd.snd.snd.snd.fst) : Int)) ≤
                  100000))
          else some false).bind
        fun x => some x)
    fun z => some z
theorem i_entriesOk_eq (x) : fnK ⟨tabT tyl, ftab [(29, ⟨s29, i_within⟩)]⟩ (ctab [(9, ⟨s34_9, iter i_entriesOk_L9 FUEL⟩)]) Try.f34 s34 x = i_entriesOk x := by kernel_rfl
theorem c34 : FnOk Try.prog 34 ⟨s34, i_entriesOk⟩ := fn_of2 mix_ok rfl tyl_ok (fl := [(29, ⟨s29, i_within⟩)]) ⟨c29, trivial⟩ Try.func34 rfl rfl (C := ctab [(9, ⟨s34_9, iter i_entriesOk_L9 FUEL⟩)]) (pts := [(⟨s34_9, iter i_entriesOk_L9 FUEL⟩, .loop (loopOf Try.f34 9))]) (by kernel_rfl) ⟨l34_9, trivial⟩ i_entriesOk_eq
/-- (*impl.scan).cut -/
def s68 : Sig := ⟨[.pio t71, .ro (.int .i64)], [(.str, true)], false⟩
noncomputable def i_scan_cut (x : (List UInt8 × Bool) × Int) : Option (List UInt8 × List UInt8 × Bool) :=
  (bif !x.fst.snd then (i_within (x.snd, 0, (↑(List.length x.fst.fst) : Int))).bind fun x => some !x else some true).bind
  fun x_1 =>
  bif x_1 then some ([], x.fst.fst, true)
  else
    bif decide (0 ≤ x.snd) && decide (x.snd ≤ (↑(List.length x.fst.fst) : Int)) then
      bif decide (0 ≤ x.snd) && decide (x.snd ≤ (↑(List.length x.fst.fst) : Int)) then
        some (List.take (Int.toNat x.snd) x.fst.fst, List.drop (Int.toNat x.snd) x.fst.fst, x.fst.snd)
      else none
    else none
theorem i_scan_cut_eq (x) : fnK ⟨tabT tyl, ftab [(29, ⟨s29, i_within⟩)]⟩ (C0) Try.f68 s68 x = i_scan_cut x := by kernel_rfl
theorem c68 : FnOk Try.prog 68 ⟨s68, i_scan_cut⟩ := fn_of mix_ok rfl tyl_ok (fl := [(29, ⟨s29, i_within⟩)]) ⟨c29, trivial⟩ Try.func68 rfl rfl cuts0 i_scan_cut_eq
/-- (*impl.scan).byte -/
def s65 : Sig := ⟨[.pio t71], [((.int .i64), true)], false⟩
noncomputable def i_scan_byte (x : List UInt8 × Bool) : Option (Int × List UInt8 × Bool) :=
  (i_scan_cut (x, 1)).bind fun x =>
  bif decide (x.fst = []) then some (0, x.snd)
  else x.fst[Int.toNat 0]?.bind fun x_1 => some (IntKind.i64.wrap (↑x_1.toNat : Int), x.snd)
theorem i_scan_byte_eq (x) : fnK ⟨tabT tyl, ftab [(68, ⟨s68, i_scan_cut⟩)]⟩ (C0) Try.f65 s65 x = i_scan_byte x := by kernel_rfl
theorem c65 : FnOk Try.prog 65 ⟨s65, i_scan_byte⟩ := fn_of mix_ok rfl tyl_ok (fl := [(68, ⟨s68, i_scan_cut⟩)]) ⟨c68, trivial⟩ Try.func65 rfl rfl cuts0 i_scan_byte_eq
/-- (*impl.scan).op -/
def s53 : Sig := ⟨[.pio t71], [(t25, true)], false⟩
noncomputable def i_scan_op (x : List UInt8 × Bool) : Option ((Int × Int × Int × List UInt8) × List UInt8 × Bool) :=
  (i_scan_byte x).bind fun x =>
  (i_scan_num x.snd).bind fun x_1 => (i_scan_num x_1.snd).bind fun x_2 => some ((x.fst, x_1.fst, x_2.fst, x_2.snd.fst), x_2.snd)
theorem i_scan_op_eq (x) : fnK ⟨tabT tyl, ftab [(37, ⟨s37, i_scan_num⟩), (65, ⟨s65, i_scan_byte⟩)]⟩ (C0) Try.f53 s53 x = i_scan_op x := by kernel_rfl
theorem c53 : FnOk Try.prog 53 ⟨s53, i_scan_op⟩ := fn_of mix_ok rfl tyl_ok (fl := [(37, ⟨s37, i_scan_num⟩), (65, ⟨s65, i_scan_byte⟩)]) ⟨c37, c65, trivial⟩ Try.func53 rfl rfl cuts0 i_scan_op_eq
/-- impl.ShowOp -/
def s54 : Sig := ⟨[.ro t25], [(.str, true)], false⟩
noncomputable def i_ShowOp (x : Int × Int × Int × List UInt8) : Option (List UInt8) :=
  (i_OpOk x).bind fun x_1 =>
  bif !x_1 then some []
  else
    (i_Var x.snd.fst).bind fun x_2 =>
      bif
          decide
            ((List.map (fun (b : Int) => UInt8.ofNat b.toNat) ((List.replicate 1 0).set 0 (IntKind.u8.wrap x.fst))).length +
                x_2.length ≤
              4611686018427387904) then
        (i_Var x.snd.snd.fst).bind fun x_3 =>
          bif
              decide
                ((List.map (fun (b : Int) => UInt8.ofNat b.toNat) ((List.replicate 1 0).set 0 (IntKind.u8.wrap x.fst)) ++
                        x_2).length +
                    x_3.length ≤
                  4611686018427387904) then
            bif
                decide
                  ((List.map (fun (b : Int) => UInt8.ofNat b.toNat) ((List.replicate 1 0).set 0 (IntKind.u8.wrap x.fst)) ++
                            x_2 ++
                          x_3).length +
                      List.length x.snd.snd.snd ≤
                    4611686018427387904) then
              some
                (List.map (fun (b : Int) => UInt8.ofNat b.toNat) ((List.replicate 1 0).set 0 (IntKind.u8.wrap x.fst)) ++ x_2 ++
                    x_3 ++
                  x.snd.snd.snd)
            else none
          else none
      else none
theorem i_ShowOp_eq (x) : fnK ⟨tabT tyl, ftab [(20, ⟨s20, i_OpOk⟩), (57, ⟨s57, i_Var⟩)]⟩ (C0) Try.f54 s54 x = i_ShowOp x := by kernel_rfl
theorem c54 : FnOk Try.prog 54 ⟨s54, i_ShowOp⟩ := fn_of mix_ok rfl tyl_ok (fl := [(20, ⟨s20, i_OpOk⟩), (57, ⟨s57, i_Var⟩)]) ⟨c20, c57, trivial⟩ Try.func54 rfl rfl cuts0 i_ShowOp_eq
/-- impl.ReadOp -/
def s35 : Sig := ⟨[.ro .str], [(t25, true), (.bool, true)], false⟩
noncomputable def i_ReadOp (x : List UInt8) : Option ((Int × Int × Int × List UInt8) × Bool) :=
  (i_scan_op (x, false)).bind fun x_1 =>
  (bif !x_1.snd.snd then some (decide (x = [])) else some true).bind fun x_2 =>
    (bif !x_2 then (i_ShowOp x_1.fst).bind fun x_3 => some !decide (x_3 = x) else some true).bind fun x =>
      bif x then some ((0, 0, 0, []), false) else some (x_1.fst, true)
theorem i_ReadOp_eq (x) : fnK ⟨tabT tyl, ftab [(53, ⟨s53, i_scan_op⟩), (54, ⟨s54, i_ShowOp⟩)]⟩ (C0) Try.f35 s35 x = i_ReadOp x := by kernel_rfl
theorem c35 : FnOk Try.prog 35 ⟨s35, i_ReadOp⟩ := fn_of mix_ok rfl tyl_ok (fl := [(53, ⟨s53, i_scan_op⟩), (54, ⟨s54, i_ShowOp⟩)]) ⟨c53, c54, trivial⟩ Try.func35 rfl rfl cuts0 i_ReadOp_eq
/-- impl.MsgOk -/
def s14 : Sig := ⟨[.ro t30], [(.bool, true)], false⟩
noncomputable def i_MsgOk (x : Int × Int × Int × Int × Int × Int × Int × Bool × List (Int × List UInt8) × List UInt8) : Option (Bool) :=
  (i_addressed x).bind fun x_1 =>
  (bif !!x_1 then (i_named x).bind fun x_2 => (i_sameMsg (x, x_2)).bind fun x => some !x else some true).bind fun x_2 =>
    bif x_2 then some false
    else
      (i_within (x.snd.snd.snd.fst, 1, 100000)).bind fun x_3 =>
        (i_isBase (x.snd.snd.snd.snd.fst, x.snd.snd.snd.snd.snd.fst)).bind fun x_4 =>
          (bif x_4 then some (decide (x.snd.snd.snd.snd.snd.fst ≤ x.snd.snd.snd.fst)) else some false).bind fun x_5 =>
            bif decide (x.fst = 1) then (bif x_3 then some x_5 else some false).bind fun x => some x
            else
              bif decide (x.fst = 2) then some x_3
              else
                bif decide (x.fst = 3) then
                  (bif x_3 then some x_5 else some false).bind fun x_6 =>
                    (bif x_6 then (i_within (x.snd.snd.snd.snd.snd.snd.fst, 0, 100000)).bind fun x => some x
                        else some false).bind
                      fun x_7 => (bif x_7 then (i_entriesOk x).bind fun x => some x else some false).bind fun x => some x
                else
                  bif decide (x.fst = 4) then
                    (bif x_3 then (i_within (x.snd.snd.snd.snd.fst, 0, 100000)).bind fun x => some x else some false).bind
                      fun x => some x
                  else
                    bif decide (x.fst = 5) then
                      (bif x_3 then (i_within (x.snd.snd.snd.snd.fst, 1, 100000)).bind fun x => some x else some false).bind
                        fun x_6 =>
                        (bif x_6 then (i_within (x.snd.snd.snd.snd.snd.fst, 1, x.snd.snd.snd.fst)).bind fun x => some x
                            else some false).bind
                          fun x_7 =>
                          (bif x_7 then
                                some (decide ((↑(List.length x.snd.snd.snd.snd.snd.snd.snd.snd.snd) : Int) ≤ 8000))
                              else some false).bind
                            fun x => some x
                    else
                      bif decide (x.fst = 6) then
                        (i_ReadOp x.snd.snd.snd.snd.snd.snd.snd.snd.snd).bind fun x_6 =>
                          (bif x_6.snd then (i_within (x.snd.snd.snd.snd.fst, 1, 1000000)).bind fun x => some x
                              else some false).bind
                            fun x => some x
                      else
                        bif decide (x.fst = 7) then
                          (i_ReadAnswer x.snd.snd.snd.snd.snd.snd.snd.snd.snd).bind fun x_6 =>
                            (bif x_6.snd then (i_within (x.snd.snd.snd.snd.fst, 1, 1000000)).bind fun x => some x
                                else some false).bind
                              fun x => some x
                        else
                          (i_isVersion x.snd.snd.snd.snd.fst).bind fun x_6 =>
                            (bif !!x_6 then (i_within (x.snd.snd.snd.snd.snd.snd.fst, 0, 250)).bind fun x => some !x
                                else some true).bind
                              fun x_7 =>
                              bif x_7 then some false
                              else
                                (bif decide ((↑(List.length x.snd.snd.snd.snd.snd.snd.snd.snd.snd) : Int) ≤ 64) then
                                      (bif !x.snd.snd.snd.snd.snd.snd.snd.fst then
                                            some (decide (x.snd.snd.snd.snd.snd.snd.snd.snd.snd = []))
                                          else some true).bind
                                        fun x => some x
                                    else some false).bind
                                  fun x => some x
theorem i_MsgOk_eq (x) : fnK ⟨tabT tyl, ftab [(17, ⟨s17, i_ReadAnswer⟩), (29, ⟨s29, i_within⟩), (30, ⟨s30, i_addressed⟩), (31, ⟨s31, i_sameMsg⟩), (32, ⟨s32, i_named⟩), (33, ⟨s33, i_isBase⟩), (34, ⟨s34, i_entriesOk⟩), (35, ⟨s35, i_ReadOp⟩), (36, ⟨s36, i_isVersion⟩)]⟩ (C0) Try.f14 s14 x = i_MsgOk x := by kernel_rfl
theorem c14 : FnOk Try.prog 14 ⟨s14, i_MsgOk⟩ := fn_of mix_ok rfl tyl_ok (fl := [(17, ⟨s17, i_ReadAnswer⟩), (29, ⟨s29, i_within⟩), (30, ⟨s30, i_addressed⟩), (31, ⟨s31, i_sameMsg⟩), (32, ⟨s32, i_named⟩), (33, ⟨s33, i_isBase⟩), (34, ⟨s34, i_entriesOk⟩), (35, ⟨s35, i_ReadOp⟩), (36, ⟨s36, i_isVersion⟩)]) ⟨c17, c29, c30, c31, c32, c33, c34, c35, c36, trivial⟩ Try.func14 rfl rfl cuts0 i_MsgOk_eq
/-- (impl.Client).address -/
def s15 : Sig := ⟨[.ro t27], [((.int .i64), true)], false⟩
noncomputable def i_Client_address (x : Int × Int × Bool × (Int × Int × Int × List UInt8) × Int) : Option (Int) :=
  some (IntKind.i64.wrap (10 + x.fst))
theorem i_Client_address_eq (x) : fnK ⟨tabT tyl, ftab []⟩ (C0) Try.f15 s15 x = i_Client_address x := by kernel_rfl
theorem c15 : FnOk Try.prog 15 ⟨s15, i_Client_address⟩ := fn_of mix_ok rfl tyl_ok (fl := []) trivial Try.func15 rfl rfl cuts0 i_Client_address_eq
/-- impl.ClientHear -/
def s6 : Sig := ⟨[.ro t27, .ro t30, .ro (.int .i64)], [(t27, true), (t36, true), (.bool, true)], false⟩
noncomputable def i_ClientHear (x : (Int × Int × Bool × (Int × Int × Int × List UInt8) × Int) ×
  (Int × Int × Int × Int × Int × Int × Int × Bool × List (Int × List UInt8) × List UInt8) × Int) : Option ((Int × Int × Bool × (Int × Int × Int × List UInt8) × Int) ×
  (Int × Int × (Int × Int × Int × List UInt8) × (Int × Int × Int × List UInt8 × Int × Int) × Int × Int) × Bool) :=
  (i_ClientOk x.fst).bind fun x_1 =>
  bif !x_1 then some ((0, 0, false, (0, 0, 0, []), 0), (0, 0, (0, 0, 0, []), (0, 0, 0, [], 0, 0), 0, 0), false)
  else
    (bif !!x.fst.snd.snd.fst then (i_MsgOk x.snd.fst).bind fun x => some !x else some true).bind fun x_2 =>
      (bif !x_2 then some !decide (x.snd.fst.fst = 7) else some true).bind fun x_3 =>
        (bif !x_3 then (i_Client_address x.fst).bind fun x_4 => some !decide (x.snd.fst.snd.snd.fst = x_4) else some true).bind
          fun x_4 =>
          (bif !x_4 then some !decide (x.snd.fst.snd.snd.snd.snd.fst = x.fst.snd.fst) else some true).bind fun x_5 =>
            (bif !x_5 then (i_isNow x.snd.snd).bind fun x => some !x else some true).bind fun x_6 =>
              bif x_6 then some (x.fst, (0, 0, (0, 0, 0, []), (0, 0, 0, [], 0, 0), 0, 0), false)
              else
                (i_ReadAnswer x.snd.fst.snd.snd.snd.snd.snd.snd.snd.snd.snd).bind fun x_7 =>
                  some
                    ((x.fst.fst, x.fst.snd.fst, false, (0, 0, 0, []), 0),
                      (x.fst.fst, x.fst.snd.fst, x.fst.snd.snd.snd.fst, x_7.fst, x.fst.snd.snd.snd.snd, x.snd.snd),
                      true)
theorem i_ClientHear_eq (x) : fnK ⟨tabT tyl, ftab [(13, ⟨s13, i_ClientOk⟩), (14, ⟨s14, i_MsgOk⟩), (15, ⟨s15, i_Client_address⟩), (16, ⟨s16, i_isNow⟩), (17, ⟨s17, i_ReadAnswer⟩)]⟩ (C0) Try.f6 s6 x = i_ClientHear x := by kernel_rfl
theorem c6 : FnOk Try.prog 6 ⟨s6, i_ClientHear⟩ := fn_of mix_ok rfl tyl_ok (fl := [(13, ⟨s13, i_ClientOk⟩), (14, ⟨s14, i_MsgOk⟩), (15, ⟨s15, i_Client_address⟩), (16, ⟨s16, i_isNow⟩), (17, ⟨s17, i_ReadAnswer⟩)]) ⟨c13, c14, c15, c16, c17, trivial⟩ Try.func6 rfl rfl cuts0 i_ClientHear_eq
/-- impl.ClientCall -/
def s8 : Sig := ⟨[.ro t27, .ro t25, .ro (.int .i64)], [(t27, true), (.bool, true)], false⟩
noncomputable def i_ClientCall (x : (Int × Int × Bool × (Int × Int × Int × List UInt8) × Int) × (Int × Int × Int × List UInt8) × Int) : Option ((Int × Int × Bool × (Int × Int × Int × List UInt8) × Int) × Bool) :=
  (i_ClientOk x.fst).bind fun x_1 =>
  bif !x_1 then some ((0, 0, false, (0, 0, 0, []), 0), false)
  else
    (bif !x.fst.snd.snd.fst then (i_OpOk x.snd.fst).bind fun x => some !x else some true).bind fun x_2 =>
      (bif !x_2 then some (decide (x.fst.snd.fst = 1000000)) else some true).bind fun x_3 =>
        (bif !x_3 then (i_isNow x.snd.snd).bind fun x => some !x else some true).bind fun x_4 =>
          bif x_4 then some (x.fst, false)
          else some ((x.fst.fst, IntKind.i64.wrap (x.fst.snd.fst + 1), true, x.snd.fst, x.snd.snd), true)
theorem i_ClientCall_eq (x) : fnK ⟨tabT tyl, ftab [(13, ⟨s13, i_ClientOk⟩), (16, ⟨s16, i_isNow⟩), (20, ⟨s20, i_OpOk⟩)]⟩ (C0) Try.f8 s8 x = i_ClientCall x := by kernel_rfl
theorem c8 : FnOk Try.prog 8 ⟨s8, i_ClientCall⟩ := fn_of mix_ok rfl tyl_ok (fl := [(13, ⟨s13, i_ClientOk⟩), (16, ⟨s16, i_isNow⟩), (20, ⟨s20, i_OpOk⟩)]) ⟨c13, c16, c20, trivial⟩ Try.func8 rfl rfl cuts0 i_ClientCall_eq
/-- laws.FnClient -/
def s3 : Sig := ⟨[.ro t22], [(.bool, true)], false⟩
noncomputable def w_FnClient (x : List Int) : Option (Bool) :=
  (w_big x).bind fun x_1 =>
  bif x_1 then some true
  else
    (s_DrawClientHear x).bind fun x =>
      (i_ClientHear (x.fst, x.snd.fst, x.snd.snd)).bind fun x_2 =>
        bif !x_2.snd.snd then
          (bif
                  decide (x_2.snd.fst.fst = 0) &&
                    (decide (x_2.snd.fst.snd.fst = 0) &&
                      (decide (x_2.snd.fst.snd.snd.fst.fst = 0) &&
                          (decide (x_2.snd.fst.snd.snd.fst.snd.fst = 0) &&
                            (decide (x_2.snd.fst.snd.snd.fst.snd.snd.fst = 0) &&
                              decide (x_2.snd.fst.snd.snd.fst.snd.snd.snd = []))) &&
                        (decide (x_2.snd.fst.snd.snd.snd.fst.fst = 0) &&
                            (decide (x_2.snd.fst.snd.snd.snd.fst.snd.fst = 0) &&
                              (decide (x_2.snd.fst.snd.snd.snd.fst.snd.snd.fst = 0) &&
                                (decide (x_2.snd.fst.snd.snd.snd.fst.snd.snd.snd.fst = []) &&
                                  (decide (x_2.snd.fst.snd.snd.snd.fst.snd.snd.snd.snd.fst = 0) &&
                                    decide (x_2.snd.fst.snd.snd.snd.fst.snd.snd.snd.snd.snd = 0))))) &&
                          (decide (x_2.snd.fst.snd.snd.snd.snd.fst = 0) &&
                            decide (x_2.snd.fst.snd.snd.snd.snd.snd = 0))))) then
                (s_ClientOk x.fst).bind fun x_3 =>
                  (bif !!x_3 then
                        some
                          (decide (x_2.fst.fst = x.fst.fst) &&
                            (decide (x_2.fst.snd.fst = x.fst.snd.fst) &&
                              (x_2.fst.snd.snd.fst == x.fst.snd.snd.fst &&
                                (decide (x_2.fst.snd.snd.snd.fst.fst = x.fst.snd.snd.snd.fst.fst) &&
                                    (decide (x_2.fst.snd.snd.snd.fst.snd.fst = x.fst.snd.snd.snd.fst.snd.fst) &&
                                      (decide
                                          (x_2.fst.snd.snd.snd.fst.snd.snd.fst = x.fst.snd.snd.snd.fst.snd.snd.fst) &&
                                        decide
                                          (x_2.fst.snd.snd.snd.fst.snd.snd.snd = x.fst.snd.snd.snd.fst.snd.snd.snd))) &&
                                  decide (x_2.fst.snd.snd.snd.snd = x.fst.snd.snd.snd.snd)))))
                      else some true).bind
                    fun x => some x
              else some false).bind
            fun x => some x
        else
          (i_ClientHear (x_2.fst, x.snd.fst, x.snd.snd)).bind fun x_3 =>
            (i_ClientCall (x_2.fst, x_2.snd.fst.snd.snd.fst, x.snd.snd)).bind fun x_4 =>
              (i_ClientHear (x_4.fst, x.snd.fst, x.snd.snd)).bind fun x_5 =>
                (bif !x_3.snd.snd then
                      some
                        (decide (x_3.fst.fst = x_2.fst.fst) &&
                          (decide (x_3.fst.snd.fst = x_2.fst.snd.fst) &&
                            (x_3.fst.snd.snd.fst == x_2.fst.snd.snd.fst &&
                              (decide (x_3.fst.snd.snd.snd.fst.fst = x_2.fst.snd.snd.snd.fst.fst) &&
                                  (decide (x_3.fst.snd.snd.snd.fst.snd.fst = x_2.fst.snd.snd.snd.fst.snd.fst) &&
                                    (decide
                                        (x_3.fst.snd.snd.snd.fst.snd.snd.fst = x_2.fst.snd.snd.snd.fst.snd.snd.fst) &&
                                      decide
                                        (x_3.fst.snd.snd.snd.fst.snd.snd.snd = x_2.fst.snd.snd.snd.fst.snd.snd.snd))) &&
                                decide (x_3.fst.snd.snd.snd.snd = x_2.fst.snd.snd.snd.snd)))))
                    else some false).bind
                  fun x_6 =>
                  (bif x_6 then some !x_2.fst.snd.snd.fst else some false).bind fun x_7 =>
                    (bif x_7 then some (decide (x_2.snd.fst.snd.fst = x.fst.snd.fst)) else some false).bind fun x_8 =>
                      (bif x_8 then
                            some
                              (decide (x_2.snd.fst.snd.snd.fst.fst = x.fst.snd.snd.snd.fst.fst) &&
                                (decide (x_2.snd.fst.snd.snd.fst.snd.fst = x.fst.snd.snd.snd.fst.snd.fst) &&
                                  (decide (x_2.snd.fst.snd.snd.fst.snd.snd.fst = x.fst.snd.snd.snd.fst.snd.snd.fst) &&
                                    decide (x_2.snd.fst.snd.snd.fst.snd.snd.snd = x.fst.snd.snd.snd.fst.snd.snd.snd))))
                          else some false).bind
                        fun x_9 =>
                        (bif x_9 then some (decide (x_2.snd.fst.snd.snd.snd.snd.fst = x.fst.snd.snd.snd.snd))
                            else some false).bind
                          fun x_10 =>
                          (bif x_10 then some (decide (x_2.snd.fst.snd.snd.snd.snd.snd = x.snd.snd))
                              else some false).bind
                            fun x_11 =>
                            (bif x_11 then some (x_4.snd == decide (x.fst.snd.fst < 1000000)) else some false).bind
                              fun x =>
                              (bif x then (bif !!x_4.snd then some !x_5.snd.snd else some true).bind fun x => some x
                                  else some false).bind
                                fun x => some x
theorem w_FnClient_eq (x) : fnK ⟨tabT tyl, ftab [(4, ⟨s4, w_big⟩), (5, ⟨s5, s_DrawClientHear⟩), (6, ⟨s6, i_ClientHear⟩), (7, ⟨s7, s_ClientOk⟩), (8, ⟨s8, i_ClientCall⟩)]⟩ (C0) Try.f3 s3 x = w_FnClient x := by kernel_rfl
theorem c3 : FnOk Try.prog 3 ⟨s3, w_FnClient⟩ := fn_of mix_ok rfl tyl_ok (fl := [(4, ⟨s4, w_big⟩), (5, ⟨s5, s_DrawClientHear⟩), (6, ⟨s6, i_ClientHear⟩), (7, ⟨s7, s_ClientOk⟩), (8, ⟨s8, i_ClientCall⟩)]) ⟨c4, c5, c6, c7, c8, trivial⟩ Try.func3 rfl rfl cuts0 w_FnClient_eq
end Go.Proofs.Ytcdncdbghghnfaa

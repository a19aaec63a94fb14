/- The types and the functions that the laws reach: what each computes, and that it computes it. Printed by a program of this session (mk2.py). -/
import Derived.Test.YtopeacfbcdoljaaVC
namespace Go.Proofs.Ytopeacfbcdoljaa
open Go Go.Proofs.Ytopeacfbcdoljaa.V
set_option maxRecDepth 100000
def t7 : Ty := .st (.pair (.int .i64) (.pair (.int .i64) (.pair .bool (.int .u8))))
def t8 : Ty := .st (.pair (.int .i64) (.pair (.int .i64) (.pair .bool (.int .u8))))
def t22 : Ty := .st (.pair (.int .i64) (.pair (.int .i64) (.pair (.int .i64) .str)))
def t23 : Ty := .st (.pair (.int .i64) (.pair (.int .i64) (.pair (.int .i64) .str)))
def t24 : Ty := .st (.pair (.int .i64) (.pair (.int .i64) (.pair .bool (.pair t23 (.int .i64)))))
def t25 : Ty := .st (.pair (.int .i64) (.pair (.int .i64) (.pair .bool (.pair t23 (.int .i64)))))
def t28 : Ty := .st (.pair (.int .i64) (.pair (.int .i64) (.pair (.int .i64) .str)))
def t29 : Ty := .st (.pair (.int .i64) (.pair (.int .i64) (.pair .bool (.pair t28 (.int .i64)))))
def t30 : Ty := .st (.pair (.int .i64) (.pair (.int .i64) (.pair .bool (.pair t28 (.int .i64)))))
def t100 : Ty := .st (.pair (.int .i64) .str)
def t40 : Ty := .st (.pair (.int .i64) (.pair (.int .i64) (.pair (.int .i64) (.pair (.int .i64) (.pair (.int .i64) (.pair (.int .i64) (.pair (.int .i64) (.pair .bool (.pair (.sl 100 t100) .str)))))))))
def t41 : Ty := .st (.pair (.int .i64) (.pair (.int .i64) (.pair (.int .i64) (.pair (.int .i64) (.pair (.int .i64) (.pair (.int .i64) (.pair (.int .i64) (.pair .bool (.pair (.sl 100 t100) .str)))))))))
def t102 : Ty := .st (.pair (.int .i64) .str)
def t48 : Ty := .st (.pair (.int .i64) (.pair (.int .i64) (.pair (.int .i64) (.pair (.int .i64) (.pair (.int .i64) (.pair (.int .i64) (.pair (.int .i64) (.pair .bool (.pair (.sl 102 t102) .str)))))))))
def t49 : Ty := .st (.pair (.int .i64) (.pair (.int .i64) (.pair (.int .i64) (.pair (.int .i64) (.pair (.int .i64) (.pair (.int .i64) (.pair (.int .i64) (.pair .bool (.pair (.sl 102 t102) .str)))))))))
def t51 : Ty := .st (.pair (.int .i64) (.pair (.int .i64) (.pair (.int .i64) (.pair .str (.pair (.int .i64) (.int .i64))))))
def t52 : Ty := .st (.pair (.int .i64) (.pair (.int .i64) (.pair (.int .i64) (.pair .str (.pair (.int .i64) (.int .i64))))))
def t53 : Ty := .st (.pair (.int .i64) (.pair (.int .i64) (.pair t28 (.pair t52 (.pair (.int .i64) (.int .i64))))))
def t54 : Ty := .st (.pair (.int .i64) (.pair (.int .i64) (.pair t28 (.pair t52 (.pair (.int .i64) (.int .i64))))))
def t60 : Ty := .sl 3 (.int .i64)
def t61 : Ty := .st (.pair (.int .i64) (.pair (.int .i64) (.pair (.int .i64) (.pair (.int .i64) (.pair (.int .i64) (.pair (.int .i64) (.pair (.int .i64) (.pair (.int .i64) (.pair (.sl 102 t102) (.pair (.int .i64) (.pair t60 (.pair t60 t60))))))))))))
def t62 : Ty := .st (.pair (.int .i64) (.pair (.int .i64) (.pair (.int .i64) (.pair (.int .i64) (.pair (.int .i64) (.pair (.int .i64) (.pair (.int .i64) (.pair (.int .i64) (.pair (.sl 102 t102) (.pair (.int .i64) (.pair t60 (.pair t60 t60))))))))))))
def t64 : Ty := .st (.pair (.int .i64) (.pair (.int .i64) (.pair (.int .i64) (.pair (.int .i64) (.pair (.int .i64) (.pair (.int .i64) (.pair (.int .i64) (.pair (.int .i64) (.pair (.sl 100 t100) (.pair (.int .i64) (.pair t60 (.pair t60 t60))))))))))))
def t65 : Ty := .st (.pair (.int .i64) (.pair (.int .i64) (.pair (.int .i64) (.pair (.int .i64) (.pair (.int .i64) (.pair (.int .i64) (.pair (.int .i64) (.pair (.int .i64) (.pair (.sl 100 t100) (.pair (.int .i64) (.pair t60 (.pair t60 t60))))))))))))
def t97 : Ty := .sl 5 (.int .u8)
def t99 : Ty := .st (.pair (.int .i64) .str)
def t113 : Ty := .st (.pair .str .bool)
def t114 : Ty := .st (.pair .str .bool)
def t116 : Ty := .st (.pair (.int .i64) (.pair (.int .i64) (.pair (.int .i64) (.pair (.int .i64) (.sl 100 t100)))))
def t117 : Ty := .st (.pair (.int .i64) (.pair (.int .i64) (.pair (.int .i64) (.pair (.int .i64) (.sl 100 t100)))))
def tyl : List (Option Ty) := [none, none, some (.int .i64), some (.int .i64), some .bool, some (.int .u8), some (.int .u8), some t7, some t8, some .str, some .str, some .str, some (.int .u64), none, none, none, none, none, none, none, none, some (.int .i32), some t22, some t23, some t24, some t25, none, none, some t28, some t29, some t30, none, none, none, none, none, none, none, none, some (.sl 100 t100), some t40, some t41, none, none, none, none, none, some (.sl 102 t102), some t48, some t49, none, some t51, some t52, some t53, some t54, none, none, none, none, none, some t60, some t61, some t62, none, some t64, some t65, some (.sl 41 t41), none, none, none, none, none, none, none, none, none, none, none, none, none, none, none, none, none, none, none, none, none, none, none, none, none, none, none, none, none, none, some t97, none, some t99, some t100, none, some t102, none, none, none, none, none, none, none, none, none, none, some t113, some t114, none, some t116, some t117, none, none, none, none, none, none, none, none, none, none, none, none, none, some (.int .u64), none, none, none, none, none, none, none, none, none, none, none, some (.int .u32), some (.int .u8), some (.int .u8), none, none, some (.int .i32), some (.int .i32)]
theorem mix_ok : Try.prog.follows .mixedOrders = true := by kernel_rfl
theorem tyl_ok : tabB Try.prog 12 tyl 0 = true := by kernel_rfl
/-- laws.szOp -/
def s12 : Sig := ⟨[.ro t23, .ro (.int .i64)], [((.int .i64), true)]⟩
noncomputable def w_szOp (x : (Int × Int × Int × List UInt8) × Int) : Option (Int) :=
  bif decide (IntKind.i64.wrap (x.snd - (↑(List.length x.fst.snd.snd.snd) : Int)) < 0) then some (-1)
else some (IntKind.i64.wrap (x.snd - (↑(List.length x.fst.snd.snd.snd) : Int)))
theorem w_szOp_eq (x) : fnK ⟨tabT tyl, ftab []⟩ (C0) Try.f12 s12 x = w_szOp x := by kernel_rfl
theorem c12 : FnOk Try.prog 12 ⟨s12, w_szOp⟩ := fn_of mix_ok rfl tyl_ok (fl := []) trivial Try.func12 rfl rfl cuts0 w_szOp_eq
/-- laws.szClient -/
def s8 : Sig := ⟨[.ro t25, .ro (.int .i64)], [((.int .i64), true)]⟩
noncomputable def w_szClient (x : (Int × Int × Bool × (Int × Int × Int × List UInt8) × Int) × Int) : Option (Int) :=
  (w_szOp (x.fst.snd.snd.snd.fst, x.snd)).bind fun x => bif decide (x < 0) then some (-1) else some x
theorem w_szClient_eq (x) : fnK ⟨tabT tyl, ftab [(12, ⟨s12, w_szOp⟩)]⟩ (C0) Try.f8 s8 x = w_szClient x := by kernel_rfl
theorem c8 : FnOk Try.prog 8 ⟨s8, w_szClient⟩ := fn_of mix_ok rfl tyl_ok (fl := [(12, ⟨s12, w_szOp⟩)]) ⟨c12, trivial⟩ Try.func8 rfl rfl cuts0 w_szClient_eq
/-- laws.toOp -/
def s14 : Sig := ⟨[.ro t23], [(t28, true)]⟩
noncomputable def w_toOp (x : Int × Int × Int × List UInt8) : Option (Int × Int × Int × List UInt8) :=
  some (x.fst, x.snd.fst, x.snd.snd.fst, x.snd.snd.snd)
theorem w_toOp_eq (x) : fnK ⟨tabT tyl, ftab []⟩ (C0) Try.f14 s14 x = w_toOp x := by kernel_rfl
theorem c14 : FnOk Try.prog 14 ⟨s14, w_toOp⟩ := fn_of mix_ok rfl tyl_ok (fl := []) trivial Try.func14 rfl rfl cuts0 w_toOp_eq
/-- laws.toClient -/
def s10 : Sig := ⟨[.ro t25], [(t30, true)]⟩
noncomputable def w_toClient (x : Int × Int × Bool × (Int × Int × Int × List UInt8) × Int) : Option (Int × Int × Bool × (Int × Int × Int × List UInt8) × Int) :=
  (w_toOp x.snd.snd.snd.fst).bind fun x_1 => some (x.fst, x.snd.fst, x.snd.snd.fst, x_1, x.snd.snd.snd.snd)
theorem w_toClient_eq (x) : fnK ⟨tabT tyl, ftab [(14, ⟨s14, w_toOp⟩)]⟩ (C0) Try.f10 s10 x = w_toClient x := by kernel_rfl
theorem c10 : FnOk Try.prog 10 ⟨s10, w_toClient⟩ := fn_of mix_ok rfl tyl_ok (fl := [(14, ⟨s14, w_toOp⟩)]) ⟨c14, trivial⟩ Try.func10 rfl rfl cuts0 w_toClient_eq
/-- laws.eqOp -/
def s42 : Sig := ⟨[.ro t28, .ro t28], [(.bool, true)]⟩
noncomputable def w_eqOp (x : (Int × Int × Int × List UInt8) × Int × Int × Int × List UInt8) : Option (Bool) :=
  bif !decide (x.fst.fst = x.snd.fst) then some false
else
  bif !decide (x.fst.snd.fst = x.snd.snd.fst) then some false
  else
    bif !decide (x.fst.snd.snd.fst = x.snd.snd.snd.fst) then some false
    else bif !decide (x.fst.snd.snd.snd = x.snd.snd.snd.snd) then some false else some true
theorem w_eqOp_eq (x) : fnK ⟨tabT tyl, ftab []⟩ (C0) Try.f42 s42 x = w_eqOp x := by kernel_rfl
theorem c42 : FnOk Try.prog 42 ⟨s42, w_eqOp⟩ := fn_of mix_ok rfl tyl_ok (fl := []) trivial Try.func42 rfl rfl cuts0 w_eqOp_eq
/-- laws.eqClient -/
def s16 : Sig := ⟨[.ro t30, .ro t30], [(.bool, true)]⟩
noncomputable def w_eqClient (x : (Int × Int × Bool × (Int × Int × Int × List UInt8) × Int) × Int × Int × Bool × (Int × Int × Int × List UInt8) × Int) : Option (Bool) :=
  bif !decide (x.fst.fst = x.snd.fst) then some false
else
  bif !decide (x.fst.snd.fst = x.snd.snd.fst) then some false
  else
    bif !x.fst.snd.snd.fst == x.snd.snd.snd.fst then some false
    else
      (w_eqOp (x.fst.snd.snd.snd.fst, x.snd.snd.snd.snd.fst)).bind fun x_1 =>
        bif !x_1 then some false
        else bif !decide (x.fst.snd.snd.snd.snd = x.snd.snd.snd.snd.snd) then some false else some true
theorem w_eqClient_eq (x) : fnK ⟨tabT tyl, ftab [(42, ⟨s42, w_eqOp⟩)]⟩ (C0) Try.f16 s16 x = w_eqClient x := by kernel_rfl
theorem c16 : FnOk Try.prog 16 ⟨s16, w_eqClient⟩ := fn_of mix_ok rfl tyl_ok (fl := [(42, ⟨s42, w_eqOp⟩)]) ⟨c42, trivial⟩ Try.func16 rfl rfl cuts0 w_eqClient_eq
/-- laws.eqEntry -/
def s76 : Sig := ⟨[.ro t100, .ro t100], [(.bool, true)]⟩
noncomputable def w_eqEntry (x : (Int × List UInt8) × Int × List UInt8) : Option (Bool) :=
  bif !decide (x.fst.fst = x.snd.fst) then some false
else bif !decide (x.fst.snd = x.snd.snd) then some false else some true
theorem w_eqEntry_eq (x) : fnK ⟨tabT tyl, ftab []⟩ (C0) Try.f76 s76 x = w_eqEntry x := by kernel_rfl
theorem c76 : FnOk Try.prog 76 ⟨s76, w_eqEntry⟩ := fn_of mix_ok rfl tyl_ok (fl := []) trivial Try.func76 rfl rfl cuts0 w_eqEntry_eq
/-- laws.eqEntryS -/
def s48 : Sig := ⟨[.ro (.sl 100 t100), .ro (.sl 100 t100)], [(.bool, true)]⟩
def s48_11 : CutSig := ⟨27, [0, 1, 5], [.ro (.sl 100 t100), .ro (.sl 100 t100), .ro (.int .i64)], [(.ex 0, [], []), (.ret, [4], [(.bool, true)])]⟩
noncomputable def w_eqEntryS_L11 (go : List (Int × List UInt8) × List (Int × List UInt8) × Int → Option (PUnit ⊕ Bool)) (x : List (Int × List UInt8) × List (Int × List UInt8) × Int) : Option (PUnit ⊕ Bool) :=
  bif decide (x.snd.snd < (↑(List.length x.fst) : Int)) then
  bif decide (0 ≤ x.snd.snd) then
    x.fst[Int.toNat x.snd.snd]?.bind fun x_1 =>
      bif decide (0 ≤ x.snd.snd) then
        x.snd.fst[Int.toNat x.snd.snd]?.bind fun x_2 =>
          (w_eqEntry (x_1, x_2)).bind fun x_3 =>
            bif !x_3 then some (Sum.inr false) else go (x.fst, x.snd.fst, IntKind.i64.wrap (x.snd.snd + 1))
      else none
  else none
else some (Sum.inl ())
theorem w_eqEntryS_L11_eq (go x) : loopStep ⟨tabT tyl, ftab [(76, ⟨s76, w_eqEntry⟩)]⟩ (C0) (loopOf Try.f48 11) s48_11 go x = w_eqEntryS_L11 go x := by kernel_rfl
theorem l48_11 : CutOk Try.prog ⟨s48_11, iter w_eqEntryS_L11 FUEL⟩ (.loop (loopOf Try.f48 11)) := loop_of mix_ok rfl tyl_ok (fl := [(76, ⟨s76, w_eqEntry⟩)]) ⟨c76, trivial⟩ (C := C0) rfl (pts := []) (by kernel_rfl) trivial w_eqEntryS_L11_eq
noncomputable def w_eqEntryS (x : List (Int × List UInt8) × List (Int × List UInt8)) : Option (Bool) :=
  bif !decide ((↑(List.length x.fst) : Int) = (↑(List.length x.snd) : Int)) then some false
else (iter w_eqEntryS_L11 FUEL (x.fst, x.snd, 0)).bind fun x => sumK x (fun y => some true) fun z => some z
theorem w_eqEntryS_eq (x) : fnK ⟨tabT tyl, ftab [(76, ⟨s76, w_eqEntry⟩)]⟩ (ctab [(11, ⟨s48_11, iter w_eqEntryS_L11 FUEL⟩)]) Try.f48 s48 x = w_eqEntryS x := by kernel_rfl
theorem c48 : FnOk Try.prog 48 ⟨s48, w_eqEntryS⟩ := fn_of2 mix_ok rfl tyl_ok (fl := [(76, ⟨s76, w_eqEntry⟩)]) ⟨c76, trivial⟩ Try.func48 rfl rfl (C := ctab [(11, ⟨s48_11, iter w_eqEntryS_L11 FUEL⟩)]) (pts := [(⟨s48_11, iter w_eqEntryS_L11 FUEL⟩, .loop (loopOf Try.f48 11))]) (by kernel_rfl) ⟨l48_11, trivial⟩ w_eqEntryS_eq
/-- laws.eqMsg -/
def s19 : Sig := ⟨[.ro t41, .ro t41], [(.bool, true)]⟩
noncomputable def w_eqMsg (x : (Int × Int × Int × Int × Int × Int × Int × Bool × List (Int × List UInt8) × List UInt8) ×
  Int × Int × Int × Int × Int × Int × Int × Bool × List (Int × List UInt8) × List UInt8) : Option (Bool) :=
  bif !decide (x.fst.fst = x.snd.fst) then some false
else
  bif !decide (x.fst.snd.fst = x.snd.snd.fst) then some false
  else
    bif !decide (x.fst.snd.snd.fst = x.snd.snd.snd.fst) then some false
    else
      bif !decide (x.fst.snd.snd.snd.fst = x.snd.snd.snd.snd.fst) then some false
      else
        bif !decide (x.fst.snd.snd.snd.snd.fst = x.snd.snd.snd.snd.snd.fst) then some false
        else
          bif !decide (x.fst.snd.snd.snd.snd.snd.fst = x.snd.snd.snd.snd.snd.snd.fst) then some false
          else
            bif !decide (x.fst.snd.snd.snd.snd.snd.snd.fst = x.snd.snd.snd.snd.snd.snd.snd.fst) then some false
            else
              bif !x.fst.snd.snd.snd.snd.snd.snd.snd.fst == x.snd.snd.snd.snd.snd.snd.snd.snd.fst then some false
              else
                (w_eqEntryS (x.fst.snd.snd.snd.snd.snd.snd.snd.snd.fst, x.snd.snd.snd.snd.snd.snd.snd.snd.snd.fst)).bind
                  fun x_1 =>
                  bif !x_1 then some false
                  else
                    bif
                        !decide
                            (x.fst.snd.snd.snd.snd.snd.snd.snd.snd.snd = x.snd.snd.snd.snd.snd.snd.snd.snd.snd.snd) then
                      some false
                    else some true
theorem w_eqMsg_eq (x) : fnK ⟨tabT tyl, ftab [(48, ⟨s48, w_eqEntryS⟩)]⟩ (C0) Try.f19 s19 x = w_eqMsg x := by kernel_rfl
theorem c19 : FnOk Try.prog 19 ⟨s19, w_eqMsg⟩ := fn_of mix_ok rfl tyl_ok (fl := [(48, ⟨s48, w_eqEntryS⟩)]) ⟨c48, trivial⟩ Try.func19 rfl rfl cuts0 w_eqMsg_eq
/-- laws.szEntry -/
def s77 : Sig := ⟨[.ro t102, .ro (.int .i64)], [((.int .i64), true)]⟩
noncomputable def w_szEntry (x : (Int × List UInt8) × Int) : Option (Int) :=
  bif decide (IntKind.i64.wrap (x.snd - (↑(List.length x.fst.snd) : Int)) < 0) then some (-1)
else some (IntKind.i64.wrap (x.snd - (↑(List.length x.fst.snd) : Int)))
theorem w_szEntry_eq (x) : fnK ⟨tabT tyl, ftab []⟩ (C0) Try.f77 s77 x = w_szEntry x := by kernel_rfl
theorem c77 : FnOk Try.prog 77 ⟨s77, w_szEntry⟩ := fn_of mix_ok rfl tyl_ok (fl := []) trivial Try.func77 rfl rfl cuts0 w_szEntry_eq
/-- laws.szEntryS -/
def s51 : Sig := ⟨[.ro (.sl 102 t102), .ro (.int .i64)], [((.int .i64), true)]⟩
def s51_13 : CutSig := ⟨27, [0, 1, 5], [.ro (.sl 102 t102), .ro (.int .i64), .ro (.int .i64)], [(.ex 0, [1], [((.int .i64), true)]), (.ret, [4], [((.int .i64), true)])]⟩
noncomputable def w_szEntryS_L13 (go : List (Int × List UInt8) × Int × Int → Option (Int ⊕ Int)) (x : List (Int × List UInt8) × Int × Int) : Option (Int ⊕ Int) :=
  bif decide (x.snd.snd < (↑(List.length x.fst) : Int)) then
  bif decide (0 ≤ x.snd.snd) then
    x.fst[Int.toNat x.snd.snd]?.bind fun x_1 =>
      (w_szEntry (x_1, x.snd.fst)).bind fun x_2 =>
        bif decide (x_2 < 0) then some (Sum.inr (-1)) else go (x.fst, x_2, IntKind.i64.wrap (x.snd.snd + 1))
  else none
else some (Sum.inl x.snd.fst)
theorem w_szEntryS_L13_eq (go x) : loopStep ⟨tabT tyl, ftab [(77, ⟨s77, w_szEntry⟩)]⟩ (C0) (loopOf Try.f51 13) s51_13 go x = w_szEntryS_L13 go x := by kernel_rfl
theorem l51_13 : CutOk Try.prog ⟨s51_13, iter w_szEntryS_L13 FUEL⟩ (.loop (loopOf Try.f51 13)) := loop_of mix_ok rfl tyl_ok (fl := [(77, ⟨s77, w_szEntry⟩)]) ⟨c77, trivial⟩ (C := C0) rfl (pts := []) (by kernel_rfl) trivial w_szEntryS_L13_eq
noncomputable def w_szEntryS (x : List (Int × List UInt8) × Int) : Option (Int) :=
  bif decide (IntKind.i64.wrap (x.snd - (↑(List.length x.fst) : Int)) < 0) then some (-1)
else
  (iter w_szEntryS_L13 FUEL (x.fst, IntKind.i64.wrap (x.snd - (↑(List.length x.fst) : Int)), 0)).bind fun x =>
    sumK x (fun y => some y) fun z => some z
theorem w_szEntryS_eq (x) : fnK ⟨tabT tyl, ftab [(77, ⟨s77, w_szEntry⟩)]⟩ (ctab [(13, ⟨s51_13, iter w_szEntryS_L13 FUEL⟩)]) Try.f51 s51 x = w_szEntryS x := by kernel_rfl
theorem c51 : FnOk Try.prog 51 ⟨s51, w_szEntryS⟩ := fn_of2 mix_ok rfl tyl_ok (fl := [(77, ⟨s77, w_szEntry⟩)]) ⟨c77, trivial⟩ Try.func51 rfl rfl (C := ctab [(13, ⟨s51_13, iter w_szEntryS_L13 FUEL⟩)]) (pts := [(⟨s51_13, iter w_szEntryS_L13 FUEL⟩, .loop (loopOf Try.f51 13))]) (by kernel_rfl) ⟨l51_13, trivial⟩ w_szEntryS_eq
/-- laws.szMsg -/
def s22 : Sig := ⟨[.ro t49, .ro (.int .i64)], [((.int .i64), true)]⟩
noncomputable def w_szMsg (x : (Int × Int × Int × Int × Int × Int × Int × Bool × List (Int × List UInt8) × List UInt8) × Int) : Option (Int) :=
  (w_szEntryS (x.fst.snd.snd.snd.snd.snd.snd.snd.snd.fst, x.snd)).bind fun x_1 =>
  bif decide (x_1 < 0) then some (-1)
  else
    bif decide (IntKind.i64.wrap (x_1 - (↑(List.length x.fst.snd.snd.snd.snd.snd.snd.snd.snd.snd) : Int)) < 0) then
      some (-1)
    else some (IntKind.i64.wrap (x_1 - (↑(List.length x.fst.snd.snd.snd.snd.snd.snd.snd.snd.snd) : Int)))
theorem w_szMsg_eq (x) : fnK ⟨tabT tyl, ftab [(51, ⟨s51, w_szEntryS⟩)]⟩ (C0) Try.f22 s22 x = w_szMsg x := by kernel_rfl
theorem c22 : FnOk Try.prog 22 ⟨s22, w_szMsg⟩ := fn_of mix_ok rfl tyl_ok (fl := [(51, ⟨s51, w_szEntryS⟩)]) ⟨c51, trivial⟩ Try.func22 rfl rfl cuts0 w_szMsg_eq
/-- spec.l1In -/
def s37 : Sig := ⟨[.ro (.int .i64), .ro (.int .i64), .ro (.int .i64)], [(.bool, true)]⟩
noncomputable def s_l1In (x : Int × Int × Int) : Option (Bool) :=
  (bif decide (x.snd.fst ≤ x.fst) then some (decide (x.fst ≤ x.snd.snd)) else some false).bind fun x => some x
theorem s_l1In_eq (x) : fnK ⟨tabT tyl, ftab []⟩ (C0) Try.f37 s37 x = s_l1In x := by kernel_rfl
theorem c37 : FnOk Try.prog 37 ⟨s37, s_l1In⟩ := fn_of mix_ok rfl tyl_ok (fl := []) trivial Try.func37 rfl rfl cuts0 s_l1In_eq
/-- spec.OpOk -/
def s38 : Sig := ⟨[.ro t28], [(.bool, true)]⟩
noncomputable def s_OpOk (x : Int × Int × Int × List UInt8) : Option (Bool) :=
  (s_l1In (x.snd.snd.fst, 1, 6)).bind fun x_1 =>
  (s_l1In (x.snd.fst, 0, 2)).bind fun x_2 =>
    bif decide (x.fst = 1) then
      (bif decide ((↑(List.length x.snd.snd.snd) : Int) ≤ 250) then some (decide (x.snd.snd.fst = 0))
          else some false).bind
        fun x_3 => (bif x_3 then some (decide (x.snd.fst = 0)) else some false).bind fun x => some x
    else
      bif decide (x.fst = 2) then
        (bif x_1 then some x_2 else some false).bind fun x_3 =>
          (bif x_3 then some (decide (x.snd.snd.snd = [])) else some false).bind fun x => some x
      else
        bif decide (x.fst = 3) then
          bif decide (x.fst = 3) then
            (bif x_1 then some (decide (x.snd.fst = 0)) else some false).bind fun x_3 =>
              (bif x_3 then some (decide (x.snd.snd.snd = [])) else some false).bind fun x => some x
          else
            bif decide (x.fst = 5) then
              (bif decide (x.snd.snd.snd = []) then
                    (bif x_1 then some (decide (x.snd.fst = 0)) else some false).bind fun x_3 =>
                      (bif !x_3 then (bif decide (x.snd.snd.fst = 0) then some x_2 else some false).bind fun x => some x
                          else some true).bind
                        fun x => some x
                  else some false).bind
                fun x => some x
            else some false
        else
          bif decide (x.fst = 4) then
            (bif x_1 then some (decide (x.snd.fst = 0)) else some false).bind fun x_3 =>
              (bif x_3 then some (decide (x.snd.snd.snd = [])) else some false).bind fun x => some x
          else
            bif decide (x.fst = 5) then
              (bif decide (x.snd.snd.snd = []) then
                    (bif x_1 then some (decide (x.snd.fst = 0)) else some false).bind fun x_3 =>
                      (bif !x_3 then (bif decide (x.snd.snd.fst = 0) then some x_2 else some false).bind fun x => some x
                          else some true).bind
                        fun x => some x
                  else some false).bind
                fun x => some x
            else some false
theorem s_OpOk_eq (x) : fnK ⟨tabT tyl, ftab [(37, ⟨s37, s_l1In⟩)]⟩ (C0) Try.f38 s38 x = s_OpOk x := by kernel_rfl
theorem c38 : FnOk Try.prog 38 ⟨s38, s_OpOk⟩ := fn_of mix_ok rfl tyl_ok (fl := [(37, ⟨s37, s_l1In⟩)]) ⟨c37, trivial⟩ Try.func38 rfl rfl cuts0 s_OpOk_eq
/-- spec.ClientOk -/
def s9 : Sig := ⟨[.ro t30], [(.bool, true)]⟩
noncomputable def s_ClientOk (x : Int × Int × Bool × (Int × Int × Int × List UInt8) × Int) : Option (Bool) :=
  (s_l1In (x.fst, 1, 6)).bind fun x_1 =>
  (bif !!x_1 then (s_l1In (x.snd.fst, 0, 1000000)).bind fun x => some !x else some true).bind fun x_2 =>
    (bif !x_2 then (s_l1In (x.snd.snd.snd.snd, 0, 1000000)).bind fun x => some !x else some true).bind fun x_3 =>
      bif x_3 then some false
      else
        bif x.snd.snd.fst then
          (bif decide (1 ≤ x.snd.fst) then (s_OpOk x.snd.snd.snd.fst).bind fun x => some x else some false).bind fun x =>
            some x
        else
          (bif
                  decide (x.snd.snd.snd.fst.fst = 0) &&
                    (decide (x.snd.snd.snd.fst.snd.fst = 0) &&
                      (decide (x.snd.snd.snd.fst.snd.snd.fst = 0) && decide (x.snd.snd.snd.fst.snd.snd.snd = []))) then
                some (decide (x.snd.snd.snd.snd = 0))
              else some false).bind
            fun x => some x
theorem s_ClientOk_eq (x) : fnK ⟨tabT tyl, ftab [(37, ⟨s37, s_l1In⟩), (38, ⟨s38, s_OpOk⟩)]⟩ (C0) Try.f9 s9 x = s_ClientOk x := by kernel_rfl
theorem c9 : FnOk Try.prog 9 ⟨s9, s_ClientOk⟩ := fn_of mix_ok rfl tyl_ok (fl := [(37, ⟨s37, s_l1In⟩), (38, ⟨s38, s_OpOk⟩)]) ⟨c37, c38, trivial⟩ Try.func9 rfl rfl cuts0 s_ClientOk_eq
/-- spec.l15Server -/
def s43 : Sig := ⟨[.ro (.int .i64)], [(.bool, true)]⟩
noncomputable def s_l15Server (x : Int) : Option (Bool) :=
  (s_l1In (x, 0, 4)).bind fun x => some x
theorem s_l15Server_eq (x) : fnK ⟨tabT tyl, ftab [(37, ⟨s37, s_l1In⟩)]⟩ (C0) Try.f43 s43 x = s_l15Server x := by kernel_rfl
theorem c43 : FnOk Try.prog 43 ⟨s43, s_l15Server⟩ := fn_of mix_ok rfl tyl_ok (fl := [(37, ⟨s37, s_l1In⟩)]) ⟨c37, trivial⟩ Try.func43 rfl rfl cuts0 s_l15Server_eq
/-- spec.Var -/
def s74 : Sig := ⟨[.ro (.int .i64)], [(.str, true)]⟩
def s74_11 : CutSig := ⟨25, [0, 3], [.ro (.int .i64), .own t97], [(.ex 0, [0, 3], [((.int .i64), true), (t97, true)])]⟩
noncomputable def s_Var_L11 (go : Int × List Int → Option (Int × List Int)) (x : Int × List Int) : Option (Int × List Int) :=
  bif decide (128 ≤ x.fst) then
  bif
      true && (3 == 0 || 3 == 1 || [3, 2].contains 3 || [].contains 3) &&
        decide
          (List.length x.snd +
              ((List.replicate 1 0).set 0 (IntKind.u8.wrap (IntKind.i64.wrap (128 + Int.tmod x.fst 128)))).length ≤
            4294967296) then
    go
      (IntKind.i64.wrap (Int.tdiv x.fst 128),
        x.snd ++ (List.replicate 1 0).set 0 (IntKind.u8.wrap (IntKind.i64.wrap (128 + Int.tmod x.fst 128))))
  else none
else some (x.fst, x.snd)
theorem s_Var_L11_eq (go x) : loopStep ⟨tabT tyl, ftab []⟩ (C0) (loopOf Try.f74 11) s74_11 go x = s_Var_L11 go x := by kernel_rfl
theorem l74_11 : CutOk Try.prog ⟨s74_11, iter s_Var_L11 FUEL⟩ (.loop (loopOf Try.f74 11)) := loop_of mix_ok rfl tyl_ok (fl := []) trivial (C := C0) rfl (pts := []) (by kernel_rfl) trivial s_Var_L11_eq
noncomputable def s_Var (x : Int) : Option (List UInt8) :=
  (s_l1In (x, 0, 562949953421311)).bind fun x_1 =>
  bif !x_1 then some []
  else
    (iter s_Var_L11 FUEL (x, List.replicate 0 0)).bind fun x =>
      bif
          true && (4 == 0 || 4 == 1 || [4, 3].contains 4 || [].contains 4) &&
            decide (List.length x.snd + ((List.replicate 1 0).set 0 (IntKind.u8.wrap x.fst)).length ≤ 4294967296) then
        some (List.map (fun b => UInt8.ofNat b.toNat) (x.snd ++ (List.replicate 1 0).set 0 (IntKind.u8.wrap x.fst)))
      else none
theorem s_Var_eq (x) : fnK ⟨tabT tyl, ftab [(37, ⟨s37, s_l1In⟩)]⟩ (ctab [(11, ⟨s74_11, iter s_Var_L11 FUEL⟩)]) Try.f74 s74 x = s_Var x := by kernel_rfl
theorem c74 : FnOk Try.prog 74 ⟨s74, s_Var⟩ := fn_of2 mix_ok rfl tyl_ok (fl := [(37, ⟨s37, s_l1In⟩)]) ⟨c37, trivial⟩ Try.func74 rfl rfl (C := ctab [(11, ⟨s74_11, iter s_Var_L11 FUEL⟩)]) (pts := [(⟨s74_11, iter s_Var_L11 FUEL⟩, .loop (loopOf Try.f74 11))]) (by kernel_rfl) ⟨l74_11, trivial⟩ s_Var_eq
/-- spec.ReadVar -/
def s114 : Sig := ⟨[.ro .str], [((.int .i64), true), ((.int .i64), true)]⟩
def s114_15 : CutSig := ⟨39, [0, 4, 5, 6], [.ro .str, .ro (.int .i64), .ro (.int .i64), .ro (.int .i64)], [(.ex 2, [5], [((.int .i64), true)])]⟩
noncomputable def s_ReadVar_L15 (go : List UInt8 × Int × Int × Int → Option (Int)) (x : List UInt8 × Int × Int × Int) : Option (Int) :=
  bif decide (0 ≤ x.snd.snd.snd) then
  bif decide (0 ≤ x.snd.snd.snd) then
    x.fst[Int.toNat x.snd.snd.snd]?.bind fun x_1 =>
      go
        (x.fst, x.snd.fst,
          IntKind.i64.wrap (IntKind.i64.wrap (x.snd.snd.fst * 128) + (IntKind.i64.wrap (↑x_1.toNat : Int)).tmod 128),
          IntKind.i64.wrap (x.snd.snd.snd - 1))
  else none
else some x.snd.snd.fst
theorem s_ReadVar_L15_eq (go x) : loopStep ⟨tabT tyl, ftab []⟩ (C0) (loopOf Try.f114 15) s114_15 go x = s_ReadVar_L15 go x := by kernel_rfl
theorem l114_15 : CutOk Try.prog ⟨s114_15, iter s_ReadVar_L15 FUEL⟩ (.loop (loopOf Try.f114 15)) := loop_of mix_ok rfl tyl_ok (fl := []) trivial (C := C0) rfl (pts := []) (by kernel_rfl) trivial s_ReadVar_L15_eq
def s114_7 : CutSig := ⟨39, [0, 4], [.ro .str, .ro (.int .i64)], [(.ex 0, [], []), (.ret, [2, 3], [((.int .i64), true), ((.int .i64), true)])]⟩
noncomputable def s_ReadVar_L7 (go : List UInt8 × Int → Option (PUnit ⊕ Int × Int)) (x : List UInt8 × Int) : Option (PUnit ⊕ Int × Int) :=
  (bif decide (x.snd ≤ 7) then some (decide (x.snd ≤ (↑(List.length x.fst) : Int))) else some false).bind fun x_1 =>
  bif x_1 then
    (iter s_ReadVar_L15 FUEL (x.fst, x.snd, 0, IntKind.i64.wrap (x.snd - 1))).bind fun x_2 =>
      (s_Var x_2).bind fun x_3 =>
        bif decide (0 ≤ x.snd) && decide (x.snd ≤ (↑(List.length x.fst) : Int)) then
          bif decide (x_3 = List.take (Int.toNat x.snd) x.fst) then some (Sum.inr (x_2, x.snd))
          else go (x.fst, IntKind.i64.wrap (x.snd + 1))
        else none
  else some (Sum.inl ())
theorem s_ReadVar_L7_eq (go x) : loopStep ⟨tabT tyl, ftab [(74, ⟨s74, s_Var⟩)]⟩ (ctab [(15, ⟨s114_15, iter s_ReadVar_L15 FUEL⟩)]) (loopOf Try.f114 7) s114_7 go x = s_ReadVar_L7 go x := by kernel_rfl
theorem l114_7 : CutOk Try.prog ⟨s114_7, iter s_ReadVar_L7 FUEL⟩ (.loop (loopOf Try.f114 7)) := loop_of mix_ok rfl tyl_ok (fl := [(74, ⟨s74, s_Var⟩)]) ⟨c74, trivial⟩ (C := ctab [(15, ⟨s114_15, iter s_ReadVar_L15 FUEL⟩)]) rfl (pts := [(⟨s114_15, iter s_ReadVar_L15 FUEL⟩, .loop (loopOf Try.f114 15))]) (by kernel_rfl) ⟨l114_15, trivial⟩ s_ReadVar_L7_eq
noncomputable def s_ReadVar (x : List UInt8) : Option (Int × Int) :=
  (iter s_ReadVar_L7 FUEL (x, 1)).bind fun x => sumK x (fun y => some (0, 0)) fun z => some (z.fst, z.snd)
theorem s_ReadVar_eq (x) : fnK ⟨tabT tyl, ftab [(74, ⟨s74, s_Var⟩)]⟩ (ctab [(7, ⟨s114_7, iter s_ReadVar_L7 FUEL⟩)]) Try.f114 s114 x = s_ReadVar x := by kernel_rfl
theorem c114 : FnOk Try.prog 114 ⟨s114, s_ReadVar⟩ := fn_of2 mix_ok rfl tyl_ok (fl := [(74, ⟨s74, s_Var⟩)]) ⟨c74, trivial⟩ Try.func114 rfl rfl (C := ctab [(7, ⟨s114_7, iter s_ReadVar_L7 FUEL⟩)]) (pts := [(⟨s114_7, iter s_ReadVar_L7 FUEL⟩, .loop (loopOf Try.f114 7))]) (by kernel_rfl) ⟨l114_7, trivial⟩ s_ReadVar_eq
/-- spec.l13Vars -/
def s83 : Sig := ⟨[.ro .str, .ro (.int .i64), .ro (.int .i64)], [(t60, true), ((.int .i64), true)]⟩
def s83_9 : CutSig := ⟨42, [0, 1, 2, 8, 9], [.ro .str, .ro (.int .i64), .ro (.int .i64), .own t60, .ro (.int .i64)], [(.ex 0, [1, 8], [((.int .i64), true), (t60, true)]), (.ret, [6, 7], [(t60, true), ((.int .i64), true)])]⟩
noncomputable def s_l13Vars_L9 (go : List UInt8 × Int × Int × List Int × Int → Option (Int × List Int ⊕ List Int × Int)) (x : List UInt8 × Int × Int × List Int × Int) : Option (Int × List Int ⊕ List Int × Int) :=
  bif decide (x.snd.snd.snd.snd < x.snd.snd.fst) then
  bif decide ((↑(List.length x.fst) : Int) < x.snd.fst) then some (Sum.inr (x.snd.snd.snd.fst, -1))
  else
    bif decide (0 ≤ x.snd.fst) && decide (x.snd.fst ≤ (↑(List.length x.fst) : Int)) then
      (s_ReadVar (List.drop (Int.toNat x.snd.fst) x.fst)).bind fun x_1 =>
        bif decide (x_1.snd = 0) then some (Sum.inr (x.snd.snd.snd.fst, -1))
        else
          bif
              true && (3 == 0 || 3 == 1 || [3, 2].contains 3 || [].contains 3) &&
                decide (List.length x.snd.snd.snd.fst + ((List.replicate 1 0).set 0 x_1.fst).length ≤ 4294967296) then
            go
              (x.fst, IntKind.i64.wrap (x.snd.fst + x_1.snd), x.snd.snd.fst,
                x.snd.snd.snd.fst ++ (List.replicate 1 0).set 0 x_1.fst, IntKind.i64.wrap (x.snd.snd.snd.snd + 1))
          else none
    else none
else some (Sum.inl (x.snd.fst, x.snd.snd.snd.fst))
theorem s_l13Vars_L9_eq (go x) : loopStep ⟨tabT tyl, ftab [(114, ⟨s114, s_ReadVar⟩)]⟩ (C0) (loopOf Try.f83 9) s83_9 go x = s_l13Vars_L9 go x := by kernel_rfl
theorem l83_9 : CutOk Try.prog ⟨s83_9, iter s_l13Vars_L9 FUEL⟩ (.loop (loopOf Try.f83 9)) := loop_of mix_ok rfl tyl_ok (fl := [(114, ⟨s114, s_ReadVar⟩)]) ⟨c114, trivial⟩ (C := C0) rfl (pts := []) (by kernel_rfl) trivial s_l13Vars_L9_eq
noncomputable def s_l13Vars (x : List UInt8 × Int × Int) : Option (List Int × Int) :=
  (iter s_l13Vars_L9 FUEL (x.fst, x.snd.fst, x.snd.snd, List.replicate 0 0, 0)).bind fun x =>
  sumK x (fun y => some (y.snd, y.fst)) fun z => some (z.fst, z.snd)
theorem s_l13Vars_eq (x) : fnK ⟨tabT tyl, ftab [(114, ⟨s114, s_ReadVar⟩)]⟩ (ctab [(9, ⟨s83_9, iter s_l13Vars_L9 FUEL⟩)]) Try.f83 s83 x = s_l13Vars x := by kernel_rfl
theorem c83 : FnOk Try.prog 83 ⟨s83, s_l13Vars⟩ := fn_of2 mix_ok rfl tyl_ok (fl := [(114, ⟨s114, s_ReadVar⟩)]) ⟨c114, trivial⟩ Try.func83 rfl rfl (C := ctab [(9, ⟨s83_9, iter s_l13Vars_L9 FUEL⟩)]) (pts := [(⟨s83_9, iter s_l13Vars_L9 FUEL⟩, .loop (loopOf Try.f83 9))]) (by kernel_rfl) ⟨l83_9, trivial⟩ s_l13Vars_eq
/-- spec.AnswerOk -/
def s115 : Sig := ⟨[.ro t52], [(.bool, true)]⟩
noncomputable def s_AnswerOk (x : Int × Int × Int × List UInt8 × Int × Int) : Option (Bool) :=
  (s_l1In (x.fst, 0, 5)).bind fun x_1 =>
  (bif x_1 then (s_l1In (x.snd.fst, 0, 6)).bind fun x => some x else some false).bind fun x_2 =>
    (bif x_2 then (s_l1In (x.snd.snd.fst, 0, 4)).bind fun x => some x else some false).bind fun x_3 =>
      (bif x_3 then
            (bif !decide ((↑(List.length x.snd.snd.snd.fst) : Int) = 0) then
                  some (decide ((↑(List.length x.snd.snd.snd.fst) : Int) = 32))
                else some true).bind
              fun x => some x
          else some false).bind
        fun x_4 =>
        (bif x_4 then (s_l1In (x.snd.snd.snd.snd.fst, 0, 250)).bind fun x => some x else some false).bind fun x_5 =>
          (bif x_5 then (s_l1In (x.snd.snd.snd.snd.snd, 0, 100000)).bind fun x => some x else some false).bind fun x =>
            some x
theorem s_AnswerOk_eq (x) : fnK ⟨tabT tyl, ftab [(37, ⟨s37, s_l1In⟩)]⟩ (C0) Try.f115 s115 x = s_AnswerOk x := by kernel_rfl
theorem c115 : FnOk Try.prog 115 ⟨s115, s_AnswerOk⟩ := fn_of mix_ok rfl tyl_ok (fl := [(37, ⟨s37, s_l1In⟩)]) ⟨c37, trivial⟩ Try.func115 rfl rfl cuts0 s_AnswerOk_eq
/-- spec.ShowAnswer -/
def s84 : Sig := ⟨[.ro t52], [(.str, true)]⟩
noncomputable def s_ShowAnswer (x : Int × Int × Int × List UInt8 × Int × Int) : Option (List UInt8) :=
  (s_AnswerOk x).bind fun x_1 =>
  bif !x_1 then some []
  else
    (s_Var x.fst).bind fun x_2 =>
      (s_Var x.snd.fst).bind fun x_3 =>
        bif decide (x_2.length + x_3.length ≤ 4611686018427387904) then
          (s_Var x.snd.snd.fst).bind fun x_4 =>
            bif decide ((x_2 ++ x_3).length + x_4.length ≤ 4611686018427387904) then
              (s_Var x.snd.snd.snd.snd.fst).bind fun x_5 =>
                bif decide ((x_2 ++ x_3 ++ x_4).length + x_5.length ≤ 4611686018427387904) then
                  (s_Var x.snd.snd.snd.snd.snd).bind fun x_6 =>
                    bif decide ((x_2 ++ x_3 ++ x_4 ++ x_5).length + x_6.length ≤ 4611686018427387904) then
                      bif
                          decide
                            ((x_2 ++ x_3 ++ x_4 ++ x_5 ++ x_6).length + List.length x.snd.snd.snd.fst ≤
                              4611686018427387904) then
                        some (x_2 ++ x_3 ++ x_4 ++ x_5 ++ x_6 ++ x.snd.snd.snd.fst)
                      else none
                    else none
                else none
            else none
        else none
theorem s_ShowAnswer_eq (x) : fnK ⟨tabT tyl, ftab [(74, ⟨s74, s_Var⟩), (115, ⟨s115, s_AnswerOk⟩)]⟩ (C0) Try.f84 s84 x = s_ShowAnswer x := by kernel_rfl
theorem c84 : FnOk Try.prog 84 ⟨s84, s_ShowAnswer⟩ := fn_of mix_ok rfl tyl_ok (fl := [(74, ⟨s74, s_Var⟩), (115, ⟨s115, s_AnswerOk⟩)]) ⟨c74, c115, trivial⟩ Try.func84 rfl rfl cuts0 s_ShowAnswer_eq
/-- spec.ReadAnswer -/
def s53 : Sig := ⟨[.ro .str], [(t52, true), (.bool, true)]⟩
noncomputable def s_ReadAnswer (x : List UInt8) : Option ((Int × Int × Int × List UInt8 × Int × Int) × Bool) :=
  (s_l13Vars (x, 0, 5)).bind fun x_1 =>
  bif decide (x_1.snd < 0) then some ((0, 0, 0, [], 0, 0), false)
  else
    x_1.fst[Int.toNat 0]?.bind fun x_2 =>
      x_1.fst[0]?.bind fun x_3 =>
        x_1.fst[Int.toNat 1]?.bind fun x_4 =>
          x_1.fst[1]?.bind fun x_5 =>
            x_1.fst[Int.toNat 2]?.bind fun x_6 =>
              x_1.fst[2]?.bind fun x_7 =>
                x_1.fst[Int.toNat 3]?.bind fun x_8 =>
                  x_1.fst[3]?.bind fun x_9 =>
                    x_1.fst[Int.toNat 4]?.bind fun x_10 =>
                      x_1.fst[4]?.bind fun x_11 =>
                        bif decide (0 ≤ x_1.snd) && decide (x_1.snd ≤ (↑x.length : Int)) then
                          (s_ShowAnswer (x_3, x_5, x_7, List.drop (Int.toNat x_1.snd) x, x_9, x_11)).bind fun x_12 =>
                            bif !decide (x_12 = x) then some ((0, 0, 0, [], 0, 0), false)
                            else some ((x_3, x_5, x_7, List.drop (Int.toNat x_1.snd) x, x_9, x_11), true)
                        else none
theorem s_ReadAnswer_eq (x) : fnK ⟨tabT tyl, ftab [(83, ⟨s83, s_l13Vars⟩), (84, ⟨s84, s_ShowAnswer⟩)]⟩ (C0) Try.f53 s53 x = s_ReadAnswer x := by kernel_rfl
theorem c53 : FnOk Try.prog 53 ⟨s53, s_ReadAnswer⟩ := fn_of mix_ok rfl tyl_ok (fl := [(83, ⟨s83, s_l13Vars⟩), (84, ⟨s84, s_ShowAnswer⟩)]) ⟨c83, c84, trivial⟩ Try.func53 rfl rfl cuts0 s_ReadAnswer_eq
/-- spec.l15Client -/
def s78 : Sig := ⟨[.ro (.int .i64)], [(.bool, true)]⟩
noncomputable def s_l15Client (x : Int) : Option (Bool) :=
  (s_l1In (x, 11, 16)).bind fun x => some x
theorem s_l15Client_eq (x) : fnK ⟨tabT tyl, ftab [(37, ⟨s37, s_l1In⟩)]⟩ (C0) Try.f78 s78 x = s_l15Client x := by kernel_rfl
theorem c78 : FnOk Try.prog 78 ⟨s78, s_l15Client⟩ := fn_of mix_ok rfl tyl_ok (fl := [(37, ⟨s37, s_l1In⟩)]) ⟨c37, trivial⟩ Try.func78 rfl rfl cuts0 s_l15Client_eq
/-- spec.l5Based -/
def s79 : Sig := ⟨[.ro (.int .i64), .ro (.int .i64)], [(.bool, true)]⟩
noncomputable def s_l5Based (x : Int × Int) : Option (Bool) :=
  bif decide (x.fst = 0) then some (decide (x.snd = 0))
else
  (s_l1In (x.fst, 1, 100000)).bind fun x_1 =>
    (bif x_1 then (s_l1In (x.snd, 1, 100000)).bind fun x => some x else some false).bind fun x => some x
theorem s_l5Based_eq (x) : fnK ⟨tabT tyl, ftab [(37, ⟨s37, s_l1In⟩)]⟩ (C0) Try.f79 s79 x = s_l5Based x := by kernel_rfl
theorem c79 : FnOk Try.prog 79 ⟨s79, s_l5Based⟩ := fn_of mix_ok rfl tyl_ok (fl := [(37, ⟨s37, s_l1In⟩)]) ⟨c37, trivial⟩ Try.func79 rfl rfl cuts0 s_l5Based_eq
/-- spec.l15Run -/
def s80 : Sig := ⟨[.ro (.sl 100 t100), .ro (.int .i64), .ro (.int .i64)], [(.bool, true)]⟩
def s80_11 : CutSig := ⟨39, [0, 1, 2, 7], [.ro (.sl 100 t100), .ro (.int .i64), .ro (.int .i64), .ro (.int .i64)], [(.ex 0, [], []), (.ret, [6], [(.bool, true)])]⟩
noncomputable def s_l15Run_L11 (go : List (Int × List UInt8) × Int × Int × Int → Option (PUnit ⊕ Bool)) (x : List (Int × List UInt8) × Int × Int × Int) : Option (PUnit ⊕ Bool) :=
  bif decide (x.snd.snd.snd < (↑(List.length x.fst) : Int)) then
  bif decide (0 ≤ x.snd.snd.snd) then
    x.fst[Int.toNat x.snd.snd.snd]?.bind fun x_1 =>
      (s_l1In (x_1.fst, x.snd.fst, x.snd.snd.fst)).bind fun x_2 =>
        (bif !!x_2 then
              bif decide (0 ≤ x.snd.snd.snd) then
                x.fst[Int.toNat x.snd.snd.snd]?.bind fun x => some (decide (900 < (↑(List.length x.snd) : Int)))
              else none
            else some true).bind
          fun x_3 =>
          bif x_3 then some (Sum.inr false)
          else
            bif decide (0 ≤ x.snd.snd.snd) then
              x.fst[Int.toNat x.snd.snd.snd]?.bind fun x_4 =>
                go (x.fst, x_4.fst, x.snd.snd.fst, IntKind.i64.wrap (x.snd.snd.snd + 1))
            else none
  else none
else some (Sum.inl ())
theorem s_l15Run_L11_eq (go x) : loopStep ⟨tabT tyl, ftab [(37, ⟨s37, s_l1In⟩)]⟩ (C0) (loopOf Try.f80 11) s80_11 go x = s_l15Run_L11 go x := by kernel_rfl
theorem l80_11 : CutOk Try.prog ⟨s80_11, iter s_l15Run_L11 FUEL⟩ (.loop (loopOf Try.f80 11)) := loop_of mix_ok rfl tyl_ok (fl := [(37, ⟨s37, s_l1In⟩)]) ⟨c37, trivial⟩ (C := C0) rfl (pts := []) (by kernel_rfl) trivial s_l15Run_L11_eq
noncomputable def s_l15Run (x : List (Int × List UInt8) × Int × Int) : Option (Bool) :=
  bif decide (x.snd.fst < 1) then
  (iter s_l15Run_L11 FUEL (x.fst, 1, x.snd.snd, 0)).bind fun x => sumK x (fun y => some true) fun z => some z
else (iter s_l15Run_L11 FUEL (x.fst, x.snd.fst, x.snd.snd, 0)).bind fun x => sumK x (fun y => some true) fun z => some z
theorem s_l15Run_eq (x) : fnK ⟨tabT tyl, ftab [(37, ⟨s37, s_l1In⟩)]⟩ (ctab [(11, ⟨s80_11, iter s_l15Run_L11 FUEL⟩)]) Try.f80 s80 x = s_l15Run x := by kernel_rfl
theorem c80 : FnOk Try.prog 80 ⟨s80, s_l15Run⟩ := fn_of2 mix_ok rfl tyl_ok (fl := [(37, ⟨s37, s_l1In⟩)]) ⟨c37, trivial⟩ Try.func80 rfl rfl (C := ctab [(11, ⟨s80_11, iter s_l15Run_L11 FUEL⟩)]) (pts := [(⟨s80_11, iter s_l15Run_L11 FUEL⟩, .loop (loopOf Try.f80 11))]) (by kernel_rfl) ⟨l80_11, trivial⟩ s_l15Run_eq
/-- spec.ShowOp -/
def s44 : Sig := ⟨[.ro t28], [(.str, true)]⟩
noncomputable def s_ShowOp (x : Int × Int × Int × List UInt8) : Option (List UInt8) :=
  (s_OpOk x).bind fun x_1 =>
  bif !x_1 then some []
  else
    (s_Var x.snd.fst).bind fun x_2 =>
      bif
          decide
            ((List.map (fun b => UInt8.ofNat b.toNat) ((List.replicate 1 0).set 0 (IntKind.u8.wrap x.fst))).length +
                x_2.length ≤
              4611686018427387904) then
        (s_Var x.snd.snd.fst).bind fun x_3 =>
          bif
              decide
                ((List.map (fun b => UInt8.ofNat b.toNat) ((List.replicate 1 0).set 0 (IntKind.u8.wrap x.fst)) ++
                        x_2).length +
                    x_3.length ≤
                  4611686018427387904) then
            bif
                decide
                  ((List.map (fun b => UInt8.ofNat b.toNat) ((List.replicate 1 0).set 0 (IntKind.u8.wrap x.fst)) ++
                            x_2 ++
                          x_3).length +
                      List.length x.snd.snd.snd ≤
                    4611686018427387904) then
              some
                (List.map (fun b => UInt8.ofNat b.toNat) ((List.replicate 1 0).set 0 (IntKind.u8.wrap x.fst)) ++ x_2 ++
                    x_3 ++
                  x.snd.snd.snd)
            else none
          else none
      else none
theorem s_ShowOp_eq (x) : fnK ⟨tabT tyl, ftab [(38, ⟨s38, s_OpOk⟩), (74, ⟨s74, s_Var⟩)]⟩ (C0) Try.f44 s44 x = s_ShowOp x := by kernel_rfl
theorem c44 : FnOk Try.prog 44 ⟨s44, s_ShowOp⟩ := fn_of mix_ok rfl tyl_ok (fl := [(38, ⟨s38, s_OpOk⟩), (74, ⟨s74, s_Var⟩)]) ⟨c38, c74, trivial⟩ Try.func44 rfl rfl cuts0 s_ShowOp_eq
/-- spec.ReadOp -/
def s81 : Sig := ⟨[.ro .str], [(t28, true), (.bool, true)]⟩
noncomputable def s_ReadOp (x : List UInt8) : Option ((Int × Int × Int × List UInt8) × Bool) :=
  (s_l13Vars (x, 1, 2)).bind fun x_1 =>
  bif decide (x_1.snd < 0) then some ((0, 0, 0, []), false)
  else
    x[Int.toNat 0]?.bind fun x_2 =>
      x_1.fst[Int.toNat 0]?.bind fun x_3 =>
        x_1.fst[0]?.bind fun x_4 =>
          x_1.fst[Int.toNat 1]?.bind fun x_5 =>
            x_1.fst[1]?.bind fun x_6 =>
              bif decide (0 ≤ x_1.snd) && decide (x_1.snd ≤ (↑x.length : Int)) then
                (s_ShowOp (IntKind.i64.wrap (↑x_2.toNat : Int), x_4, x_6, List.drop (Int.toNat x_1.snd) x)).bind fun x_7 =>
                  bif !decide (x_7 = x) then some ((0, 0, 0, []), false)
                  else some ((IntKind.i64.wrap (↑x_2.toNat : Int), x_4, x_6, List.drop (Int.toNat x_1.snd) x), true)
              else none
theorem s_ReadOp_eq (x) : fnK ⟨tabT tyl, ftab [(44, ⟨s44, s_ShowOp⟩), (83, ⟨s83, s_l13Vars⟩)]⟩ (C0) Try.f81 s81 x = s_ReadOp x := by kernel_rfl
theorem c81 : FnOk Try.prog 81 ⟨s81, s_ReadOp⟩ := fn_of mix_ok rfl tyl_ok (fl := [(44, ⟨s44, s_ShowOp⟩), (83, ⟨s83, s_l13Vars⟩)]) ⟨c44, c83, trivial⟩ Try.func81 rfl rfl cuts0 s_ReadOp_eq
/-- spec.l15SameEntries -/
def s113 : Sig := ⟨[.ro (.sl 100 t100), .ro (.sl 100 t100)], [(.bool, true)]⟩
def s113_11 : CutSig := ⟨26, [0, 1, 5], [.ro (.sl 100 t100), .ro (.sl 100 t100), .ro (.int .i64)], [(.ex 0, [], []), (.ret, [4], [(.bool, true)])]⟩
noncomputable def s_l15SameEntries_L11 (go : List (Int × List UInt8) × List (Int × List UInt8) × Int → Option (PUnit ⊕ Bool)) (x : List (Int × List UInt8) × List (Int × List UInt8) × Int) : Option (PUnit ⊕ Bool) :=
  bif decide (x.snd.snd < (↑(List.length x.fst) : Int)) then
  bif decide (0 ≤ x.snd.snd) then
    x.fst[Int.toNat x.snd.snd]?.bind fun x_1 =>
      bif decide (0 ≤ x.snd.snd) then
        x.snd.fst[Int.toNat x.snd.snd]?.bind fun x_2 =>
          bif !(decide (x_1.fst = x_2.fst) && decide (x_1.snd = x_2.snd)) then some (Sum.inr false)
          else go (x.fst, x.snd.fst, IntKind.i64.wrap (x.snd.snd + 1))
      else none
  else none
else some (Sum.inl ())
theorem s_l15SameEntries_L11_eq (go x) : loopStep ⟨tabT tyl, ftab []⟩ (C0) (loopOf Try.f113 11) s113_11 go x = s_l15SameEntries_L11 go x := by kernel_rfl
theorem l113_11 : CutOk Try.prog ⟨s113_11, iter s_l15SameEntries_L11 FUEL⟩ (.loop (loopOf Try.f113 11)) := loop_of mix_ok rfl tyl_ok (fl := []) trivial (C := C0) rfl (pts := []) (by kernel_rfl) trivial s_l15SameEntries_L11_eq
noncomputable def s_l15SameEntries (x : List (Int × List UInt8) × List (Int × List UInt8)) : Option (Bool) :=
  bif !decide ((↑(List.length x.fst) : Int) = (↑(List.length x.snd) : Int)) then some false
else (iter s_l15SameEntries_L11 FUEL (x.fst, x.snd, 0)).bind fun x => sumK x (fun y => some true) fun z => some z
theorem s_l15SameEntries_eq (x) : fnK ⟨tabT tyl, ftab []⟩ (ctab [(11, ⟨s113_11, iter s_l15SameEntries_L11 FUEL⟩)]) Try.f113 s113 x = s_l15SameEntries x := by kernel_rfl
theorem c113 : FnOk Try.prog 113 ⟨s113, s_l15SameEntries⟩ := fn_of2 mix_ok rfl tyl_ok (fl := []) trivial Try.func113 rfl rfl (C := ctab [(11, ⟨s113_11, iter s_l15SameEntries_L11 FUEL⟩)]) (pts := [(⟨s113_11, iter s_l15SameEntries_L11 FUEL⟩, .loop (loopOf Try.f113 11))]) (by kernel_rfl) ⟨l113_11, trivial⟩ s_l15SameEntries_eq
/-- spec.l15Same -/
def s82 : Sig := ⟨[.ro t41, .ro t41], [(.bool, true)]⟩
noncomputable def s_l15Same (x : (Int × Int × Int × Int × Int × Int × Int × Bool × List (Int × List UInt8) × List UInt8) ×
  Int × Int × Int × Int × Int × Int × Int × Bool × List (Int × List UInt8) × List UInt8) : Option (Bool) :=
  (bif !!decide (x.fst.fst = x.snd.fst) then some !decide (x.fst.snd.fst = x.snd.snd.fst) else some true).bind fun x_1 =>
  (bif !x_1 then some !decide (x.fst.snd.snd.fst = x.snd.snd.snd.fst) else some true).bind fun x_2 =>
    (bif !x_2 then some !decide (x.fst.snd.snd.snd.fst = x.snd.snd.snd.snd.fst) else some true).bind fun x_3 =>
      (bif !x_3 then some !decide (x.fst.snd.snd.snd.snd.fst = x.snd.snd.snd.snd.snd.fst) else some true).bind
        fun x_4 =>
        (bif !x_4 then some !decide (x.fst.snd.snd.snd.snd.snd.fst = x.snd.snd.snd.snd.snd.snd.fst) else some true).bind
          fun x_5 =>
          (bif !x_5 then some !decide (x.fst.snd.snd.snd.snd.snd.snd.fst = x.snd.snd.snd.snd.snd.snd.snd.fst)
              else some true).bind
            fun x_6 =>
            (bif !x_6 then some !x.fst.snd.snd.snd.snd.snd.snd.snd.fst == x.snd.snd.snd.snd.snd.snd.snd.snd.fst
                else some true).bind
              fun x_7 =>
              (bif !x_7 then
                    some !decide (x.fst.snd.snd.snd.snd.snd.snd.snd.snd.snd = x.snd.snd.snd.snd.snd.snd.snd.snd.snd.snd)
                  else some true).bind
                fun x_8 =>
                bif x_8 then some false
                else
                  (s_l15SameEntries (x.fst.snd.snd.snd.snd.snd.snd.snd.snd.fst, x.snd.snd.snd.snd.snd.snd.snd.snd.snd.fst)).bind
                    fun x => some x
theorem s_l15Same_eq (x) : fnK ⟨tabT tyl, ftab [(113, ⟨s113, s_l15SameEntries⟩)]⟩ (C0) Try.f82 s82 x = s_l15Same x := by kernel_rfl
theorem c82 : FnOk Try.prog 82 ⟨s82, s_l15Same⟩ := fn_of mix_ok rfl tyl_ok (fl := [(113, ⟨s113, s_l15SameEntries⟩)]) ⟨c113, trivial⟩ Try.func82 rfl rfl cuts0 s_l15Same_eq
/-- spec.MsgOk -/
def s52 : Sig := ⟨[.ro t41], [(.bool, true)]⟩
def s52_16 : CutSig := ⟨297, [1, 3, 4, 5, 6, 7, 54], [.pin t41, .pio t41, .ro .bool, .ro .bool, .ro .bool, .ro .bool, .ro .bool], [(.nor, [], [])]⟩
noncomputable def s_MsgOk_L16 (x : (Int × Int × Int × Int × Int × Int × Int × Bool × List (Int × List UInt8) × List UInt8) ×
  (Int × Int × Int × Int × Int × Int × Int × Bool × List (Int × List UInt8) × List UInt8) ×
    Bool × Bool × Bool × Bool × Bool) : Option (Int × Int × Int × Int × Int × Int × Int × Bool × List (Int × List UInt8) × List UInt8) :=
  bif x.snd.snd.snd.snd.snd.snd then
  some (x.snd.fst.fst, x.snd.fst.snd.fst, x.snd.fst.snd.snd.fst, x.fst.snd.snd.snd.fst, x.snd.fst.snd.snd.snd.snd)
else some x.snd.fst
theorem s_MsgOk_L16_eq (x) : cutFn ⟨tabT tyl, ftab []⟩ (C0) (condOf Try.f52 16) s52_16 x = s_MsgOk_L16 x := by kernel_rfl
theorem l52_16 : CutOk Try.prog ⟨s52_16, s_MsgOk_L16⟩ (condOf Try.f52 16) := cond_of mix_ok rfl tyl_ok (fl := []) trivial (C := C0) rfl (pts := []) (by kernel_rfl) trivial s_MsgOk_L16_eq
noncomputable def s_MsgOk (x : Int × Int × Int × Int × Int × Int × Int × Bool × List (Int × List UInt8) × List UInt8) : Option (Bool) :=
  (s_l15Server x.snd.fst).bind fun x_1 =>
  (bif x_1 then (s_l15Server x.snd.snd.fst).bind fun x => some x else some false).bind fun x_2 =>
    (bif x_2 then some !decide (x.snd.fst = x.snd.snd.fst) else some false).bind fun x_3 =>
      (s_l15Client x.snd.fst).bind fun x_4 =>
        (bif x_4 then (s_l15Server x.snd.snd.fst).bind fun x => some x else some false).bind fun x_5 =>
          (s_l15Server x.snd.fst).bind fun x_6 =>
            (bif x_6 then (s_l15Client x.snd.snd.fst).bind fun x => some x else some false).bind fun x_7 =>
              (s_l1In (x.snd.snd.snd.fst, 1, 100000)).bind fun x_8 =>
                (s_MsgOk_L16 (x, (x.fst, x.snd.fst, x.snd.snd.fst, 0, 0, 0, 0, false, [], []), x_3, x_5, x_7, x_8, x_3)).bind
                  fun x_9 =>
                  bif decide (x.fst = 1) then
                    (bif x_3 then some x_8 else some false).bind fun x_10 =>
                      (bif x_10 then (s_l5Based (x.snd.snd.snd.snd.fst, x.snd.snd.snd.snd.snd.fst)).bind fun x => some x
                          else some false).bind
                        fun x_11 =>
                        (bif x_11 then some (decide (x.snd.snd.snd.snd.snd.fst ≤ x.snd.snd.snd.fst))
                            else some false).bind
                          fun x_12 =>
                          (bif x_12 then
                                (s_l15Same
                                      (x, x_9.fst, x_9.snd.fst, x_9.snd.snd.fst, x_9.snd.snd.snd.fst,
                                        x.snd.snd.snd.snd.fst, x.snd.snd.snd.snd.snd.fst,
                                        x_9.snd.snd.snd.snd.snd.snd)).bind
                                  fun x => some x
                              else some false).bind
                            fun x => some x
                  else
                    bif decide (x.fst = 2) then
                      (bif x_3 then some x_8 else some false).bind fun x_10 =>
                        (bif x_10 then
                              (s_l15Same
                                    (x, x_9.fst, x_9.snd.fst, x_9.snd.snd.fst, x_9.snd.snd.snd.fst, 0,
                                      x_9.snd.snd.snd.snd.snd.fst, x_9.snd.snd.snd.snd.snd.snd.fst,
                                      x.snd.snd.snd.snd.snd.snd.snd.fst, x_9.snd.snd.snd.snd.snd.snd.snd.snd)).bind
                                fun x => some x
                            else some false).bind
                          fun x => some x
                    else
                      bif decide (x.fst = 3) then
                        (bif x_3 then some x_8 else some false).bind fun x_10 =>
                          (bif x_10 then (s_l5Based (x.snd.snd.snd.snd.fst, x.snd.snd.snd.snd.snd.fst)).bind fun x => some x
                              else some false).bind
                            fun x_11 =>
                            (bif x_11 then some (decide (x.snd.snd.snd.snd.snd.fst ≤ x.snd.snd.snd.fst))
                                else some false).bind
                              fun x_12 =>
                              (bif x_12 then (s_l1In (x.snd.snd.snd.snd.snd.snd.fst, 0, 100000)).bind fun x => some x
                                  else some false).bind
                                fun x_13 =>
                                (bif x_13 then
                                      some (decide ((↑(List.length x.snd.snd.snd.snd.snd.snd.snd.snd.fst) : Int) ≤ 4))
                                    else some false).bind
                                  fun x_14 =>
                                  (bif x_14 then
                                        (s_l15Run
                                              (x.snd.snd.snd.snd.snd.snd.snd.snd.fst, x.snd.snd.snd.snd.snd.fst,
                                                x.snd.snd.snd.fst)).bind
                                          fun x => some x
                                      else some false).bind
                                    fun x_15 =>
                                    (bif x_15 then
                                          some
                                            (decide
                                              (IntKind.i64.wrap
                                                  (x.snd.snd.snd.snd.fst +
                                                    (↑(List.length x.snd.snd.snd.snd.snd.snd.snd.snd.fst) : Int)) ≤
                                                100000))
                                        else some false).bind
                                      fun x_16 =>
                                      (bif x_16 then
                                            (s_l15Same
                                                  (x, x_9.fst, x_9.snd.fst, x_9.snd.snd.fst, x_9.snd.snd.snd.fst,
                                                    x.snd.snd.snd.snd.fst, x.snd.snd.snd.snd.snd.fst,
                                                    x.snd.snd.snd.snd.snd.snd.fst, x_9.snd.snd.snd.snd.snd.snd.snd.fst,
                                                    x.snd.snd.snd.snd.snd.snd.snd.snd.fst,
                                                    x_9.snd.snd.snd.snd.snd.snd.snd.snd.snd)).bind
                                              fun x => some x
                                          else some false).bind
                                        fun x => some x
                      else
                        bif decide (x.fst = 4) then
                          (bif x_3 then some x_8 else some false).bind fun x_10 =>
                            (bif x_10 then (s_l1In (x.snd.snd.snd.snd.fst, 0, 100000)).bind fun x => some x
                                else some false).bind
                              fun x_11 =>
                              (bif x_11 then
                                    (s_l15Same
                                          (x, x_9.fst, x_9.snd.fst, x_9.snd.snd.fst, x_9.snd.snd.snd.fst,
                                            x.snd.snd.snd.snd.fst, x_9.snd.snd.snd.snd.snd.fst,
                                            x_9.snd.snd.snd.snd.snd.snd.fst, x.snd.snd.snd.snd.snd.snd.snd.fst,
                                            x_9.snd.snd.snd.snd.snd.snd.snd.snd)).bind
                                      fun x => some x
                                  else some false).bind
                                fun x => some x
                        else
                          bif decide (x.fst = 5) then
                            (bif x_3 then some x_8 else some false).bind fun x_10 =>
                              (bif x_10 then (s_l1In (x.snd.snd.snd.snd.fst, 1, 100000)).bind fun x => some x
                                  else some false).bind
                                fun x_11 =>
                                (bif x_11 then
                                      (s_l1In (x.snd.snd.snd.snd.snd.fst, 1, x.snd.snd.snd.fst)).bind fun x => some x
                                    else some false).bind
                                  fun x_12 =>
                                  (bif x_12 then
                                        some
                                          (decide ((↑(List.length x.snd.snd.snd.snd.snd.snd.snd.snd.snd) : Int) ≤ 8000))
                                      else some false).bind
                                    fun x_13 =>
                                    (bif x_13 then
                                          (s_l15Same
                                                (x, x_9.fst, x_9.snd.fst, x_9.snd.snd.fst, x_9.snd.snd.snd.fst,
                                                  x.snd.snd.snd.snd.fst, x.snd.snd.snd.snd.snd.fst,
                                                  x_9.snd.snd.snd.snd.snd.snd.fst, x_9.snd.snd.snd.snd.snd.snd.snd.fst,
                                                  x_9.snd.snd.snd.snd.snd.snd.snd.snd.fst,
                                                  x.snd.snd.snd.snd.snd.snd.snd.snd.snd)).bind
                                            fun x => some x
                                        else some false).bind
                                      fun x => some x
                          else
                            bif decide (x.fst = 6) then
                              (s_ReadOp x.snd.snd.snd.snd.snd.snd.snd.snd.snd).bind fun x_10 =>
                                (bif x_5 then (s_l1In (x.snd.snd.snd.snd.fst, 1, 1000000)).bind fun x => some x
                                    else some false).bind
                                  fun x_11 =>
                                  (bif x_11 then some x_10.snd else some false).bind fun x_12 =>
                                    (bif x_12 then
                                          (s_l15Same
                                                (x, x_9.fst, x_9.snd.fst, x_9.snd.snd.fst, x_9.snd.snd.snd.fst,
                                                  x.snd.snd.snd.snd.fst, x_9.snd.snd.snd.snd.snd.fst,
                                                  x_9.snd.snd.snd.snd.snd.snd.fst, x_9.snd.snd.snd.snd.snd.snd.snd.fst,
                                                  x_9.snd.snd.snd.snd.snd.snd.snd.snd.fst,
                                                  x.snd.snd.snd.snd.snd.snd.snd.snd.snd)).bind
                                            fun x => some x
                                        else some false).bind
                                      fun x => some x
                            else
                              bif decide (x.fst = 7) then
                                (s_ReadAnswer x.snd.snd.snd.snd.snd.snd.snd.snd.snd).bind fun x_10 =>
                                  (bif x_7 then (s_l1In (x.snd.snd.snd.snd.fst, 1, 1000000)).bind fun x => some x
                                      else some false).bind
                                    fun x_11 =>
                                    (bif x_11 then some x_10.snd else some false).bind fun x_12 =>
                                      (bif x_12 then
                                            (s_l15Same
                                                  (x, x_9.fst, x_9.snd.fst, x_9.snd.snd.fst, x_9.snd.snd.snd.fst,
                                                    x.snd.snd.snd.snd.fst, x_9.snd.snd.snd.snd.snd.fst,
                                                    x_9.snd.snd.snd.snd.snd.snd.fst,
                                                    x_9.snd.snd.snd.snd.snd.snd.snd.fst,
                                                    x_9.snd.snd.snd.snd.snd.snd.snd.snd.fst,
                                                    x.snd.snd.snd.snd.snd.snd.snd.snd.snd)).bind
                                              fun x => some x
                                          else some false).bind
                                        fun x => some x
                              else
                                bif decide (x.fst = 8) then
                                  (bif x_5 then (s_l1In (x.snd.snd.snd.snd.fst, 1, 6)).bind fun x => some x
                                      else some false).bind
                                    fun x_10 =>
                                    (bif x_10 then (s_l1In (x.snd.snd.snd.snd.snd.snd.fst, 0, 250)).bind fun x => some x
                                        else some false).bind
                                      fun x_11 =>
                                      (bif x_11 then
                                            (s_l15Same
                                                  (x, x_9.fst, x_9.snd.fst, x_9.snd.snd.fst, x_9.snd.snd.snd.fst,
                                                    x.snd.snd.snd.snd.fst, x_9.snd.snd.snd.snd.snd.fst,
                                                    x.snd.snd.snd.snd.snd.snd.fst,
                                                    x_9.snd.snd.snd.snd.snd.snd.snd)).bind
                                              fun x => some x
                                          else some false).bind
                                        fun x => some x
                                else
                                  bif decide (x.fst = 9) then
                                    (bif x_7 then (s_l1In (x.snd.snd.snd.snd.fst, 1, 6)).bind fun x => some x
                                        else some false).bind
                                      fun x_10 =>
                                      (bif x_10 then (s_l1In (x.snd.snd.snd.snd.snd.snd.fst, 0, 250)).bind fun x => some x
                                          else some false).bind
                                        fun x_11 =>
                                        (bif x_11 then
                                              some
                                                (decide
                                                  ((↑(List.length x.snd.snd.snd.snd.snd.snd.snd.snd.snd) : Int) ≤ 64))
                                            else some false).bind
                                          fun x_12 =>
                                          (bif x_12 then
                                                (bif !x.snd.snd.snd.snd.snd.snd.snd.fst then
                                                      some (decide (x.snd.snd.snd.snd.snd.snd.snd.snd.snd = []))
                                                    else some true).bind
                                                  fun x => some x
                                              else some false).bind
                                            fun x_13 =>
                                            (bif x_13 then
                                                  (s_l15Same
                                                        (x, x_9.fst, x_9.snd.fst, x_9.snd.snd.fst, x_9.snd.snd.snd.fst,
                                                          x.snd.snd.snd.snd.fst, x_9.snd.snd.snd.snd.snd.fst,
                                                          x.snd.snd.snd.snd.snd.snd.fst,
                                                          x.snd.snd.snd.snd.snd.snd.snd.fst,
                                                          x_9.snd.snd.snd.snd.snd.snd.snd.snd.fst,
                                                          x.snd.snd.snd.snd.snd.snd.snd.snd.snd)).bind
                                                    fun x => some x
                                                else some false).bind
                                              fun x => some x
                                  else some false
theorem s_MsgOk_eq (x) : fnK ⟨tabT tyl, ftab [(37, ⟨s37, s_l1In⟩), (43, ⟨s43, s_l15Server⟩), (53, ⟨s53, s_ReadAnswer⟩), (78, ⟨s78, s_l15Client⟩), (79, ⟨s79, s_l5Based⟩), (80, ⟨s80, s_l15Run⟩), (81, ⟨s81, s_ReadOp⟩), (82, ⟨s82, s_l15Same⟩)]⟩ (ctab [(16, ⟨s52_16, s_MsgOk_L16⟩)]) Try.f52 s52 x = s_MsgOk x := by kernel_rfl
theorem c52 : FnOk Try.prog 52 ⟨s52, s_MsgOk⟩ := fn_of2 mix_ok rfl tyl_ok (fl := [(37, ⟨s37, s_l1In⟩), (43, ⟨s43, s_l15Server⟩), (53, ⟨s53, s_ReadAnswer⟩), (78, ⟨s78, s_l15Client⟩), (79, ⟨s79, s_l5Based⟩), (80, ⟨s80, s_l15Run⟩), (81, ⟨s81, s_ReadOp⟩), (82, ⟨s82, s_l15Same⟩)]) ⟨c37, c43, c53, c78, c79, c80, c81, c82, trivial⟩ Try.func52 rfl rfl (C := ctab [(16, ⟨s52_16, s_MsgOk_L16⟩)]) (pts := [(⟨s52_16, s_MsgOk_L16⟩, condOf Try.f52 16)]) (by kernel_rfl) ⟨l52_16, trivial⟩ s_MsgOk_eq
/-- spec.ClientHear -/
def s23 : Sig := ⟨[.ro t30, .ro t41, .ro (.int .i64)], [(t30, true), (t54, true), (.bool, true)]⟩
noncomputable def s_ClientHear (x : (Int × Int × Bool × (Int × Int × Int × List UInt8) × Int) ×
  (Int × Int × Int × Int × Int × Int × Int × Bool × List (Int × List UInt8) × List UInt8) × Int) : Option ((Int × Int × Bool × (Int × Int × Int × List UInt8) × Int) ×
  (Int × Int × (Int × Int × Int × List UInt8) × (Int × Int × Int × List UInt8 × Int × Int) × Int × Int) × Bool) :=
  (s_ClientOk x.fst).bind fun x_1 =>
  bif !x_1 then some ((0, 0, false, (0, 0, 0, []), 0), (0, 0, (0, 0, 0, []), (0, 0, 0, [], 0, 0), 0, 0), false)
  else
    (bif !!x.fst.snd.snd.fst then (s_MsgOk x.snd.fst).bind fun x => some !x else some true).bind fun x_2 =>
      (bif !x_2 then some !decide (x.snd.fst.fst = 7) else some true).bind fun x_3 =>
        (bif !x_3 then some !decide (x.snd.fst.snd.snd.fst = IntKind.i64.wrap (10 + x.fst.fst)) else some true).bind
          fun x_4 =>
          (bif !x_4 then some !decide (x.snd.fst.snd.snd.snd.snd.fst = x.fst.snd.fst) else some true).bind fun x_5 =>
            (bif !x_5 then (s_l1In (x.snd.snd, 0, 1000000)).bind fun x => some !x else some true).bind fun x_6 =>
              bif x_6 then some (x.fst, (0, 0, (0, 0, 0, []), (0, 0, 0, [], 0, 0), 0, 0), false)
              else
                (s_ReadAnswer x.snd.fst.snd.snd.snd.snd.snd.snd.snd.snd.snd).bind fun x_7 =>
                  some
                    ((x.fst.fst, x.fst.snd.fst, false, (0, 0, 0, []), 0),
                      (x.fst.fst, x.fst.snd.fst, x.fst.snd.snd.snd.fst, x_7.fst, x.fst.snd.snd.snd.snd, x.snd.snd),
                      true)
theorem s_ClientHear_eq (x) : fnK ⟨tabT tyl, ftab [(9, ⟨s9, s_ClientOk⟩), (37, ⟨s37, s_l1In⟩), (52, ⟨s52, s_MsgOk⟩), (53, ⟨s53, s_ReadAnswer⟩)]⟩ (C0) Try.f23 s23 x = s_ClientHear x := by kernel_rfl
theorem c23 : FnOk Try.prog 23 ⟨s23, s_ClientHear⟩ := fn_of mix_ok rfl tyl_ok (fl := [(9, ⟨s9, s_ClientOk⟩), (37, ⟨s37, s_l1In⟩), (52, ⟨s52, s_MsgOk⟩), (53, ⟨s53, s_ReadAnswer⟩)]) ⟨c9, c37, c52, c53, trivial⟩ Try.func23 rfl rfl cuts0 s_ClientHear_eq
/-- laws.toEntry -/
def s85 : Sig := ⟨[.ro t102], [(t100, true)]⟩
noncomputable def w_toEntry (x : Int × List UInt8) : Option (Int × List UInt8) :=
  some (x.fst, x.snd)
theorem w_toEntry_eq (x) : fnK ⟨tabT tyl, ftab []⟩ (C0) Try.f85 s85 x = w_toEntry x := by kernel_rfl
theorem c85 : FnOk Try.prog 85 ⟨s85, w_toEntry⟩ := fn_of mix_ok rfl tyl_ok (fl := []) trivial Try.func85 rfl rfl cuts0 w_toEntry_eq
/-- laws.toEntryS -/
def s54 : Sig := ⟨[.ro (.sl 102 t102)], [((.sl 100 t100), true)]⟩
def s54_9 : CutSig := ⟨23, [0, 3, 4], [.ro (.sl 102 t102), .own (.sl 100 t100), .ro (.int .i64)], [(.ex 0, [3], [((.sl 100 t100), true)])]⟩
noncomputable def w_toEntryS_L9 (go : List (Int × List UInt8) × List (Int × List UInt8) × Int → Option (List (Int × List UInt8))) (x : List (Int × List UInt8) × List (Int × List UInt8) × Int) : Option (List (Int × List UInt8)) :=
  bif decide (x.snd.snd < (↑(List.length x.fst) : Int)) then
  bif decide (0 ≤ x.snd.snd) then
    x.fst[Int.toNat x.snd.snd]?.bind fun x_1 =>
      (w_toEntry x_1).bind fun x_2 =>
        bif decide (0 ≤ x.snd.snd) then
          x.snd.fst[Int.toNat x.snd.snd]?.bind fun x_3 =>
            x.snd.fst[Int.toNat x.snd.snd]?.bind fun x_4 =>
              go
                (x.fst, List.set x.snd.fst (Int.toNat x.snd.snd) x_2,
                  IntKind.i64.wrap (x.snd.snd + 1))
        else none
  else none
else some x.snd.fst
theorem w_toEntryS_L9_eq (go x) : loopStep ⟨tabT tyl, ftab [(85, ⟨s85, w_toEntry⟩)]⟩ (C0) (loopOf Try.f54 9) s54_9 go x = w_toEntryS_L9 go x := by kernel_rfl
theorem l54_9 : CutOk Try.prog ⟨s54_9, iter w_toEntryS_L9 FUEL⟩ (.loop (loopOf Try.f54 9)) := loop_of mix_ok rfl tyl_ok (fl := [(85, ⟨s85, w_toEntry⟩)]) ⟨c85, trivial⟩ (C := C0) rfl (pts := []) (by kernel_rfl) trivial w_toEntryS_L9_eq
noncomputable def w_toEntryS (x : List (Int × List UInt8)) : Option (List (Int × List UInt8)) :=
  bif
    decide (0 ≤ (↑x.length : Int)) && decide ((↑x.length : Int) ≤ (↑x.length : Int)) &&
      decide ((↑x.length : Int) ≤ (↑4294967296 : Int)) then
  (iter w_toEntryS_L9 FUEL (x, List.replicate (↑x.length : Int).toNat (0, []), 0)).bind fun x => some x
else none
theorem w_toEntryS_eq (x) : fnK ⟨tabT tyl, ftab [(85, ⟨s85, w_toEntry⟩)]⟩ (ctab [(9, ⟨s54_9, iter w_toEntryS_L9 FUEL⟩)]) Try.f54 s54 x = w_toEntryS x := by kernel_rfl
theorem c54 : FnOk Try.prog 54 ⟨s54, w_toEntryS⟩ := fn_of2 mix_ok rfl tyl_ok (fl := [(85, ⟨s85, w_toEntry⟩)]) ⟨c85, trivial⟩ Try.func54 rfl rfl (C := ctab [(9, ⟨s54_9, iter w_toEntryS_L9 FUEL⟩)]) (pts := [(⟨s54_9, iter w_toEntryS_L9 FUEL⟩, .loop (loopOf Try.f54 9))]) (by kernel_rfl) ⟨l54_9, trivial⟩ w_toEntryS_eq
/-- laws.toMsg -/
def s24 : Sig := ⟨[.ro t49], [(t41, true)]⟩
noncomputable def w_toMsg (x : Int × Int × Int × Int × Int × Int × Int × Bool × List (Int × List UInt8) × List UInt8) : Option (Int × Int × Int × Int × Int × Int × Int × Bool × List (Int × List UInt8) × List UInt8) :=
  (w_toEntryS x.snd.snd.snd.snd.snd.snd.snd.snd.fst).bind fun x_1 =>
  some
    (x.fst, x.snd.fst, x.snd.snd.fst, x.snd.snd.snd.fst, x.snd.snd.snd.snd.fst, x.snd.snd.snd.snd.snd.fst,
      x.snd.snd.snd.snd.snd.snd.fst, x.snd.snd.snd.snd.snd.snd.snd.fst, x_1, x.snd.snd.snd.snd.snd.snd.snd.snd.snd)
theorem w_toMsg_eq (x) : fnK ⟨tabT tyl, ftab [(54, ⟨s54, w_toEntryS⟩)]⟩ (C0) Try.f24 s24 x = w_toMsg x := by kernel_rfl
theorem c24 : FnOk Try.prog 24 ⟨s24, w_toMsg⟩ := fn_of mix_ok rfl tyl_ok (fl := [(54, ⟨s54, w_toEntryS⟩)]) ⟨c54, trivial⟩ Try.func24 rfl rfl cuts0 w_toMsg_eq
/-- impl.within -/
def s39 : Sig := ⟨[.ro (.int .i64), .ro (.int .i64), .ro (.int .i64)], [(.bool, true)]⟩
noncomputable def i_within (x : Int × Int × Int) : Option (Bool) :=
  (bif decide (x.snd.fst ≤ x.fst) then some (decide (x.fst ≤ x.snd.snd)) else some false).bind fun x => some x
theorem i_within_eq (x) : fnK ⟨tabT tyl, ftab []⟩ (C0) Try.f39 s39 x = i_within x := by kernel_rfl
theorem c39 : FnOk Try.prog 39 ⟨s39, i_within⟩ := fn_of mix_ok rfl tyl_ok (fl := []) trivial Try.func39 rfl rfl cuts0 i_within_eq
/-- impl.isNow -/
def s40 : Sig := ⟨[.ro (.int .i64)], [(.bool, true)]⟩
noncomputable def i_isNow (x : Int) : Option (Bool) :=
  (i_within (x, 0, 1000000)).bind fun x => some x
theorem i_isNow_eq (x) : fnK ⟨tabT tyl, ftab [(39, ⟨s39, i_within⟩)]⟩ (C0) Try.f40 s40 x = i_isNow x := by kernel_rfl
theorem c40 : FnOk Try.prog 40 ⟨s40, i_isNow⟩ := fn_of mix_ok rfl tyl_ok (fl := [(39, ⟨s39, i_within⟩)]) ⟨c39, trivial⟩ Try.func40 rfl rfl cuts0 i_isNow_eq
/-- impl.isVersion -/
def s72 : Sig := ⟨[.ro (.int .i64)], [(.bool, true)]⟩
noncomputable def i_isVersion (x : Int) : Option (Bool) :=
  (i_within (x, 1, 6)).bind fun x => some x
theorem i_isVersion_eq (x) : fnK ⟨tabT tyl, ftab [(39, ⟨s39, i_within⟩)]⟩ (C0) Try.f72 s72 x = i_isVersion x := by kernel_rfl
theorem c72 : FnOk Try.prog 72 ⟨s72, i_isVersion⟩ := fn_of mix_ok rfl tyl_ok (fl := [(39, ⟨s39, i_within⟩)]) ⟨c39, trivial⟩ Try.func72 rfl rfl cuts0 i_isVersion_eq
/-- impl.isChannel -/
def s73 : Sig := ⟨[.ro (.int .i64)], [(.bool, true)]⟩
noncomputable def i_isChannel (x : Int) : Option (Bool) :=
  (i_within (x, 0, 2)).bind fun x => some x
theorem i_isChannel_eq (x) : fnK ⟨tabT tyl, ftab [(39, ⟨s39, i_within⟩)]⟩ (C0) Try.f73 s73 x = i_isChannel x := by kernel_rfl
theorem c73 : FnOk Try.prog 73 ⟨s73, i_isChannel⟩ := fn_of mix_ok rfl tyl_ok (fl := [(39, ⟨s39, i_within⟩)]) ⟨c39, trivial⟩ Try.func73 rfl rfl cuts0 i_isChannel_eq
/-- impl.OpOk -/
def s41 : Sig := ⟨[.ro t28], [(.bool, true)]⟩
noncomputable def i_OpOk (x : Int × Int × Int × List UInt8) : Option (Bool) :=
  (bif !decide (x.fst = 1) then some !decide (x.snd.snd.snd = []) else some false).bind fun x_1 =>
  bif x_1 then some false
  else
    bif decide (x.fst = 1) then
      (bif decide (x.snd.fst = 0) then some (decide (x.snd.snd.fst = 0)) else some false).bind fun x_2 =>
        (bif x_2 then some (decide ((↑(List.length x.snd.snd.snd) : Int) ≤ 250)) else some false).bind fun x => some x
    else
      bif decide (x.fst = 2) then
        (i_isVersion x.snd.snd.fst).bind fun x_2 =>
          (bif x_2 then (i_isChannel x.snd.fst).bind fun x => some x else some false).bind fun x => some x
      else
        bif decide (x.fst = 3) then
          bif decide (x.fst = 3) then
            (i_isVersion x.snd.snd.fst).bind fun x_2 =>
              (bif x_2 then some (decide (x.snd.fst = 0)) else some false).bind fun x => some x
          else
            bif decide (x.fst = 5) then
              (i_isVersion x.snd.snd.fst).bind fun x_2 =>
                (bif x_2 then some (decide (x.snd.fst = 0)) else some false).bind fun x_3 =>
                  (bif !x_3 then
                        (bif decide (x.snd.snd.fst = 0) then (i_isChannel x.snd.fst).bind fun x => some x else some false).bind
                          fun x => some x
                      else some true).bind
                    fun x => some x
            else some false
        else
          bif decide (x.fst = 4) then
            (i_isVersion x.snd.snd.fst).bind fun x_2 =>
              (bif x_2 then some (decide (x.snd.fst = 0)) else some false).bind fun x => some x
          else
            bif decide (x.fst = 5) then
              (i_isVersion x.snd.snd.fst).bind fun x_2 =>
                (bif x_2 then some (decide (x.snd.fst = 0)) else some false).bind fun x_3 =>
                  (bif !x_3 then
                        (bif decide (x.snd.snd.fst = 0) then (i_isChannel x.snd.fst).bind fun x => some x else some false).bind
                          fun x => some x
                      else some true).bind
                    fun x => some x
            else some false
theorem i_OpOk_eq (x) : fnK ⟨tabT tyl, ftab [(72, ⟨s72, i_isVersion⟩), (73, ⟨s73, i_isChannel⟩)]⟩ (C0) Try.f41 s41 x = i_OpOk x := by kernel_rfl
theorem c41 : FnOk Try.prog 41 ⟨s41, i_OpOk⟩ := fn_of mix_ok rfl tyl_ok (fl := [(72, ⟨s72, i_isVersion⟩), (73, ⟨s73, i_isChannel⟩)]) ⟨c72, c73, trivial⟩ Try.func41 rfl rfl cuts0 i_OpOk_eq
/-- impl.ClientOk -/
def s11 : Sig := ⟨[.ro t30], [(.bool, true)]⟩
noncomputable def i_ClientOk (x : Int × Int × Bool × (Int × Int × Int × List UInt8) × Int) : Option (Bool) :=
  (i_within (x.fst, 1, 6)).bind fun x_1 =>
  (bif !!x_1 then (i_within (x.snd.fst, 0, 1000000)).bind fun x => some !x else some true).bind fun x_2 =>
    (bif !x_2 then (i_isNow x.snd.snd.snd.snd).bind fun x => some !x else some true).bind fun x_3 =>
      bif x_3 then some false
      else
        bif x.snd.snd.fst then
          (bif decide (1 ≤ x.snd.fst) then (i_OpOk x.snd.snd.snd.fst).bind fun x => some x else some false).bind fun x =>
            some x
        else
          (bif
                  decide (x.snd.snd.snd.fst.fst = 0) &&
                    (decide (x.snd.snd.snd.fst.snd.fst = 0) &&
                      (decide (x.snd.snd.snd.fst.snd.snd.fst = 0) && decide (x.snd.snd.snd.fst.snd.snd.snd = []))) then
                some (decide (x.snd.snd.snd.snd = 0))
              else some false).bind
            fun x => some x
theorem i_ClientOk_eq (x) : fnK ⟨tabT tyl, ftab [(39, ⟨s39, i_within⟩), (40, ⟨s40, i_isNow⟩), (41, ⟨s41, i_OpOk⟩)]⟩ (C0) Try.f11 s11 x = i_ClientOk x := by kernel_rfl
theorem c11 : FnOk Try.prog 11 ⟨s11, i_ClientOk⟩ := fn_of mix_ok rfl tyl_ok (fl := [(39, ⟨s39, i_within⟩), (40, ⟨s40, i_isNow⟩), (41, ⟨s41, i_OpOk⟩)]) ⟨c39, c40, c41, trivial⟩ Try.func11 rfl rfl cuts0 i_ClientOk_eq
/-- (impl.Client).address -/
def s46 : Sig := ⟨[.ro t30], [((.int .i64), true)]⟩
noncomputable def i_Client_address (x : Int × Int × Bool × (Int × Int × Int × List UInt8) × Int) : Option (Int) :=
  some (IntKind.i64.wrap (10 + x.fst))
theorem i_Client_address_eq (x) : fnK ⟨tabT tyl, ftab []⟩ (C0) Try.f46 s46 x = i_Client_address x := by kernel_rfl
theorem c46 : FnOk Try.prog 46 ⟨s46, i_Client_address⟩ := fn_of mix_ok rfl tyl_ok (fl := []) trivial Try.func46 rfl rfl cuts0 i_Client_address_eq
/-- impl.Var -/
def s75 : Sig := ⟨[.ro (.int .i64)], [(.str, true)]⟩
def s75_11 : CutSig := ⟨25, [0, 3], [.ro (.int .i64), .own t97], [(.ex 0, [0, 3], [((.int .i64), true), (t97, true)])]⟩
noncomputable def i_Var_L11 (go : Int × List Int → Option (Int × List Int)) (x : Int × List Int) : Option (Int × List Int) :=
  bif decide (127 < x.fst) then
  bif
      true && (3 == 0 || 3 == 1 || [3, 2].contains 3 || [].contains 3) &&
        decide
          (List.length x.snd +
              ((List.replicate 1 0).set 0
                  (IntKind.u8.wrap
                    (IntKind.i64.wrap
                      (↑(BitVec.ofInt IntKind.i64.bits
                                (IntKind.i64.wrap
                                  (↑(BitVec.ofInt IntKind.i64.bits x.fst &&& BitVec.ofInt IntKind.i64.bits 127).toNat :
                                    Int)) |||
                              BitVec.ofInt IntKind.i64.bits 128).toNat :
                        Int)))).length ≤
            4294967296) then
    go
      (Int.fdiv x.fst (2 ^ min (Int.toNat 7) IntKind.i64.bits),
        x.snd ++
          (List.replicate 1 0).set 0
            (IntKind.u8.wrap
              (IntKind.i64.wrap
                (↑(BitVec.ofInt IntKind.i64.bits
                          (IntKind.i64.wrap
                            (↑(BitVec.ofInt IntKind.i64.bits x.fst &&& BitVec.ofInt IntKind.i64.bits 127).toNat :
                              Int)) |||
                        BitVec.ofInt IntKind.i64.bits 128).toNat :
                  Int))))
  else none
else some (x.fst, x.snd)
theorem i_Var_L11_eq (go x) : loopStep ⟨tabT tyl, ftab []⟩ (C0) (loopOf Try.f75 11) s75_11 go x = i_Var_L11 go x := by kernel_rfl
theorem l75_11 : CutOk Try.prog ⟨s75_11, iter i_Var_L11 FUEL⟩ (.loop (loopOf Try.f75 11)) := loop_of mix_ok rfl tyl_ok (fl := []) trivial (C := C0) rfl (pts := []) (by kernel_rfl) trivial i_Var_L11_eq
noncomputable def i_Var (x : Int) : Option (List UInt8) :=
  (i_within (x, 0, 562949953421311)).bind fun x_1 =>
  bif !x_1 then some []
  else
    (iter i_Var_L11 FUEL (x, List.replicate 0 0)).bind fun x =>
      bif
          true && (4 == 0 || 4 == 1 || [4, 3].contains 4 || [].contains 4) &&
            decide (List.length x.snd + ((List.replicate 1 0).set 0 (IntKind.u8.wrap x.fst)).length ≤ 4294967296) then
        some (List.map (fun b => UInt8.ofNat b.toNat) (x.snd ++ (List.replicate 1 0).set 0 (IntKind.u8.wrap x.fst)))
      else none
theorem i_Var_eq (x) : fnK ⟨tabT tyl, ftab [(39, ⟨s39, i_within⟩)]⟩ (ctab [(11, ⟨s75_11, iter i_Var_L11 FUEL⟩)]) Try.f75 s75 x = i_Var x := by kernel_rfl
theorem c75 : FnOk Try.prog 75 ⟨s75, i_Var⟩ := fn_of2 mix_ok rfl tyl_ok (fl := [(39, ⟨s39, i_within⟩)]) ⟨c39, trivial⟩ Try.func75 rfl rfl (C := ctab [(11, ⟨s75_11, iter i_Var_L11 FUEL⟩)]) (pts := [(⟨s75_11, iter i_Var_L11 FUEL⟩, .loop (loopOf Try.f75 11))]) (by kernel_rfl) ⟨l75_11, trivial⟩ i_Var_eq
/-- impl.ReadVar -/
def s119 : Sig := ⟨[.ro .str], [((.int .i64), true), ((.int .i64), true)]⟩
def s119_9 : CutSig := ⟨40, [0, 4, 5], [.ro .str, .ro (.int .i64), .ro (.int .i64)], [(.ex 0, [], []), (.ret, [2, 3], [((.int .i64), true), ((.int .i64), true)])]⟩
noncomputable def i_ReadVar_L9 (go : List UInt8 × Int × Int → Option (PUnit ⊕ Int × Int)) (x : List UInt8 × Int × Int) : Option (PUnit ⊕ Int × Int) :=
  (bif decide (x.snd.snd < (↑(List.length x.fst) : Int)) then some (decide (x.snd.snd < 7)) else some false).bind
  fun x_1 =>
  bif x_1 then
    bif decide (0 ≤ x.snd.snd) then
      x.fst[Int.toNat x.snd.snd]?.bind fun x_2 =>
        bif decide (0 ≤ IntKind.i64.wrap (7 * x.snd.snd)) then
          bif decide (0 ≤ x.snd.snd) then
            x.fst[Int.toNat x.snd.snd]?.bind fun x_3 =>
              bif decide ((↑x_3.toNat : Int) < 128) then
                (i_Var
                      (IntKind.i64.wrap
                        (↑(BitVec.ofInt IntKind.i64.bits x.snd.fst |||
                                BitVec.ofInt IntKind.i64.bits
                                  (IntKind.i64.wrap
                                    (IntKind.i64.wrap
                                        (IntKind.u8.wrap
                                          (↑(BitVec.ofInt IntKind.u8.bits (↑x_2.toNat : Int) &&&
                                                  BitVec.ofInt IntKind.u8.bits 127).toNat :
                                            Int)) *
                                      2 ^ min (IntKind.i64.wrap (7 * x.snd.snd)).toNat IntKind.i64.bits))).toNat :
                          Int))).bind
                  fun x_4 =>
                  bif
                      decide (0 ≤ IntKind.i64.wrap (x.snd.snd + 1)) &&
                        decide (IntKind.i64.wrap (x.snd.snd + 1) ≤ (↑(List.length x.fst) : Int)) then
                    bif !decide (x_4 = List.take (IntKind.i64.wrap (x.snd.snd + 1)).toNat x.fst) then
                      some (Sum.inr (0, 0))
                    else
                      some
                        (Sum.inr
                          (IntKind.i64.wrap
                              (↑(BitVec.ofInt IntKind.i64.bits x.snd.fst |||
                                      BitVec.ofInt IntKind.i64.bits
                                        (IntKind.i64.wrap
                                          (IntKind.i64.wrap
                                              (IntKind.u8.wrap
                                                (↑(BitVec.ofInt IntKind.u8.bits (↑x_2.toNat : Int) &&&
                                                        BitVec.ofInt IntKind.u8.bits 127).toNat :
                                                  Int)) *
                                            2 ^ min (IntKind.i64.wrap (7 * x.snd.snd)).toNat IntKind.i64.bits))).toNat :
                                Int),
                            IntKind.i64.wrap (x.snd.snd + 1)))
                  else none
              else
                go
                  (x.fst,
                    IntKind.i64.wrap
                      (↑(BitVec.ofInt IntKind.i64.bits x.snd.fst |||
                              BitVec.ofInt IntKind.i64.bits
                                (IntKind.i64.wrap
                                  (IntKind.i64.wrap
                                      (IntKind.u8.wrap
                                        (↑(BitVec.ofInt IntKind.u8.bits (↑x_2.toNat : Int) &&&
                                                BitVec.ofInt IntKind.u8.bits 127).toNat :
                                          Int)) *
                                    2 ^ min (IntKind.i64.wrap (7 * x.snd.snd)).toNat IntKind.i64.bits))).toNat :
                        Int),
                    IntKind.i64.wrap (x.snd.snd + 1))
          else none
        else none
    else none
  else some (Sum.inl ())
theorem i_ReadVar_L9_eq (go x) : loopStep ⟨tabT tyl, ftab [(75, ⟨s75, i_Var⟩)]⟩ (C0) (loopOf Try.f119 9) s119_9 go x = i_ReadVar_L9 go x := by kernel_rfl
theorem l119_9 : CutOk Try.prog ⟨s119_9, iter i_ReadVar_L9 FUEL⟩ (.loop (loopOf Try.f119 9)) := loop_of mix_ok rfl tyl_ok (fl := [(75, ⟨s75, i_Var⟩)]) ⟨c75, trivial⟩ (C := C0) rfl (pts := []) (by kernel_rfl) trivial i_ReadVar_L9_eq
noncomputable def i_ReadVar (x : List UInt8) : Option (Int × Int) :=
  (iter i_ReadVar_L9 FUEL (x, 0, 0)).bind fun x => sumK x (fun y => some (0, 0)) fun z => some (z.fst, z.snd)
theorem i_ReadVar_eq (x) : fnK ⟨tabT tyl, ftab [(75, ⟨s75, i_Var⟩)]⟩ (ctab [(9, ⟨s119_9, iter i_ReadVar_L9 FUEL⟩)]) Try.f119 s119 x = i_ReadVar x := by kernel_rfl
theorem c119 : FnOk Try.prog 119 ⟨s119, i_ReadVar⟩ := fn_of2 mix_ok rfl tyl_ok (fl := [(75, ⟨s75, i_Var⟩)]) ⟨c75, trivial⟩ Try.func119 rfl rfl (C := ctab [(9, ⟨s119_9, iter i_ReadVar_L9 FUEL⟩)]) (pts := [(⟨s119_9, iter i_ReadVar_L9 FUEL⟩, .loop (loopOf Try.f119 9))]) (by kernel_rfl) ⟨l119_9, trivial⟩ i_ReadVar_eq
/-- (*impl.scan).num -/
def s92 : Sig := ⟨[.pio t114], [((.int .i64), true)]⟩
noncomputable def i_scan_num (x : List UInt8 × Bool) : Option (Int × List UInt8 × Bool) :=
  (i_ReadVar x.fst).bind fun x_1 =>
  (bif !x.snd then some (decide (x_1.snd = 0)) else some true).bind fun x_2 =>
    bif x_2 then some (0, x.fst, true)
    else
      bif decide (0 ≤ x_1.snd) && decide (x_1.snd ≤ (↑(List.length x.fst) : Int)) then
        some (x_1.fst, List.drop (Int.toNat x_1.snd) x.fst, x.snd)
      else none
theorem i_scan_num_eq (x) : fnK ⟨tabT tyl, ftab [(119, ⟨s119, i_ReadVar⟩)]⟩ (C0) Try.f92 s92 x = i_scan_num x := by kernel_rfl
theorem c92 : FnOk Try.prog 92 ⟨s92, i_scan_num⟩ := fn_of mix_ok rfl tyl_ok (fl := [(119, ⟨s119, i_ReadVar⟩)]) ⟨c119, trivial⟩ Try.func92 rfl rfl cuts0 i_scan_num_eq
/-- impl.AnswerOk -/
def s120 : Sig := ⟨[.ro t52], [(.bool, true)]⟩
noncomputable def i_AnswerOk (x : Int × Int × Int × List UInt8 × Int × Int) : Option (Bool) :=
  (i_within (x.fst, 0, 5)).bind fun x_1 =>
  (bif x_1 then (i_within (x.snd.fst, 0, 6)).bind fun x => some x else some false).bind fun x_2 =>
    (bif x_2 then (i_within (x.snd.snd.fst, 0, 4)).bind fun x => some x else some false).bind fun x_3 =>
      (bif x_3 then
            (bif !decide ((↑(List.length x.snd.snd.snd.fst) : Int) = 0) then
                  some (decide ((↑(List.length x.snd.snd.snd.fst) : Int) = 32))
                else some true).bind
              fun x => some x
          else some false).bind
        fun x_4 =>
        (bif x_4 then (i_within (x.snd.snd.snd.snd.fst, 0, 250)).bind fun x => some x else some false).bind fun x_5 =>
          (bif x_5 then (i_within (x.snd.snd.snd.snd.snd, 0, 100000)).bind fun x => some x else some false).bind fun x =>
            some x
theorem i_AnswerOk_eq (x) : fnK ⟨tabT tyl, ftab [(39, ⟨s39, i_within⟩)]⟩ (C0) Try.f120 s120 x = i_AnswerOk x := by kernel_rfl
theorem c120 : FnOk Try.prog 120 ⟨s120, i_AnswerOk⟩ := fn_of mix_ok rfl tyl_ok (fl := [(39, ⟨s39, i_within⟩)]) ⟨c39, trivial⟩ Try.func120 rfl rfl cuts0 i_AnswerOk_eq
/-- impl.ShowAnswer -/
def s93 : Sig := ⟨[.ro t52], [(.str, true)]⟩
noncomputable def i_ShowAnswer (x : Int × Int × Int × List UInt8 × Int × Int) : Option (List UInt8) :=
  (i_AnswerOk x).bind fun x_1 =>
  bif !x_1 then some []
  else
    (i_Var x.fst).bind fun x_2 =>
      (i_Var x.snd.fst).bind fun x_3 =>
        bif decide (x_2.length + x_3.length ≤ 4611686018427387904) then
          (i_Var x.snd.snd.fst).bind fun x_4 =>
            bif decide ((x_2 ++ x_3).length + x_4.length ≤ 4611686018427387904) then
              (i_Var x.snd.snd.snd.snd.fst).bind fun x_5 =>
                bif decide ((x_2 ++ x_3 ++ x_4).length + x_5.length ≤ 4611686018427387904) then
                  (i_Var x.snd.snd.snd.snd.snd).bind fun x_6 =>
                    bif decide ((x_2 ++ x_3 ++ x_4 ++ x_5).length + x_6.length ≤ 4611686018427387904) then
                      bif
                          decide
                            ((x_2 ++ x_3 ++ x_4 ++ x_5 ++ x_6).length + List.length x.snd.snd.snd.fst ≤
                              4611686018427387904) then
                        some (x_2 ++ x_3 ++ x_4 ++ x_5 ++ x_6 ++ x.snd.snd.snd.fst)
                      else none
                    else none
                else none
            else none
        else none
theorem i_ShowAnswer_eq (x) : fnK ⟨tabT tyl, ftab [(75, ⟨s75, i_Var⟩), (120, ⟨s120, i_AnswerOk⟩)]⟩ (C0) Try.f93 s93 x = i_ShowAnswer x := by kernel_rfl
theorem c93 : FnOk Try.prog 93 ⟨s93, i_ShowAnswer⟩ := fn_of mix_ok rfl tyl_ok (fl := [(75, ⟨s75, i_Var⟩), (120, ⟨s120, i_AnswerOk⟩)]) ⟨c75, c120, trivial⟩ Try.func93 rfl rfl cuts0 i_ShowAnswer_eq
/-- impl.ReadAnswer -/
def s56 : Sig := ⟨[.ro .str], [(t52, true), (.bool, true)]⟩
noncomputable def i_ReadAnswer (x : List UInt8) : Option ((Int × Int × Int × List UInt8 × Int × Int) × Bool) :=
  (i_scan_num (x, false)).bind fun x_1 =>
  (i_scan_num x_1.snd).bind fun x_2 =>
    (i_scan_num x_2.snd).bind fun x_3 =>
      (i_scan_num x_3.snd).bind fun x_4 =>
        (i_scan_num x_4.snd).bind fun x_5 =>
          (bif !x_5.snd.snd then some (decide (x = [])) else some true).bind fun x_6 =>
            (bif !x_6 then
                  (i_ShowAnswer (x_1.fst, x_2.fst, x_3.fst, x_5.snd.fst, x_4.fst, x_5.fst)).bind fun x_7 =>
                    some !decide (x_7 = x)
                else some true).bind
              fun x =>
              bif x then some ((0, 0, 0, [], 0, 0), false)
              else some ((x_1.fst, x_2.fst, x_3.fst, x_5.snd.fst, x_4.fst, x_5.fst), true)
theorem i_ReadAnswer_eq (x) : fnK ⟨tabT tyl, ftab [(92, ⟨s92, i_scan_num⟩), (93, ⟨s93, i_ShowAnswer⟩)]⟩ (C0) Try.f56 s56 x = i_ReadAnswer x := by kernel_rfl
theorem c56 : FnOk Try.prog 56 ⟨s56, i_ReadAnswer⟩ := fn_of mix_ok rfl tyl_ok (fl := [(92, ⟨s92, i_scan_num⟩), (93, ⟨s93, i_ShowAnswer⟩)]) ⟨c92, c93, trivial⟩ Try.func56 rfl rfl cuts0 i_ReadAnswer_eq
/-- impl.isServer -/
def s45 : Sig := ⟨[.ro (.int .i64)], [(.bool, true)]⟩
noncomputable def i_isServer (x : Int) : Option (Bool) :=
  (i_within (x, 0, 4)).bind fun x => some x
theorem i_isServer_eq (x) : fnK ⟨tabT tyl, ftab [(39, ⟨s39, i_within⟩)]⟩ (C0) Try.f45 s45 x = i_isServer x := by kernel_rfl
theorem c45 : FnOk Try.prog 45 ⟨s45, i_isServer⟩ := fn_of mix_ok rfl tyl_ok (fl := [(39, ⟨s39, i_within⟩)]) ⟨c39, trivial⟩ Try.func45 rfl rfl cuts0 i_isServer_eq
/-- impl.isClient -/
def s116 : Sig := ⟨[.ro (.int .i64)], [(.bool, true)]⟩
noncomputable def i_isClient (x : Int) : Option (Bool) :=
  (i_within (x, 11, 16)).bind fun x => some x
theorem i_isClient_eq (x) : fnK ⟨tabT tyl, ftab [(39, ⟨s39, i_within⟩)]⟩ (C0) Try.f116 s116 x = i_isClient x := by kernel_rfl
theorem c116 : FnOk Try.prog 116 ⟨s116, i_isClient⟩ := fn_of mix_ok rfl tyl_ok (fl := [(39, ⟨s39, i_within⟩)]) ⟨c39, trivial⟩ Try.func116 rfl rfl cuts0 i_isClient_eq
/-- impl.addressed -/
def s86 : Sig := ⟨[.ro t41], [(.bool, true)]⟩
def s86_8 : CutSig := ⟨48, [1, 4, 5], [.pin t41, .ro (.int .i64), .ro .bool], [(.nor, [5], [(.bool, true)])]⟩
noncomputable def i_addressed_L8 (x : (Int × Int × Int × Int × Int × Int × Int × Bool × List (Int × List UInt8) × List UInt8) × Int × Bool) : Option (Bool) :=
  bif x.snd.snd then some x.snd.snd
else
  bif decide (x.snd.fst = 2) then some (decide (x.snd.fst = 2))
  else
    bif decide (x.snd.fst = 3) then some (decide (x.snd.fst = 3))
    else bif decide (x.snd.fst = 4) then some (decide (x.snd.fst = 4)) else some (decide (x.snd.fst = 5))
theorem i_addressed_L8_eq (x) : cutFn ⟨tabT tyl, ftab []⟩ (C0) (condOf Try.f86 8) s86_8 x = i_addressed_L8 x := by kernel_rfl
theorem l86_8 : CutOk Try.prog ⟨s86_8, i_addressed_L8⟩ (condOf Try.f86 8) := cond_of mix_ok rfl tyl_ok (fl := []) trivial (C := C0) rfl (pts := []) (by kernel_rfl) trivial i_addressed_L8_eq
noncomputable def i_addressed (x : Int × Int × Int × Int × Int × Int × Int × Bool × List (Int × List UInt8) × List UInt8) : Option (Bool) :=
  (i_addressed_L8 (x, x.fst, decide (x.fst = 1))).bind fun x_1 =>
  bif x_1 then
    (i_isServer x.snd.fst).bind fun x_2 =>
      (bif x_2 then (i_isServer x.snd.snd.fst).bind fun x => some x else some false).bind fun x_3 =>
        (bif x_3 then some !decide (x.snd.fst = x.snd.snd.fst) else some false).bind fun x => some x
  else
    bif decide (x.fst = 6) then
      bif decide (x.fst = 6) then
        (i_isClient x.snd.fst).bind fun x_2 =>
          (bif x_2 then (i_isServer x.snd.snd.fst).bind fun x => some x else some false).bind fun x => some x
      else
        bif decide (x.fst = 7) then
          bif decide (x.fst = 7) then
            (i_isServer x.snd.fst).bind fun x_2 =>
              (bif x_2 then (i_isClient x.snd.snd.fst).bind fun x => some x else some false).bind fun x => some x
          else some false
        else
          bif decide (x.fst = 9) then
            (i_isServer x.snd.fst).bind fun x_2 =>
              (bif x_2 then (i_isClient x.snd.snd.fst).bind fun x => some x else some false).bind fun x => some x
          else some false
    else
      bif decide (x.fst = 8) then
        (i_isClient x.snd.fst).bind fun x_2 =>
          (bif x_2 then (i_isServer x.snd.snd.fst).bind fun x => some x else some false).bind fun x => some x
      else
        bif decide (x.fst = 7) then
          bif decide (x.fst = 7) then
            (i_isServer x.snd.fst).bind fun x_2 =>
              (bif x_2 then (i_isClient x.snd.snd.fst).bind fun x => some x else some false).bind fun x => some x
          else some false
        else
          bif decide (x.fst = 9) then
            (i_isServer x.snd.fst).bind fun x_2 =>
              (bif x_2 then (i_isClient x.snd.snd.fst).bind fun x => some x else some false).bind fun x => some x
          else some false
theorem i_addressed_eq (x) : fnK ⟨tabT tyl, ftab [(45, ⟨s45, i_isServer⟩), (116, ⟨s116, i_isClient⟩)]⟩ (ctab [(8, ⟨s86_8, i_addressed_L8⟩)]) Try.f86 s86 x = i_addressed x := by kernel_rfl
theorem c86 : FnOk Try.prog 86 ⟨s86, i_addressed⟩ := fn_of2 mix_ok rfl tyl_ok (fl := [(45, ⟨s45, i_isServer⟩), (116, ⟨s116, i_isClient⟩)]) ⟨c45, c116, trivial⟩ Try.func86 rfl rfl (C := ctab [(8, ⟨s86_8, i_addressed_L8⟩)]) (pts := [(⟨s86_8, i_addressed_L8⟩, condOf Try.f86 8)]) (by kernel_rfl) ⟨l86_8, trivial⟩ i_addressed_eq
/-- slices.Equal[[]impl.Entry,impl.Entry] -/
def s117 : Sig := ⟨[.ro (.sl 100 t100), .ro (.sl 100 t100)], [(.bool, true)]⟩
def s117_11 : CutSig := ⟨26, [0, 1, 12, 13], [.ro (.sl 100 t100), .ro (.sl 100 t100), .ro (.int .i64), .ro (.int .i64)], [(.ex 0, [], []), (.ret, [4], [(.bool, true)])]⟩
noncomputable def g_slices_Equal_impl_Entry_impl_Entry_L11 (go : List (Int × List UInt8) × List (Int × List UInt8) × Int × Int → Option (PUnit ⊕ Bool)) (x : List (Int × List UInt8) × List (Int × List UInt8) × Int × Int) : Option (PUnit ⊕ Bool) :=
  bif decide (x.snd.snd.snd < x.snd.snd.fst) then
  bif decide (0 ≤ x.snd.snd.snd) then
    x.fst[Int.toNat x.snd.snd.snd]?.bind fun x_1 =>
      bif decide (0 ≤ x.snd.snd.snd) then
        x.snd.fst[Int.toNat x.snd.snd.snd]?.bind fun x_2 =>
          bif !(decide (x_1.fst = x_2.fst) && decide (x_1.snd = x_2.snd)) then some (Sum.inr false)
          else go (x.fst, x.snd.fst, x.snd.snd.fst, IntKind.i64.wrap (x.snd.snd.snd + 1))
      else none
  else none
else some (Sum.inl ())
theorem g_slices_Equal_impl_Entry_impl_Entry_L11_eq (go x) : loopStep ⟨tabT tyl, ftab []⟩ (C0) (loopOf Try.f117 11) s117_11 go x = g_slices_Equal_impl_Entry_impl_Entry_L11 go x := by kernel_rfl
theorem l117_11 : CutOk Try.prog ⟨s117_11, iter g_slices_Equal_impl_Entry_impl_Entry_L11 FUEL⟩ (.loop (loopOf Try.f117 11)) := loop_of mix_ok rfl tyl_ok (fl := []) trivial (C := C0) rfl (pts := []) (by kernel_rfl) trivial g_slices_Equal_impl_Entry_impl_Entry_L11_eq
noncomputable def g_slices_Equal_impl_Entry_impl_Entry (x : List (Int × List UInt8) × List (Int × List UInt8)) : Option (Bool) :=
  bif !decide ((↑(List.length x.fst) : Int) = (↑(List.length x.snd) : Int)) then some false
else
  (iter g_slices_Equal_impl_Entry_impl_Entry_L11 FUEL (x.fst, x.snd, (↑(List.length x.fst) : Int), 0)).bind fun x =>
    sumK x (fun y => some true) fun z => some z
theorem g_slices_Equal_impl_Entry_impl_Entry_eq (x) : fnK ⟨tabT tyl, ftab []⟩ (ctab [(11, ⟨s117_11, iter g_slices_Equal_impl_Entry_impl_Entry_L11 FUEL⟩)]) Try.f117 s117 x = g_slices_Equal_impl_Entry_impl_Entry x := by kernel_rfl
theorem c117 : FnOk Try.prog 117 ⟨s117, g_slices_Equal_impl_Entry_impl_Entry⟩ := fn_of2 mix_ok rfl tyl_ok (fl := []) trivial Try.func117 rfl rfl (C := ctab [(11, ⟨s117_11, iter g_slices_Equal_impl_Entry_impl_Entry_L11 FUEL⟩)]) (pts := [(⟨s117_11, iter g_slices_Equal_impl_Entry_impl_Entry_L11 FUEL⟩, .loop (loopOf Try.f117 11))]) (by kernel_rfl) ⟨l117_11, trivial⟩ g_slices_Equal_impl_Entry_impl_Entry_eq
/-- impl.sameMsg -/
def s87 : Sig := ⟨[.ro t41, .ro t41], [(.bool, true)]⟩
noncomputable def i_sameMsg (x : (Int × Int × Int × Int × Int × Int × Int × Bool × List (Int × List UInt8) × List UInt8) ×
  Int × Int × Int × Int × Int × Int × Int × Bool × List (Int × List UInt8) × List UInt8) : Option (Bool) :=
  (bif decide (x.fst.fst = x.snd.fst) then some (decide (x.fst.snd.fst = x.snd.snd.fst)) else some false).bind fun x_1 =>
  (bif x_1 then some (decide (x.fst.snd.snd.fst = x.snd.snd.snd.fst)) else some false).bind fun x_2 =>
    (bif x_2 then some (decide (x.fst.snd.snd.snd.fst = x.snd.snd.snd.snd.fst)) else some false).bind fun x_3 =>
      (bif x_3 then some (decide (x.fst.snd.snd.snd.snd.fst = x.snd.snd.snd.snd.snd.fst)) else some false).bind
        fun x_4 =>
        (bif x_4 then some (decide (x.fst.snd.snd.snd.snd.snd.fst = x.snd.snd.snd.snd.snd.snd.fst))
            else some false).bind
          fun x_5 =>
          (bif x_5 then some (decide (x.fst.snd.snd.snd.snd.snd.snd.fst = x.snd.snd.snd.snd.snd.snd.snd.fst))
              else some false).bind
            fun x_6 =>
            (bif x_6 then some (x.fst.snd.snd.snd.snd.snd.snd.snd.fst == x.snd.snd.snd.snd.snd.snd.snd.snd.fst)
                else some false).bind
              fun x_7 =>
              (bif x_7 then
                    (g_slices_Equal_impl_Entry_impl_Entry (x.fst.snd.snd.snd.snd.snd.snd.snd.snd.fst, x.snd.snd.snd.snd.snd.snd.snd.snd.snd.fst)).bind
                      fun x => some x
                  else some false).bind
                fun x_8 =>
                (bif x_8 then
                      some
                        (decide (x.fst.snd.snd.snd.snd.snd.snd.snd.snd.snd = x.snd.snd.snd.snd.snd.snd.snd.snd.snd.snd))
                    else some false).bind
                  fun x => some x
theorem i_sameMsg_eq (x) : fnK ⟨tabT tyl, ftab [(117, ⟨s117, g_slices_Equal_impl_Entry_impl_Entry⟩)]⟩ (C0) Try.f87 s87 x = i_sameMsg x := by kernel_rfl
theorem c87 : FnOk Try.prog 87 ⟨s87, i_sameMsg⟩ := fn_of mix_ok rfl tyl_ok (fl := [(117, ⟨s117, g_slices_Equal_impl_Entry_impl_Entry⟩)]) ⟨c117, trivial⟩ Try.func87 rfl rfl cuts0 i_sameMsg_eq
/-- impl.named -/
def s88 : Sig := ⟨[.ro t41], [(t41, false)]⟩
def s88_8 : CutSig := ⟨89, [1, 2, 3, 13], [.pin t41, .pin t41, .pio t41, .ro .bool], [(.nor, [], [])]⟩
noncomputable def i_named_L8 (x : (Int × Int × Int × Int × Int × Int × Int × Bool × List (Int × List UInt8) × List UInt8) ×
  (Int × Int × Int × Int × Int × Int × Int × Bool × List (Int × List UInt8) × List UInt8) ×
    (Int × Int × Int × Int × Int × Int × Int × Bool × List (Int × List UInt8) × List UInt8) × Bool) : Option (Int × Int × Int × Int × Int × Int × Int × Bool × List (Int × List UInt8) × List UInt8) :=
  bif x.snd.snd.snd then
  some
    (x.snd.snd.fst.fst, x.snd.snd.fst.snd.fst, x.snd.snd.fst.snd.snd.fst, x.fst.snd.snd.snd.fst,
      x.snd.snd.fst.snd.snd.snd.snd)
else some x.snd.snd.fst
theorem i_named_L8_eq (x) : cutFn ⟨tabT tyl, ftab []⟩ (C0) (condOf Try.f88 8) s88_8 x = i_named_L8 x := by kernel_rfl
theorem l88_8 : CutOk Try.prog ⟨s88_8, i_named_L8⟩ (condOf Try.f88 8) := cond_of mix_ok rfl tyl_ok (fl := []) trivial (C := C0) rfl (pts := []) (by kernel_rfl) trivial i_named_L8_eq
def s88_12 : CutSig := ⟨89, [1, 2, 3, 19], [.pin t41, .pin t41, .pio t41, .ro .bool], [(.nor, [], [])]⟩
noncomputable def i_named_L12 (x : (Int × Int × Int × Int × Int × Int × Int × Bool × List (Int × List UInt8) × List UInt8) ×
  (Int × Int × Int × Int × Int × Int × Int × Bool × List (Int × List UInt8) × List UInt8) ×
    (Int × Int × Int × Int × Int × Int × Int × Bool × List (Int × List UInt8) × List UInt8) × Bool) : Option (Int × Int × Int × Int × Int × Int × Int × Bool × List (Int × List UInt8) × List UInt8) :=
  bif x.snd.snd.snd then
  some
    (x.snd.snd.fst.fst, x.snd.snd.fst.snd.fst, x.snd.snd.fst.snd.snd.fst, x.snd.snd.fst.snd.snd.snd.fst,
      x.fst.snd.snd.snd.snd.fst, x.snd.snd.fst.snd.snd.snd.snd.snd)
else some x.snd.snd.fst
theorem i_named_L12_eq (x) : cutFn ⟨tabT tyl, ftab []⟩ (C0) (condOf Try.f88 12) s88_12 x = i_named_L12 x := by kernel_rfl
theorem l88_12 : CutOk Try.prog ⟨s88_12, i_named_L12⟩ (condOf Try.f88 12) := cond_of mix_ok rfl tyl_ok (fl := []) trivial (C := C0) rfl (pts := []) (by kernel_rfl) trivial i_named_L12_eq
def s88_16 : CutSig := ⟨89, [1, 2, 3, 35], [.pin t41, .pin t41, .pio t41, .ro .bool], [(.nor, [], [])]⟩
noncomputable def i_named_L16 (x : (Int × Int × Int × Int × Int × Int × Int × Bool × List (Int × List UInt8) × List UInt8) ×
  (Int × Int × Int × Int × Int × Int × Int × Bool × List (Int × List UInt8) × List UInt8) ×
    (Int × Int × Int × Int × Int × Int × Int × Bool × List (Int × List UInt8) × List UInt8) × Bool) : Option (Int × Int × Int × Int × Int × Int × Int × Bool × List (Int × List UInt8) × List UInt8) :=
  bif x.snd.snd.snd then
  some
    (x.snd.snd.fst.fst, x.snd.snd.fst.snd.fst, x.snd.snd.fst.snd.snd.fst, x.snd.snd.fst.snd.snd.snd.fst,
      x.snd.snd.fst.snd.snd.snd.snd.fst, x.fst.snd.snd.snd.snd.snd.fst, x.snd.snd.fst.snd.snd.snd.snd.snd.snd)
else some x.snd.snd.fst
theorem i_named_L16_eq (x) : cutFn ⟨tabT tyl, ftab []⟩ (C0) (condOf Try.f88 16) s88_16 x = i_named_L16 x := by kernel_rfl
theorem l88_16 : CutOk Try.prog ⟨s88_16, i_named_L16⟩ (condOf Try.f88 16) := cond_of mix_ok rfl tyl_ok (fl := []) trivial (C := C0) rfl (pts := []) (by kernel_rfl) trivial i_named_L16_eq
noncomputable def i_named (x : Int × Int × Int × Int × Int × Int × Int × Bool × List (Int × List UInt8) × List UInt8) : Option (Int × Int × Int × Int × Int × Int × Int × Bool × List (Int × List UInt8) × List UInt8) :=
  (i_named_L8
      (x, (0, 0, 0, 0, 0, 0, 0, false, [], []), (x.fst, x.snd.fst, x.snd.snd.fst, 0, 0, 0, 0, false, [], []),
        decide (x.fst ≤ 5))).bind
  fun x_1 =>
  (i_named_L12 (x, (0, 0, 0, 0, 0, 0, 0, false, [], []), x_1, !decide (x.fst = 2))).bind fun x_2 =>
    (bif !decide (x.fst = 1) then some (decide (x.fst = 3)) else some true).bind fun x_3 =>
      (bif !x_3 then some (decide (x.fst = 5)) else some true).bind fun x_4 =>
        (i_named_L16 (x, (0, 0, 0, 0, 0, 0, 0, false, [], []), x_2, x_4)).bind fun x_5 =>
          (bif !decide (x.fst = 3) then some (decide (x.fst = 8)) else some true).bind fun x_6 =>
            (bif !x_6 then some (decide (x.fst = 9)) else some true).bind fun x_7 =>
              bif x_7 then
                (bif !decide (x.fst = 2) then some (decide (x.fst = 4)) else some true).bind fun x_8 =>
                  (bif !x_8 then some (decide (x.fst = 9)) else some true).bind fun x_9 =>
                    bif x_9 then
                      bif decide (x.fst = 3) then
                        (bif decide (5 ≤ x.fst) then some !decide (x.fst = 8) else some false).bind fun x_10 =>
                          bif x_10 then
                            some
                              (x_5.fst, x_5.snd.fst, x_5.snd.snd.fst, x_5.snd.snd.snd.fst, x_5.snd.snd.snd.snd.fst,
                                x_5.snd.snd.snd.snd.snd.fst, x.snd.snd.snd.snd.snd.snd.fst,
                                x.snd.snd.snd.snd.snd.snd.snd.fst, x.snd.snd.snd.snd.snd.snd.snd.snd.fst,
                                x.snd.snd.snd.snd.snd.snd.snd.snd.snd)
                          else
                            some
                              (x_5.fst, x_5.snd.fst, x_5.snd.snd.fst, x_5.snd.snd.snd.fst, x_5.snd.snd.snd.snd.fst,
                                x_5.snd.snd.snd.snd.snd.fst, x.snd.snd.snd.snd.snd.snd.fst,
                                x.snd.snd.snd.snd.snd.snd.snd.fst, x.snd.snd.snd.snd.snd.snd.snd.snd.fst,
                                x_5.snd.snd.snd.snd.snd.snd.snd.snd.snd)
                      else
                        (bif decide (5 ≤ x.fst) then some !decide (x.fst = 8) else some false).bind fun x_10 =>
                          bif x_10 then
                            some
                              (x_5.fst, x_5.snd.fst, x_5.snd.snd.fst, x_5.snd.snd.snd.fst, x_5.snd.snd.snd.snd.fst,
                                x_5.snd.snd.snd.snd.snd.fst, x.snd.snd.snd.snd.snd.snd.fst,
                                x.snd.snd.snd.snd.snd.snd.snd.fst, x_5.snd.snd.snd.snd.snd.snd.snd.snd.fst,
                                x.snd.snd.snd.snd.snd.snd.snd.snd.snd)
                          else
                            some
                              (x_5.fst, x_5.snd.fst, x_5.snd.snd.fst, x_5.snd.snd.snd.fst, x_5.snd.snd.snd.snd.fst,
                                x_5.snd.snd.snd.snd.snd.fst, x.snd.snd.snd.snd.snd.snd.fst,
                                x.snd.snd.snd.snd.snd.snd.snd.fst, x_5.snd.snd.snd.snd.snd.snd.snd.snd)
                    else
                      bif decide (x.fst = 3) then
                        (bif decide (5 ≤ x.fst) then some !decide (x.fst = 8) else some false).bind fun x_10 =>
                          bif x_10 then
                            some
                              (x_5.fst, x_5.snd.fst, x_5.snd.snd.fst, x_5.snd.snd.snd.fst, x_5.snd.snd.snd.snd.fst,
                                x_5.snd.snd.snd.snd.snd.fst, x.snd.snd.snd.snd.snd.snd.fst,
                                x_5.snd.snd.snd.snd.snd.snd.snd.fst, x.snd.snd.snd.snd.snd.snd.snd.snd.fst,
                                x.snd.snd.snd.snd.snd.snd.snd.snd.snd)
                          else
                            some
                              (x_5.fst, x_5.snd.fst, x_5.snd.snd.fst, x_5.snd.snd.snd.fst, x_5.snd.snd.snd.snd.fst,
                                x_5.snd.snd.snd.snd.snd.fst, x.snd.snd.snd.snd.snd.snd.fst,
                                x_5.snd.snd.snd.snd.snd.snd.snd.fst, x.snd.snd.snd.snd.snd.snd.snd.snd.fst,
                                x_5.snd.snd.snd.snd.snd.snd.snd.snd.snd)
                      else
                        (bif decide (5 ≤ x.fst) then some !decide (x.fst = 8) else some false).bind fun x_10 =>
                          bif x_10 then
                            some
                              (x_5.fst, x_5.snd.fst, x_5.snd.snd.fst, x_5.snd.snd.snd.fst, x_5.snd.snd.snd.snd.fst,
                                x_5.snd.snd.snd.snd.snd.fst, x.snd.snd.snd.snd.snd.snd.fst,
                                x_5.snd.snd.snd.snd.snd.snd.snd.fst, x_5.snd.snd.snd.snd.snd.snd.snd.snd.fst,
                                x.snd.snd.snd.snd.snd.snd.snd.snd.snd)
                          else
                            some
                              (x_5.fst, x_5.snd.fst, x_5.snd.snd.fst, x_5.snd.snd.snd.fst, x_5.snd.snd.snd.snd.fst,
                                x_5.snd.snd.snd.snd.snd.fst, x.snd.snd.snd.snd.snd.snd.fst,
                                x_5.snd.snd.snd.snd.snd.snd.snd)
              else
                (bif !decide (x.fst = 2) then some (decide (x.fst = 4)) else some true).bind fun x_8 =>
                  (bif !x_8 then some (decide (x.fst = 9)) else some true).bind fun x_9 =>
                    bif x_9 then
                      bif decide (x.fst = 3) then
                        (bif decide (5 ≤ x.fst) then some !decide (x.fst = 8) else some false).bind fun x_10 =>
                          bif x_10 then
                            some
                              (x_5.fst, x_5.snd.fst, x_5.snd.snd.fst, x_5.snd.snd.snd.fst, x_5.snd.snd.snd.snd.fst,
                                x_5.snd.snd.snd.snd.snd.fst, x_5.snd.snd.snd.snd.snd.snd.fst,
                                x.snd.snd.snd.snd.snd.snd.snd.fst, x.snd.snd.snd.snd.snd.snd.snd.snd.fst,
                                x.snd.snd.snd.snd.snd.snd.snd.snd.snd)
                          else
                            some
                              (x_5.fst, x_5.snd.fst, x_5.snd.snd.fst, x_5.snd.snd.snd.fst, x_5.snd.snd.snd.snd.fst,
                                x_5.snd.snd.snd.snd.snd.fst, x_5.snd.snd.snd.snd.snd.snd.fst,
                                x.snd.snd.snd.snd.snd.snd.snd.fst, x.snd.snd.snd.snd.snd.snd.snd.snd.fst,
                                x_5.snd.snd.snd.snd.snd.snd.snd.snd.snd)
                      else
                        (bif decide (5 ≤ x.fst) then some !decide (x.fst = 8) else some false).bind fun x_10 =>
                          bif x_10 then
                            some
                              (x_5.fst, x_5.snd.fst, x_5.snd.snd.fst, x_5.snd.snd.snd.fst, x_5.snd.snd.snd.snd.fst,
                                x_5.snd.snd.snd.snd.snd.fst, x_5.snd.snd.snd.snd.snd.snd.fst,
                                x.snd.snd.snd.snd.snd.snd.snd.fst, x_5.snd.snd.snd.snd.snd.snd.snd.snd.fst,
                                x.snd.snd.snd.snd.snd.snd.snd.snd.snd)
                          else
                            some
                              (x_5.fst, x_5.snd.fst, x_5.snd.snd.fst, x_5.snd.snd.snd.fst, x_5.snd.snd.snd.snd.fst,
                                x_5.snd.snd.snd.snd.snd.fst, x_5.snd.snd.snd.snd.snd.snd.fst,
                                x.snd.snd.snd.snd.snd.snd.snd.fst, x_5.snd.snd.snd.snd.snd.snd.snd.snd)
                    else
                      bif decide (x.fst = 3) then
                        (bif decide (5 ≤ x.fst) then some !decide (x.fst = 8) else some false).bind fun x_10 =>
                          bif x_10 then
                            some
                              (x_5.fst, x_5.snd.fst, x_5.snd.snd.fst, x_5.snd.snd.snd.fst, x_5.snd.snd.snd.snd.fst,
                                x_5.snd.snd.snd.snd.snd.fst, x_5.snd.snd.snd.snd.snd.snd.fst,
                                x_5.snd.snd.snd.snd.snd.snd.snd.fst, x.snd.snd.snd.snd.snd.snd.snd.snd.fst,
                                x.snd.snd.snd.snd.snd.snd.snd.snd.snd)
                          else
                            some
                              (x_5.fst, x_5.snd.fst, x_5.snd.snd.fst, x_5.snd.snd.snd.fst, x_5.snd.snd.snd.snd.fst,
                                x_5.snd.snd.snd.snd.snd.fst, x_5.snd.snd.snd.snd.snd.snd.fst,
                                x_5.snd.snd.snd.snd.snd.snd.snd.fst, x.snd.snd.snd.snd.snd.snd.snd.snd.fst,
                                x_5.snd.snd.snd.snd.snd.snd.snd.snd.snd)
                      else
                        (bif decide (5 ≤ x.fst) then some !decide (x.fst = 8) else some false).bind fun x_10 =>
                          bif x_10 then
                            some
                              (x_5.fst, x_5.snd.fst, x_5.snd.snd.fst, x_5.snd.snd.snd.fst, x_5.snd.snd.snd.snd.fst,
                                x_5.snd.snd.snd.snd.snd.fst, x_5.snd.snd.snd.snd.snd.snd.fst,
                                x_5.snd.snd.snd.snd.snd.snd.snd.fst, x_5.snd.snd.snd.snd.snd.snd.snd.snd.fst,
                                x.snd.snd.snd.snd.snd.snd.snd.snd.snd)
                          else some x_5
theorem i_named_eq (x) : fnK ⟨tabT tyl, ftab []⟩ (ctab [(8, ⟨s88_8, i_named_L8⟩), (12, ⟨s88_12, i_named_L12⟩), (16, ⟨s88_16, i_named_L16⟩)]) Try.f88 s88 x = i_named x := by kernel_rfl
theorem c88 : FnOk Try.prog 88 ⟨s88, i_named⟩ := fn_of2 mix_ok rfl tyl_ok (fl := []) trivial Try.func88 rfl rfl (C := ctab [(8, ⟨s88_8, i_named_L8⟩), (12, ⟨s88_12, i_named_L12⟩), (16, ⟨s88_16, i_named_L16⟩)]) (pts := [(⟨s88_8, i_named_L8⟩, condOf Try.f88 8), (⟨s88_12, i_named_L12⟩, condOf Try.f88 12), (⟨s88_16, i_named_L16⟩, condOf Try.f88 16)]) (by kernel_rfl) ⟨l88_8, l88_12, l88_16, trivial⟩ i_named_eq
/-- impl.isBase -/
def s89 : Sig := ⟨[.ro (.int .i64), .ro (.int .i64)], [(.bool, true)]⟩
noncomputable def i_isBase (x : Int × Int) : Option (Bool) :=
  (bif decide (x.fst = 0) then some (decide (x.snd = 0)) else some false).bind fun x_1 =>
  (bif !x_1 then
        (i_within (x.fst, 1, 100000)).bind fun x_2 =>
          (bif x_2 then (i_within (x.snd, 1, 100000)).bind fun x => some x else some false).bind fun x => some x
      else some true).bind
    fun x => some x
theorem i_isBase_eq (x) : fnK ⟨tabT tyl, ftab [(39, ⟨s39, i_within⟩)]⟩ (C0) Try.f89 s89 x = i_isBase x := by kernel_rfl
theorem c89 : FnOk Try.prog 89 ⟨s89, i_isBase⟩ := fn_of mix_ok rfl tyl_ok (fl := [(39, ⟨s39, i_within⟩)]) ⟨c39, trivial⟩ Try.func89 rfl rfl cuts0 i_isBase_eq
/-- impl.entriesOk -/
def s90 : Sig := ⟨[.ro t41], [(.bool, true)]⟩
def s90_9 : CutSig := ⟨45, [1, 3, 10, 11, 12], [.pin t41, .ro (.int .i64), .ro (.sl 100 t100), .ro (.int .i64), .ro (.int .i64)], [(.ex 0, [], []), (.ret, [2], [(.bool, true)])]⟩
noncomputable def i_entriesOk_L9 (go : (Int × Int × Int × Int × Int × Int × Int × Bool × List (Int × List UInt8) × List UInt8) ×
  Int × List (Int × List UInt8) × Int × Int → Option (PUnit ⊕ Bool)) (x : (Int × Int × Int × Int × Int × Int × Int × Bool × List (Int × List UInt8) × List UInt8) ×
  Int × List (Int × List UInt8) × Int × Int) : Option (PUnit ⊕ Bool) :=
  bif decide (x.snd.snd.snd.snd < x.snd.snd.snd.fst) then
  bif decide (0 ≤ x.snd.snd.snd.snd) then
    x.snd.snd.fst[Int.toNat x.snd.snd.snd.snd]?.bind fun x_1 =>
      (bif !decide (900 < (↑(List.length x_1.snd) : Int)) then
            (i_within (x_1.fst, x.snd.fst, x.fst.snd.snd.snd.fst)).bind fun x => some !x
          else some true).bind
        fun x_2 =>
        bif x_2 then some (Sum.inr false)
        else go (x.fst, x_1.fst, x.snd.snd.fst, x.snd.snd.snd.fst, IntKind.i64.wrap (x.snd.snd.snd.snd + 1))
  else none
else some (Sum.inl ())
theorem i_entriesOk_L9_eq (go x) : loopStep ⟨tabT tyl, ftab [(39, ⟨s39, i_within⟩)]⟩ (C0) (loopOf Try.f90 9) s90_9 go x = i_entriesOk_L9 go x := by kernel_rfl
theorem l90_9 : CutOk Try.prog ⟨s90_9, iter i_entriesOk_L9 FUEL⟩ (.loop (loopOf Try.f90 9)) := loop_of mix_ok rfl tyl_ok (fl := [(39, ⟨s39, i_within⟩)]) ⟨c39, trivial⟩ (C := C0) rfl (pts := []) (by kernel_rfl) trivial i_entriesOk_L9_eq
noncomputable def i_entriesOk (x : Int × Int × Int × Int × Int × Int × Int × Bool × List (Int × List UInt8) × List UInt8) : Option (Bool) :=
  (iter i_entriesOk_L9 FUEL
      (x, bif decide (1 < x.snd.snd.snd.snd.snd.fst) then x.snd.snd.snd.snd.snd.fst else 1,
        x.snd.snd.snd.snd.snd.snd.snd.snd.fst, (↑(List.length x.snd.snd.snd.snd.snd.snd.snd.snd.fst) : Int), 0)).bind
  fun x_1 =>
  sumK x_1
    (fun y =>
      (bif decide ((↑(List.length x.snd.snd.snd.snd.snd.snd.snd.snd.fst) : Int) ≤ 4) then
            some
              (decide
                (IntKind.i64.wrap
                    (x.snd.snd.snd.snd.fst + (↑(List.length x.snd.snd.snd.snd.snd.snd.snd.snd.fst) : Int)) ≤
                  100000))
          else some false).bind
        fun x => some x)
    fun z => some z
theorem i_entriesOk_eq (x) : fnK ⟨tabT tyl, ftab [(39, ⟨s39, i_within⟩)]⟩ (ctab [(9, ⟨s90_9, iter i_entriesOk_L9 FUEL⟩)]) Try.f90 s90 x = i_entriesOk x := by kernel_rfl
theorem c90 : FnOk Try.prog 90 ⟨s90, i_entriesOk⟩ := fn_of2 mix_ok rfl tyl_ok (fl := [(39, ⟨s39, i_within⟩)]) ⟨c39, trivial⟩ Try.func90 rfl rfl (C := ctab [(9, ⟨s90_9, iter i_entriesOk_L9 FUEL⟩)]) (pts := [(⟨s90_9, iter i_entriesOk_L9 FUEL⟩, .loop (loopOf Try.f90 9))]) (by kernel_rfl) ⟨l90_9, trivial⟩ i_entriesOk_eq
/-- impl.ShowOp -/
def s47 : Sig := ⟨[.ro t28], [(.str, true)]⟩
noncomputable def i_ShowOp (x : Int × Int × Int × List UInt8) : Option (List UInt8) :=
  (i_OpOk x).bind fun x_1 =>
  bif !x_1 then some []
  else
    (i_Var x.snd.fst).bind fun x_2 =>
      bif
          decide
            ((List.map (fun b => UInt8.ofNat b.toNat) ((List.replicate 1 0).set 0 (IntKind.u8.wrap x.fst))).length +
                x_2.length ≤
              4611686018427387904) then
        (i_Var x.snd.snd.fst).bind fun x_3 =>
          bif
              decide
                ((List.map (fun b => UInt8.ofNat b.toNat) ((List.replicate 1 0).set 0 (IntKind.u8.wrap x.fst)) ++
                        x_2).length +
                    x_3.length ≤
                  4611686018427387904) then
            bif
                decide
                  ((List.map (fun b => UInt8.ofNat b.toNat) ((List.replicate 1 0).set 0 (IntKind.u8.wrap x.fst)) ++
                            x_2 ++
                          x_3).length +
                      List.length x.snd.snd.snd ≤
                    4611686018427387904) then
              some
                (List.map (fun b => UInt8.ofNat b.toNat) ((List.replicate 1 0).set 0 (IntKind.u8.wrap x.fst)) ++ x_2 ++
                    x_3 ++
                  x.snd.snd.snd)
            else none
          else none
      else none
theorem i_ShowOp_eq (x) : fnK ⟨tabT tyl, ftab [(41, ⟨s41, i_OpOk⟩), (75, ⟨s75, i_Var⟩)]⟩ (C0) Try.f47 s47 x = i_ShowOp x := by kernel_rfl
theorem c47 : FnOk Try.prog 47 ⟨s47, i_ShowOp⟩ := fn_of mix_ok rfl tyl_ok (fl := [(41, ⟨s41, i_OpOk⟩), (75, ⟨s75, i_Var⟩)]) ⟨c41, c75, trivial⟩ Try.func47 rfl rfl cuts0 i_ShowOp_eq
/-- (*impl.scan).cut -/
def s133 : Sig := ⟨[.pio t114, .ro (.int .i64)], [(.str, true)]⟩
noncomputable def i_scan_cut (x : (List UInt8 × Bool) × Int) : Option (List UInt8 × List UInt8 × Bool) :=
  (bif !x.fst.snd then (i_within (x.snd, 0, (↑(List.length x.fst.fst) : Int))).bind fun x => some !x else some true).bind
  fun x_1 =>
  bif x_1 then some ([], x.fst.fst, true)
  else
    bif decide (0 ≤ x.snd) && decide (x.snd ≤ (↑(List.length x.fst.fst) : Int)) then
      bif decide (0 ≤ x.snd) && decide (x.snd ≤ (↑(List.length x.fst.fst) : Int)) then
        some (List.take (Int.toNat x.snd) x.fst.fst, List.drop (Int.toNat x.snd) x.fst.fst, x.fst.snd)
      else none
    else none
theorem i_scan_cut_eq (x) : fnK ⟨tabT tyl, ftab [(39, ⟨s39, i_within⟩)]⟩ (C0) Try.f133 s133 x = i_scan_cut x := by kernel_rfl
theorem c133 : FnOk Try.prog 133 ⟨s133, i_scan_cut⟩ := fn_of mix_ok rfl tyl_ok (fl := [(39, ⟨s39, i_within⟩)]) ⟨c39, trivial⟩ Try.func133 rfl rfl cuts0 i_scan_cut_eq
/-- (*impl.scan).byte -/
def s131 : Sig := ⟨[.pio t114], [((.int .i64), true)]⟩
noncomputable def i_scan_byte (x : List UInt8 × Bool) : Option (Int × List UInt8 × Bool) :=
  (i_scan_cut (x, 1)).bind fun x =>
  bif decide (x.fst = []) then some (0, x.snd)
  else x.fst[Int.toNat 0]?.bind fun x_1 => some (IntKind.i64.wrap (↑x_1.toNat : Int), x.snd)
theorem i_scan_byte_eq (x) : fnK ⟨tabT tyl, ftab [(133, ⟨s133, i_scan_cut⟩)]⟩ (C0) Try.f131 s131 x = i_scan_byte x := by kernel_rfl
theorem c131 : FnOk Try.prog 131 ⟨s131, i_scan_byte⟩ := fn_of mix_ok rfl tyl_ok (fl := [(133, ⟨s133, i_scan_cut⟩)]) ⟨c133, trivial⟩ Try.func131 rfl rfl cuts0 i_scan_byte_eq
/-- (*impl.scan).op -/
def s118 : Sig := ⟨[.pio t114], [(t28, true)]⟩
noncomputable def i_scan_op (x : List UInt8 × Bool) : Option ((Int × Int × Int × List UInt8) × List UInt8 × Bool) :=
  (i_scan_byte x).bind fun x =>
  (i_scan_num x.snd).bind fun x_1 => (i_scan_num x_1.snd).bind fun x_2 => some ((x.fst, x_1.fst, x_2.fst, x_2.snd.fst), x_2.snd)
theorem i_scan_op_eq (x) : fnK ⟨tabT tyl, ftab [(92, ⟨s92, i_scan_num⟩), (131, ⟨s131, i_scan_byte⟩)]⟩ (C0) Try.f118 s118 x = i_scan_op x := by kernel_rfl
theorem c118 : FnOk Try.prog 118 ⟨s118, i_scan_op⟩ := fn_of mix_ok rfl tyl_ok (fl := [(92, ⟨s92, i_scan_num⟩), (131, ⟨s131, i_scan_byte⟩)]) ⟨c92, c131, trivial⟩ Try.func118 rfl rfl cuts0 i_scan_op_eq
/-- impl.ReadOp -/
def s91 : Sig := ⟨[.ro .str], [(t28, true), (.bool, true)]⟩
noncomputable def i_ReadOp (x : List UInt8) : Option ((Int × Int × Int × List UInt8) × Bool) :=
  (i_scan_op (x, false)).bind fun x_1 =>
  (bif !x_1.snd.snd then some (decide (x = [])) else some true).bind fun x_2 =>
    (bif !x_2 then (i_ShowOp x_1.fst).bind fun x_3 => some !decide (x_3 = x) else some true).bind fun x =>
      bif x then some ((0, 0, 0, []), false) else some (x_1.fst, true)
theorem i_ReadOp_eq (x) : fnK ⟨tabT tyl, ftab [(47, ⟨s47, i_ShowOp⟩), (118, ⟨s118, i_scan_op⟩)]⟩ (C0) Try.f91 s91 x = i_ReadOp x := by kernel_rfl
theorem c91 : FnOk Try.prog 91 ⟨s91, i_ReadOp⟩ := fn_of mix_ok rfl tyl_ok (fl := [(47, ⟨s47, i_ShowOp⟩), (118, ⟨s118, i_scan_op⟩)]) ⟨c47, c118, trivial⟩ Try.func91 rfl rfl cuts0 i_ReadOp_eq
/-- impl.MsgOk -/
def s55 : Sig := ⟨[.ro t41], [(.bool, true)]⟩
noncomputable def i_MsgOk (x : Int × Int × Int × Int × Int × Int × Int × Bool × List (Int × List UInt8) × List UInt8) : Option (Bool) :=
  (i_addressed x).bind fun x_1 =>
  (bif !!x_1 then (i_named x).bind fun x_2 => (i_sameMsg (x, x_2)).bind fun x => some !x else some true).bind fun x_2 =>
    bif x_2 then some false
    else
      (i_within (x.snd.snd.snd.fst, 1, 100000)).bind fun x_3 =>
        (i_isBase (x.snd.snd.snd.snd.fst, x.snd.snd.snd.snd.snd.fst)).bind fun x_4 =>
          (bif x_4 then some (decide (x.snd.snd.snd.snd.snd.fst ≤ x.snd.snd.snd.fst)) else some false).bind fun x_5 =>
            bif decide (x.fst = 1) then (bif x_3 then some x_5 else some false).bind fun x => some x
            else
              bif decide (x.fst = 2) then some x_3
              else
                bif decide (x.fst = 3) then
                  (bif x_3 then some x_5 else some false).bind fun x_6 =>
                    (bif x_6 then (i_within (x.snd.snd.snd.snd.snd.snd.fst, 0, 100000)).bind fun x => some x
                        else some false).bind
                      fun x_7 => (bif x_7 then (i_entriesOk x).bind fun x => some x else some false).bind fun x => some x
                else
                  bif decide (x.fst = 4) then
                    (bif x_3 then (i_within (x.snd.snd.snd.snd.fst, 0, 100000)).bind fun x => some x else some false).bind
                      fun x => some x
                  else
                    bif decide (x.fst = 5) then
                      (bif x_3 then (i_within (x.snd.snd.snd.snd.fst, 1, 100000)).bind fun x => some x else some false).bind
                        fun x_6 =>
                        (bif x_6 then (i_within (x.snd.snd.snd.snd.snd.fst, 1, x.snd.snd.snd.fst)).bind fun x => some x
                            else some false).bind
                          fun x_7 =>
                          (bif x_7 then
                                some (decide ((↑(List.length x.snd.snd.snd.snd.snd.snd.snd.snd.snd) : Int) ≤ 8000))
                              else some false).bind
                            fun x => some x
                    else
                      bif decide (x.fst = 6) then
                        (i_ReadOp x.snd.snd.snd.snd.snd.snd.snd.snd.snd).bind fun x_6 =>
                          (bif x_6.snd then (i_within (x.snd.snd.snd.snd.fst, 1, 1000000)).bind fun x => some x
                              else some false).bind
                            fun x => some x
                      else
                        bif decide (x.fst = 7) then
                          (i_ReadAnswer x.snd.snd.snd.snd.snd.snd.snd.snd.snd).bind fun x_6 =>
                            (bif x_6.snd then (i_within (x.snd.snd.snd.snd.fst, 1, 1000000)).bind fun x => some x
                                else some false).bind
                              fun x => some x
                        else
                          (i_isVersion x.snd.snd.snd.snd.fst).bind fun x_6 =>
                            (bif !!x_6 then (i_within (x.snd.snd.snd.snd.snd.snd.fst, 0, 250)).bind fun x => some !x
                                else some true).bind
                              fun x_7 =>
                              bif x_7 then some false
                              else
                                (bif decide ((↑(List.length x.snd.snd.snd.snd.snd.snd.snd.snd.snd) : Int) ≤ 64) then
                                      (bif !x.snd.snd.snd.snd.snd.snd.snd.fst then
                                            some (decide (x.snd.snd.snd.snd.snd.snd.snd.snd.snd = []))
                                          else some true).bind
                                        fun x => some x
                                    else some false).bind
                                  fun x => some x
theorem i_MsgOk_eq (x) : fnK ⟨tabT tyl, ftab [(39, ⟨s39, i_within⟩), (56, ⟨s56, i_ReadAnswer⟩), (72, ⟨s72, i_isVersion⟩), (86, ⟨s86, i_addressed⟩), (87, ⟨s87, i_sameMsg⟩), (88, ⟨s88, i_named⟩), (89, ⟨s89, i_isBase⟩), (90, ⟨s90, i_entriesOk⟩), (91, ⟨s91, i_ReadOp⟩)]⟩ (C0) Try.f55 s55 x = i_MsgOk x := by kernel_rfl
theorem c55 : FnOk Try.prog 55 ⟨s55, i_MsgOk⟩ := fn_of mix_ok rfl tyl_ok (fl := [(39, ⟨s39, i_within⟩), (56, ⟨s56, i_ReadAnswer⟩), (72, ⟨s72, i_isVersion⟩), (86, ⟨s86, i_addressed⟩), (87, ⟨s87, i_sameMsg⟩), (88, ⟨s88, i_named⟩), (89, ⟨s89, i_isBase⟩), (90, ⟨s90, i_entriesOk⟩), (91, ⟨s91, i_ReadOp⟩)]) ⟨c39, c56, c72, c86, c87, c88, c89, c90, c91, trivial⟩ Try.func55 rfl rfl cuts0 i_MsgOk_eq
/-- impl.ClientHear -/
def s25 : Sig := ⟨[.ro t30, .ro t41, .ro (.int .i64)], [(t30, true), (t54, true), (.bool, true)]⟩
noncomputable def i_ClientHear (x : (Int × Int × Bool × (Int × Int × Int × List UInt8) × Int) ×
  (Int × Int × Int × Int × Int × Int × Int × Bool × List (Int × List UInt8) × List UInt8) × Int) : Option ((Int × Int × Bool × (Int × Int × Int × List UInt8) × Int) ×
  (Int × Int × (Int × Int × Int × List UInt8) × (Int × Int × Int × List UInt8 × Int × Int) × Int × Int) × Bool) :=
  (i_ClientOk x.fst).bind fun x_1 =>
  bif !x_1 then some ((0, 0, false, (0, 0, 0, []), 0), (0, 0, (0, 0, 0, []), (0, 0, 0, [], 0, 0), 0, 0), false)
  else
    (bif !!x.fst.snd.snd.fst then (i_MsgOk x.snd.fst).bind fun x => some !x else some true).bind fun x_2 =>
      (bif !x_2 then some !decide (x.snd.fst.fst = 7) else some true).bind fun x_3 =>
        (bif !x_3 then (i_Client_address x.fst).bind fun x_4 => some !decide (x.snd.fst.snd.snd.fst = x_4) else some true).bind
          fun x_4 =>
          (bif !x_4 then some !decide (x.snd.fst.snd.snd.snd.snd.fst = x.fst.snd.fst) else some true).bind fun x_5 =>
            (bif !x_5 then (i_isNow x.snd.snd).bind fun x => some !x else some true).bind fun x_6 =>
              bif x_6 then some (x.fst, (0, 0, (0, 0, 0, []), (0, 0, 0, [], 0, 0), 0, 0), false)
              else
                (i_ReadAnswer x.snd.fst.snd.snd.snd.snd.snd.snd.snd.snd.snd).bind fun x_7 =>
                  some
                    ((x.fst.fst, x.fst.snd.fst, false, (0, 0, 0, []), 0),
                      (x.fst.fst, x.fst.snd.fst, x.fst.snd.snd.snd.fst, x_7.fst, x.fst.snd.snd.snd.snd, x.snd.snd),
                      true)
theorem i_ClientHear_eq (x) : fnK ⟨tabT tyl, ftab [(11, ⟨s11, i_ClientOk⟩), (40, ⟨s40, i_isNow⟩), (46, ⟨s46, i_Client_address⟩), (55, ⟨s55, i_MsgOk⟩), (56, ⟨s56, i_ReadAnswer⟩)]⟩ (C0) Try.f25 s25 x = i_ClientHear x := by kernel_rfl
theorem c25 : FnOk Try.prog 25 ⟨s25, i_ClientHear⟩ := fn_of mix_ok rfl tyl_ok (fl := [(11, ⟨s11, i_ClientOk⟩), (40, ⟨s40, i_isNow⟩), (46, ⟨s46, i_Client_address⟩), (55, ⟨s55, i_MsgOk⟩), (56, ⟨s56, i_ReadAnswer⟩)]) ⟨c11, c40, c46, c55, c56, trivial⟩ Try.func25 rfl rfl cuts0 i_ClientHear_eq
/-- laws.eqAnswer -/
def s57 : Sig := ⟨[.ro t52, .ro t52], [(.bool, true)]⟩
noncomputable def w_eqAnswer (x : (Int × Int × Int × List UInt8 × Int × Int) × Int × Int × Int × List UInt8 × Int × Int) : Option (Bool) :=
  bif !decide (x.fst.fst = x.snd.fst) then some false
else
  bif !decide (x.fst.snd.fst = x.snd.snd.fst) then some false
  else
    bif !decide (x.fst.snd.snd.fst = x.snd.snd.snd.fst) then some false
    else
      bif !decide (x.fst.snd.snd.snd.fst = x.snd.snd.snd.snd.fst) then some false
      else
        bif !decide (x.fst.snd.snd.snd.snd.fst = x.snd.snd.snd.snd.snd.fst) then some false
        else bif !decide (x.fst.snd.snd.snd.snd.snd = x.snd.snd.snd.snd.snd.snd) then some false else some true
theorem w_eqAnswer_eq (x) : fnK ⟨tabT tyl, ftab []⟩ (C0) Try.f57 s57 x = w_eqAnswer x := by kernel_rfl
theorem c57 : FnOk Try.prog 57 ⟨s57, w_eqAnswer⟩ := fn_of mix_ok rfl tyl_ok (fl := []) trivial Try.func57 rfl rfl cuts0 w_eqAnswer_eq
/-- laws.eqDone -/
def s26 : Sig := ⟨[.ro t54, .ro t54], [(.bool, true)]⟩
noncomputable def w_eqDone (x : (Int × Int × (Int × Int × Int × List UInt8) × (Int × Int × Int × List UInt8 × Int × Int) × Int × Int) ×
  Int × Int × (Int × Int × Int × List UInt8) × (Int × Int × Int × List UInt8 × Int × Int) × Int × Int) : Option (Bool) :=
  bif !decide (x.fst.fst = x.snd.fst) then some false
else
  bif !decide (x.fst.snd.fst = x.snd.snd.fst) then some false
  else
    (w_eqOp (x.fst.snd.snd.fst, x.snd.snd.snd.fst)).bind fun x_1 =>
      bif !x_1 then some false
      else
        (w_eqAnswer (x.fst.snd.snd.snd.fst, x.snd.snd.snd.snd.fst)).bind fun x_2 =>
          bif !x_2 then some false
          else
            bif !decide (x.fst.snd.snd.snd.snd.fst = x.snd.snd.snd.snd.snd.fst) then some false
            else bif !decide (x.fst.snd.snd.snd.snd.snd = x.snd.snd.snd.snd.snd.snd) then some false else some true
theorem w_eqDone_eq (x) : fnK ⟨tabT tyl, ftab [(42, ⟨s42, w_eqOp⟩), (57, ⟨s57, w_eqAnswer⟩)]⟩ (C0) Try.f26 s26 x = w_eqDone x := by kernel_rfl
theorem c26 : FnOk Try.prog 26 ⟨s26, w_eqDone⟩ := fn_of mix_ok rfl tyl_ok (fl := [(42, ⟨s42, w_eqOp⟩), (57, ⟨s57, w_eqAnswer⟩)]) ⟨c42, c57, trivial⟩ Try.func26 rfl rfl cuts0 w_eqDone_eq
/-- laws.FnExactClientHear -/
def s6 : Sig := ⟨[.ro t25, .ro t49, .ro (.int .i64)], [(.bool, true)]⟩
noncomputable def w_FnExactClientHear (x : (Int × Int × Bool × (Int × Int × Int × List UInt8) × Int) ×
  (Int × Int × Int × Int × Int × Int × Int × Bool × List (Int × List UInt8) × List UInt8) × Int) : Option (Bool) :=
  (w_szClient (x.fst, 1048576)).bind fun x_1 =>
  bif decide (x_1 < 0) then some true
  else
    (w_szMsg (x.snd.fst, x_1)).bind fun x_2 =>
      bif decide (x_2 < 0) then some true
      else
        (w_toClient x.fst).bind fun x_3 =>
          (w_toMsg x.snd.fst).bind fun x_4 =>
            (s_ClientHear (x_3, x_4, x.snd.snd)).bind fun x_5 =>
              (w_toMsg x.snd.fst).bind fun x_6 =>
                (w_toClient x.fst).bind fun x_7 =>
                  (i_ClientHear (x_7, x_6, x.snd.snd)).bind fun x_8 =>
                    (w_eqClient (x_8.fst, x_5.fst)).bind fun x_9 =>
                      (bif !!x_9 then (w_eqDone (x_8.snd.fst, x_5.snd.fst)).bind fun x => some !x else some true).bind
                        fun x_10 =>
                        (bif !x_10 then some !x_8.snd.snd == x_5.snd.snd else some true).bind fun x_11 =>
                          bif x_11 then some false
                          else
                            (w_toMsg x.snd.fst).bind fun x =>
                              (w_eqMsg (x_6, x)).bind fun x => bif !x then some false else some true
theorem w_FnExactClientHear_eq (x) : fnK ⟨tabT tyl, ftab [(8, ⟨s8, w_szClient⟩), (10, ⟨s10, w_toClient⟩), (16, ⟨s16, w_eqClient⟩), (19, ⟨s19, w_eqMsg⟩), (22, ⟨s22, w_szMsg⟩), (23, ⟨s23, s_ClientHear⟩), (24, ⟨s24, w_toMsg⟩), (25, ⟨s25, i_ClientHear⟩), (26, ⟨s26, w_eqDone⟩)]⟩ (C0) Try.f6 s6 x = w_FnExactClientHear x := by kernel_rfl
theorem c6 : FnOk Try.prog 6 ⟨s6, w_FnExactClientHear⟩ := fn_of mix_ok rfl tyl_ok (fl := [(8, ⟨s8, w_szClient⟩), (10, ⟨s10, w_toClient⟩), (16, ⟨s16, w_eqClient⟩), (19, ⟨s19, w_eqMsg⟩), (22, ⟨s22, w_szMsg⟩), (23, ⟨s23, s_ClientHear⟩), (24, ⟨s24, w_toMsg⟩), (25, ⟨s25, i_ClientHear⟩), (26, ⟨s26, w_eqDone⟩)]) ⟨c8, c10, c16, c19, c22, c23, c24, c25, c26, trivial⟩ Try.func6 rfl rfl cuts0 w_FnExactClientHear_eq
/-- spec.ClientSay -/
def s17 : Sig := ⟨[.ro t30, .ro (.int .i64)], [(t41, true), (.bool, true)]⟩
noncomputable def s_ClientSay (x : (Int × Int × Bool × (Int × Int × Int × List UInt8) × Int) × Int) : Option ((Int × Int × Int × Int × Int × Int × Int × Bool × List (Int × List UInt8) × List UInt8) × Bool) :=
  (s_ClientOk x.fst).bind fun x_1 =>
  (bif !!x_1 then some !x.fst.snd.snd.fst else some true).bind fun x_2 =>
    (bif !x_2 then (s_l15Server x.snd).bind fun x => some !x else some true).bind fun x_3 =>
      bif x_3 then some ((0, 0, 0, 0, 0, 0, 0, false, [], []), false)
      else
        (s_ShowOp x.fst.snd.snd.snd.fst).bind fun x_4 =>
          some ((6, IntKind.i64.wrap (10 + x.fst.fst), x.snd, 0, x.fst.snd.fst, 0, 0, false, [], x_4), true)
theorem s_ClientSay_eq (x) : fnK ⟨tabT tyl, ftab [(9, ⟨s9, s_ClientOk⟩), (43, ⟨s43, s_l15Server⟩), (44, ⟨s44, s_ShowOp⟩)]⟩ (C0) Try.f17 s17 x = s_ClientSay x := by kernel_rfl
theorem c17 : FnOk Try.prog 17 ⟨s17, s_ClientSay⟩ := fn_of mix_ok rfl tyl_ok (fl := [(9, ⟨s9, s_ClientOk⟩), (43, ⟨s43, s_l15Server⟩), (44, ⟨s44, s_ShowOp⟩)]) ⟨c9, c43, c44, trivial⟩ Try.func17 rfl rfl cuts0 s_ClientSay_eq
/-- impl.ClientSay -/
def s18 : Sig := ⟨[.ro t30, .ro (.int .i64)], [(t41, true), (.bool, true)]⟩
noncomputable def i_ClientSay (x : (Int × Int × Bool × (Int × Int × Int × List UInt8) × Int) × Int) : Option ((Int × Int × Int × Int × Int × Int × Int × Bool × List (Int × List UInt8) × List UInt8) × Bool) :=
  (i_ClientOk x.fst).bind fun x_1 =>
  (bif !!x_1 then some !x.fst.snd.snd.fst else some true).bind fun x_2 =>
    (bif !x_2 then (i_isServer x.snd).bind fun x => some !x else some true).bind fun x_3 =>
      bif x_3 then some ((0, 0, 0, 0, 0, 0, 0, false, [], []), false)
      else
        (i_Client_address x.fst).bind fun x_4 =>
          (i_ShowOp x.fst.snd.snd.snd.fst).bind fun x_5 =>
            some ((6, x_4, x.snd, 0, x.fst.snd.fst, 0, 0, false, [], x_5), true)
theorem i_ClientSay_eq (x) : fnK ⟨tabT tyl, ftab [(11, ⟨s11, i_ClientOk⟩), (45, ⟨s45, i_isServer⟩), (46, ⟨s46, i_Client_address⟩), (47, ⟨s47, i_ShowOp⟩)]⟩ (C0) Try.f18 s18 x = i_ClientSay x := by kernel_rfl
theorem c18 : FnOk Try.prog 18 ⟨s18, i_ClientSay⟩ := fn_of mix_ok rfl tyl_ok (fl := [(11, ⟨s11, i_ClientOk⟩), (45, ⟨s45, i_isServer⟩), (46, ⟨s46, i_Client_address⟩), (47, ⟨s47, i_ShowOp⟩)]) ⟨c11, c45, c46, c47, trivial⟩ Try.func18 rfl rfl cuts0 i_ClientSay_eq
/-- laws.markText -/
def s70 : Sig := ⟨[.ro (.int .i64)], [(.str, true)]⟩
def s70_11 : CutSig := ⟨20, [0, 3], [.ro (.int .i64), .ro .str], [(.ex 0, [3], [(.str, true)])]⟩
noncomputable def w_markText_L11 (go : Int × List UInt8 → Option (List UInt8)) (x : Int × List UInt8) : Option (List UInt8) :=
  bif decide (0 < x.fst) then
  bif
      decide
        ((List.map (fun b => UInt8.ofNat b.toNat)
                ((List.replicate 1 0).set 0 (IntKind.u8.wrap (IntKind.i64.wrap (48 + Int.tmod x.fst 10))))).length +
            List.length x.snd ≤
          4611686018427387904) then
    go
      (IntKind.i64.wrap (Int.tdiv x.fst 10),
        List.map (fun b => UInt8.ofNat b.toNat)
            ((List.replicate 1 0).set 0 (IntKind.u8.wrap (IntKind.i64.wrap (48 + Int.tmod x.fst 10)))) ++
          x.snd)
  else none
else some x.snd
theorem w_markText_L11_eq (go x) : loopStep ⟨tabT tyl, ftab []⟩ (C0) (loopOf Try.f70 11) s70_11 go x = w_markText_L11 go x := by kernel_rfl
theorem l70_11 : CutOk Try.prog ⟨s70_11, iter w_markText_L11 FUEL⟩ (.loop (loopOf Try.f70 11)) := loop_of mix_ok rfl tyl_ok (fl := []) trivial (C := C0) rfl (pts := []) (by kernel_rfl) trivial w_markText_L11_eq
noncomputable def w_markText (x : Int) : Option (List UInt8) :=
  bif decide (x ≤ 0) then some [(109 : UInt8), (48 : UInt8)]
else
  (iter w_markText_L11 FUEL (x, [])).bind fun x =>
    bif decide ([(109 : UInt8)].length + x.length ≤ 4611686018427387904) then
      some ([(109 : UInt8)] ++ x)
    else none
theorem w_markText_eq (x) : fnK ⟨tabT tyl, ftab []⟩ (ctab [(11, ⟨s70_11, iter w_markText_L11 FUEL⟩)]) Try.f70 s70 x = w_markText x := by kernel_rfl
theorem c70 : FnOk Try.prog 70 ⟨s70, w_markText⟩ := fn_of2 mix_ok rfl tyl_ok (fl := []) trivial Try.func70 rfl rfl (C := ctab [(11, ⟨s70_11, iter w_markText_L11 FUEL⟩)]) (pts := [(⟨s70_11, iter w_markText_L11 FUEL⟩, .loop (loopOf Try.f70 11))]) (by kernel_rfl) ⟨l70_11, trivial⟩ w_markText_eq
/-- laws.markEntryS -/
def s49 : Sig := ⟨[.ro (.sl 100 t100), .ro (.int .i64)], [((.int .i64), true)]⟩
def s49_7 : CutSig := ⟨28, [0, 1, 5], [.ro (.sl 100 t100), .ro (.int .i64), .ro (.int .i64)], [(.ex 0, [1], [((.int .i64), true)])]⟩
noncomputable def w_markEntryS_L7 (go : List (Int × List UInt8) × Int × Int → Option (Int)) (x : List (Int × List UInt8) × Int × Int) : Option (Int) :=
  bif decide (x.snd.snd < (↑(List.length x.fst) : Int)) then
  bif decide (0 ≤ x.snd.snd) then x.fst[Int.toNat x.snd.snd]?.bind fun x => none else none
else some x.snd.fst
theorem w_markEntryS_L7_eq (go x) : loopStep ⟨tabT tyl, ftab [(70, ⟨s70, w_markText⟩)]⟩ (C0) (loopOf Try.f49 7) s49_7 go x = w_markEntryS_L7 go x := by kernel_rfl
theorem l49_7 : CutOk Try.prog ⟨s49_7, iter w_markEntryS_L7 FUEL⟩ (.loop (loopOf Try.f49 7)) := loop_of mix_ok rfl tyl_ok (fl := [(70, ⟨s70, w_markText⟩)]) ⟨c70, trivial⟩ (C := C0) rfl (pts := []) (by kernel_rfl) trivial w_markEntryS_L7_eq
noncomputable def w_markEntryS (x : List (Int × List UInt8) × Int) : Option (Int) :=
  (iter w_markEntryS_L7 FUEL (x.fst, x.snd, 0)).bind fun x => some x
theorem w_markEntryS_eq (x) : fnK ⟨tabT tyl, ftab [(70, ⟨s70, w_markText⟩)]⟩ (ctab [(7, ⟨s49_7, iter w_markEntryS_L7 FUEL⟩)]) Try.f49 s49 x = w_markEntryS x := by kernel_rfl
theorem c49 : FnOk Try.prog 49 ⟨s49, w_markEntryS⟩ := fn_of2 mix_ok rfl tyl_ok (fl := [(70, ⟨s70, w_markText⟩)]) ⟨c70, trivial⟩ Try.func49 rfl rfl (C := ctab [(7, ⟨s49_7, iter w_markEntryS_L7 FUEL⟩)]) (pts := [(⟨s49_7, iter w_markEntryS_L7 FUEL⟩, .loop (loopOf Try.f49 7))]) (by kernel_rfl) ⟨l49_7, trivial⟩ w_markEntryS_eq
/-- laws.markMsg -/
def s20 : Sig := ⟨[.ro t41, .ro (.int .i64)], [((.int .i64), true)]⟩
noncomputable def w_markMsg (x : (Int × Int × Int × Int × Int × Int × Int × Bool × List (Int × List UInt8) × List UInt8) × Int) : Option (Int) :=
  (w_markEntryS (x.fst.snd.snd.snd.snd.snd.snd.snd.snd.fst, x.snd)).bind fun x => some x
theorem w_markMsg_eq (x) : fnK ⟨tabT tyl, ftab [(49, ⟨s49, w_markEntryS⟩)]⟩ (C0) Try.f20 s20 x = w_markMsg x := by kernel_rfl
theorem c20 : FnOk Try.prog 20 ⟨s20, w_markMsg⟩ := fn_of mix_ok rfl tyl_ok (fl := [(49, ⟨s49, w_markEntryS⟩)]) ⟨c49, trivial⟩ Try.func20 rfl rfl cuts0 w_markMsg_eq
/-- laws.heldEntryS -/
def s50 : Sig := ⟨[.ro (.sl 100 t100), .ro (.int .i64)], [((.int .i64), true)]⟩
def s50_7 : CutSig := ⟨32, [0, 1, 5], [.ro (.sl 100 t100), .ro (.int .i64), .ro (.int .i64)], [(.ex 0, [1], [((.int .i64), true)]), (.ret, [4], [((.int .i64), true)])]⟩
noncomputable def w_heldEntryS_L7 (go : List (Int × List UInt8) × Int × Int → Option (Int ⊕ Int)) (x : List (Int × List UInt8) × Int × Int) : Option (Int ⊕ Int) :=
  bif decide (x.snd.snd < (↑(List.length x.fst) : Int)) then
  bif decide (0 ≤ x.snd.snd) then
    x.fst[Int.toNat x.snd.snd]?.bind fun x_1 =>
      bif !decide (x_1.fst = x.snd.fst) then some (Sum.inr (-1))
      else
        bif decide (0 ≤ x.snd.snd) then
          x.fst[Int.toNat x.snd.snd]?.bind fun x_2 =>
            (w_markText (IntKind.i64.wrap (x.snd.fst + 1))).bind fun x_3 =>
              bif !decide (x_2.snd = x_3) then some (Sum.inr (-1))
              else go (x.fst, IntKind.i64.wrap (IntKind.i64.wrap (x.snd.fst + 1) + 1), IntKind.i64.wrap (x.snd.snd + 1))
        else none
  else none
else some (Sum.inl x.snd.fst)
theorem w_heldEntryS_L7_eq (go x) : loopStep ⟨tabT tyl, ftab [(70, ⟨s70, w_markText⟩)]⟩ (C0) (loopOf Try.f50 7) s50_7 go x = w_heldEntryS_L7 go x := by kernel_rfl
theorem l50_7 : CutOk Try.prog ⟨s50_7, iter w_heldEntryS_L7 FUEL⟩ (.loop (loopOf Try.f50 7)) := loop_of mix_ok rfl tyl_ok (fl := [(70, ⟨s70, w_markText⟩)]) ⟨c70, trivial⟩ (C := C0) rfl (pts := []) (by kernel_rfl) trivial w_heldEntryS_L7_eq
noncomputable def w_heldEntryS (x : List (Int × List UInt8) × Int) : Option (Int) :=
  (iter w_heldEntryS_L7 FUEL (x.fst, x.snd, 0)).bind fun x => sumK x (fun y => some y) fun z => some z
theorem w_heldEntryS_eq (x) : fnK ⟨tabT tyl, ftab [(70, ⟨s70, w_markText⟩)]⟩ (ctab [(7, ⟨s50_7, iter w_heldEntryS_L7 FUEL⟩)]) Try.f50 s50 x = w_heldEntryS x := by kernel_rfl
theorem c50 : FnOk Try.prog 50 ⟨s50, w_heldEntryS⟩ := fn_of2 mix_ok rfl tyl_ok (fl := [(70, ⟨s70, w_markText⟩)]) ⟨c70, trivial⟩ Try.func50 rfl rfl (C := ctab [(7, ⟨s50_7, iter w_heldEntryS_L7 FUEL⟩)]) (pts := [(⟨s50_7, iter w_heldEntryS_L7 FUEL⟩, .loop (loopOf Try.f50 7))]) (by kernel_rfl) ⟨l50_7, trivial⟩ w_heldEntryS_eq
/-- laws.heldMsg -/
def s21 : Sig := ⟨[.ro t41, .ro (.int .i64)], [((.int .i64), true)]⟩
noncomputable def w_heldMsg (x : (Int × Int × Int × Int × Int × Int × Int × Bool × List (Int × List UInt8) × List UInt8) × Int) : Option (Int) :=
  (w_heldEntryS (x.fst.snd.snd.snd.snd.snd.snd.snd.snd.fst, x.snd)).bind fun x => bif decide (x < 0) then some (-1) else some x
theorem w_heldMsg_eq (x) : fnK ⟨tabT tyl, ftab [(50, ⟨s50, w_heldEntryS⟩)]⟩ (C0) Try.f21 s21 x = w_heldMsg x := by kernel_rfl
theorem c21 : FnOk Try.prog 21 ⟨s21, w_heldMsg⟩ := fn_of mix_ok rfl tyl_ok (fl := [(50, ⟨s50, w_heldEntryS⟩)]) ⟨c50, trivial⟩ Try.func21 rfl rfl cuts0 w_heldMsg_eq
/-- laws.FnExactClientSay -/
def s5 : Sig := ⟨[.ro t25, .ro (.int .i64)], [(.bool, true)]⟩
noncomputable def w_FnExactClientSay (x : (Int × Int × Bool × (Int × Int × Int × List UInt8) × Int) × Int) : Option (Bool) :=
  (w_szClient (x.fst, 1048576)).bind fun x_1 =>
  bif decide (x_1 < 0) then some true
  else
    (w_toClient x.fst).bind fun x_2 =>
      (s_ClientSay (x_2, x.snd)).bind fun x_3 =>
        (w_toClient x.fst).bind fun x_4 =>
          (i_ClientSay (x_4, x.snd)).bind fun x_5 =>
            (w_eqMsg (x_5.fst, x_3.fst)).bind fun x_6 =>
              (bif !!x_6 then some !x_5.snd == x_3.snd else some true).bind fun x_7 =>
                bif x_7 then some false
                else
                  (w_markMsg (x_5.fst, 1)).bind fun x_8 =>
                    (w_heldMsg (x_5.fst, 1)).bind fun x_9 =>
                      bif decide (x_9 < 0) then some false
                      else
                        bif !decide (x_9 = x_8) then some false
                        else
                          (w_toClient x.fst).bind fun x_10 =>
                            (i_ClientSay (x_10, x.snd)).bind fun x =>
                              (w_eqMsg (x.fst, x_3.fst)).bind fun x_11 =>
                                (bif !!x_11 then some !x.snd == x_3.snd else some true).bind fun x =>
                                  bif x then some false
                                  else
                                    (w_heldMsg (x_5.fst, 1)).bind fun x =>
                                      bif decide (x < 0) then some false
                                      else bif !decide (x = x_8) then some false else some true
theorem w_FnExactClientSay_eq (x) : fnK ⟨tabT tyl, ftab [(8, ⟨s8, w_szClient⟩), (10, ⟨s10, w_toClient⟩), (17, ⟨s17, s_ClientSay⟩), (18, ⟨s18, i_ClientSay⟩), (19, ⟨s19, w_eqMsg⟩), (20, ⟨s20, w_markMsg⟩), (21, ⟨s21, w_heldMsg⟩)]⟩ (C0) Try.f5 s5 x = w_FnExactClientSay x := by kernel_rfl
theorem c5 : FnOk Try.prog 5 ⟨s5, w_FnExactClientSay⟩ := fn_of mix_ok rfl tyl_ok (fl := [(8, ⟨s8, w_szClient⟩), (10, ⟨s10, w_toClient⟩), (17, ⟨s17, s_ClientSay⟩), (18, ⟨s18, i_ClientSay⟩), (19, ⟨s19, w_eqMsg⟩), (20, ⟨s20, w_markMsg⟩), (21, ⟨s21, w_heldMsg⟩)]) ⟨c8, c10, c17, c18, c19, c20, c21, trivial⟩ Try.func5 rfl rfl cuts0 w_FnExactClientSay_eq
end Go.Proofs.Ytopeacfbcdoljaa

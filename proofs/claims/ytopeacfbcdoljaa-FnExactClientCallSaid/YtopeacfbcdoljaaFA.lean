/- The types and the functions that the law reaches: what each computes, and that it computes it. Printed by a program of this session (mk.py). -/
import Derived.Test.YtopeacfbcdoljaaVC
namespace Go.Proofs.Ytopeacfbcdoljaa
open Go Go.Proofs.Ytopeacfbcdoljaa.V
set_option maxRecDepth 100000
def t7 : Ty := .st (.pair (.int .i64) (.pair (.int .i64) (.pair .bool (.int .u8))))
def t8 : Ty := .st (.pair (.int .i64) (.pair (.int .i64) (.pair .bool (.int .u8))))
def t22 : Ty := .st (.pair (.int .i64) (.pair (.int .i64) (.pair (.int .i64) .str)))
def t23 : Ty := .st (.pair (.int .i64) (.pair (.int .i64) (.pair (.int .i64) .str)))
def t24 : Ty := .st (.pair (.int .i64) (.pair (.int .i64) (.pair .bool (.pair t23 (.int .i64)))))
def t25 : Ty := .st (.pair (.int .i64) (.pair (.int .i64) (.pair .bool (.pair t23 (.int .i64)))))
def t28 : Ty := .st (.pair (.int .i64) (.pair (.int .i64) (.pair (.int .i64) .str)))
def t29 : Ty := .st (.pair (.int .i64) (.pair (.int .i64) (.pair .bool (.pair t28 (.int .i64)))))
def t30 : Ty := .st (.pair (.int .i64) (.pair (.int .i64) (.pair .bool (.pair t28 (.int .i64)))))
def t100 : Ty := .st (.pair (.int .i64) .str)
def t40 : Ty := .st (.pair (.int .i64) (.pair (.int .i64) (.pair (.int .i64) (.pair (.int .i64) (.pair (.int .i64) (.pair (.int .i64) (.pair (.int .i64) (.pair .bool (.pair (.sl 100 t100) .str)))))))))
def t41 : Ty := .st (.pair (.int .i64) (.pair (.int .i64) (.pair (.int .i64) (.pair (.int .i64) (.pair (.int .i64) (.pair (.int .i64) (.pair (.int .i64) (.pair .bool (.pair (.sl 100 t100) .str)))))))))
def t102 : Ty := .st (.pair (.int .i64) .str)
def t48 : Ty := .st (.pair (.int .i64) (.pair (.int .i64) (.pair (.int .i64) (.pair (.int .i64) (.pair (.int .i64) (.pair (.int .i64) (.pair (.int .i64) (.pair .bool (.pair (.sl 102 t102) .str)))))))))
def t49 : Ty := .st (.pair (.int .i64) (.pair (.int .i64) (.pair (.int .i64) (.pair (.int .i64) (.pair (.int .i64) (.pair (.int .i64) (.pair (.int .i64) (.pair .bool (.pair (.sl 102 t102) .str)))))))))
def t51 : Ty := .st (.pair (.int .i64) (.pair (.int .i64) (.pair (.int .i64) (.pair .str (.pair (.int .i64) (.int .i64))))))
def t52 : Ty := .st (.pair (.int .i64) (.pair (.int .i64) (.pair (.int .i64) (.pair .str (.pair (.int .i64) (.int .i64))))))
def t53 : Ty := .st (.pair (.int .i64) (.pair (.int .i64) (.pair t28 (.pair t52 (.pair (.int .i64) (.int .i64))))))
def t54 : Ty := .st (.pair (.int .i64) (.pair (.int .i64) (.pair t28 (.pair t52 (.pair (.int .i64) (.int .i64))))))
def t60 : Ty := .sl 3 (.int .i64)
def t61 : Ty := .st (.pair (.int .i64) (.pair (.int .i64) (.pair (.int .i64) (.pair (.int .i64) (.pair (.int .i64) (.pair (.int .i64) (.pair (.int .i64) (.pair (.int .i64) (.pair (.sl 102 t102) (.pair (.int .i64) (.pair t60 (.pair t60 t60))))))))))))
def t62 : Ty := .st (.pair (.int .i64) (.pair (.int .i64) (.pair (.int .i64) (.pair (.int .i64) (.pair (.int .i64) (.pair (.int .i64) (.pair (.int .i64) (.pair (.int .i64) (.pair (.sl 102 t102) (.pair (.int .i64) (.pair t60 (.pair t60 t60))))))))))))
def t64 : Ty := .st (.pair (.int .i64) (.pair (.int .i64) (.pair (.int .i64) (.pair (.int .i64) (.pair (.int .i64) (.pair (.int .i64) (.pair (.int .i64) (.pair (.int .i64) (.pair (.sl 100 t100) (.pair (.int .i64) (.pair t60 (.pair t60 t60))))))))))))
def t65 : Ty := .st (.pair (.int .i64) (.pair (.int .i64) (.pair (.int .i64) (.pair (.int .i64) (.pair (.int .i64) (.pair (.int .i64) (.pair (.int .i64) (.pair (.int .i64) (.pair (.sl 100 t100) (.pair (.int .i64) (.pair t60 (.pair t60 t60))))))))))))
def tyl : List (Option Ty) := [none, none, some (.int .i64), some (.int .i64), some .bool, some (.int .u8), some (.int .u8), some t7, some t8, some .str, some .str, some .str, some (.int .u64), none, none, none, none, none, none, none, none, some (.int .i32), some t22, some t23, some t24, some t25, none, none, some t28, some t29, some t30, none, none, none, none, none, none, none, none, some (.sl 100 t100), some t40, some t41, none, none, none, none, none, some (.sl 102 t102), some t48, some t49, none, some t51, some t52, some t53, some t54, none, none, none, none, none, some t60, some t61, some t62, none, some t64, some t65, some (.sl 41 t41), none, none, none, none, none, none, none, none, none, none, none, none, none, none, none, none, none, none, none, none, none, none, none, none, none, none, none, none, none, none, none, none, none, some t100]
theorem mix_ok : Try.prog.follows .mixedOrders = true := by kernel_rfl
theorem tyl_ok : tabB Try.prog 12 tyl 0 = true := by kernel_rfl
/-- laws.szOp -/
def s12 : Sig := ⟨[.ro t23, .ro (.int .i64)], [((.int .i64), true)]⟩
noncomputable def F12 (x : (Int × Int × Int × List UInt8) × Int) : Option (Int) :=
  bif decide (IntKind.i64.wrap (x.snd - (↑(List.length x.fst.snd.snd.snd) : Int)) < 0) then some (-1)
else some (IntKind.i64.wrap (x.snd - (↑(List.length x.fst.snd.snd.snd) : Int)))
theorem F12_eq (x) : fnK ⟨tabT tyl, ftab []⟩ C0 Try.f12 s12 x = F12 x := by kernel_rfl
theorem c12 : FnOk Try.prog 12 ⟨s12, F12⟩ := fn_of mix_ok rfl tyl_ok (fl := []) trivial Try.func12 rfl rfl cuts0 F12_eq
/-- laws.szClient -/
def s8 : Sig := ⟨[.ro t25, .ro (.int .i64)], [((.int .i64), true)]⟩
noncomputable def F8 (x : (Int × Int × Bool × (Int × Int × Int × List UInt8) × Int) × Int) : Option (Int) :=
  (F12 (x.fst.snd.snd.snd.fst, x.snd)).bind fun x => bif decide (x < 0) then some (-1) else some x
theorem F8_eq (x) : fnK ⟨tabT tyl, ftab [(12, ⟨s12, F12⟩)]⟩ C0 Try.f8 s8 x = F8 x := by kernel_rfl
theorem c8 : FnOk Try.prog 8 ⟨s8, F8⟩ := fn_of mix_ok rfl tyl_ok (fl := [(12, ⟨s12, F12⟩)]) ⟨c12, trivial⟩ Try.func8 rfl rfl cuts0 F8_eq
/-- spec.l1In -/
def s37 : Sig := ⟨[.ro (.int .i64), .ro (.int .i64), .ro (.int .i64)], [(.bool, true)]⟩
noncomputable def F37 (x : Int × Int × Int) : Option (Bool) :=
  (bif decide (x.snd.fst ≤ x.fst) then some (decide (x.fst ≤ x.snd.snd)) else some false).bind fun x => some x
theorem F37_eq (x) : fnK ⟨tabT tyl, ftab []⟩ C0 Try.f37 s37 x = F37 x := by kernel_rfl
theorem c37 : FnOk Try.prog 37 ⟨s37, F37⟩ := fn_of mix_ok rfl tyl_ok (fl := []) trivial Try.func37 rfl rfl cuts0 F37_eq
/-- spec.OpOk -/
def s38 : Sig := ⟨[.ro t28], [(.bool, true)]⟩
noncomputable def F38 (x : Int × Int × Int × List UInt8) : Option (Bool) :=
  (F37 (x.snd.snd.fst, 1, 6)).bind fun x_1 =>
  (F37 (x.snd.fst, 0, 2)).bind fun x_2 =>
    bif decide (x.fst = 1) then
      (bif decide ((↑(List.length x.snd.snd.snd) : Int) ≤ 250) then some (decide (x.snd.snd.fst = 0))
          else some false).bind
        fun x_3 => (bif x_3 then some (decide (x.snd.fst = 0)) else some false).bind fun x => some x
    else
      bif decide (x.fst = 2) then
        (bif x_1 then some x_2 else some false).bind fun x_3 =>
          (bif x_3 then some (decide (x.snd.snd.snd = [])) else some false).bind fun x => some x
      else
        bif decide (x.fst = 3) then
          bif decide (x.fst = 3) then
            (bif x_1 then some (decide (x.snd.fst = 0)) else some false).bind fun x_3 =>
              (bif x_3 then some (decide (x.snd.snd.snd = [])) else some false).bind fun x => some x
          else
            bif decide (x.fst = 5) then
              (bif decide (x.snd.snd.snd = []) then
                    (bif x_1 then some (decide (x.snd.fst = 0)) else some false).bind fun x_3 =>
                      (bif !x_3 then (bif decide (x.snd.snd.fst = 0) then some x_2 else some false).bind fun x => some x
                          else some true).bind
                        fun x => some x
                  else some false).bind
                fun x => some x
            else some false
        else
          bif decide (x.fst = 4) then
            (bif x_1 then some (decide (x.snd.fst = 0)) else some false).bind fun x_3 =>
              (bif x_3 then some (decide (x.snd.snd.snd = [])) else some false).bind fun x => some x
          else
            bif decide (x.fst = 5) then
              (bif decide (x.snd.snd.snd = []) then
                    (bif x_1 then some (decide (x.snd.fst = 0)) else some false).bind fun x_3 =>
                      (bif !x_3 then (bif decide (x.snd.snd.fst = 0) then some x_2 else some false).bind fun x => some x
                          else some true).bind
                        fun x => some x
                  else some false).bind
                fun x => some x
            else some false
theorem F38_eq (x) : fnK ⟨tabT tyl, ftab [(37, ⟨s37, F37⟩)]⟩ C0 Try.f38 s38 x = F38 x := by kernel_rfl
theorem c38 : FnOk Try.prog 38 ⟨s38, F38⟩ := fn_of mix_ok rfl tyl_ok (fl := [(37, ⟨s37, F37⟩)]) ⟨c37, trivial⟩ Try.func38 rfl rfl cuts0 F38_eq
/-- spec.ClientOk -/
def s9 : Sig := ⟨[.ro t30], [(.bool, true)]⟩
noncomputable def F9 (x : Int × Int × Bool × (Int × Int × Int × List UInt8) × Int) : Option (Bool) :=
  (F37 (x.fst, 1, 6)).bind fun x_1 =>
  (bif !!x_1 then (F37 (x.snd.fst, 0, 1000000)).bind fun x => some !x else some true).bind fun x_2 =>
    (bif !x_2 then (F37 (x.snd.snd.snd.snd, 0, 1000000)).bind fun x => some !x else some true).bind fun x_3 =>
      bif x_3 then some false
      else
        bif x.snd.snd.fst then
          (bif decide (1 ≤ x.snd.fst) then (F38 x.snd.snd.snd.fst).bind fun x => some x else some false).bind fun x =>
            some x
        else
          (bif
                  decide (x.snd.snd.snd.fst.fst = 0) &&
                    (decide (x.snd.snd.snd.fst.snd.fst = 0) &&
                      (decide (x.snd.snd.snd.fst.snd.snd.fst = 0) && decide (x.snd.snd.snd.fst.snd.snd.snd = []))) then
                some (decide (x.snd.snd.snd.snd = 0))
              else some false).bind
            fun x => some x
theorem F9_eq (x) : fnK ⟨tabT tyl, ftab [(37, ⟨s37, F37⟩), (38, ⟨s38, F38⟩)]⟩ C0 Try.f9 s9 x = F9 x := by kernel_rfl
theorem c9 : FnOk Try.prog 9 ⟨s9, F9⟩ := fn_of mix_ok rfl tyl_ok (fl := [(37, ⟨s37, F37⟩), (38, ⟨s38, F38⟩)]) ⟨c37, c38, trivial⟩ Try.func9 rfl rfl cuts0 F9_eq
/-- laws.toOp -/
def s14 : Sig := ⟨[.ro t23], [(t28, true)]⟩
noncomputable def F14 (x : Int × Int × Int × List UInt8) : Option (Int × Int × Int × List UInt8) :=
  some (x.fst, x.snd.fst, x.snd.snd.fst, x.snd.snd.snd)
theorem F14_eq (x) : fnK ⟨tabT tyl, ftab []⟩ C0 Try.f14 s14 x = F14 x := by kernel_rfl
theorem c14 : FnOk Try.prog 14 ⟨s14, F14⟩ := fn_of mix_ok rfl tyl_ok (fl := []) trivial Try.func14 rfl rfl cuts0 F14_eq
/-- laws.toClient -/
def s10 : Sig := ⟨[.ro t25], [(t30, true)]⟩
noncomputable def F10 (x : Int × Int × Bool × (Int × Int × Int × List UInt8) × Int) : Option (Int × Int × Bool × (Int × Int × Int × List UInt8) × Int) :=
  (F14 x.snd.snd.snd.fst).bind fun x_1 => some (x.fst, x.snd.fst, x.snd.snd.fst, x_1, x.snd.snd.snd.snd)
theorem F10_eq (x) : fnK ⟨tabT tyl, ftab [(14, ⟨s14, F14⟩)]⟩ C0 Try.f10 s10 x = F10 x := by kernel_rfl
theorem c10 : FnOk Try.prog 10 ⟨s10, F10⟩ := fn_of mix_ok rfl tyl_ok (fl := [(14, ⟨s14, F14⟩)]) ⟨c14, trivial⟩ Try.func10 rfl rfl cuts0 F10_eq
/-- impl.within -/
def s39 : Sig := ⟨[.ro (.int .i64), .ro (.int .i64), .ro (.int .i64)], [(.bool, true)]⟩
noncomputable def F39 (x : Int × Int × Int) : Option (Bool) :=
  (bif decide (x.snd.fst ≤ x.fst) then some (decide (x.fst ≤ x.snd.snd)) else some false).bind fun x => some x
theorem F39_eq (x) : fnK ⟨tabT tyl, ftab []⟩ C0 Try.f39 s39 x = F39 x := by kernel_rfl
theorem c39 : FnOk Try.prog 39 ⟨s39, F39⟩ := fn_of mix_ok rfl tyl_ok (fl := []) trivial Try.func39 rfl rfl cuts0 F39_eq
/-- impl.isNow -/
def s40 : Sig := ⟨[.ro (.int .i64)], [(.bool, true)]⟩
noncomputable def F40 (x : Int) : Option (Bool) :=
  (F39 (x, 0, 1000000)).bind fun x => some x
theorem F40_eq (x) : fnK ⟨tabT tyl, ftab [(39, ⟨s39, F39⟩)]⟩ C0 Try.f40 s40 x = F40 x := by kernel_rfl
theorem c40 : FnOk Try.prog 40 ⟨s40, F40⟩ := fn_of mix_ok rfl tyl_ok (fl := [(39, ⟨s39, F39⟩)]) ⟨c39, trivial⟩ Try.func40 rfl rfl cuts0 F40_eq
/-- impl.isVersion -/
def s72 : Sig := ⟨[.ro (.int .i64)], [(.bool, true)]⟩
noncomputable def F72 (x : Int) : Option (Bool) :=
  (F39 (x, 1, 6)).bind fun x => some x
theorem F72_eq (x) : fnK ⟨tabT tyl, ftab [(39, ⟨s39, F39⟩)]⟩ C0 Try.f72 s72 x = F72 x := by kernel_rfl
theorem c72 : FnOk Try.prog 72 ⟨s72, F72⟩ := fn_of mix_ok rfl tyl_ok (fl := [(39, ⟨s39, F39⟩)]) ⟨c39, trivial⟩ Try.func72 rfl rfl cuts0 F72_eq
/-- impl.isChannel -/
def s73 : Sig := ⟨[.ro (.int .i64)], [(.bool, true)]⟩
noncomputable def F73 (x : Int) : Option (Bool) :=
  (F39 (x, 0, 2)).bind fun x => some x
theorem F73_eq (x) : fnK ⟨tabT tyl, ftab [(39, ⟨s39, F39⟩)]⟩ C0 Try.f73 s73 x = F73 x := by kernel_rfl
theorem c73 : FnOk Try.prog 73 ⟨s73, F73⟩ := fn_of mix_ok rfl tyl_ok (fl := [(39, ⟨s39, F39⟩)]) ⟨c39, trivial⟩ Try.func73 rfl rfl cuts0 F73_eq
/-- impl.OpOk -/
def s41 : Sig := ⟨[.ro t28], [(.bool, true)]⟩
noncomputable def F41 (x : Int × Int × Int × List UInt8) : Option (Bool) :=
  (bif !decide (x.fst = 1) then some !decide (x.snd.snd.snd = []) else some false).bind fun x_1 =>
  bif x_1 then some false
  else
    bif decide (x.fst = 1) then
      (bif decide (x.snd.fst = 0) then some (decide (x.snd.snd.fst = 0)) else some false).bind fun x_2 =>
        (bif x_2 then some (decide ((↑(List.length x.snd.snd.snd) : Int) ≤ 250)) else some false).bind fun x => some x
    else
      bif decide (x.fst = 2) then
        (F72 x.snd.snd.fst).bind fun x_2 =>
          (bif x_2 then (F73 x.snd.fst).bind fun x => some x else some false).bind fun x => some x
      else
        bif decide (x.fst = 3) then
          bif decide (x.fst = 3) then
            (F72 x.snd.snd.fst).bind fun x_2 =>
              (bif x_2 then some (decide (x.snd.fst = 0)) else some false).bind fun x => some x
          else
            bif decide (x.fst = 5) then
              (F72 x.snd.snd.fst).bind fun x_2 =>
                (bif x_2 then some (decide (x.snd.fst = 0)) else some false).bind fun x_3 =>
                  (bif !x_3 then
                        (bif decide (x.snd.snd.fst = 0) then (F73 x.snd.fst).bind fun x => some x else some false).bind
                          fun x => some x
                      else some true).bind
                    fun x => some x
            else some false
        else
          bif decide (x.fst = 4) then
            (F72 x.snd.snd.fst).bind fun x_2 =>
              (bif x_2 then some (decide (x.snd.fst = 0)) else some false).bind fun x => some x
          else
            bif decide (x.fst = 5) then
              (F72 x.snd.snd.fst).bind fun x_2 =>
                (bif x_2 then some (decide (x.snd.fst = 0)) else some false).bind fun x_3 =>
                  (bif !x_3 then
                        (bif decide (x.snd.snd.fst = 0) then (F73 x.snd.fst).bind fun x => some x else some false).bind
                          fun x => some x
                      else some true).bind
                    fun x => some x
            else some false
theorem F41_eq (x) : fnK ⟨tabT tyl, ftab [(72, ⟨s72, F72⟩), (73, ⟨s73, F73⟩)]⟩ C0 Try.f41 s41 x = F41 x := by kernel_rfl
theorem c41 : FnOk Try.prog 41 ⟨s41, F41⟩ := fn_of mix_ok rfl tyl_ok (fl := [(72, ⟨s72, F72⟩), (73, ⟨s73, F73⟩)]) ⟨c72, c73, trivial⟩ Try.func41 rfl rfl cuts0 F41_eq
/-- impl.ClientOk -/
def s11 : Sig := ⟨[.ro t30], [(.bool, true)]⟩
noncomputable def F11 (x : Int × Int × Bool × (Int × Int × Int × List UInt8) × Int) : Option (Bool) :=
  (F39 (x.fst, 1, 6)).bind fun x_1 =>
  (bif !!x_1 then (F39 (x.snd.fst, 0, 1000000)).bind fun x => some !x else some true).bind fun x_2 =>
    (bif !x_2 then (F40 x.snd.snd.snd.snd).bind fun x => some !x else some true).bind fun x_3 =>
      bif x_3 then some false
      else
        bif x.snd.snd.fst then
          (bif decide (1 ≤ x.snd.fst) then (F41 x.snd.snd.snd.fst).bind fun x => some x else some false).bind fun x =>
            some x
        else
          (bif
                  decide (x.snd.snd.snd.fst.fst = 0) &&
                    (decide (x.snd.snd.snd.fst.snd.fst = 0) &&
                      (decide (x.snd.snd.snd.fst.snd.snd.fst = 0) && decide (x.snd.snd.snd.fst.snd.snd.snd = []))) then
                some (decide (x.snd.snd.snd.snd = 0))
              else some false).bind
            fun x => some x
theorem F11_eq (x) : fnK ⟨tabT tyl, ftab [(39, ⟨s39, F39⟩), (40, ⟨s40, F40⟩), (41, ⟨s41, F41⟩)]⟩ C0 Try.f11 s11 x = F11 x := by kernel_rfl
theorem c11 : FnOk Try.prog 11 ⟨s11, F11⟩ := fn_of mix_ok rfl tyl_ok (fl := [(39, ⟨s39, F39⟩), (40, ⟨s40, F40⟩), (41, ⟨s41, F41⟩)]) ⟨c39, c40, c41, trivial⟩ Try.func11 rfl rfl cuts0 F11_eq
/-- laws.FnExactClientOk -/
def s3 : Sig := ⟨[.ro t25], [(.bool, true)]⟩
noncomputable def F3 (x : Int × Int × Bool × (Int × Int × Int × List UInt8) × Int) : Option (Bool) :=
  (F8 (x, 1048576)).bind fun x_1 =>
  bif decide (x_1 < 0) then some true
  else
    (F10 x).bind fun x_2 =>
      (F9 x_2).bind fun x_3 => (F10 x).bind fun x => (F11 x).bind fun x => bif !x == x_3 then some false else some true
theorem F3_eq (x) : fnK ⟨tabT tyl, ftab [(8, ⟨s8, F8⟩), (9, ⟨s9, F9⟩), (10, ⟨s10, F10⟩), (11, ⟨s11, F11⟩)]⟩ C0 Try.f3 s3 x = F3 x := by kernel_rfl
theorem c3 : FnOk Try.prog 3 ⟨s3, F3⟩ := fn_of mix_ok rfl tyl_ok (fl := [(8, ⟨s8, F8⟩), (9, ⟨s9, F9⟩), (10, ⟨s10, F10⟩), (11, ⟨s11, F11⟩)]) ⟨c8, c9, c10, c11, trivial⟩ Try.func3 rfl rfl cuts0 F3_eq
/-- spec.ClientCall -/
def s13 : Sig := ⟨[.ro t30, .ro t28, .ro (.int .i64)], [(t30, true), (.bool, true)]⟩
noncomputable def F13 (x : (Int × Int × Bool × (Int × Int × Int × List UInt8) × Int) × (Int × Int × Int × List UInt8) × Int) : Option ((Int × Int × Bool × (Int × Int × Int × List UInt8) × Int) × Bool) :=
  (F9 x.fst).bind fun x_1 =>
  bif !x_1 then some ((0, 0, false, (0, 0, 0, []), 0), false)
  else
    (bif !x.fst.snd.snd.fst then (F38 x.snd.fst).bind fun x => some !x else some true).bind fun x_2 =>
      (bif !x_2 then some (decide (1000000 ≤ x.fst.snd.fst)) else some true).bind fun x_3 =>
        (bif !x_3 then (F37 (x.snd.snd, 0, 1000000)).bind fun x => some !x else some true).bind fun x_4 =>
          bif x_4 then some (x.fst, false)
          else some ((x.fst.fst, IntKind.i64.wrap (x.fst.snd.fst + 1), true, x.snd.fst, x.snd.snd), true)
theorem F13_eq (x) : fnK ⟨tabT tyl, ftab [(9, ⟨s9, F9⟩), (37, ⟨s37, F37⟩), (38, ⟨s38, F38⟩)]⟩ C0 Try.f13 s13 x = F13 x := by kernel_rfl
theorem c13 : FnOk Try.prog 13 ⟨s13, F13⟩ := fn_of mix_ok rfl tyl_ok (fl := [(9, ⟨s9, F9⟩), (37, ⟨s37, F37⟩), (38, ⟨s38, F38⟩)]) ⟨c9, c37, c38, trivial⟩ Try.func13 rfl rfl cuts0 F13_eq
/-- impl.ClientCall -/
def s15 : Sig := ⟨[.ro t30, .ro t28, .ro (.int .i64)], [(t30, true), (.bool, true)]⟩
noncomputable def F15 (x : (Int × Int × Bool × (Int × Int × Int × List UInt8) × Int) × (Int × Int × Int × List UInt8) × Int) : Option ((Int × Int × Bool × (Int × Int × Int × List UInt8) × Int) × Bool) :=
  (F11 x.fst).bind fun x_1 =>
  bif !x_1 then some ((0, 0, false, (0, 0, 0, []), 0), false)
  else
    (bif !x.fst.snd.snd.fst then (F41 x.snd.fst).bind fun x => some !x else some true).bind fun x_2 =>
      (bif !x_2 then some (decide (x.fst.snd.fst = 1000000)) else some true).bind fun x_3 =>
        (bif !x_3 then (F40 x.snd.snd).bind fun x => some !x else some true).bind fun x_4 =>
          bif x_4 then some (x.fst, false)
          else some ((x.fst.fst, IntKind.i64.wrap (x.fst.snd.fst + 1), true, x.snd.fst, x.snd.snd), true)
theorem F15_eq (x) : fnK ⟨tabT tyl, ftab [(11, ⟨s11, F11⟩), (40, ⟨s40, F40⟩), (41, ⟨s41, F41⟩)]⟩ C0 Try.f15 s15 x = F15 x := by kernel_rfl
theorem c15 : FnOk Try.prog 15 ⟨s15, F15⟩ := fn_of mix_ok rfl tyl_ok (fl := [(11, ⟨s11, F11⟩), (40, ⟨s40, F40⟩), (41, ⟨s41, F41⟩)]) ⟨c11, c40, c41, trivial⟩ Try.func15 rfl rfl cuts0 F15_eq
/-- laws.eqOp -/
def s42 : Sig := ⟨[.ro t28, .ro t28], [(.bool, true)]⟩
noncomputable def F42 (x : (Int × Int × Int × List UInt8) × Int × Int × Int × List UInt8) : Option (Bool) :=
  bif !decide (x.fst.fst = x.snd.fst) then some false
else
  bif !decide (x.fst.snd.fst = x.snd.snd.fst) then some false
  else
    bif !decide (x.fst.snd.snd.fst = x.snd.snd.snd.fst) then some false
    else bif !decide (x.fst.snd.snd.snd = x.snd.snd.snd.snd) then some false else some true
theorem F42_eq (x) : fnK ⟨tabT tyl, ftab []⟩ C0 Try.f42 s42 x = F42 x := by kernel_rfl
theorem c42 : FnOk Try.prog 42 ⟨s42, F42⟩ := fn_of mix_ok rfl tyl_ok (fl := []) trivial Try.func42 rfl rfl cuts0 F42_eq
/-- laws.eqClient -/
def s16 : Sig := ⟨[.ro t30, .ro t30], [(.bool, true)]⟩
noncomputable def F16 (x : (Int × Int × Bool × (Int × Int × Int × List UInt8) × Int) × Int × Int × Bool × (Int × Int × Int × List UInt8) × Int) : Option (Bool) :=
  bif !decide (x.fst.fst = x.snd.fst) then some false
else
  bif !decide (x.fst.snd.fst = x.snd.snd.fst) then some false
  else
    bif !x.fst.snd.snd.fst == x.snd.snd.snd.fst then some false
    else
      (F42 (x.fst.snd.snd.snd.fst, x.snd.snd.snd.snd.fst)).bind fun x_1 =>
        bif !x_1 then some false
        else bif !decide (x.fst.snd.snd.snd.snd = x.snd.snd.snd.snd.snd) then some false else some true
theorem F16_eq (x) : fnK ⟨tabT tyl, ftab [(42, ⟨s42, F42⟩)]⟩ C0 Try.f16 s16 x = F16 x := by kernel_rfl
theorem c16 : FnOk Try.prog 16 ⟨s16, F16⟩ := fn_of mix_ok rfl tyl_ok (fl := [(42, ⟨s42, F42⟩)]) ⟨c42, trivial⟩ Try.func16 rfl rfl cuts0 F16_eq
/-- laws.FnExactClientCall -/
def s4 : Sig := ⟨[.ro t25, .ro t23, .ro (.int .i64)], [(.bool, true)]⟩
noncomputable def F4 (x : (Int × Int × Bool × (Int × Int × Int × List UInt8) × Int) × (Int × Int × Int × List UInt8) × Int) : Option (Bool) :=
  (F8 (x.fst, 1048576)).bind fun x_1 =>
  bif decide (x_1 < 0) then some true
  else
    (F12 (x.snd.fst, x_1)).bind fun x_2 =>
      bif decide (x_2 < 0) then some true
      else
        (F10 x.fst).bind fun x_3 =>
          (F14 x.snd.fst).bind fun x_4 =>
            (F13 (x_3, x_4, x.snd.snd)).bind fun x_5 =>
              (F10 x.fst).bind fun x_6 =>
                (F14 x.snd.fst).bind fun x_7 =>
                  (F15 (x_6, x_7, x.snd.snd)).bind fun x =>
                    (F16 (x.fst, x_5.fst)).bind fun x_8 =>
                      (bif !!x_8 then some !x.snd == x_5.snd else some true).bind fun x =>
                        bif x then some false else some true
theorem F4_eq (x) : fnK ⟨tabT tyl, ftab [(8, ⟨s8, F8⟩), (10, ⟨s10, F10⟩), (12, ⟨s12, F12⟩), (13, ⟨s13, F13⟩), (14, ⟨s14, F14⟩), (15, ⟨s15, F15⟩), (16, ⟨s16, F16⟩)]⟩ C0 Try.f4 s4 x = F4 x := by kernel_rfl
theorem c4 : FnOk Try.prog 4 ⟨s4, F4⟩ := fn_of mix_ok rfl tyl_ok (fl := [(8, ⟨s8, F8⟩), (10, ⟨s10, F10⟩), (12, ⟨s12, F12⟩), (13, ⟨s13, F13⟩), (14, ⟨s14, F14⟩), (15, ⟨s15, F15⟩), (16, ⟨s16, F16⟩)]) ⟨c8, c10, c12, c13, c14, c15, c16, trivial⟩ Try.func4 rfl rfl cuts0 F4_eq
end Go.Proofs.Ytopeacfbcdoljaa

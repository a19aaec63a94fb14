/- The types and the functions that the laws reach: what each computes, and that it computes it. Printed by a program of this session (mk2.py). -/
import Derived.Test.YtibidhcmenljoaaGreatDoorIns
namespace Go.Proofs.YtibidhcmenljoaaGreatDoor
open Go Go.Proofs.YtibidhcmenljoaaGreatDoor.V
open IntKind
noncomputable section
set_option maxRecDepth 100000
abbrev D1:=List (List UInt8×List UInt8×Int)×List Int×List (Int×Int×Int×Int×Int×List UInt8×Int×Int)
abbrev D2:=Int×Int×Int×Int×Int×List UInt8×Int×Int
abbrev D3:=List UInt8×List UInt8×Int
abbrev D4:=Int×Int×Int×List UInt8×Int×Int
abbrev D5:=List (Int×Int)×Unit
abbrev D6:=List (List UInt8)⊕List (List UInt8)×Bool
abbrev D7:=Int×Int×Int×List UInt8
abbrev D8:=Int×Int
abbrev D9:=List UInt8×Bool
abbrev D10:=D4×List D3×List Int×List D2
def t7:Ty:=.st (.pair (.int .i64) (.pair (.int .i64) (.pair .bool (.int .u8))))
def t8:Ty:=.st (.pair (.int .i64) (.pair (.int .i64) (.pair .bool (.int .u8))))
def t135:Ty:=.st (.pair .str (.pair .str (.int .i64)))
def t23:Ty:=.sl 3 (.int .i64)
def t137:Ty:=.st (.pair (.int .i64) (.pair (.int .i64) (.pair (.int .i64) (.pair .str (.pair (.int .i64) (.int .i64))))))
def t139:Ty:=.st (.pair (.int .i64) (.pair (.int .i64) t137))
def t25:Ty:=.st (.pair (.sl 135 t135) (.pair t23 (.sl 139 t139)))
def t26:Ty:=.st (.pair (.sl 135 t135) (.pair t23 (.sl 139 t139)))
def t27:Ty:=.st (.pair (.int .i64) (.pair (.int .i64) (.pair (.int .i64) .str)))
def t28:Ty:=.st (.pair (.int .i64) (.pair (.int .i64) (.pair (.int .i64) .str)))
def t102:Ty:=.st (.pair .str (.pair .str (.int .i64)))
def t36:Ty:=.st (.pair (.int .i64) (.pair (.int .i64) (.pair (.int .i64) (.pair .str (.pair (.int .i64) (.int .i64))))))
def t111:Ty:=.st (.pair (.int .i64) (.pair (.int .i64) t36))
def t33:Ty:=.st (.pair (.sl 102 t102) (.pair t23 (.sl 111 t111)))
def t34:Ty:=.st (.pair (.sl 102 t102) (.pair t23 (.sl 111 t111)))
def t35:Ty:=.st (.pair (.int .i64) (.pair (.int .i64) (.pair (.int .i64) (.pair .str (.pair (.int .i64) (.int .i64))))))
def t40:Ty:=.st (.pair (.int .i64) (.pair (.int .i64) (.pair (.int .i64) .str)))
def t46:Ty:=.sl 5 (.int .u8)
def t65:Ty:=.st (.pair (.int .i64) .str)
def t58:Ty:=.st (.pair (.int .i64) (.pair (.int .i64) (.pair t40 t36)))
def t57:Ty:=.st (.pair (.int .i64) (.pair (.int .i64) (.pair t40 t36)))
def t60:Ty:=.st (.pair (.int .i64) (.pair (.int .i64) t40))
def t61:Ty:=.st (.pair (.int .i64) (.pair (.int .i64) t40))
def t64:Ty:=.st (.pair (.int .i64) .str)
def t120:Ty:=.st (.pair (.int .i64) (.pair (.int .i64) .str))
def t122:Ty:=.st (.pair (.int .i64) (.pair t120 (.pair (.int .i64) (.pair .str (.pair t23 (.int .i64))))))
def t124:Ty:=.st (.pair (.int .i64) .str)
def t126:Ty:=.st (.pair (.int .i64) (.pair (.int .i64) .str))
def t128:Ty:=.st (.pair (.int .i64) (.pair t126 (.pair (.int .i64) (.pair .str (.pair t23 (.int .i64))))))
def t101:Ty:=.st (.pair .str (.pair .str (.int .i64)))
def t167:Ty:=.st (.pair (.int .i64) (.int .i64))
def t104:Ty:=.st (.pair (.sl 167 t167) .unit)
def t105:Ty:=.st (.pair (.sl 167 t167) .unit)
def t110:Ty:=.st (.pair (.int .i64) (.pair (.int .i64) t36))
def t119:Ty:=.st (.pair (.int .i64) (.pair (.int .i64) .str))
def t121:Ty:=.st (.pair (.int .i64) (.pair t120 (.pair (.int .i64) (.pair .str (.pair t23 (.int .i64))))))
def t127:Ty:=.st (.pair (.int .i64) (.pair t126 (.pair (.int .i64) (.pair .str (.pair t23 (.int .i64))))))
def t138:Ty:=.st (.pair (.int .i64) (.pair (.int .i64) t137))
def t158:Ty:=.st (.pair t46 (.pair (.int .i64) (.int .i64)))
def t159:Ty:=.st (.pair t46 (.pair (.int .i64) (.int .i64)))
def t166:Ty:=.st (.pair (.int .i64) (.int .i64))
def t169:Ty:=.sl 173 (.int .u32)
def t184:Ty:=.st (.pair .str .bool)
def t185:Ty:=.st (.pair .str .bool)
def t187:Ty:=.arr 8 (.int .u32)
def t204:Ty:=.arr 64 (.int .u32)
def tyl:List (Option Ty):=[none,none,some (.int .i64),some (.int .i64),some .bool,some (.int .u8),some (.int .u8),some t7,some t8,some .str,some .str,some .str,some (.int .u64),none,none,none,none,none,none,none,none,some (.int .i32),some (.sl 135 t135),some t23,some (.sl 139 t139),some t25,some t26,some t27,some t28,none,none,some (.sl 102 t102),some (.sl 111 t111),some t33,some t34,some t35,some t36,none,none,none,some t40,none,none,none,none,none,some t46,none,some (.sl 65 t65),none,none,none,none,some (.sl 58 t58),none,none,none,some t57,some t58,none,some t60,some t61,none,none,some t64,some t65,some (.sl 122 t122),some (.sl 124 t124),none,none,none,some (.sl 128 t128),none,none,none,none,none,none,none,none,none,none,none,none,none,none,none,none,none,none,none,none,none,none,none,none,none,none,none,none,none,some t101,some t102,some (.sl 167 t167),some t104,some t105,none,none,none,none,some t110,some t111,none,none,none,none,none,none,none,some t119,some t120,some t121,some t122,none,some t124,none,some t126,some t127,some t128,none,none,none,none,none,none,some t135,none,some t137,some t138,some t139,none,none,none,none,none,none,none,none,none,none,none,none,none,none,none,none,none,none,some t158,some t159,none,none,none,none,none,none,some t166,some t167,none,some t169,none,none,none,some (.int .u32),none,none,none,none,none,none,none,none,none,none,some t184,some t185,none,some t187,none,none,none,none,none,none,none,none,none,some (.int .u64),none,none,none,some (.sl 9 .str),none,none,some t204,none,none,none,none,none,none,none,none,none,none,none,none,none,none,none,none,none,none,none,none,some (.int .u8),some (.int .u8),none,none,some (.int .i32),some (.int .i32)]
theorem mix_ok:Tryz.prog.follows .mixedOrders=true:=by kernel_rfl
theorem tyl_ok:tabB Tryz.prog 12 tyl 0=true:=by kernel_rfl
def s78:Sig:=⟨[.ro t135,.ro (.int .i64)],[((.int .i64),true)],false⟩
abbrev q78:List (FuncId×V.Fn):=[]
def w_szVersion (x:D3×Int):Option (Int):=bif decide (i64.wrap (x.2-(↑(List.length x.1.1):Int))<0) then some (-1) else bif decide (i64.wrap (i64.wrap (x.2-(↑(List.length x.1.1):Int))-(↑(List.length x.1.2.1):Int))<0) then some (-1) else some (i64.wrap (i64.wrap (x.2-(↑(List.length x.1.1):
 Int))-(↑(List.length x.1.2.1):Int)))
theorem c78:FnOk Tryz.prog 78 ⟨s78,w_szVersion⟩:=fn_of mix_ok rfl tyl_ok (fl:=q78) trivial Tryz.func78 rfl rfl cuts0 (fun _=>by kernel_rfl)
def s33:Sig:=⟨[.ro (.sl 135 t135),.ro (.int .i64)],[((.int .i64),true)],false⟩
abbrev q33:List (FuncId×V.Fn):=[(78,⟨s78,w_szVersion⟩)]
def s33_13:CutSig:=⟨27,[0,1,5],[.ro (.sl 135 t135),.ro (.int .i64),.ro (.int .i64)],[(.ex 0,[1],[((.int .i64),true)]),(.ret,[4],[((.int .i64),true)])]⟩
def w_szVersionS_L13 (go:List D3×Int×Int->Option (Int⊕Int)) (x:List D3×Int×Int):Option (Int⊕Int):=bif decide (x.2.2<(↑(List.length x.1):Int)) then bif decide (0<=x.2.2) then x.1[Int.toNat x.2.2]?.bind fun x_1=>(w_szVersion (x_1,x.2.1)).bind fun x_2=>bif decide (x_2<0) then some (Sum.inr (-1))
 else go (x.1,x_2,i64.wrap (x.2.2+1)) else none else some (Sum.inl x.2.1)
theorem l33_13:CutOk Tryz.prog ⟨s33_13,iter w_szVersionS_L13 FUEL⟩ (.loop (loopOf Tryz.f33 13)):=loop_of mix_ok rfl tyl_ok (fl:=q33) ⟨c78,trivial⟩ (C:=C0) rfl (pts:=[]) (by kernel_rfl) trivial (fun _ _=>by kernel_rfl)
def w_szVersionS (x:List D3×Int):Option (Int):=bif decide (i64.wrap (x.2-(↑(List.length x.1):Int))<0) then some (-1) else(iter w_szVersionS_L13 FUEL (x.1,i64.wrap (x.2-(↑(List.length x.1):Int)),0)).bind fun x=>sumK x (fun y=>some y) fun z=>some z
abbrev k33:Cuts:=ctab [(13,⟨s33_13,iter w_szVersionS_L13 FUEL⟩)]
theorem c33:FnOk Tryz.prog 33 ⟨s33,w_szVersionS⟩:=fn_of2 mix_ok rfl tyl_ok (fl:=q33) ⟨c78,trivial⟩ Tryz.func33 rfl rfl (C:=k33) (pts:=[(⟨s33_13,iter w_szVersionS_L13 FUEL⟩,.loop (loopOf Tryz.f33 13))]) (by kernel_rfl) ⟨l33_13,trivial⟩ (fun _=>by kernel_rfl)
def s34:Sig:=⟨[.ro t23,.ro (.int .i64)],[((.int .i64),true)],false⟩
abbrev q34:List (FuncId×V.Fn):=[]
def w_szIntS (x:List Int×Int):Option (Int):=bif decide (i64.wrap (x.2-(↑(List.length x.1):Int))<0) then some (-1) else some (i64.wrap (x.2-(↑(List.length x.1):Int)))
theorem c34:FnOk Tryz.prog 34 ⟨s34,w_szIntS⟩:=fn_of mix_ok rfl tyl_ok (fl:=q34) trivial Tryz.func34 rfl rfl cuts0 (fun _=>by kernel_rfl)
def s120:Sig:=⟨[.ro t137,.ro (.int .i64)],[((.int .i64),true)],false⟩
abbrev q120:List (FuncId×V.Fn):=[]
def w_szAnswer (x:D4×Int):Option (Int):=bif decide (i64.wrap (x.2-(↑(List.length x.1.2.2.2.1):Int))<0) then some (-1) else some (i64.wrap (x.2-(↑(List.length x.1.2.2.2.1):Int)))
theorem c120:FnOk Tryz.prog 120 ⟨s120,w_szAnswer⟩:=fn_of mix_ok rfl tyl_ok (fl:=q120) trivial Tryz.func120 rfl rfl cuts0 (fun _=>by kernel_rfl)
def s79:Sig:=⟨[.ro t139,.ro (.int .i64)],[((.int .i64),true)],false⟩
abbrev q79:List (FuncId×V.Fn):=[(120,⟨s120,w_szAnswer⟩)]
def w_szSession (x:D2×Int):Option (Int):=(w_szAnswer (x.1.2.2,x.2)).bind fun x=>bif decide (x<0) then some (-1) else some x
theorem c79:FnOk Tryz.prog 79 ⟨s79,w_szSession⟩:=fn_of mix_ok rfl tyl_ok (fl:=q79) ⟨c120,trivial⟩ Tryz.func79 rfl rfl cuts0 (fun _=>by kernel_rfl)
def s35:Sig:=⟨[.ro (.sl 139 t139),.ro (.int .i64)],[((.int .i64),true)],false⟩
abbrev q35:List (FuncId×V.Fn):=[(79,⟨s79,w_szSession⟩)]
def s35_13:CutSig:=⟨27,[0,1,5],[.ro (.sl 139 t139),.ro (.int .i64),.ro (.int .i64)],[(.ex 0,[1],[((.int .i64),true)]),(.ret,[4],[((.int .i64),true)])]⟩
def w_szSessionS_L13 (go:List D2×Int×Int->Option (Int⊕Int)) (x:List D2×Int×Int):Option (Int⊕Int):=bif decide (x.2.2<(↑(List.length x.1):Int)) then bif decide (0<=x.2.2) then x.1[Int.toNat x.2.2]?.bind fun x_1=>(w_szSession (x_1,x.2.1)).bind fun x_2=>
 bif decide (x_2<0) then some (Sum.inr (-1)) else go (x.1,x_2,i64.wrap (x.2.2+1)) else none else some (Sum.inl x.2.1)
theorem l35_13:CutOk Tryz.prog ⟨s35_13,iter w_szSessionS_L13 FUEL⟩ (.loop (loopOf Tryz.f35 13)):=loop_of mix_ok rfl tyl_ok (fl:=q35) ⟨c79,trivial⟩ (C:=C0) rfl (pts:=[]) (by kernel_rfl) trivial (fun _ _=>by kernel_rfl)
def w_szSessionS (x:List D2×Int):Option (Int):=bif decide (i64.wrap (x.2-(↑(List.length x.1):Int))<0) then some (-1) else(iter w_szSessionS_L13 FUEL (x.1,i64.wrap (x.2-(↑(List.length x.1):Int)),0)).bind fun x=>sumK x (fun y=>some y) fun z=>some z
abbrev k35:Cuts:=ctab [(13,⟨s35_13,iter w_szSessionS_L13 FUEL⟩)]
theorem c35:FnOk Tryz.prog 35 ⟨s35,w_szSessionS⟩:=fn_of2 mix_ok rfl tyl_ok (fl:=q35) ⟨c79,trivial⟩ Tryz.func35 rfl rfl (C:=k35) (pts:=[(⟨s35_13,iter w_szSessionS_L13 FUEL⟩,.loop (loopOf Tryz.f35 13))]) (by kernel_rfl) ⟨l35_13,trivial⟩ (fun _=>by kernel_rfl)
def s6:Sig:=⟨[.ro t26,.ro (.int .i64)],[((.int .i64),true)],false⟩
abbrev q6:List (FuncId×V.Fn):=[(33,⟨s33,w_szVersionS⟩),(34,⟨s34,w_szIntS⟩),(35,⟨s35,w_szSessionS⟩)]
def w_szReg (x:D1×Int):Option (Int):=(w_szVersionS (x.1.1,x.2)).bind fun x_1=>bif decide (x_1<0) then some (-1) else(w_szIntS (x.1.2.1,x_1)).bind fun x_2=>bif decide (x_2<0) then some (-1) else(w_szSessionS (x.1.2.2,x_2)).bind fun x=>bif decide (x<0)
 then some (-1) else some x
theorem c6:FnOk Tryz.prog 6 ⟨s6,w_szReg⟩:=fn_of mix_ok rfl tyl_ok (fl:=q6) ⟨c33,c34,c35,trivial⟩ Tryz.func6 rfl rfl cuts0 (fun _=>by kernel_rfl)
def s7:Sig:=⟨[.ro t28,.ro (.int .i64)],[((.int .i64),true)],false⟩
abbrev q7:List (FuncId×V.Fn):=[]
def w_szOp (x:D7×Int):Option (Int):=bif decide (i64.wrap (x.2-(↑(List.length x.1.2.2.2):Int))<0) then some (-1) else some (i64.wrap (x.2-(↑(List.length x.1.2.2.2):Int)))
theorem c7:FnOk Tryz.prog 7 ⟨s7,w_szOp⟩:=fn_of mix_ok rfl tyl_ok (fl:=q7) trivial Tryz.func7 rfl rfl cuts0 (fun _=>by kernel_rfl)
def s64:Sig:=⟨[.ro (.int .i64),.ro (.int .i64),.ro (.int .i64)],[(.bool,true)],false⟩
abbrev q64:List (FuncId×V.Fn):=[]
def s_l1In (x:Int×Int×Int):Option (Bool):=(bif decide (x.2.1<=x.1) then some (decide (x.1<=x.2.2)) else some false).bind fun x=>some x
theorem c64:FnOk Tryz.prog 64 ⟨s64,s_l1In⟩:=fn_of mix_ok rfl tyl_ok (fl:=q64) trivial Tryz.func64 rfl rfl cuts0 (fun _=>by kernel_rfl)
def s111:Sig:=⟨[.ro (.int .i64)],[(.str,true)],false⟩
abbrev q111:List (FuncId×V.Fn):=[(64,⟨s64,s_l1In⟩)]
def s111_11:CutSig:=⟨25,[0,3],[.ro (.int .i64),.own t46],[(.ex 0,[0,3],[((.int .i64),true),(t46,true)])]⟩
def s_Var_L11 (go:Int×List Int->Option (Int×List Int)) (x:Int×List Int):Option (Int×List Int):=bif decide (128<=x.1) then bif decide (List.length x.2+(1:Nat)<=4294967296) then go (i64.wrap (Int.tdiv x.1 128),x.2++[u8.wrap (i64.wrap (128+Int.tmod x.1 128))]) else none else some (x.1,x.2)
theorem l111_11:CutOk Tryz.prog ⟨s111_11,iter s_Var_L11 FUEL⟩ (.loop (loopOf Tryz.f111 11)):=loop_of mix_ok rfl tyl_ok (fl:=q111) ⟨c64,trivial⟩ (C:=C0) rfl (pts:=[]) (by kernel_rfl) trivial (fun _ _=>by kernel_rfl)
def s_Var (x:Int):Option (List UInt8):=(s_l1In (x,0,562949953421311)).bind fun x_1=>bif !x_1 then some [] else(iter s_Var_L11 FUEL (x,List.replicate 0 0)).bind fun x=>bif decide (List.length x.2+(1:Nat)<=4294967296) then some (List.map (fun(b:Int)=>UInt8.ofNat b.toNat) (x.2++[u8.wrap x.1])) else none
abbrev k111:Cuts:=ctab [(11,⟨s111_11,iter s_Var_L11 FUEL⟩)]
theorem c111:FnOk Tryz.prog 111 ⟨s111,s_Var⟩:=fn_of2 mix_ok rfl tyl_ok (fl:=q111) ⟨c64,trivial⟩ Tryz.func111 rfl rfl (C:=k111) (pts:=[(⟨s111_11,iter s_Var_L11 FUEL⟩,.loop (loopOf Tryz.f111 11))]) (by kernel_rfl) ⟨l111_11,trivial⟩ (fun _=>by kernel_rfl)
def s104:Sig:=⟨[.ro .str],[((.int .i64),true),((.int .i64),true)],false⟩
abbrev q104:List (FuncId×V.Fn):=[(111,⟨s111,s_Var⟩)]
def s104_15:CutSig:=⟨39,[0,5,6],[.ro .str,.ro (.int .i64),.ro (.int .i64)],[(.ex 2,[5],[((.int .i64),true)])]⟩
def s_ReadVar_L15 (go:List UInt8×Int×Int->Option (Int)) (x:List UInt8×Int×Int):Option (Int):=bif decide (0<=x.2.2) then bif decide (0<=x.2.2) then x.1[Int.toNat x.2.2]?.bind fun x_1=>go (x.1,i64.wrap (i64.wrap (x.2.1*128)+(i64.wrap (↑x_1.toNat:Int)).tmod 128),i64.wrap (x.2.2-1)) else none else some x.2.1
theorem l104_15:CutOk Tryz.prog ⟨s104_15,iter s_ReadVar_L15 FUEL⟩ (.loop (loopOf Tryz.f104 15)):=loop_of mix_ok rfl tyl_ok (fl:=q104) ⟨c111,trivial⟩ (C:=C0) rfl (pts:=[]) (by kernel_rfl) trivial (fun _ _=>by kernel_rfl)
def s104_7:CutSig:=⟨39,[0,4],[.ro .str,.ro (.int .i64)],[(.ex 0,[],[]),(.ret,[2,3],[((.int .i64),true),((.int .i64),true)])]⟩
def s_ReadVar_L7 (go:List UInt8×Int->Option (Unit⊕Int×Int)) (x:List UInt8×Int):Option (Unit⊕Int×Int):=(bif decide (x.2<=7) then some (decide (x.2<=(↑(List.length x.1):Int))) else some false).bind fun x_1=>bif x_1 then(iter s_ReadVar_L15 FUEL (x.1,0,i64.wrap (x.2-1))).bind fun x_2=>(s_Var x_2).bind fun x_3=>bif decide (0<=x.2)&&decide
 (x.2<=(↑(List.length x.1):Int)) then bif decide (x_3=List.take (Int.toNat x.2) x.1) then some (Sum.inr (x_2,x.2)) else go (x.1,i64.wrap (x.2+1)) else none else some (Sum.inl ())
theorem l104_7:CutOk Tryz.prog ⟨s104_7,iter s_ReadVar_L7 FUEL⟩ (.loop (loopOf Tryz.f104 7)):=loop_of mix_ok rfl tyl_ok (fl:=q104) ⟨c111,trivial⟩ (C:=ctab [(15,⟨s104_15,iter s_ReadVar_L15 FUEL⟩)]) rfl (pts:=[(⟨s104_15,iter s_ReadVar_L15 FUEL⟩,.loop (loopOf Tryz.f104 15))]) (by kernel_rfl) ⟨l104_15,trivial⟩ (fun _ _=>by kernel_rfl)
def s_ReadVar (x:List UInt8):Option D8:=(iter s_ReadVar_L7 FUEL (x,1)).bind fun x=>sumK x (fun _=>some (0,0)) fun z=>some (z.1,z.2)
abbrev k104:Cuts:=ctab [(7,⟨s104_7,iter s_ReadVar_L7 FUEL⟩)]
theorem c104:FnOk Tryz.prog 104 ⟨s104,s_ReadVar⟩:=fn_of2 mix_ok rfl tyl_ok (fl:=q104) ⟨c111,trivial⟩ Tryz.func104 rfl rfl (C:=k104) (pts:=[(⟨s104_7,iter s_ReadVar_L7 FUEL⟩,.loop (loopOf Tryz.f104 7))]) (by kernel_rfl) ⟨l104_7,trivial⟩ (fun _=>by kernel_rfl)
def s168:Sig:=⟨[.ro (.sl 9 .str),.ro (.int .i64)],[(.str,true)],false⟩
abbrev q168:List (FuncId×V.Fn):=[]
def s_l7Bytes (x:List (List UInt8)×Int):Option (List UInt8):=bif decide (x.2<256) then some (List.map (fun(b:Int)=>UInt8.ofNat b.toNat) [u8.wrap x.2]) else bif decide (0<=i64.wrap (x.2-256)) then x.1[(i64.wrap (x.2-256)).toNat]?.bind fun x=>some x else none
theorem c168:FnOk Tryz.prog 168 ⟨s168,s_l7Bytes⟩:=fn_of mix_ok rfl tyl_ok (fl:=q168) trivial Tryz.func168 rfl rfl cuts0 (fun _=>by kernel_rfl)
def s159:Sig:=⟨[.ro t105],[((.sl 9 .str),true),(.bool,true)],false⟩
abbrev q159:List (FuncId×V.Fn):=[(64,⟨s64,s_l1In⟩),(168,⟨s168,s_l7Bytes⟩)]
def s159_31:CutSig:=⟨72,[4,5,7,8],[.own (.sl 9 .str),.ro (.int .i64),.ro .str,.ro (.int .i64)],[(.ex 2,[4],[((.sl 9 .str),true)]),(.ret,[2,3],[((.sl 9 .str),true),(.bool,true)])]⟩
def s_l7Table_L31 (go:List (List UInt8)×Int×List UInt8×Int->Option D6) (x:List (List UInt8)×Int×List UInt8×Int):Option D6:=bif decide (x.2.2.2<x.2.1) then bif decide (0<=x.2.2.2) then x.1[Int.toNat x.2.2.2]?.bind fun _=>x.1[Int.toNat x.2.2.2]?.bind fun x_2=>bif
 decide (x_2=x.2.2.1) then some (Sum.inr (x.1,false)) else go (x.1,x.2.1,x.2.2.1,i64.wrap (x.2.2.2+1)) else none else some (Sum.inl x.1)
theorem l159_31:CutOk Tryz.prog ⟨s159_31,iter s_l7Table_L31 FUEL⟩ (.loop (loopOf Tryz.f159 31)):=loop_of mix_ok rfl tyl_ok (fl:=q159) ⟨c64,c168,trivial⟩ (C:=C0) rfl (pts:=[]) (by kernel_rfl) trivial (fun _ _=>by kernel_rfl)
def s159_13:CutSig:=⟨72,[1,4,5],[.pin t105,.own (.sl 9 .str),.ro (.int .i64)],[(.ex 0,[4],[((.sl 9 .str),true)]),(.ret,[2,3],[((.sl 9 .str),true),(.bool,true)])]⟩
def s_l7Table_L13 (go:D5×List (List UInt8)×Int->Option D6) (x:D5×List (List UInt8)×Int):Option D6:=bif decide (x.2.2<(↑(List.length x.1.1):Int)) then bif decide (0<=x.2.2) then x.1.1[Int.toNat x.2.2]?.bind fun x_1=>(s_l1In
 (x_1.1,0,i64.wrap (255+x.2.2))).bind fun x_2=>(bif !!x_2 then(s_l1In (x_1.2,0,i64.wrap (255+x.2.2))).bind fun x=>some !x else some true).bind fun x_3=>bif x_3 then some (Sum.inr (x.2.1,false)) else(s_l7Bytes (x.2.1,x_1.1)).bind fun x_4=>(s_l7Bytes (x.2.1,x_1.2)).bind fun x_5=>bif decide (x_4.length+x_5.length<=4611686018427387904) then bif decide (24<
 (↑(x_4++x_5).length:Int)) then some (Sum.inr (x.2.1,false)) else(iter s_l7Table_L31 FUEL (x.2.1,x.2.2,x_4++x_5,0)).bind fun x_6=>sumK x_6 (fun y=>bif decide (y.length+(1:Nat)<=4294967296) then go (x.1,y++[x_4++x_5],i64.wrap (x.2.2+1)) else none) fun z=>some (Sum.inr (z.1,z.2)) else none else none else some (Sum.inl x.2.1)
theorem l159_13:CutOk Tryz.prog ⟨s159_13,iter s_l7Table_L13 FUEL⟩ (.loop (loopOf Tryz.f159 13)):=loop_of mix_ok rfl tyl_ok (fl:=q159) ⟨c64,c168,trivial⟩ (C:=ctab [(31,⟨s159_31,iter s_l7Table_L31 FUEL⟩)]) rfl (pts:=[(⟨s159_31,iter s_l7Table_L31 FUEL⟩,.loop (loopOf Tryz.f159 31))]) (by kernel_rfl) ⟨l159_31,trivial⟩ (fun _ _=>by kernel_rfl)
def s_l7Table (x:List D8×Unit):Option (List (List UInt8)×Bool):=bif decide (60<(↑(List.length x.1):Int)) then some (List.replicate 0 [],false) else(iter s_l7Table_L13 FUEL (x,List.replicate 0 [],0)).bind fun x=>sumK x (fun y=>some (y,true)) fun z=>some (z.1,z.2)
abbrev k159:Cuts:=ctab [(13,⟨s159_13,iter s_l7Table_L13 FUEL⟩)]
theorem c159:FnOk Tryz.prog 159 ⟨s159,s_l7Table⟩:=fn_of2 mix_ok rfl tyl_ok (fl:=q159) ⟨c64,c168,trivial⟩ Tryz.func159 rfl rfl (C:=k159) (pts:=[(⟨s159_13,iter s_l7Table_L13 FUEL⟩,.loop (loopOf Tryz.f159 13))]) (by kernel_rfl) ⟨l159_13,trivial⟩ (fun _=>by kernel_rfl)
def s143:Sig:=⟨[.ro t105],[(.bool,true)],false⟩
abbrev q143:List (FuncId×V.Fn):=[(159,⟨s159,s_l7Table⟩)]
def s_VocabOk (x:List D8×Unit):Option (Bool):=(s_l7Table x).bind fun x=>some x.2
theorem c143:FnOk Tryz.prog 143 ⟨s143,s_VocabOk⟩:=fn_of mix_ok rfl tyl_ok (fl:=q143) ⟨c159,trivial⟩ Tryz.func143 rfl rfl cuts0 (fun _=>by kernel_rfl)
def s105:Sig:=⟨[.ro t105],[(.str,true)],false⟩
abbrev q105:List (FuncId×V.Fn):=[(111,⟨s111,s_Var⟩),(143,⟨s143,s_VocabOk⟩)]
def s105_13:CutSig:=⟨38,[1,3,4],[.pin t105,.ro .str,.ro (.int .i64)],[(.ex 0,[3],[(.str,true)])]⟩
def s_Canon_L13 (go:D5×List UInt8×Int->Option (List UInt8)) (x:D5×List UInt8×Int):Option (List UInt8):=bif decide (x.2.2<(↑(List.length x.1.1):Int)) then bif decide (0<=x.2.2) then x.1.1[Int.toNat x.2.2]?.bind fun x_1=>(s_Var x_1.1).bind fun x_2=>bif decide (List.length x.2.1+x_2.length ≤
 4611686018427387904) then bif decide (0<=x.2.2) then x.1.1[Int.toNat x.2.2]?.bind fun x_3=>(s_Var x_3.2).bind fun x_4=>bif decide ((x.2.1++x_2).length+x_4.length<=4611686018427387904) then go (x.1,x.2.1++x_2++x_4,i64.wrap (x.2.2+1)) else none else none else none else none else some x.2.1
theorem l105_13:CutOk Tryz.prog ⟨s105_13,iter s_Canon_L13 FUEL⟩ (.loop (loopOf Tryz.f105 13)):=loop_of mix_ok rfl tyl_ok (fl:=q105) ⟨c111,c143,trivial⟩ (C:=C0) rfl (pts:=[]) (by kernel_rfl) trivial (fun _ _=>by kernel_rfl)
def s_Canon (x:List D8×Unit):Option (List UInt8):=(s_VocabOk x).bind fun x_1=>bif !x_1 then some [] else(s_Var (↑(List.length x.1):Int)).bind fun x_2=>bif decide ((3:Nat)+x_2.length<=4611686018427387904) then(iter s_Canon_L13 FUEL (x,[(98:UInt8),(112:UInt8),(101:UInt8)]++x_2,0)).bind fun x=>some x else none
abbrev k105:Cuts:=ctab [(13,⟨s105_13,iter s_Canon_L13 FUEL⟩)]
theorem c105:FnOk Tryz.prog 105 ⟨s105,s_Canon⟩:=fn_of2 mix_ok rfl tyl_ok (fl:=q105) ⟨c111,c143,trivial⟩ Tryz.func105 rfl rfl (C:=k105) (pts:=[(⟨s105_13,iter s_Canon_L13 FUEL⟩,.loop (loopOf Tryz.f105 13))]) (by kernel_rfl) ⟨l105_13,trivial⟩ (fun _=>by kernel_rfl)
def s61:Sig:=⟨[.ro .str],[(t105,true),(.bool,true)],false⟩
abbrev q61:List (FuncId×V.Fn):=[(104,⟨s104,s_ReadVar⟩),(105,⟨s105,s_Canon⟩)]
def s61_13:CutSig:=⟨66,[0,2,4,5],[.ro .str,.pio t105,.pio t105,.ro (.int .i64)],[(.ex 0,[],[]),(.ret,[3],[(.bool,true)])]⟩
def s_ReadCanon_L13 (go:List UInt8×D5×D5×Int->Option (D5×List D8×Unit⊕Bool×D5×List D8×Unit)) (x:List UInt8×D5×D5×Int):Option (D5×List D8×Unit⊕Bool×
 D5×List D8×Unit):=bif decide (x.2.2.2<(↑(List.length x.1):Int)) then bif decide (0<=x.2.2.2)&&decide (x.2.2.2<=(↑(List.length x.1):Int)) then(s_ReadVar (List.drop (Int.toNat x.2.2.2) x.1)).bind fun x_1=>bif decide (0<=i64.wrap (x.2.2.2+x_1.2))&&decide (i64.wrap (x.2.2.2+x_1.2)<=(↑(List.length x.1):Int)) then
 (s_ReadVar (List.drop (i64.wrap (x.2.2.2+x_1.2)).toNat x.1)).bind fun x_2=>(bif !decide (x_1.2=0) then some (decide (x_2.2=0)) else some true).bind fun x_3=>bif x_3 then some (Sum.inr (false,([],()),x.2.2.1)) else bif decide (List.length x.2.2.1.1+(1:Nat)<=4294967296) then go (x.1,x.2.1,(x.2.2.1.1++[(x_1.1,x_2.1)],x.2.2.1.2),i64.wrap (i64.wrap
 (x.2.2.2+x_1.2)+x_2.2)) else none else none else none else some (Sum.inl (x.2.1,x.2.2.1))
theorem l61_13:CutOk Tryz.prog ⟨s61_13,iter s_ReadCanon_L13 FUEL⟩ (.loop (loopOf Tryz.f61 13)):=loop_of mix_ok rfl tyl_ok (fl:=q61) ⟨c104,c105,trivial⟩ (C:=C0) rfl (pts:=[]) (by kernel_rfl) trivial (fun _ _=>by kernel_rfl)
def s_ReadCanon (x:List UInt8):Option (D5×Bool):=(bif !decide ((↑x.length:Int)<4) then some (decide (250<(↑x.length:Int))) else some true).bind fun x_1=>bif x_1 then some (([],()),false) else(iter s_ReadCanon_L13 FUEL (x,([],()),([],()),4)).bind fun x_2=>sumK x_2 (fun y=>(s_Canon y.2).bind fun x_3=>bif !decide (x_3=x) then
 some (([],()),false) else some (y.2,true)) fun z=>some (z.2.1,z.1)
abbrev k61:Cuts:=ctab [(13,⟨s61_13,iter s_ReadCanon_L13 FUEL⟩)]
theorem c61:FnOk Tryz.prog 61 ⟨s61,s_ReadCanon⟩:=fn_of2 mix_ok rfl tyl_ok (fl:=q61) ⟨c104,c105,trivial⟩ Tryz.func61 rfl rfl (C:=k61) (pts:=[(⟨s61_13,iter s_ReadCanon_L13 FUEL⟩,.loop (loopOf Tryz.f61 13))]) (by kernel_rfl) ⟨l61_13,trivial⟩ (fun _=>by kernel_rfl)
def s62:Sig:=⟨[.ro (.sl 102 t102),.ro .str],[((.int .i64),true)],false⟩
abbrev q62:List (FuncId×V.Fn):=[]
def s62_7:CutSig:=⟨21,[0,1,5],[.ro (.sl 102 t102),.ro .str,.ro (.int .i64)],[(.ex 0,[],[]),(.ret,[4],[((.int .i64),true)])]⟩
def s_l12Body_L7 (go:List D3×List UInt8×Int->Option (Unit⊕Int)) (x:List D3×List UInt8×Int):Option (Unit⊕Int):=bif decide (x.2.2<(↑(List.length x.1):Int)) then bif decide (0<=x.2.2) then x.1[Int.toNat x.2.2]?.bind fun x_1=>bif decide (x_1.1=x.2.1) then some (Sum.inr (i64.wrap (x.2.2+
 1))) else go (x.1,x.2.1,i64.wrap (x.2.2+1)) else none else some (Sum.inl ())
theorem l62_7:CutOk Tryz.prog ⟨s62_7,iter s_l12Body_L7 FUEL⟩ (.loop (loopOf Tryz.f62 7)):=loop_of mix_ok rfl tyl_ok (fl:=q62) trivial (C:=C0) rfl (pts:=[]) (by kernel_rfl) trivial (fun _ _=>by kernel_rfl)
def s_l12Body (x:List D3×List UInt8):Option (Int):=(iter s_l12Body_L7 FUEL (x.1,x.2,0)).bind fun x=>sumK x (fun _=>some 0) fun z=>some z
abbrev k62:Cuts:=ctab [(7,⟨s62_7,iter s_l12Body_L7 FUEL⟩)]
theorem c62:FnOk Tryz.prog 62 ⟨s62,s_l12Body⟩:=fn_of2 mix_ok rfl tyl_ok (fl:=q62) trivial Tryz.func62 rfl rfl (C:=k62) (pts:=[(⟨s62_7,iter s_l12Body_L7 FUEL⟩,.loop (loopOf Tryz.f62 7))]) (by kernel_rfl) ⟨l62_7,trivial⟩ (fun _=>by kernel_rfl)
def s106:Sig:=⟨[],[(t169,true)],false⟩
abbrev q106:List (FuncId×V.Fn):=[]
def s_l2Begin (_:Unit):Option (List Int):=some [1779033703,3144134277,1013904242,2773480762,1359893119,2600822924,528734635,1541459225]
theorem c106:FnOk Tryz.prog 106 ⟨s106,s_l2Begin⟩:=fn_of mix_ok rfl tyl_ok (fl:=q106) trivial Tryz.func106 rfl rfl cuts0 (fun _=>by kernel_rfl)
def s107:Sig:=⟨[],[(t169,true)],false⟩
abbrev q107:List (FuncId×V.Fn):=[]
def s_l2Table (_:Unit):Option (List Int):=some (((((((((((((((((((((((((((((((((((((((((((((((((((((((((((((((((List.replicate 64 0).set 0 1116352408).set 1 1899447441).set 2 3049323471).set 3 3921009573).set 4 961987163).set 5 1508970993).set 6 2453635748).set 7 2870763221).set 8 3624381080).set 9 310598401).set 10 607225278).set 11 1426881987).set 12 1925078388).set 13
 2162078206).set 14 2614888103).set 15 3248222580).set 16 3835390401).set 17 4022224774).set 18 264347078).set 19 604807628).set 20 770255983).set 21 1249150122).set 22 1555081692).set 23 1996064986).set 24 2554220882).set 25 2821834349).set 26 2952996808).set 27 3210313671).set 28 3336571891).set 29 3584528711).set 30 113926993).set 31 338241895).set 32 666307205).set 33 773529912).set 34
 1294757372).set 35 1396182291).set 36 1695183700).set 37 1986661051).set 38 2177026350).set 39 2456956037).set 40 2730485921).set 41 2820302411).set 42 3259730800).set 43 3345764771).set 44 3516065817).set 45 3600352804).set 46 4094571909).set 47 275423344).set 48 430227734).set 49 506948616).set 50 659060556).set 51 883997877).set 52 958139571).set 53 1322822218).set 54 1537002063).set 55
 1747873779).set 56 1955562222).set 57 2024104815).set 58 2227730452).set 59 2361852424).set 60 2428436474).set 61 2756734187).set 62 3204031479).set 63 3329325298)
theorem c107:FnOk Tryz.prog 107 ⟨s107,s_l2Table⟩:=fn_of mix_ok rfl tyl_ok (fl:=q107) trivial Tryz.func107 rfl rfl cuts0 (fun _=>by kernel_rfl)
def s108:Sig:=⟨[.ro (.int .i64),.ro (.int .i64)],[(.str,true)],false⟩
abbrev q108:List (FuncId×V.Fn):=[(64,⟨s64,s_l1In⟩)]
def s108_13:CutSig:=⟨31,[0,1,5,6],[.ro (.int .i64),.ro (.int .i64),.ro .str,.ro (.int .i64)],[(.ex 0,[0,5],[((.int .i64),true),(.str,true)])]⟩
def s_Fixed_L13 (go:Int×Int×List UInt8×Int->Option (Int×List UInt8)) (x:Int×Int×List UInt8×Int):Option (Int×List UInt8):=bif decide (x.2.2.2<x.2.1) then bif decide ((List.map (fun(b:Int)=>UInt8.ofNat b.toNat) [u8.wrap (Int.tmod x.1 256)]).length+List.length x.2.2.1<=4611686018427387904) then go (i64.wrap (Int.tdiv x.1 256),x.2.1,
 List.map (fun(b:Int)=>UInt8.ofNat b.toNat) [u8.wrap (Int.tmod x.1 256)]++x.2.2.1,i64.wrap (x.2.2.2+1)) else none else some (x.1,x.2.2.1)
theorem l108_13:CutOk Tryz.prog ⟨s108_13,iter s_Fixed_L13 FUEL⟩ (.loop (loopOf Tryz.f108 13)):=loop_of mix_ok rfl tyl_ok (fl:=q108) ⟨c64,trivial⟩ (C:=C0) rfl (pts:=[]) (by kernel_rfl) trivial (fun _ _=>by kernel_rfl)
def s_Fixed (x:Int×Int):Option (List UInt8):=(s_l1In (x.2,1,7)).bind fun x_1=>(bif !!x_1 then some (decide (x.1<0)) else some true).bind fun x_2=>bif x_2 then some [] else(iter s_Fixed_L13 FUEL (x.1,x.2,[],0)).bind fun x=>bif decide (0<x.1) then some [] else some x.2
abbrev k108:Cuts:=ctab [(13,⟨s108_13,iter s_Fixed_L13 FUEL⟩)]
theorem c108:FnOk Tryz.prog 108 ⟨s108,s_Fixed⟩:=fn_of2 mix_ok rfl tyl_ok (fl:=q108) ⟨c64,trivial⟩ Tryz.func108 rfl rfl (C:=k108) (pts:=[(⟨s108_13,iter s_Fixed_L13 FUEL⟩,.loop (loopOf Tryz.f108 13))]) (by kernel_rfl) ⟨l108_13,trivial⟩ (fun _=>by kernel_rfl)
def s144:Sig:=⟨[.ro (.int .u32),.ro (.int .i64)],[((.int .u32),true)],false⟩
abbrev q144:List (FuncId×V.Fn):=[]
def s_l2Turn (x:Int×Int):Option (Int):=bif decide (0<=u64.wrap x.2) then bif decide (0<=u64.wrap (i64.wrap (32-x.2))) then some (u32.wrap (↑(BitVec.ofInt u32.bits (Int.fdiv x.1 (2^min (u64.wrap x.2).toNat u32.bits))|||BitVec.ofInt u32.bits (u32.wrap (x.1*2^min (u64.wrap
 (i64.wrap (32-x.2))).toNat u32.bits))).toNat:Int)) else none else none
theorem c144:FnOk Tryz.prog 144 ⟨s144,s_l2Turn⟩:=fn_of mix_ok rfl tyl_ok (fl:=q144) trivial Tryz.func144 rfl rfl cuts0 (fun _=>by kernel_rfl)
def s109:Sig:=⟨[.ro t169,.ro t169,.ro .str],[(t169,true)],false⟩
abbrev q109:List (FuncId×V.Fn):=[(144,⟨s144,s_l2Turn⟩)]
def s109_9:CutSig:=⟨256,[2,7,8],[.ro .str,.own t169,.ro (.int .i64)],[(.ex 0,[7],[(t169,true)])]⟩
def s_l2Block_L9 (go:List UInt8×List Int×Int->Option (List Int)) (x:List UInt8×List Int×Int):Option (List Int):=bif decide (x.2.2<16) then bif decide (0<=i64.wrap (4*x.2.2)) then x.1[(i64.wrap (4*x.2.2)).toNat]?.bind fun x_1=>bif decide (0<=i64.wrap (i64.wrap (4*x.2.2)+1)) then x.1[(i64.wrap (i64.wrap (4
 *x.2.2)+1)).toNat]?.bind fun x_2=>bif decide (0<=i64.wrap (i64.wrap (4*x.2.2)+2)) then x.1[(i64.wrap (i64.wrap (4*x.2.2)+2)).toNat]?.bind fun x_3=>bif decide (0<=i64.wrap (i64.wrap (4*x.2.2)+3)) then x.1[(i64.wrap (i64.wrap (4*x.2.2)+3)).toNat]?.bind fun x_4=>bif decide (List.length x.2.1+(1:Nat) ≤
 4294967296) then go (x.1,x.2.1++[u32.wrap (↑(BitVec.ofInt u32.bits (u32.wrap (↑(BitVec.ofInt u32.bits (u32.wrap (↑(BitVec.ofInt u32.bits (u32.wrap (u32.wrap (↑x_1.toNat:Int)*2^min (Int.toNat 24) u32.bits))|||BitVec.ofInt u32.bits (u32.wrap (u32.wrap (↑x_2.toNat:Int)*2^min (Int.toNat
 16) u32.bits))).toNat:Int))|||BitVec.ofInt u32.bits (u32.wrap (u32.wrap (↑x_3.toNat:Int)*2^min (Int.toNat 8) u32.bits))).toNat:Int))|||BitVec.ofInt u32.bits (u32.wrap (↑x_4.toNat:Int))).toNat:Int)],i64.wrap (x.2.2+1)) else none else none else none else none else none else some x.2.1
theorem l109_9:CutOk Tryz.prog ⟨s109_9,iter s_l2Block_L9 FUEL⟩ (.loop (loopOf Tryz.f109 9)):=loop_of mix_ok rfl tyl_ok (fl:=q109) ⟨c144,trivial⟩ (C:=C0) rfl (pts:=[]) (by kernel_rfl) trivial (fun _ _=>by kernel_rfl)
def s109_17:CutSig:=⟨256,[7,9],[.own t169,.ro (.int .i64)],[(.ex 2,[7],[(t169,true)])]⟩
def s_l2Block_L17 (go:List Int×Int->Option (List Int)) (x:List Int×Int):Option (List Int):=bif decide (x.2<64) then bif decide (0<=i64.wrap (x.2-15)) then x.1[(i64.wrap (x.2-15)).toNat]?.bind fun _=>x.1[Int.toNat (i64.wrap (x.2-15))]?.bind fun x_2=>(s_l2Turn (x_2,7)).bind fun x_3=>bif decide (0<=i64.wrap (x.2-15))
 then x.1[(i64.wrap (x.2-15)).toNat]?.bind fun _=>x.1[Int.toNat (i64.wrap (x.2-15))]?.bind fun x_5=>(s_l2Turn (x_5,18)).bind fun x_6=>bif decide (0<=i64.wrap (x.2-15)) then x.1[(i64.wrap (x.2-15)).toNat]?.bind fun _=>x.1[Int.toNat (i64.wrap (x.2-15))]?.bind fun x_8=>bif decide (0<=i64.wrap (x.2-2)) then
 x.1[(i64.wrap (x.2-2)).toNat]?.bind fun _=>x.1[Int.toNat (i64.wrap (x.2-2))]?.bind fun x_10=>(s_l2Turn (x_10,17)).bind fun x_11=>bif decide (0<=i64.wrap (x.2-2)) then x.1[(i64.wrap (x.2-2)).toNat]?.bind fun _=>x.1[Int.toNat (i64.wrap (x.2-2))]?.bind fun x_13=>(s_l2Turn (x_13,19)).bind fun x_14=>bif decide (0<=i64.wrap
 (x.2-2)) then x.1[(i64.wrap (x.2-2)).toNat]?.bind fun _=>x.1[Int.toNat (i64.wrap (x.2-2))]?.bind fun x_16=>bif decide (0<=i64.wrap (x.2-16)) then x.1[(i64.wrap (x.2-16)).toNat]?.bind fun _=>x.1[Int.toNat (i64.wrap (x.2-16))]?.bind fun x_18=>bif decide (0<=i64.wrap (x.2-7)) then x.1[(i64.wrap (x.2-
 7)).toNat]?.bind fun _=>x.1[Int.toNat (i64.wrap (x.2-7))]?.bind fun x_20=>bif decide (List.length x.1+(1:Nat)<=4294967296) then go (x.1++[u32.wrap (u32.wrap (u32.wrap (x_18+u32.wrap (↑(BitVec.ofInt u32.bits (u32.wrap (↑(BitVec.ofInt u32.bits x_3^^^BitVec.ofInt u32.bits x_6).toNat:Int))^^^BitVec.ofInt
 u32.bits (x_8.fdiv (2^min (Int.toNat 3) u32.bits))).toNat:Int))+x_20)+u32.wrap (↑(BitVec.ofInt u32.bits (u32.wrap (↑(BitVec.ofInt u32.bits x_11^^^BitVec.ofInt u32.bits x_14).toNat:Int))^^^BitVec.ofInt u32.bits (x_16.fdiv (2^min (Int.toNat 10) u32.bits))).toNat:Int))],i64.wrap (x.2+1)) else none
 else none else none else none else none else none else none else none else none else some x.1
theorem l109_17:CutOk Tryz.prog ⟨s109_17,iter s_l2Block_L17 FUEL⟩ (.loop (loopOf Tryz.f109 17)):=loop_of mix_ok rfl tyl_ok (fl:=q109) ⟨c144,trivial⟩ (C:=C0) rfl (pts:=[]) (by kernel_rfl) trivial (fun _ _=>by kernel_rfl)
def s109_31:CutSig:=⟨256,[1,7,12,13],[.ro t169,.ro t169,.own t169,.ro (.int .i64)],[(.ex 4,[12],[(t169,true)])]⟩
def s_l2Block_L31 (go:List Int×List Int×List Int×Int->Option (List Int)) (x:List Int×List Int×List Int×Int):Option (List Int):=bif decide (x.2.2.2<64) then x.2.2.1[Int.toNat 4]?.bind fun _=>x.2.2.1[4]?.bind fun x_2=>(s_l2Turn (x_2,6)).bind fun x_3=>x.2.2.1[Int.toNat 4]?.bind fun _=>x.2.2.1[4]?.bind fun x_5=>(s_l2Turn (x_5,11)).bind fun x_6=>
 x.2.2.1[Int.toNat 4]?.bind fun _=>x.2.2.1[4]?.bind fun x_8=>(s_l2Turn (x_8,25)).bind fun x_9=>x.2.2.1[Int.toNat 7]?.bind fun _=>x.2.2.1[7]?.bind fun x_11=>x.2.2.1[Int.toNat 4]?.bind fun _=>x.2.2.1[4]?.bind fun x_13=>x.2.2.1[Int.toNat 5]?.bind fun _=>x.2.2.1[5]?.bind fun x_15=>x.2.2.1[Int.toNat 4]?.bind fun _=>x.2.2.1[4]?.bind fun x_17=>x.2.2.1[Int.toNat
 6]?.bind fun _=>x.2.2.1[6]?.bind fun x_19=>bif decide (0<=x.2.2.2) then x.1[Int.toNat x.2.2.2]?.bind fun x_20=>bif decide (0<=x.2.2.2) then x.2.1[Int.toNat x.2.2.2]?.bind fun x_21=>x.2.2.1[Int.toNat 0]?.bind fun _=>x.2.2.1[0]?.bind fun x_23=>(s_l2Turn (x_23,2)).bind fun x_24=>x.2.2.1[Int.toNat 0]?.bind fun _=>x.2.2.1[0]?.bind fun x_26=>(s_l2Turn (x_26,13)).bind fun
 x_27=>x.2.2.1[Int.toNat 0]?.bind fun _=>x.2.2.1[0]?.bind fun x_29=>(s_l2Turn (x_29,22)).bind fun x_30=>x.2.2.1[Int.toNat 0]?.bind fun _=>x.2.2.1[0]?.bind fun x_32=>x.2.2.1[Int.toNat 1]?.bind fun _=>x.2.2.1[1]?.bind fun x_34=>x.2.2.1[Int.toNat 0]?.bind fun _=>x.2.2.1[0]?.bind fun x_36=>x.2.2.1[Int.toNat 2]?.bind fun _=>x.2.2.1[2]?.bind fun x_38=>
 x.2.2.1[Int.toNat 1]?.bind fun _=>x.2.2.1[1]?.bind fun x_40=>x.2.2.1[Int.toNat 2]?.bind fun _=>x.2.2.1[2]?.bind fun x_42=>x.2.2.1[Int.toNat 0]?.bind fun _=>x.2.2.1[0]?.bind fun x_44=>x.2.2.1[Int.toNat 1]?.bind fun _=>x.2.2.1[1]?.bind fun x_46=>x.2.2.1[Int.toNat 2]?.bind fun _=>x.2.2.1[2]?.bind fun x_48=>x.2.2.1[Int.toNat 3]?.bind fun _=>x.2.2.1[3]?.bind
 fun x_50=>x.2.2.1[Int.toNat 4]?.bind fun _=>x.2.2.1[4]?.bind fun x_52=>x.2.2.1[Int.toNat 5]?.bind fun _=>x.2.2.1[5]?.bind fun x_54=>x.2.2.1[Int.toNat 6]?.bind fun _=>x.2.2.1[6]?.bind fun x_56=>go (x.1,x.2.1,[u32.wrap (u32.wrap (u32.wrap (u32.wrap (u32.wrap (x_11+u32.wrap (↑(BitVec.ofInt u32.bits (u32.wrap
 (↑(BitVec.ofInt u32.bits x_3^^^BitVec.ofInt u32.bits x_6).toNat:Int))^^^BitVec.ofInt u32.bits x_9).toNat:Int))+u32.wrap (↑(BitVec.ofInt u32.bits (u32.wrap (↑(BitVec.ofInt u32.bits x_13&&&BitVec.ofInt u32.bits x_15).toNat:Int))^^^BitVec.ofInt u32.bits (u32.wrap (↑(BitVec.ofInt u32.bits
 (u32.wrap (↑(BitVec.ofInt u32.bits (if false=true then -1 else u32.max)^^^BitVec.ofInt u32.bits x_17).toNat:Int))&&&BitVec.ofInt u32.bits x_19).toNat:Int))).toNat:Int))+x_20)+x_21)+u32.wrap (u32.wrap (↑(BitVec.ofInt u32.bits (u32.wrap (↑(BitVec.ofInt u32.bits x_24^^^BitVec.ofInt u32.bits
 x_27).toNat:Int))^^^BitVec.ofInt u32.bits x_30).toNat:Int)+u32.wrap (↑(BitVec.ofInt u32.bits (u32.wrap (↑(BitVec.ofInt u32.bits (u32.wrap (↑(BitVec.ofInt u32.bits x_32&&&BitVec.ofInt u32.bits x_34).toNat:Int))^^^BitVec.ofInt u32.bits (u32.wrap (↑(BitVec.ofInt u32.bits x_36&&&BitVec.ofInt
 u32.bits x_38).toNat:Int))).toNat:Int))^^^BitVec.ofInt u32.bits (u32.wrap (↑(BitVec.ofInt u32.bits x_40&&&BitVec.ofInt u32.bits x_42).toNat:Int))).toNat:Int))),x_44,x_46,x_48,u32.wrap (x_50+u32.wrap (u32.wrap (u32.wrap (u32.wrap (x_11+u32.wrap (↑(BitVec.ofInt u32.bits
 (u32.wrap (↑(BitVec.ofInt u32.bits x_3^^^BitVec.ofInt u32.bits x_6).toNat:Int))^^^BitVec.ofInt u32.bits x_9).toNat:Int))+u32.wrap (↑(BitVec.ofInt u32.bits (u32.wrap (↑(BitVec.ofInt u32.bits x_13&&&BitVec.ofInt u32.bits x_15).toNat:Int))^^^BitVec.ofInt u32.bits (u32.wrap (↑(BitVec.ofInt
 u32.bits (u32.wrap (↑(BitVec.ofInt u32.bits (if false=true then -1 else u32.max)^^^BitVec.ofInt u32.bits x_17).toNat:Int))&&&BitVec.ofInt u32.bits x_19).toNat:Int))).toNat:Int))+x_20)+x_21)),x_52,x_54,x_56],i64.wrap (x.2.2.2+1)) else none else none else some x.2.2.1
theorem l109_31:CutOk Tryz.prog ⟨s109_31,iter s_l2Block_L31 FUEL⟩ (.loop (loopOf Tryz.f109 31)):=loop_of mix_ok rfl tyl_ok (fl:=q109) ⟨c144,trivial⟩ (C:=C0) rfl (pts:=[]) (by kernel_rfl) trivial (fun _ _=>by kernel_rfl)
def s109_49:CutSig:=⟨256,[0,12,18,19],[.ro t169,.ro t169,.own t169,.ro (.int .i64)],[(.ex 6,[18],[(t169,true)])]⟩
def s_l2Block_L49 (go:List Int×List Int×List Int×Int->Option (List Int)) (x:List Int×List Int×List Int×Int):Option (List Int):=bif decide (x.2.2.2<8) then bif decide (0<=x.2.2.2) then x.1[Int.toNat x.2.2.2]?.bind fun x_1=>bif decide (0<=x.2.2.2) then x.2.1[Int.toNat x.2.2.2]?.bind fun x_2=>bif decide (List.length x.2.2.1+(1:Nat)<=4294967296) then go
 (x.1,x.2.1,x.2.2.1++[u32.wrap (x_1+x_2)],i64.wrap (x.2.2.2+1)) else none else none else none else some x.2.2.1
theorem l109_49:CutOk Tryz.prog ⟨s109_49,iter s_l2Block_L49 FUEL⟩ (.loop (loopOf Tryz.f109 49)):=loop_of mix_ok rfl tyl_ok (fl:=q109) ⟨c144,trivial⟩ (C:=C0) rfl (pts:=[]) (by kernel_rfl) trivial (fun _ _=>by kernel_rfl)
def s_l2Block (x:List Int×List Int×List UInt8):Option (List Int):=(iter s_l2Block_L9 FUEL (x.2.2,List.replicate 0 0,0)).bind fun x_1=>(iter s_l2Block_L17 FUEL (x_1,16)).bind fun x_2=>bif decide ((0:Nat)+List.length x.1<=4294967296) then(iter s_l2Block_L31 FUEL (x.2.1,x_2,x.1,0)).bind fun x_3=>(iter s_l2Block_L49 FUEL (x.1,x_3,List.replicate 0 0,
 0)).bind fun x=>some x else none
abbrev k109:Cuts:=ctab [(9,⟨s109_9,iter s_l2Block_L9 FUEL⟩),(17,⟨s109_17,iter s_l2Block_L17 FUEL⟩),(31,⟨s109_31,iter s_l2Block_L31 FUEL⟩),(49,⟨s109_49,iter s_l2Block_L49 FUEL⟩)]
theorem c109:FnOk Tryz.prog 109 ⟨s109,s_l2Block⟩:=fn_of2 mix_ok rfl tyl_ok (fl:=q109) ⟨c144,trivial⟩ Tryz.func109 rfl rfl (C:=k109) (pts:=[(⟨s109_9,iter s_l2Block_L9 FUEL⟩,.loop (loopOf Tryz.f109 9)),(⟨s109_17,iter s_l2Block_L17 FUEL⟩,.loop (loopOf Tryz.f109 17)),(⟨s109_31,iter s_l2Block_L31 FUEL⟩,.loop (loopOf Tryz.f109 31)),(⟨s109_49,iter s_l2Block_L49 FUEL⟩,.loop (loopOf Tryz.f109 49))]) (by kernel_rfl) ⟨l109_9,l109_17,l109_31,l109_49,trivial⟩ (fun _=>by kernel_rfl)
def s63:Sig:=⟨[.ro .str],[(.str,true)],false⟩
abbrev q63:List (FuncId×V.Fn):=[(106,⟨s106,s_l2Begin⟩),(107,⟨s107,s_l2Table⟩),(108,⟨s108,s_Fixed⟩),(109,⟨s109,s_l2Block⟩)]
def s63_11:CutSig:=⟨86,[0,5],[.ro .str,.own t46],[(.ex 0,[5],[(t46,true)])]⟩
def s_Sha_L11 (go:List UInt8×List Int->Option (List Int)) (x:List UInt8×List Int):Option (List Int):=bif !decide ((i64.wrap ((↑(List.length x.1):Int)+(↑(List.length x.2):Int))).tmod 64=56) then bif true&&(false||[3,2].contains 3||[].contains 3)&&decide (List.length x.2+(1:Nat)<=4294967296) then go (x.1,x.2++[0]) else none else some x.2
theorem l63_11:CutOk Tryz.prog ⟨s63_11,iter s_Sha_L11 FUEL⟩ (.loop (loopOf Tryz.f63 11)):=loop_of mix_ok rfl tyl_ok (fl:=q63) ⟨c106,c107,c108,c109,trivial⟩ (C:=C0) rfl (pts:=[]) (by kernel_rfl) trivial (fun _ _=>by kernel_rfl)
def s63_21:CutSig:=⟨86,[0,3,4,7,8],[.ro .str,.own t169,.ro t169,.ro (.int .i64),.ro (.int .i64)],[(.ex 2,[3],[(t169,true)])]⟩
def s_Sha_L21 (go:List UInt8×List Int×List Int×Int×Int->Option (List Int)) (x:List UInt8×List Int×List Int×Int×Int):Option (List Int):=bif decide (x.2.2.2.2<x.2.2.2.1) then bif decide (0<=x.2.2.2.2)&&decide (x.2.2.2.2<=i64.wrap (x.2.2.2.2+64))&&decide (0<=i64.wrap (x.2.2.2.2+64))&&decide (i64.wrap (x.2.2.2.2+64) ≤
 (↑(List.length x.1):Int)) then(s_l2Block (x.2.1,x.2.2.1,List.drop (Int.toNat x.2.2.2.2) (List.take (i64.wrap (x.2.2.2.2+64)).toNat x.1))).bind fun x_1=>go (x.1,x_1,x.2.2.1,x.2.2.2.1,i64.wrap (x.2.2.2.2+64)) else none else some x.2.1
theorem l63_21:CutOk Tryz.prog ⟨s63_21,iter s_Sha_L21 FUEL⟩ (.loop (loopOf Tryz.f63 21)):=loop_of mix_ok rfl tyl_ok (fl:=q63) ⟨c106,c107,c108,c109,trivial⟩ (C:=C0) rfl (pts:=[]) (by kernel_rfl) trivial (fun _ _=>by kernel_rfl)
def s63_31:CutSig:=⟨86,[3,4,9,10],[.own t169,.ro t169,.ro .str,.ro (.int .i64)],[(.ex 4,[3],[(t169,true)])]⟩
def s_Sha_L31 (go:List Int×List Int×List UInt8×Int->Option (List Int)) (x:List Int×List Int×List UInt8×Int):Option (List Int):=bif decide (i64.wrap (x.2.2.2+64)<=(↑(List.length x.2.2.1):Int)) then bif decide (0<=x.2.2.2)&&decide (x.2.2.2<=i64.wrap (x.2.2.2+64))&&decide (0<=i64.wrap (x.2.2.2+64))&&decide (i64.wrap
 (x.2.2.2+64)<=(↑(List.length x.2.2.1):Int)) then(s_l2Block (x.1,x.2.1,List.drop (Int.toNat x.2.2.2) (List.take (i64.wrap (x.2.2.2+64)).toNat x.2.2.1))).bind fun x_1=>go (x_1,x.2.1,x.2.2.1,i64.wrap (x.2.2.2+64)) else none else some x.1
theorem l63_31:CutOk Tryz.prog ⟨s63_31,iter s_Sha_L31 FUEL⟩ (.loop (loopOf Tryz.f63 31)):=loop_of mix_ok rfl tyl_ok (fl:=q63) ⟨c106,c107,c108,c109,trivial⟩ (C:=C0) rfl (pts:=[]) (by kernel_rfl) trivial (fun _ _=>by kernel_rfl)
def s63_41:CutSig:=⟨86,[3,11,12],[.ro t169,.ro .str,.ro (.int .i64)],[(.ex 6,[11],[(.str,true)])]⟩
def s_Sha_L41 (go:List Int×List UInt8×Int->Option (List UInt8)) (x:List Int×List UInt8×Int):Option (List UInt8):=bif decide (x.2.2<8) then bif decide (0<=x.2.2) then x.1[Int.toNat x.2.2]?.bind fun x_1=>(s_Fixed (i64.wrap x_1,4)).bind fun x_2=>bif decide (List.length x.2.1+x_2.length<=4611686018427387904) then go (x.1,x.2.1++x_2,
 i64.wrap (x.2.2+1)) else none else none else some x.2.1
theorem l63_41:CutOk Tryz.prog ⟨s63_41,iter s_Sha_L41 FUEL⟩ (.loop (loopOf Tryz.f63 41)):=loop_of mix_ok rfl tyl_ok (fl:=q63) ⟨c106,c107,c108,c109,trivial⟩ (C:=C0) rfl (pts:=[]) (by kernel_rfl) trivial (fun _ _=>by kernel_rfl)
def s_Sha (x:List UInt8):Option (List UInt8):=(s_l2Begin ()).bind fun x_1=>(s_l2Table ()).bind fun x_2=>(iter s_Sha_L11 FUEL (x,[128])).bind fun x_3=>bif decide ((List.map (fun(b:Int)=>UInt8.ofNat b.toNat) x_3).length+(List.map (fun(b:Int)=>UInt8.ofNat b.toNat) [0]).length<=4611686018427387904) then(s_Fixed (i64.wrap (8*(↑x.length:Int)),
 7)).bind fun x_4=>bif decide ((List.map (fun(b:Int)=>UInt8.ofNat b.toNat) x_3++List.map (fun(b:Int)=>UInt8.ofNat b.toNat) [0]).length+x_4.length<=4611686018427387904) then(iter s_Sha_L21 FUEL (x,x_1,x_2,i64.wrap (i64.wrap ((↑x.length:Int).tdiv 64)*64),0)).bind fun x_5=>bif decide (0<=i64.wrap (i64.wrap ((↑x.length:Int).tdiv 64)*
 64))&&decide (i64.wrap (i64.wrap ((↑x.length:Int).tdiv 64)*64)<=(↑x.length:Int)) then bif decide ((List.drop (i64.wrap (i64.wrap ((↑x.length:Int).tdiv 64)*64)).toNat x).length+(List.map (fun(b:Int)=>UInt8.ofNat b.toNat) x_3++List.map (fun(b:Int)=>UInt8.ofNat b.toNat) [0]++x_4).length<=4611686018427387904) then(iter s_Sha_L31 FUEL
 (x_5,x_2,List.drop (i64.wrap (i64.wrap ((↑x.length:Int).tdiv 64)*64)).toNat x++(List.map (fun(b:Int)=>UInt8.ofNat b.toNat) x_3++List.map (fun(b:Int)=>UInt8.ofNat b.toNat) [0]++x_4),0)).bind fun x=>(iter s_Sha_L41 FUEL (x,[],0)).bind fun x=>some x else none else none else none else none
abbrev k63:Cuts:=ctab [(11,⟨s63_11,iter s_Sha_L11 FUEL⟩),(21,⟨s63_21,iter s_Sha_L21 FUEL⟩),(31,⟨s63_31,iter s_Sha_L31 FUEL⟩),(41,⟨s63_41,iter s_Sha_L41 FUEL⟩)]
theorem c63:FnOk Tryz.prog 63 ⟨s63,s_Sha⟩:=fn_of2 mix_ok rfl tyl_ok (fl:=q63) ⟨c106,c107,c108,c109,trivial⟩ Tryz.func63 rfl rfl (C:=k63) (pts:=[(⟨s63_11,iter s_Sha_L11 FUEL⟩,.loop (loopOf Tryz.f63 11)),(⟨s63_21,iter s_Sha_L21 FUEL⟩,.loop (loopOf Tryz.f63 21)),(⟨s63_31,iter s_Sha_L31 FUEL⟩,.loop (loopOf Tryz.f63 31)),(⟨s63_41,iter s_Sha_L41 FUEL⟩,.loop (loopOf Tryz.f63 41))]) (by kernel_rfl) ⟨l63_11,l63_21,l63_31,l63_41,trivial⟩ (fun _=>by kernel_rfl)
def s65:Sig:=⟨[.ro t36],[(.bool,true)],false⟩
abbrev q65:List (FuncId×V.Fn):=[(64,⟨s64,s_l1In⟩)]
def s_AnswerOk (x:Int×Int×Int×List UInt8×Int×Int):Option (Bool):=(s_l1In (x.1,0,5)).bind fun x_1=>(bif x_1 then(s_l1In (x.2.1,0,6)).bind fun x=>some x else some false).bind fun x_2=>(bif x_2 then(s_l1In (x.2.2.1,0,4)).bind fun x=>some x else some false).bind fun x_3=>(bif x_3 then(bif !decide ((↑(List.length x.2.2.2.1):Int)=0) then some (decide
 ((↑(List.length x.2.2.2.1):Int)=32)) else some true).bind fun x=>some x else some false).bind fun x_4=>(bif x_4 then(s_l1In (x.2.2.2.2.1,0,250)).bind fun x=>some x else some false).bind fun x_5=>(bif x_5 then(s_l1In (x.2.2.2.2.2,0,100000)).bind fun x=>some x else some false).bind fun x=>some x
theorem c65:FnOk Tryz.prog 65 ⟨s65,s_AnswerOk⟩:=fn_of mix_ok rfl tyl_ok (fl:=q65) ⟨c64,trivial⟩ Tryz.func65 rfl rfl cuts0 (fun _=>by kernel_rfl)
def s21:Sig:=⟨[.ro t34],[(.bool,true)],false⟩
abbrev q21:List (FuncId×V.Fn):=[(61,⟨s61,s_ReadCanon⟩),(62,⟨s62,s_l12Body⟩),(63,⟨s63,s_Sha⟩),(64,⟨s64,s_l1In⟩),(65,⟨s65,s_AnswerOk⟩)]
def s21_27:CutSig:=⟨166,[1,3,7,8],[.pin t34,.ro (.int .i64),.ro (.int .i64),.ro (.int .i64)],[(.ex 2,[7],[((.int .i64),true)])]⟩
def s_RegOk_L27 (go:D1×Int×Int×Int->Option (Int)) (x:D1×Int×Int×Int):Option (Int):=bif decide (x.2.2.2<(↑(List.length x.1.2.1):Int)) then bif
 decide (0<=x.2.2.2) then x.1.2.1[Int.toNat x.2.2.2]?.bind fun x_1=>bif decide (x_1=i64.wrap (x.2.1+1)) then go (x.1,x.2.1,i64.wrap (x.2.2.1+1),i64.wrap (x.2.2.2+1)) else go (x.1,x.2.1,x.2.2.1,i64.wrap (x.2.2.2+1)) else none else some x.2.2.1
theorem l21_27:CutOk Tryz.prog ⟨s21_27,iter s_RegOk_L27 FUEL⟩ (.loop (loopOf Tryz.f21 27)):=loop_of mix_ok rfl tyl_ok (fl:=q21) ⟨c61,c62,c63,c64,c65,trivial⟩ (C:=C0) rfl (pts:=[]) (by kernel_rfl) trivial (fun _ _=>by kernel_rfl)
def s21_11:CutSig:=⟨166,[1,3],[.pin t34,.ro (.int .i64)],[(.ex 0,[],[]),(.ret,[2],[(.bool,true)])]⟩
def s_RegOk_L11 (go:D1×Int->Option (Unit⊕Bool)) (x:D1×Int):Option (Unit⊕Bool):=bif decide (x.2<(↑(List.length x.1.1):Int)) then bif decide (0 ≤
 x.2) then x.1.1[Int.toNat x.2]?.bind fun x_1=>(s_ReadCanon x_1.1).bind fun x_2=>(bif !!x_2.2 then bif decide (0<=x.2)&&decide (x.2<=(↑(List.length x.1.1):Int)) then(s_l12Body (List.take (Int.toNat x.2) x.1.1,x_1.1)).bind fun x=>some (decide (0<x)) else none else some true).bind fun x_3=>(bif !x_3 then(s_Sha x_1.1).bind fun x=>some !decide (x_1.2.1=x) else some true).bind
 fun x_4=>(bif !x_4 then(s_l1In (x_1.2.2,1,4)).bind fun x=>some !x else some true).bind fun x_5=>bif x_5 then some (Sum.inr false) else(iter s_RegOk_L27 FUEL (x.1,x.2,0,0)).bind fun x_6=>(bif decide (x_1.2.2=2) then some !decide (x_6=1) else some false).bind fun x_7=>(bif !x_7 then(bif !decide (x_1.2.2=2) then some !decide (x_6=0) else some false).bind fun x=>some x
 else some true).bind fun x_8=>bif x_8 then some (Sum.inr false) else go (x.1,i64.wrap (x.2+1)) else none else some (Sum.inl ())
theorem l21_11:CutOk Tryz.prog ⟨s21_11,iter s_RegOk_L11 FUEL⟩ (.loop (loopOf Tryz.f21 11)):=loop_of mix_ok rfl tyl_ok (fl:=q21) ⟨c61,c62,c63,c64,c65,trivial⟩ (C:=ctab [(27,⟨s21_27,iter s_RegOk_L27 FUEL⟩)]) rfl (pts:=[(⟨s21_27,iter s_RegOk_L27 FUEL⟩,.loop (loopOf Tryz.f21 27))]) (by kernel_rfl) ⟨l21_27,trivial⟩ (fun _ _=>by kernel_rfl)
def s21_41:CutSig:=⟨166,[1,9],[.pin t34,.ro (.int .i64)],[(.ex 4,[],[]),(.ret,[2],[(.bool,true)])]⟩
def s_RegOk_L41 (go:D1×Int->Option (Unit⊕Bool)) (x:D1×Int):Option (Unit⊕Bool):=bif decide (x.2<(↑(List.length x.1.2.1):Int)) then bif decide (0
 ≤ x.2) then x.1.2.1[Int.toNat x.2]?.bind fun x_1=>(s_l1In (x_1,0,(↑(List.length x.1.1):Int))).bind fun x_2=>bif !x_2 then some (Sum.inr false) else go (x.1,i64.wrap (x.2+1)) else none else some (Sum.inl ())
theorem l21_41:CutOk Tryz.prog ⟨s21_41,iter s_RegOk_L41 FUEL⟩ (.loop (loopOf Tryz.f21 41)):=loop_of mix_ok rfl tyl_ok (fl:=q21) ⟨c61,c62,c63,c64,c65,trivial⟩ (C:=C0) rfl (pts:=[]) (by kernel_rfl) trivial (fun _ _=>by kernel_rfl)
def s21_51:CutSig:=⟨166,[1,10],[.pin t34,.ro (.int .i64)],[(.ex 6,[],[]),(.ret,[2],[(.bool,true)])]⟩
def s_RegOk_L51 (go:D1×Int->Option (Unit⊕Bool)) (x:D1×Int):Option (Unit⊕Bool):=bif decide (x.2<(↑(List.length x.1.2.2):Int)) then bif decide (0
 ≤ x.2) then x.1.2.2[Int.toNat x.2]?.bind fun x_1=>(s_l1In (x_1.1,1,6)).bind fun x_2=>(bif !!x_2 then(bif decide (0<x.2) then bif decide (0<=i64.wrap (x.2-1)) then x.1.2.2[(i64.wrap (x.2-1)).toNat]?.bind fun x=>some (decide (x_1.1<=x.1)) else none else some false).bind fun x=>some x else some true).bind fun x_3=>(bif !x_3 then(s_l1In (x_1.2.1,1,
 1000000)).bind fun x=>some !x else some true).bind fun x_4=>(bif !x_4 then(s_AnswerOk x_1.2.2).bind fun x=>some !x else some true).bind fun x_5=>bif x_5 then some (Sum.inr false) else go (x.1,i64.wrap (x.2+1)) else none else some (Sum.inl ())
theorem l21_51:CutOk Tryz.prog ⟨s21_51,iter s_RegOk_L51 FUEL⟩ (.loop (loopOf Tryz.f21 51)):=loop_of mix_ok rfl tyl_ok (fl:=q21) ⟨c61,c62,c63,c64,c65,trivial⟩ (C:=C0) rfl (pts:=[]) (by kernel_rfl) trivial (fun _ _=>by kernel_rfl)
def s_RegOk (x:List D3×List Int×List D2):Option (Bool):=(bif !decide (6<(↑(List.length x.1):Int)) then some !decide ((↑(List.length x.2.1):Int)=3) else some true).bind fun x_1=>(bif !x_1 then some (decide (6<(↑(List.length x.2.2):Int))) else some true).bind fun x_2=>bif x_2
 then some false else(iter s_RegOk_L11 FUEL (x,0)).bind fun x_3=>sumK x_3 (fun _=>(iter s_RegOk_L41 FUEL (x,0)).bind fun x_4=>sumK x_4 (fun _=>(iter s_RegOk_L51 FUEL (x,0)).bind fun x=>sumK x (fun _=>some true) fun z=>some z) fun z=>some z) fun z=>some z
abbrev k21:Cuts:=ctab [(11,⟨s21_11,iter s_RegOk_L11 FUEL⟩),(41,⟨s21_41,iter s_RegOk_L41 FUEL⟩),(51,⟨s21_51,iter s_RegOk_L51 FUEL⟩)]
theorem c21:FnOk Tryz.prog 21 ⟨s21,s_RegOk⟩:=fn_of2 mix_ok rfl tyl_ok (fl:=q21) ⟨c61,c62,c63,c64,c65,trivial⟩ Tryz.func21 rfl rfl (C:=k21) (pts:=[(⟨s21_11,iter s_RegOk_L11 FUEL⟩,.loop (loopOf Tryz.f21 11)),(⟨s21_41,iter s_RegOk_L41 FUEL⟩,.loop (loopOf Tryz.f21 41)),(⟨s21_51,iter s_RegOk_L51 FUEL⟩,.loop (loopOf Tryz.f21 51))]) (by kernel_rfl) ⟨l21_11,l21_41,l21_51,trivial⟩ (fun _=>by kernel_rfl)
def s82:Sig:=⟨[.ro t34,.ro (.int .i64)],[((.int .i64),true),(.bool,true)],false⟩
abbrev q82:List (FuncId×V.Fn):=[]
def s82_7:CutSig:=⟨34,[1,2,6],[.ro (.int .i64),.pin t34,.ro (.int .i64)],[(.ex 0,[],[]),(.ret,[4,5],[((.int .i64),true),(.bool,true)])]⟩
def s_l12Session_L7 (go:Int×D1×Int->Option (Unit⊕Int×Bool)) (x:Int×D1×Int):Option (Unit⊕Int×Bool):=bif decide (x.2.2<(↑(List.length
 x.2.1.2.2):Int)) then bif decide (0<=x.2.2) then x.2.1.2.2[Int.toNat x.2.2]?.bind fun x_1=>bif decide (x.1<=x_1.1) then bif decide (0<=x.2.2) then x.2.1.2.2[Int.toNat x.2.2]?.bind fun x_2=>some (Sum.inr (x.2.2,decide (x_2.1=x.1))) else none else go (x.1,x.2.1,i64.wrap (x.2.2+1)) else none else some (Sum.inl ())
theorem l82_7:CutOk Tryz.prog ⟨s82_7,iter s_l12Session_L7 FUEL⟩ (.loop (loopOf Tryz.f82 7)):=loop_of mix_ok rfl tyl_ok (fl:=q82) trivial (C:=C0) rfl (pts:=[]) (by kernel_rfl) trivial (fun _ _=>by kernel_rfl)
def s_l12Session (x:D1×Int):Option (Int×Bool):=(iter s_l12Session_L7 FUEL (x.2,x.1,0)).bind fun x_1=>sumK x_1 (fun _=>some ((↑(List.length x.1.2.2):Int),false)) fun z=>some (z.1,z.2)
abbrev k82:Cuts:=ctab [(7,⟨s82_7,iter s_l12Session_L7 FUEL⟩)]
theorem c82:FnOk Tryz.prog 82 ⟨s82,s_l12Session⟩:=fn_of2 mix_ok rfl tyl_ok (fl:=q82) trivial Tryz.func82 rfl rfl (C:=k82) (pts:=[(⟨s82_7,iter s_l12Session_L7 FUEL⟩,.loop (loopOf Tryz.f82 7))]) (by kernel_rfl) ⟨l82_7,trivial⟩ (fun _=>by kernel_rfl)
def s80:Sig:=⟨[.ro t34,.ro (.int .i64)],[((.int .i64),true),(t36,true)],false⟩
abbrev q80:List (FuncId×V.Fn):=[(82,⟨s82,s_l12Session⟩)]
def s_l12Last (x:D1×Int):Option (Int×Int×Int×Int×List UInt8×Int×Int):=(s_l12Session (x.1,x.2)).bind fun x_1=>bif !x_1.2 then some (0,0,0,0,[],0,0) else bif decide (0<=x_1.1) then x.1.2.2[Int.toNat x_1.1]?.bind fun x_2=>bif decide (0<=x_1.1)
 then x.1.2.2[Int.toNat x_1.1]?.bind fun x=>some (x_2.2.1,x.2.2) else none else none
theorem c80:FnOk Tryz.prog 80 ⟨s80,s_l12Last⟩:=fn_of mix_ok rfl tyl_ok (fl:=q80) ⟨c82,trivial⟩ Tryz.func80 rfl rfl cuts0 (fun _=>by kernel_rfl)
def s101:Sig:=⟨[.ro t40],[(.bool,true)],false⟩
abbrev q101:List (FuncId×V.Fn):=[(64,⟨s64,s_l1In⟩)]
def s_OpOk (x:Int×Int×Int×List UInt8):Option (Bool):=(s_l1In (x.2.2.1,1,6)).bind fun x_1=>(s_l1In (x.2.1,0,2)).bind fun x_2=>bif decide (x.1=1) then(bif decide ((↑(List.length x.2.2.2):Int)<=250) then some (decide (x.2.2.1=0)) else some false).bind fun x_3=>(bif x_3 then some (decide (x.2.1=0)) else some false).bind fun x=>some x else bif decide
 (x.1=2) then(bif x_1 then some x_2 else some false).bind fun x_3=>(bif x_3 then some (decide (x.2.2.2=[])) else some false).bind fun x=>some x else bif decide (x.1=3) then bif decide (x.1=3) then(bif x_1 then some (decide (x.2.1=0)) else some false).bind fun x_3=>(bif x_3 then some (decide (x.2.2.2=[])) else some false).bind fun x=>some x else bif decide (x.1=5) then(bif
 decide (x.2.2.2=[]) then(bif x_1 then some (decide (x.2.1=0)) else some false).bind fun x_3=>(bif !x_3 then(bif decide (x.2.2.1=0) then some x_2 else some false).bind fun x=>some x else some true).bind fun x=>some x else some false).bind fun x=>some x else some false else bif decide (x.1=4) then(bif x_1 then some (decide (x.2.1=0)) else some false).bind fun x_3=>(bif x_3
 then some (decide (x.2.2.2=[])) else some false).bind fun x=>some x else bif decide (x.1=5) then(bif decide (x.2.2.2=[]) then(bif x_1 then some (decide (x.2.1=0)) else some false).bind fun x_3=>(bif !x_3 then(bif decide (x.2.2.1=0) then some x_2 else some false).bind fun x=>some x else some true).bind fun x=>some x else some false).bind fun x=>some x else some false
theorem c101:FnOk Tryz.prog 101 ⟨s101,s_OpOk⟩:=fn_of mix_ok rfl tyl_ok (fl:=q101) ⟨c64,trivial⟩ Tryz.func101 rfl rfl cuts0 (fun _=>by kernel_rfl)
def s121:Sig:=⟨[.ro t34,.ro (.int .i64),.ro (.int .i64)],[(t36,true)],false⟩
abbrev q121:List (FuncId×V.Fn):=[]
def s_l12Told (x:D1×Int×Int):Option D4:=bif decide (0<=i64.wrap (x.2.2-1)) then x.1.1[(i64.wrap (x.2.2-1)).toNat]?.bind fun x_1=>some (x.2.1,x.2.2,x_1.2.2,x_1.2.1,(↑(List.length x_1.1):Int),0) else none
theorem c121:FnOk Tryz.prog 121 ⟨s121,s_l12Told⟩:=fn_of mix_ok rfl tyl_ok (fl:=q121) trivial Tryz.func121 rfl rfl cuts0 (fun _=>by kernel_rfl)
def s122:Sig:=⟨[.ro (.int .i64),.ro (.int .i64)],[(.bool,true)],false⟩
abbrev q122:List (FuncId×V.Fn):=[]
def s_l12Wants (x:Int×Int):Option (Bool):=bif decide (x.1=2) then some (decide (x.2=1)) else bif decide (x.1=3) then some (decide (x.2=2)) else(bif !decide (x.2=1) then some (decide (x.2=3)) else some true).bind fun x=>some x
theorem c122:FnOk Tryz.prog 122 ⟨s122,s_l12Wants⟩:=fn_of mix_ok rfl tyl_ok (fl:=q122) trivial Tryz.func122 rfl rfl cuts0 (fun _=>by kernel_rfl)
def s81:Sig:=⟨[.own t34,.ro t40],[(t34,true),(t36,true)],false⟩
abbrev q81:List (FuncId×V.Fn):=[(61,⟨s61,s_ReadCanon⟩),(62,⟨s62,s_l12Body⟩),(63,⟨s63,s_Sha⟩),(101,⟨s101,s_OpOk⟩),(121,⟨s121,s_l12Told⟩),(122,⟨s122,s_l12Wants⟩)]
def s81_69:CutSig:=⟨178,[2,9,11],[.pio t34,.ro (.int .i64),.ro (.int .i64)],[(.ex 1,[],[])]⟩
def s_l12Do_L69 (go:D1×Int×Int->Option D1) (x:D1
 ×Int×Int):Option D1:=bif decide (x.2.2<(↑(List.length x.1.2.1):Int)) then bif decide (0<=x.2.2) then x.1.2.1[Int.toNat x.2.2]?.bind fun _=>x.1.2.1[Int.toNat x.2.2]?.bind fun x_2=>bif decide (x_2=x.2.1) then bif decide (0<=x.2.2) then x.1.2.1[Int.toNat x.2.2]?.bind fun
 _=>x.1.2.1[Int.toNat x.2.2]?.bind fun _=>go ((x.1.1,List.set x.1.2.1 (Int.toNat x.2.2) 0,x.1.2.2),x.2.1,i64.wrap (x.2.2+1)) else none else go (x.1,x.2.1,i64.wrap (x.2.2+1)) else none else some x.1
theorem l81_69:CutOk Tryz.prog ⟨s81_69,iter s_l12Do_L69 FUEL⟩ (.loop (loopOf Tryz.f81 69)):=loop_of mix_ok rfl tyl_ok (fl:=q81) ⟨c61,c62,c63,c101,c121,c122,trivial⟩ (C:=C0) rfl (pts:=[]) (by kernel_rfl) trivial (fun _ _=>by kernel_rfl)
def s_l12Do (x:D1×Int×Int×Int×List UInt8):Option (D1×Int×Int×Int×List UInt8×Int×Int):=(s_OpOk x.2).bind fun x_1=>bif !x_1 then some (x.1,
 1,0,0,[],0,0) else bif decide (x.2.1=1) then(s_ReadCanon x.2.2.2.2).bind fun x_2=>bif !x_2.2 then some (x.1,1,0,0,[],0,0) else(s_l12Body (x.1.1,x.2.2.2.2)).bind fun x_3=>bif decide (0<x_3) then(s_l12Told (x.1,2,x_3)).bind fun x_4=>some (x.1,x_4) else bif decide (6<=(↑(List.length x.1.1):Int)) then some (x.1,3,0,0,[],0,0) else(s_Sha x.2.2.2.2).bind fun x_4=>
 bif decide (List.length x.1.1+(1:Nat)<=4294967296) then(s_l12Told ((x.1.1++[(x.2.2.2.2,x_4,1)],x.1.2),0,(↑(x.1.1++[(x.2.2.2.2,x_4,1)]).length:Int))).bind fun x_5=>some ((x.1.1++[(x.2.2.2.2,x_4,1)],x.1.2),x_5) else none else(bif decide (x.2.1=5) then some (decide (x.2.2.2.1=0)) else some false).bind fun x_2=>bif x_2 then bif decide (0<=x.2.2.1) then
 x.1.2.1[Int.toNat x.2.2.1]?.bind fun _=>x.1.2.1[Int.toNat x.2.2.1]?.bind fun x_4=>(bif !decide (x_4=0) then some (decide ((↑(List.length x.1.1):Int)<x_4)) else some true).bind fun x_5=>bif x_5 then some (x.1,4,0,0,[],0,0) else bif decide (x.2.1=5) then(s_l12Told (x.1,0,x_4)).bind fun x_6=>some (x.1,x_6) else bif decide (0<=i64.wrap (x_4-1)) then
 x.1.1[(i64.wrap (x_4-1)).toNat]?.bind fun _=>x.1.1[Int.toNat (i64.wrap (x_4-1))]?.bind fun x_7=>(s_l12Wants (x.2.1,x_7.2.2)).bind fun x_8=>bif !x_8 then(s_l12Told (x.1,5,x_4)).bind fun x_9=>some (x.1,x_9) else bif decide (x.2.1=2) then bif decide (0<=x.2.2.1) then x.1.2.1[Int.toNat x.2.2.1]?.bind fun _=>x.1.2.1[Int.toNat x.2.2.1]?.bind fun x_10=>bif
 decide (0<x_10) then bif decide (0<=i64.wrap (x_10-1)) then x.1.1[(i64.wrap (x_10-1)).toNat]?.bind fun _=>x.1.1[Int.toNat (i64.wrap (x_10-1))]?.bind fun x_12=>bif decide (0<=x.2.2.1) then x.1.2.1[Int.toNat x.2.2.1]?.bind fun _=>x.1.2.1[Int.toNat x.2.2.1]?.bind fun _=>bif decide (0<=i64.wrap (x_4-1)) then(List.set x.1.1 (Int.toNat
 (i64.wrap (x_10-1))) (x_12.1,x_12.2.1,3))[(i64.wrap (x_4-1)).toNat]?.bind fun _=>(List.set x.1.1 (Int.toNat (i64.wrap (x_10-1))) (x_12.1,x_12.2.1,3))[Int.toNat (i64.wrap (x_4-1))]?.bind fun x_16=>(s_l12Told (((List.set x.1.1 (Int.toNat (i64.wrap (x_10-1))) (x_12.1,x_12.2.1,3)).set (Int.toNat (i64.wrap (x_4-1))) (x_16.1,
 x_16.2.1,2),List.set x.1.2.1 (Int.toNat x.2.2.1) x_4,x.1.2.2),0,x_4)).bind fun x_17=>some (((List.set x.1.1 (Int.toNat (i64.wrap (x_10-1))) (x_12.1,x_12.2.1,3)).set (Int.toNat (i64.wrap (x_4-1))) (x_16.1,x_16.2.1,2),List.set x.1.2.1 (Int.toNat x.2.2.1) x_4,x.1.2.2),x_17) else none else none else none else bif decide (0<=x.2.2.1) then x.1.2.1[Int.toNat
 x.2.2.1]?.bind fun _=>x.1.2.1[Int.toNat x.2.2.1]?.bind fun _=>bif decide (0<=i64.wrap (x_4-1)) then x.1.1[(i64.wrap (x_4-1)).toNat]?.bind fun _=>x.1.1[Int.toNat (i64.wrap (x_4-1))]?.bind fun x_14=>(s_l12Told ((List.set x.1.1 (Int.toNat (i64.wrap (x_4-1))) (x_14.1,x_14.2.1,2),List.set x.1.2.1 (Int.toNat x.2.2.1) x_4,x.1.2.2),0,
 x_4)).bind fun x_15=>some ((List.set x.1.1 (Int.toNat (i64.wrap (x_4-1))) (x_14.1,x_14.2.1,2),List.set x.1.2.1 (Int.toNat x.2.2.1) x_4,x.1.2.2),x_15) else none else none else none else bif decide (x.2.1=3) then(iter s_l12Do_L69 FUEL (x.1,x_4,0)).bind fun x=>bif decide (0<=i64.wrap (x_4-1)) then x.1[(i64.wrap (x_4-1)).toNat]?.bind fun _=>
 x.1[Int.toNat (i64.wrap (x_4-1))]?.bind fun x_10=>(s_l12Told ((List.set x.1 (Int.toNat (i64.wrap (x_4-1))) (x_10.1,x_10.2.1,3),x.2),0,x_4)).bind fun x_11=>some ((List.set x.1 (Int.toNat (i64.wrap (x_4-1))) (x_10.1,x_10.2.1,3),x.2),x_11) else none else bif decide (0<=i64.wrap (x_4-1)) then x.1.1[(i64.wrap (x_4-1)).toNat]?.bind fun
 _=>x.1.1[Int.toNat (i64.wrap (x_4-1))]?.bind fun x_10=>(s_l12Told ((List.set x.1.1 (Int.toNat (i64.wrap (x_4-1))) (x_10.1,x_10.2.1,4),x.1.2),0,x_4)).bind fun x_11=>some ((List.set x.1.1 (Int.toNat (i64.wrap (x_4-1))) (x_10.1,x_10.2.1,4),x.1.2),x_11) else none else none else none else(bif !decide (x.2.2.2.1=0) then some (decide ((↑(List.length
 x.1.1):Int)<x.2.2.2.1)) else some true).bind fun x_3=>bif x_3 then some (x.1,4,0,0,[],0,0) else bif decide (x.2.1=5) then(s_l12Told (x.1,0,x.2.2.2.1)).bind fun x_4=>some (x.1,x_4) else bif decide (0<=i64.wrap (x.2.2.2.1-1)) then x.1.1[(i64.wrap (x.2.2.2.1-1)).toNat]?.bind fun _=>x.1.1[Int.toNat (i64.wrap (x.2.2.2.1-1))]?.bind fun x_5=>
 (s_l12Wants (x.2.1,x_5.2.2)).bind fun x_6=>bif !x_6 then(s_l12Told (x.1,5,x.2.2.2.1)).bind fun x_7=>some (x.1,x_7) else bif decide (x.2.1=2) then bif decide (0<=x.2.2.1) then x.1.2.1[Int.toNat x.2.2.1]?.bind fun _=>x.1.2.1[Int.toNat x.2.2.1]?.bind fun x_8=>bif decide (0<x_8) then bif decide (0<=i64.wrap (x_8-1)) then x.1.1[(i64.wrap (x_8-1)).toNat]?.bind
 fun _=>x.1.1[Int.toNat (i64.wrap (x_8-1))]?.bind fun x_10=>bif decide (0<=x.2.2.1) then x.1.2.1[Int.toNat x.2.2.1]?.bind fun _=>x.1.2.1[Int.toNat x.2.2.1]?.bind fun _=>bif decide (0<=i64.wrap (x.2.2.2.1-1)) then(List.set x.1.1 (Int.toNat (i64.wrap (x_8-1))) (x_10.1,x_10.2.1,3))[(i64.wrap (x.2.2.2.1-1)).toNat]?.bind fun _=>
 (List.set x.1.1 (Int.toNat (i64.wrap (x_8-1))) (x_10.1,x_10.2.1,3))[Int.toNat (i64.wrap (x.2.2.2.1-1))]?.bind fun x_14=>(s_l12Told (((List.set x.1.1 (Int.toNat (i64.wrap (x_8-1))) (x_10.1,x_10.2.1,3)).set (Int.toNat (i64.wrap (x.2.2.2.1-1))) (x_14.1,x_14.2.1,2),List.set x.1.2.1 (Int.toNat x.2.2.1) x.2.2.2.1,x.1.2.2),0,x.2.2.2.1)).bind fun x_15
 =>some (((List.set x.1.1 (Int.toNat (i64.wrap (x_8-1))) (x_10.1,x_10.2.1,3)).set (Int.toNat (i64.wrap (x.2.2.2.1-1))) (x_14.1,x_14.2.1,2),List.set x.1.2.1 (Int.toNat x.2.2.1) x.2.2.2.1,x.1.2.2),x_15) else none else none else none else bif decide (0<=x.2.2.1) then x.1.2.1[Int.toNat x.2.2.1]?.bind fun _=>x.1.2.1[Int.toNat x.2.2.1]?.bind fun _=>bif decide (0 ≤
 i64.wrap (x.2.2.2.1-1)) then x.1.1[(i64.wrap (x.2.2.2.1-1)).toNat]?.bind fun _=>x.1.1[Int.toNat (i64.wrap (x.2.2.2.1-1))]?.bind fun x_12=>(s_l12Told ((List.set x.1.1 (Int.toNat (i64.wrap (x.2.2.2.1-1))) (x_12.1,x_12.2.1,2),List.set x.1.2.1 (Int.toNat x.2.2.1) x.2.2.2.1,x.1.2.2),0,x.2.2.2.1)).bind fun x_13=>some ((List.set x.1.1 (Int.toNat
 (i64.wrap (x.2.2.2.1-1))) (x_12.1,x_12.2.1,2),List.set x.1.2.1 (Int.toNat x.2.2.1) x.2.2.2.1,x.1.2.2),x_13) else none else none else none else bif decide (x.2.1=3) then(iter s_l12Do_L69 FUEL (x.1,x.2.2.2.1,0)).bind fun x_7=>bif decide (0<=i64.wrap (x.2.2.2.1-1)) then x_7.1[(i64.wrap (x.2.2.2.1-1)).toNat]?.bind fun _=>x_7.1[Int.toNat
 (i64.wrap (x.2.2.2.1-1))]?.bind fun x_9=>(s_l12Told ((List.set x_7.1 (Int.toNat (i64.wrap (x.2.2.2.1-1))) (x_9.1,x_9.2.1,3),x_7.2),0,x.2.2.2.1)).bind fun x_10=>some ((List.set x_7.1 (Int.toNat (i64.wrap (x.2.2.2.1-1))) (x_9.1,x_9.2.1,3),x_7.2),x_10) else none else bif decide (0<=i64.wrap (x.2.2.2.1-1)) then x.1.1[(i64.wrap (x.2.2.2.1
 -1)).toNat]?.bind fun _=>x.1.1[Int.toNat (i64.wrap (x.2.2.2.1-1))]?.bind fun x_8=>(s_l12Told ((List.set x.1.1 (Int.toNat (i64.wrap (x.2.2.2.1-1))) (x_8.1,x_8.2.1,4),x.1.2),0,x.2.2.2.1)).bind fun x_9=>some ((List.set x.1.1 (Int.toNat (i64.wrap (x.2.2.2.1-1))) (x_8.1,x_8.2.1,4),x.1.2),x_9) else none else none
abbrev k81:Cuts:=ctab [(69,⟨s81_69,iter s_l12Do_L69 FUEL⟩)]
theorem c81:FnOk Tryz.prog 81 ⟨s81,s_l12Do⟩:=fn_of2 mix_ok rfl tyl_ok (fl:=q81) ⟨c61,c62,c63,c101,c121,c122,trivial⟩ Tryz.func81 rfl rfl (C:=k81) (pts:=[(⟨s81_69,iter s_l12Do_L69 FUEL⟩,.loop (loopOf Tryz.f81 69))]) (by kernel_rfl) ⟨l81_69,trivial⟩ (fun _=>by kernel_rfl)
def s36:Sig:=⟨[.own t34,.ro (.int .i64),.ro (.int .i64),.ro t40,.ro (.int .i64)],[(t34,true),(t36,true),(.bool,true)],false⟩
abbrev q36:List (FuncId×V.Fn):=[(64,⟨s64,s_l1In⟩),(80,⟨s80,s_l12Last⟩),(81,⟨s81,s_l12Do⟩),(82,⟨s82,s_l12Session⟩)]
def s_l12Serve (x:D1×Int×Int×D7×Int):Option (D1×D4×Bool):=(s_l1In (x.2.1,1,
 6)).bind fun x_1=>(bif !!x_1 then(s_l1In (x.2.2.1,1,1000000)).bind fun x=>some !x else some true).bind fun x_2=>(bif !x_2 then(s_l1In (x.2.2.2.2,1,100000)).bind fun x=>some !x else some true).bind fun x_3=>bif x_3 then some (x.1,(0,0,0,[],0,0),false) else(s_l12Last (x.1,x.2.1)).bind fun x_4=>bif decide (x.2.2.1=x_4.1) then some (x.1,x_4.2,false) else bif !decide
 (x.2.2.1=i64.wrap (x_4.1+1)) then some (x.1,(0,0,0,[],0,0),false) else(s_l12Do (x.1,x.2.2.2.1)).bind fun x_5=>(s_l12Session (x_5.1,x.2.1)).bind fun x_6=>bif x_6.2 then bif decide (0<=x_6.1) then x_5.1.2.2[Int.toNat x_6.1]?.bind fun _=>x_5.1.2.2[Int.toNat x_6.1]?.bind fun _=>some ((x_5.1.1,x_5.1.2.1,List.set x_5.1.2.2 (Int.toNat x_6.1) (x.2.1,x.2.2.1,
 x_5.2.1,x_5.2.2.1,x_5.2.2.2.1,x_5.2.2.2.2.1,x_5.2.2.2.2.2.1,x.2.2.2.2)),(x_5.2.1,x_5.2.2.1,x_5.2.2.2.1,x_5.2.2.2.2.1,x_5.2.2.2.2.2.1,x.2.2.2.2),true) else none else bif decide (0<=x_6.1)&&decide (x_6.1<=(↑(List.length x_5.1.2.2):Int)) then bif decide ((0:Nat)+(List.take (Int.toNat x_6.1) x_5.1.2.2).length<=4294967296) then bif decide ((List.take (Int.toNat x_6.1)
 x_5.1.2.2).length+(1:Nat)<=4294967296) then bif decide (0<=x_6.1)&&decide (x_6.1<=(↑(List.length x_5.1.2.2):Int)) then bif decide ((List.take (Int.toNat x_6.1) x_5.1.2.2++[(x.2.1,x.2.2.1,x_5.2.1,x_5.2.2.1,x_5.2.2.2.1,x_5.2.2.2.2.1,x_5.2.2.2.2.2.1,x.2.2.2.2)]).length+(List.drop (Int.toNat x_6.1) x_5.1.2.2).length<=4294967296) then some ((x_5.1.1,x_5.1.2.1,List.take
 (Int.toNat x_6.1) x_5.1.2.2++[(x.2.1,x.2.2.1,x_5.2.1,x_5.2.2.1,x_5.2.2.2.1,x_5.2.2.2.2.1,x_5.2.2.2.2.2.1,x.2.2.2.2)]++List.drop (Int.toNat x_6.1) x_5.1.2.2),(x_5.2.1,x_5.2.2.1,x_5.2.2.2.1,x_5.2.2.2.2.1,x_5.2.2.2.2.2.1,x.2.2.2.2),true) else none else none else none else none else none
theorem c36:FnOk Tryz.prog 36 ⟨s36,s_l12Serve⟩:=fn_of mix_ok rfl tyl_ok (fl:=q36) ⟨c64,c80,c81,c82,trivial⟩ Tryz.func36 rfl rfl cuts0 (fun _=>by kernel_rfl)
def s37:Sig:=⟨[.ro t34],[(t34,true)],false⟩
abbrev q37:List (FuncId×V.Fn):=[]
def s_l12Copy (x:List D3×List Int×List D2):Option D1:=bif decide ((0:Nat)+List.length x.1<=4294967296) then bif decide ((0:Nat)+List.length x.2.1<=4294967296) then bif decide
 ((0:Nat)+List.length x.2.2<=4294967296) then some (x.1,x.2.1,x.2.2) else none else none else none
theorem c37:FnOk Tryz.prog 37 ⟨s37,s_l12Copy⟩:=fn_of mix_ok rfl tyl_ok (fl:=q37) trivial Tryz.func37 rfl rfl cuts0 (fun _=>by kernel_rfl)
def s8:Sig:=⟨[.ro t34,.ro (.int .i64),.ro (.int .i64),.ro t40,.ro (.int .i64)],[(t34,true),(t36,true),(.bool,true)],false⟩
abbrev q8:List (FuncId×V.Fn):=[(21,⟨s21,s_RegOk⟩),(36,⟨s36,s_l12Serve⟩),(37,⟨s37,s_l12Copy⟩)]
def s_Serve (x:D1×Int×Int×D7×Int):Option (D1×D4×Bool):=(s_RegOk x.1).bind fun x_1
 =>bif !x_1 then some (([],[],[]),(0,0,0,[],0,0),false) else(s_l12Copy x.1).bind fun x_2=>(s_l12Serve (x_2,x.2.1,x.2.2.1,x.2.2.2.1,x.2.2.2.2)).bind fun x=>some (x.1,x.2.1,x.2.2)
theorem c8:FnOk Tryz.prog 8 ⟨s8,s_Serve⟩:=fn_of mix_ok rfl tyl_ok (fl:=q8) ⟨c21,c36,c37,trivial⟩ Tryz.func8 rfl rfl cuts0 (fun _=>by kernel_rfl)
def s83:Sig:=⟨[.ro t135],[(t102,true)],false⟩
abbrev q83:List (FuncId×V.Fn):=[]
def w_toVersion (x:List UInt8×List UInt8×Int):Option D3:=some (x.1,x.2.1,x.2.2)
theorem c83:FnOk Tryz.prog 83 ⟨s83,w_toVersion⟩:=fn_of mix_ok rfl tyl_ok (fl:=q83) trivial Tryz.func83 rfl rfl cuts0 (fun _=>by kernel_rfl)
def s38:Sig:=⟨[.ro (.sl 135 t135)],[((.sl 102 t102),true)],false⟩
abbrev q38:List (FuncId×V.Fn):=[(83,⟨s83,w_toVersion⟩)]
def s38_9:CutSig:=⟨23,[0,3,4],[.ro (.sl 135 t135),.own (.sl 102 t102),.ro (.int .i64)],[(.ex 0,[3],[((.sl 102 t102),true)])]⟩
def w_toVersionS_L9 (go:List D3×List D3×Int->Option (List D3)) (x:List D3×List D3×Int):Option (List D3):=bif decide (x.2.2<(↑(List.length x.1):Int)) then bif decide (0<=x.2.2) then
 x.1[Int.toNat x.2.2]?.bind fun x_1=>(w_toVersion x_1).bind fun x_2=>bif decide (0<=x.2.2) then x.2.1[Int.toNat x.2.2]?.bind fun _=>x.2.1[Int.toNat x.2.2]?.bind fun _=>go (x.1,List.set x.2.1 (Int.toNat x.2.2) x_2,i64.wrap (x.2.2+1)) else none else none else some x.2.1
theorem l38_9:CutOk Tryz.prog ⟨s38_9,iter w_toVersionS_L9 FUEL⟩ (.loop (loopOf Tryz.f38 9)):=loop_of mix_ok rfl tyl_ok (fl:=q38) ⟨c83,trivial⟩ (C:=C0) rfl (pts:=[]) (by kernel_rfl) trivial (fun _ _=>by kernel_rfl)
def w_toVersionS (x:List D3):Option (List D3):=bif decide (0<=(↑x.length:Int))&&decide ((↑x.length:Int)<=(↑x.length:Int))&&decide ((↑x.length:Int)<=(↑4294967296:Int)) then(iter w_toVersionS_L9 FUEL (x,List.replicate (↑x.length:Int).toNat ([],[],0),0)).bind fun x=>some x else none
abbrev k38:Cuts:=ctab [(9,⟨s38_9,iter w_toVersionS_L9 FUEL⟩)]
theorem c38:FnOk Tryz.prog 38 ⟨s38,w_toVersionS⟩:=fn_of2 mix_ok rfl tyl_ok (fl:=q38) ⟨c83,trivial⟩ Tryz.func38 rfl rfl (C:=k38) (pts:=[(⟨s38_9,iter w_toVersionS_L9 FUEL⟩,.loop (loopOf Tryz.f38 9))]) (by kernel_rfl) ⟨l38_9,trivial⟩ (fun _=>by kernel_rfl)
def s39:Sig:=⟨[.ro t23],[(t23,true)],false⟩
abbrev q39:List (FuncId×V.Fn):=[]
def s39_9:CutSig:=⟨22,[0,3,4],[.ro t23,.own t23,.ro (.int .i64)],[(.ex 0,[3],[(t23,true)])]⟩
def w_toIntS_L9 (go:List Int×List Int×Int->Option (List Int)) (x:List Int×List Int×Int):Option (List Int):=bif decide (x.2.2<(↑(List.length x.1):Int)) then bif decide (0<=x.2.2) then x.1[Int.toNat x.2.2]?.bind fun x_1=>bif decide (0<=x.2.2) then x.2.1[Int.toNat x.2.2]?.bind fun _=>x.2.1[Int.toNat x.2.2]?.bind fun _=>go (x.1,List.set x.2.1 (Int.toNat
 x.2.2) x_1,i64.wrap (x.2.2+1)) else none else none else some x.2.1
theorem l39_9:CutOk Tryz.prog ⟨s39_9,iter w_toIntS_L9 FUEL⟩ (.loop (loopOf Tryz.f39 9)):=loop_of mix_ok rfl tyl_ok (fl:=q39) trivial (C:=C0) rfl (pts:=[]) (by kernel_rfl) trivial (fun _ _=>by kernel_rfl)
def w_toIntS (x:List Int):Option (List Int):=bif decide (0<=(↑x.length:Int))&&decide ((↑x.length:Int)<=(↑x.length:Int))&&decide ((↑x.length:Int)<=(↑4294967296:Int)) then(iter w_toIntS_L9 FUEL (x,List.replicate (↑x.length:Int).toNat 0,0)).bind fun x=>some x else none
abbrev k39:Cuts:=ctab [(9,⟨s39_9,iter w_toIntS_L9 FUEL⟩)]
theorem c39:FnOk Tryz.prog 39 ⟨s39,w_toIntS⟩:=fn_of2 mix_ok rfl tyl_ok (fl:=q39) trivial Tryz.func39 rfl rfl (C:=k39) (pts:=[(⟨s39_9,iter w_toIntS_L9 FUEL⟩,.loop (loopOf Tryz.f39 9))]) (by kernel_rfl) ⟨l39_9,trivial⟩ (fun _=>by kernel_rfl)
def s123:Sig:=⟨[.ro t137],[(t36,true)],false⟩
abbrev q123:List (FuncId×V.Fn):=[]
def w_toAnswer (x:Int×Int×Int×List UInt8×Int×Int):Option D4:=some (x.1,x.2.1,x.2.2.1,x.2.2.2.1,x.2.2.2.2.1,x.2.2.2.2.2)
theorem c123:FnOk Tryz.prog 123 ⟨s123,w_toAnswer⟩:=fn_of mix_ok rfl tyl_ok (fl:=q123) trivial Tryz.func123 rfl rfl cuts0 (fun _=>by kernel_rfl)
def s84:Sig:=⟨[.ro t139],[(t111,true)],false⟩
abbrev q84:List (FuncId×V.Fn):=[(123,⟨s123,w_toAnswer⟩)]
def w_toSession (x:Int×Int×Int×Int×Int×List UInt8×Int×Int):Option D2:=(w_toAnswer x.2.2).bind fun x_1=>some (x.1,x.2.1,x_1)
theorem c84:FnOk Tryz.prog 84 ⟨s84,w_toSession⟩:=fn_of mix_ok rfl tyl_ok (fl:=q84) ⟨c123,trivial⟩ Tryz.func84 rfl rfl cuts0 (fun _=>by kernel_rfl)
def s40:Sig:=⟨[.ro (.sl 139 t139)],[((.sl 111 t111),true)],false⟩
abbrev q40:List (FuncId×V.Fn):=[(84,⟨s84,w_toSession⟩)]
def s40_9:CutSig:=⟨23,[0,3,4],[.ro (.sl 139 t139),.own (.sl 111 t111),.ro (.int .i64)],[(.ex 0,[3],[((.sl 111 t111),true)])]⟩
def w_toSessionS_L9 (go:List D2×List D2×Int->Option (List D2)) (x:List D2×List D2×Int):Option (List (Int×Int
 ×Int×Int×Int×List UInt8×Int×Int)):=bif decide (x.2.2<(↑(List.length x.1):Int)) then bif decide (0<=x.2.2) then x.1[Int.toNat x.2.2]?.bind fun x_1=>(w_toSession x_1).bind fun x_2=>bif decide (0<=x.2.2) then x.2.1[Int.toNat x.2.2]?.bind fun _=>x.2.1[Int.toNat x.2.2]?.bind fun _=>go (x.1,List.set x.2.1 (Int.toNat x.2.2) x_2,i64.wrap (x.2.2+1)) else none
 else none else some x.2.1
theorem l40_9:CutOk Tryz.prog ⟨s40_9,iter w_toSessionS_L9 FUEL⟩ (.loop (loopOf Tryz.f40 9)):=loop_of mix_ok rfl tyl_ok (fl:=q40) ⟨c84,trivial⟩ (C:=C0) rfl (pts:=[]) (by kernel_rfl) trivial (fun _ _=>by kernel_rfl)
def w_toSessionS (x:List D2):Option (List D2):=bif decide (0<=(↑x.length:Int))&&decide ((↑x.length:Int)<=(↑x.length:Int))&&decide ((↑x.length:Int)<=(↑4294967296:Int)) then(iter w_toSessionS_L9 FUEL (x,List.replicate (↑x.length:Int).toNat (0,0,0,0,0,
 [],0,0),0)).bind fun x=>some x else none
abbrev k40:Cuts:=ctab [(9,⟨s40_9,iter w_toSessionS_L9 FUEL⟩)]
theorem c40:FnOk Tryz.prog 40 ⟨s40,w_toSessionS⟩:=fn_of2 mix_ok rfl tyl_ok (fl:=q40) ⟨c84,trivial⟩ Tryz.func40 rfl rfl (C:=k40) (pts:=[(⟨s40_9,iter w_toSessionS_L9 FUEL⟩,.loop (loopOf Tryz.f40 9))]) (by kernel_rfl) ⟨l40_9,trivial⟩ (fun _=>by kernel_rfl)
def s9:Sig:=⟨[.ro t26],[(t34,true)],false⟩
abbrev q9:List (FuncId×V.Fn):=[(38,⟨s38,w_toVersionS⟩),(39,⟨s39,w_toIntS⟩),(40,⟨s40,w_toSessionS⟩)]
def w_toReg (x:List D3×List Int×List D2):Option D1:=(w_toVersionS x.1).bind fun x_1=>(w_toIntS x.2.1).bind fun x_2=>(w_toSessionS x.2.2).bind fun x=>some (x_1,x_2,x)
theorem c9:FnOk Tryz.prog 9 ⟨s9,w_toReg⟩:=fn_of mix_ok rfl tyl_ok (fl:=q9) ⟨c38,c39,c40,trivial⟩ Tryz.func9 rfl rfl cuts0 (fun _=>by kernel_rfl)
def s10:Sig:=⟨[.ro t28],[(t40,true)],false⟩
abbrev q10:List (FuncId×V.Fn):=[]
def w_toOp (x:Int×Int×Int×List UInt8):Option D7:=some (x.1,x.2.1,x.2.2.1,x.2.2.2)
theorem c10:FnOk Tryz.prog 10 ⟨s10,w_toOp⟩:=fn_of mix_ok rfl tyl_ok (fl:=q10) trivial Tryz.func10 rfl rfl cuts0 (fun _=>by kernel_rfl)
def s58:Sig:=⟨[.ro (.int .i64),.ro (.int .i64),.ro (.int .i64)],[(.bool,true)],false⟩
abbrev q58:List (FuncId×V.Fn):=[]
def i_within (x:Int×Int×Int):Option (Bool):=(bif decide (x.2.1<=x.1) then some (decide (x.1<=x.2.2)) else some false).bind fun x=>some x
theorem c58:FnOk Tryz.prog 58 ⟨s58,i_within⟩:=fn_of mix_ok rfl tyl_ok (fl:=q58) trivial Tryz.func58 rfl rfl cuts0 (fun _=>by kernel_rfl)
def s124:Sig:=⟨[.pio t185,.ro (.int .i64)],[(.str,true)],false⟩
abbrev q124:List (FuncId×V.Fn):=[(58,⟨s58,i_within⟩)]
def i_scan_cut (x:D9×Int):Option (List UInt8×List UInt8×Bool):=(bif !x.1.2 then(i_within (x.2,0,(↑(List.length x.1.1):Int))).bind fun x=>some !x else some true).bind fun x_1=>bif x_1 then some ([],x.1.1,true) else bif decide (0<=x.2)&&decide (x.2<=(↑(List.length x.1.1):Int)) then bif decide (0<=x.2)&&decide (x.2<=(↑(List.length
 x.1.1):Int)) then some (List.take (Int.toNat x.2) x.1.1,List.drop (Int.toNat x.2) x.1.1,x.1.2) else none else none
theorem c124:FnOk Tryz.prog 124 ⟨s124,i_scan_cut⟩:=fn_of mix_ok rfl tyl_ok (fl:=q124) ⟨c58,trivial⟩ Tryz.func124 rfl rfl cuts0 (fun _=>by kernel_rfl)
def s151:Sig:=⟨[.ro (.int .i64)],[(.str,true)],false⟩
abbrev q151:List (FuncId×V.Fn):=[(58,⟨s58,i_within⟩)]
def s151_11:CutSig:=⟨25,[0,3],[.ro (.int .i64),.own t46],[(.ex 0,[0,3],[((.int .i64),true),(t46,true)])]⟩
def i_Var_L11 (go:Int×List Int->Option (Int×List Int)) (x:Int×List Int):Option (Int×List Int):=bif decide (127<x.1) then bif decide (List.length x.2+(1:Nat)<=4294967296) then go (Int.fdiv x.1 (2^min (Int.toNat 7) i64.bits),x.2++[u8.wrap (i64.wrap (↑(BitVec.ofInt i64.bits (i64.wrap (↑(BitVec.ofInt i64.bits
 x.1&&&BitVec.ofInt i64.bits 127).toNat:Int))|||BitVec.ofInt i64.bits 128).toNat:Int))]) else none else some (x.1,x.2)
theorem l151_11:CutOk Tryz.prog ⟨s151_11,iter i_Var_L11 FUEL⟩ (.loop (loopOf Tryz.f151 11)):=loop_of mix_ok rfl tyl_ok (fl:=q151) ⟨c58,trivial⟩ (C:=C0) rfl (pts:=[]) (by kernel_rfl) trivial (fun _ _=>by kernel_rfl)
def i_Var (x:Int):Option (List UInt8):=(i_within (x,0,562949953421311)).bind fun x_1=>bif !x_1 then some [] else(iter i_Var_L11 FUEL (x,List.replicate 0 0)).bind fun x=>bif decide (List.length x.2+(1:Nat)<=4294967296) then some (List.map (fun(b:Int)=>UInt8.ofNat b.toNat) (x.2++[u8.wrap x.1])) else none
abbrev k151:Cuts:=ctab [(11,⟨s151_11,iter i_Var_L11 FUEL⟩)]
theorem c151:FnOk Tryz.prog 151 ⟨s151,i_Var⟩:=fn_of2 mix_ok rfl tyl_ok (fl:=q151) ⟨c58,trivial⟩ Tryz.func151 rfl rfl (C:=k151) (pts:=[(⟨s151_11,iter i_Var_L11 FUEL⟩,.loop (loopOf Tryz.f151 11))]) (by kernel_rfl) ⟨l151_11,trivial⟩ (fun _=>by kernel_rfl)
def s150:Sig:=⟨[.ro .str],[((.int .i64),true),((.int .i64),true)],false⟩
abbrev q150:List (FuncId×V.Fn):=[(151,⟨s151,i_Var⟩)]
def s150_9:CutSig:=⟨40,[0,4,5],[.ro .str,.ro (.int .i64),.ro (.int .i64)],[(.ex 0,[],[]),(.ret,[2,3],[((.int .i64),true),((.int .i64),true)])]⟩
def i_ReadVar_L9 (go:List UInt8×Int×Int->Option (Unit⊕Int×Int)) (x:List UInt8×Int×Int):Option (Unit⊕Int×Int):=(bif decide (x.2.2<(↑(List.length x.1):Int)) then some (decide (x.2.2<7)) else some false).bind fun x_1=>bif x_1 then bif decide (0<=x.2.2) then x.1[Int.toNat x.2.2]?.bind fun x_2=>bif decide (0<=i64.wrap (7*x.2.2)) then bif
 decide (0<=x.2.2) then x.1[Int.toNat x.2.2]?.bind fun x_3=>bif decide ((↑x_3.toNat:Int)<128) then(i_Var (i64.wrap (↑(BitVec.ofInt i64.bits x.2.1|||BitVec.ofInt i64.bits (i64.wrap (i64.wrap (u8.wrap (↑(BitVec.ofInt u8.bits (↑x_2.toNat:Int)&&&BitVec.ofInt u8.bits 127).toNat:Int))*2^min (i64.wrap (7*
 x.2.2)).toNat i64.bits))).toNat:Int))).bind fun x_4=>bif decide (0<=i64.wrap (x.2.2+1))&&decide (i64.wrap (x.2.2+1)<=(↑(List.length x.1):Int)) then bif !decide (x_4=List.take (i64.wrap (x.2.2+1)).toNat x.1) then some (Sum.inr (0,0)) else some (Sum.inr (i64.wrap (↑(BitVec.ofInt i64.bits x.2.1|||BitVec.ofInt i64.bits
 (i64.wrap (i64.wrap (u8.wrap (↑(BitVec.ofInt u8.bits (↑x_2.toNat:Int)&&&BitVec.ofInt u8.bits 127).toNat:Int))*2^min (i64.wrap (7*x.2.2)).toNat i64.bits))).toNat:Int),i64.wrap (x.2.2+1))) else none else go (x.1,i64.wrap (↑(BitVec.ofInt i64.bits x.2.1|||BitVec.ofInt i64.bits
 (i64.wrap (i64.wrap (u8.wrap (↑(BitVec.ofInt u8.bits (↑x_2.toNat:Int)&&&BitVec.ofInt u8.bits 127).toNat:Int))*2^min (i64.wrap (7*x.2.2)).toNat i64.bits))).toNat:Int),i64.wrap (x.2.2+1)) else none else none else none else some (Sum.inl ())
theorem l150_9:CutOk Tryz.prog ⟨s150_9,iter i_ReadVar_L9 FUEL⟩ (.loop (loopOf Tryz.f150 9)):=loop_of mix_ok rfl tyl_ok (fl:=q150) ⟨c151,trivial⟩ (C:=C0) rfl (pts:=[]) (by kernel_rfl) trivial (fun _ _=>by kernel_rfl)
def i_ReadVar (x:List UInt8):Option D8:=(iter i_ReadVar_L9 FUEL (x,0,0)).bind fun x=>sumK x (fun _=>some (0,0)) fun z=>some (z.1,z.2)
abbrev k150:Cuts:=ctab [(9,⟨s150_9,iter i_ReadVar_L9 FUEL⟩)]
theorem c150:FnOk Tryz.prog 150 ⟨s150,i_ReadVar⟩:=fn_of2 mix_ok rfl tyl_ok (fl:=q150) ⟨c151,trivial⟩ Tryz.func150 rfl rfl (C:=k150) (pts:=[(⟨s150_9,iter i_ReadVar_L9 FUEL⟩,.loop (loopOf Tryz.f150 9))]) (by kernel_rfl) ⟨l150_9,trivial⟩ (fun _=>by kernel_rfl)
def s126:Sig:=⟨[.pio t185],[((.int .i64),true)],false⟩
abbrev q126:List (FuncId×V.Fn):=[(150,⟨s150,i_ReadVar⟩)]
def i_scan_num (x:List UInt8×Bool):Option (Int×List UInt8×Bool):=(i_ReadVar x.1).bind fun x_1=>(bif !x.2 then some (decide (x_1.2=0)) else some true).bind fun x_2=>bif x_2 then some (0,x.1,true) else bif decide (0<=x_1.2)&&decide (x_1.2<=(↑(List.length x.1):Int)) then some (x_1.1,List.drop (Int.toNat x_1.2) x.1,x.2) else none
theorem c126:FnOk Tryz.prog 126 ⟨s126,i_scan_num⟩:=fn_of mix_ok rfl tyl_ok (fl:=q126) ⟨c150,trivial⟩ Tryz.func126 rfl rfl cuts0 (fun _=>by kernel_rfl)
def s125:Sig:=⟨[.pio t185,.ro (.int .i64)],[((.int .i64),true)],false⟩
abbrev q125:List (FuncId×V.Fn):=[(126,⟨s126,i_scan_num⟩)]
def i_scan_many (x:D9×Int):Option (Int×List UInt8×Bool):=(i_scan_num x.1).bind fun x_1=>bif decide (x.2<x_1.1) then some (0,x_1.2.1,true) else bif x_1.2.2 then some (0,x_1.2) else some (x_1.1,x_1.2)
theorem c125:FnOk Tryz.prog 125 ⟨s125,i_scan_many⟩:=fn_of mix_ok rfl tyl_ok (fl:=q125) ⟨c126,trivial⟩ Tryz.func125 rfl rfl cuts0 (fun _=>by kernel_rfl)
def s171:Sig:=⟨[.ro (.sl 9 .str),.ro (.int .i64)],[(.str,true)],false⟩
abbrev q171:List (FuncId×V.Fn):=[]
def i_bytesIn (x:List (List UInt8)×Int):Option (List UInt8):=bif decide (x.2<256) then some (List.map (fun(b:Int)=>UInt8.ofNat b.toNat) [u8.wrap x.2]) else bif decide (0<=i64.wrap (x.2-256)) then x.1[(i64.wrap (x.2-256)).toNat]?.bind fun x=>some x else none
theorem c171:FnOk Tryz.prog 171 ⟨s171,i_bytesIn⟩:=fn_of mix_ok rfl tyl_ok (fl:=q171) trivial Tryz.func171 rfl rfl cuts0 (fun _=>by kernel_rfl)
def s176:Sig:=⟨[.ro (.sl 9 .str),.ro .str],[((.int .i64),true)],false⟩
abbrev q176:List (FuncId×V.Fn):=[]
def s176_7:CutSig:=⟨19,[0,1,7,8],[.ro (.sl 9 .str),.ro .str,.ro (.int .i64),.ro (.int .i64)],[(.ex 0,[],[]),(.ret,[4],[((.int .i64),true)])]⟩
def g_slices_Index_string_string_L7 (go:List (List UInt8)×List UInt8×Int×Int->Option (Unit⊕Int)) (x:List (List UInt8)×List UInt8×Int×Int):Option (Unit⊕Int):=bif decide (x.2.2.2<x.2.2.1) then bif decide (0<=x.2.2.2) then x.1[Int.toNat x.2.2.2]?.bind fun x_1=>bif decide (x.2.1=x_1) then some (Sum.inr x.2.2.2) else go (x.1,x.2.1,x.2.2.1,
 i64.wrap (x.2.2.2+1)) else none else some (Sum.inl ())
theorem l176_7:CutOk Tryz.prog ⟨s176_7,iter g_slices_Index_string_string_L7 FUEL⟩ (.loop (loopOf Tryz.f176 7)):=loop_of mix_ok rfl tyl_ok (fl:=q176) trivial (C:=C0) rfl (pts:=[]) (by kernel_rfl) trivial (fun _ _=>by kernel_rfl)
def g_slices_Index_string_string (x:List (List UInt8)×List UInt8):Option (Int):=(iter g_slices_Index_string_string_L7 FUEL (x.1,x.2,(↑(List.length x.1):Int),0)).bind fun x=>sumK x (fun _=>some (-1)) fun z=>some z
abbrev k176:Cuts:=ctab [(7,⟨s176_7,iter g_slices_Index_string_string_L7 FUEL⟩)]
theorem c176:FnOk Tryz.prog 176 ⟨s176,g_slices_Index_string_string⟩:=fn_of2 mix_ok rfl tyl_ok (fl:=q176) trivial Tryz.func176 rfl rfl (C:=k176) (pts:=[(⟨s176_7,iter g_slices_Index_string_string_L7 FUEL⟩,.loop (loopOf Tryz.f176 7))]) (by kernel_rfl) ⟨l176_7,trivial⟩ (fun _=>by kernel_rfl)
def s172:Sig:=⟨[.ro (.sl 9 .str),.ro .str],[(.bool,true)],false⟩
abbrev q172:List (FuncId×V.Fn):=[(176,⟨s176,g_slices_Index_string_string⟩)]
def g_slices_Contains_string_string (x:List (List UInt8)×List UInt8):Option (Bool):=(g_slices_Index_string_string (x.1,x.2)).bind fun x=>some (decide (0<=x))
theorem c172:FnOk Tryz.prog 172 ⟨s172,g_slices_Contains_string_string⟩:=fn_of mix_ok rfl tyl_ok (fl:=q172) ⟨c176,trivial⟩ Tryz.func172 rfl rfl cuts0 (fun _=>by kernel_rfl)
def s163:Sig:=⟨[.ro (.sl 167 t167)],[((.sl 9 .str),true),(.bool,true)],false⟩
abbrev q163:List (FuncId×V.Fn):=[(58,⟨s58,i_within⟩),(171,⟨s171,i_bytesIn⟩),(172,⟨s172,g_slices_Contains_string_string⟩)]
def s163_13:CutSig:=⟨59,[4,13,14,15],[.own (.sl 9 .str),.ro (.sl 167 t167),.ro (.int .i64),.ro (.int .i64)],[(.ex 0,[4],[((.sl 9 .str),true)]),(.ret,[2,3],[((.sl 9 .str),true),(.bool,true)])]⟩
def i_tokens_L13 (go:List (List UInt8)×List D8×Int×Int->Option D6) (x:List (List UInt8)×List D8×Int×Int):Option D6:=bif decide (x.2.2.2<x.2.2.1) then bif decide (0<=x.2.2.2) then x.2.1[Int.toNat x.2.2.2]?.bind fun x_1=>(i_within (x_1.1,0,
 i64.wrap (255+x.2.2.2))).bind fun x_2=>(bif !!x_2 then(i_within (x_1.2,0,i64.wrap (255+x.2.2.2))).bind fun x=>some !x else some true).bind fun x_3=>bif x_3 then some (Sum.inr (x.1,false)) else(i_bytesIn (x.1,x_1.1)).bind fun x_4=>(i_bytesIn (x.1,x_1.2)).bind fun x_5=>bif decide (x_4.length+x_5.length<=4611686018427387904) then(bif !decide (24<(↑(x_4++
 x_5).length:Int)) then(g_slices_Contains_string_string (x.1,x_4++x_5)).bind fun x=>some x else some true).bind fun x_6=>bif x_6 then some (Sum.inr (x.1,false)) else bif decide (List.length x.1+(1:Nat)<=4294967296) then go (x.1++[x_4++x_5],x.2.1,x.2.2.1,i64.wrap (x.2.2.2+1)) else none else none else none else some (Sum.inl x.1)
theorem l163_13:CutOk Tryz.prog ⟨s163_13,iter i_tokens_L13 FUEL⟩ (.loop (loopOf Tryz.f163 13)):=loop_of mix_ok rfl tyl_ok (fl:=q163) ⟨c58,c171,c172,trivial⟩ (C:=C0) rfl (pts:=[]) (by kernel_rfl) trivial (fun _ _=>by kernel_rfl)
def i_tokens (x:List D8):Option (List (List UInt8)×Bool):=bif decide (60<(↑x.length:Int)) then some (List.replicate 0 [],false) else(iter i_tokens_L13 FUEL (List.replicate 0 [],x,(↑x.length:Int),0)).bind fun x=>sumK x (fun y=>some (y,true)) fun z=>some (z.1,z.2)
abbrev k163:Cuts:=ctab [(13,⟨s163_13,iter i_tokens_L13 FUEL⟩)]
theorem c163:FnOk Tryz.prog 163 ⟨s163,i_tokens⟩:=fn_of2 mix_ok rfl tyl_ok (fl:=q163) ⟨c58,c171,c172,trivial⟩ Tryz.func163 rfl rfl (C:=k163) (pts:=[(⟨s163_13,iter i_tokens_L13 FUEL⟩,.loop (loopOf Tryz.f163 13))]) (by kernel_rfl) ⟨l163_13,trivial⟩ (fun _=>by kernel_rfl)
def s147:Sig:=⟨[.ro t105],[(.bool,true)],false⟩
abbrev q147:List (FuncId×V.Fn):=[(163,⟨s163,i_tokens⟩)]
def i_VocabOk (x:List D8×Unit):Option (Bool):=(i_tokens x.1).bind fun x=>some x.2
theorem c147:FnOk Tryz.prog 147 ⟨s147,i_VocabOk⟩:=fn_of mix_ok rfl tyl_ok (fl:=q147) ⟨c163,trivial⟩ Tryz.func147 rfl rfl cuts0 (fun _=>by kernel_rfl)
def s127:Sig:=⟨[.ro t105],[(.str,true)],false⟩
abbrev q127:List (FuncId×V.Fn):=[(147,⟨s147,i_VocabOk⟩),(151,⟨s151,i_Var⟩)]
def s127_13:CutSig:=⟨32,[3,15,16,17],[.ro .str,.ro (.sl 167 t167),.ro (.int .i64),.ro (.int .i64)],[(.ex 0,[3],[(.str,true)])]⟩
def i_Canon_L13 (go:List UInt8×List D8×Int×Int->Option (List UInt8)) (x:List UInt8×List D8×Int×Int):Option (List UInt8):=bif decide (x.2.2.2<x.2.2.1) then bif decide (0<=x.2.2.2) then x.2.1[Int.toNat x.2.2.2]?.bind fun x_1=>(i_Var x_1.1).bind fun x_2=>bif decide (List.length x.1+x_2.length<=4611686018427387904) then(i_Var x_1.2).bind
 fun x_3=>bif decide ((x.1++x_2).length+x_3.length<=4611686018427387904) then go (x.1++x_2++x_3,x.2.1,x.2.2.1,i64.wrap (x.2.2.2+1)) else none else none else none else some x.1
theorem l127_13:CutOk Tryz.prog ⟨s127_13,iter i_Canon_L13 FUEL⟩ (.loop (loopOf Tryz.f127 13)):=loop_of mix_ok rfl tyl_ok (fl:=q127) ⟨c147,c151,trivial⟩ (C:=C0) rfl (pts:=[]) (by kernel_rfl) trivial (fun _ _=>by kernel_rfl)
def i_Canon (x:List D8×Unit):Option (List UInt8):=(i_VocabOk x).bind fun x_1=>bif !x_1 then some [] else(i_Var (↑(List.length x.1):Int)).bind fun x_2=>bif decide ((3:Nat)+x_2.length<=4611686018427387904) then(iter i_Canon_L13 FUEL ([(98:UInt8),(112:UInt8),(101:UInt8)]++x_2,x.1,(↑(List.length x.1):Int),0)).bind fun x=>some x else none
abbrev k127:Cuts:=ctab [(13,⟨s127_13,iter i_Canon_L13 FUEL⟩)]
theorem c127:FnOk Tryz.prog 127 ⟨s127,i_Canon⟩:=fn_of2 mix_ok rfl tyl_ok (fl:=q127) ⟨c147,c151,trivial⟩ Tryz.func127 rfl rfl (C:=k127) (pts:=[(⟨s127_13,iter i_Canon_L13 FUEL⟩,.loop (loopOf Tryz.f127 13))]) (by kernel_rfl) ⟨l127_13,trivial⟩ (fun _=>by kernel_rfl)
def s85:Sig:=⟨[.ro .str],[(t105,true),(.bool,true)],false⟩
abbrev q85:List (FuncId×V.Fn):=[(124,⟨s124,i_scan_cut⟩),(125,⟨s125,i_scan_many⟩),(126,⟨s126,i_scan_num⟩),(127,⟨s127,i_Canon⟩)]
def s85_15:CutSig:=⟨48,[4,6,16,17],[.pio t185,.pio t105,.ro (.int .i64),.ro (.int .i64)],[(.ex 0,[],[])]⟩
def i_ReadCanon_L15 (go:D9×D5×Int×Int->Option (D9×List D8×Unit)) (x:D9×D5×Int×Int):Option (D9×List D8×Unit):=bif decide (x.2.2.2<x.2.2.1) then(i_scan_num x.1).bind fun x_1=>(i_scan_num x_1.2).bind fun x_2=>bif
 decide (List.length x.2.1.1+(1:Nat)<=4294967296) then go (x_2.2,(x.2.1.1++[(x_1.1,x_2.1)],x.2.1.2),x.2.2.1,i64.wrap (x.2.2.2+1)) else none else some (x.1,x.2.1)
theorem l85_15:CutOk Tryz.prog ⟨s85_15,iter i_ReadCanon_L15 FUEL⟩ (.loop (loopOf Tryz.f85 15)):=loop_of mix_ok rfl tyl_ok (fl:=q85) ⟨c124,c125,c126,c127,trivial⟩ (C:=C0) rfl (pts:=[]) (by kernel_rfl) trivial (fun _ _=>by kernel_rfl)
def i_ReadCanon (x:List UInt8):Option (D5×Bool):=(i_scan_cut ((x,false),3)).bind fun x_1=>(i_scan_many (x_1.2,60)).bind fun x_2=>(iter i_ReadCanon_L15 FUEL (x_2.2,([],()),x_2.1,0)).bind fun x_3=>(bif !x_3.1.2 then some (decide (x=[])) else some true).bind fun x_4=>(bif !x_4 then(i_Canon x_3.2).bind fun x_5=>some !decide (x_5=x)
 else some true).bind fun x=>bif x then some (([],()),false) else some (x_3.2,true)
abbrev k85:Cuts:=ctab [(15,⟨s85_15,iter i_ReadCanon_L15 FUEL⟩)]
theorem c85:FnOk Tryz.prog 85 ⟨s85,i_ReadCanon⟩:=fn_of2 mix_ok rfl tyl_ok (fl:=q85) ⟨c124,c125,c126,c127,trivial⟩ Tryz.func85 rfl rfl (C:=k85) (pts:=[(⟨s85_15,iter i_ReadCanon_L15 FUEL⟩,.loop (loopOf Tryz.f85 15))]) (by kernel_rfl) ⟨l85_15,trivial⟩ (fun _=>by kernel_rfl)
def s128:Sig:=⟨[.ro (.int .i64),.ro (.int .i64)],[(.str,true)],false⟩
abbrev q128:List (FuncId×V.Fn):=[(58,⟨s58,i_within⟩)]
def s128_13:CutSig:=⟨39,[0,5,6],[.ro (.int .i64),.own t46,.ro (.int .i64)],[(.ex 0,[5],[(t46,true)])]⟩
def i_Fixed_L13 (go:Int×List Int×Int->Option (List Int)) (x:Int×List Int×Int):Option (List Int):=bif decide (0<=x.2.2) then bif decide (0<=x.2.2) then x.2.1[Int.toNat x.2.2]?.bind fun _=>x.2.1[Int.toNat x.2.2]?.bind fun _=>go (Int.fdiv x.1 (2^min (Int.toNat 8) i64.bits),List.set x.2.1 (Int.toNat x.2.2) (u8.wrap (i64.wrap
 (↑(BitVec.ofInt i64.bits x.1&&&BitVec.ofInt i64.bits 255).toNat:Int))),i64.wrap (x.2.2-1)) else none else some x.2.1
theorem l128_13:CutOk Tryz.prog ⟨s128_13,iter i_Fixed_L13 FUEL⟩ (.loop (loopOf Tryz.f128 13)):=loop_of mix_ok rfl tyl_ok (fl:=q128) ⟨c58,trivial⟩ (C:=C0) rfl (pts:=[]) (by kernel_rfl) trivial (fun _ _=>by kernel_rfl)
def i_Fixed (x:Int×Int):Option (List UInt8):=(i_within (x.2,1,7)).bind fun x_1=>(bif !!x_1 then some (decide (x.1<0)) else some true).bind fun x_2=>(bif !x_2 then bif decide (0<=i64.wrap (8*x.2)) then some (decide (i64.wrap (1*2^min (i64.wrap (8*x.2)).toNat i64.bits)<=x.1)) else none else some true).bind fun x_3=>bif x_3
 then some [] else bif decide (0<=x.2)&&decide (x.2<=x.2)&&decide (x.2<=(↑4294967296:Int)) then(iter i_Fixed_L13 FUEL (x.1,List.replicate (Int.toNat x.2) 0,i64.wrap (x.2-1))).bind fun x=>some (List.map (fun(b:Int)=>UInt8.ofNat b.toNat) x) else none
abbrev k128:Cuts:=ctab [(13,⟨s128_13,iter i_Fixed_L13 FUEL⟩)]
theorem c128:FnOk Tryz.prog 128 ⟨s128,i_Fixed⟩:=fn_of2 mix_ok rfl tyl_ok (fl:=q128) ⟨c58,trivial⟩ Tryz.func128 rfl rfl (C:=k128) (pts:=[(⟨s128_13,iter i_Fixed_L13 FUEL⟩,.loop (loopOf Tryz.f128 13))]) (by kernel_rfl) ⟨l128_13,trivial⟩ (fun _=>by kernel_rfl)
def s152:Sig:=⟨[.ro .str],[((.int .u32),true)],false⟩
abbrev q152:List (FuncId×V.Fn):=[]
def i_fourBytes (x:List UInt8):Option (Int):=x[Int.toNat 0]?.bind fun x_1=>x[Int.toNat 1]?.bind fun x_2=>x[Int.toNat 2]?.bind fun x_3=>x[Int.toNat 3]?.bind fun x=>some (u32.wrap (↑(BitVec.ofInt u32.bits (u32.wrap (↑(BitVec.ofInt u32.bits (u32.wrap (↑(BitVec.ofInt u32.bits (u32.wrap (u32.wrap (↑x_1.toNat:
 Int)*2^min (Int.toNat 24) u32.bits))|||BitVec.ofInt u32.bits (u32.wrap (u32.wrap (↑x_2.toNat:Int)*2^min (Int.toNat 16) u32.bits))).toNat:Int))|||BitVec.ofInt u32.bits (u32.wrap (u32.wrap (↑x_3.toNat:Int)*2^min (Int.toNat 8) u32.bits))).toNat:Int))|||BitVec.ofInt u32.bits (u32.wrap
 (↑x.toNat:Int))).toNat:Int))
theorem c152:FnOk Tryz.prog 152 ⟨s152,i_fourBytes⟩:=fn_of mix_ok rfl tyl_ok (fl:=q152) trivial Tryz.func152 rfl rfl cuts0 (fun _=>by kernel_rfl)
def s153:Sig:=⟨[.ro (.int .u32),.ro (.int .i64)],[((.int .u32),true)],false⟩
abbrev q153:List (FuncId×V.Fn):=[]
def g_math_bits_RotateLeft32 (x:Int×Int):Option (Int):=bif decide (0<=u64.wrap (32-u64.wrap (↑(BitVec.ofInt u64.bits (u64.wrap x.2)&&&BitVec.ofInt u64.bits 31).toNat:Int))) then some (u32.wrap (↑(BitVec.ofInt u32.bits (u32.wrap (x.1*2^min (u64.wrap (↑(BitVec.ofInt u64.bits
 (u64.wrap x.2)&&&BitVec.ofInt u64.bits 31).toNat:Int)).toNat u32.bits))|||BitVec.ofInt u32.bits (Int.fdiv x.1 (2^min (u64.wrap (32-u64.wrap (↑(BitVec.ofInt u64.bits (u64.wrap x.2)&&&BitVec.ofInt u64.bits 31).toNat:Int))).toNat u32.bits))).toNat:Int)) else none
theorem c153:FnOk Tryz.prog 153 ⟨s153,g_math_bits_RotateLeft32⟩:=fn_of mix_ok rfl tyl_ok (fl:=q153) trivial Tryz.func153 rfl rfl cuts0 (fun _=>by kernel_rfl)
def s129:Sig:=⟨[.ro t187,.ro .str],[(t187,true)],false⟩
abbrev q129:List (FuncId×V.Fn):=[(152,⟨s152,i_fourBytes⟩),(153,⟨s153,g_math_bits_RotateLeft32⟩)]
def s129_9:CutSig:=⟨176,[1,5,22],[.ro .str,.pio t204,.ro (.int .i64)],[(.ex 0,[],[])]⟩
def i_shaBlock_L9 (go:List UInt8×List Int×Int->Option (List Int)) (x:List UInt8×List Int×Int):Option (List Int):=bif decide (x.2.2<16) then bif decide (0<=i64.wrap (4*x.2.2))&&decide (i64.wrap (4*x.2.2)<=(↑(List.length x.1):Int)) then(i_fourBytes (List.drop (i64.wrap (4*x.2.2)).toNat x.1)).bind fun x_1=>bif decide (0<=x.2.2)
 &&decide (x.2.2<(↑64:Int)) then x.2.1[Int.toNat x.2.2]?.bind fun _=>go (x.1,List.set x.2.1 (Int.toNat x.2.2) x_1,i64.wrap (x.2.2+1)) else none else none else some x.2.1
theorem l129_9:CutOk Tryz.prog ⟨s129_9,iter i_shaBlock_L9 FUEL⟩ (.loop (loopOf Tryz.f129 9)):=loop_of mix_ok rfl tyl_ok (fl:=q129) ⟨c152,c153,trivial⟩ (C:=C0) rfl (pts:=[]) (by kernel_rfl) trivial (fun _ _=>by kernel_rfl)
def s129_19:CutSig:=⟨176,[5,7],[.pio t204,.ro (.int .i64)],[(.ex 2,[],[])]⟩
def i_shaBlock_L19 (go:List Int×Int->Option (List Int)) (x:List Int×Int):Option (List Int):=bif decide (x.2<64) then bif decide (0<=i64.wrap (x.2-15))&&decide (i64.wrap (x.2-15)<(↑64:Int)) then x.1[Int.toNat (i64.wrap (x.2-15))]?.bind fun x_1=>bif decide (0<=i64.wrap (x.2-2))&&decide (i64.wrap (x.2-2)<
 (↑64:Int)) then x.1[Int.toNat (i64.wrap (x.2-2))]?.bind fun x_2=>(g_math_bits_RotateLeft32 (x_1,-7)).bind fun x_3=>(g_math_bits_RotateLeft32 (x_1,-18)).bind fun x_4=>(g_math_bits_RotateLeft32 (x_2,-17)).bind fun x_5=>(g_math_bits_RotateLeft32 (x_2,-19)).bind fun x_6=>bif decide (0<=i64.wrap (x.2-16))&&decide (i64.wrap (x.2-16)<(↑64:Int)) then
 x.1[Int.toNat (i64.wrap (x.2-16))]?.bind fun x_7=>bif decide (0<=i64.wrap (x.2-7))&&decide (i64.wrap (x.2-7)<(↑64:Int)) then x.1[Int.toNat (i64.wrap (x.2-7))]?.bind fun x_8=>bif decide (0<=x.2)&&decide (x.2<(↑64:Int)) then x.1[Int.toNat x.2]?.bind fun _=>go (List.set x.1 (Int.toNat x.2) (u32.wrap (u32.wrap
 (u32.wrap (x_7+u32.wrap (↑(BitVec.ofInt u32.bits (u32.wrap (↑(BitVec.ofInt u32.bits x_3^^^BitVec.ofInt u32.bits x_4).toNat:Int))^^^BitVec.ofInt u32.bits (x_1.fdiv (2^min (Int.toNat 3) u32.bits))).toNat:Int))+x_8)+u32.wrap (↑(BitVec.ofInt u32.bits (u32.wrap (↑(BitVec.ofInt u32.bits x_5
 ^^^BitVec.ofInt u32.bits x_6).toNat:Int))^^^BitVec.ofInt u32.bits (x_2.fdiv (2^min (Int.toNat 10) u32.bits))).toNat:Int))),i64.wrap (x.2+1)) else none else none else none else none else none else some x.1
theorem l129_19:CutOk Tryz.prog ⟨s129_19,iter i_shaBlock_L19 FUEL⟩ (.loop (loopOf Tryz.f129 19)):=loop_of mix_ok rfl tyl_ok (fl:=q129) ⟨c152,c153,trivial⟩ (C:=C0) rfl (pts:=[]) (by kernel_rfl) trivial (fun _ _=>by kernel_rfl)
def s129_35:CutSig:=⟨176,[5,12,77],[.pin t204,.pio t187,.ro (.int .i64)],[(.ex 4,[],[])]⟩
def i_shaBlock_L35 (go:List Int×List Int×Int->Option (List Int)) (x:List Int×List Int×Int):Option (List Int):=bif decide (x.2.2<64) then x.2.1[0]?.bind fun x_1=>x.2.1[4]?.bind fun x_2=>(g_math_bits_RotateLeft32 (x_2,-6)).bind fun x_3=>(g_math_bits_RotateLeft32 (x_2,-11)).bind fun x_4=>(g_math_bits_RotateLeft32 (x_2,-25)).bind fun x_5=>x.2.1[5]?.bind
 fun x_6=>x.2.1[6]?.bind fun x_7=>x.2.1[7]?.bind fun x_8=>bif decide (0<=x.2.2) then gv0[Int.toNat x.2.2]?.bind fun x_9=>bif decide (0<=x.2.2) then x.1[Int.toNat x.2.2]?.bind fun x_10=>(g_math_bits_RotateLeft32 (x_1,-2)).bind fun x_11=>(g_math_bits_RotateLeft32 (x_1,-13)).bind fun x_12=>(g_math_bits_RotateLeft32 (x_1,-22)).bind fun x_13=>x.2.1[1]?.bind fun x_14=>
 x.2.1[2]?.bind fun x_15=>x.2.1[1]?.bind fun x_16=>x.2.1[2]?.bind fun x_17=>x.2.1[0]?.bind fun x_18=>x.2.1[1]?.bind fun x_19=>x.2.1[2]?.bind fun x_20=>x.2.1[3]?.bind fun x_21=>x.2.1[4]?.bind fun x_22=>x.2.1[5]?.bind fun x_23=>x.2.1[6]?.bind fun x_24=>go (x.1,[u32.wrap (u32.wrap (u32.wrap (u32.wrap (u32.wrap (u32.wrap (x_8+
 u32.wrap (↑(BitVec.ofInt u32.bits (u32.wrap (↑(BitVec.ofInt u32.bits x_3^^^BitVec.ofInt u32.bits x_4).toNat:Int))^^^BitVec.ofInt u32.bits x_5).toNat:Int))+u32.wrap (↑(BitVec.ofInt u32.bits (u32.wrap (↑(BitVec.ofInt u32.bits x_2&&&BitVec.ofInt u32.bits x_6).toNat:Int))^^^BitVec.ofInt
 u32.bits (u32.wrap (↑(BitVec.ofInt u32.bits (u32.wrap (↑(BitVec.ofInt u32.bits (if false=true then -1 else u32.max)^^^BitVec.ofInt u32.bits x_2).toNat:Int))&&&BitVec.ofInt u32.bits x_7).toNat:Int))).toNat:Int))+x_9)+x_10)+u32.wrap (↑(BitVec.ofInt u32.bits (u32.wrap (↑(BitVec.ofInt
 u32.bits x_11^^^BitVec.ofInt u32.bits x_12).toNat:Int))^^^BitVec.ofInt u32.bits x_13).toNat:Int))+u32.wrap (↑(BitVec.ofInt u32.bits (u32.wrap (↑(BitVec.ofInt u32.bits (u32.wrap (↑(BitVec.ofInt u32.bits x_1&&&BitVec.ofInt u32.bits x_14).toNat:Int))^^^BitVec.ofInt u32.bits (u32.wrap
 (↑(BitVec.ofInt u32.bits x_1&&&BitVec.ofInt u32.bits x_15).toNat:Int))).toNat:Int))^^^BitVec.ofInt u32.bits (u32.wrap (↑(BitVec.ofInt u32.bits x_16&&&BitVec.ofInt u32.bits x_17).toNat:Int))).toNat:Int)),x_18,x_19,x_20,u32.wrap (x_21+u32.wrap (u32.wrap (u32.wrap (u32.wrap (x_8+
 u32.wrap (↑(BitVec.ofInt u32.bits (u32.wrap (↑(BitVec.ofInt u32.bits x_3^^^BitVec.ofInt u32.bits x_4).toNat:Int))^^^BitVec.ofInt u32.bits x_5).toNat:Int))+u32.wrap (↑(BitVec.ofInt u32.bits (u32.wrap (↑(BitVec.ofInt u32.bits x_2&&&BitVec.ofInt u32.bits x_6).toNat:Int))^^^BitVec.ofInt
 u32.bits (u32.wrap (↑(BitVec.ofInt u32.bits (u32.wrap (↑(BitVec.ofInt u32.bits (if false=true then -1 else u32.max)^^^BitVec.ofInt u32.bits x_2).toNat:Int))&&&BitVec.ofInt u32.bits x_7).toNat:Int))).toNat:Int))+x_9)+x_10)),x_22,x_23,x_24],i64.wrap (x.2.2+1)) else none else none else some x.2.1
theorem l129_35:CutOk Tryz.prog ⟨s129_35,iter i_shaBlock_L35 FUEL⟩ (.loop (loopOf Tryz.f129 35)):=loop_of mix_ok rfl tyl_ok (fl:=q129) ⟨c152,c153,trivial⟩ (C:=C0) rfl (pts:=[]) (by kernel_rfl) trivial (fun _ _=>by kernel_rfl)
def s129_57:CutSig:=⟨176,[2,12,162],[.pio t187,.pin t187,.ro (.int .i64)],[(.ex 6,[],[])]⟩
def i_shaBlock_L57 (go:List Int×List Int×Int->Option (List Int)) (x:List Int×List Int×Int):Option (List Int):=bif decide (x.2.2<8) then bif decide (0<=x.2.2)&&decide (x.2.2<(↑8:Int)) then x.1[Int.toNat x.2.2]?.bind fun x_1=>bif decide (0<=x.2.2) then x.2.1[Int.toNat x.2.2]?.bind fun x_2=>bif decide (0<=x.2.2)&&decide (x.2.2<(↑8:Int)) then
 x.1[Int.toNat x.2.2]?.bind fun _=>go (List.set x.1 (Int.toNat x.2.2) (u32.wrap (x_1+x_2)),x.2.1,i64.wrap (x.2.2+1)) else none else none else none else some x.1
theorem l129_57:CutOk Tryz.prog ⟨s129_57,iter i_shaBlock_L57 FUEL⟩ (.loop (loopOf Tryz.f129 57)):=loop_of mix_ok rfl tyl_ok (fl:=q129) ⟨c152,c153,trivial⟩ (C:=C0) rfl (pts:=[]) (by kernel_rfl) trivial (fun _ _=>by kernel_rfl)
def i_shaBlock (x:List Int×List UInt8):Option (List Int):=(iter i_shaBlock_L9 FUEL (x.2,List.replicate 64 0,0)).bind fun x_1=>(iter i_shaBlock_L19 FUEL (x_1,16)).bind fun x_2=>(iter i_shaBlock_L35 FUEL (x_2,x.1,0)).bind fun x_3=>(iter i_shaBlock_L57 FUEL (x.1,x_3,0)).bind fun x=>some x
abbrev k129:Cuts:=ctab [(9,⟨s129_9,iter i_shaBlock_L9 FUEL⟩),(19,⟨s129_19,iter i_shaBlock_L19 FUEL⟩),(35,⟨s129_35,iter i_shaBlock_L35 FUEL⟩),(57,⟨s129_57,iter i_shaBlock_L57 FUEL⟩)]
theorem c129:FnOk Tryz.prog 129 ⟨s129,i_shaBlock⟩:=fn_of2 mix_ok rfl tyl_ok (fl:=q129) ⟨c152,c153,trivial⟩ Tryz.func129 rfl rfl (C:=k129) (pts:=[(⟨s129_9,iter i_shaBlock_L9 FUEL⟩,.loop (loopOf Tryz.f129 9)),(⟨s129_19,iter i_shaBlock_L19 FUEL⟩,.loop (loopOf Tryz.f129 19)),(⟨s129_35,iter i_shaBlock_L35 FUEL⟩,.loop (loopOf Tryz.f129 35)),(⟨s129_57,iter i_shaBlock_L57 FUEL⟩,.loop (loopOf Tryz.f129 57))]) (by kernel_rfl) ⟨l129_9,l129_19,l129_35,l129_57,trivial⟩ (fun _=>by kernel_rfl)
def s86:Sig:=⟨[.ro .str],[(.str,true)],false⟩
abbrev q86:List (FuncId×V.Fn):=[(128,⟨s128,i_Fixed⟩),(129,⟨s129,i_shaBlock⟩)]
def s86_15:CutSig:=⟨55,[5,6,7],[.ro .str,.pio t187,.ro (.int .i64)],[(.ex 0,[],[])]⟩
def i_Sha_L15 (go:List UInt8×List Int×Int->Option (List Int)) (x:List UInt8×List Int×Int):Option (List Int):=bif decide (x.2.2<(↑(List.length x.1):Int)) then bif decide (0<=x.2.2)&&decide (x.2.2<=i64.wrap (x.2.2+64))&&decide (0<=i64.wrap (x.2.2+64))&&decide (i64.wrap (x.2.2+64)<=(↑(List.length x.1):Int)) then(i_shaBlock
 (x.2.1,List.drop (Int.toNat x.2.2) (List.take (i64.wrap (x.2.2+64)).toNat x.1))).bind fun x_1=>go (x.1,x_1,i64.wrap (x.2.2+64)) else none else some x.2.1
theorem l86_15:CutOk Tryz.prog ⟨s86_15,iter i_Sha_L15 FUEL⟩ (.loop (loopOf Tryz.f86 15)):=loop_of mix_ok rfl tyl_ok (fl:=q86) ⟨c128,c129,trivial⟩ (C:=C0) rfl (pts:=[]) (by kernel_rfl) trivial (fun _ _=>by kernel_rfl)
def s86_25:CutSig:=⟨55,[8,44,45],[.ro .str,.ro t187,.ro (.int .i64)],[(.ex 2,[8],[(.str,true)])]⟩
def i_Sha_L25 (go:List UInt8×List Int×Int->Option (List UInt8)) (x:List UInt8×List Int×Int):Option (List UInt8):=bif decide (x.2.2<8) then bif decide (0<=x.2.2) then x.2.1[Int.toNat x.2.2]?.bind fun x_1=>(i_Fixed (i64.wrap x_1,4)).bind fun x_2=>bif decide (List.length x.1+x_2.length<=4611686018427387904) then go (x.1++x_2,x.2.1,
 i64.wrap (x.2.2+1)) else none else none else some x.1
theorem l86_25:CutOk Tryz.prog ⟨s86_25,iter i_Sha_L25 FUEL⟩ (.loop (loopOf Tryz.f86 25)):=loop_of mix_ok rfl tyl_ok (fl:=q86) ⟨c128,c129,trivial⟩ (C:=C0) rfl (pts:=[]) (by kernel_rfl) trivial (fun _ _=>by kernel_rfl)
def i_Sha (x:List UInt8):Option (List UInt8):=bif decide (x.length+(1:Nat)<=4611686018427387904) then bif decide (0<=i64.wrap ((i64.wrap (64-(i64.wrap ((↑x.length:Int)+9)).tmod 64)).tmod 64+1))&&decide (i64.wrap ((i64.wrap (64-(i64.wrap ((↑x.length:Int)+9)).tmod 64)).tmod 64+1)<=i64.wrap
 ((i64.wrap (64-(i64.wrap ((↑x.length:Int)+9)).tmod 64)).tmod 64+1))&&decide (i64.wrap ((i64.wrap (64-(i64.wrap ((↑x.length:Int)+9)).tmod 64)).tmod 64+1)<=(↑4294967296:Int)) then bif decide ((x++[(128:UInt8)]).length+(List.map (fun(b:Int)=>UInt8.ofNat b.toNat) (List.replicate (i64.wrap ((i64.wrap (64-
 (i64.wrap ((↑x.length:Int)+9)).tmod 64)).tmod 64+1)).toNat 0)).length<=4611686018427387904) then(i_Fixed (i64.wrap (8*(↑x.length:Int)),7)).bind fun x_1=>bif decide ((x++[(128:UInt8)]++List.map (fun(b:Int)=>UInt8.ofNat b.toNat) (List.replicate (i64.wrap ((i64.wrap (64-(i64.wrap ((↑x.length:Int)+9)).tmod 64)).tmod 64+
 1)).toNat 0)).length+x_1.length<=4611686018427387904) then(iter i_Sha_L15 FUEL (x++[(128:UInt8)]++List.map (fun(b:Int)=>UInt8.ofNat b.toNat) (List.replicate (i64.wrap ((i64.wrap (64-(i64.wrap ((↑x.length:Int)+9)).tmod 64)).tmod 64+1)).toNat 0)++x_1,[1779033703,3144134277,1013904242,2773480762,1359893119,2600822924,528734635,1541459225],
 0)).bind fun x=>(iter i_Sha_L25 FUEL ([],x,0)).bind fun x=>some x else none else none else none else none
abbrev k86:Cuts:=ctab [(15,⟨s86_15,iter i_Sha_L15 FUEL⟩),(25,⟨s86_25,iter i_Sha_L25 FUEL⟩)]
theorem c86:FnOk Tryz.prog 86 ⟨s86,i_Sha⟩:=fn_of2 mix_ok rfl tyl_ok (fl:=q86) ⟨c128,c129,trivial⟩ Tryz.func86 rfl rfl (C:=k86) (pts:=[(⟨s86_15,iter i_Sha_L15 FUEL⟩,.loop (loopOf Tryz.f86 15)),(⟨s86_25,iter i_Sha_L25 FUEL⟩,.loop (loopOf Tryz.f86 25))]) (by kernel_rfl) ⟨l86_15,l86_25,trivial⟩ (fun _=>by kernel_rfl)
def s131:Sig:=⟨[.ro t102,.pin .str],[(.bool,true)],false⟩
abbrev q131:List (FuncId×V.Fn):=[]
def i_Reg_has_1 (x:D3×List UInt8):Option (Bool):=some (decide (x.1.1=x.2))
theorem c131:FnOk Tryz.prog 131 ⟨s131,i_Reg_has_1⟩:=fn_of mix_ok rfl tyl_ok (fl:=q131) trivial Tryz.func131 rfl rfl cuts0 (fun _=>by kernel_rfl)
def s130:Sig:=⟨[.ro (.sl 102 t102),.clo 131 0 [(true,.str)]],[((.int .i64),true)],false⟩
abbrev q130:List (FuncId×V.Fn):=[(131,⟨s131,i_Reg_has_1⟩)]
def s130_7:CutSig:=⟨19,[0,1,7,8],[.ro (.sl 102 t102),.clo 131 0 [(true,.str)],.ro (.int .i64),.ro (.int .i64)],[(.ex 0,[],[]),(.ret,[4],[((.int .i64),true)])]⟩
def g_slices_IndexFunc_impl_Version_impl_Version_L7 (go:List D3×(List UInt8×Unit)×Int×Int->Option (Unit⊕Int)) (x:List D3×(List UInt8×Unit)×Int×Int):Option (Unit⊕Int):=bif decide (x.2.2.2<x.2.2.1) then bif decide (0<=x.2.2.2) then x.1[Int.toNat x.2.2.2]?.bind fun x_1=>(i_Reg_has_1 (x_1,
 x.2.1.1)).bind fun x_2=>bif x_2 then some (Sum.inr x.2.2.2) else go (x.1,(x.2.1.1,()),x.2.2.1,i64.wrap (x.2.2.2+1)) else none else some (Sum.inl ())
theorem l130_7:CutOk Tryz.prog ⟨s130_7,iter g_slices_IndexFunc_impl_Version_impl_Version_L7 FUEL⟩ (.loop (loopOf Tryz.f130 7)):=loop_of mix_ok rfl tyl_ok (fl:=q130) ⟨c131,trivial⟩ (C:=C0) rfl (pts:=[]) (by kernel_rfl) trivial (fun _ _=>by kernel_rfl)
def g_slices_IndexFunc_impl_Version_impl_Version (x:List D3×List UInt8×Unit):Option (Int):=(iter g_slices_IndexFunc_impl_Version_impl_Version_L7 FUEL (x.1,(x.2.1,()),(↑(List.length x.1):Int),0)).bind fun x=>sumK x (fun _=>some (-1)) fun z=>some z
abbrev k130:Cuts:=ctab [(7,⟨s130_7,iter g_slices_IndexFunc_impl_Version_impl_Version_L7 FUEL⟩)]
theorem c130:FnOk Tryz.prog 130 ⟨s130,g_slices_IndexFunc_impl_Version_impl_Version⟩:=fn_of2 mix_ok rfl tyl_ok (fl:=q130) ⟨c131,trivial⟩ Tryz.func130 rfl rfl (C:=k130) (pts:=[(⟨s130_7,iter g_slices_IndexFunc_impl_Version_impl_Version_L7 FUEL⟩,.loop (loopOf Tryz.f130 7))]) (by kernel_rfl) ⟨l130_7,trivial⟩ (fun _=>by kernel_rfl)
def s87:Sig:=⟨[.ro t34,.ro .str],[((.int .i64),true)],false⟩
abbrev q87:List (FuncId×V.Fn):=[(130,⟨s130,g_slices_IndexFunc_impl_Version_impl_Version⟩)]
def i_Reg_has (x:D1×List UInt8):Option (Int):=(g_slices_IndexFunc_impl_Version_impl_Version (x.1.1,x.2,())).bind fun x=>some (i64.wrap (1+x))
theorem c87:FnOk Tryz.prog 87 ⟨s87,i_Reg_has⟩:=fn_of mix_ok rfl tyl_ok (fl:=q87) ⟨c130,trivial⟩ Tryz.func87 rfl rfl cuts0 (fun _=>by kernel_rfl)
def s88:Sig:=⟨[.ro t34,.ro (.int .i64)],[(.bool,true)],false⟩
abbrev q88:List (FuncId×V.Fn):=[]
def s88_9:CutSig:=⟨23,[1,5,9,10,11],[.ro (.int .i64),.ro (.int .i64),.ro t23,.ro (.int .i64),.ro (.int .i64)],[(.ex 0,[5],[((.int .i64),true)])]⟩
def i_Reg_isActive_L9 (go:Int×Int×List Int×Int×Int->Option (Int)) (x:Int×Int×List Int×Int×Int):Option (Int):=bif decide (x.2.2.2.2<x.2.2.2.1) then bif decide (0<=x.2.2.2.2) then x.2.2.1[Int.toNat x.2.2.2.2]?.bind fun x_1=>bif decide (x_1=x.1) then go (x.1,i64.wrap (x.2.1+1),x.2.2.1,x.2.2.2.1,i64.wrap (x.2.2.2.2+1)) else go
 (x.1,x.2.1,x.2.2.1,x.2.2.2.1,i64.wrap (x.2.2.2.2+1)) else none else some x.2.1
theorem l88_9:CutOk Tryz.prog ⟨s88_9,iter i_Reg_isActive_L9 FUEL⟩ (.loop (loopOf Tryz.f88 9)):=loop_of mix_ok rfl tyl_ok (fl:=q88) trivial (C:=C0) rfl (pts:=[]) (by kernel_rfl) trivial (fun _ _=>by kernel_rfl)
def i_Reg_isActive (x:D1×Int):Option (Bool):=(iter i_Reg_isActive_L9 FUEL (x.2,0,x.1.2.1,(↑(List.length x.1.2.1):Int),0)).bind fun x=>some (decide (x=1))
abbrev k88:Cuts:=ctab [(9,⟨s88_9,iter i_Reg_isActive_L9 FUEL⟩)]
theorem c88:FnOk Tryz.prog 88 ⟨s88,i_Reg_isActive⟩:=fn_of2 mix_ok rfl tyl_ok (fl:=q88) trivial Tryz.func88 rfl rfl (C:=k88) (pts:=[(⟨s88_9,iter i_Reg_isActive_L9 FUEL⟩,.loop (loopOf Tryz.f88 9))]) (by kernel_rfl) ⟨l88_9,trivial⟩ (fun _=>by kernel_rfl)
def s89:Sig:=⟨[.ro t36],[(.bool,true)],false⟩
abbrev q89:List (FuncId×V.Fn):=[(58,⟨s58,i_within⟩)]
def i_AnswerOk (x:Int×Int×Int×List UInt8×Int×Int):Option (Bool):=(i_within (x.1,0,5)).bind fun x_1=>(bif x_1 then(i_within (x.2.1,0,6)).bind fun x=>some x else some false).bind fun x_2=>(bif x_2 then(i_within (x.2.2.1,0,4)).bind fun x=>some x else some false).bind fun x_3=>(bif x_3 then(bif !decide ((↑(List.length x.2.2.2.1):Int)=0) then some
 (decide ((↑(List.length x.2.2.2.1):Int)=32)) else some true).bind fun x=>some x else some false).bind fun x_4=>(bif x_4 then(i_within (x.2.2.2.2.1,0,250)).bind fun x=>some x else some false).bind fun x_5=>(bif x_5 then(i_within (x.2.2.2.2.2,0,100000)).bind fun x=>some x else some false).bind fun x=>some x
theorem c89:FnOk Tryz.prog 89 ⟨s89,i_AnswerOk⟩:=fn_of mix_ok rfl tyl_ok (fl:=q89) ⟨c58,trivial⟩ Tryz.func89 rfl rfl cuts0 (fun _=>by kernel_rfl)
def s41:Sig:=⟨[.ro t34],[(.bool,true)],false⟩
abbrev q41:List (FuncId×V.Fn):=[(58,⟨s58,i_within⟩),(85,⟨s85,i_ReadCanon⟩),(86,⟨s86,i_Sha⟩),(87,⟨s87,i_Reg_has⟩),(88,⟨s88,i_Reg_isActive⟩),(89,⟨s89,i_AnswerOk⟩)]
def s41_11:CutSig:=⟨148,[1,28,29,30],[.pin t34,.ro (.sl 102 t102),.ro (.int .i64),.ro (.int .i64)],[(.ex 0,[],[]),(.ret,[2],[(.bool,true)])]⟩
def i_RegOk_L11 (go:D1×List D3×Int×Int->Option (Unit⊕Bool)) (x:D1×List D3×Int×Int):
 Option (Unit⊕Bool):=bif decide (x.2.2.2<x.2.2.1) then bif decide (0<=x.2.2.2) then x.2.1[Int.toNat x.2.2.2]?.bind fun x_1=>(i_ReadCanon x_1.1).bind fun x_2=>(bif !!x_2.2 then(i_Sha x_1.1).bind fun x=>some !decide (x_1.2.1=x) else some true).bind fun x_3=>(bif !x_3 then(i_within (x_1.2.2,1,4)).bind fun x=>some !x else some true).bind fun x_4=>(bif !x_4 then(i_Reg_has
 (x.1,x_1.1)).bind fun x_5=>some !decide (x_5=i64.wrap (x.2.2.2+1)) else some true).bind fun x_5=>(bif !x_5 then(bif decide (x_1.2.2=2) then(i_Reg_isActive (x.1,i64.wrap (x.2.2.2+1))).bind fun x=>some !x else some false).bind fun x=>some x else some true).bind fun x_6=>bif x_6 then some (Sum.inr false) else go (x.1,x.2.1,x.2.2.1,i64.wrap (x.2.2.2+
 1)) else none else some (Sum.inl ())
theorem l41_11:CutOk Tryz.prog ⟨s41_11,iter i_RegOk_L11 FUEL⟩ (.loop (loopOf Tryz.f41 11)):=loop_of mix_ok rfl tyl_ok (fl:=q41) ⟨c58,c85,c86,c87,c88,c89,trivial⟩ (C:=C0) rfl (pts:=[]) (by kernel_rfl) trivial (fun _ _=>by kernel_rfl)
def s41_25:CutSig:=⟨148,[1,80,81,82],[.pin t34,.ro t23,.ro (.int .i64),.ro (.int .i64)],[(.ex 2,[],[]),(.ret,[2],[(.bool,true)])]⟩
def i_RegOk_L25 (go:D1×List Int×Int×Int->Option (Unit⊕Bool)) (x:D1×List Int×Int×Int):Option (Unit⊕Bool):=bif decide (x.2.2.2<x.2.2.1) then
 bif decide (0<=x.2.2.2) then x.2.1[Int.toNat x.2.2.2]?.bind fun x_1=>(i_within (x_1,0,(↑(List.length x.1.1):Int))).bind fun x_2=>(bif !!x_2 then(bif decide (0<x_1) then bif decide (0<=i64.wrap (x_1-1)) then x.1.1[(i64.wrap (x_1-1)).toNat]?.bind fun x=>some !decide (x.2.2=2) else none else some false).bind fun x=>some x else some true).bind fun x_3=>bif
 x_3 then some (Sum.inr false) else go (x.1,x.2.1,x.2.2.1,i64.wrap (x.2.2.2+1)) else none else some (Sum.inl ())
theorem l41_25:CutOk Tryz.prog ⟨s41_25,iter i_RegOk_L25 FUEL⟩ (.loop (loopOf Tryz.f41 25)):=loop_of mix_ok rfl tyl_ok (fl:=q41) ⟨c58,c85,c86,c87,c88,c89,trivial⟩ (C:=C0) rfl (pts:=[]) (by kernel_rfl) trivial (fun _ _=>by kernel_rfl)
def s41_37:CutSig:=⟨148,[1,108,109,110],[.pin t34,.ro (.sl 111 t111),.ro (.int .i64),.ro (.int .i64)],[(.ex 4,[],[]),(.ret,[2],[(.bool,true)])]⟩
def i_RegOk_L37 (go:D1×List D2×Int×Int->Option (Unit⊕Bool)) (x:D1×List (Int×Int×Int×Int×Int
 ×List UInt8×Int×Int)×Int×Int):Option (Unit⊕Bool):=bif decide (x.2.2.2<x.2.2.1) then bif decide (0<=x.2.2.2) then x.2.1[Int.toNat x.2.2.2]?.bind fun x_1=>(i_within (x_1.1,1,6)).bind fun x_2=>(bif !!x_2 then(bif decide (0<x.2.2.2) then bif decide (0<=i64.wrap (x.2.2.2-1)) then x.1.2.2[(i64.wrap (x.2.2.2-1)).toNat]?.bind fun x=>some (decide (x_1.1
 ≤ x.1)) else none else some false).bind fun x=>some x else some true).bind fun x_3=>(bif !x_3 then(i_within (x_1.2.1,1,1000000)).bind fun x=>some !x else some true).bind fun x_4=>(bif !x_4 then(i_AnswerOk x_1.2.2).bind fun x=>some !x else some true).bind fun x_5=>bif x_5 then some (Sum.inr false) else go (x.1,x.2.1,x.2.2.1,i64.wrap (x.2.2.2+1)) else none else some (Sum.inl ())
theorem l41_37:CutOk Tryz.prog ⟨s41_37,iter i_RegOk_L37 FUEL⟩ (.loop (loopOf Tryz.f41 37)):=loop_of mix_ok rfl tyl_ok (fl:=q41) ⟨c58,c85,c86,c87,c88,c89,trivial⟩ (C:=C0) rfl (pts:=[]) (by kernel_rfl) trivial (fun _ _=>by kernel_rfl)
def i_RegOk (x:List D3×List Int×List D2):Option (Bool):=(bif !decide (6<(↑(List.length x.1):Int)) then some !decide ((↑(List.length x.2.1):Int)=3) else some true).bind fun x_1=>(bif !x_1 then some (decide (6<(↑(List.length x.2.2):Int))) else some true).bind fun x_2=>bif x_2
 then some false else(iter i_RegOk_L11 FUEL (x,x.1,(↑(List.length x.1):Int),0)).bind fun x_3=>sumK x_3 (fun _=>(iter i_RegOk_L25 FUEL (x,x.2.1,(↑(List.length x.2.1):Int),0)).bind fun x_4=>sumK x_4 (fun _=>(iter i_RegOk_L37 FUEL (x,x.2.2,(↑(List.length x.2.2):Int),0)).bind fun x=>sumK x (fun _=>some true) fun z=>some z) fun z=>some z) fun z=>some z
abbrev k41:Cuts:=ctab [(11,⟨s41_11,iter i_RegOk_L11 FUEL⟩),(25,⟨s41_25,iter i_RegOk_L25 FUEL⟩),(37,⟨s41_37,iter i_RegOk_L37 FUEL⟩)]
theorem c41:FnOk Tryz.prog 41 ⟨s41,i_RegOk⟩:=fn_of2 mix_ok rfl tyl_ok (fl:=q41) ⟨c58,c85,c86,c87,c88,c89,trivial⟩ Tryz.func41 rfl rfl (C:=k41) (pts:=[(⟨s41_11,iter i_RegOk_L11 FUEL⟩,.loop (loopOf Tryz.f41 11)),(⟨s41_25,iter i_RegOk_L25 FUEL⟩,.loop (loopOf Tryz.f41 25)),(⟨s41_37,iter i_RegOk_L37 FUEL⟩,.loop (loopOf Tryz.f41 37))]) (by kernel_rfl) ⟨l41_11,l41_25,l41_37,trivial⟩ (fun _=>by kernel_rfl)
def s90:Sig:=⟨[.ro t23],[(t23,true)],false⟩
abbrev q90:List (FuncId×V.Fn):=[]
def i_copyInts (x:List Int):Option (List Int):=bif decide ((0:Nat)+x.length<=4294967296) then some ([]++x) else none
theorem c90:FnOk Tryz.prog 90 ⟨s90,i_copyInts⟩:=fn_of mix_ok rfl tyl_ok (fl:=q90) trivial Tryz.func90 rfl rfl cuts0 (fun _=>by kernel_rfl)
def s42:Sig:=⟨[.ro t34],[(t34,true)],false⟩
abbrev q42:List (FuncId×V.Fn):=[(90,⟨s90,i_copyInts⟩)]
def i_copyReg (x:List D3×List Int×List D2):Option D1:=bif decide (List.length x.1<=4294967296) then(i_copyInts x.2.1).bind fun x_1=>bif decide (List.length x.2.2<=4294967296) then
 some (x.1,x_1,x.2.2) else none else none
theorem c42:FnOk Tryz.prog 42 ⟨s42,i_copyReg⟩:=fn_of mix_ok rfl tyl_ok (fl:=q42) ⟨c90,trivial⟩ Tryz.func42 rfl rfl cuts0 (fun _=>by kernel_rfl)
def s91:Sig:=⟨[.ro t34,.ro (.int .i64)],[((.int .i64),true),(.bool,true)],false⟩
abbrev q91:List (FuncId×V.Fn):=[]
def s91_7:CutSig:=⟨29,[1,9,10,11],[.ro (.int .i64),.ro (.sl 111 t111),.ro (.int .i64),.ro (.int .i64)],[(.ex 0,[],[]),(.ret,[4,5],[((.int .i64),true),(.bool,true)])]⟩
def i_Reg_session_L7 (go:Int×List D2×Int×Int->Option (Unit⊕Int×Bool)) (x:Int×List D2×Int×Int):Option (Unit⊕Int×Bool):=bif decide (x.2.2.2<x.2.2.1) then bif decide (0<=x.2.2.2) then x.2.1[Int.toNat x.2.2.2]?.bind fun x_1=>bif decide (x.1<=x_1.1)
 then some (Sum.inr (x.2.2.2,decide (x_1.1=x.1))) else go (x.1,x.2.1,x.2.2.1,i64.wrap (x.2.2.2+1)) else none else some (Sum.inl ())
theorem l91_7:CutOk Tryz.prog ⟨s91_7,iter i_Reg_session_L7 FUEL⟩ (.loop (loopOf Tryz.f91 7)):=loop_of mix_ok rfl tyl_ok (fl:=q91) trivial (C:=C0) rfl (pts:=[]) (by kernel_rfl) trivial (fun _ _=>by kernel_rfl)
def i_Reg_session (x:D1×Int):Option (Int×Bool):=(iter i_Reg_session_L7 FUEL (x.2,x.1.2.2,(↑(List.length x.1.2.2):Int),0)).bind fun x_1=>sumK x_1 (fun _=>some ((↑(List.length x.1.2.2):Int),false)) fun z=>some (z.1,z.2)
abbrev k91:Cuts:=ctab [(7,⟨s91_7,iter i_Reg_session_L7 FUEL⟩)]
theorem c91:FnOk Tryz.prog 91 ⟨s91,i_Reg_session⟩:=fn_of2 mix_ok rfl tyl_ok (fl:=q91) trivial Tryz.func91 rfl rfl (C:=k91) (pts:=[(⟨s91_7,iter i_Reg_session_L7 FUEL⟩,.loop (loopOf Tryz.f91 7))]) (by kernel_rfl) ⟨l91_7,trivial⟩ (fun _=>by kernel_rfl)
def s92:Sig:=⟨[.ro t34,.ro (.int .i64)],[((.int .i64),true)],false⟩
abbrev q92:List (FuncId×V.Fn):=[(91,⟨s91,i_Reg_session⟩)]
def i_Reg_last (x:D1×Int):Option (Int):=(i_Reg_session (x.1,x.2)).bind fun x_1=>bif x_1.2 then bif decide (0<=x_1.1) then x.1.2.2[Int.toNat x_1.1]?.bind fun x=>some x.2.1 else none else some 0
theorem c92:FnOk Tryz.prog 92 ⟨s92,i_Reg_last⟩:=fn_of mix_ok rfl tyl_ok (fl:=q92) ⟨c91,trivial⟩ Tryz.func92 rfl rfl cuts0 (fun _=>by kernel_rfl)
def s116:Sig:=⟨[.ro (.int .i64)],[(.bool,true)],false⟩
abbrev q116:List (FuncId×V.Fn):=[(58,⟨s58,i_within⟩)]
def i_isChannel (x:Int):Option (Bool):=(i_within (x,0,2)).bind fun x=>some x
theorem c116:FnOk Tryz.prog 116 ⟨s116,i_isChannel⟩:=fn_of mix_ok rfl tyl_ok (fl:=q116) ⟨c58,trivial⟩ Tryz.func116 rfl rfl cuts0 (fun _=>by kernel_rfl)
def s154:Sig:=⟨[.ro (.int .i64)],[(.bool,true)],false⟩
abbrev q154:List (FuncId×V.Fn):=[(58,⟨s58,i_within⟩)]
def i_isVersion (x:Int):Option (Bool):=(i_within (x,1,6)).bind fun x=>some x
theorem c154:FnOk Tryz.prog 154 ⟨s154,i_isVersion⟩:=fn_of mix_ok rfl tyl_ok (fl:=q154) ⟨c58,trivial⟩ Tryz.func154 rfl rfl cuts0 (fun _=>by kernel_rfl)
def s132:Sig:=⟨[.ro t40],[(.bool,true)],false⟩
abbrev q132:List (FuncId×V.Fn):=[(116,⟨s116,i_isChannel⟩),(154,⟨s154,i_isVersion⟩)]
def i_OpOk (x:Int×Int×Int×List UInt8):Option (Bool):=(bif !decide (x.1=1) then some !decide (x.2.2.2=[]) else some false).bind fun x_1=>bif x_1 then some false else bif decide (x.1=1) then(bif decide (x.2.1=0) then some (decide (x.2.2.1=0)) else some false).bind fun x_2=>(bif x_2 then some (decide ((↑(List.length x.2.2.2):Int)<=250)) else some
 false).bind fun x=>some x else bif decide (x.1=2) then(i_isVersion x.2.2.1).bind fun x_2=>(bif x_2 then(i_isChannel x.2.1).bind fun x=>some x else some false).bind fun x=>some x else bif decide (x.1=3) then bif decide (x.1=3) then(i_isVersion x.2.2.1).bind fun x_2=>(bif x_2 then some (decide (x.2.1=0)) else some false).bind fun x=>some x else bif decide (x.1=5) then
 (i_isVersion x.2.2.1).bind fun x_2=>(bif x_2 then some (decide (x.2.1=0)) else some false).bind fun x_3=>(bif !x_3 then(bif decide (x.2.2.1=0) then(i_isChannel x.2.1).bind fun x=>some x else some false).bind fun x=>some x else some true).bind fun x=>some x else some false else bif decide (x.1=4) then(i_isVersion x.2.2.1).bind fun x_2=>(bif x_2 then some (decide (x.2.1=0))
 else some false).bind fun x=>some x else bif decide (x.1=5) then(i_isVersion x.2.2.1).bind fun x_2=>(bif x_2 then some (decide (x.2.1=0)) else some false).bind fun x_3=>(bif !x_3 then(bif decide (x.2.2.1=0) then(i_isChannel x.2.1).bind fun x=>some x else some false).bind fun x=>some x else some true).bind fun x=>some x else some false
theorem c132:FnOk Tryz.prog 132 ⟨s132,i_OpOk⟩:=fn_of mix_ok rfl tyl_ok (fl:=q132) ⟨c116,c154,trivial⟩ Tryz.func132 rfl rfl cuts0 (fun _=>by kernel_rfl)
def s135:Sig:=⟨[.ro t34,.ro (.int .i64),.ro (.int .i64)],[(t36,true)],false⟩
abbrev q135:List (FuncId×V.Fn):=[]
def i_Reg_told (x:D1×Int×Int):Option D4:=bif decide (0<=i64.wrap (x.2.1-1)) then x.1.1[(i64.wrap (x.2.1-1)).toNat]?.bind fun x_1=>some (x.2.2,x.2.1,x_1.2.2,x_1.2.1,(↑(List.length x_1.1):Int),0) else none
theorem c135:FnOk Tryz.prog 135 ⟨s135,i_Reg_told⟩:=fn_of mix_ok rfl tyl_ok (fl:=q135) trivial Tryz.func135 rfl rfl cuts0 (fun _=>by kernel_rfl)
def s133:Sig:=⟨[.pio t34,.ro .str],[(t36,true)],false⟩
abbrev q133:List (FuncId×V.Fn):=[(85,⟨s85,i_ReadCanon⟩),(86,⟨s86,i_Sha⟩),(87,⟨s87,i_Reg_has⟩),(135,⟨s135,i_Reg_told⟩)]
def i_Reg_publish (x:D1×List UInt8):Option D10:=(i_ReadCanon x.2).bind fun x_1=>bif !x_1.2 then some ((1,0,0,
 [],0,0),x.1) else(i_Reg_has (x.1,x.2)).bind fun x_2=>bif decide (0<x_2) then(i_Reg_told (x.1,x_2,2)).bind fun x_3=>some (x_3,x.1) else bif decide ((↑(List.length x.1.1):Int)=6) then some ((3,0,0,[],0,0),x.1) else(i_Sha x.2).bind fun x_3=>bif decide (List.length x.1.1+(1:Nat)<=4294967296) then(i_Reg_told ((x.1.1++[(x.2,x_3,1)],x.1.2),(↑(x.1.1++[(x.2,x_3,
 1)]).length:Int),0)).bind fun x_4=>some (x_4,x.1.1++[(x.2,x_3,1)],x.1.2) else none
theorem c133:FnOk Tryz.prog 133 ⟨s133,i_Reg_publish⟩:=fn_of mix_ok rfl tyl_ok (fl:=q133) ⟨c85,c86,c87,c135,trivial⟩ Tryz.func133 rfl rfl cuts0 (fun _=>by kernel_rfl)
def s155:Sig:=⟨[.ro t23,.ro (.int .i64)],[((.int .i64),true)],false⟩
abbrev q155:List (FuncId×V.Fn):=[]
def s155_7:CutSig:=⟨19,[0,1,7,8],[.ro t23,.ro (.int .i64),.ro (.int .i64),.ro (.int .i64)],[(.ex 0,[],[]),(.ret,[4],[((.int .i64),true)])]⟩
def g_slices_Index_int_int_L7 (go:List Int×Int×Int×Int->Option (Unit⊕Int)) (x:List Int×Int×Int×Int):Option (Unit⊕Int):=bif decide (x.2.2.2<x.2.2.1) then bif decide (0<=x.2.2.2) then x.1[Int.toNat x.2.2.2]?.bind fun x_1=>bif decide (x.2.1=x_1) then some (Sum.inr x.2.2.2) else go (x.1,x.2.1,x.2.2.1,i64.wrap (x.2.2.2+1)) else none else some (Sum.inl ())
theorem l155_7:CutOk Tryz.prog ⟨s155_7,iter g_slices_Index_int_int_L7 FUEL⟩ (.loop (loopOf Tryz.f155 7)):=loop_of mix_ok rfl tyl_ok (fl:=q155) trivial (C:=C0) rfl (pts:=[]) (by kernel_rfl) trivial (fun _ _=>by kernel_rfl)
def g_slices_Index_int_int (x:List Int×Int):Option (Int):=(iter g_slices_Index_int_int_L7 FUEL (x.1,x.2,(↑(List.length x.1):Int),0)).bind fun x=>sumK x (fun _=>some (-1)) fun z=>some z
abbrev k155:Cuts:=ctab [(7,⟨s155_7,iter g_slices_Index_int_int_L7 FUEL⟩)]
theorem c155:FnOk Tryz.prog 155 ⟨s155,g_slices_Index_int_int⟩:=fn_of2 mix_ok rfl tyl_ok (fl:=q155) trivial Tryz.func155 rfl rfl (C:=k155) (pts:=[(⟨s155_7,iter g_slices_Index_int_int_L7 FUEL⟩,.loop (loopOf Tryz.f155 7))]) (by kernel_rfl) ⟨l155_7,trivial⟩ (fun _=>by kernel_rfl)
def s134:Sig:=⟨[.pio t34,.ro t40],[(t36,true)],false⟩
abbrev q134:List (FuncId×V.Fn):=[(135,⟨s135,i_Reg_told⟩),(155,⟨s155,g_slices_Index_int_int⟩)]
def s134_18:CutSig:=⟨118,[6,7,32,33],[.pin t102,.ro .bool,.ro (.int .i64),.ro .bool],[(.nor,[7],[(.bool,true)])]⟩
def i_Reg_turn_L18 (x:D3×Bool×Int×Bool):Option (Bool):=bif x.2.2.2 then some (decide (x.1.2.2=2)) else bif decide (x.2.2.1=4) then(bif !decide (x.1.2.2=1) then some (decide (x.1.2.2=3)) else some true).bind fun x=>some x else some x.2.1
theorem l134_18:CutOk Tryz.prog ⟨s134_18,i_Reg_turn_L18⟩ (condOf Tryz.f134 18):=cond_of mix_ok rfl tyl_ok (fl:=q134) ⟨c135,c155,trivial⟩ (C:=C0) rfl (pts:=[]) (by kernel_rfl) trivial (fun _=>by kernel_rfl)
def i_Reg_turn (x:D1×Int×Int×Int×List UInt8):Option D10:=bif decide ((↑(List.length x.1.1):Int)<
 x.2.2.2.1) then some ((4,0,0,[],0,0),x.1) else bif decide (0<=i64.wrap (x.2.2.2.1-1)) then x.1.1[(i64.wrap (x.2.2.2.1-1)).toNat]?.bind fun _=>x.1.1[Int.toNat (i64.wrap (x.2.2.2.1-1))]?.bind fun x_2=>x.1.1[Int.toNat (i64.wrap (x.2.2.2.1-1))]?.bind fun x_3=>(i_Reg_turn_L18 (x_3,decide (x_2.2.2=1),x.2.1,decide (x.2.1=3))).bind fun x_4=>
 bif !x_4 then(i_Reg_told (x.1,x.2.2.2.1,5)).bind fun x_5=>some (x_5,x.1) else bif decide (x.2.1=2) then bif decide (0<=x.2.2.1) then x.1.2.1[Int.toNat x.2.2.1]?.bind fun _=>x.1.2.1[Int.toNat x.2.2.1]?.bind fun x_6=>bif decide (0<x_6) then bif decide (0<=i64.wrap (x_6-1)) then x.1.1[(i64.wrap (x_6-1)).toNat]?.bind fun _=>x.1.1[Int.toNat (i64.wrap
 (x_6-1))]?.bind fun x_8=>bif decide (0<=x.2.2.1) then x.1.2.1[Int.toNat x.2.2.1]?.bind fun _=>x.1.2.1[Int.toNat x.2.2.1]?.bind fun _=>(List.set x.1.1 (Int.toNat (i64.wrap (x_6-1))) (x_8.1,x_8.2.1,3))[Int.toNat (i64.wrap (x.2.2.2.1-1))]?.bind fun x_11=>(i_Reg_told (((List.set x.1.1 (Int.toNat (i64.wrap (x_6-1))) (x_8.1,x_8.2.1,3)).set (Int.toNat
 (i64.wrap (x.2.2.2.1-1))) (x_11.1,x_11.2.1,2),List.set x.1.2.1 (Int.toNat x.2.2.1) x.2.2.2.1,x.1.2.2),x.2.2.2.1,0)).bind fun x_12=>some (x_12,(List.set x.1.1 (Int.toNat (i64.wrap (x_6-1))) (x_8.1,x_8.2.1,3)).set (Int.toNat (i64.wrap (x.2.2.2.1-1))) (x_11.1,x_11.2.1,2),List.set x.1.2.1 (Int.toNat x.2.2.1) x.2.2.2.1,x.1.2.2) else none else none else bif
 decide (0<=x.2.2.1) then x.1.2.1[Int.toNat x.2.2.1]?.bind fun _=>x.1.2.1[Int.toNat x.2.2.1]?.bind fun _=>x.1.1[Int.toNat (i64.wrap (x.2.2.2.1-1))]?.bind fun x_9=>(i_Reg_told ((List.set x.1.1 (Int.toNat (i64.wrap (x.2.2.2.1-1))) (x_9.1,x_9.2.1,2),List.set x.1.2.1 (Int.toNat x.2.2.1) x.2.2.2.1,x.1.2.2),x.2.2.2.1,0)).bind fun x_10=>some (x_10,List.set x.1.1
 (Int.toNat (i64.wrap (x.2.2.2.1-1))) (x_9.1,x_9.2.1,2),List.set x.1.2.1 (Int.toNat x.2.2.1) x.2.2.2.1,x.1.2.2) else none else none else bif decide (x.2.1=3) then(g_slices_Index_int_int (x.1.2.1,x.2.2.2.1)).bind fun x_5=>bif decide (0<=x_5) then x.1.2.1[x_5.toNat]?.bind fun _=>x.1.2.1[Int.toNat x_5]?.bind fun _=>x.1.1[Int.toNat (i64.wrap (x.2.2.2.1-
 1))]?.bind fun x_8=>(i_Reg_told ((List.set x.1.1 (Int.toNat (i64.wrap (x.2.2.2.1-1))) (x_8.1,x_8.2.1,3),List.set x.1.2.1 (Int.toNat x_5) 0,x.1.2.2),x.2.2.2.1,0)).bind fun x_9=>some (x_9,List.set x.1.1 (Int.toNat (i64.wrap (x.2.2.2.1-1))) (x_8.1,x_8.2.1,3),List.set x.1.2.1 (Int.toNat x_5) 0,x.1.2.2) else none else x.1.1[Int.toNat (i64.wrap (x.2.2.2.1-
 1))]?.bind fun x_5=>(i_Reg_told ((List.set x.1.1 (Int.toNat (i64.wrap (x.2.2.2.1-1))) (x_5.1,x_5.2.1,4),x.1.2),x.2.2.2.1,0)).bind fun x_6=>some (x_6,List.set x.1.1 (Int.toNat (i64.wrap (x.2.2.2.1-1))) (x_5.1,x_5.2.1,4),x.1.2) else none
abbrev k134:Cuts:=ctab [(18,⟨s134_18,i_Reg_turn_L18⟩)]
theorem c134:FnOk Tryz.prog 134 ⟨s134,i_Reg_turn⟩:=fn_of2 mix_ok rfl tyl_ok (fl:=q134) ⟨c135,c155,trivial⟩ Tryz.func134 rfl rfl (C:=k134) (pts:=[(⟨s134_18,i_Reg_turn_L18⟩,condOf Tryz.f134 18)]) (by kernel_rfl) ⟨l134_18,trivial⟩ (fun _=>by kernel_rfl)
def s93:Sig:=⟨[.pio t34,.ro t40],[(t36,true)],false⟩
abbrev q93:List (FuncId×V.Fn):=[(58,⟨s58,i_within⟩),(132,⟨s132,i_OpOk⟩),(133,⟨s133,i_Reg_publish⟩),(134,⟨s134,i_Reg_turn⟩),(135,⟨s135,i_Reg_told⟩)]
def i_Reg_do (x:D1×Int×Int×Int×List UInt8):Option D10:=(i_OpOk x.2).bind fun x_1=>bif !x_1 then some ((1,
 0,0,[],0,0),x.1) else bif decide (x.2.1=1) then(i_Reg_publish (x.1,x.2.2.2.2)).bind fun x=>some (x.1,x.2) else bif decide (x.2.1=2) then bif decide (x.2.1=2) then(i_Reg_turn (x.1,x.2)).bind fun x=>some (x.1,x.2) else bif decide (x.2.2.2.1=0) then bif decide (0<=x.2.2.1) then x.1.2.1[Int.toNat x.2.2.1]?.bind fun _=>x.1.2.1[Int.toNat x.2.2.1]?.bind fun x_3=>(i_within
 (x_3,1,(↑(List.length x.1.1):Int))).bind fun x_4=>bif !x_4 then some ((4,0,0,[],0,0),x.1) else(i_Reg_told (x.1,x_3,0)).bind fun x_5=>some (x_5,x.1) else none else(i_within (x.2.2.2.1,1,(↑(List.length x.1.1):Int))).bind fun x_2=>bif !x_2 then some ((4,0,0,[],0,0),x.1) else(i_Reg_told (x.1,x.2.2.2.1,0)).bind fun x_3=>some (x_3,x.1) else bif decide (x.2.1=3)
 then bif decide (x.2.1=3) then(i_Reg_turn (x.1,x.2)).bind fun x=>some (x.1,x.2) else bif decide (x.2.2.2.1=0) then bif decide (0<=x.2.2.1) then x.1.2.1[Int.toNat x.2.2.1]?.bind fun _=>x.1.2.1[Int.toNat x.2.2.1]?.bind fun x_3=>(i_within (x_3,1,(↑(List.length x.1.1):Int))).bind fun x_4=>bif !x_4 then some ((4,0,0,[],0,0),x.1) else(i_Reg_told (x.1,x_3,0)).bind fun x_5
 =>some (x_5,x.1) else none else(i_within (x.2.2.2.1,1,(↑(List.length x.1.1):Int))).bind fun x_2=>bif !x_2 then some ((4,0,0,[],0,0),x.1) else(i_Reg_told (x.1,x.2.2.2.1,0)).bind fun x_3=>some (x_3,x.1) else bif decide (x.2.1=4) then(i_Reg_turn (x.1,x.2)).bind fun x=>some (x.1,x.2) else bif decide (x.2.2.2.1=0) then bif decide (0<=x.2.2.1) then x.1.2.1[Int.toNat
 x.2.2.1]?.bind fun _=>x.1.2.1[Int.toNat x.2.2.1]?.bind fun x_3=>(i_within (x_3,1,(↑(List.length x.1.1):Int))).bind fun x_4=>bif !x_4 then some ((4,0,0,[],0,0),x.1) else(i_Reg_told (x.1,x_3,0)).bind fun x_5=>some (x_5,x.1) else none else(i_within (x.2.2.2.1,1,(↑(List.length x.1.1):Int))).bind fun x_2=>bif !x_2 then some ((4,0,0,[],0,0),x.1) else(i_Reg_told
 (x.1,x.2.2.2.1,0)).bind fun x_3=>some (x_3,x.1)
theorem c93:FnOk Tryz.prog 93 ⟨s93,i_Reg_do⟩:=fn_of mix_ok rfl tyl_ok (fl:=q93) ⟨c58,c132,c133,c134,c135,trivial⟩ Tryz.func93 rfl rfl cuts0 (fun _=>by kernel_rfl)
def s94:Sig:=⟨[.own (.sl 111 t111),.ro (.int .i64),.ro (.sl 111 t111)],[((.sl 111 t111),true)],false⟩
def g_slices_Insert_impl_Session_impl_Session (x:List SesD×Int×List SesD):Option (List SesD):=insF x
theorem c94:FnOk Tryz.prog 94 ⟨s94,g_slices_Insert_impl_Session_impl_Session⟩:=ins_ok
def s43:Sig:=⟨[.pio t34,.ro (.int .i64),.ro (.int .i64),.ro t40,.ro (.int .i64)],[(t36,true),(.bool,true)],false⟩
abbrev q43:List (FuncId×V.Fn):=[(58,⟨s58,i_within⟩),(91,⟨s91,i_Reg_session⟩),(92,⟨s92,i_Reg_last⟩),(93,⟨s93,i_Reg_do⟩),(94,⟨s94,g_slices_Insert_impl_Session_impl_Session⟩)]
def i_Reg_serve (x:D1×Int×Int×D7×Int):Option (D4×Bool×List D3×List Int×List D2):=(i_within (x.2.1,1,
 6)).bind fun x_1=>(bif !!x_1 then(i_within (x.2.2.1,1,1000000)).bind fun x=>some !x else some true).bind fun x_2=>(bif !x_2 then(i_within (x.2.2.2.2,1,100000)).bind fun x=>some !x else some true).bind fun x_3=>bif x_3 then some ((0,0,0,[],0,0),false,x.1) else(i_Reg_session (x.1,x.2.1)).bind fun x_4=>(i_Reg_last (x.1,x.2.1)).bind fun x_5=>bif decide (x.2.2.1=x_5)
 then bif decide (0<=x_4.1) then x.1.2.2[Int.toNat x_4.1]?.bind fun _=>x.1.2.2[Int.toNat x_4.1]?.bind fun x_7=>some (x_7.2.2,false,x.1) else none else bif !decide (x.2.2.1=i64.wrap (x_5+1)) then some ((0,0,0,[],0,0),false,x.1) else(i_Reg_do (x.1,x.2.2.2.1)).bind fun x_6=>bif x_4.2 then bif decide (0<=x_4.1) then x_6.2.2.2[Int.toNat x_4.1]?.bind fun _=>
 x_6.2.2.2[Int.toNat x_4.1]?.bind fun _=>some ((x_6.1.1,x_6.1.2.1,x_6.1.2.2.1,x_6.1.2.2.2.1,x_6.1.2.2.2.2.1,x.2.2.2.2),true,x_6.2.1,x_6.2.2.1,List.set x_6.2.2.2 (Int.toNat x_4.1) (x.2.1,x.2.2.1,x_6.1.1,x_6.1.2.1,x_6.1.2.2.1,x_6.1.2.2.2.1,x_6.1.2.2.2.2.1,x.2.2.2.2)) else none else(g_slices_Insert_impl_Session_impl_Session (x_6.2.2.2,x_4.1,[(x.2.1,x.2.2.1,x_6.1.1,
 x_6.1.2.1,x_6.1.2.2.1,x_6.1.2.2.2.1,x_6.1.2.2.2.2.1,x.2.2.2.2)])).bind fun x_7=>some ((x_6.1.1,x_6.1.2.1,x_6.1.2.2.1,x_6.1.2.2.2.1,x_6.1.2.2.2.2.1,x.2.2.2.2),true,x_6.2.1,x_6.2.2.1,x_7)
theorem c43:FnOk Tryz.prog 43 ⟨s43,i_Reg_serve⟩:=fn_of mix_ok rfl tyl_ok (fl:=q43) ⟨c58,c91,c92,c93,c94,trivial⟩ Tryz.func43 rfl rfl cuts0 (fun _=>by kernel_rfl)
def s11:Sig:=⟨[.ro t34,.ro (.int .i64),.ro (.int .i64),.ro t40,.ro (.int .i64)],[(t34,true),(t36,true),(.bool,true)],false⟩
abbrev q11:List (FuncId×V.Fn):=[(41,⟨s41,i_RegOk⟩),(42,⟨s42,i_copyReg⟩),(43,⟨s43,i_Reg_serve⟩)]
def i_Serve (x:D1×Int×Int×D7×Int):Option (D1×D4×Bool):=(i_RegOk x.1).bind fun x_1
 =>bif !x_1 then some (([],[],[]),(0,0,0,[],0,0),false) else(i_copyReg x.1).bind fun x_2=>(i_Reg_serve (x_2,x.2.1,x.2.2.1,x.2.2.2.1,x.2.2.2.2)).bind fun x=>some (x.2.2,x.1,x.2.1)
theorem c11:FnOk Tryz.prog 11 ⟨s11,i_Serve⟩:=fn_of mix_ok rfl tyl_ok (fl:=q11) ⟨c41,c42,c43,trivial⟩ Tryz.func11 rfl rfl cuts0 (fun _=>by kernel_rfl)
def s95:Sig:=⟨[.ro t102,.ro t102],[(.bool,true)],false⟩
abbrev q95:List (FuncId×V.Fn):=[]
def w_eqVersion (x:D3×List UInt8×List UInt8×Int):Option (Bool):=bif !decide (x.1.1=x.2.1) then some false else bif !decide (x.1.2.1=x.2.2.1) then some false else bif !decide (x.1.2.2=x.2.2.2) then some false else some true
theorem c95:FnOk Tryz.prog 95 ⟨s95,w_eqVersion⟩:=fn_of mix_ok rfl tyl_ok (fl:=q95) trivial Tryz.func95 rfl rfl cuts0 (fun _=>by kernel_rfl)
def s44:Sig:=⟨[.ro (.sl 102 t102),.ro (.sl 102 t102)],[(.bool,true)],false⟩
abbrev q44:List (FuncId×V.Fn):=[(95,⟨s95,w_eqVersion⟩)]
def s44_11:CutSig:=⟨27,[0,1,5],[.ro (.sl 102 t102),.ro (.sl 102 t102),.ro (.int .i64)],[(.ex 0,[],[]),(.ret,[4],[(.bool,true)])]⟩
def w_eqVersionS_L11 (go:List D3×List D3×Int->Option (Unit⊕Bool)) (x:List D3×List D3×Int):Option (Unit⊕Bool):=bif decide (x.2.2<(↑(List.length x.1):Int)) then bif decide (0<=x.2.2) then x.1[Int.toNat x.2.2]?.bind fun x_1=>bif decide (0 ≤
 x.2.2) then x.2.1[Int.toNat x.2.2]?.bind fun x_2=>(w_eqVersion (x_1,x_2)).bind fun x_3=>bif !x_3 then some (Sum.inr false) else go (x.1,x.2.1,i64.wrap (x.2.2+1)) else none else none else some (Sum.inl ())
theorem l44_11:CutOk Tryz.prog ⟨s44_11,iter w_eqVersionS_L11 FUEL⟩ (.loop (loopOf Tryz.f44 11)):=loop_of mix_ok rfl tyl_ok (fl:=q44) ⟨c95,trivial⟩ (C:=C0) rfl (pts:=[]) (by kernel_rfl) trivial (fun _ _=>by kernel_rfl)
def w_eqVersionS (x:List D3×List D3):Option (Bool):=bif !decide ((↑(List.length x.1):Int)=(↑(List.length x.2):Int)) then some false else(iter w_eqVersionS_L11 FUEL (x.1,x.2,0)).bind fun x=>sumK x (fun _=>some true) fun z=>some z
abbrev k44:Cuts:=ctab [(11,⟨s44_11,iter w_eqVersionS_L11 FUEL⟩)]
theorem c44:FnOk Tryz.prog 44 ⟨s44,w_eqVersionS⟩:=fn_of2 mix_ok rfl tyl_ok (fl:=q44) ⟨c95,trivial⟩ Tryz.func44 rfl rfl (C:=k44) (pts:=[(⟨s44_11,iter w_eqVersionS_L11 FUEL⟩,.loop (loopOf Tryz.f44 11))]) (by kernel_rfl) ⟨l44_11,trivial⟩ (fun _=>by kernel_rfl)
def s45:Sig:=⟨[.ro t23,.ro t23],[(.bool,true)],false⟩
abbrev q45:List (FuncId×V.Fn):=[]
def s45_11:CutSig:=⟨26,[0,1,5],[.ro t23,.ro t23,.ro (.int .i64)],[(.ex 0,[],[]),(.ret,[4],[(.bool,true)])]⟩
def w_eqIntS_L11 (go:List Int×List Int×Int->Option (Unit⊕Bool)) (x:List Int×List Int×Int):Option (Unit⊕Bool):=bif decide (x.2.2<(↑(List.length x.1):Int)) then bif decide (0<=x.2.2) then x.1[Int.toNat x.2.2]?.bind fun x_1=>bif decide (0<=x.2.2) then x.2.1[Int.toNat x.2.2]?.bind fun x_2=>bif !decide (x_1=x_2) then some (Sum.inr false) else go (x.1,
 x.2.1,i64.wrap (x.2.2+1)) else none else none else some (Sum.inl ())
theorem l45_11:CutOk Tryz.prog ⟨s45_11,iter w_eqIntS_L11 FUEL⟩ (.loop (loopOf Tryz.f45 11)):=loop_of mix_ok rfl tyl_ok (fl:=q45) trivial (C:=C0) rfl (pts:=[]) (by kernel_rfl) trivial (fun _ _=>by kernel_rfl)
def w_eqIntS (x:List Int×List Int):Option (Bool):=bif !decide ((↑(List.length x.1):Int)=(↑(List.length x.2):Int)) then some false else(iter w_eqIntS_L11 FUEL (x.1,x.2,0)).bind fun x=>sumK x (fun _=>some true) fun z=>some z
abbrev k45:Cuts:=ctab [(11,⟨s45_11,iter w_eqIntS_L11 FUEL⟩)]
theorem c45:FnOk Tryz.prog 45 ⟨s45,w_eqIntS⟩:=fn_of2 mix_ok rfl tyl_ok (fl:=q45) trivial Tryz.func45 rfl rfl (C:=k45) (pts:=[(⟨s45_11,iter w_eqIntS_L11 FUEL⟩,.loop (loopOf Tryz.f45 11))]) (by kernel_rfl) ⟨l45_11,trivial⟩ (fun _=>by kernel_rfl)
def s13:Sig:=⟨[.ro t36,.ro t36],[(.bool,true)],false⟩
abbrev q13:List (FuncId×V.Fn):=[]
def w_eqAnswer (x:D4×Int×Int×Int×List UInt8×Int×Int):Option (Bool):=bif !decide (x.1.1=x.2.1) then some false else bif !decide (x.1.2.1=x.2.2.1) then some false else bif !decide (x.1.2.2.1=x.2.2.2.1) then some false else bif !decide (x.1.2.2.2.1=x.2.2.2.2.1) then some false else bif !decide (x.1.2.2.2.2.1=
 x.2.2.2.2.2.1) then some false else bif !decide (x.1.2.2.2.2.2=x.2.2.2.2.2.2) then some false else some true
theorem c13:FnOk Tryz.prog 13 ⟨s13,w_eqAnswer⟩:=fn_of mix_ok rfl tyl_ok (fl:=q13) trivial Tryz.func13 rfl rfl cuts0 (fun _=>by kernel_rfl)
def s96:Sig:=⟨[.ro t111,.ro t111],[(.bool,true)],false⟩
abbrev q96:List (FuncId×V.Fn):=[(13,⟨s13,w_eqAnswer⟩)]
def w_eqSession (x:D2×Int×Int×Int×Int×Int×List UInt8×Int×Int):Option (Bool):=bif !decide (x.1.1=x.2.1) then some false else bif !decide (x.1.2.1=x.2.2.1) then some false else(w_eqAnswer (x.1.2.2,x.2.2.2)).bind fun x=>bif !x then some false else some true
theorem c96:FnOk Tryz.prog 96 ⟨s96,w_eqSession⟩:=fn_of mix_ok rfl tyl_ok (fl:=q96) ⟨c13,trivial⟩ Tryz.func96 rfl rfl cuts0 (fun _=>by kernel_rfl)
def s46:Sig:=⟨[.ro (.sl 111 t111),.ro (.sl 111 t111)],[(.bool,true)],false⟩
abbrev q46:List (FuncId×V.Fn):=[(96,⟨s96,w_eqSession⟩)]
def s46_11:CutSig:=⟨27,[0,1,5],[.ro (.sl 111 t111),.ro (.sl 111 t111),.ro (.int .i64)],[(.ex 0,[],[]),(.ret,[4],[(.bool,true)])]⟩
def w_eqSessionS_L11 (go:List D2×List D2×Int->Option (Unit⊕Bool)) (x:List D2×List D2×Int):Option (Unit⊕Bool):=bif decide (x.2.2<(↑(List.length x.1):
 Int)) then bif decide (0<=x.2.2) then x.1[Int.toNat x.2.2]?.bind fun x_1=>bif decide (0<=x.2.2) then x.2.1[Int.toNat x.2.2]?.bind fun x_2=>(w_eqSession (x_1,x_2)).bind fun x_3=>bif !x_3 then some (Sum.inr false) else go (x.1,x.2.1,i64.wrap (x.2.2+1)) else none else none else some (Sum.inl ())
theorem l46_11:CutOk Tryz.prog ⟨s46_11,iter w_eqSessionS_L11 FUEL⟩ (.loop (loopOf Tryz.f46 11)):=loop_of mix_ok rfl tyl_ok (fl:=q46) ⟨c96,trivial⟩ (C:=C0) rfl (pts:=[]) (by kernel_rfl) trivial (fun _ _=>by kernel_rfl)
def w_eqSessionS (x:List D2×List D2):Option (Bool):=bif !decide ((↑(List.length x.1):Int)=(↑(List.length x.2):Int)) then some false else(iter w_eqSessionS_L11 FUEL (x.1,x.2,0)).bind fun x=>sumK x (fun _=>some true) fun z=>some z
abbrev k46:Cuts:=ctab [(11,⟨s46_11,iter w_eqSessionS_L11 FUEL⟩)]
theorem c46:FnOk Tryz.prog 46 ⟨s46,w_eqSessionS⟩:=fn_of2 mix_ok rfl tyl_ok (fl:=q46) ⟨c96,trivial⟩ Tryz.func46 rfl rfl (C:=k46) (pts:=[(⟨s46_11,iter w_eqSessionS_L11 FUEL⟩,.loop (loopOf Tryz.f46 11))]) (by kernel_rfl) ⟨l46_11,trivial⟩ (fun _=>by kernel_rfl)
def s12:Sig:=⟨[.ro t34,.ro t34],[(.bool,true)],false⟩
abbrev q12:List (FuncId×V.Fn):=[(44,⟨s44,w_eqVersionS⟩),(45,⟨s45,w_eqIntS⟩),(46,⟨s46,w_eqSessionS⟩)]
def w_eqReg (x:D1×List D3×List Int×List D2):Option (Bool):=(w_eqVersionS (x.1.1,x.2.1)).bind fun x_1=>bif !x_1 then some false else(w_eqIntS (x.1.2.1,x.2.2.1)).bind fun x_2=>
 bif !x_2 then some false else(w_eqSessionS (x.1.2.2,x.2.2.2)).bind fun x=>bif !x then some false else some true
theorem c12:FnOk Tryz.prog 12 ⟨s12,w_eqReg⟩:=fn_of mix_ok rfl tyl_ok (fl:=q12) ⟨c44,c45,c46,trivial⟩ Tryz.func12 rfl rfl cuts0 (fun _=>by kernel_rfl)
def s97:Sig:=⟨[.ro (.int .i64)],[(.str,true)],false⟩
abbrev q97:List (FuncId×V.Fn):=[]
def s97_11:CutSig:=⟨20,[0,3],[.ro (.int .i64),.ro .str],[(.ex 0,[3],[(.str,true)])]⟩
def w_markText_L11 (go:Int×List UInt8->Option (List UInt8)) (x:Int×List UInt8):Option (List UInt8):=bif decide (0<x.1) then bif decide ((List.map (fun(b:Int)=>UInt8.ofNat b.toNat) [u8.wrap (i64.wrap (48+Int.tmod x.1 10))]).length+List.length x.2<=4611686018427387904) then go (i64.wrap (Int.tdiv x.1 10),List.map (fun(b:Int)=>
 UInt8.ofNat b.toNat) [u8.wrap (i64.wrap (48+Int.tmod x.1 10))]++x.2) else none else some x.2
theorem l97_11:CutOk Tryz.prog ⟨s97_11,iter w_markText_L11 FUEL⟩ (.loop (loopOf Tryz.f97 11)):=loop_of mix_ok rfl tyl_ok (fl:=q97) trivial (C:=C0) rfl (pts:=[]) (by kernel_rfl) trivial (fun _ _=>by kernel_rfl)
def w_markText (x:Int):Option (List UInt8):=bif decide (x<=0) then some [(109:UInt8),(48:UInt8)] else(iter w_markText_L11 FUEL (x,[])).bind fun x=>bif decide ((1:Nat)+x.length<=4611686018427387904) then some ([(109:UInt8)]++x) else none
abbrev k97:Cuts:=ctab [(11,⟨s97_11,iter w_markText_L11 FUEL⟩)]
theorem c97:FnOk Tryz.prog 97 ⟨s97,w_markText⟩:=fn_of2 mix_ok rfl tyl_ok (fl:=q97) trivial Tryz.func97 rfl rfl (C:=k97) (pts:=[(⟨s97_11,iter w_markText_L11 FUEL⟩,.loop (loopOf Tryz.f97 11))]) (by kernel_rfl) ⟨l97_11,trivial⟩ (fun _=>by kernel_rfl)
def s47:Sig:=⟨[.io (.sl 102 t102),.ro (.int .i64)],[((.int .i64),true)],false⟩
abbrev q47:List (FuncId×V.Fn):=[(97,⟨s97,w_markText⟩)]
def s47_7:CutSig:=⟨36,[0,1,5],[.own (.sl 102 t102),.ro (.int .i64),.ro (.int .i64)],[(.ex 0,[0,1],[((.sl 102 t102),true),((.int .i64),true)])]⟩
def w_markVersionS_L7 (go:List D3×Int×Int->Option (List D3×Int)) (x:List D3×Int×Int):Option (List D3×Int):=bif decide (x.2.2<(↑(List.length x.1):Int)) then(w_markText x.2.1).bind fun x_1=>bif decide (0<=x.2.2) then x.1[Int.toNat
 x.2.2]?.bind fun _=>x.1[Int.toNat x.2.2]?.bind fun x_3=>(w_markText (i64.wrap (x.2.1+1))).bind fun x_4=>bif decide (0<=x.2.2) then(List.set x.1 (Int.toNat x.2.2) (x_1,x_3.2))[Int.toNat x.2.2]?.bind fun _=>(List.set x.1 (Int.toNat x.2.2) (x_1,x_3.2))[Int.toNat x.2.2]?.bind fun x_6=>bif decide (0<=x.2.2) then((List.set x.1 (Int.toNat x.2.2) (x_1,x_3.2)).set
 (Int.toNat x.2.2) (x_6.1,x_4,x_6.2.2))[Int.toNat x.2.2]?.bind fun _=>((List.set x.1 (Int.toNat x.2.2) (x_1,x_3.2)).set (Int.toNat x.2.2) (x_6.1,x_4,x_6.2.2))[Int.toNat x.2.2]?.bind fun x_8=>go (((List.set x.1 (Int.toNat x.2.2) (x_1,x_3.2)).set (Int.toNat x.2.2) (x_6.1,x_4,x_6.2.2)).set (Int.toNat x.2.2) (x_8.1,x_8.2.1,i64.wrap (i64.wrap (x.2.1+1)+1)),
 i64.wrap (i64.wrap (i64.wrap (x.2.1+1)+1)+1),i64.wrap (x.2.2+1)) else none else none else none else some (x.1,x.2.1)
theorem l47_7:CutOk Tryz.prog ⟨s47_7,iter w_markVersionS_L7 FUEL⟩ (.loop (loopOf Tryz.f47 7)):=loop_of mix_ok rfl tyl_ok (fl:=q47) ⟨c97,trivial⟩ (C:=C0) rfl (pts:=[]) (by kernel_rfl) trivial (fun _ _=>by kernel_rfl)
def w_markVersionS (x:List D3×Int):Option (Int×List D3):=(iter w_markVersionS_L7 FUEL (x.1,x.2,0)).bind fun x=>some (x.2,x.1)
abbrev k47:Cuts:=ctab [(7,⟨s47_7,iter w_markVersionS_L7 FUEL⟩)]
theorem c47:FnOk Tryz.prog 47 ⟨s47,w_markVersionS⟩:=fn_of2 mix_ok rfl tyl_ok (fl:=q47) ⟨c97,trivial⟩ Tryz.func47 rfl rfl (C:=k47) (pts:=[(⟨s47_7,iter w_markVersionS_L7 FUEL⟩,.loop (loopOf Tryz.f47 7))]) (by kernel_rfl) ⟨l47_7,trivial⟩ (fun _=>by kernel_rfl)
def s48:Sig:=⟨[.io t23,.ro (.int .i64)],[((.int .i64),true)],false⟩
abbrev q48:List (FuncId×V.Fn):=[]
def s48_7:CutSig:=⟨19,[0,1,5],[.own t23,.ro (.int .i64),.ro (.int .i64)],[(.ex 0,[0,1],[(t23,true),((.int .i64),true)])]⟩
def w_markIntS_L7 (go:List Int×Int×Int->Option (List Int×Int)) (x:List Int×Int×Int):Option (List Int×Int):=bif decide (x.2.2<(↑(List.length x.1):Int)) then bif decide (0<=x.2.2) then x.1[Int.toNat x.2.2]?.bind fun _=>x.1[Int.toNat x.2.2]?.bind fun _=>go (List.set x.1 (Int.toNat x.2.2) x.2.1,i64.wrap (x.2.1+1),i64.wrap (x.2.2+
 1)) else none else some (x.1,x.2.1)
theorem l48_7:CutOk Tryz.prog ⟨s48_7,iter w_markIntS_L7 FUEL⟩ (.loop (loopOf Tryz.f48 7)):=loop_of mix_ok rfl tyl_ok (fl:=q48) trivial (C:=C0) rfl (pts:=[]) (by kernel_rfl) trivial (fun _ _=>by kernel_rfl)
def w_markIntS (x:List Int×Int):Option (Int×List Int):=(iter w_markIntS_L7 FUEL (x.1,x.2,0)).bind fun x=>some (x.2,x.1)
abbrev k48:Cuts:=ctab [(7,⟨s48_7,iter w_markIntS_L7 FUEL⟩)]
theorem c48:FnOk Tryz.prog 48 ⟨s48,w_markIntS⟩:=fn_of2 mix_ok rfl tyl_ok (fl:=q48) trivial Tryz.func48 rfl rfl (C:=k48) (pts:=[(⟨s48_7,iter w_markIntS_L7 FUEL⟩,.loop (loopOf Tryz.f48 7))]) (by kernel_rfl) ⟨l48_7,trivial⟩ (fun _=>by kernel_rfl)
def s49:Sig:=⟨[.io (.sl 111 t111),.ro (.int .i64)],[((.int .i64),true)],false⟩
abbrev q49:List (FuncId×V.Fn):=[(97,⟨s97,w_markText⟩)]
def s49_7:CutSig:=⟨76,[0,1,5],[.own (.sl 111 t111),.ro (.int .i64),.ro (.int .i64)],[(.ex 0,[0,1],[((.sl 111 t111),true),((.int .i64),true)])]⟩
def w_markSessionS_L7 (go:List D2×Int×Int->Option (List D2×Int)) (x:List D2×Int×Int):Option (List D2×Int):=bif decide (x.2.2<(↑(List.length x.1):Int))
 then bif decide (0<=x.2.2) then x.1[Int.toNat x.2.2]?.bind fun _=>x.1[Int.toNat x.2.2]?.bind fun x_2=>bif decide (0<=x.2.2) then(List.set x.1 (Int.toNat x.2.2) (x.2.1,x_2.2))[Int.toNat x.2.2]?.bind fun _=>(List.set x.1 (Int.toNat x.2.2) (x.2.1,x_2.2))[Int.toNat x.2.2]?.bind fun x_4=>bif decide (0<=x.2.2) then((List.set x.1 (Int.toNat x.2.2) (x.2.1,x_2.2)).set (Int.toNat
 x.2.2) (x_4.1,i64.wrap (x.2.1+1),x_4.2.2))[Int.toNat x.2.2]?.bind fun _=>((List.set x.1 (Int.toNat x.2.2) (x.2.1,x_2.2)).set (Int.toNat x.2.2) (x_4.1,i64.wrap (x.2.1+1),x_4.2.2))[Int.toNat x.2.2]?.bind fun x_6=>bif decide (0<=x.2.2) then(((List.set x.1 (Int.toNat x.2.2) (x.2.1,x_2.2)).set (Int.toNat x.2.2) (x_4.1,i64.wrap (x.2.1+1),x_4.2.2)).set
 (Int.toNat x.2.2) (x_6.1,x_6.2.1,i64.wrap (i64.wrap (x.2.1+1)+1),x_6.2.2.2))[Int.toNat x.2.2]?.bind fun _=>(((List.set x.1 (Int.toNat x.2.2) (x.2.1,x_2.2)).set (Int.toNat x.2.2) (x_4.1,i64.wrap (x.2.1+1),x_4.2.2)).set (Int.toNat x.2.2) (x_6.1,x_6.2.1,i64.wrap (i64.wrap (x.2.1+1)+1),x_6.2.2.2))[Int.toNat x.2.2]?.bind fun x_8=>bif
 decide (0<=x.2.2) then((((List.set x.1 (Int.toNat x.2.2) (x.2.1,x_2.2)).set (Int.toNat x.2.2) (x_4.1,i64.wrap (x.2.1+1),x_4.2.2)).set (Int.toNat x.2.2) (x_6.1,x_6.2.1,i64.wrap (i64.wrap (x.2.1+1)+1),x_6.2.2.2)).set (Int.toNat x.2.2) (x_8.1,x_8.2.1,x_8.2.2.1,i64.wrap (i64.wrap (i64.wrap (x.2.1+1)+1)+1),x_8.2.2.2.2))[Int.toNat
 x.2.2]?.bind fun _=>((((List.set x.1 (Int.toNat x.2.2) (x.2.1,x_2.2)).set (Int.toNat x.2.2) (x_4.1,i64.wrap (x.2.1+1),x_4.2.2)).set (Int.toNat x.2.2) (x_6.1,x_6.2.1,i64.wrap (i64.wrap (x.2.1+1)+1),x_6.2.2.2)).set (Int.toNat x.2.2) (x_8.1,x_8.2.1,x_8.2.2.1,i64.wrap (i64.wrap (i64.wrap (x.2.1+1)+1)+1),x_8.2.2.2.2))[Int.toNat
 x.2.2]?.bind fun x_10=>(w_markText (i64.wrap (i64.wrap (i64.wrap (i64.wrap (i64.wrap (x.2.1+1)+1)+1)+1)+1))).bind fun x_11=>bif decide (0<=x.2.2) then(((((List.set x.1 (Int.toNat x.2.2) (x.2.1,x_2.2)).set (Int.toNat x.2.2) (x_4.1,i64.wrap (x.2.1+1),x_4.2.2)).set (Int.toNat x.2.2) (x_6.1,x_6.2.1,i64.wrap
 (i64.wrap (x.2.1+1)+1),x_6.2.2.2)).set (Int.toNat x.2.2) (x_8.1,x_8.2.1,x_8.2.2.1,i64.wrap (i64.wrap (i64.wrap (x.2.1+1)+1)+1),x_8.2.2.2.2)).set (Int.toNat x.2.2) (x_10.1,x_10.2.1,x_10.2.2.1,x_10.2.2.2.1,i64.wrap (i64.wrap (i64.wrap (i64.wrap (x.2.1+1)+1)+1)+1),x_10.2.2.2.2.2))[Int.toNat x.2.2]?.bind fun
 _=>(((((List.set x.1 (Int.toNat x.2.2) (x.2.1,x_2.2)).set (Int.toNat x.2.2) (x_4.1,i64.wrap (x.2.1+1),x_4.2.2)).set (Int.toNat x.2.2) (x_6.1,x_6.2.1,i64.wrap (i64.wrap (x.2.1+1)+1),x_6.2.2.2)).set (Int.toNat x.2.2) (x_8.1,x_8.2.1,x_8.2.2.1,i64.wrap (i64.wrap (i64.wrap (x.2.1+1)+1)+1),x_8.2.2.2.2)).set (Int.toNat x.2.2)
 (x_10.1,x_10.2.1,x_10.2.2.1,x_10.2.2.2.1,i64.wrap (i64.wrap (i64.wrap (i64.wrap (x.2.1+1)+1)+1)+1),x_10.2.2.2.2.2))[Int.toNat x.2.2]?.bind fun x_13=>bif decide (0<=x.2.2) then((((((List.set x.1 (Int.toNat x.2.2) (x.2.1,x_2.2)).set (Int.toNat x.2.2) (x_4.1,i64.wrap (x.2.1+1),x_4.2.2)).set (Int.toNat x.2.2) (x_6.1,x_6.2.1,
 i64.wrap (i64.wrap (x.2.1+1)+1),x_6.2.2.2)).set (Int.toNat x.2.2) (x_8.1,x_8.2.1,x_8.2.2.1,i64.wrap (i64.wrap (i64.wrap (x.2.1+1)+1)+1),x_8.2.2.2.2)).set (Int.toNat x.2.2) (x_10.1,x_10.2.1,x_10.2.2.1,x_10.2.2.2.1,i64.wrap (i64.wrap (i64.wrap (i64.wrap (x.2.1+1)+1)+1)+1),x_10.2.2.2.2.2)).set
 (Int.toNat x.2.2) (x_13.1,x_13.2.1,x_13.2.2.1,x_13.2.2.2.1,x_13.2.2.2.2.1,x_11,x_13.2.2.2.2.2.2))[Int.toNat x.2.2]?.bind fun _=>((((((List.set x.1 (Int.toNat x.2.2) (x.2.1,x_2.2)).set (Int.toNat x.2.2) (x_4.1,i64.wrap (x.2.1+1),x_4.2.2)).set (Int.toNat x.2.2) (x_6.1,x_6.2.1,i64.wrap (i64.wrap (x.2.1+1)+1),x_6.2.2.2)).set (Int.toNat x.2.2) (x_8.1,
 x_8.2.1,x_8.2.2.1,i64.wrap (i64.wrap (i64.wrap (x.2.1+1)+1)+1),x_8.2.2.2.2)).set (Int.toNat x.2.2) (x_10.1,x_10.2.1,x_10.2.2.1,x_10.2.2.2.1,i64.wrap (i64.wrap (i64.wrap (i64.wrap (x.2.1+1)+1)+1)+1),x_10.2.2.2.2.2)).set (Int.toNat x.2.2) (x_13.1,x_13.2.1,x_13.2.2.1,x_13.2.2.2.1,x_13.2.2.2.2.1,x_11,
 x_13.2.2.2.2.2.2))[Int.toNat x.2.2]?.bind fun x_15=>bif decide (0<=x.2.2) then(((((((List.set x.1 (Int.toNat x.2.2) (x.2.1,x_2.2)).set (Int.toNat x.2.2) (x_4.1,i64.wrap (x.2.1+1),x_4.2.2)).set (Int.toNat x.2.2) (x_6.1,x_6.2.1,i64.wrap (i64.wrap (x.2.1+1)+1),x_6.2.2.2)).set (Int.toNat x.2.2) (x_8.1,x_8.2.1,x_8.2.2.1,i64.wrap (i64.wrap
 (i64.wrap (x.2.1+1)+1)+1),x_8.2.2.2.2)).set (Int.toNat x.2.2) (x_10.1,x_10.2.1,x_10.2.2.1,x_10.2.2.2.1,i64.wrap (i64.wrap (i64.wrap (i64.wrap (x.2.1+1)+1)+1)+1),x_10.2.2.2.2.2)).set (Int.toNat x.2.2) (x_13.1,x_13.2.1,x_13.2.2.1,x_13.2.2.2.1,x_13.2.2.2.2.1,x_11,x_13.2.2.2.2.2.2)).set (Int.toNat x.2.2) (x_15.1,x_15.2.1,x_15.2.2.1,
 x_15.2.2.2.1,x_15.2.2.2.2.1,x_15.2.2.2.2.2.1,i64.wrap (i64.wrap (i64.wrap (i64.wrap (i64.wrap (i64.wrap (x.2.1+1)+1)+1)+1)+1)+1),x_15.2.2.2.2.2.2.2))[Int.toNat x.2.2]?.bind fun _=>(((((((List.set x.1 (Int.toNat x.2.2) (x.2.1,x_2.2)).set (Int.toNat x.2.2) (x_4.1,i64.wrap (x.2.1+1),x_4.2.2)).set (Int.toNat x.2.2)
 (x_6.1,x_6.2.1,i64.wrap (i64.wrap (x.2.1+1)+1),x_6.2.2.2)).set (Int.toNat x.2.2) (x_8.1,x_8.2.1,x_8.2.2.1,i64.wrap (i64.wrap (i64.wrap (x.2.1+1)+1)+1),x_8.2.2.2.2)).set (Int.toNat x.2.2) (x_10.1,x_10.2.1,x_10.2.2.1,x_10.2.2.2.1,i64.wrap (i64.wrap (i64.wrap (i64.wrap (x.2.1+1)+1)+1)+1),
 x_10.2.2.2.2.2)).set (Int.toNat x.2.2) (x_13.1,x_13.2.1,x_13.2.2.1,x_13.2.2.2.1,x_13.2.2.2.2.1,x_11,x_13.2.2.2.2.2.2)).set (Int.toNat x.2.2) (x_15.1,x_15.2.1,x_15.2.2.1,x_15.2.2.2.1,x_15.2.2.2.2.1,x_15.2.2.2.2.2.1,i64.wrap (i64.wrap (i64.wrap (i64.wrap (i64.wrap (i64.wrap (x.2.1+1)+1)+1)+1)+1)+1),
 x_15.2.2.2.2.2.2.2))[Int.toNat x.2.2]?.bind fun x_17=>go ((((((((List.set x.1 (Int.toNat x.2.2) (x.2.1,x_2.2)).set (Int.toNat x.2.2) (x_4.1,i64.wrap (x.2.1+1),x_4.2.2)).set (Int.toNat x.2.2) (x_6.1,x_6.2.1,i64.wrap (i64.wrap (x.2.1+1)+1),x_6.2.2.2)).set (Int.toNat x.2.2) (x_8.1,x_8.2.1,x_8.2.2.1,i64.wrap (i64.wrap
 (i64.wrap (x.2.1+1)+1)+1),x_8.2.2.2.2)).set (Int.toNat x.2.2) (x_10.1,x_10.2.1,x_10.2.2.1,x_10.2.2.2.1,i64.wrap (i64.wrap (i64.wrap (i64.wrap (x.2.1+1)+1)+1)+1),x_10.2.2.2.2.2)).set (Int.toNat x.2.2) (x_13.1,x_13.2.1,x_13.2.2.1,x_13.2.2.2.1,x_13.2.2.2.2.1,x_11,x_13.2.2.2.2.2.2)).set (Int.toNat x.2.2) (x_15.1,x_15.2.1,x_15.2.2.1,
 x_15.2.2.2.1,x_15.2.2.2.2.1,x_15.2.2.2.2.2.1,i64.wrap (i64.wrap (i64.wrap (i64.wrap (i64.wrap (i64.wrap (x.2.1+1)+1)+1)+1)+1)+1),x_15.2.2.2.2.2.2.2)).set (Int.toNat x.2.2) (x_17.1,x_17.2.1,x_17.2.2.1,x_17.2.2.2.1,x_17.2.2.2.2.1,x_17.2.2.2.2.2.1,x_17.2.2.2.2.2.2.1,i64.wrap (i64.wrap (i64.wrap
 (i64.wrap (i64.wrap (i64.wrap (i64.wrap (x.2.1+1)+1)+1)+1)+1)+1)+1)),i64.wrap (i64.wrap (i64.wrap (i64.wrap (i64.wrap (i64.wrap (i64.wrap (i64.wrap (x.2.1+1)+1)+1)+1)+1)+1)+1)+1),i64.wrap (x.2.2+1)) else none else none else none else none else none else none
 else none else none else some (x.1,x.2.1)
theorem l49_7:CutOk Tryz.prog ⟨s49_7,iter w_markSessionS_L7 FUEL⟩ (.loop (loopOf Tryz.f49 7)):=loop_of mix_ok rfl tyl_ok (fl:=q49) ⟨c97,trivial⟩ (C:=C0) rfl (pts:=[]) (by kernel_rfl) trivial (fun _ _=>by kernel_rfl)
def w_markSessionS (x:List D2×Int):Option (Int×List D2):=(iter w_markSessionS_L7 FUEL (x.1,x.2,0)).bind fun x=>some (x.2,x.1)
abbrev k49:Cuts:=ctab [(7,⟨s49_7,iter w_markSessionS_L7 FUEL⟩)]
theorem c49:FnOk Tryz.prog 49 ⟨s49,w_markSessionS⟩:=fn_of2 mix_ok rfl tyl_ok (fl:=q49) ⟨c97,trivial⟩ Tryz.func49 rfl rfl (C:=k49) (pts:=[(⟨s49_7,iter w_markSessionS_L7 FUEL⟩,.loop (loopOf Tryz.f49 7))]) (by kernel_rfl) ⟨l49_7,trivial⟩ (fun _=>by kernel_rfl)
def s14:Sig:=⟨[.io t34,.ro (.int .i64)],[((.int .i64),true)],false⟩
abbrev q14:List (FuncId×V.Fn):=[(47,⟨s47,w_markVersionS⟩),(48,⟨s48,w_markIntS⟩),(49,⟨s49,w_markSessionS⟩)]
def w_markReg (x:D1×Int):Option (Int×List D3×List Int×List D2):=bif !(true&&((some (true&&decide (List.length x.1.1=List.length x.1.1)&&decide ([2]=List.take 1 [2,3,4])
 &&((true&&decide (List.length x.1.1=List.length x.1.1)&&(true&&decide (List.length x.1.2.1=List.length x.1.2.1)&&(true&&decide (List.length x.1.2.2=List.length x.1.2.2)))&&[2,3,4].all fun τ=>τ==1||[4,3].contains τ||[2].contains τ)&&true)&&((true||1+(1+1)==1)&&true))).getD false&&(true&&(([].all fun τ=>(τ==0||τ==1||[4,3].contains τ||
 [].contains τ)&& ![].contains (0,τ))&&(true&&true))))) then none else(w_markVersionS (x.1.1,x.2)).bind fun x_1=>bif !(true&&((some (true&&decide (List.length x.1.2.1=List.length x.1.2.1)&&decide ([3]=List.take 1 (List.drop 1 [6,3,4]))&&((true&&decide (List.length x_1.2=List.length x_1.2)&&(true&&decide (List.length x.1.2.1=List.length x.1.2.1)&&(true&&decide
 (List.length x.1.2.2=List.length x.1.2.2)))&&[6,3,4].all fun τ=>τ==1||[6,4].contains τ||[3].contains τ)&&true)&&((true||1+(1+1)==1)&&true))).getD false&&(true&&(([].all fun τ=>(τ==0||τ==1||[6,4].contains τ||[].contains τ)&& ![].contains (0,τ))&&(true&&true))))) then none else(w_markIntS (x.1.2.1,x_1.1)).bind fun x_2=>bif !(true&&((some
 (true&&decide (List.length x.1.2.2=List.length x.1.2.2)&&decide ([4]=List.drop 1 (List.drop 1 [6,7,4]))&&((true&&decide (List.length x_1.2=List.length x_1.2)&&(true&&decide (List.length x_2.2=List.length x_2.2)&&(true&&decide (List.length x.1.2.2=List.length x.1.2.2)))&&[6,7,4].all fun τ=>τ==1||[7,6].contains τ||[4].contains τ)&&true)&&((true||1+
 (1+1)==1)&&true))).getD false&&(true&&(([].all fun τ=>(τ==0||τ==1||[7,6].contains τ||[].contains τ)&& ![].contains (0,τ))&&(true&&true))))) then none else(w_markSessionS (x.1.2.2,x_2.1)).bind fun x=>some (x.1,x_1.2,x_2.2,x.2)
theorem c14:FnOk Tryz.prog 14 ⟨s14,w_markReg⟩:=fn_of mix_ok rfl tyl_ok (fl:=q14) ⟨c47,c48,c49,trivial⟩ Tryz.func14 rfl rfl cuts0 (fun _=>by kernel_rfl)
def s50:Sig:=⟨[.ro (.sl 102 t102),.ro (.int .i64)],[((.int .i64),true)],false⟩
abbrev q50:List (FuncId×V.Fn):=[(97,⟨s97,w_markText⟩)]
def s50_7:CutSig:=⟨42,[0,1,5],[.ro (.sl 102 t102),.ro (.int .i64),.ro (.int .i64)],[(.ex 0,[1],[((.int .i64),true)]),(.ret,[4],[((.int .i64),true)])]⟩
def w_heldVersionS_L7 (go:List D3×Int×Int->Option (Int⊕Int)) (x:List D3×Int×Int):Option (Int⊕Int):=bif decide (x.2.2<(↑(List.length x.1):Int)) then bif decide (0<=x.2.2) then x.1[Int.toNat x.2.2]?.bind fun x_1=>(w_markText x.2.1).bind fun x_2=>bif !decide (x_1.1=x_2) then some (Sum.inr (-1))
 else bif decide (0<=x.2.2) then x.1[Int.toNat x.2.2]?.bind fun x_3=>(w_markText (i64.wrap (x.2.1+1))).bind fun x_4=>bif !decide (x_3.2.1=x_4) then some (Sum.inr (-1)) else bif decide (0<=x.2.2) then x.1[Int.toNat x.2.2]?.bind fun x_5=>bif !decide (x_5.2.2=i64.wrap (i64.wrap (x.2.1+1)+1)) then some (Sum.inr (-1)) else go (x.1,i64.wrap
 (i64.wrap (i64.wrap (x.2.1+1)+1)+1),i64.wrap (x.2.2+1)) else none else none else none else some (Sum.inl x.2.1)
theorem l50_7:CutOk Tryz.prog ⟨s50_7,iter w_heldVersionS_L7 FUEL⟩ (.loop (loopOf Tryz.f50 7)):=loop_of mix_ok rfl tyl_ok (fl:=q50) ⟨c97,trivial⟩ (C:=C0) rfl (pts:=[]) (by kernel_rfl) trivial (fun _ _=>by kernel_rfl)
def w_heldVersionS (x:List D3×Int):Option (Int):=(iter w_heldVersionS_L7 FUEL (x.1,x.2,0)).bind fun x=>sumK x (fun y=>some y) fun z=>some z
abbrev k50:Cuts:=ctab [(7,⟨s50_7,iter w_heldVersionS_L7 FUEL⟩)]
theorem c50:FnOk Tryz.prog 50 ⟨s50,w_heldVersionS⟩:=fn_of2 mix_ok rfl tyl_ok (fl:=q50) ⟨c97,trivial⟩ Tryz.func50 rfl rfl (C:=k50) (pts:=[(⟨s50_7,iter w_heldVersionS_L7 FUEL⟩,.loop (loopOf Tryz.f50 7))]) (by kernel_rfl) ⟨l50_7,trivial⟩ (fun _=>by kernel_rfl)
def s51:Sig:=⟨[.ro t23,.ro (.int .i64)],[((.int .i64),true)],false⟩
abbrev q51:List (FuncId×V.Fn):=[]
def s51_7:CutSig:=⟨21,[0,1,5],[.ro t23,.ro (.int .i64),.ro (.int .i64)],[(.ex 0,[1],[((.int .i64),true)]),(.ret,[4],[((.int .i64),true)])]⟩
def w_heldIntS_L7 (go:List Int×Int×Int->Option (Int⊕Int)) (x:List Int×Int×Int):Option (Int⊕Int):=bif decide (x.2.2<(↑(List.length x.1):Int)) then bif decide (0<=x.2.2) then x.1[Int.toNat x.2.2]?.bind fun x_1=>bif !decide (x_1=x.2.1) then some (Sum.inr (-1)) else go (x.1,i64.wrap (x.2.1+1),i64.wrap (x.2.2+1)) else none else some (Sum.inl x.2.1)
theorem l51_7:CutOk Tryz.prog ⟨s51_7,iter w_heldIntS_L7 FUEL⟩ (.loop (loopOf Tryz.f51 7)):=loop_of mix_ok rfl tyl_ok (fl:=q51) trivial (C:=C0) rfl (pts:=[]) (by kernel_rfl) trivial (fun _ _=>by kernel_rfl)
def w_heldIntS (x:List Int×Int):Option (Int):=(iter w_heldIntS_L7 FUEL (x.1,x.2,0)).bind fun x=>sumK x (fun y=>some y) fun z=>some z
abbrev k51:Cuts:=ctab [(7,⟨s51_7,iter w_heldIntS_L7 FUEL⟩)]
theorem c51:FnOk Tryz.prog 51 ⟨s51,w_heldIntS⟩:=fn_of2 mix_ok rfl tyl_ok (fl:=q51) trivial Tryz.func51 rfl rfl (C:=k51) (pts:=[(⟨s51_7,iter w_heldIntS_L7 FUEL⟩,.loop (loopOf Tryz.f51 7))]) (by kernel_rfl) ⟨l51_7,trivial⟩ (fun _=>by kernel_rfl)
def s52:Sig:=⟨[.ro (.sl 111 t111),.ro (.int .i64)],[((.int .i64),true)],false⟩
abbrev q52:List (FuncId×V.Fn):=[(97,⟨s97,w_markText⟩)]
def s52_7:CutSig:=⟨92,[0,1,5],[.ro (.sl 111 t111),.ro (.int .i64),.ro (.int .i64)],[(.ex 0,[1],[((.int .i64),true)]),(.ret,[4],[((.int .i64),true)])]⟩
def w_heldSessionS_L7 (go:List D2×Int×Int->Option (Int⊕Int)) (x:List D2×Int×Int):Option (Int⊕Int):=bif decide (x.2.2<(↑(List.length x.1):Int)) then bif decide (0<=x.2.2) then x.1[Int.toNat x.2.2]?.bind fun x_1=>bif !decide (x_1.1=x.2.1) then some
 (Sum.inr (-1)) else bif decide (0<=x.2.2) then x.1[Int.toNat x.2.2]?.bind fun x_2=>bif !decide (x_2.2.1=i64.wrap (x.2.1+1)) then some (Sum.inr (-1)) else bif decide (0<=x.2.2) then x.1[Int.toNat x.2.2]?.bind fun x_3=>bif !decide (x_3.2.2.1=i64.wrap (i64.wrap (x.2.1+1)+1)) then some (Sum.inr (-1)) else bif decide (0<=x.2.2) then x.1[Int.toNat x.2.2]?.bind
 fun x_4=>bif !decide (x_4.2.2.2.1=i64.wrap (i64.wrap (i64.wrap (x.2.1+1)+1)+1)) then some (Sum.inr (-1)) else bif decide (0<=x.2.2) then x.1[Int.toNat x.2.2]?.bind fun x_5=>bif !decide (x_5.2.2.2.2.1=i64.wrap (i64.wrap (i64.wrap (i64.wrap (x.2.1+1)+1)+1)+1)) then some (Sum.inr (-1)) else bif decide (0<=x.2.2) then
 x.1[Int.toNat x.2.2]?.bind fun x_6=>(w_markText (i64.wrap (i64.wrap (i64.wrap (i64.wrap (i64.wrap (x.2.1+1)+1)+1)+1)+1))).bind fun x_7=>bif !decide (x_6.2.2.2.2.2.1=x_7) then some (Sum.inr (-1)) else bif decide (0<=x.2.2) then x.1[Int.toNat x.2.2]?.bind fun x_8=>bif !decide (x_8.2.2.2.2.2.2.1=i64.wrap (i64.wrap
 (i64.wrap (i64.wrap (i64.wrap (i64.wrap (x.2.1+1)+1)+1)+1)+1)+1)) then some (Sum.inr (-1)) else bif decide (0<=x.2.2) then x.1[Int.toNat x.2.2]?.bind fun x_9=>bif !decide (x_9.2.2.2.2.2.2.2=i64.wrap (i64.wrap (i64.wrap (i64.wrap (i64.wrap (i64.wrap (i64.wrap (x.2.1+1)+1)+1)+1)+1)+
 1)+1)) then some (Sum.inr (-1)) else go (x.1,i64.wrap (i64.wrap (i64.wrap (i64.wrap (i64.wrap (i64.wrap (i64.wrap (i64.wrap (x.2.1+1)+1)+1)+1)+1)+1)+1)+1),i64.wrap (x.2.2+1)) else none else none else none else none else none else none else none else none else some (Sum.inl x.2.1)
theorem l52_7:CutOk Tryz.prog ⟨s52_7,iter w_heldSessionS_L7 FUEL⟩ (.loop (loopOf Tryz.f52 7)):=loop_of mix_ok rfl tyl_ok (fl:=q52) ⟨c97,trivial⟩ (C:=C0) rfl (pts:=[]) (by kernel_rfl) trivial (fun _ _=>by kernel_rfl)
def w_heldSessionS (x:List D2×Int):Option (Int):=(iter w_heldSessionS_L7 FUEL (x.1,x.2,0)).bind fun x=>sumK x (fun y=>some y) fun z=>some z
abbrev k52:Cuts:=ctab [(7,⟨s52_7,iter w_heldSessionS_L7 FUEL⟩)]
theorem c52:FnOk Tryz.prog 52 ⟨s52,w_heldSessionS⟩:=fn_of2 mix_ok rfl tyl_ok (fl:=q52) ⟨c97,trivial⟩ Tryz.func52 rfl rfl (C:=k52) (pts:=[(⟨s52_7,iter w_heldSessionS_L7 FUEL⟩,.loop (loopOf Tryz.f52 7))]) (by kernel_rfl) ⟨l52_7,trivial⟩ (fun _=>by kernel_rfl)
def s15:Sig:=⟨[.ro t34,.ro (.int .i64)],[((.int .i64),true)],false⟩
abbrev q15:List (FuncId×V.Fn):=[(50,⟨s50,w_heldVersionS⟩),(51,⟨s51,w_heldIntS⟩),(52,⟨s52,w_heldSessionS⟩)]
def w_heldReg (x:D1×Int):Option (Int):=(w_heldVersionS (x.1.1,x.2)).bind fun x_1=>bif decide (x_1<0) then some (-1) else(w_heldIntS (x.1.2.1,x_1)).bind fun x_2=>bif decide (x_2<0) then some (-1) else(w_heldSessionS (x.1.2.2,x_2)).bind fun x=>bif decide
 (x<0) then some (-1) else some x
theorem c15:FnOk Tryz.prog 15 ⟨s15,w_heldReg⟩:=fn_of mix_ok rfl tyl_ok (fl:=q15) ⟨c50,c51,c52,trivial⟩ Tryz.func15 rfl rfl cuts0 (fun _=>by kernel_rfl)
def s3:Sig:=⟨[.ro t26,.ro (.int .i64),.ro (.int .i64),.ro t28,.ro (.int .i64)],[(.bool,true)],false⟩
abbrev q3:List (FuncId×V.Fn):=[(6,⟨s6,w_szReg⟩),(7,⟨s7,w_szOp⟩),(8,⟨s8,s_Serve⟩),(9,⟨s9,w_toReg⟩),(10,⟨s10,w_toOp⟩),(11,⟨s11,i_Serve⟩),(12,⟨s12,w_eqReg⟩),(13,⟨s13,w_eqAnswer⟩),(14,⟨s14,w_markReg⟩),(15,⟨s15,w_heldReg⟩)]
def w_FnExactServe (x:D1×Int×Int×D7×Int):Option (Bool):=(w_szReg (x.1,1048576)).bind fun x_1=>bif decide (x_1<0) then some true else(w_szOp (x.2.2.2.1,x_1)).bind fun x_2=>bif decide (x_2<0) then some true else(w_toReg
 x.1).bind fun x_3=>(w_toOp x.2.2.2.1).bind fun x_4=>(s_Serve (x_3,x.2.1,x.2.2.1,x_4,x.2.2.2.2)).bind fun x_5=>(w_toReg x.1).bind fun x_6=>(w_toOp x.2.2.2.1).bind fun x_7=>(i_Serve (x_6,x.2.1,x.2.2.1,x_7,x.2.2.2.2)).bind fun x_8=>(w_eqReg (x_8.1,x_5.1)).bind fun x_9=>(bif !!x_9 then(w_eqAnswer (x_8.2.1,x_5.2.1)).bind fun x=>some !x else some true).bind fun x_10=>(bif
 !x_10 then some !x_8.2.2==x_5.2.2 else some true).bind fun x_11=>bif x_11 then some false else(w_toReg x.1).bind fun x_12=>(w_eqReg (x_6,x_12)).bind fun x_13=>bif !x_13 then some false else bif !(true&&((some (true&&decide (List.length x_6.1=List.length x_6.1)&&(true&&decide (List.length x_6.2.1=List.length x_6.2.1)&&(true&&decide (List.length x_6.2.2=List.length
 x_6.2.2)))&&decide ([12,13,14]=[12,13,14])&&true&&((true||1+(1+1)==1)&&true))).getD false&&(true&&(([].all fun τ=>(τ==0||τ==1||[23,22,21,18,17,16,9,8,7,6,5,4].contains τ||[].contains τ)&& ![].contains (0,τ))&&(true&&true))))) then none else(w_markReg (x_6,1)).bind fun x_14=>(bif !decide (x_14.1<0) then(w_eqReg (x_8.1,x_5.1)).bind fun
 x=>some !x else some true).bind fun x_15=>(bif !x_15 then(w_eqAnswer (x_8.2.1,x_5.2.1)).bind fun x=>some !x else some true).bind fun x_16=>(bif !x_16 then some !x_8.2.2==x_5.2.2 else some true).bind fun x_17=>bif x_17 then some false else bif !(true&&((some (true&&decide (List.length x_8.1.1=List.length x_8.1.1)&&(true&&decide (List.length x_8.1.2.1=List.length
 x_8.1.2.1)&&(true&&decide (List.length x_8.1.2.2=List.length x_8.1.2.2)))&&decide ([16,17,18]=[16,17,18])&&true&&((true||1+(1+1)==1)&&true))).getD false&&(true&&(([].all fun τ=>(τ==0||τ==1||[26,25,24,23,22,21,9,8,7,6,5,4].contains τ||[].contains τ)&& ![].contains (0,τ))&&(true&&true))))) then none else(w_markReg (x_8.1,1)).bind fun
 x_18=>(w_heldReg (x_18.2,1)).bind fun x_19=>bif decide (x_19<0) then some false else bif !decide (x_19=x_18.1) then some false else(w_toReg x.1).bind fun x_20=>(w_toOp x.2.2.2.1).bind fun x_21=>(i_Serve (x_20,x.2.1,x.2.2.1,x_21,x.2.2.2.2)).bind fun x=>(w_eqReg (x.1,x_5.1)).bind fun x_22=>(bif !!x_22 then(w_eqAnswer (x.2.1,x_5.2.1)).bind fun x=>some !x else some
 true).bind fun x_23=>(bif !x_23 then some !x.2.2==x_5.2.2 else some true).bind fun x=>bif x then some false else(w_heldReg (x_18.2,1)).bind fun x=>bif decide (x<0) then some false else bif !decide (x=x_18.1) then some false else some true
theorem c3:FnOk Tryz.prog 3 ⟨s3,w_FnExactServe⟩:=fn_of mix_ok rfl tyl_ok (fl:=q3) ⟨c6,c7,c8,c9,c10,c11,c12,c13,c14,c15,trivial⟩ Tryz.func3 rfl rfl cuts0 (fun _=>by kernel_rfl)
end
end Go.Proofs.YtibidhcmenljoaaGreatDoor

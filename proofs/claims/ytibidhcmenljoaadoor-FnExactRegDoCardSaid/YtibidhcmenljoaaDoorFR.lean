/- The types and the functions that the laws reach: what each computes, and that it computes it. Printed by a program of this session (mk2.py). -/
import Derived.Test.YtibidhcmenljoaaDoorVD
namespace Go.Proofs.YtibidhcmenljoaaDoor
open Go Go.Proofs.YtibidhcmenljoaaDoor.V
open IntKind
noncomputable section
set_option maxRecDepth 100000
abbrev D1:=List (List UInt8×List UInt8×Int)×List Int×List (Int×Int×Int×Int×Int×List UInt8×Int×Int)
abbrev D2:=Int×Int×Int×Int×Int×List UInt8×Int×Int
abbrev D3:=List UInt8×List UInt8×Int
abbrev D4:=List (Int×Int)×Unit
abbrev D5:=Int×Int×Int×List UInt8×Int×Int
abbrev D6:=List (List UInt8)⊕List (List UInt8)×Bool
abbrev D7:=Int×Int
abbrev D8:=D1×Int×Int×Int×List UInt8×Int×Int
abbrev D9:=List UInt8×Bool
abbrev D10:=D5×List D3×List Int×List D2
def t7:Ty:=.st (.pair (.int .i64) (.pair (.int .i64) (.pair .bool (.int .u8))))
def t8:Ty:=.st (.pair (.int .i64) (.pair (.int .i64) (.pair .bool (.int .u8))))
def t194:Ty:=.st (.pair .str (.pair .str (.int .i64)))
def t23:Ty:=.sl 3 (.int .i64)
def t92:Ty:=.st (.pair (.int .i64) (.pair (.int .i64) (.pair (.int .i64) (.pair .str (.pair (.int .i64) (.int .i64))))))
def t197:Ty:=.st (.pair (.int .i64) (.pair (.int .i64) t92))
def t25:Ty:=.st (.pair (.sl 194 t194) (.pair t23 (.sl 197 t197)))
def t26:Ty:=.st (.pair (.sl 194 t194) (.pair t23 (.sl 197 t197)))
def t27:Ty:=.st (.pair (.int .i64) (.pair (.int .i64) (.pair (.int .i64) .str)))
def t28:Ty:=.st (.pair (.int .i64) (.pair (.int .i64) (.pair (.int .i64) .str)))
def t52:Ty:=.st (.pair .str (.pair .str (.int .i64)))
def t36:Ty:=.st (.pair (.int .i64) (.pair (.int .i64) (.pair (.int .i64) (.pair .str (.pair (.int .i64) (.int .i64))))))
def t130:Ty:=.st (.pair (.int .i64) (.pair (.int .i64) t36))
def t33:Ty:=.st (.pair (.sl 52 t52) (.pair t23 (.sl 130 t130)))
def t34:Ty:=.st (.pair (.sl 52 t52) (.pair t23 (.sl 130 t130)))
def t35:Ty:=.st (.pair (.int .i64) (.pair (.int .i64) (.pair (.int .i64) (.pair .str (.pair (.int .i64) (.int .i64))))))
def t40:Ty:=.st (.pair (.int .i64) (.pair (.int .i64) (.pair (.int .i64) .str)))
def t46:Ty:=.sl 5 (.int .u8)
def t51:Ty:=.st (.pair .str (.pair .str (.int .i64)))
def t145:Ty:=.st (.pair (.int .i64) (.int .i64))
def t58:Ty:=.st (.pair (.sl 145 t145) .unit)
def t59:Ty:=.st (.pair (.sl 145 t145) .unit)
def t148:Ty:=.st (.pair (.int .i64) .str)
def t151:Ty:=.st (.pair (.int .i64) .str)
def t157:Ty:=.st (.pair (.int .i64) (.pair (.int .i64) (.pair t40 t36)))
def t160:Ty:=.st (.pair (.int .i64) (.pair (.int .i64) (.pair t28 (.pair t92 (.pair (.int .i64) (.int .i64))))))
def t162:Ty:=.st (.pair (.int .i64) (.pair (.int .i64) (.pair t40 (.pair t36 (.pair (.int .i64) (.int .i64))))))
def t88:Ty:=.st (.pair (.int .i64) (.pair (.int .i64) (.pair .bool (.pair t28 (.int .i64)))))
def t89:Ty:=.st (.pair (.int .i64) (.pair (.int .i64) (.pair .bool (.pair t28 (.int .i64)))))
def t90:Ty:=.st (.pair (.int .i64) (.pair (.int .i64) .str))
def t91:Ty:=.st (.pair (.int .i64) (.pair (.int .i64) .str))
def t271:Ty:=.st (.pair (.int .i64) (.int .i64))
def t239:Ty:=.st (.pair (.sl 271 t271) .unit)
def t241:Ty:=.st (.pair .str t239)
def t94:Ty:=.st (.pair t89 (.pair (.int .i64) (.pair t91 (.pair t92 (.pair .str (.sl 241 t241))))))
def t95:Ty:=.st (.pair t89 (.pair (.int .i64) (.pair t91 (.pair t92 (.pair .str (.sl 241 t241))))))
def t98:Ty:=.st (.pair (.int .i64) (.pair (.int .i64) (.pair .bool (.pair t40 (.int .i64)))))
def t99:Ty:=.st (.pair (.int .i64) (.pair (.int .i64) (.pair .bool (.pair t40 (.int .i64)))))
def t100:Ty:=.st (.pair (.int .i64) (.pair (.int .i64) .str))
def t180:Ty:=.st (.pair .str t59)
def t102:Ty:=.st (.pair t99 (.pair (.int .i64) (.pair t100 (.pair t36 (.pair .str (.sl 180 t180))))))
def t103:Ty:=.st (.pair t99 (.pair (.int .i64) (.pair t100 (.pair t36 (.pair .str (.sl 180 t180))))))
def t129:Ty:=.st (.pair (.int .i64) (.pair (.int .i64) t36))
def t144:Ty:=.st (.pair (.int .i64) (.int .i64))
def t147:Ty:=.st (.pair (.int .i64) .str)
def t156:Ty:=.st (.pair (.int .i64) (.pair (.int .i64) (.pair t40 t36)))
def t159:Ty:=.st (.pair (.int .i64) (.pair (.int .i64) (.pair t28 (.pair t92 (.pair (.int .i64) (.int .i64))))))
def t161:Ty:=.st (.pair (.int .i64) (.pair (.int .i64) (.pair t40 (.pair t36 (.pair (.int .i64) (.int .i64))))))
def t168:Ty:=.st (.pair .str .bool)
def t169:Ty:=.st (.pair .str .bool)
def t179:Ty:=.st (.pair .str t59)
def t196:Ty:=.st (.pair (.int .i64) (.pair (.int .i64) t92))
def t209:Ty:=.st (.pair t46 (.pair (.int .i64) (.int .i64)))
def t210:Ty:=.st (.pair t46 (.pair (.int .i64) (.int .i64)))
def t214:Ty:=.sl 218 (.int .u32)
def t228:Ty:=.st (.pair (.int .i64) (.pair (.int .i64) t40))
def t229:Ty:=.st (.pair (.int .i64) (.pair (.int .i64) t40))
def t234:Ty:=.arr 8 (.int .u32)
def t238:Ty:=.st (.pair (.sl 271 t271) .unit)
def t240:Ty:=.st (.pair .str t239)
def t259:Ty:=.arr 64 (.int .u32)
def tyl:List (Option Ty):=[none,none,some (.int .i64),some (.int .i64),some .bool,some (.int .u8),some (.int .u8),some t7,some t8,some .str,some .str,some .str,some (.int .u64),none,none,none,none,none,none,none,none,some (.int .i32),some (.sl 194 t194),some t23,some (.sl 197 t197),some t25,some t26,some t27,some t28,none,none,some (.sl 52 t52),some (.sl 130 t130),some t33,some t34,some t35,some t36,none,none,none,some t40,none,none,none,none,none,some t46,none,none,none,none,some t51,some t52,none,none,none,none,some (.sl 145 t145),some t58,some t59,none,none,none,none,some (.sl 148 t148),none,none,none,some (.sl 151 t151),none,none,none,none,some (.sl 157 t157),none,none,none,none,none,some (.sl 160 t160),none,none,some (.sl 162 t162),none,none,none,none,none,some t88,some t89,some t90,some t91,some t92,some (.sl 241 t241),some t94,some t95,none,none,some t98,some t99,some t100,some (.sl 180 t180),some t102,some t103,none,none,none,none,none,none,none,none,none,none,none,none,none,none,none,none,none,none,none,none,none,none,none,none,none,some t129,some t130,none,none,none,none,none,none,none,none,none,some (.sl 9 .str),none,none,none,some t144,some t145,none,some t147,some t148,none,none,some t151,none,none,none,none,some t156,some t157,none,some t159,some t160,some t161,some t162,none,none,none,none,none,some t168,some t169,none,none,none,none,none,none,none,none,none,some t179,some t180,none,none,none,none,none,none,none,none,none,none,none,none,none,some t194,none,some t196,some t197,none,none,none,none,none,none,none,none,none,none,none,some t209,some t210,none,none,none,some t214,none,none,none,some (.int .u32),none,none,none,none,none,none,none,some (.int .u64),none,some t228,some t229,none,none,none,none,some t234,none,none,some (.sl 271 t271),some t238,some t239,some t240,some t241,none,none,none,none,none,none,none,none,none,none,none,none,none,none,none,none,none,some t259]
theorem mix_ok:Tryd.prog.follows .mixedOrders=true:=by kernel_rfl
theorem tyl_ok:tabB Tryd.prog 12 tyl 0=true:=by kernel_rfl
def s139:Sig:=⟨[.ro t194,.ro (.int .i64)],[((.int .i64),true)],false⟩
abbrev q139:List (FuncId×V.Fn):=[]
def w_szVersion (x:D3×Int):Option (Int):=bif decide (i64.wrap (x.2-(↑(List.length x.1.1):Int))<0) then some (-1) else bif decide (i64.wrap (i64.wrap (x.2-(↑(List.length x.1.1):Int))-(↑(List.length x.1.2.1):Int))<0) then some (-1) else some (i64.wrap (i64.wrap (x.2-(↑(List.length x.1.1):
 Int))-(↑(List.length x.1.2.1):Int)))
theorem c139:FnOk Tryd.prog 139 ⟨s139,w_szVersion⟩:=fn_of mix_ok rfl tyl_ok (fl:=q139) trivial Tryd.func139 rfl rfl cuts0 (fun _=>by kernel_rfl)
def s57:Sig:=⟨[.ro (.sl 194 t194),.ro (.int .i64)],[((.int .i64),true)],false⟩
abbrev q57:List (FuncId×V.Fn):=[(139,⟨s139,w_szVersion⟩)]
def s57_13:CutSig:=⟨27,[0,1,5],[.ro (.sl 194 t194),.ro (.int .i64),.ro (.int .i64)],[(.ex 0,[1],[((.int .i64),true)]),(.ret,[4],[((.int .i64),true)])]⟩
def w_szVersionS_L13 (go:List D3×Int×Int->Option (Int⊕Int)) (x:List D3×Int×Int):Option (Int⊕Int):=bif decide (x.2.2<(↑(List.length x.1):Int)) then bif decide (0<=x.2.2) then x.1[Int.toNat x.2.2]?.bind fun x_1=>(w_szVersion (x_1,x.2.1)).bind fun x_2=>bif decide (x_2<0) then some (Sum.inr (-1))
 else go (x.1,x_2,i64.wrap (x.2.2+1)) else none else some (Sum.inl x.2.1)
theorem l57_13:CutOk Tryd.prog ⟨s57_13,iter w_szVersionS_L13 FUEL⟩ (.loop (loopOf Tryd.f57 13)):=loop_of mix_ok rfl tyl_ok (fl:=q57) ⟨c139,trivial⟩ (C:=C0) rfl (pts:=[]) (by kernel_rfl) trivial (fun _ _=>by kernel_rfl)
def w_szVersionS (x:List D3×Int):Option (Int):=bif decide (i64.wrap (x.2-(↑(List.length x.1):Int))<0) then some (-1) else(iter w_szVersionS_L13 FUEL (x.1,i64.wrap (x.2-(↑(List.length x.1):Int)),0)).bind fun x=>sumK x (fun y=>some y) fun z=>some z
abbrev k57:Cuts:=ctab [(13,⟨s57_13,iter w_szVersionS_L13 FUEL⟩)]
theorem c57:FnOk Tryd.prog 57 ⟨s57,w_szVersionS⟩:=fn_of2 mix_ok rfl tyl_ok (fl:=q57) ⟨c139,trivial⟩ Tryd.func57 rfl rfl (C:=k57) (pts:=[(⟨s57_13,iter w_szVersionS_L13 FUEL⟩,.loop (loopOf Tryd.f57 13))]) (by kernel_rfl) ⟨l57_13,trivial⟩ (fun _=>by kernel_rfl)
def s58:Sig:=⟨[.ro t23,.ro (.int .i64)],[((.int .i64),true)],false⟩
abbrev q58:List (FuncId×V.Fn):=[]
def w_szIntS (x:List Int×Int):Option (Int):=bif decide (i64.wrap (x.2-(↑(List.length x.1):Int))<0) then some (-1) else some (i64.wrap (x.2-(↑(List.length x.1):Int)))
theorem c58:FnOk Tryd.prog 58 ⟨s58,w_szIntS⟩:=fn_of mix_ok rfl tyl_ok (fl:=q58) trivial Tryd.func58 rfl rfl cuts0 (fun _=>by kernel_rfl)
def s120:Sig:=⟨[.ro t92,.ro (.int .i64)],[((.int .i64),true)],false⟩
abbrev q120:List (FuncId×V.Fn):=[]
def w_szAnswer (x:D5×Int):Option (Int):=bif decide (i64.wrap (x.2-(↑(List.length x.1.2.2.2.1):Int))<0) then some (-1) else some (i64.wrap (x.2-(↑(List.length x.1.2.2.2.1):Int)))
theorem c120:FnOk Tryd.prog 120 ⟨s120,w_szAnswer⟩:=fn_of mix_ok rfl tyl_ok (fl:=q120) trivial Tryd.func120 rfl rfl cuts0 (fun _=>by kernel_rfl)
def s140:Sig:=⟨[.ro t197,.ro (.int .i64)],[((.int .i64),true)],false⟩
abbrev q140:List (FuncId×V.Fn):=[(120,⟨s120,w_szAnswer⟩)]
def w_szSession (x:D2×Int):Option (Int):=(w_szAnswer (x.1.2.2,x.2)).bind fun x=>bif decide (x<0) then some (-1) else some x
theorem c140:FnOk Tryd.prog 140 ⟨s140,w_szSession⟩:=fn_of mix_ok rfl tyl_ok (fl:=q140) ⟨c120,trivial⟩ Tryd.func140 rfl rfl cuts0 (fun _=>by kernel_rfl)
def s59:Sig:=⟨[.ro (.sl 197 t197),.ro (.int .i64)],[((.int .i64),true)],false⟩
abbrev q59:List (FuncId×V.Fn):=[(140,⟨s140,w_szSession⟩)]
def s59_13:CutSig:=⟨27,[0,1,5],[.ro (.sl 197 t197),.ro (.int .i64),.ro (.int .i64)],[(.ex 0,[1],[((.int .i64),true)]),(.ret,[4],[((.int .i64),true)])]⟩
def w_szSessionS_L13 (go:List D2×Int×Int->Option (Int⊕Int)) (x:List D2×Int×Int):Option (Int⊕Int):=bif decide (x.2.2<(↑(List.length x.1):Int)) then bif decide (0<=x.2.2) then x.1[Int.toNat x.2.2]?.bind fun x_1=>(w_szSession (x_1,x.2.1)).bind fun x_2=>
 bif decide (x_2<0) then some (Sum.inr (-1)) else go (x.1,x_2,i64.wrap (x.2.2+1)) else none else some (Sum.inl x.2.1)
theorem l59_13:CutOk Tryd.prog ⟨s59_13,iter w_szSessionS_L13 FUEL⟩ (.loop (loopOf Tryd.f59 13)):=loop_of mix_ok rfl tyl_ok (fl:=q59) ⟨c140,trivial⟩ (C:=C0) rfl (pts:=[]) (by kernel_rfl) trivial (fun _ _=>by kernel_rfl)
def w_szSessionS (x:List D2×Int):Option (Int):=bif decide (i64.wrap (x.2-(↑(List.length x.1):Int))<0) then some (-1) else(iter w_szSessionS_L13 FUEL (x.1,i64.wrap (x.2-(↑(List.length x.1):Int)),0)).bind fun x=>sumK x (fun y=>some y) fun z=>some z
abbrev k59:Cuts:=ctab [(13,⟨s59_13,iter w_szSessionS_L13 FUEL⟩)]
theorem c59:FnOk Tryd.prog 59 ⟨s59,w_szSessionS⟩:=fn_of2 mix_ok rfl tyl_ok (fl:=q59) ⟨c140,trivial⟩ Tryd.func59 rfl rfl (C:=k59) (pts:=[(⟨s59_13,iter w_szSessionS_L13 FUEL⟩,.loop (loopOf Tryd.f59 13))]) (by kernel_rfl) ⟨l59_13,trivial⟩ (fun _=>by kernel_rfl)
def s12:Sig:=⟨[.ro t26,.ro (.int .i64)],[((.int .i64),true)],false⟩
abbrev q12:List (FuncId×V.Fn):=[(57,⟨s57,w_szVersionS⟩),(58,⟨s58,w_szIntS⟩),(59,⟨s59,w_szSessionS⟩)]
def w_szReg (x:D1×Int):Option (Int):=(w_szVersionS (x.1.1,x.2)).bind fun x_1=>bif decide (x_1<0) then some (-1) else(w_szIntS (x.1.2.1,x_1)).bind fun x_2=>bif decide (x_2<0) then some (-1) else(w_szSessionS (x.1.2.2,x_2)).bind fun x=>bif decide (x<0)
 then some (-1) else some x
theorem c12:FnOk Tryd.prog 12 ⟨s12,w_szReg⟩:=fn_of mix_ok rfl tyl_ok (fl:=q12) ⟨c57,c58,c59,trivial⟩ Tryd.func12 rfl rfl cuts0 (fun _=>by kernel_rfl)
def s13:Sig:=⟨[.ro t28,.ro (.int .i64)],[((.int .i64),true)],false⟩
abbrev q13:List (FuncId×V.Fn):=[]
def w_szOp (x:(Int×Int×Int×List UInt8)×Int):Option (Int):=bif decide (i64.wrap (x.2-(↑(List.length x.1.2.2.2):Int))<0) then some (-1) else some (i64.wrap (x.2-(↑(List.length x.1.2.2.2):Int)))
theorem c13:FnOk Tryd.prog 13 ⟨s13,w_szOp⟩:=fn_of mix_ok rfl tyl_ok (fl:=q13) trivial Tryd.func13 rfl rfl cuts0 (fun _=>by kernel_rfl)
def s84:Sig:=⟨[.ro (.int .i64),.ro (.int .i64),.ro (.int .i64)],[(.bool,true)],false⟩
abbrev q84:List (FuncId×V.Fn):=[]
def s_l1In (x:Int×Int×Int):Option (Bool):=(bif decide (x.2.1<=x.1) then some (decide (x.1<=x.2.2)) else some false).bind fun x=>some x
theorem c84:FnOk Tryd.prog 84 ⟨s84,s_l1In⟩:=fn_of mix_ok rfl tyl_ok (fl:=q84) trivial Tryd.func84 rfl rfl cuts0 (fun _=>by kernel_rfl)
def s169:Sig:=⟨[.ro (.sl 9 .str),.ro (.int .i64)],[(.str,true)],false⟩
abbrev q169:List (FuncId×V.Fn):=[]
def s_l7Bytes (x:List (List UInt8)×Int):Option (List UInt8):=bif decide (x.2<256) then some (List.map (fun(b:Int)=>UInt8.ofNat b.toNat) [u8.wrap x.2]) else bif decide (0<=i64.wrap (x.2-256)) then x.1[(i64.wrap (x.2-256)).toNat]?.bind fun x=>some x else none
theorem c169:FnOk Tryd.prog 169 ⟨s169,s_l7Bytes⟩:=fn_of mix_ok rfl tyl_ok (fl:=q169) trivial Tryd.func169 rfl rfl cuts0 (fun _=>by kernel_rfl)
def s94:Sig:=⟨[.ro t59],[((.sl 9 .str),true),(.bool,true)],false⟩
abbrev q94:List (FuncId×V.Fn):=[(84,⟨s84,s_l1In⟩),(169,⟨s169,s_l7Bytes⟩)]
def s94_31:CutSig:=⟨72,[4,5,7,8],[.own (.sl 9 .str),.ro (.int .i64),.ro .str,.ro (.int .i64)],[(.ex 2,[4],[((.sl 9 .str),true)]),(.ret,[2,3],[((.sl 9 .str),true),(.bool,true)])]⟩
def s_l7Table_L31 (go:List (List UInt8)×Int×List UInt8×Int->Option D6) (x:List (List UInt8)×Int×List UInt8×Int):Option D6:=bif decide (x.2.2.2<x.2.1) then bif decide (0<=x.2.2.2) then x.1[Int.toNat x.2.2.2]?.bind fun _=>x.1[Int.toNat x.2.2.2]?.bind fun x_2=>bif
 decide (x_2=x.2.2.1) then some (Sum.inr (x.1,false)) else go (x.1,x.2.1,x.2.2.1,i64.wrap (x.2.2.2+1)) else none else some (Sum.inl x.1)
theorem l94_31:CutOk Tryd.prog ⟨s94_31,iter s_l7Table_L31 FUEL⟩ (.loop (loopOf Tryd.f94 31)):=loop_of mix_ok rfl tyl_ok (fl:=q94) ⟨c84,c169,trivial⟩ (C:=C0) rfl (pts:=[]) (by kernel_rfl) trivial (fun _ _=>by kernel_rfl)
def s94_13:CutSig:=⟨72,[1,4,5],[.pin t59,.own (.sl 9 .str),.ro (.int .i64)],[(.ex 0,[4],[((.sl 9 .str),true)]),(.ret,[2,3],[((.sl 9 .str),true),(.bool,true)])]⟩
def s_l7Table_L13 (go:D4×List (List UInt8)×Int->Option D6) (x:D4×List (List UInt8)×Int):Option D6:=bif decide (x.2.2<(↑(List.length x.1.1):Int)) then bif decide (0<=x.2.2) then x.1.1[Int.toNat x.2.2]?.bind fun x_1=>(s_l1In
 (x_1.1,0,i64.wrap (255+x.2.2))).bind fun x_2=>(bif !!x_2 then(s_l1In (x_1.2,0,i64.wrap (255+x.2.2))).bind fun x=>some !x else some true).bind fun x_3=>bif x_3 then some (Sum.inr (x.2.1,false)) else(s_l7Bytes (x.2.1,x_1.1)).bind fun x_4=>(s_l7Bytes (x.2.1,x_1.2)).bind fun x_5=>bif decide (x_4.length+x_5.length<=4611686018427387904) then bif decide (24<
 (↑(x_4++x_5).length:Int)) then some (Sum.inr (x.2.1,false)) else(iter s_l7Table_L31 FUEL (x.2.1,x.2.2,x_4++x_5,0)).bind fun x_6=>sumK x_6 (fun y=>bif decide (y.length+(1:Nat)<=4294967296) then go (x.1,y++[x_4++x_5],i64.wrap (x.2.2+1)) else none) fun z=>some (Sum.inr (z.1,z.2)) else none else none else some (Sum.inl x.2.1)
theorem l94_13:CutOk Tryd.prog ⟨s94_13,iter s_l7Table_L13 FUEL⟩ (.loop (loopOf Tryd.f94 13)):=loop_of mix_ok rfl tyl_ok (fl:=q94) ⟨c84,c169,trivial⟩ (C:=ctab [(31,⟨s94_31,iter s_l7Table_L31 FUEL⟩)]) rfl (pts:=[(⟨s94_31,iter s_l7Table_L31 FUEL⟩,.loop (loopOf Tryd.f94 31))]) (by kernel_rfl) ⟨l94_31,trivial⟩ (fun _ _=>by kernel_rfl)
def s_l7Table (x:List D7×Unit):Option (List (List UInt8)×Bool):=bif decide (60<(↑(List.length x.1):Int)) then some (List.replicate 0 [],false) else(iter s_l7Table_L13 FUEL (x,List.replicate 0 [],0)).bind fun x=>sumK x (fun y=>some (y,true)) fun z=>some (z.1,z.2)
abbrev k94:Cuts:=ctab [(13,⟨s94_13,iter s_l7Table_L13 FUEL⟩)]
theorem c94:FnOk Tryd.prog 94 ⟨s94,s_l7Table⟩:=fn_of2 mix_ok rfl tyl_ok (fl:=q94) ⟨c84,c169,trivial⟩ Tryd.func94 rfl rfl (C:=k94) (pts:=[(⟨s94_13,iter s_l7Table_L13 FUEL⟩,.loop (loopOf Tryd.f94 13))]) (by kernel_rfl) ⟨l94_13,trivial⟩ (fun _=>by kernel_rfl)
def s30:Sig:=⟨[.ro t59],[(.bool,true)],false⟩
abbrev q30:List (FuncId×V.Fn):=[(94,⟨s94,s_l7Table⟩)]
def s_VocabOk (x:List D7×Unit):Option (Bool):=(s_l7Table x).bind fun x=>some x.2
theorem c30:FnOk Tryd.prog 30 ⟨s30,s_VocabOk⟩:=fn_of mix_ok rfl tyl_ok (fl:=q30) ⟨c94,trivial⟩ Tryd.func30 rfl rfl cuts0 (fun _=>by kernel_rfl)
def s171:Sig:=⟨[.ro (.int .i64)],[(.str,true)],false⟩
abbrev q171:List (FuncId×V.Fn):=[(84,⟨s84,s_l1In⟩)]
def s171_11:CutSig:=⟨25,[0,3],[.ro (.int .i64),.own t46],[(.ex 0,[0,3],[((.int .i64),true),(t46,true)])]⟩
def s_Var_L11 (go:Int×List Int->Option (Int×List Int)) (x:Int×List Int):Option (Int×List Int):=bif decide (128<=x.1) then bif decide (List.length x.2+(1:Nat)<=4294967296) then go (i64.wrap (Int.tdiv x.1 128),x.2++[u8.wrap (i64.wrap (128+Int.tmod x.1 128))]) else none else some (x.1,x.2)
theorem l171_11:CutOk Tryd.prog ⟨s171_11,iter s_Var_L11 FUEL⟩ (.loop (loopOf Tryd.f171 11)):=loop_of mix_ok rfl tyl_ok (fl:=q171) ⟨c84,trivial⟩ (C:=C0) rfl (pts:=[]) (by kernel_rfl) trivial (fun _ _=>by kernel_rfl)
def s_Var (x:Int):Option (List UInt8):=(s_l1In (x,0,562949953421311)).bind fun x_1=>bif !x_1 then some [] else(iter s_Var_L11 FUEL (x,List.replicate 0 0)).bind fun x=>bif decide (List.length x.2+(1:Nat)<=4294967296) then some (List.map (fun(b:Int)=>UInt8.ofNat b.toNat) (x.2++[u8.wrap x.1])) else none
abbrev k171:Cuts:=ctab [(11,⟨s171_11,iter s_Var_L11 FUEL⟩)]
theorem c171:FnOk Tryd.prog 171 ⟨s171,s_Var⟩:=fn_of2 mix_ok rfl tyl_ok (fl:=q171) ⟨c84,trivial⟩ Tryd.func171 rfl rfl (C:=k171) (pts:=[(⟨s171_11,iter s_Var_L11 FUEL⟩,.loop (loopOf Tryd.f171 11))]) (by kernel_rfl) ⟨l171_11,trivial⟩ (fun _=>by kernel_rfl)
def s97:Sig:=⟨[.ro t59],[(.str,true)],false⟩
abbrev q97:List (FuncId×V.Fn):=[(30,⟨s30,s_VocabOk⟩),(171,⟨s171,s_Var⟩)]
def s97_13:CutSig:=⟨38,[1,3,4],[.pin t59,.ro .str,.ro (.int .i64)],[(.ex 0,[3],[(.str,true)])]⟩
def s_Canon_L13 (go:D4×List UInt8×Int->Option (List UInt8)) (x:D4×List UInt8×Int):Option (List UInt8):=bif decide (x.2.2<(↑(List.length x.1.1):Int)) then bif decide (0<=x.2.2) then x.1.1[Int.toNat x.2.2]?.bind fun x_1=>(s_Var x_1.1).bind fun x_2=>bif decide (List.length x.2.1+x_2.length ≤
 4611686018427387904) then bif decide (0<=x.2.2) then x.1.1[Int.toNat x.2.2]?.bind fun x_3=>(s_Var x_3.2).bind fun x_4=>bif decide ((x.2.1++x_2).length+x_4.length<=4611686018427387904) then go (x.1,x.2.1++x_2++x_4,i64.wrap (x.2.2+1)) else none else none else none else none else some x.2.1
theorem l97_13:CutOk Tryd.prog ⟨s97_13,iter s_Canon_L13 FUEL⟩ (.loop (loopOf Tryd.f97 13)):=loop_of mix_ok rfl tyl_ok (fl:=q97) ⟨c30,c171,trivial⟩ (C:=C0) rfl (pts:=[]) (by kernel_rfl) trivial (fun _ _=>by kernel_rfl)
def s_Canon (x:List D7×Unit):Option (List UInt8):=(s_VocabOk x).bind fun x_1=>bif !x_1 then some [] else(s_Var (↑(List.length x.1):Int)).bind fun x_2=>bif decide ((3:Nat)+x_2.length<=4611686018427387904) then(iter s_Canon_L13 FUEL (x,[(98:UInt8),(112:UInt8),(101:UInt8)]++x_2,0)).bind fun x=>some x else none
abbrev k97:Cuts:=ctab [(13,⟨s97_13,iter s_Canon_L13 FUEL⟩)]
theorem c97:FnOk Tryd.prog 97 ⟨s97,s_Canon⟩:=fn_of2 mix_ok rfl tyl_ok (fl:=q97) ⟨c30,c171,trivial⟩ Tryd.func97 rfl rfl (C:=k97) (pts:=[(⟨s97_13,iter s_Canon_L13 FUEL⟩,.loop (loopOf Tryd.f97 13))]) (by kernel_rfl) ⟨l97_13,trivial⟩ (fun _=>by kernel_rfl)
def s159:Sig:=⟨[.ro .str],[((.int .i64),true),((.int .i64),true)],false⟩
abbrev q159:List (FuncId×V.Fn):=[(171,⟨s171,s_Var⟩)]
def s159_15:CutSig:=⟨39,[0,5,6],[.ro .str,.ro (.int .i64),.ro (.int .i64)],[(.ex 2,[5],[((.int .i64),true)])]⟩
def s_ReadVar_L15 (go:List UInt8×Int×Int->Option (Int)) (x:List UInt8×Int×Int):Option (Int):=bif decide (0<=x.2.2) then bif decide (0<=x.2.2) then x.1[Int.toNat x.2.2]?.bind fun x_1=>go (x.1,i64.wrap (i64.wrap (x.2.1*128)+(i64.wrap (↑x_1.toNat:Int)).tmod 128),i64.wrap (x.2.2-1)) else none else some x.2.1
theorem l159_15:CutOk Tryd.prog ⟨s159_15,iter s_ReadVar_L15 FUEL⟩ (.loop (loopOf Tryd.f159 15)):=loop_of mix_ok rfl tyl_ok (fl:=q159) ⟨c171,trivial⟩ (C:=C0) rfl (pts:=[]) (by kernel_rfl) trivial (fun _ _=>by kernel_rfl)
def s159_7:CutSig:=⟨39,[0,4],[.ro .str,.ro (.int .i64)],[(.ex 0,[],[]),(.ret,[2,3],[((.int .i64),true),((.int .i64),true)])]⟩
def s_ReadVar_L7 (go:List UInt8×Int->Option (Unit⊕Int×Int)) (x:List UInt8×Int):Option (Unit⊕Int×Int):=(bif decide (x.2<=7) then some (decide (x.2<=(↑(List.length x.1):Int))) else some false).bind fun x_1=>bif x_1 then(iter s_ReadVar_L15 FUEL (x.1,0,i64.wrap (x.2-1))).bind fun x_2=>(s_Var x_2).bind fun x_3=>bif decide (0<=x.2)&&decide
 (x.2<=(↑(List.length x.1):Int)) then bif decide (x_3=List.take (Int.toNat x.2) x.1) then some (Sum.inr (x_2,x.2)) else go (x.1,i64.wrap (x.2+1)) else none else some (Sum.inl ())
theorem l159_7:CutOk Tryd.prog ⟨s159_7,iter s_ReadVar_L7 FUEL⟩ (.loop (loopOf Tryd.f159 7)):=loop_of mix_ok rfl tyl_ok (fl:=q159) ⟨c171,trivial⟩ (C:=ctab [(15,⟨s159_15,iter s_ReadVar_L15 FUEL⟩)]) rfl (pts:=[(⟨s159_15,iter s_ReadVar_L15 FUEL⟩,.loop (loopOf Tryd.f159 15))]) (by kernel_rfl) ⟨l159_15,trivial⟩ (fun _ _=>by kernel_rfl)
def s_ReadVar (x:List UInt8):Option D7:=(iter s_ReadVar_L7 FUEL (x,1)).bind fun x=>sumK x (fun _=>some (0,0)) fun z=>some (z.1,z.2)
abbrev k159:Cuts:=ctab [(7,⟨s159_7,iter s_ReadVar_L7 FUEL⟩)]
theorem c159:FnOk Tryd.prog 159 ⟨s159,s_ReadVar⟩:=fn_of2 mix_ok rfl tyl_ok (fl:=q159) ⟨c171,trivial⟩ Tryd.func159 rfl rfl (C:=k159) (pts:=[(⟨s159_7,iter s_ReadVar_L7 FUEL⟩,.loop (loopOf Tryd.f159 7))]) (by kernel_rfl) ⟨l159_7,trivial⟩ (fun _=>by kernel_rfl)
def s81:Sig:=⟨[.ro .str],[(t59,true),(.bool,true)],false⟩
abbrev q81:List (FuncId×V.Fn):=[(97,⟨s97,s_Canon⟩),(159,⟨s159,s_ReadVar⟩)]
def s81_13:CutSig:=⟨66,[0,2,4,5],[.ro .str,.pio t59,.pio t59,.ro (.int .i64)],[(.ex 0,[],[]),(.ret,[3],[(.bool,true)])]⟩
def s_ReadCanon_L13 (go:List UInt8×D4×D4×Int->Option (D4×List D7×Unit⊕Bool×D4×List D7×Unit)) (x:List UInt8×D4×D4×Int):Option (D4×List D7×Unit⊕Bool×
 D4×List D7×Unit):=bif decide (x.2.2.2<(↑(List.length x.1):Int)) then bif decide (0<=x.2.2.2)&&decide (x.2.2.2<=(↑(List.length x.1):Int)) then(s_ReadVar (List.drop (Int.toNat x.2.2.2) x.1)).bind fun x_1=>bif decide (0<=i64.wrap (x.2.2.2+x_1.2))&&decide (i64.wrap (x.2.2.2+x_1.2)<=(↑(List.length x.1):Int)) then
 (s_ReadVar (List.drop (i64.wrap (x.2.2.2+x_1.2)).toNat x.1)).bind fun x_2=>(bif !decide (x_1.2=0) then some (decide (x_2.2=0)) else some true).bind fun x_3=>bif x_3 then some (Sum.inr (false,([],()),x.2.2.1)) else bif decide (List.length x.2.2.1.1+(1:Nat)<=4294967296) then go (x.1,x.2.1,(x.2.2.1.1++[(x_1.1,x_2.1)],x.2.2.1.2),i64.wrap (i64.wrap
 (x.2.2.2+x_1.2)+x_2.2)) else none else none else none else some (Sum.inl (x.2.1,x.2.2.1))
theorem l81_13:CutOk Tryd.prog ⟨s81_13,iter s_ReadCanon_L13 FUEL⟩ (.loop (loopOf Tryd.f81 13)):=loop_of mix_ok rfl tyl_ok (fl:=q81) ⟨c97,c159,trivial⟩ (C:=C0) rfl (pts:=[]) (by kernel_rfl) trivial (fun _ _=>by kernel_rfl)
def s_ReadCanon (x:List UInt8):Option (D4×Bool):=(bif !decide ((↑x.length:Int)<4) then some (decide (250<(↑x.length:Int))) else some true).bind fun x_1=>bif x_1 then some (([],()),false) else(iter s_ReadCanon_L13 FUEL (x,([],()),([],()),4)).bind fun x_2=>sumK x_2 (fun y=>(s_Canon y.2).bind fun x_3=>bif !decide (x_3=x) then
 some (([],()),false) else some (y.2,true)) fun z=>some (z.2.1,z.1)
abbrev k81:Cuts:=ctab [(13,⟨s81_13,iter s_ReadCanon_L13 FUEL⟩)]
theorem c81:FnOk Tryd.prog 81 ⟨s81,s_ReadCanon⟩:=fn_of2 mix_ok rfl tyl_ok (fl:=q81) ⟨c97,c159,trivial⟩ Tryd.func81 rfl rfl (C:=k81) (pts:=[(⟨s81_13,iter s_ReadCanon_L13 FUEL⟩,.loop (loopOf Tryd.f81 13))]) (by kernel_rfl) ⟨l81_13,trivial⟩ (fun _=>by kernel_rfl)
def s82:Sig:=⟨[.ro (.sl 52 t52),.ro .str],[((.int .i64),true)],false⟩
abbrev q82:List (FuncId×V.Fn):=[]
def s82_7:CutSig:=⟨21,[0,1,5],[.ro (.sl 52 t52),.ro .str,.ro (.int .i64)],[(.ex 0,[],[]),(.ret,[4],[((.int .i64),true)])]⟩
def s_l12Body_L7 (go:List D3×List UInt8×Int->Option (Unit⊕Int)) (x:List D3×List UInt8×Int):Option (Unit⊕Int):=bif decide (x.2.2<(↑(List.length x.1):Int)) then bif decide (0<=x.2.2) then x.1[Int.toNat x.2.2]?.bind fun x_1=>bif decide (x_1.1=x.2.1) then some (Sum.inr (i64.wrap (x.2.2+
 1))) else go (x.1,x.2.1,i64.wrap (x.2.2+1)) else none else some (Sum.inl ())
theorem l82_7:CutOk Tryd.prog ⟨s82_7,iter s_l12Body_L7 FUEL⟩ (.loop (loopOf Tryd.f82 7)):=loop_of mix_ok rfl tyl_ok (fl:=q82) trivial (C:=C0) rfl (pts:=[]) (by kernel_rfl) trivial (fun _ _=>by kernel_rfl)
def s_l12Body (x:List D3×List UInt8):Option (Int):=(iter s_l12Body_L7 FUEL (x.1,x.2,0)).bind fun x=>sumK x (fun _=>some 0) fun z=>some z
abbrev k82:Cuts:=ctab [(7,⟨s82_7,iter s_l12Body_L7 FUEL⟩)]
theorem c82:FnOk Tryd.prog 82 ⟨s82,s_l12Body⟩:=fn_of2 mix_ok rfl tyl_ok (fl:=q82) trivial Tryd.func82 rfl rfl (C:=k82) (pts:=[(⟨s82_7,iter s_l12Body_L7 FUEL⟩,.loop (loopOf Tryd.f82 7))]) (by kernel_rfl) ⟨l82_7,trivial⟩ (fun _=>by kernel_rfl)
def s160:Sig:=⟨[],[(t214,true)],false⟩
abbrev q160:List (FuncId×V.Fn):=[]
def s_l2Begin (_:Unit):Option (List Int):=some [1779033703,3144134277,1013904242,2773480762,1359893119,2600822924,528734635,1541459225]
theorem c160:FnOk Tryd.prog 160 ⟨s160,s_l2Begin⟩:=fn_of mix_ok rfl tyl_ok (fl:=q160) trivial Tryd.func160 rfl rfl cuts0 (fun _=>by kernel_rfl)
def s161:Sig:=⟨[],[(t214,true)],false⟩
abbrev q161:List (FuncId×V.Fn):=[]
def s_l2Table (_:Unit):Option (List Int):=some (((((((((((((((((((((((((((((((((((((((((((((((((((((((((((((((((List.replicate 64 0).set 0 1116352408).set 1 1899447441).set 2 3049323471).set 3 3921009573).set 4 961987163).set 5 1508970993).set 6 2453635748).set 7 2870763221).set 8 3624381080).set 9 310598401).set 10 607225278).set 11 1426881987).set 12 1925078388).set 13
 2162078206).set 14 2614888103).set 15 3248222580).set 16 3835390401).set 17 4022224774).set 18 264347078).set 19 604807628).set 20 770255983).set 21 1249150122).set 22 1555081692).set 23 1996064986).set 24 2554220882).set 25 2821834349).set 26 2952996808).set 27 3210313671).set 28 3336571891).set 29 3584528711).set 30 113926993).set 31 338241895).set 32 666307205).set 33 773529912).set 34
 1294757372).set 35 1396182291).set 36 1695183700).set 37 1986661051).set 38 2177026350).set 39 2456956037).set 40 2730485921).set 41 2820302411).set 42 3259730800).set 43 3345764771).set 44 3516065817).set 45 3600352804).set 46 4094571909).set 47 275423344).set 48 430227734).set 49 506948616).set 50 659060556).set 51 883997877).set 52 958139571).set 53 1322822218).set 54 1537002063).set 55
 1747873779).set 56 1955562222).set 57 2024104815).set 58 2227730452).set 59 2361852424).set 60 2428436474).set 61 2756734187).set 62 3204031479).set 63 3329325298)
theorem c161:FnOk Tryd.prog 161 ⟨s161,s_l2Table⟩:=fn_of mix_ok rfl tyl_ok (fl:=q161) trivial Tryd.func161 rfl rfl cuts0 (fun _=>by kernel_rfl)
def s162:Sig:=⟨[.ro (.int .i64),.ro (.int .i64)],[(.str,true)],false⟩
abbrev q162:List (FuncId×V.Fn):=[(84,⟨s84,s_l1In⟩)]
def s162_13:CutSig:=⟨31,[0,1,5,6],[.ro (.int .i64),.ro (.int .i64),.ro .str,.ro (.int .i64)],[(.ex 0,[0,5],[((.int .i64),true),(.str,true)])]⟩
def s_Fixed_L13 (go:Int×Int×List UInt8×Int->Option (Int×List UInt8)) (x:Int×Int×List UInt8×Int):Option (Int×List UInt8):=bif decide (x.2.2.2<x.2.1) then bif decide ((List.map (fun(b:Int)=>UInt8.ofNat b.toNat) [u8.wrap (Int.tmod x.1 256)]).length+List.length x.2.2.1<=4611686018427387904) then go (i64.wrap (Int.tdiv x.1 256),x.2.1,
 List.map (fun(b:Int)=>UInt8.ofNat b.toNat) [u8.wrap (Int.tmod x.1 256)]++x.2.2.1,i64.wrap (x.2.2.2+1)) else none else some (x.1,x.2.2.1)
theorem l162_13:CutOk Tryd.prog ⟨s162_13,iter s_Fixed_L13 FUEL⟩ (.loop (loopOf Tryd.f162 13)):=loop_of mix_ok rfl tyl_ok (fl:=q162) ⟨c84,trivial⟩ (C:=C0) rfl (pts:=[]) (by kernel_rfl) trivial (fun _ _=>by kernel_rfl)
def s_Fixed (x:Int×Int):Option (List UInt8):=(s_l1In (x.2,1,7)).bind fun x_1=>(bif !!x_1 then some (decide (x.1<0)) else some true).bind fun x_2=>bif x_2 then some [] else(iter s_Fixed_L13 FUEL (x.1,x.2,[],0)).bind fun x=>bif decide (0<x.1) then some [] else some x.2
abbrev k162:Cuts:=ctab [(13,⟨s162_13,iter s_Fixed_L13 FUEL⟩)]
theorem c162:FnOk Tryd.prog 162 ⟨s162,s_Fixed⟩:=fn_of2 mix_ok rfl tyl_ok (fl:=q162) ⟨c84,trivial⟩ Tryd.func162 rfl rfl (C:=k162) (pts:=[(⟨s162_13,iter s_Fixed_L13 FUEL⟩,.loop (loopOf Tryd.f162 13))]) (by kernel_rfl) ⟨l162_13,trivial⟩ (fun _=>by kernel_rfl)
def s194:Sig:=⟨[.ro (.int .u32),.ro (.int .i64)],[((.int .u32),true)],false⟩
abbrev q194:List (FuncId×V.Fn):=[]
def s_l2Turn (x:Int×Int):Option (Int):=bif decide (0<=u64.wrap x.2) then bif decide (0<=u64.wrap (i64.wrap (32-x.2))) then some (u32.wrap (↑(BitVec.ofInt u32.bits (Int.fdiv x.1 (2^min (u64.wrap x.2).toNat u32.bits))|||BitVec.ofInt u32.bits (u32.wrap (x.1*2^min (u64.wrap
 (i64.wrap (32-x.2))).toNat u32.bits))).toNat:Int)) else none else none
theorem c194:FnOk Tryd.prog 194 ⟨s194,s_l2Turn⟩:=fn_of mix_ok rfl tyl_ok (fl:=q194) trivial Tryd.func194 rfl rfl cuts0 (fun _=>by kernel_rfl)
def s163:Sig:=⟨[.ro t214,.ro t214,.ro .str],[(t214,true)],false⟩
abbrev q163:List (FuncId×V.Fn):=[(194,⟨s194,s_l2Turn⟩)]
def s163_9:CutSig:=⟨256,[2,7,8],[.ro .str,.own t214,.ro (.int .i64)],[(.ex 0,[7],[(t214,true)])]⟩
def s_l2Block_L9 (go:List UInt8×List Int×Int->Option (List Int)) (x:List UInt8×List Int×Int):Option (List Int):=bif decide (x.2.2<16) then bif decide (0<=i64.wrap (4*x.2.2)) then x.1[(i64.wrap (4*x.2.2)).toNat]?.bind fun x_1=>bif decide (0<=i64.wrap (i64.wrap (4*x.2.2)+1)) then x.1[(i64.wrap (i64.wrap (4
 *x.2.2)+1)).toNat]?.bind fun x_2=>bif decide (0<=i64.wrap (i64.wrap (4*x.2.2)+2)) then x.1[(i64.wrap (i64.wrap (4*x.2.2)+2)).toNat]?.bind fun x_3=>bif decide (0<=i64.wrap (i64.wrap (4*x.2.2)+3)) then x.1[(i64.wrap (i64.wrap (4*x.2.2)+3)).toNat]?.bind fun x_4=>bif decide (List.length x.2.1+(1:Nat) ≤
 4294967296) then go (x.1,x.2.1++[u32.wrap (↑(BitVec.ofInt u32.bits (u32.wrap (↑(BitVec.ofInt u32.bits (u32.wrap (↑(BitVec.ofInt u32.bits (u32.wrap (u32.wrap (↑x_1.toNat:Int)*2^min (Int.toNat 24) u32.bits))|||BitVec.ofInt u32.bits (u32.wrap (u32.wrap (↑x_2.toNat:Int)*2^min (Int.toNat
 16) u32.bits))).toNat:Int))|||BitVec.ofInt u32.bits (u32.wrap (u32.wrap (↑x_3.toNat:Int)*2^min (Int.toNat 8) u32.bits))).toNat:Int))|||BitVec.ofInt u32.bits (u32.wrap (↑x_4.toNat:Int))).toNat:Int)],i64.wrap (x.2.2+1)) else none else none else none else none else none else some x.2.1
theorem l163_9:CutOk Tryd.prog ⟨s163_9,iter s_l2Block_L9 FUEL⟩ (.loop (loopOf Tryd.f163 9)):=loop_of mix_ok rfl tyl_ok (fl:=q163) ⟨c194,trivial⟩ (C:=C0) rfl (pts:=[]) (by kernel_rfl) trivial (fun _ _=>by kernel_rfl)
def s163_17:CutSig:=⟨256,[7,9],[.own t214,.ro (.int .i64)],[(.ex 2,[7],[(t214,true)])]⟩
def s_l2Block_L17 (go:List Int×Int->Option (List Int)) (x:List Int×Int):Option (List Int):=bif decide (x.2<64) then bif decide (0<=i64.wrap (x.2-15)) then x.1[(i64.wrap (x.2-15)).toNat]?.bind fun _=>x.1[Int.toNat (i64.wrap (x.2-15))]?.bind fun x_2=>(s_l2Turn (x_2,7)).bind fun x_3=>bif decide (0<=i64.wrap (x.2-15))
 then x.1[(i64.wrap (x.2-15)).toNat]?.bind fun _=>x.1[Int.toNat (i64.wrap (x.2-15))]?.bind fun x_5=>(s_l2Turn (x_5,18)).bind fun x_6=>bif decide (0<=i64.wrap (x.2-15)) then x.1[(i64.wrap (x.2-15)).toNat]?.bind fun _=>x.1[Int.toNat (i64.wrap (x.2-15))]?.bind fun x_8=>bif decide (0<=i64.wrap (x.2-2)) then
 x.1[(i64.wrap (x.2-2)).toNat]?.bind fun _=>x.1[Int.toNat (i64.wrap (x.2-2))]?.bind fun x_10=>(s_l2Turn (x_10,17)).bind fun x_11=>bif decide (0<=i64.wrap (x.2-2)) then x.1[(i64.wrap (x.2-2)).toNat]?.bind fun _=>x.1[Int.toNat (i64.wrap (x.2-2))]?.bind fun x_13=>(s_l2Turn (x_13,19)).bind fun x_14=>bif decide (0<=i64.wrap
 (x.2-2)) then x.1[(i64.wrap (x.2-2)).toNat]?.bind fun _=>x.1[Int.toNat (i64.wrap (x.2-2))]?.bind fun x_16=>bif decide (0<=i64.wrap (x.2-16)) then x.1[(i64.wrap (x.2-16)).toNat]?.bind fun _=>x.1[Int.toNat (i64.wrap (x.2-16))]?.bind fun x_18=>bif decide (0<=i64.wrap (x.2-7)) then x.1[(i64.wrap (x.2-
 7)).toNat]?.bind fun _=>x.1[Int.toNat (i64.wrap (x.2-7))]?.bind fun x_20=>bif decide (List.length x.1+(1:Nat)<=4294967296) then go (x.1++[u32.wrap (u32.wrap (u32.wrap (x_18+u32.wrap (↑(BitVec.ofInt u32.bits (u32.wrap (↑(BitVec.ofInt u32.bits x_3^^^BitVec.ofInt u32.bits x_6).toNat:Int))^^^BitVec.ofInt
 u32.bits (x_8.fdiv (2^min (Int.toNat 3) u32.bits))).toNat:Int))+x_20)+u32.wrap (↑(BitVec.ofInt u32.bits (u32.wrap (↑(BitVec.ofInt u32.bits x_11^^^BitVec.ofInt u32.bits x_14).toNat:Int))^^^BitVec.ofInt u32.bits (x_16.fdiv (2^min (Int.toNat 10) u32.bits))).toNat:Int))],i64.wrap (x.2+1)) else none
 else none else none else none else none else none else none else none else none else some x.1
theorem l163_17:CutOk Tryd.prog ⟨s163_17,iter s_l2Block_L17 FUEL⟩ (.loop (loopOf Tryd.f163 17)):=loop_of mix_ok rfl tyl_ok (fl:=q163) ⟨c194,trivial⟩ (C:=C0) rfl (pts:=[]) (by kernel_rfl) trivial (fun _ _=>by kernel_rfl)
def s163_31:CutSig:=⟨256,[1,7,12,13],[.ro t214,.ro t214,.own t214,.ro (.int .i64)],[(.ex 4,[12],[(t214,true)])]⟩
def s_l2Block_L31 (go:List Int×List Int×List Int×Int->Option (List Int)) (x:List Int×List Int×List Int×Int):Option (List Int):=bif decide (x.2.2.2<64) then x.2.2.1[Int.toNat 4]?.bind fun _=>x.2.2.1[4]?.bind fun x_2=>(s_l2Turn (x_2,6)).bind fun x_3=>x.2.2.1[Int.toNat 4]?.bind fun _=>x.2.2.1[4]?.bind fun x_5=>(s_l2Turn (x_5,11)).bind fun x_6=>
 x.2.2.1[Int.toNat 4]?.bind fun _=>x.2.2.1[4]?.bind fun x_8=>(s_l2Turn (x_8,25)).bind fun x_9=>x.2.2.1[Int.toNat 7]?.bind fun _=>x.2.2.1[7]?.bind fun x_11=>x.2.2.1[Int.toNat 4]?.bind fun _=>x.2.2.1[4]?.bind fun x_13=>x.2.2.1[Int.toNat 5]?.bind fun _=>x.2.2.1[5]?.bind fun x_15=>x.2.2.1[Int.toNat 4]?.bind fun _=>x.2.2.1[4]?.bind fun x_17=>x.2.2.1[Int.toNat
 6]?.bind fun _=>x.2.2.1[6]?.bind fun x_19=>bif decide (0<=x.2.2.2) then x.1[Int.toNat x.2.2.2]?.bind fun x_20=>bif decide (0<=x.2.2.2) then x.2.1[Int.toNat x.2.2.2]?.bind fun x_21=>x.2.2.1[Int.toNat 0]?.bind fun _=>x.2.2.1[0]?.bind fun x_23=>(s_l2Turn (x_23,2)).bind fun x_24=>x.2.2.1[Int.toNat 0]?.bind fun _=>x.2.2.1[0]?.bind fun x_26=>(s_l2Turn (x_26,13)).bind fun
 x_27=>x.2.2.1[Int.toNat 0]?.bind fun _=>x.2.2.1[0]?.bind fun x_29=>(s_l2Turn (x_29,22)).bind fun x_30=>x.2.2.1[Int.toNat 0]?.bind fun _=>x.2.2.1[0]?.bind fun x_32=>x.2.2.1[Int.toNat 1]?.bind fun _=>x.2.2.1[1]?.bind fun x_34=>x.2.2.1[Int.toNat 0]?.bind fun _=>x.2.2.1[0]?.bind fun x_36=>x.2.2.1[Int.toNat 2]?.bind fun _=>x.2.2.1[2]?.bind fun x_38=>
 x.2.2.1[Int.toNat 1]?.bind fun _=>x.2.2.1[1]?.bind fun x_40=>x.2.2.1[Int.toNat 2]?.bind fun _=>x.2.2.1[2]?.bind fun x_42=>x.2.2.1[Int.toNat 0]?.bind fun _=>x.2.2.1[0]?.bind fun x_44=>x.2.2.1[Int.toNat 1]?.bind fun _=>x.2.2.1[1]?.bind fun x_46=>x.2.2.1[Int.toNat 2]?.bind fun _=>x.2.2.1[2]?.bind fun x_48=>x.2.2.1[Int.toNat 3]?.bind fun _=>x.2.2.1[3]?.bind
 fun x_50=>x.2.2.1[Int.toNat 4]?.bind fun _=>x.2.2.1[4]?.bind fun x_52=>x.2.2.1[Int.toNat 5]?.bind fun _=>x.2.2.1[5]?.bind fun x_54=>x.2.2.1[Int.toNat 6]?.bind fun _=>x.2.2.1[6]?.bind fun x_56=>go (x.1,x.2.1,[u32.wrap (u32.wrap (u32.wrap (u32.wrap (u32.wrap (x_11+u32.wrap (↑(BitVec.ofInt u32.bits (u32.wrap
 (↑(BitVec.ofInt u32.bits x_3^^^BitVec.ofInt u32.bits x_6).toNat:Int))^^^BitVec.ofInt u32.bits x_9).toNat:Int))+u32.wrap (↑(BitVec.ofInt u32.bits (u32.wrap (↑(BitVec.ofInt u32.bits x_13&&&BitVec.ofInt u32.bits x_15).toNat:Int))^^^BitVec.ofInt u32.bits (u32.wrap (↑(BitVec.ofInt u32.bits
 (u32.wrap (↑(BitVec.ofInt u32.bits (if false=true then -1 else u32.max)^^^BitVec.ofInt u32.bits x_17).toNat:Int))&&&BitVec.ofInt u32.bits x_19).toNat:Int))).toNat:Int))+x_20)+x_21)+u32.wrap (u32.wrap (↑(BitVec.ofInt u32.bits (u32.wrap (↑(BitVec.ofInt u32.bits x_24^^^BitVec.ofInt u32.bits
 x_27).toNat:Int))^^^BitVec.ofInt u32.bits x_30).toNat:Int)+u32.wrap (↑(BitVec.ofInt u32.bits (u32.wrap (↑(BitVec.ofInt u32.bits (u32.wrap (↑(BitVec.ofInt u32.bits x_32&&&BitVec.ofInt u32.bits x_34).toNat:Int))^^^BitVec.ofInt u32.bits (u32.wrap (↑(BitVec.ofInt u32.bits x_36&&&BitVec.ofInt
 u32.bits x_38).toNat:Int))).toNat:Int))^^^BitVec.ofInt u32.bits (u32.wrap (↑(BitVec.ofInt u32.bits x_40&&&BitVec.ofInt u32.bits x_42).toNat:Int))).toNat:Int))),x_44,x_46,x_48,u32.wrap (x_50+u32.wrap (u32.wrap (u32.wrap (u32.wrap (x_11+u32.wrap (↑(BitVec.ofInt u32.bits
 (u32.wrap (↑(BitVec.ofInt u32.bits x_3^^^BitVec.ofInt u32.bits x_6).toNat:Int))^^^BitVec.ofInt u32.bits x_9).toNat:Int))+u32.wrap (↑(BitVec.ofInt u32.bits (u32.wrap (↑(BitVec.ofInt u32.bits x_13&&&BitVec.ofInt u32.bits x_15).toNat:Int))^^^BitVec.ofInt u32.bits (u32.wrap (↑(BitVec.ofInt
 u32.bits (u32.wrap (↑(BitVec.ofInt u32.bits (if false=true then -1 else u32.max)^^^BitVec.ofInt u32.bits x_17).toNat:Int))&&&BitVec.ofInt u32.bits x_19).toNat:Int))).toNat:Int))+x_20)+x_21)),x_52,x_54,x_56],i64.wrap (x.2.2.2+1)) else none else none else some x.2.2.1
theorem l163_31:CutOk Tryd.prog ⟨s163_31,iter s_l2Block_L31 FUEL⟩ (.loop (loopOf Tryd.f163 31)):=loop_of mix_ok rfl tyl_ok (fl:=q163) ⟨c194,trivial⟩ (C:=C0) rfl (pts:=[]) (by kernel_rfl) trivial (fun _ _=>by kernel_rfl)
def s163_49:CutSig:=⟨256,[0,12,18,19],[.ro t214,.ro t214,.own t214,.ro (.int .i64)],[(.ex 6,[18],[(t214,true)])]⟩
def s_l2Block_L49 (go:List Int×List Int×List Int×Int->Option (List Int)) (x:List Int×List Int×List Int×Int):Option (List Int):=bif decide (x.2.2.2<8) then bif decide (0<=x.2.2.2) then x.1[Int.toNat x.2.2.2]?.bind fun x_1=>bif decide (0<=x.2.2.2) then x.2.1[Int.toNat x.2.2.2]?.bind fun x_2=>bif decide (List.length x.2.2.1+(1:Nat)<=4294967296) then go
 (x.1,x.2.1,x.2.2.1++[u32.wrap (x_1+x_2)],i64.wrap (x.2.2.2+1)) else none else none else none else some x.2.2.1
theorem l163_49:CutOk Tryd.prog ⟨s163_49,iter s_l2Block_L49 FUEL⟩ (.loop (loopOf Tryd.f163 49)):=loop_of mix_ok rfl tyl_ok (fl:=q163) ⟨c194,trivial⟩ (C:=C0) rfl (pts:=[]) (by kernel_rfl) trivial (fun _ _=>by kernel_rfl)
def s_l2Block (x:List Int×List Int×List UInt8):Option (List Int):=(iter s_l2Block_L9 FUEL (x.2.2,List.replicate 0 0,0)).bind fun x_1=>(iter s_l2Block_L17 FUEL (x_1,16)).bind fun x_2=>bif decide ((0:Nat)+List.length x.1<=4294967296) then(iter s_l2Block_L31 FUEL (x.2.1,x_2,x.1,0)).bind fun x_3=>(iter s_l2Block_L49 FUEL (x.1,x_3,List.replicate 0 0,
 0)).bind fun x=>some x else none
abbrev k163:Cuts:=ctab [(9,⟨s163_9,iter s_l2Block_L9 FUEL⟩),(17,⟨s163_17,iter s_l2Block_L17 FUEL⟩),(31,⟨s163_31,iter s_l2Block_L31 FUEL⟩),(49,⟨s163_49,iter s_l2Block_L49 FUEL⟩)]
theorem c163:FnOk Tryd.prog 163 ⟨s163,s_l2Block⟩:=fn_of2 mix_ok rfl tyl_ok (fl:=q163) ⟨c194,trivial⟩ Tryd.func163 rfl rfl (C:=k163) (pts:=[(⟨s163_9,iter s_l2Block_L9 FUEL⟩,.loop (loopOf Tryd.f163 9)),(⟨s163_17,iter s_l2Block_L17 FUEL⟩,.loop (loopOf Tryd.f163 17)),(⟨s163_31,iter s_l2Block_L31 FUEL⟩,.loop (loopOf Tryd.f163 31)),(⟨s163_49,iter s_l2Block_L49 FUEL⟩,.loop (loopOf Tryd.f163 49))]) (by kernel_rfl) ⟨l163_9,l163_17,l163_31,l163_49,trivial⟩ (fun _=>by kernel_rfl)
def s83:Sig:=⟨[.ro .str],[(.str,true)],false⟩
abbrev q83:List (FuncId×V.Fn):=[(160,⟨s160,s_l2Begin⟩),(161,⟨s161,s_l2Table⟩),(162,⟨s162,s_Fixed⟩),(163,⟨s163,s_l2Block⟩)]
def s83_11:CutSig:=⟨86,[0,5],[.ro .str,.own t46],[(.ex 0,[5],[(t46,true)])]⟩
def s_Sha_L11 (go:List UInt8×List Int->Option (List Int)) (x:List UInt8×List Int):Option (List Int):=bif !decide ((i64.wrap ((↑(List.length x.1):Int)+(↑(List.length x.2):Int))).tmod 64=56) then bif true&&(false||[3,2].contains 3||[].contains 3)&&decide (List.length x.2+(1:Nat)<=4294967296) then go (x.1,x.2++[0]) else none else some x.2
theorem l83_11:CutOk Tryd.prog ⟨s83_11,iter s_Sha_L11 FUEL⟩ (.loop (loopOf Tryd.f83 11)):=loop_of mix_ok rfl tyl_ok (fl:=q83) ⟨c160,c161,c162,c163,trivial⟩ (C:=C0) rfl (pts:=[]) (by kernel_rfl) trivial (fun _ _=>by kernel_rfl)
def s83_21:CutSig:=⟨86,[0,3,4,7,8],[.ro .str,.own t214,.ro t214,.ro (.int .i64),.ro (.int .i64)],[(.ex 2,[3],[(t214,true)])]⟩
def s_Sha_L21 (go:List UInt8×List Int×List Int×Int×Int->Option (List Int)) (x:List UInt8×List Int×List Int×Int×Int):Option (List Int):=bif decide (x.2.2.2.2<x.2.2.2.1) then bif decide (0<=x.2.2.2.2)&&decide (x.2.2.2.2<=i64.wrap (x.2.2.2.2+64))&&decide (0<=i64.wrap (x.2.2.2.2+64))&&decide (i64.wrap (x.2.2.2.2+64) ≤
 (↑(List.length x.1):Int)) then(s_l2Block (x.2.1,x.2.2.1,List.drop (Int.toNat x.2.2.2.2) (List.take (i64.wrap (x.2.2.2.2+64)).toNat x.1))).bind fun x_1=>go (x.1,x_1,x.2.2.1,x.2.2.2.1,i64.wrap (x.2.2.2.2+64)) else none else some x.2.1
theorem l83_21:CutOk Tryd.prog ⟨s83_21,iter s_Sha_L21 FUEL⟩ (.loop (loopOf Tryd.f83 21)):=loop_of mix_ok rfl tyl_ok (fl:=q83) ⟨c160,c161,c162,c163,trivial⟩ (C:=C0) rfl (pts:=[]) (by kernel_rfl) trivial (fun _ _=>by kernel_rfl)
def s83_31:CutSig:=⟨86,[3,4,9,10],[.own t214,.ro t214,.ro .str,.ro (.int .i64)],[(.ex 4,[3],[(t214,true)])]⟩
def s_Sha_L31 (go:List Int×List Int×List UInt8×Int->Option (List Int)) (x:List Int×List Int×List UInt8×Int):Option (List Int):=bif decide (i64.wrap (x.2.2.2+64)<=(↑(List.length x.2.2.1):Int)) then bif decide (0<=x.2.2.2)&&decide (x.2.2.2<=i64.wrap (x.2.2.2+64))&&decide (0<=i64.wrap (x.2.2.2+64))&&decide (i64.wrap
 (x.2.2.2+64)<=(↑(List.length x.2.2.1):Int)) then(s_l2Block (x.1,x.2.1,List.drop (Int.toNat x.2.2.2) (List.take (i64.wrap (x.2.2.2+64)).toNat x.2.2.1))).bind fun x_1=>go (x_1,x.2.1,x.2.2.1,i64.wrap (x.2.2.2+64)) else none else some x.1
theorem l83_31:CutOk Tryd.prog ⟨s83_31,iter s_Sha_L31 FUEL⟩ (.loop (loopOf Tryd.f83 31)):=loop_of mix_ok rfl tyl_ok (fl:=q83) ⟨c160,c161,c162,c163,trivial⟩ (C:=C0) rfl (pts:=[]) (by kernel_rfl) trivial (fun _ _=>by kernel_rfl)
def s83_41:CutSig:=⟨86,[3,11,12],[.ro t214,.ro .str,.ro (.int .i64)],[(.ex 6,[11],[(.str,true)])]⟩
def s_Sha_L41 (go:List Int×List UInt8×Int->Option (List UInt8)) (x:List Int×List UInt8×Int):Option (List UInt8):=bif decide (x.2.2<8) then bif decide (0<=x.2.2) then x.1[Int.toNat x.2.2]?.bind fun x_1=>(s_Fixed (i64.wrap x_1,4)).bind fun x_2=>bif decide (List.length x.2.1+x_2.length<=4611686018427387904) then go (x.1,x.2.1++x_2,
 i64.wrap (x.2.2+1)) else none else none else some x.2.1
theorem l83_41:CutOk Tryd.prog ⟨s83_41,iter s_Sha_L41 FUEL⟩ (.loop (loopOf Tryd.f83 41)):=loop_of mix_ok rfl tyl_ok (fl:=q83) ⟨c160,c161,c162,c163,trivial⟩ (C:=C0) rfl (pts:=[]) (by kernel_rfl) trivial (fun _ _=>by kernel_rfl)
def s_Sha (x:List UInt8):Option (List UInt8):=(s_l2Begin ()).bind fun x_1=>(s_l2Table ()).bind fun x_2=>(iter s_Sha_L11 FUEL (x,[128])).bind fun x_3=>bif decide ((List.map (fun(b:Int)=>UInt8.ofNat b.toNat) x_3).length+(List.map (fun(b:Int)=>UInt8.ofNat b.toNat) [0]).length<=4611686018427387904) then(s_Fixed (i64.wrap (8*(↑x.length:Int)),
 7)).bind fun x_4=>bif decide ((List.map (fun(b:Int)=>UInt8.ofNat b.toNat) x_3++List.map (fun(b:Int)=>UInt8.ofNat b.toNat) [0]).length+x_4.length<=4611686018427387904) then(iter s_Sha_L21 FUEL (x,x_1,x_2,i64.wrap (i64.wrap ((↑x.length:Int).tdiv 64)*64),0)).bind fun x_5=>bif decide (0<=i64.wrap (i64.wrap ((↑x.length:Int).tdiv 64)*
 64))&&decide (i64.wrap (i64.wrap ((↑x.length:Int).tdiv 64)*64)<=(↑x.length:Int)) then bif decide ((List.drop (i64.wrap (i64.wrap ((↑x.length:Int).tdiv 64)*64)).toNat x).length+(List.map (fun(b:Int)=>UInt8.ofNat b.toNat) x_3++List.map (fun(b:Int)=>UInt8.ofNat b.toNat) [0]++x_4).length<=4611686018427387904) then(iter s_Sha_L31 FUEL
 (x_5,x_2,List.drop (i64.wrap (i64.wrap ((↑x.length:Int).tdiv 64)*64)).toNat x++(List.map (fun(b:Int)=>UInt8.ofNat b.toNat) x_3++List.map (fun(b:Int)=>UInt8.ofNat b.toNat) [0]++x_4),0)).bind fun x=>(iter s_Sha_L41 FUEL (x,[],0)).bind fun x=>some x else none else none else none else none
abbrev k83:Cuts:=ctab [(11,⟨s83_11,iter s_Sha_L11 FUEL⟩),(21,⟨s83_21,iter s_Sha_L21 FUEL⟩),(31,⟨s83_31,iter s_Sha_L31 FUEL⟩),(41,⟨s83_41,iter s_Sha_L41 FUEL⟩)]
theorem c83:FnOk Tryd.prog 83 ⟨s83,s_Sha⟩:=fn_of2 mix_ok rfl tyl_ok (fl:=q83) ⟨c160,c161,c162,c163,trivial⟩ Tryd.func83 rfl rfl (C:=k83) (pts:=[(⟨s83_11,iter s_Sha_L11 FUEL⟩,.loop (loopOf Tryd.f83 11)),(⟨s83_21,iter s_Sha_L21 FUEL⟩,.loop (loopOf Tryd.f83 21)),(⟨s83_31,iter s_Sha_L31 FUEL⟩,.loop (loopOf Tryd.f83 31)),(⟨s83_41,iter s_Sha_L41 FUEL⟩,.loop (loopOf Tryd.f83 41))]) (by kernel_rfl) ⟨l83_11,l83_21,l83_31,l83_41,trivial⟩ (fun _=>by kernel_rfl)
def s85:Sig:=⟨[.ro t36],[(.bool,true)],false⟩
abbrev q85:List (FuncId×V.Fn):=[(84,⟨s84,s_l1In⟩)]
def s_AnswerOk (x:Int×Int×Int×List UInt8×Int×Int):Option (Bool):=(s_l1In (x.1,0,5)).bind fun x_1=>(bif x_1 then(s_l1In (x.2.1,0,6)).bind fun x=>some x else some false).bind fun x_2=>(bif x_2 then(s_l1In (x.2.2.1,0,4)).bind fun x=>some x else some false).bind fun x_3=>(bif x_3 then(bif !decide ((↑(List.length x.2.2.2.1):Int)=0) then some (decide
 ((↑(List.length x.2.2.2.1):Int)=32)) else some true).bind fun x=>some x else some false).bind fun x_4=>(bif x_4 then(s_l1In (x.2.2.2.2.1,0,250)).bind fun x=>some x else some false).bind fun x_5=>(bif x_5 then(s_l1In (x.2.2.2.2.2,0,100000)).bind fun x=>some x else some false).bind fun x=>some x
theorem c85:FnOk Tryd.prog 85 ⟨s85,s_AnswerOk⟩:=fn_of mix_ok rfl tyl_ok (fl:=q85) ⟨c84,trivial⟩ Tryd.func85 rfl rfl cuts0 (fun _=>by kernel_rfl)
def s24:Sig:=⟨[.ro t34],[(.bool,true)],false⟩
abbrev q24:List (FuncId×V.Fn):=[(81,⟨s81,s_ReadCanon⟩),(82,⟨s82,s_l12Body⟩),(83,⟨s83,s_Sha⟩),(84,⟨s84,s_l1In⟩),(85,⟨s85,s_AnswerOk⟩)]
def s24_27:CutSig:=⟨166,[1,3,7,8],[.pin t34,.ro (.int .i64),.ro (.int .i64),.ro (.int .i64)],[(.ex 2,[7],[((.int .i64),true)])]⟩
def s_RegOk_L27 (go:D1×Int×Int×Int->Option (Int)) (x:D1×Int×Int×Int):Option (Int):=bif decide (x.2.2.2<(↑(List.length x.1.2.1):Int)) then bif
 decide (0<=x.2.2.2) then x.1.2.1[Int.toNat x.2.2.2]?.bind fun x_1=>bif decide (x_1=i64.wrap (x.2.1+1)) then go (x.1,x.2.1,i64.wrap (x.2.2.1+1),i64.wrap (x.2.2.2+1)) else go (x.1,x.2.1,x.2.2.1,i64.wrap (x.2.2.2+1)) else none else some x.2.2.1
theorem l24_27:CutOk Tryd.prog ⟨s24_27,iter s_RegOk_L27 FUEL⟩ (.loop (loopOf Tryd.f24 27)):=loop_of mix_ok rfl tyl_ok (fl:=q24) ⟨c81,c82,c83,c84,c85,trivial⟩ (C:=C0) rfl (pts:=[]) (by kernel_rfl) trivial (fun _ _=>by kernel_rfl)
def s24_11:CutSig:=⟨166,[1,3],[.pin t34,.ro (.int .i64)],[(.ex 0,[],[]),(.ret,[2],[(.bool,true)])]⟩
def s_RegOk_L11 (go:D1×Int->Option (Unit⊕Bool)) (x:D1×Int):Option (Unit⊕Bool):=bif decide (x.2<(↑(List.length x.1.1):Int)) then bif decide (0 ≤
 x.2) then x.1.1[Int.toNat x.2]?.bind fun x_1=>(s_ReadCanon x_1.1).bind fun x_2=>(bif !!x_2.2 then bif decide (0<=x.2)&&decide (x.2<=(↑(List.length x.1.1):Int)) then(s_l12Body (List.take (Int.toNat x.2) x.1.1,x_1.1)).bind fun x=>some (decide (0<x)) else none else some true).bind fun x_3=>(bif !x_3 then(s_Sha x_1.1).bind fun x=>some !decide (x_1.2.1=x) else some true).bind
 fun x_4=>(bif !x_4 then(s_l1In (x_1.2.2,1,4)).bind fun x=>some !x else some true).bind fun x_5=>bif x_5 then some (Sum.inr false) else(iter s_RegOk_L27 FUEL (x.1,x.2,0,0)).bind fun x_6=>(bif decide (x_1.2.2=2) then some !decide (x_6=1) else some false).bind fun x_7=>(bif !x_7 then(bif !decide (x_1.2.2=2) then some !decide (x_6=0) else some false).bind fun x=>some x
 else some true).bind fun x_8=>bif x_8 then some (Sum.inr false) else go (x.1,i64.wrap (x.2+1)) else none else some (Sum.inl ())
theorem l24_11:CutOk Tryd.prog ⟨s24_11,iter s_RegOk_L11 FUEL⟩ (.loop (loopOf Tryd.f24 11)):=loop_of mix_ok rfl tyl_ok (fl:=q24) ⟨c81,c82,c83,c84,c85,trivial⟩ (C:=ctab [(27,⟨s24_27,iter s_RegOk_L27 FUEL⟩)]) rfl (pts:=[(⟨s24_27,iter s_RegOk_L27 FUEL⟩,.loop (loopOf Tryd.f24 27))]) (by kernel_rfl) ⟨l24_27,trivial⟩ (fun _ _=>by kernel_rfl)
def s24_41:CutSig:=⟨166,[1,9],[.pin t34,.ro (.int .i64)],[(.ex 4,[],[]),(.ret,[2],[(.bool,true)])]⟩
def s_RegOk_L41 (go:D1×Int->Option (Unit⊕Bool)) (x:D1×Int):Option (Unit⊕Bool):=bif decide (x.2<(↑(List.length x.1.2.1):Int)) then bif decide (0
 ≤ x.2) then x.1.2.1[Int.toNat x.2]?.bind fun x_1=>(s_l1In (x_1,0,(↑(List.length x.1.1):Int))).bind fun x_2=>bif !x_2 then some (Sum.inr false) else go (x.1,i64.wrap (x.2+1)) else none else some (Sum.inl ())
theorem l24_41:CutOk Tryd.prog ⟨s24_41,iter s_RegOk_L41 FUEL⟩ (.loop (loopOf Tryd.f24 41)):=loop_of mix_ok rfl tyl_ok (fl:=q24) ⟨c81,c82,c83,c84,c85,trivial⟩ (C:=C0) rfl (pts:=[]) (by kernel_rfl) trivial (fun _ _=>by kernel_rfl)
def s24_51:CutSig:=⟨166,[1,10],[.pin t34,.ro (.int .i64)],[(.ex 6,[],[]),(.ret,[2],[(.bool,true)])]⟩
def s_RegOk_L51 (go:D1×Int->Option (Unit⊕Bool)) (x:D1×Int):Option (Unit⊕Bool):=bif decide (x.2<(↑(List.length x.1.2.2):Int)) then bif decide (0
 ≤ x.2) then x.1.2.2[Int.toNat x.2]?.bind fun x_1=>(s_l1In (x_1.1,1,6)).bind fun x_2=>(bif !!x_2 then(bif decide (0<x.2) then bif decide (0<=i64.wrap (x.2-1)) then x.1.2.2[(i64.wrap (x.2-1)).toNat]?.bind fun x=>some (decide (x_1.1<=x.1)) else none else some false).bind fun x=>some x else some true).bind fun x_3=>(bif !x_3 then(s_l1In (x_1.2.1,1,
 1000000)).bind fun x=>some !x else some true).bind fun x_4=>(bif !x_4 then(s_AnswerOk x_1.2.2).bind fun x=>some !x else some true).bind fun x_5=>bif x_5 then some (Sum.inr false) else go (x.1,i64.wrap (x.2+1)) else none else some (Sum.inl ())
theorem l24_51:CutOk Tryd.prog ⟨s24_51,iter s_RegOk_L51 FUEL⟩ (.loop (loopOf Tryd.f24 51)):=loop_of mix_ok rfl tyl_ok (fl:=q24) ⟨c81,c82,c83,c84,c85,trivial⟩ (C:=C0) rfl (pts:=[]) (by kernel_rfl) trivial (fun _ _=>by kernel_rfl)
def s_RegOk (x:List D3×List Int×List D2):Option (Bool):=(bif !decide (6<(↑(List.length x.1):Int)) then some !decide ((↑(List.length x.2.1):Int)=3) else some true).bind fun x_1=>(bif !x_1 then some (decide (6<(↑(List.length x.2.2):Int))) else some true).bind fun x_2=>bif x_2
 then some false else(iter s_RegOk_L11 FUEL (x,0)).bind fun x_3=>sumK x_3 (fun _=>(iter s_RegOk_L41 FUEL (x,0)).bind fun x_4=>sumK x_4 (fun _=>(iter s_RegOk_L51 FUEL (x,0)).bind fun x=>sumK x (fun _=>some true) fun z=>some z) fun z=>some z) fun z=>some z
abbrev k24:Cuts:=ctab [(11,⟨s24_11,iter s_RegOk_L11 FUEL⟩),(41,⟨s24_41,iter s_RegOk_L41 FUEL⟩),(51,⟨s24_51,iter s_RegOk_L51 FUEL⟩)]
theorem c24:FnOk Tryd.prog 24 ⟨s24,s_RegOk⟩:=fn_of2 mix_ok rfl tyl_ok (fl:=q24) ⟨c81,c82,c83,c84,c85,trivial⟩ Tryd.func24 rfl rfl (C:=k24) (pts:=[(⟨s24_11,iter s_RegOk_L11 FUEL⟩,.loop (loopOf Tryd.f24 11)),(⟨s24_41,iter s_RegOk_L41 FUEL⟩,.loop (loopOf Tryd.f24 41)),(⟨s24_51,iter s_RegOk_L51 FUEL⟩,.loop (loopOf Tryd.f24 51))]) (by kernel_rfl) ⟨l24_11,l24_41,l24_51,trivial⟩ (fun _=>by kernel_rfl)
def s141:Sig:=⟨[.ro t40],[(.bool,true)],false⟩
abbrev q141:List (FuncId×V.Fn):=[(84,⟨s84,s_l1In⟩)]
def s_OpOk (x:Int×Int×Int×List UInt8):Option (Bool):=(s_l1In (x.2.2.1,1,6)).bind fun x_1=>(s_l1In (x.2.1,0,2)).bind fun x_2=>bif decide (x.1=1) then(bif decide ((↑(List.length x.2.2.2):Int)<=250) then some (decide (x.2.2.1=0)) else some false).bind fun x_3=>(bif x_3 then some (decide (x.2.1=0)) else some false).bind fun x=>some x else bif decide
 (x.1=2) then(bif x_1 then some x_2 else some false).bind fun x_3=>(bif x_3 then some (decide (x.2.2.2=[])) else some false).bind fun x=>some x else bif decide (x.1=3) then bif decide (x.1=3) then(bif x_1 then some (decide (x.2.1=0)) else some false).bind fun x_3=>(bif x_3 then some (decide (x.2.2.2=[])) else some false).bind fun x=>some x else bif decide (x.1=5) then(bif
 decide (x.2.2.2=[]) then(bif x_1 then some (decide (x.2.1=0)) else some false).bind fun x_3=>(bif !x_3 then(bif decide (x.2.2.1=0) then some x_2 else some false).bind fun x=>some x else some true).bind fun x=>some x else some false).bind fun x=>some x else some false else bif decide (x.1=4) then(bif x_1 then some (decide (x.2.1=0)) else some false).bind fun x_3=>(bif x_3
 then some (decide (x.2.2.2=[])) else some false).bind fun x=>some x else bif decide (x.1=5) then(bif decide (x.2.2.2=[]) then(bif x_1 then some (decide (x.2.1=0)) else some false).bind fun x_3=>(bif !x_3 then(bif decide (x.2.2.1=0) then some x_2 else some false).bind fun x=>some x else some true).bind fun x=>some x else some false).bind fun x=>some x else some false
theorem c141:FnOk Tryd.prog 141 ⟨s141,s_OpOk⟩:=fn_of mix_ok rfl tyl_ok (fl:=q141) ⟨c84,trivial⟩ Tryd.func141 rfl rfl cuts0 (fun _=>by kernel_rfl)
def s142:Sig:=⟨[.ro t34,.ro (.int .i64),.ro (.int .i64)],[(t36,true)],false⟩
abbrev q142:List (FuncId×V.Fn):=[]
def s_l12Told (x:D1×Int×Int):Option D5:=bif decide (0<=i64.wrap (x.2.2-1)) then x.1.1[(i64.wrap (x.2.2-1)).toNat]?.bind fun x_1=>some (x.2.1,x.2.2,x_1.2.2,x_1.2.1,(↑(List.length x_1.1):Int),0) else none
theorem c142:FnOk Tryd.prog 142 ⟨s142,s_l12Told⟩:=fn_of mix_ok rfl tyl_ok (fl:=q142) trivial Tryd.func142 rfl rfl cuts0 (fun _=>by kernel_rfl)
def s143:Sig:=⟨[.ro (.int .i64),.ro (.int .i64)],[(.bool,true)],false⟩
abbrev q143:List (FuncId×V.Fn):=[]
def s_l12Wants (x:Int×Int):Option (Bool):=bif decide (x.1=2) then some (decide (x.2=1)) else bif decide (x.1=3) then some (decide (x.2=2)) else(bif !decide (x.2=1) then some (decide (x.2=3)) else some true).bind fun x=>some x
theorem c143:FnOk Tryd.prog 143 ⟨s143,s_l12Wants⟩:=fn_of mix_ok rfl tyl_ok (fl:=q143) trivial Tryd.func143 rfl rfl cuts0 (fun _=>by kernel_rfl)
def s60:Sig:=⟨[.own t34,.ro t40],[(t34,true),(t36,true)],false⟩
abbrev q60:List (FuncId×V.Fn):=[(81,⟨s81,s_ReadCanon⟩),(82,⟨s82,s_l12Body⟩),(83,⟨s83,s_Sha⟩),(141,⟨s141,s_OpOk⟩),(142,⟨s142,s_l12Told⟩),(143,⟨s143,s_l12Wants⟩)]
def s60_69:CutSig:=⟨178,[2,9,11],[.pio t34,.ro (.int .i64),.ro (.int .i64)],[(.ex 1,[],[])]⟩
def s_l12Do_L69 (go:D1×Int×Int->Option D1) (x:D1
 ×Int×Int):Option D1:=bif decide (x.2.2<(↑(List.length x.1.2.1):Int)) then bif decide (0<=x.2.2) then x.1.2.1[Int.toNat x.2.2]?.bind fun _=>x.1.2.1[Int.toNat x.2.2]?.bind fun x_2=>bif decide (x_2=x.2.1) then bif decide (0<=x.2.2) then x.1.2.1[Int.toNat x.2.2]?.bind fun
 _=>x.1.2.1[Int.toNat x.2.2]?.bind fun _=>go ((x.1.1,List.set x.1.2.1 (Int.toNat x.2.2) 0,x.1.2.2),x.2.1,i64.wrap (x.2.2+1)) else none else go (x.1,x.2.1,i64.wrap (x.2.2+1)) else none else some x.1
theorem l60_69:CutOk Tryd.prog ⟨s60_69,iter s_l12Do_L69 FUEL⟩ (.loop (loopOf Tryd.f60 69)):=loop_of mix_ok rfl tyl_ok (fl:=q60) ⟨c81,c82,c83,c141,c142,c143,trivial⟩ (C:=C0) rfl (pts:=[]) (by kernel_rfl) trivial (fun _ _=>by kernel_rfl)
def s_l12Do (x:D1×Int×Int×Int×List UInt8):Option D8:=(s_OpOk x.2).bind fun x_1=>bif !x_1 then some (x.1,
 1,0,0,[],0,0) else bif decide (x.2.1=1) then(s_ReadCanon x.2.2.2.2).bind fun x_2=>bif !x_2.2 then some (x.1,1,0,0,[],0,0) else(s_l12Body (x.1.1,x.2.2.2.2)).bind fun x_3=>bif decide (0<x_3) then(s_l12Told (x.1,2,x_3)).bind fun x_4=>some (x.1,x_4) else bif decide (6<=(↑(List.length x.1.1):Int)) then some (x.1,3,0,0,[],0,0) else(s_Sha x.2.2.2.2).bind fun x_4=>
 bif decide (List.length x.1.1+(1:Nat)<=4294967296) then(s_l12Told ((x.1.1++[(x.2.2.2.2,x_4,1)],x.1.2),0,(↑(x.1.1++[(x.2.2.2.2,x_4,1)]).length:Int))).bind fun x_5=>some ((x.1.1++[(x.2.2.2.2,x_4,1)],x.1.2),x_5) else none else(bif decide (x.2.1=5) then some (decide (x.2.2.2.1=0)) else some false).bind fun x_2=>bif x_2 then bif decide (0<=x.2.2.1) then
 x.1.2.1[Int.toNat x.2.2.1]?.bind fun _=>x.1.2.1[Int.toNat x.2.2.1]?.bind fun x_4=>(bif !decide (x_4=0) then some (decide ((↑(List.length x.1.1):Int)<x_4)) else some true).bind fun x_5=>bif x_5 then some (x.1,4,0,0,[],0,0) else bif decide (x.2.1=5) then(s_l12Told (x.1,0,x_4)).bind fun x_6=>some (x.1,x_6) else bif decide (0<=i64.wrap (x_4-1)) then
 x.1.1[(i64.wrap (x_4-1)).toNat]?.bind fun _=>x.1.1[Int.toNat (i64.wrap (x_4-1))]?.bind fun x_7=>(s_l12Wants (x.2.1,x_7.2.2)).bind fun x_8=>bif !x_8 then(s_l12Told (x.1,5,x_4)).bind fun x_9=>some (x.1,x_9) else bif decide (x.2.1=2) then bif decide (0<=x.2.2.1) then x.1.2.1[Int.toNat x.2.2.1]?.bind fun _=>x.1.2.1[Int.toNat x.2.2.1]?.bind fun x_10=>bif
 decide (0<x_10) then bif decide (0<=i64.wrap (x_10-1)) then x.1.1[(i64.wrap (x_10-1)).toNat]?.bind fun _=>x.1.1[Int.toNat (i64.wrap (x_10-1))]?.bind fun x_12=>bif decide (0<=x.2.2.1) then x.1.2.1[Int.toNat x.2.2.1]?.bind fun _=>x.1.2.1[Int.toNat x.2.2.1]?.bind fun _=>bif decide (0<=i64.wrap (x_4-1)) then(List.set x.1.1 (Int.toNat
 (i64.wrap (x_10-1))) (x_12.1,x_12.2.1,3))[(i64.wrap (x_4-1)).toNat]?.bind fun _=>(List.set x.1.1 (Int.toNat (i64.wrap (x_10-1))) (x_12.1,x_12.2.1,3))[Int.toNat (i64.wrap (x_4-1))]?.bind fun x_16=>(s_l12Told (((List.set x.1.1 (Int.toNat (i64.wrap (x_10-1))) (x_12.1,x_12.2.1,3)).set (Int.toNat (i64.wrap (x_4-1))) (x_16.1,
 x_16.2.1,2),List.set x.1.2.1 (Int.toNat x.2.2.1) x_4,x.1.2.2),0,x_4)).bind fun x_17=>some (((List.set x.1.1 (Int.toNat (i64.wrap (x_10-1))) (x_12.1,x_12.2.1,3)).set (Int.toNat (i64.wrap (x_4-1))) (x_16.1,x_16.2.1,2),List.set x.1.2.1 (Int.toNat x.2.2.1) x_4,x.1.2.2),x_17) else none else none else none else bif decide (0<=x.2.2.1) then x.1.2.1[Int.toNat
 x.2.2.1]?.bind fun _=>x.1.2.1[Int.toNat x.2.2.1]?.bind fun _=>bif decide (0<=i64.wrap (x_4-1)) then x.1.1[(i64.wrap (x_4-1)).toNat]?.bind fun _=>x.1.1[Int.toNat (i64.wrap (x_4-1))]?.bind fun x_14=>(s_l12Told ((List.set x.1.1 (Int.toNat (i64.wrap (x_4-1))) (x_14.1,x_14.2.1,2),List.set x.1.2.1 (Int.toNat x.2.2.1) x_4,x.1.2.2),0,
 x_4)).bind fun x_15=>some ((List.set x.1.1 (Int.toNat (i64.wrap (x_4-1))) (x_14.1,x_14.2.1,2),List.set x.1.2.1 (Int.toNat x.2.2.1) x_4,x.1.2.2),x_15) else none else none else none else bif decide (x.2.1=3) then(iter s_l12Do_L69 FUEL (x.1,x_4,0)).bind fun x=>bif decide (0<=i64.wrap (x_4-1)) then x.1[(i64.wrap (x_4-1)).toNat]?.bind fun _=>
 x.1[Int.toNat (i64.wrap (x_4-1))]?.bind fun x_10=>(s_l12Told ((List.set x.1 (Int.toNat (i64.wrap (x_4-1))) (x_10.1,x_10.2.1,3),x.2),0,x_4)).bind fun x_11=>some ((List.set x.1 (Int.toNat (i64.wrap (x_4-1))) (x_10.1,x_10.2.1,3),x.2),x_11) else none else bif decide (0<=i64.wrap (x_4-1)) then x.1.1[(i64.wrap (x_4-1)).toNat]?.bind fun
 _=>x.1.1[Int.toNat (i64.wrap (x_4-1))]?.bind fun x_10=>(s_l12Told ((List.set x.1.1 (Int.toNat (i64.wrap (x_4-1))) (x_10.1,x_10.2.1,4),x.1.2),0,x_4)).bind fun x_11=>some ((List.set x.1.1 (Int.toNat (i64.wrap (x_4-1))) (x_10.1,x_10.2.1,4),x.1.2),x_11) else none else none else none else(bif !decide (x.2.2.2.1=0) then some (decide ((↑(List.length
 x.1.1):Int)<x.2.2.2.1)) else some true).bind fun x_3=>bif x_3 then some (x.1,4,0,0,[],0,0) else bif decide (x.2.1=5) then(s_l12Told (x.1,0,x.2.2.2.1)).bind fun x_4=>some (x.1,x_4) else bif decide (0<=i64.wrap (x.2.2.2.1-1)) then x.1.1[(i64.wrap (x.2.2.2.1-1)).toNat]?.bind fun _=>x.1.1[Int.toNat (i64.wrap (x.2.2.2.1-1))]?.bind fun x_5=>
 (s_l12Wants (x.2.1,x_5.2.2)).bind fun x_6=>bif !x_6 then(s_l12Told (x.1,5,x.2.2.2.1)).bind fun x_7=>some (x.1,x_7) else bif decide (x.2.1=2) then bif decide (0<=x.2.2.1) then x.1.2.1[Int.toNat x.2.2.1]?.bind fun _=>x.1.2.1[Int.toNat x.2.2.1]?.bind fun x_8=>bif decide (0<x_8) then bif decide (0<=i64.wrap (x_8-1)) then x.1.1[(i64.wrap (x_8-1)).toNat]?.bind
 fun _=>x.1.1[Int.toNat (i64.wrap (x_8-1))]?.bind fun x_10=>bif decide (0<=x.2.2.1) then x.1.2.1[Int.toNat x.2.2.1]?.bind fun _=>x.1.2.1[Int.toNat x.2.2.1]?.bind fun _=>bif decide (0<=i64.wrap (x.2.2.2.1-1)) then(List.set x.1.1 (Int.toNat (i64.wrap (x_8-1))) (x_10.1,x_10.2.1,3))[(i64.wrap (x.2.2.2.1-1)).toNat]?.bind fun _=>
 (List.set x.1.1 (Int.toNat (i64.wrap (x_8-1))) (x_10.1,x_10.2.1,3))[Int.toNat (i64.wrap (x.2.2.2.1-1))]?.bind fun x_14=>(s_l12Told (((List.set x.1.1 (Int.toNat (i64.wrap (x_8-1))) (x_10.1,x_10.2.1,3)).set (Int.toNat (i64.wrap (x.2.2.2.1-1))) (x_14.1,x_14.2.1,2),List.set x.1.2.1 (Int.toNat x.2.2.1) x.2.2.2.1,x.1.2.2),0,x.2.2.2.1)).bind fun x_15
 =>some (((List.set x.1.1 (Int.toNat (i64.wrap (x_8-1))) (x_10.1,x_10.2.1,3)).set (Int.toNat (i64.wrap (x.2.2.2.1-1))) (x_14.1,x_14.2.1,2),List.set x.1.2.1 (Int.toNat x.2.2.1) x.2.2.2.1,x.1.2.2),x_15) else none else none else none else bif decide (0<=x.2.2.1) then x.1.2.1[Int.toNat x.2.2.1]?.bind fun _=>x.1.2.1[Int.toNat x.2.2.1]?.bind fun _=>bif decide (0 ≤
 i64.wrap (x.2.2.2.1-1)) then x.1.1[(i64.wrap (x.2.2.2.1-1)).toNat]?.bind fun _=>x.1.1[Int.toNat (i64.wrap (x.2.2.2.1-1))]?.bind fun x_12=>(s_l12Told ((List.set x.1.1 (Int.toNat (i64.wrap (x.2.2.2.1-1))) (x_12.1,x_12.2.1,2),List.set x.1.2.1 (Int.toNat x.2.2.1) x.2.2.2.1,x.1.2.2),0,x.2.2.2.1)).bind fun x_13=>some ((List.set x.1.1 (Int.toNat
 (i64.wrap (x.2.2.2.1-1))) (x_12.1,x_12.2.1,2),List.set x.1.2.1 (Int.toNat x.2.2.1) x.2.2.2.1,x.1.2.2),x_13) else none else none else none else bif decide (x.2.1=3) then(iter s_l12Do_L69 FUEL (x.1,x.2.2.2.1,0)).bind fun x_7=>bif decide (0<=i64.wrap (x.2.2.2.1-1)) then x_7.1[(i64.wrap (x.2.2.2.1-1)).toNat]?.bind fun _=>x_7.1[Int.toNat
 (i64.wrap (x.2.2.2.1-1))]?.bind fun x_9=>(s_l12Told ((List.set x_7.1 (Int.toNat (i64.wrap (x.2.2.2.1-1))) (x_9.1,x_9.2.1,3),x_7.2),0,x.2.2.2.1)).bind fun x_10=>some ((List.set x_7.1 (Int.toNat (i64.wrap (x.2.2.2.1-1))) (x_9.1,x_9.2.1,3),x_7.2),x_10) else none else bif decide (0<=i64.wrap (x.2.2.2.1-1)) then x.1.1[(i64.wrap (x.2.2.2.1
 -1)).toNat]?.bind fun _=>x.1.1[Int.toNat (i64.wrap (x.2.2.2.1-1))]?.bind fun x_8=>(s_l12Told ((List.set x.1.1 (Int.toNat (i64.wrap (x.2.2.2.1-1))) (x_8.1,x_8.2.1,4),x.1.2),0,x.2.2.2.1)).bind fun x_9=>some ((List.set x.1.1 (Int.toNat (i64.wrap (x.2.2.2.1-1))) (x_8.1,x_8.2.1,4),x.1.2),x_9) else none else none
abbrev k60:Cuts:=ctab [(69,⟨s60_69,iter s_l12Do_L69 FUEL⟩)]
theorem c60:FnOk Tryd.prog 60 ⟨s60,s_l12Do⟩:=fn_of2 mix_ok rfl tyl_ok (fl:=q60) ⟨c81,c82,c83,c141,c142,c143,trivial⟩ Tryd.func60 rfl rfl (C:=k60) (pts:=[(⟨s60_69,iter s_l12Do_L69 FUEL⟩,.loop (loopOf Tryd.f60 69))]) (by kernel_rfl) ⟨l60_69,trivial⟩ (fun _=>by kernel_rfl)
def s61:Sig:=⟨[.ro t34],[(t34,true)],false⟩
abbrev q61:List (FuncId×V.Fn):=[]
def s_l12Copy (x:List D3×List Int×List D2):Option D1:=bif decide ((0:Nat)+List.length x.1<=4294967296) then bif decide ((0:Nat)+List.length x.2.1<=4294967296) then bif decide
 ((0:Nat)+List.length x.2.2<=4294967296) then some (x.1,x.2.1,x.2.2) else none else none else none
theorem c61:FnOk Tryd.prog 61 ⟨s61,s_l12Copy⟩:=fn_of mix_ok rfl tyl_ok (fl:=q61) trivial Tryd.func61 rfl rfl cuts0 (fun _=>by kernel_rfl)
def s14:Sig:=⟨[.ro t34,.ro t40],[(t34,true),(t36,true)],false⟩
abbrev q14:List (FuncId×V.Fn):=[(24,⟨s24,s_RegOk⟩),(60,⟨s60,s_l12Do⟩),(61,⟨s61,s_l12Copy⟩)]
def s_RegDo (x:D1×Int×Int×Int×List UInt8):Option D8:=(s_RegOk x.1).bind fun x_1=>bif !x_1 then some (([],
 [],[]),1,0,0,[],0,0) else(s_l12Copy x.1).bind fun x_2=>(s_l12Do (x_2,x.2)).bind fun x=>some (x.1,x.2)
theorem c14:FnOk Tryd.prog 14 ⟨s14,s_RegDo⟩:=fn_of mix_ok rfl tyl_ok (fl:=q14) ⟨c24,c60,c61,trivial⟩ Tryd.func14 rfl rfl cuts0 (fun _=>by kernel_rfl)
def s144:Sig:=⟨[.ro t194],[(t52,true)],false⟩
abbrev q144:List (FuncId×V.Fn):=[]
def w_toVersion (x:List UInt8×List UInt8×Int):Option D3:=some (x.1,x.2.1,x.2.2)
theorem c144:FnOk Tryd.prog 144 ⟨s144,w_toVersion⟩:=fn_of mix_ok rfl tyl_ok (fl:=q144) trivial Tryd.func144 rfl rfl cuts0 (fun _=>by kernel_rfl)
def s62:Sig:=⟨[.ro (.sl 194 t194)],[((.sl 52 t52),true)],false⟩
abbrev q62:List (FuncId×V.Fn):=[(144,⟨s144,w_toVersion⟩)]
def s62_9:CutSig:=⟨23,[0,3,4],[.ro (.sl 194 t194),.own (.sl 52 t52),.ro (.int .i64)],[(.ex 0,[3],[((.sl 52 t52),true)])]⟩
def w_toVersionS_L9 (go:List D3×List D3×Int->Option (List D3)) (x:List D3×List D3×Int):Option (List D3):=bif decide (x.2.2<(↑(List.length x.1):Int)) then bif decide (0<=x.2.2) then
 x.1[Int.toNat x.2.2]?.bind fun x_1=>(w_toVersion x_1).bind fun x_2=>bif decide (0<=x.2.2) then x.2.1[Int.toNat x.2.2]?.bind fun _=>x.2.1[Int.toNat x.2.2]?.bind fun _=>go (x.1,List.set x.2.1 (Int.toNat x.2.2) x_2,i64.wrap (x.2.2+1)) else none else none else some x.2.1
theorem l62_9:CutOk Tryd.prog ⟨s62_9,iter w_toVersionS_L9 FUEL⟩ (.loop (loopOf Tryd.f62 9)):=loop_of mix_ok rfl tyl_ok (fl:=q62) ⟨c144,trivial⟩ (C:=C0) rfl (pts:=[]) (by kernel_rfl) trivial (fun _ _=>by kernel_rfl)
def w_toVersionS (x:List D3):Option (List D3):=bif decide (0<=(↑x.length:Int))&&decide ((↑x.length:Int)<=(↑x.length:Int))&&decide ((↑x.length:Int)<=(↑4294967296:Int)) then(iter w_toVersionS_L9 FUEL (x,List.replicate (↑x.length:Int).toNat ([],[],0),0)).bind fun x=>some x else none
abbrev k62:Cuts:=ctab [(9,⟨s62_9,iter w_toVersionS_L9 FUEL⟩)]
theorem c62:FnOk Tryd.prog 62 ⟨s62,w_toVersionS⟩:=fn_of2 mix_ok rfl tyl_ok (fl:=q62) ⟨c144,trivial⟩ Tryd.func62 rfl rfl (C:=k62) (pts:=[(⟨s62_9,iter w_toVersionS_L9 FUEL⟩,.loop (loopOf Tryd.f62 9))]) (by kernel_rfl) ⟨l62_9,trivial⟩ (fun _=>by kernel_rfl)
def s63:Sig:=⟨[.ro t23],[(t23,true)],false⟩
abbrev q63:List (FuncId×V.Fn):=[]
def s63_9:CutSig:=⟨22,[0,3,4],[.ro t23,.own t23,.ro (.int .i64)],[(.ex 0,[3],[(t23,true)])]⟩
def w_toIntS_L9 (go:List Int×List Int×Int->Option (List Int)) (x:List Int×List Int×Int):Option (List Int):=bif decide (x.2.2<(↑(List.length x.1):Int)) then bif decide (0<=x.2.2) then x.1[Int.toNat x.2.2]?.bind fun x_1=>bif decide (0<=x.2.2) then x.2.1[Int.toNat x.2.2]?.bind fun _=>x.2.1[Int.toNat x.2.2]?.bind fun _=>go (x.1,List.set x.2.1 (Int.toNat
 x.2.2) x_1,i64.wrap (x.2.2+1)) else none else none else some x.2.1
theorem l63_9:CutOk Tryd.prog ⟨s63_9,iter w_toIntS_L9 FUEL⟩ (.loop (loopOf Tryd.f63 9)):=loop_of mix_ok rfl tyl_ok (fl:=q63) trivial (C:=C0) rfl (pts:=[]) (by kernel_rfl) trivial (fun _ _=>by kernel_rfl)
def w_toIntS (x:List Int):Option (List Int):=bif decide (0<=(↑x.length:Int))&&decide ((↑x.length:Int)<=(↑x.length:Int))&&decide ((↑x.length:Int)<=(↑4294967296:Int)) then(iter w_toIntS_L9 FUEL (x,List.replicate (↑x.length:Int).toNat 0,0)).bind fun x=>some x else none
abbrev k63:Cuts:=ctab [(9,⟨s63_9,iter w_toIntS_L9 FUEL⟩)]
theorem c63:FnOk Tryd.prog 63 ⟨s63,w_toIntS⟩:=fn_of2 mix_ok rfl tyl_ok (fl:=q63) trivial Tryd.func63 rfl rfl (C:=k63) (pts:=[(⟨s63_9,iter w_toIntS_L9 FUEL⟩,.loop (loopOf Tryd.f63 9))]) (by kernel_rfl) ⟨l63_9,trivial⟩ (fun _=>by kernel_rfl)
def s128:Sig:=⟨[.ro t92],[(t36,true)],false⟩
abbrev q128:List (FuncId×V.Fn):=[]
def w_toAnswer (x:Int×Int×Int×List UInt8×Int×Int):Option D5:=some (x.1,x.2.1,x.2.2.1,x.2.2.2.1,x.2.2.2.2.1,x.2.2.2.2.2)
theorem c128:FnOk Tryd.prog 128 ⟨s128,w_toAnswer⟩:=fn_of mix_ok rfl tyl_ok (fl:=q128) trivial Tryd.func128 rfl rfl cuts0 (fun _=>by kernel_rfl)
def s145:Sig:=⟨[.ro t197],[(t130,true)],false⟩
abbrev q145:List (FuncId×V.Fn):=[(128,⟨s128,w_toAnswer⟩)]
def w_toSession (x:Int×Int×Int×Int×Int×List UInt8×Int×Int):Option D2:=(w_toAnswer x.2.2).bind fun x_1=>some (x.1,x.2.1,x_1)
theorem c145:FnOk Tryd.prog 145 ⟨s145,w_toSession⟩:=fn_of mix_ok rfl tyl_ok (fl:=q145) ⟨c128,trivial⟩ Tryd.func145 rfl rfl cuts0 (fun _=>by kernel_rfl)
def s64:Sig:=⟨[.ro (.sl 197 t197)],[((.sl 130 t130),true)],false⟩
abbrev q64:List (FuncId×V.Fn):=[(145,⟨s145,w_toSession⟩)]
def s64_9:CutSig:=⟨23,[0,3,4],[.ro (.sl 197 t197),.own (.sl 130 t130),.ro (.int .i64)],[(.ex 0,[3],[((.sl 130 t130),true)])]⟩
def w_toSessionS_L9 (go:List D2×List D2×Int->Option (List D2)) (x:List D2×List D2×Int):Option (List (Int×Int
 ×Int×Int×Int×List UInt8×Int×Int)):=bif decide (x.2.2<(↑(List.length x.1):Int)) then bif decide (0<=x.2.2) then x.1[Int.toNat x.2.2]?.bind fun x_1=>(w_toSession x_1).bind fun x_2=>bif decide (0<=x.2.2) then x.2.1[Int.toNat x.2.2]?.bind fun _=>x.2.1[Int.toNat x.2.2]?.bind fun _=>go (x.1,List.set x.2.1 (Int.toNat x.2.2) x_2,i64.wrap (x.2.2+1)) else none
 else none else some x.2.1
theorem l64_9:CutOk Tryd.prog ⟨s64_9,iter w_toSessionS_L9 FUEL⟩ (.loop (loopOf Tryd.f64 9)):=loop_of mix_ok rfl tyl_ok (fl:=q64) ⟨c145,trivial⟩ (C:=C0) rfl (pts:=[]) (by kernel_rfl) trivial (fun _ _=>by kernel_rfl)
def w_toSessionS (x:List D2):Option (List D2):=bif decide (0<=(↑x.length:Int))&&decide ((↑x.length:Int)<=(↑x.length:Int))&&decide ((↑x.length:Int)<=(↑4294967296:Int)) then(iter w_toSessionS_L9 FUEL (x,List.replicate (↑x.length:Int).toNat (0,0,0,0,0,
 [],0,0),0)).bind fun x=>some x else none
abbrev k64:Cuts:=ctab [(9,⟨s64_9,iter w_toSessionS_L9 FUEL⟩)]
theorem c64:FnOk Tryd.prog 64 ⟨s64,w_toSessionS⟩:=fn_of2 mix_ok rfl tyl_ok (fl:=q64) ⟨c145,trivial⟩ Tryd.func64 rfl rfl (C:=k64) (pts:=[(⟨s64_9,iter w_toSessionS_L9 FUEL⟩,.loop (loopOf Tryd.f64 9))]) (by kernel_rfl) ⟨l64_9,trivial⟩ (fun _=>by kernel_rfl)
def s15:Sig:=⟨[.ro t26],[(t34,true)],false⟩
abbrev q15:List (FuncId×V.Fn):=[(62,⟨s62,w_toVersionS⟩),(63,⟨s63,w_toIntS⟩),(64,⟨s64,w_toSessionS⟩)]
def w_toReg (x:List D3×List Int×List D2):Option D1:=(w_toVersionS x.1).bind fun x_1=>(w_toIntS x.2.1).bind fun x_2=>(w_toSessionS x.2.2).bind fun x=>some (x_1,x_2,x)
theorem c15:FnOk Tryd.prog 15 ⟨s15,w_toReg⟩:=fn_of mix_ok rfl tyl_ok (fl:=q15) ⟨c62,c63,c64,trivial⟩ Tryd.func15 rfl rfl cuts0 (fun _=>by kernel_rfl)
def s16:Sig:=⟨[.ro t28],[(t40,true)],false⟩
abbrev q16:List (FuncId×V.Fn):=[]
def w_toOp (x:Int×Int×Int×List UInt8):Option (Int×Int×Int×List UInt8):=some (x.1,x.2.1,x.2.2.1,x.2.2.2)
theorem c16:FnOk Tryd.prog 16 ⟨s16,w_toOp⟩:=fn_of mix_ok rfl tyl_ok (fl:=q16) trivial Tryd.func16 rfl rfl cuts0 (fun _=>by kernel_rfl)
def s101:Sig:=⟨[.ro (.int .i64),.ro (.int .i64),.ro (.int .i64)],[(.bool,true)],false⟩
abbrev q101:List (FuncId×V.Fn):=[]
def i_within (x:Int×Int×Int):Option (Bool):=(bif decide (x.2.1<=x.1) then some (decide (x.1<=x.2.2)) else some false).bind fun x=>some x
theorem c101:FnOk Tryd.prog 101 ⟨s101,i_within⟩:=fn_of mix_ok rfl tyl_ok (fl:=q101) trivial Tryd.func101 rfl rfl cuts0 (fun _=>by kernel_rfl)
def s179:Sig:=⟨[.ro (.int .i64),.ro (.int .i64)],[(.str,true)],false⟩
abbrev q179:List (FuncId×V.Fn):=[(101,⟨s101,i_within⟩)]
def s179_13:CutSig:=⟨39,[0,5,6],[.ro (.int .i64),.own t46,.ro (.int .i64)],[(.ex 0,[5],[(t46,true)])]⟩
def i_Fixed_L13 (go:Int×List Int×Int->Option (List Int)) (x:Int×List Int×Int):Option (List Int):=bif decide (0<=x.2.2) then bif decide (0<=x.2.2) then x.2.1[Int.toNat x.2.2]?.bind fun _=>x.2.1[Int.toNat x.2.2]?.bind fun _=>go (Int.fdiv x.1 (2^min (Int.toNat 8) i64.bits),List.set x.2.1 (Int.toNat x.2.2) (u8.wrap (i64.wrap
 (↑(BitVec.ofInt i64.bits x.1&&&BitVec.ofInt i64.bits 255).toNat:Int))),i64.wrap (x.2.2-1)) else none else some x.2.1
theorem l179_13:CutOk Tryd.prog ⟨s179_13,iter i_Fixed_L13 FUEL⟩ (.loop (loopOf Tryd.f179 13)):=loop_of mix_ok rfl tyl_ok (fl:=q179) ⟨c101,trivial⟩ (C:=C0) rfl (pts:=[]) (by kernel_rfl) trivial (fun _ _=>by kernel_rfl)
def i_Fixed (x:Int×Int):Option (List UInt8):=(i_within (x.2,1,7)).bind fun x_1=>(bif !!x_1 then some (decide (x.1<0)) else some true).bind fun x_2=>(bif !x_2 then bif decide (0<=i64.wrap (8*x.2)) then some (decide (i64.wrap (1*2^min (i64.wrap (8*x.2)).toNat i64.bits)<=x.1)) else none else some true).bind fun x_3=>bif x_3
 then some [] else bif decide (0<=x.2)&&decide (x.2<=x.2)&&decide (x.2<=(↑4294967296:Int)) then(iter i_Fixed_L13 FUEL (x.1,List.replicate (Int.toNat x.2) 0,i64.wrap (x.2-1))).bind fun x=>some (List.map (fun(b:Int)=>UInt8.ofNat b.toNat) x) else none
abbrev k179:Cuts:=ctab [(13,⟨s179_13,iter i_Fixed_L13 FUEL⟩)]
theorem c179:FnOk Tryd.prog 179 ⟨s179,i_Fixed⟩:=fn_of2 mix_ok rfl tyl_ok (fl:=q179) ⟨c101,trivial⟩ Tryd.func179 rfl rfl (C:=k179) (pts:=[(⟨s179_13,iter i_Fixed_L13 FUEL⟩,.loop (loopOf Tryd.f179 13))]) (by kernel_rfl) ⟨l179_13,trivial⟩ (fun _=>by kernel_rfl)
def s204:Sig:=⟨[.ro .str],[((.int .u32),true)],false⟩
abbrev q204:List (FuncId×V.Fn):=[]
def i_fourBytes (x:List UInt8):Option (Int):=x[Int.toNat 0]?.bind fun x_1=>x[Int.toNat 1]?.bind fun x_2=>x[Int.toNat 2]?.bind fun x_3=>x[Int.toNat 3]?.bind fun x=>some (u32.wrap (↑(BitVec.ofInt u32.bits (u32.wrap (↑(BitVec.ofInt u32.bits (u32.wrap (↑(BitVec.ofInt u32.bits (u32.wrap (u32.wrap (↑x_1.toNat:
 Int)*2^min (Int.toNat 24) u32.bits))|||BitVec.ofInt u32.bits (u32.wrap (u32.wrap (↑x_2.toNat:Int)*2^min (Int.toNat 16) u32.bits))).toNat:Int))|||BitVec.ofInt u32.bits (u32.wrap (u32.wrap (↑x_3.toNat:Int)*2^min (Int.toNat 8) u32.bits))).toNat:Int))|||BitVec.ofInt u32.bits (u32.wrap
 (↑x.toNat:Int))).toNat:Int))
theorem c204:FnOk Tryd.prog 204 ⟨s204,i_fourBytes⟩:=fn_of mix_ok rfl tyl_ok (fl:=q204) trivial Tryd.func204 rfl rfl cuts0 (fun _=>by kernel_rfl)
def s205:Sig:=⟨[.ro (.int .u32),.ro (.int .i64)],[((.int .u32),true)],false⟩
abbrev q205:List (FuncId×V.Fn):=[]
def g_math_bits_RotateLeft32 (x:Int×Int):Option (Int):=bif decide (0<=u64.wrap (32-u64.wrap (↑(BitVec.ofInt u64.bits (u64.wrap x.2)&&&BitVec.ofInt u64.bits 31).toNat:Int))) then some (u32.wrap (↑(BitVec.ofInt u32.bits (u32.wrap (x.1*2^min (u64.wrap (↑(BitVec.ofInt u64.bits
 (u64.wrap x.2)&&&BitVec.ofInt u64.bits 31).toNat:Int)).toNat u32.bits))|||BitVec.ofInt u32.bits (Int.fdiv x.1 (2^min (u64.wrap (32-u64.wrap (↑(BitVec.ofInt u64.bits (u64.wrap x.2)&&&BitVec.ofInt u64.bits 31).toNat:Int))).toNat u32.bits))).toNat:Int)) else none
theorem c205:FnOk Tryd.prog 205 ⟨s205,g_math_bits_RotateLeft32⟩:=fn_of mix_ok rfl tyl_ok (fl:=q205) trivial Tryd.func205 rfl rfl cuts0 (fun _=>by kernel_rfl)
def s180:Sig:=⟨[.ro t234,.ro .str],[(t234,true)],false⟩
abbrev q180:List (FuncId×V.Fn):=[(204,⟨s204,i_fourBytes⟩),(205,⟨s205,g_math_bits_RotateLeft32⟩)]
def s180_9:CutSig:=⟨176,[1,5,22],[.ro .str,.pio t259,.ro (.int .i64)],[(.ex 0,[],[])]⟩
def i_shaBlock_L9 (go:List UInt8×List Int×Int->Option (List Int)) (x:List UInt8×List Int×Int):Option (List Int):=bif decide (x.2.2<16) then bif decide (0<=i64.wrap (4*x.2.2))&&decide (i64.wrap (4*x.2.2)<=(↑(List.length x.1):Int)) then(i_fourBytes (List.drop (i64.wrap (4*x.2.2)).toNat x.1)).bind fun x_1=>bif decide (0<=x.2.2)
 &&decide (x.2.2<(↑64:Int)) then x.2.1[Int.toNat x.2.2]?.bind fun _=>go (x.1,List.set x.2.1 (Int.toNat x.2.2) x_1,i64.wrap (x.2.2+1)) else none else none else some x.2.1
theorem l180_9:CutOk Tryd.prog ⟨s180_9,iter i_shaBlock_L9 FUEL⟩ (.loop (loopOf Tryd.f180 9)):=loop_of mix_ok rfl tyl_ok (fl:=q180) ⟨c204,c205,trivial⟩ (C:=C0) rfl (pts:=[]) (by kernel_rfl) trivial (fun _ _=>by kernel_rfl)
def s180_19:CutSig:=⟨176,[5,7],[.pio t259,.ro (.int .i64)],[(.ex 2,[],[])]⟩
def i_shaBlock_L19 (go:List Int×Int->Option (List Int)) (x:List Int×Int):Option (List Int):=bif decide (x.2<64) then bif decide (0<=i64.wrap (x.2-15))&&decide (i64.wrap (x.2-15)<(↑64:Int)) then x.1[Int.toNat (i64.wrap (x.2-15))]?.bind fun x_1=>bif decide (0<=i64.wrap (x.2-2))&&decide (i64.wrap (x.2-2)<
 (↑64:Int)) then x.1[Int.toNat (i64.wrap (x.2-2))]?.bind fun x_2=>(g_math_bits_RotateLeft32 (x_1,-7)).bind fun x_3=>(g_math_bits_RotateLeft32 (x_1,-18)).bind fun x_4=>(g_math_bits_RotateLeft32 (x_2,-17)).bind fun x_5=>(g_math_bits_RotateLeft32 (x_2,-19)).bind fun x_6=>bif decide (0<=i64.wrap (x.2-16))&&decide (i64.wrap (x.2-16)<(↑64:Int)) then
 x.1[Int.toNat (i64.wrap (x.2-16))]?.bind fun x_7=>bif decide (0<=i64.wrap (x.2-7))&&decide (i64.wrap (x.2-7)<(↑64:Int)) then x.1[Int.toNat (i64.wrap (x.2-7))]?.bind fun x_8=>bif decide (0<=x.2)&&decide (x.2<(↑64:Int)) then x.1[Int.toNat x.2]?.bind fun _=>go (List.set x.1 (Int.toNat x.2) (u32.wrap (u32.wrap
 (u32.wrap (x_7+u32.wrap (↑(BitVec.ofInt u32.bits (u32.wrap (↑(BitVec.ofInt u32.bits x_3^^^BitVec.ofInt u32.bits x_4).toNat:Int))^^^BitVec.ofInt u32.bits (x_1.fdiv (2^min (Int.toNat 3) u32.bits))).toNat:Int))+x_8)+u32.wrap (↑(BitVec.ofInt u32.bits (u32.wrap (↑(BitVec.ofInt u32.bits x_5
 ^^^BitVec.ofInt u32.bits x_6).toNat:Int))^^^BitVec.ofInt u32.bits (x_2.fdiv (2^min (Int.toNat 10) u32.bits))).toNat:Int))),i64.wrap (x.2+1)) else none else none else none else none else none else some x.1
theorem l180_19:CutOk Tryd.prog ⟨s180_19,iter i_shaBlock_L19 FUEL⟩ (.loop (loopOf Tryd.f180 19)):=loop_of mix_ok rfl tyl_ok (fl:=q180) ⟨c204,c205,trivial⟩ (C:=C0) rfl (pts:=[]) (by kernel_rfl) trivial (fun _ _=>by kernel_rfl)
def s180_35:CutSig:=⟨176,[5,12,77],[.pin t259,.pio t234,.ro (.int .i64)],[(.ex 4,[],[])]⟩
def i_shaBlock_L35 (go:List Int×List Int×Int->Option (List Int)) (x:List Int×List Int×Int):Option (List Int):=bif decide (x.2.2<64) then x.2.1[0]?.bind fun x_1=>x.2.1[4]?.bind fun x_2=>(g_math_bits_RotateLeft32 (x_2,-6)).bind fun x_3=>(g_math_bits_RotateLeft32 (x_2,-11)).bind fun x_4=>(g_math_bits_RotateLeft32 (x_2,-25)).bind fun x_5=>x.2.1[5]?.bind
 fun x_6=>x.2.1[6]?.bind fun x_7=>x.2.1[7]?.bind fun x_8=>bif decide (0<=x.2.2) then gv0[Int.toNat x.2.2]?.bind fun x_9=>bif decide (0<=x.2.2) then x.1[Int.toNat x.2.2]?.bind fun x_10=>(g_math_bits_RotateLeft32 (x_1,-2)).bind fun x_11=>(g_math_bits_RotateLeft32 (x_1,-13)).bind fun x_12=>(g_math_bits_RotateLeft32 (x_1,-22)).bind fun x_13=>x.2.1[1]?.bind fun x_14=>
 x.2.1[2]?.bind fun x_15=>x.2.1[1]?.bind fun x_16=>x.2.1[2]?.bind fun x_17=>x.2.1[0]?.bind fun x_18=>x.2.1[1]?.bind fun x_19=>x.2.1[2]?.bind fun x_20=>x.2.1[3]?.bind fun x_21=>x.2.1[4]?.bind fun x_22=>x.2.1[5]?.bind fun x_23=>x.2.1[6]?.bind fun x_24=>go (x.1,[u32.wrap (u32.wrap (u32.wrap (u32.wrap (u32.wrap (u32.wrap (x_8+
 u32.wrap (↑(BitVec.ofInt u32.bits (u32.wrap (↑(BitVec.ofInt u32.bits x_3^^^BitVec.ofInt u32.bits x_4).toNat:Int))^^^BitVec.ofInt u32.bits x_5).toNat:Int))+u32.wrap (↑(BitVec.ofInt u32.bits (u32.wrap (↑(BitVec.ofInt u32.bits x_2&&&BitVec.ofInt u32.bits x_6).toNat:Int))^^^BitVec.ofInt
 u32.bits (u32.wrap (↑(BitVec.ofInt u32.bits (u32.wrap (↑(BitVec.ofInt u32.bits (if false=true then -1 else u32.max)^^^BitVec.ofInt u32.bits x_2).toNat:Int))&&&BitVec.ofInt u32.bits x_7).toNat:Int))).toNat:Int))+x_9)+x_10)+u32.wrap (↑(BitVec.ofInt u32.bits (u32.wrap (↑(BitVec.ofInt
 u32.bits x_11^^^BitVec.ofInt u32.bits x_12).toNat:Int))^^^BitVec.ofInt u32.bits x_13).toNat:Int))+u32.wrap (↑(BitVec.ofInt u32.bits (u32.wrap (↑(BitVec.ofInt u32.bits (u32.wrap (↑(BitVec.ofInt u32.bits x_1&&&BitVec.ofInt u32.bits x_14).toNat:Int))^^^BitVec.ofInt u32.bits (u32.wrap
 (↑(BitVec.ofInt u32.bits x_1&&&BitVec.ofInt u32.bits x_15).toNat:Int))).toNat:Int))^^^BitVec.ofInt u32.bits (u32.wrap (↑(BitVec.ofInt u32.bits x_16&&&BitVec.ofInt u32.bits x_17).toNat:Int))).toNat:Int)),x_18,x_19,x_20,u32.wrap (x_21+u32.wrap (u32.wrap (u32.wrap (u32.wrap (x_8+
 u32.wrap (↑(BitVec.ofInt u32.bits (u32.wrap (↑(BitVec.ofInt u32.bits x_3^^^BitVec.ofInt u32.bits x_4).toNat:Int))^^^BitVec.ofInt u32.bits x_5).toNat:Int))+u32.wrap (↑(BitVec.ofInt u32.bits (u32.wrap (↑(BitVec.ofInt u32.bits x_2&&&BitVec.ofInt u32.bits x_6).toNat:Int))^^^BitVec.ofInt
 u32.bits (u32.wrap (↑(BitVec.ofInt u32.bits (u32.wrap (↑(BitVec.ofInt u32.bits (if false=true then -1 else u32.max)^^^BitVec.ofInt u32.bits x_2).toNat:Int))&&&BitVec.ofInt u32.bits x_7).toNat:Int))).toNat:Int))+x_9)+x_10)),x_22,x_23,x_24],i64.wrap (x.2.2+1)) else none else none else some x.2.1
theorem l180_35:CutOk Tryd.prog ⟨s180_35,iter i_shaBlock_L35 FUEL⟩ (.loop (loopOf Tryd.f180 35)):=loop_of mix_ok rfl tyl_ok (fl:=q180) ⟨c204,c205,trivial⟩ (C:=C0) rfl (pts:=[]) (by kernel_rfl) trivial (fun _ _=>by kernel_rfl)
def s180_57:CutSig:=⟨176,[2,12,162],[.pio t234,.pin t234,.ro (.int .i64)],[(.ex 6,[],[])]⟩
def i_shaBlock_L57 (go:List Int×List Int×Int->Option (List Int)) (x:List Int×List Int×Int):Option (List Int):=bif decide (x.2.2<8) then bif decide (0<=x.2.2)&&decide (x.2.2<(↑8:Int)) then x.1[Int.toNat x.2.2]?.bind fun x_1=>bif decide (0<=x.2.2) then x.2.1[Int.toNat x.2.2]?.bind fun x_2=>bif decide (0<=x.2.2)&&decide (x.2.2<(↑8:Int)) then
 x.1[Int.toNat x.2.2]?.bind fun _=>go (List.set x.1 (Int.toNat x.2.2) (u32.wrap (x_1+x_2)),x.2.1,i64.wrap (x.2.2+1)) else none else none else none else some x.1
theorem l180_57:CutOk Tryd.prog ⟨s180_57,iter i_shaBlock_L57 FUEL⟩ (.loop (loopOf Tryd.f180 57)):=loop_of mix_ok rfl tyl_ok (fl:=q180) ⟨c204,c205,trivial⟩ (C:=C0) rfl (pts:=[]) (by kernel_rfl) trivial (fun _ _=>by kernel_rfl)
def i_shaBlock (x:List Int×List UInt8):Option (List Int):=(iter i_shaBlock_L9 FUEL (x.2,List.replicate 64 0,0)).bind fun x_1=>(iter i_shaBlock_L19 FUEL (x_1,16)).bind fun x_2=>(iter i_shaBlock_L35 FUEL (x_2,x.1,0)).bind fun x_3=>(iter i_shaBlock_L57 FUEL (x.1,x_3,0)).bind fun x=>some x
abbrev k180:Cuts:=ctab [(9,⟨s180_9,iter i_shaBlock_L9 FUEL⟩),(19,⟨s180_19,iter i_shaBlock_L19 FUEL⟩),(35,⟨s180_35,iter i_shaBlock_L35 FUEL⟩),(57,⟨s180_57,iter i_shaBlock_L57 FUEL⟩)]
theorem c180:FnOk Tryd.prog 180 ⟨s180,i_shaBlock⟩:=fn_of2 mix_ok rfl tyl_ok (fl:=q180) ⟨c204,c205,trivial⟩ Tryd.func180 rfl rfl (C:=k180) (pts:=[(⟨s180_9,iter i_shaBlock_L9 FUEL⟩,.loop (loopOf Tryd.f180 9)),(⟨s180_19,iter i_shaBlock_L19 FUEL⟩,.loop (loopOf Tryd.f180 19)),(⟨s180_35,iter i_shaBlock_L35 FUEL⟩,.loop (loopOf Tryd.f180 35)),(⟨s180_57,iter i_shaBlock_L57 FUEL⟩,.loop (loopOf Tryd.f180 57))]) (by kernel_rfl) ⟨l180_9,l180_19,l180_35,l180_57,trivial⟩ (fun _=>by kernel_rfl)
def s115:Sig:=⟨[.ro .str],[(.str,true)],false⟩
abbrev q115:List (FuncId×V.Fn):=[(179,⟨s179,i_Fixed⟩),(180,⟨s180,i_shaBlock⟩)]
def s115_15:CutSig:=⟨55,[5,6,7],[.ro .str,.pio t234,.ro (.int .i64)],[(.ex 0,[],[])]⟩
def i_Sha_L15 (go:List UInt8×List Int×Int->Option (List Int)) (x:List UInt8×List Int×Int):Option (List Int):=bif decide (x.2.2<(↑(List.length x.1):Int)) then bif decide (0<=x.2.2)&&decide (x.2.2<=i64.wrap (x.2.2+64))&&decide (0<=i64.wrap (x.2.2+64))&&decide (i64.wrap (x.2.2+64)<=(↑(List.length x.1):Int)) then(i_shaBlock
 (x.2.1,List.drop (Int.toNat x.2.2) (List.take (i64.wrap (x.2.2+64)).toNat x.1))).bind fun x_1=>go (x.1,x_1,i64.wrap (x.2.2+64)) else none else some x.2.1
theorem l115_15:CutOk Tryd.prog ⟨s115_15,iter i_Sha_L15 FUEL⟩ (.loop (loopOf Tryd.f115 15)):=loop_of mix_ok rfl tyl_ok (fl:=q115) ⟨c179,c180,trivial⟩ (C:=C0) rfl (pts:=[]) (by kernel_rfl) trivial (fun _ _=>by kernel_rfl)
def s115_25:CutSig:=⟨55,[8,44,45],[.ro .str,.ro t234,.ro (.int .i64)],[(.ex 2,[8],[(.str,true)])]⟩
def i_Sha_L25 (go:List UInt8×List Int×Int->Option (List UInt8)) (x:List UInt8×List Int×Int):Option (List UInt8):=bif decide (x.2.2<8) then bif decide (0<=x.2.2) then x.2.1[Int.toNat x.2.2]?.bind fun x_1=>(i_Fixed (i64.wrap x_1,4)).bind fun x_2=>bif decide (List.length x.1+x_2.length<=4611686018427387904) then go (x.1++x_2,x.2.1,
 i64.wrap (x.2.2+1)) else none else none else some x.1
theorem l115_25:CutOk Tryd.prog ⟨s115_25,iter i_Sha_L25 FUEL⟩ (.loop (loopOf Tryd.f115 25)):=loop_of mix_ok rfl tyl_ok (fl:=q115) ⟨c179,c180,trivial⟩ (C:=C0) rfl (pts:=[]) (by kernel_rfl) trivial (fun _ _=>by kernel_rfl)
def i_Sha (x:List UInt8):Option (List UInt8):=bif decide (x.length+(1:Nat)<=4611686018427387904) then bif decide (0<=i64.wrap ((i64.wrap (64-(i64.wrap ((↑x.length:Int)+9)).tmod 64)).tmod 64+1))&&decide (i64.wrap ((i64.wrap (64-(i64.wrap ((↑x.length:Int)+9)).tmod 64)).tmod 64+1)<=i64.wrap
 ((i64.wrap (64-(i64.wrap ((↑x.length:Int)+9)).tmod 64)).tmod 64+1))&&decide (i64.wrap ((i64.wrap (64-(i64.wrap ((↑x.length:Int)+9)).tmod 64)).tmod 64+1)<=(↑4294967296:Int)) then bif decide ((x++[(128:UInt8)]).length+(List.map (fun(b:Int)=>UInt8.ofNat b.toNat) (List.replicate (i64.wrap ((i64.wrap (64-
 (i64.wrap ((↑x.length:Int)+9)).tmod 64)).tmod 64+1)).toNat 0)).length<=4611686018427387904) then(i_Fixed (i64.wrap (8*(↑x.length:Int)),7)).bind fun x_1=>bif decide ((x++[(128:UInt8)]++List.map (fun(b:Int)=>UInt8.ofNat b.toNat) (List.replicate (i64.wrap ((i64.wrap (64-(i64.wrap ((↑x.length:Int)+9)).tmod 64)).tmod 64+
 1)).toNat 0)).length+x_1.length<=4611686018427387904) then(iter i_Sha_L15 FUEL (x++[(128:UInt8)]++List.map (fun(b:Int)=>UInt8.ofNat b.toNat) (List.replicate (i64.wrap ((i64.wrap (64-(i64.wrap ((↑x.length:Int)+9)).tmod 64)).tmod 64+1)).toNat 0)++x_1,[1779033703,3144134277,1013904242,2773480762,1359893119,2600822924,528734635,1541459225],
 0)).bind fun x=>(iter i_Sha_L25 FUEL ([],x,0)).bind fun x=>some x else none else none else none else none
abbrev k115:Cuts:=ctab [(15,⟨s115_15,iter i_Sha_L15 FUEL⟩),(25,⟨s115_25,iter i_Sha_L25 FUEL⟩)]
theorem c115:FnOk Tryd.prog 115 ⟨s115,i_Sha⟩:=fn_of2 mix_ok rfl tyl_ok (fl:=q115) ⟨c179,c180,trivial⟩ Tryd.func115 rfl rfl (C:=k115) (pts:=[(⟨s115_15,iter i_Sha_L15 FUEL⟩,.loop (loopOf Tryd.f115 15)),(⟨s115_25,iter i_Sha_L25 FUEL⟩,.loop (loopOf Tryd.f115 25))]) (by kernel_rfl) ⟨l115_15,l115_25,trivial⟩ (fun _=>by kernel_rfl)
def s135:Sig:=⟨[.ro t36],[(.bool,true)],false⟩
abbrev q135:List (FuncId×V.Fn):=[(101,⟨s101,i_within⟩)]
def i_AnswerOk (x:Int×Int×Int×List UInt8×Int×Int):Option (Bool):=(i_within (x.1,0,5)).bind fun x_1=>(bif x_1 then(i_within (x.2.1,0,6)).bind fun x=>some x else some false).bind fun x_2=>(bif x_2 then(i_within (x.2.2.1,0,4)).bind fun x=>some x else some false).bind fun x_3=>(bif x_3 then(bif !decide ((↑(List.length x.2.2.2.1):Int)=0) then some
 (decide ((↑(List.length x.2.2.2.1):Int)=32)) else some true).bind fun x=>some x else some false).bind fun x_4=>(bif x_4 then(i_within (x.2.2.2.2.1,0,250)).bind fun x=>some x else some false).bind fun x_5=>(bif x_5 then(i_within (x.2.2.2.2.2,0,100000)).bind fun x=>some x else some false).bind fun x=>some x
theorem c135:FnOk Tryd.prog 135 ⟨s135,i_AnswerOk⟩:=fn_of mix_ok rfl tyl_ok (fl:=q135) ⟨c101,trivial⟩ Tryd.func135 rfl rfl cuts0 (fun _=>by kernel_rfl)
def s197:Sig:=⟨[.ro (.sl 9 .str),.ro (.int .i64)],[(.str,true)],false⟩
abbrev q197:List (FuncId×V.Fn):=[]
def i_bytesIn (x:List (List UInt8)×Int):Option (List UInt8):=bif decide (x.2<256) then some (List.map (fun(b:Int)=>UInt8.ofNat b.toNat) [u8.wrap x.2]) else bif decide (0<=i64.wrap (x.2-256)) then x.1[(i64.wrap (x.2-256)).toNat]?.bind fun x=>some x else none
theorem c197:FnOk Tryd.prog 197 ⟨s197,i_bytesIn⟩:=fn_of mix_ok rfl tyl_ok (fl:=q197) trivial Tryd.func197 rfl rfl cuts0 (fun _=>by kernel_rfl)
def s210:Sig:=⟨[.ro (.sl 9 .str),.ro .str],[((.int .i64),true)],false⟩
abbrev q210:List (FuncId×V.Fn):=[]
def s210_7:CutSig:=⟨19,[0,1,7,8],[.ro (.sl 9 .str),.ro .str,.ro (.int .i64),.ro (.int .i64)],[(.ex 0,[],[]),(.ret,[4],[((.int .i64),true)])]⟩
def g_slices_Index_string_string_L7 (go:List (List UInt8)×List UInt8×Int×Int->Option (Unit⊕Int)) (x:List (List UInt8)×List UInt8×Int×Int):Option (Unit⊕Int):=bif decide (x.2.2.2<x.2.2.1) then bif decide (0<=x.2.2.2) then x.1[Int.toNat x.2.2.2]?.bind fun x_1=>bif decide (x.2.1=x_1) then some (Sum.inr x.2.2.2) else go (x.1,x.2.1,x.2.2.1,
 i64.wrap (x.2.2.2+1)) else none else some (Sum.inl ())
theorem l210_7:CutOk Tryd.prog ⟨s210_7,iter g_slices_Index_string_string_L7 FUEL⟩ (.loop (loopOf Tryd.f210 7)):=loop_of mix_ok rfl tyl_ok (fl:=q210) trivial (C:=C0) rfl (pts:=[]) (by kernel_rfl) trivial (fun _ _=>by kernel_rfl)
def g_slices_Index_string_string (x:List (List UInt8)×List UInt8):Option (Int):=(iter g_slices_Index_string_string_L7 FUEL (x.1,x.2,(↑(List.length x.1):Int),0)).bind fun x=>sumK x (fun _=>some (-1)) fun z=>some z
abbrev k210:Cuts:=ctab [(7,⟨s210_7,iter g_slices_Index_string_string_L7 FUEL⟩)]
theorem c210:FnOk Tryd.prog 210 ⟨s210,g_slices_Index_string_string⟩:=fn_of2 mix_ok rfl tyl_ok (fl:=q210) trivial Tryd.func210 rfl rfl (C:=k210) (pts:=[(⟨s210_7,iter g_slices_Index_string_string_L7 FUEL⟩,.loop (loopOf Tryd.f210 7))]) (by kernel_rfl) ⟨l210_7,trivial⟩ (fun _=>by kernel_rfl)
def s198:Sig:=⟨[.ro (.sl 9 .str),.ro .str],[(.bool,true)],false⟩
abbrev q198:List (FuncId×V.Fn):=[(210,⟨s210,g_slices_Index_string_string⟩)]
def g_slices_Contains_string_string (x:List (List UInt8)×List UInt8):Option (Bool):=(g_slices_Index_string_string (x.1,x.2)).bind fun x=>some (decide (0<=x))
theorem c198:FnOk Tryd.prog 198 ⟨s198,g_slices_Contains_string_string⟩:=fn_of mix_ok rfl tyl_ok (fl:=q198) ⟨c210,trivial⟩ Tryd.func198 rfl rfl cuts0 (fun _=>by kernel_rfl)
def s170:Sig:=⟨[.ro (.sl 145 t145)],[((.sl 9 .str),true),(.bool,true)],false⟩
abbrev q170:List (FuncId×V.Fn):=[(101,⟨s101,i_within⟩),(197,⟨s197,i_bytesIn⟩),(198,⟨s198,g_slices_Contains_string_string⟩)]
def s170_13:CutSig:=⟨59,[4,13,14,15],[.own (.sl 9 .str),.ro (.sl 145 t145),.ro (.int .i64),.ro (.int .i64)],[(.ex 0,[4],[((.sl 9 .str),true)]),(.ret,[2,3],[((.sl 9 .str),true),(.bool,true)])]⟩
def i_tokens_L13 (go:List (List UInt8)×List D7×Int×Int->Option D6) (x:List (List UInt8)×List D7×Int×Int):Option D6:=bif decide (x.2.2.2<x.2.2.1) then bif decide (0<=x.2.2.2) then x.2.1[Int.toNat x.2.2.2]?.bind fun x_1=>(i_within (x_1.1,0,
 i64.wrap (255+x.2.2.2))).bind fun x_2=>(bif !!x_2 then(i_within (x_1.2,0,i64.wrap (255+x.2.2.2))).bind fun x=>some !x else some true).bind fun x_3=>bif x_3 then some (Sum.inr (x.1,false)) else(i_bytesIn (x.1,x_1.1)).bind fun x_4=>(i_bytesIn (x.1,x_1.2)).bind fun x_5=>bif decide (x_4.length+x_5.length<=4611686018427387904) then(bif !decide (24<(↑(x_4++
 x_5).length:Int)) then(g_slices_Contains_string_string (x.1,x_4++x_5)).bind fun x=>some x else some true).bind fun x_6=>bif x_6 then some (Sum.inr (x.1,false)) else bif decide (List.length x.1+(1:Nat)<=4294967296) then go (x.1++[x_4++x_5],x.2.1,x.2.2.1,i64.wrap (x.2.2.2+1)) else none else none else none else some (Sum.inl x.1)
theorem l170_13:CutOk Tryd.prog ⟨s170_13,iter i_tokens_L13 FUEL⟩ (.loop (loopOf Tryd.f170 13)):=loop_of mix_ok rfl tyl_ok (fl:=q170) ⟨c101,c197,c198,trivial⟩ (C:=C0) rfl (pts:=[]) (by kernel_rfl) trivial (fun _ _=>by kernel_rfl)
def i_tokens (x:List D7):Option (List (List UInt8)×Bool):=bif decide (60<(↑x.length:Int)) then some (List.replicate 0 [],false) else(iter i_tokens_L13 FUEL (List.replicate 0 [],x,(↑x.length:Int),0)).bind fun x=>sumK x (fun y=>some (y,true)) fun z=>some (z.1,z.2)
abbrev k170:Cuts:=ctab [(13,⟨s170_13,iter i_tokens_L13 FUEL⟩)]
theorem c170:FnOk Tryd.prog 170 ⟨s170,i_tokens⟩:=fn_of2 mix_ok rfl tyl_ok (fl:=q170) ⟨c101,c197,c198,trivial⟩ Tryd.func170 rfl rfl (C:=k170) (pts:=[(⟨s170_13,iter i_tokens_L13 FUEL⟩,.loop (loopOf Tryd.f170 13))]) (by kernel_rfl) ⟨l170_13,trivial⟩ (fun _=>by kernel_rfl)
def s95:Sig:=⟨[.ro t59],[(.bool,true)],false⟩
abbrev q95:List (FuncId×V.Fn):=[(170,⟨s170,i_tokens⟩)]
def i_VocabOk (x:List D7×Unit):Option (Bool):=(i_tokens x.1).bind fun x=>some x.2
theorem c95:FnOk Tryd.prog 95 ⟨s95,i_VocabOk⟩:=fn_of mix_ok rfl tyl_ok (fl:=q95) ⟨c170,trivial⟩ Tryd.func95 rfl rfl cuts0 (fun _=>by kernel_rfl)
def s96:Sig:=⟨[.ro (.int .i64)],[(.str,true)],false⟩
abbrev q96:List (FuncId×V.Fn):=[(101,⟨s101,i_within⟩)]
def s96_11:CutSig:=⟨25,[0,3],[.ro (.int .i64),.own t46],[(.ex 0,[0,3],[((.int .i64),true),(t46,true)])]⟩
def i_Var_L11 (go:Int×List Int->Option (Int×List Int)) (x:Int×List Int):Option (Int×List Int):=bif decide (127<x.1) then bif decide (List.length x.2+(1:Nat)<=4294967296) then go (Int.fdiv x.1 (2^min (Int.toNat 7) i64.bits),x.2++[u8.wrap (i64.wrap (↑(BitVec.ofInt i64.bits (i64.wrap (↑(BitVec.ofInt i64.bits
 x.1&&&BitVec.ofInt i64.bits 127).toNat:Int))|||BitVec.ofInt i64.bits 128).toNat:Int))]) else none else some (x.1,x.2)
theorem l96_11:CutOk Tryd.prog ⟨s96_11,iter i_Var_L11 FUEL⟩ (.loop (loopOf Tryd.f96 11)):=loop_of mix_ok rfl tyl_ok (fl:=q96) ⟨c101,trivial⟩ (C:=C0) rfl (pts:=[]) (by kernel_rfl) trivial (fun _ _=>by kernel_rfl)
def i_Var (x:Int):Option (List UInt8):=(i_within (x,0,562949953421311)).bind fun x_1=>bif !x_1 then some [] else(iter i_Var_L11 FUEL (x,List.replicate 0 0)).bind fun x=>bif decide (List.length x.2+(1:Nat)<=4294967296) then some (List.map (fun(b:Int)=>UInt8.ofNat b.toNat) (x.2++[u8.wrap x.1])) else none
abbrev k96:Cuts:=ctab [(11,⟨s96_11,iter i_Var_L11 FUEL⟩)]
theorem c96:FnOk Tryd.prog 96 ⟨s96,i_Var⟩:=fn_of2 mix_ok rfl tyl_ok (fl:=q96) ⟨c101,trivial⟩ Tryd.func96 rfl rfl (C:=k96) (pts:=[(⟨s96_11,iter i_Var_L11 FUEL⟩,.loop (loopOf Tryd.f96 11))]) (by kernel_rfl) ⟨l96_11,trivial⟩ (fun _=>by kernel_rfl)
def s31:Sig:=⟨[.ro t59],[(.str,true)],false⟩
abbrev q31:List (FuncId×V.Fn):=[(95,⟨s95,i_VocabOk⟩),(96,⟨s96,i_Var⟩)]
def s31_13:CutSig:=⟨32,[3,15,16,17],[.ro .str,.ro (.sl 145 t145),.ro (.int .i64),.ro (.int .i64)],[(.ex 0,[3],[(.str,true)])]⟩
def i_Canon_L13 (go:List UInt8×List D7×Int×Int->Option (List UInt8)) (x:List UInt8×List D7×Int×Int):Option (List UInt8):=bif decide (x.2.2.2<x.2.2.1) then bif decide (0<=x.2.2.2) then x.2.1[Int.toNat x.2.2.2]?.bind fun x_1=>(i_Var x_1.1).bind fun x_2=>bif decide (List.length x.1+x_2.length<=4611686018427387904) then(i_Var x_1.2).bind
 fun x_3=>bif decide ((x.1++x_2).length+x_3.length<=4611686018427387904) then go (x.1++x_2++x_3,x.2.1,x.2.2.1,i64.wrap (x.2.2.2+1)) else none else none else none else some x.1
theorem l31_13:CutOk Tryd.prog ⟨s31_13,iter i_Canon_L13 FUEL⟩ (.loop (loopOf Tryd.f31 13)):=loop_of mix_ok rfl tyl_ok (fl:=q31) ⟨c95,c96,trivial⟩ (C:=C0) rfl (pts:=[]) (by kernel_rfl) trivial (fun _ _=>by kernel_rfl)
def i_Canon (x:List D7×Unit):Option (List UInt8):=(i_VocabOk x).bind fun x_1=>bif !x_1 then some [] else(i_Var (↑(List.length x.1):Int)).bind fun x_2=>bif decide ((3:Nat)+x_2.length<=4611686018427387904) then(iter i_Canon_L13 FUEL ([(98:UInt8),(112:UInt8),(101:UInt8)]++x_2,x.1,(↑(List.length x.1):Int),0)).bind fun x=>some x else none
abbrev k31:Cuts:=ctab [(13,⟨s31_13,iter i_Canon_L13 FUEL⟩)]
theorem c31:FnOk Tryd.prog 31 ⟨s31,i_Canon⟩:=fn_of2 mix_ok rfl tyl_ok (fl:=q31) ⟨c95,c96,trivial⟩ Tryd.func31 rfl rfl (C:=k31) (pts:=[(⟨s31_13,iter i_Canon_L13 FUEL⟩,.loop (loopOf Tryd.f31 13))]) (by kernel_rfl) ⟨l31_13,trivial⟩ (fun _=>by kernel_rfl)
def s181:Sig:=⟨[.ro .str],[((.int .i64),true),((.int .i64),true)],false⟩
abbrev q181:List (FuncId×V.Fn):=[(96,⟨s96,i_Var⟩)]
def s181_9:CutSig:=⟨40,[0,4,5],[.ro .str,.ro (.int .i64),.ro (.int .i64)],[(.ex 0,[],[]),(.ret,[2,3],[((.int .i64),true),((.int .i64),true)])]⟩
def i_ReadVar_L9 (go:List UInt8×Int×Int->Option (Unit⊕Int×Int)) (x:List UInt8×Int×Int):Option (Unit⊕Int×Int):=(bif decide (x.2.2<(↑(List.length x.1):Int)) then some (decide (x.2.2<7)) else some false).bind fun x_1=>bif x_1 then bif decide (0<=x.2.2) then x.1[Int.toNat x.2.2]?.bind fun x_2=>bif decide (0<=i64.wrap (7*x.2.2)) then bif
 decide (0<=x.2.2) then x.1[Int.toNat x.2.2]?.bind fun x_3=>bif decide ((↑x_3.toNat:Int)<128) then(i_Var (i64.wrap (↑(BitVec.ofInt i64.bits x.2.1|||BitVec.ofInt i64.bits (i64.wrap (i64.wrap (u8.wrap (↑(BitVec.ofInt u8.bits (↑x_2.toNat:Int)&&&BitVec.ofInt u8.bits 127).toNat:Int))*2^min (i64.wrap (7*
 x.2.2)).toNat i64.bits))).toNat:Int))).bind fun x_4=>bif decide (0<=i64.wrap (x.2.2+1))&&decide (i64.wrap (x.2.2+1)<=(↑(List.length x.1):Int)) then bif !decide (x_4=List.take (i64.wrap (x.2.2+1)).toNat x.1) then some (Sum.inr (0,0)) else some (Sum.inr (i64.wrap (↑(BitVec.ofInt i64.bits x.2.1|||BitVec.ofInt i64.bits
 (i64.wrap (i64.wrap (u8.wrap (↑(BitVec.ofInt u8.bits (↑x_2.toNat:Int)&&&BitVec.ofInt u8.bits 127).toNat:Int))*2^min (i64.wrap (7*x.2.2)).toNat i64.bits))).toNat:Int),i64.wrap (x.2.2+1))) else none else go (x.1,i64.wrap (↑(BitVec.ofInt i64.bits x.2.1|||BitVec.ofInt i64.bits
 (i64.wrap (i64.wrap (u8.wrap (↑(BitVec.ofInt u8.bits (↑x_2.toNat:Int)&&&BitVec.ofInt u8.bits 127).toNat:Int))*2^min (i64.wrap (7*x.2.2)).toNat i64.bits))).toNat:Int),i64.wrap (x.2.2+1)) else none else none else none else some (Sum.inl ())
theorem l181_9:CutOk Tryd.prog ⟨s181_9,iter i_ReadVar_L9 FUEL⟩ (.loop (loopOf Tryd.f181 9)):=loop_of mix_ok rfl tyl_ok (fl:=q181) ⟨c96,trivial⟩ (C:=C0) rfl (pts:=[]) (by kernel_rfl) trivial (fun _ _=>by kernel_rfl)
def i_ReadVar (x:List UInt8):Option D7:=(iter i_ReadVar_L9 FUEL (x,0,0)).bind fun x=>sumK x (fun _=>some (0,0)) fun z=>some (z.1,z.2)
abbrev k181:Cuts:=ctab [(9,⟨s181_9,iter i_ReadVar_L9 FUEL⟩)]
theorem c181:FnOk Tryd.prog 181 ⟨s181,i_ReadVar⟩:=fn_of2 mix_ok rfl tyl_ok (fl:=q181) ⟨c96,trivial⟩ Tryd.func181 rfl rfl (C:=k181) (pts:=[(⟨s181_9,iter i_ReadVar_L9 FUEL⟩,.loop (loopOf Tryd.f181 9))]) (by kernel_rfl) ⟨l181_9,trivial⟩ (fun _=>by kernel_rfl)
def s116:Sig:=⟨[.pio t169],[((.int .i64),true)],false⟩
abbrev q116:List (FuncId×V.Fn):=[(181,⟨s181,i_ReadVar⟩)]
def i_scan_num (x:List UInt8×Bool):Option (Int×List UInt8×Bool):=(i_ReadVar x.1).bind fun x_1=>(bif !x.2 then some (decide (x_1.2=0)) else some true).bind fun x_2=>bif x_2 then some (0,x.1,true) else bif decide (0<=x_1.2)&&decide (x_1.2<=(↑(List.length x.1):Int)) then some (x_1.1,List.drop (Int.toNat x_1.2) x.1,x.2) else none
theorem c116:FnOk Tryd.prog 116 ⟨s116,i_scan_num⟩:=fn_of mix_ok rfl tyl_ok (fl:=q116) ⟨c181,trivial⟩ Tryd.func116 rfl rfl cuts0 (fun _=>by kernel_rfl)
def s112:Sig:=⟨[.pio t169,.ro (.int .i64)],[((.int .i64),true)],false⟩
abbrev q112:List (FuncId×V.Fn):=[(116,⟨s116,i_scan_num⟩)]
def i_scan_many (x:D9×Int):Option (Int×List UInt8×Bool):=(i_scan_num x.1).bind fun x_1=>bif decide (x.2<x_1.1) then some (0,x_1.2.1,true) else bif x_1.2.2 then some (0,x_1.2) else some (x_1.1,x_1.2)
theorem c112:FnOk Tryd.prog 112 ⟨s112,i_scan_many⟩:=fn_of mix_ok rfl tyl_ok (fl:=q112) ⟨c116,trivial⟩ Tryd.func112 rfl rfl cuts0 (fun _=>by kernel_rfl)
def s178:Sig:=⟨[.pio t169,.ro (.int .i64)],[(.str,true)],false⟩
abbrev q178:List (FuncId×V.Fn):=[(101,⟨s101,i_within⟩)]
def i_scan_cut (x:D9×Int):Option (List UInt8×List UInt8×Bool):=(bif !x.1.2 then(i_within (x.2,0,(↑(List.length x.1.1):Int))).bind fun x=>some !x else some true).bind fun x_1=>bif x_1 then some ([],x.1.1,true) else bif decide (0<=x.2)&&decide (x.2<=(↑(List.length x.1.1):Int)) then bif decide (0<=x.2)&&decide (x.2<=(↑(List.length
 x.1.1):Int)) then some (List.take (Int.toNat x.2) x.1.1,List.drop (Int.toNat x.2) x.1.1,x.1.2) else none else none
theorem c178:FnOk Tryd.prog 178 ⟨s178,i_scan_cut⟩:=fn_of mix_ok rfl tyl_ok (fl:=q178) ⟨c101,trivial⟩ Tryd.func178 rfl rfl cuts0 (fun _=>by kernel_rfl)
def s146:Sig:=⟨[.ro .str],[(t59,true),(.bool,true)],false⟩
abbrev q146:List (FuncId×V.Fn):=[(31,⟨s31,i_Canon⟩),(112,⟨s112,i_scan_many⟩),(116,⟨s116,i_scan_num⟩),(178,⟨s178,i_scan_cut⟩)]
def s146_15:CutSig:=⟨48,[4,6,16,17],[.pio t169,.pio t59,.ro (.int .i64),.ro (.int .i64)],[(.ex 0,[],[])]⟩
def i_ReadCanon_L15 (go:D9×D4×Int×Int->Option (D9×List D7×Unit)) (x:D9×D4×Int×Int):Option (D9×List D7×Unit):=bif decide (x.2.2.2<x.2.2.1) then(i_scan_num x.1).bind fun x_1=>(i_scan_num x_1.2).bind fun x_2=>bif
 decide (List.length x.2.1.1+(1:Nat)<=4294967296) then go (x_2.2,(x.2.1.1++[(x_1.1,x_2.1)],x.2.1.2),x.2.2.1,i64.wrap (x.2.2.2+1)) else none else some (x.1,x.2.1)
theorem l146_15:CutOk Tryd.prog ⟨s146_15,iter i_ReadCanon_L15 FUEL⟩ (.loop (loopOf Tryd.f146 15)):=loop_of mix_ok rfl tyl_ok (fl:=q146) ⟨c31,c112,c116,c178,trivial⟩ (C:=C0) rfl (pts:=[]) (by kernel_rfl) trivial (fun _ _=>by kernel_rfl)
def i_ReadCanon (x:List UInt8):Option (D4×Bool):=(i_scan_cut ((x,false),3)).bind fun x_1=>(i_scan_many (x_1.2,60)).bind fun x_2=>(iter i_ReadCanon_L15 FUEL (x_2.2,([],()),x_2.1,0)).bind fun x_3=>(bif !x_3.1.2 then some (decide (x=[])) else some true).bind fun x_4=>(bif !x_4 then(i_Canon x_3.2).bind fun x_5=>some !decide (x_5=x)
 else some true).bind fun x=>bif x then some (([],()),false) else some (x_3.2,true)
abbrev k146:Cuts:=ctab [(15,⟨s146_15,iter i_ReadCanon_L15 FUEL⟩)]
theorem c146:FnOk Tryd.prog 146 ⟨s146,i_ReadCanon⟩:=fn_of2 mix_ok rfl tyl_ok (fl:=q146) ⟨c31,c112,c116,c178,trivial⟩ Tryd.func146 rfl rfl (C:=k146) (pts:=[(⟨s146_15,iter i_ReadCanon_L15 FUEL⟩,.loop (loopOf Tryd.f146 15))]) (by kernel_rfl) ⟨l146_15,trivial⟩ (fun _=>by kernel_rfl)
def s189:Sig:=⟨[.ro t52,.pin .str],[(.bool,true)],false⟩
abbrev q189:List (FuncId×V.Fn):=[]
def i_Reg_has_1 (x:D3×List UInt8):Option (Bool):=some (decide (x.1.1=x.2))
theorem c189:FnOk Tryd.prog 189 ⟨s189,i_Reg_has_1⟩:=fn_of mix_ok rfl tyl_ok (fl:=q189) trivial Tryd.func189 rfl rfl cuts0 (fun _=>by kernel_rfl)
def s188:Sig:=⟨[.ro (.sl 52 t52),.clo 189 0 [(true,.str)]],[((.int .i64),true)],false⟩
abbrev q188:List (FuncId×V.Fn):=[(189,⟨s189,i_Reg_has_1⟩)]
def s188_7:CutSig:=⟨19,[0,1,7,8],[.ro (.sl 52 t52),.clo 189 0 [(true,.str)],.ro (.int .i64),.ro (.int .i64)],[(.ex 0,[],[]),(.ret,[4],[((.int .i64),true)])]⟩
def g_slices_IndexFunc_impl_Version_impl_Version_L7 (go:List D3×(List UInt8×Unit)×Int×Int->Option (Unit⊕Int)) (x:List D3×(List UInt8×Unit)×Int×Int):Option (Unit⊕Int):=bif decide (x.2.2.2<x.2.2.1) then bif decide (0<=x.2.2.2) then x.1[Int.toNat x.2.2.2]?.bind fun x_1=>(i_Reg_has_1 (x_1,
 x.2.1.1)).bind fun x_2=>bif x_2 then some (Sum.inr x.2.2.2) else go (x.1,(x.2.1.1,()),x.2.2.1,i64.wrap (x.2.2.2+1)) else none else some (Sum.inl ())
theorem l188_7:CutOk Tryd.prog ⟨s188_7,iter g_slices_IndexFunc_impl_Version_impl_Version_L7 FUEL⟩ (.loop (loopOf Tryd.f188 7)):=loop_of mix_ok rfl tyl_ok (fl:=q188) ⟨c189,trivial⟩ (C:=C0) rfl (pts:=[]) (by kernel_rfl) trivial (fun _ _=>by kernel_rfl)
def g_slices_IndexFunc_impl_Version_impl_Version (x:List D3×List UInt8×Unit):Option (Int):=(iter g_slices_IndexFunc_impl_Version_impl_Version_L7 FUEL (x.1,(x.2.1,()),(↑(List.length x.1):Int),0)).bind fun x=>sumK x (fun _=>some (-1)) fun z=>some z
abbrev k188:Cuts:=ctab [(7,⟨s188_7,iter g_slices_IndexFunc_impl_Version_impl_Version_L7 FUEL⟩)]
theorem c188:FnOk Tryd.prog 188 ⟨s188,g_slices_IndexFunc_impl_Version_impl_Version⟩:=fn_of2 mix_ok rfl tyl_ok (fl:=q188) ⟨c189,trivial⟩ Tryd.func188 rfl rfl (C:=k188) (pts:=[(⟨s188_7,iter g_slices_IndexFunc_impl_Version_impl_Version_L7 FUEL⟩,.loop (loopOf Tryd.f188 7))]) (by kernel_rfl) ⟨l188_7,trivial⟩ (fun _=>by kernel_rfl)
def s147:Sig:=⟨[.ro t34,.ro .str],[((.int .i64),true)],false⟩
abbrev q147:List (FuncId×V.Fn):=[(188,⟨s188,g_slices_IndexFunc_impl_Version_impl_Version⟩)]
def i_Reg_has (x:D1×List UInt8):Option (Int):=(g_slices_IndexFunc_impl_Version_impl_Version (x.1.1,x.2,())).bind fun x=>some (i64.wrap (1+x))
theorem c147:FnOk Tryd.prog 147 ⟨s147,i_Reg_has⟩:=fn_of mix_ok rfl tyl_ok (fl:=q147) ⟨c188,trivial⟩ Tryd.func147 rfl rfl cuts0 (fun _=>by kernel_rfl)
def s148:Sig:=⟨[.ro t34,.ro (.int .i64)],[(.bool,true)],false⟩
abbrev q148:List (FuncId×V.Fn):=[]
def s148_9:CutSig:=⟨23,[1,5,9,10,11],[.ro (.int .i64),.ro (.int .i64),.ro t23,.ro (.int .i64),.ro (.int .i64)],[(.ex 0,[5],[((.int .i64),true)])]⟩
def i_Reg_isActive_L9 (go:Int×Int×List Int×Int×Int->Option (Int)) (x:Int×Int×List Int×Int×Int):Option (Int):=bif decide (x.2.2.2.2<x.2.2.2.1) then bif decide (0<=x.2.2.2.2) then x.2.2.1[Int.toNat x.2.2.2.2]?.bind fun x_1=>bif decide (x_1=x.1) then go (x.1,i64.wrap (x.2.1+1),x.2.2.1,x.2.2.2.1,i64.wrap (x.2.2.2.2+1)) else go
 (x.1,x.2.1,x.2.2.1,x.2.2.2.1,i64.wrap (x.2.2.2.2+1)) else none else some x.2.1
theorem l148_9:CutOk Tryd.prog ⟨s148_9,iter i_Reg_isActive_L9 FUEL⟩ (.loop (loopOf Tryd.f148 9)):=loop_of mix_ok rfl tyl_ok (fl:=q148) trivial (C:=C0) rfl (pts:=[]) (by kernel_rfl) trivial (fun _ _=>by kernel_rfl)
def i_Reg_isActive (x:D1×Int):Option (Bool):=(iter i_Reg_isActive_L9 FUEL (x.2,0,x.1.2.1,(↑(List.length x.1.2.1):Int),0)).bind fun x=>some (decide (x=1))
abbrev k148:Cuts:=ctab [(9,⟨s148_9,iter i_Reg_isActive_L9 FUEL⟩)]
theorem c148:FnOk Tryd.prog 148 ⟨s148,i_Reg_isActive⟩:=fn_of2 mix_ok rfl tyl_ok (fl:=q148) trivial Tryd.func148 rfl rfl (C:=k148) (pts:=[(⟨s148_9,iter i_Reg_isActive_L9 FUEL⟩,.loop (loopOf Tryd.f148 9))]) (by kernel_rfl) ⟨l148_9,trivial⟩ (fun _=>by kernel_rfl)
def s65:Sig:=⟨[.ro t34],[(.bool,true)],false⟩
abbrev q65:List (FuncId×V.Fn):=[(101,⟨s101,i_within⟩),(115,⟨s115,i_Sha⟩),(135,⟨s135,i_AnswerOk⟩),(146,⟨s146,i_ReadCanon⟩),(147,⟨s147,i_Reg_has⟩),(148,⟨s148,i_Reg_isActive⟩)]
def s65_11:CutSig:=⟨148,[1,28,29,30],[.pin t34,.ro (.sl 52 t52),.ro (.int .i64),.ro (.int .i64)],[(.ex 0,[],[]),(.ret,[2],[(.bool,true)])]⟩
def i_RegOk_L11 (go:D1×List D3×Int×Int->Option (Unit⊕Bool)) (x:D1×List D3×Int×Int):
 Option (Unit⊕Bool):=bif decide (x.2.2.2<x.2.2.1) then bif decide (0<=x.2.2.2) then x.2.1[Int.toNat x.2.2.2]?.bind fun x_1=>(i_ReadCanon x_1.1).bind fun x_2=>(bif !!x_2.2 then(i_Sha x_1.1).bind fun x=>some !decide (x_1.2.1=x) else some true).bind fun x_3=>(bif !x_3 then(i_within (x_1.2.2,1,4)).bind fun x=>some !x else some true).bind fun x_4=>(bif !x_4 then(i_Reg_has
 (x.1,x_1.1)).bind fun x_5=>some !decide (x_5=i64.wrap (x.2.2.2+1)) else some true).bind fun x_5=>(bif !x_5 then(bif decide (x_1.2.2=2) then(i_Reg_isActive (x.1,i64.wrap (x.2.2.2+1))).bind fun x=>some !x else some false).bind fun x=>some x else some true).bind fun x_6=>bif x_6 then some (Sum.inr false) else go (x.1,x.2.1,x.2.2.1,i64.wrap (x.2.2.2+
 1)) else none else some (Sum.inl ())
theorem l65_11:CutOk Tryd.prog ⟨s65_11,iter i_RegOk_L11 FUEL⟩ (.loop (loopOf Tryd.f65 11)):=loop_of mix_ok rfl tyl_ok (fl:=q65) ⟨c101,c115,c135,c146,c147,c148,trivial⟩ (C:=C0) rfl (pts:=[]) (by kernel_rfl) trivial (fun _ _=>by kernel_rfl)
def s65_25:CutSig:=⟨148,[1,80,81,82],[.pin t34,.ro t23,.ro (.int .i64),.ro (.int .i64)],[(.ex 2,[],[]),(.ret,[2],[(.bool,true)])]⟩
def i_RegOk_L25 (go:D1×List Int×Int×Int->Option (Unit⊕Bool)) (x:D1×List Int×Int×Int):Option (Unit⊕Bool):=bif decide (x.2.2.2<x.2.2.1) then
 bif decide (0<=x.2.2.2) then x.2.1[Int.toNat x.2.2.2]?.bind fun x_1=>(i_within (x_1,0,(↑(List.length x.1.1):Int))).bind fun x_2=>(bif !!x_2 then(bif decide (0<x_1) then bif decide (0<=i64.wrap (x_1-1)) then x.1.1[(i64.wrap (x_1-1)).toNat]?.bind fun x=>some !decide (x.2.2=2) else none else some false).bind fun x=>some x else some true).bind fun x_3=>bif
 x_3 then some (Sum.inr false) else go (x.1,x.2.1,x.2.2.1,i64.wrap (x.2.2.2+1)) else none else some (Sum.inl ())
theorem l65_25:CutOk Tryd.prog ⟨s65_25,iter i_RegOk_L25 FUEL⟩ (.loop (loopOf Tryd.f65 25)):=loop_of mix_ok rfl tyl_ok (fl:=q65) ⟨c101,c115,c135,c146,c147,c148,trivial⟩ (C:=C0) rfl (pts:=[]) (by kernel_rfl) trivial (fun _ _=>by kernel_rfl)
def s65_37:CutSig:=⟨148,[1,108,109,110],[.pin t34,.ro (.sl 130 t130),.ro (.int .i64),.ro (.int .i64)],[(.ex 4,[],[]),(.ret,[2],[(.bool,true)])]⟩
def i_RegOk_L37 (go:D1×List D2×Int×Int->Option (Unit⊕Bool)) (x:D1×List (Int×Int×Int×Int×Int
 ×List UInt8×Int×Int)×Int×Int):Option (Unit⊕Bool):=bif decide (x.2.2.2<x.2.2.1) then bif decide (0<=x.2.2.2) then x.2.1[Int.toNat x.2.2.2]?.bind fun x_1=>(i_within (x_1.1,1,6)).bind fun x_2=>(bif !!x_2 then(bif decide (0<x.2.2.2) then bif decide (0<=i64.wrap (x.2.2.2-1)) then x.1.2.2[(i64.wrap (x.2.2.2-1)).toNat]?.bind fun x=>some (decide (x_1.1
 ≤ x.1)) else none else some false).bind fun x=>some x else some true).bind fun x_3=>(bif !x_3 then(i_within (x_1.2.1,1,1000000)).bind fun x=>some !x else some true).bind fun x_4=>(bif !x_4 then(i_AnswerOk x_1.2.2).bind fun x=>some !x else some true).bind fun x_5=>bif x_5 then some (Sum.inr false) else go (x.1,x.2.1,x.2.2.1,i64.wrap (x.2.2.2+1)) else none else some (Sum.inl ())
theorem l65_37:CutOk Tryd.prog ⟨s65_37,iter i_RegOk_L37 FUEL⟩ (.loop (loopOf Tryd.f65 37)):=loop_of mix_ok rfl tyl_ok (fl:=q65) ⟨c101,c115,c135,c146,c147,c148,trivial⟩ (C:=C0) rfl (pts:=[]) (by kernel_rfl) trivial (fun _ _=>by kernel_rfl)
def i_RegOk (x:List D3×List Int×List D2):Option (Bool):=(bif !decide (6<(↑(List.length x.1):Int)) then some !decide ((↑(List.length x.2.1):Int)=3) else some true).bind fun x_1=>(bif !x_1 then some (decide (6<(↑(List.length x.2.2):Int))) else some true).bind fun x_2=>bif x_2
 then some false else(iter i_RegOk_L11 FUEL (x,x.1,(↑(List.length x.1):Int),0)).bind fun x_3=>sumK x_3 (fun _=>(iter i_RegOk_L25 FUEL (x,x.2.1,(↑(List.length x.2.1):Int),0)).bind fun x_4=>sumK x_4 (fun _=>(iter i_RegOk_L37 FUEL (x,x.2.2,(↑(List.length x.2.2):Int),0)).bind fun x=>sumK x (fun _=>some true) fun z=>some z) fun z=>some z) fun z=>some z
abbrev k65:Cuts:=ctab [(11,⟨s65_11,iter i_RegOk_L11 FUEL⟩),(25,⟨s65_25,iter i_RegOk_L25 FUEL⟩),(37,⟨s65_37,iter i_RegOk_L37 FUEL⟩)]
theorem c65:FnOk Tryd.prog 65 ⟨s65,i_RegOk⟩:=fn_of2 mix_ok rfl tyl_ok (fl:=q65) ⟨c101,c115,c135,c146,c147,c148,trivial⟩ Tryd.func65 rfl rfl (C:=k65) (pts:=[(⟨s65_11,iter i_RegOk_L11 FUEL⟩,.loop (loopOf Tryd.f65 11)),(⟨s65_25,iter i_RegOk_L25 FUEL⟩,.loop (loopOf Tryd.f65 25)),(⟨s65_37,iter i_RegOk_L37 FUEL⟩,.loop (loopOf Tryd.f65 37))]) (by kernel_rfl) ⟨l65_11,l65_25,l65_37,trivial⟩ (fun _=>by kernel_rfl)
def s149:Sig:=⟨[.ro t23],[(t23,true)],false⟩
abbrev q149:List (FuncId×V.Fn):=[]
def i_copyInts (x:List Int):Option (List Int):=bif decide ((0:Nat)+x.length<=4294967296) then some ([]++x) else none
theorem c149:FnOk Tryd.prog 149 ⟨s149,i_copyInts⟩:=fn_of mix_ok rfl tyl_ok (fl:=q149) trivial Tryd.func149 rfl rfl cuts0 (fun _=>by kernel_rfl)
def s66:Sig:=⟨[.ro t34],[(t34,true)],false⟩
abbrev q66:List (FuncId×V.Fn):=[(149,⟨s149,i_copyInts⟩)]
def i_copyReg (x:List D3×List Int×List D2):Option D1:=bif decide (List.length x.1<=4294967296) then(i_copyInts x.2.1).bind fun x_1=>bif decide (List.length x.2.2<=4294967296) then
 some (x.1,x_1,x.2.2) else none else none
theorem c66:FnOk Tryd.prog 66 ⟨s66,i_copyReg⟩:=fn_of mix_ok rfl tyl_ok (fl:=q66) ⟨c149,trivial⟩ Tryd.func66 rfl rfl cuts0 (fun _=>by kernel_rfl)
def s190:Sig:=⟨[.ro (.int .i64)],[(.bool,true)],false⟩
abbrev q190:List (FuncId×V.Fn):=[(101,⟨s101,i_within⟩)]
def i_isVersion (x:Int):Option (Bool):=(i_within (x,1,6)).bind fun x=>some x
theorem c190:FnOk Tryd.prog 190 ⟨s190,i_isVersion⟩:=fn_of mix_ok rfl tyl_ok (fl:=q190) ⟨c101,trivial⟩ Tryd.func190 rfl rfl cuts0 (fun _=>by kernel_rfl)
def s191:Sig:=⟨[.ro (.int .i64)],[(.bool,true)],false⟩
abbrev q191:List (FuncId×V.Fn):=[(101,⟨s101,i_within⟩)]
def i_isChannel (x:Int):Option (Bool):=(i_within (x,0,2)).bind fun x=>some x
theorem c191:FnOk Tryd.prog 191 ⟨s191,i_isChannel⟩:=fn_of mix_ok rfl tyl_ok (fl:=q191) ⟨c101,trivial⟩ Tryd.func191 rfl rfl cuts0 (fun _=>by kernel_rfl)
def s150:Sig:=⟨[.ro t40],[(.bool,true)],false⟩
abbrev q150:List (FuncId×V.Fn):=[(190,⟨s190,i_isVersion⟩),(191,⟨s191,i_isChannel⟩)]
def i_OpOk (x:Int×Int×Int×List UInt8):Option (Bool):=(bif !decide (x.1=1) then some !decide (x.2.2.2=[]) else some false).bind fun x_1=>bif x_1 then some false else bif decide (x.1=1) then(bif decide (x.2.1=0) then some (decide (x.2.2.1=0)) else some false).bind fun x_2=>(bif x_2 then some (decide ((↑(List.length x.2.2.2):Int)<=250)) else some
 false).bind fun x=>some x else bif decide (x.1=2) then(i_isVersion x.2.2.1).bind fun x_2=>(bif x_2 then(i_isChannel x.2.1).bind fun x=>some x else some false).bind fun x=>some x else bif decide (x.1=3) then bif decide (x.1=3) then(i_isVersion x.2.2.1).bind fun x_2=>(bif x_2 then some (decide (x.2.1=0)) else some false).bind fun x=>some x else bif decide (x.1=5) then
 (i_isVersion x.2.2.1).bind fun x_2=>(bif x_2 then some (decide (x.2.1=0)) else some false).bind fun x_3=>(bif !x_3 then(bif decide (x.2.2.1=0) then(i_isChannel x.2.1).bind fun x=>some x else some false).bind fun x=>some x else some true).bind fun x=>some x else some false else bif decide (x.1=4) then(i_isVersion x.2.2.1).bind fun x_2=>(bif x_2 then some (decide (x.2.1=0))
 else some false).bind fun x=>some x else bif decide (x.1=5) then(i_isVersion x.2.2.1).bind fun x_2=>(bif x_2 then some (decide (x.2.1=0)) else some false).bind fun x_3=>(bif !x_3 then(bif decide (x.2.2.1=0) then(i_isChannel x.2.1).bind fun x=>some x else some false).bind fun x=>some x else some true).bind fun x=>some x else some false
theorem c150:FnOk Tryd.prog 150 ⟨s150,i_OpOk⟩:=fn_of mix_ok rfl tyl_ok (fl:=q150) ⟨c190,c191,trivial⟩ Tryd.func150 rfl rfl cuts0 (fun _=>by kernel_rfl)
def s153:Sig:=⟨[.ro t34,.ro (.int .i64),.ro (.int .i64)],[(t36,true)],false⟩
abbrev q153:List (FuncId×V.Fn):=[]
def i_Reg_told (x:D1×Int×Int):Option D5:=bif decide (0<=i64.wrap (x.2.1-1)) then x.1.1[(i64.wrap (x.2.1-1)).toNat]?.bind fun x_1=>some (x.2.2,x.2.1,x_1.2.2,x_1.2.1,(↑(List.length x_1.1):Int),0) else none
theorem c153:FnOk Tryd.prog 153 ⟨s153,i_Reg_told⟩:=fn_of mix_ok rfl tyl_ok (fl:=q153) trivial Tryd.func153 rfl rfl cuts0 (fun _=>by kernel_rfl)
def s151:Sig:=⟨[.pio t34,.ro .str],[(t36,true)],false⟩
abbrev q151:List (FuncId×V.Fn):=[(115,⟨s115,i_Sha⟩),(146,⟨s146,i_ReadCanon⟩),(147,⟨s147,i_Reg_has⟩),(153,⟨s153,i_Reg_told⟩)]
def i_Reg_publish (x:D1×List UInt8):Option D10:=(i_ReadCanon x.2).bind fun x_1=>bif !x_1.2 then some ((1,0,0,
 [],0,0),x.1) else(i_Reg_has (x.1,x.2)).bind fun x_2=>bif decide (0<x_2) then(i_Reg_told (x.1,x_2,2)).bind fun x_3=>some (x_3,x.1) else bif decide ((↑(List.length x.1.1):Int)=6) then some ((3,0,0,[],0,0),x.1) else(i_Sha x.2).bind fun x_3=>bif decide (List.length x.1.1+(1:Nat)<=4294967296) then(i_Reg_told ((x.1.1++[(x.2,x_3,1)],x.1.2),(↑(x.1.1++[(x.2,x_3,
 1)]).length:Int),0)).bind fun x_4=>some (x_4,x.1.1++[(x.2,x_3,1)],x.1.2) else none
theorem c151:FnOk Tryd.prog 151 ⟨s151,i_Reg_publish⟩:=fn_of mix_ok rfl tyl_ok (fl:=q151) ⟨c115,c146,c147,c153,trivial⟩ Tryd.func151 rfl rfl cuts0 (fun _=>by kernel_rfl)
def s192:Sig:=⟨[.ro t23,.ro (.int .i64)],[((.int .i64),true)],false⟩
abbrev q192:List (FuncId×V.Fn):=[]
def s192_7:CutSig:=⟨19,[0,1,7,8],[.ro t23,.ro (.int .i64),.ro (.int .i64),.ro (.int .i64)],[(.ex 0,[],[]),(.ret,[4],[((.int .i64),true)])]⟩
def g_slices_Index_int_int_L7 (go:List Int×Int×Int×Int->Option (Unit⊕Int)) (x:List Int×Int×Int×Int):Option (Unit⊕Int):=bif decide (x.2.2.2<x.2.2.1) then bif decide (0<=x.2.2.2) then x.1[Int.toNat x.2.2.2]?.bind fun x_1=>bif decide (x.2.1=x_1) then some (Sum.inr x.2.2.2) else go (x.1,x.2.1,x.2.2.1,i64.wrap (x.2.2.2+1)) else none else some (Sum.inl ())
theorem l192_7:CutOk Tryd.prog ⟨s192_7,iter g_slices_Index_int_int_L7 FUEL⟩ (.loop (loopOf Tryd.f192 7)):=loop_of mix_ok rfl tyl_ok (fl:=q192) trivial (C:=C0) rfl (pts:=[]) (by kernel_rfl) trivial (fun _ _=>by kernel_rfl)
def g_slices_Index_int_int (x:List Int×Int):Option (Int):=(iter g_slices_Index_int_int_L7 FUEL (x.1,x.2,(↑(List.length x.1):Int),0)).bind fun x=>sumK x (fun _=>some (-1)) fun z=>some z
abbrev k192:Cuts:=ctab [(7,⟨s192_7,iter g_slices_Index_int_int_L7 FUEL⟩)]
theorem c192:FnOk Tryd.prog 192 ⟨s192,g_slices_Index_int_int⟩:=fn_of2 mix_ok rfl tyl_ok (fl:=q192) trivial Tryd.func192 rfl rfl (C:=k192) (pts:=[(⟨s192_7,iter g_slices_Index_int_int_L7 FUEL⟩,.loop (loopOf Tryd.f192 7))]) (by kernel_rfl) ⟨l192_7,trivial⟩ (fun _=>by kernel_rfl)
def s152:Sig:=⟨[.pio t34,.ro t40],[(t36,true)],false⟩
abbrev q152:List (FuncId×V.Fn):=[(153,⟨s153,i_Reg_told⟩),(192,⟨s192,g_slices_Index_int_int⟩)]
def s152_18:CutSig:=⟨118,[6,7,32,33],[.pin t52,.ro .bool,.ro (.int .i64),.ro .bool],[(.nor,[7],[(.bool,true)])]⟩
def i_Reg_turn_L18 (x:D3×Bool×Int×Bool):Option (Bool):=bif x.2.2.2 then some (decide (x.1.2.2=2)) else bif decide (x.2.2.1=4) then(bif !decide (x.1.2.2=1) then some (decide (x.1.2.2=3)) else some true).bind fun x=>some x else some x.2.1
theorem l152_18:CutOk Tryd.prog ⟨s152_18,i_Reg_turn_L18⟩ (condOf Tryd.f152 18):=cond_of mix_ok rfl tyl_ok (fl:=q152) ⟨c153,c192,trivial⟩ (C:=C0) rfl (pts:=[]) (by kernel_rfl) trivial (fun _=>by kernel_rfl)
def i_Reg_turn (x:D1×Int×Int×Int×List UInt8):Option D10:=bif decide ((↑(List.length x.1.1):Int)<
 x.2.2.2.1) then some ((4,0,0,[],0,0),x.1) else bif decide (0<=i64.wrap (x.2.2.2.1-1)) then x.1.1[(i64.wrap (x.2.2.2.1-1)).toNat]?.bind fun _=>x.1.1[Int.toNat (i64.wrap (x.2.2.2.1-1))]?.bind fun x_2=>x.1.1[Int.toNat (i64.wrap (x.2.2.2.1-1))]?.bind fun x_3=>(i_Reg_turn_L18 (x_3,decide (x_2.2.2=1),x.2.1,decide (x.2.1=3))).bind fun x_4=>
 bif !x_4 then(i_Reg_told (x.1,x.2.2.2.1,5)).bind fun x_5=>some (x_5,x.1) else bif decide (x.2.1=2) then bif decide (0<=x.2.2.1) then x.1.2.1[Int.toNat x.2.2.1]?.bind fun _=>x.1.2.1[Int.toNat x.2.2.1]?.bind fun x_6=>bif decide (0<x_6) then bif decide (0<=i64.wrap (x_6-1)) then x.1.1[(i64.wrap (x_6-1)).toNat]?.bind fun _=>x.1.1[Int.toNat (i64.wrap
 (x_6-1))]?.bind fun x_8=>bif decide (0<=x.2.2.1) then x.1.2.1[Int.toNat x.2.2.1]?.bind fun _=>x.1.2.1[Int.toNat x.2.2.1]?.bind fun _=>(List.set x.1.1 (Int.toNat (i64.wrap (x_6-1))) (x_8.1,x_8.2.1,3))[Int.toNat (i64.wrap (x.2.2.2.1-1))]?.bind fun x_11=>(i_Reg_told (((List.set x.1.1 (Int.toNat (i64.wrap (x_6-1))) (x_8.1,x_8.2.1,3)).set (Int.toNat
 (i64.wrap (x.2.2.2.1-1))) (x_11.1,x_11.2.1,2),List.set x.1.2.1 (Int.toNat x.2.2.1) x.2.2.2.1,x.1.2.2),x.2.2.2.1,0)).bind fun x_12=>some (x_12,(List.set x.1.1 (Int.toNat (i64.wrap (x_6-1))) (x_8.1,x_8.2.1,3)).set (Int.toNat (i64.wrap (x.2.2.2.1-1))) (x_11.1,x_11.2.1,2),List.set x.1.2.1 (Int.toNat x.2.2.1) x.2.2.2.1,x.1.2.2) else none else none else bif
 decide (0<=x.2.2.1) then x.1.2.1[Int.toNat x.2.2.1]?.bind fun _=>x.1.2.1[Int.toNat x.2.2.1]?.bind fun _=>x.1.1[Int.toNat (i64.wrap (x.2.2.2.1-1))]?.bind fun x_9=>(i_Reg_told ((List.set x.1.1 (Int.toNat (i64.wrap (x.2.2.2.1-1))) (x_9.1,x_9.2.1,2),List.set x.1.2.1 (Int.toNat x.2.2.1) x.2.2.2.1,x.1.2.2),x.2.2.2.1,0)).bind fun x_10=>some (x_10,List.set x.1.1
 (Int.toNat (i64.wrap (x.2.2.2.1-1))) (x_9.1,x_9.2.1,2),List.set x.1.2.1 (Int.toNat x.2.2.1) x.2.2.2.1,x.1.2.2) else none else none else bif decide (x.2.1=3) then(g_slices_Index_int_int (x.1.2.1,x.2.2.2.1)).bind fun x_5=>bif decide (0<=x_5) then x.1.2.1[x_5.toNat]?.bind fun _=>x.1.2.1[Int.toNat x_5]?.bind fun _=>x.1.1[Int.toNat (i64.wrap (x.2.2.2.1-
 1))]?.bind fun x_8=>(i_Reg_told ((List.set x.1.1 (Int.toNat (i64.wrap (x.2.2.2.1-1))) (x_8.1,x_8.2.1,3),List.set x.1.2.1 (Int.toNat x_5) 0,x.1.2.2),x.2.2.2.1,0)).bind fun x_9=>some (x_9,List.set x.1.1 (Int.toNat (i64.wrap (x.2.2.2.1-1))) (x_8.1,x_8.2.1,3),List.set x.1.2.1 (Int.toNat x_5) 0,x.1.2.2) else none else x.1.1[Int.toNat (i64.wrap (x.2.2.2.1-
 1))]?.bind fun x_5=>(i_Reg_told ((List.set x.1.1 (Int.toNat (i64.wrap (x.2.2.2.1-1))) (x_5.1,x_5.2.1,4),x.1.2),x.2.2.2.1,0)).bind fun x_6=>some (x_6,List.set x.1.1 (Int.toNat (i64.wrap (x.2.2.2.1-1))) (x_5.1,x_5.2.1,4),x.1.2) else none
abbrev k152:Cuts:=ctab [(18,⟨s152_18,i_Reg_turn_L18⟩)]
theorem c152:FnOk Tryd.prog 152 ⟨s152,i_Reg_turn⟩:=fn_of2 mix_ok rfl tyl_ok (fl:=q152) ⟨c153,c192,trivial⟩ Tryd.func152 rfl rfl (C:=k152) (pts:=[(⟨s152_18,i_Reg_turn_L18⟩,condOf Tryd.f152 18)]) (by kernel_rfl) ⟨l152_18,trivial⟩ (fun _=>by kernel_rfl)
def s67:Sig:=⟨[.pio t34,.ro t40],[(t36,true)],false⟩
abbrev q67:List (FuncId×V.Fn):=[(101,⟨s101,i_within⟩),(150,⟨s150,i_OpOk⟩),(151,⟨s151,i_Reg_publish⟩),(152,⟨s152,i_Reg_turn⟩),(153,⟨s153,i_Reg_told⟩)]
def i_Reg_do (x:D1×Int×Int×Int×List UInt8):Option D10:=(i_OpOk x.2).bind fun x_1=>bif !x_1 then some ((1,
 0,0,[],0,0),x.1) else bif decide (x.2.1=1) then(i_Reg_publish (x.1,x.2.2.2.2)).bind fun x=>some (x.1,x.2) else bif decide (x.2.1=2) then bif decide (x.2.1=2) then(i_Reg_turn (x.1,x.2)).bind fun x=>some (x.1,x.2) else bif decide (x.2.2.2.1=0) then bif decide (0<=x.2.2.1) then x.1.2.1[Int.toNat x.2.2.1]?.bind fun _=>x.1.2.1[Int.toNat x.2.2.1]?.bind fun x_3=>(i_within
 (x_3,1,(↑(List.length x.1.1):Int))).bind fun x_4=>bif !x_4 then some ((4,0,0,[],0,0),x.1) else(i_Reg_told (x.1,x_3,0)).bind fun x_5=>some (x_5,x.1) else none else(i_within (x.2.2.2.1,1,(↑(List.length x.1.1):Int))).bind fun x_2=>bif !x_2 then some ((4,0,0,[],0,0),x.1) else(i_Reg_told (x.1,x.2.2.2.1,0)).bind fun x_3=>some (x_3,x.1) else bif decide (x.2.1=3)
 then bif decide (x.2.1=3) then(i_Reg_turn (x.1,x.2)).bind fun x=>some (x.1,x.2) else bif decide (x.2.2.2.1=0) then bif decide (0<=x.2.2.1) then x.1.2.1[Int.toNat x.2.2.1]?.bind fun _=>x.1.2.1[Int.toNat x.2.2.1]?.bind fun x_3=>(i_within (x_3,1,(↑(List.length x.1.1):Int))).bind fun x_4=>bif !x_4 then some ((4,0,0,[],0,0),x.1) else(i_Reg_told (x.1,x_3,0)).bind fun x_5
 =>some (x_5,x.1) else none else(i_within (x.2.2.2.1,1,(↑(List.length x.1.1):Int))).bind fun x_2=>bif !x_2 then some ((4,0,0,[],0,0),x.1) else(i_Reg_told (x.1,x.2.2.2.1,0)).bind fun x_3=>some (x_3,x.1) else bif decide (x.2.1=4) then(i_Reg_turn (x.1,x.2)).bind fun x=>some (x.1,x.2) else bif decide (x.2.2.2.1=0) then bif decide (0<=x.2.2.1) then x.1.2.1[Int.toNat
 x.2.2.1]?.bind fun _=>x.1.2.1[Int.toNat x.2.2.1]?.bind fun x_3=>(i_within (x_3,1,(↑(List.length x.1.1):Int))).bind fun x_4=>bif !x_4 then some ((4,0,0,[],0,0),x.1) else(i_Reg_told (x.1,x_3,0)).bind fun x_5=>some (x_5,x.1) else none else(i_within (x.2.2.2.1,1,(↑(List.length x.1.1):Int))).bind fun x_2=>bif !x_2 then some ((4,0,0,[],0,0),x.1) else(i_Reg_told
 (x.1,x.2.2.2.1,0)).bind fun x_3=>some (x_3,x.1)
theorem c67:FnOk Tryd.prog 67 ⟨s67,i_Reg_do⟩:=fn_of mix_ok rfl tyl_ok (fl:=q67) ⟨c101,c150,c151,c152,c153,trivial⟩ Tryd.func67 rfl rfl cuts0 (fun _=>by kernel_rfl)
def s17:Sig:=⟨[.ro t34,.ro t40],[(t34,true),(t36,true)],false⟩
abbrev q17:List (FuncId×V.Fn):=[(65,⟨s65,i_RegOk⟩),(66,⟨s66,i_copyReg⟩),(67,⟨s67,i_Reg_do⟩)]
def i_RegDo (x:D1×Int×Int×Int×List UInt8):Option D8:=(i_RegOk x.1).bind fun x_1=>bif !x_1 then some (([],
 [],[]),1,0,0,[],0,0) else(i_copyReg x.1).bind fun x_2=>(i_Reg_do (x_2,x.2)).bind fun x=>some (x.2,x.1)
theorem c17:FnOk Tryd.prog 17 ⟨s17,i_RegDo⟩:=fn_of mix_ok rfl tyl_ok (fl:=q17) ⟨c65,c66,c67,trivial⟩ Tryd.func17 rfl rfl cuts0 (fun _=>by kernel_rfl)
def s154:Sig:=⟨[.ro t52,.ro t52],[(.bool,true)],false⟩
abbrev q154:List (FuncId×V.Fn):=[]
def w_eqVersion (x:D3×List UInt8×List UInt8×Int):Option (Bool):=bif !decide (x.1.1=x.2.1) then some false else bif !decide (x.1.2.1=x.2.2.1) then some false else bif !decide (x.1.2.2=x.2.2.2) then some false else some true
theorem c154:FnOk Tryd.prog 154 ⟨s154,w_eqVersion⟩:=fn_of mix_ok rfl tyl_ok (fl:=q154) trivial Tryd.func154 rfl rfl cuts0 (fun _=>by kernel_rfl)
def s68:Sig:=⟨[.ro (.sl 52 t52),.ro (.sl 52 t52)],[(.bool,true)],false⟩
abbrev q68:List (FuncId×V.Fn):=[(154,⟨s154,w_eqVersion⟩)]
def s68_11:CutSig:=⟨27,[0,1,5],[.ro (.sl 52 t52),.ro (.sl 52 t52),.ro (.int .i64)],[(.ex 0,[],[]),(.ret,[4],[(.bool,true)])]⟩
def w_eqVersionS_L11 (go:List D3×List D3×Int->Option (Unit⊕Bool)) (x:List D3×List D3×Int):Option (Unit⊕Bool):=bif decide (x.2.2<(↑(List.length x.1):Int)) then bif decide (0<=x.2.2) then x.1[Int.toNat x.2.2]?.bind fun x_1=>bif decide (0 ≤
 x.2.2) then x.2.1[Int.toNat x.2.2]?.bind fun x_2=>(w_eqVersion (x_1,x_2)).bind fun x_3=>bif !x_3 then some (Sum.inr false) else go (x.1,x.2.1,i64.wrap (x.2.2+1)) else none else none else some (Sum.inl ())
theorem l68_11:CutOk Tryd.prog ⟨s68_11,iter w_eqVersionS_L11 FUEL⟩ (.loop (loopOf Tryd.f68 11)):=loop_of mix_ok rfl tyl_ok (fl:=q68) ⟨c154,trivial⟩ (C:=C0) rfl (pts:=[]) (by kernel_rfl) trivial (fun _ _=>by kernel_rfl)
def w_eqVersionS (x:List D3×List D3):Option (Bool):=bif !decide ((↑(List.length x.1):Int)=(↑(List.length x.2):Int)) then some false else(iter w_eqVersionS_L11 FUEL (x.1,x.2,0)).bind fun x=>sumK x (fun _=>some true) fun z=>some z
abbrev k68:Cuts:=ctab [(11,⟨s68_11,iter w_eqVersionS_L11 FUEL⟩)]
theorem c68:FnOk Tryd.prog 68 ⟨s68,w_eqVersionS⟩:=fn_of2 mix_ok rfl tyl_ok (fl:=q68) ⟨c154,trivial⟩ Tryd.func68 rfl rfl (C:=k68) (pts:=[(⟨s68_11,iter w_eqVersionS_L11 FUEL⟩,.loop (loopOf Tryd.f68 11))]) (by kernel_rfl) ⟨l68_11,trivial⟩ (fun _=>by kernel_rfl)
def s69:Sig:=⟨[.ro t23,.ro t23],[(.bool,true)],false⟩
abbrev q69:List (FuncId×V.Fn):=[]
def s69_11:CutSig:=⟨26,[0,1,5],[.ro t23,.ro t23,.ro (.int .i64)],[(.ex 0,[],[]),(.ret,[4],[(.bool,true)])]⟩
def w_eqIntS_L11 (go:List Int×List Int×Int->Option (Unit⊕Bool)) (x:List Int×List Int×Int):Option (Unit⊕Bool):=bif decide (x.2.2<(↑(List.length x.1):Int)) then bif decide (0<=x.2.2) then x.1[Int.toNat x.2.2]?.bind fun x_1=>bif decide (0<=x.2.2) then x.2.1[Int.toNat x.2.2]?.bind fun x_2=>bif !decide (x_1=x_2) then some (Sum.inr false) else go (x.1,
 x.2.1,i64.wrap (x.2.2+1)) else none else none else some (Sum.inl ())
theorem l69_11:CutOk Tryd.prog ⟨s69_11,iter w_eqIntS_L11 FUEL⟩ (.loop (loopOf Tryd.f69 11)):=loop_of mix_ok rfl tyl_ok (fl:=q69) trivial (C:=C0) rfl (pts:=[]) (by kernel_rfl) trivial (fun _ _=>by kernel_rfl)
def w_eqIntS (x:List Int×List Int):Option (Bool):=bif !decide ((↑(List.length x.1):Int)=(↑(List.length x.2):Int)) then some false else(iter w_eqIntS_L11 FUEL (x.1,x.2,0)).bind fun x=>sumK x (fun _=>some true) fun z=>some z
abbrev k69:Cuts:=ctab [(11,⟨s69_11,iter w_eqIntS_L11 FUEL⟩)]
theorem c69:FnOk Tryd.prog 69 ⟨s69,w_eqIntS⟩:=fn_of2 mix_ok rfl tyl_ok (fl:=q69) trivial Tryd.func69 rfl rfl (C:=k69) (pts:=[(⟨s69_11,iter w_eqIntS_L11 FUEL⟩,.loop (loopOf Tryd.f69 11))]) (by kernel_rfl) ⟨l69_11,trivial⟩ (fun _=>by kernel_rfl)
def s19:Sig:=⟨[.ro t36,.ro t36],[(.bool,true)],false⟩
abbrev q19:List (FuncId×V.Fn):=[]
def w_eqAnswer (x:D5×Int×Int×Int×List UInt8×Int×Int):Option (Bool):=bif !decide (x.1.1=x.2.1) then some false else bif !decide (x.1.2.1=x.2.2.1) then some false else bif !decide (x.1.2.2.1=x.2.2.2.1) then some false else bif !decide (x.1.2.2.2.1=x.2.2.2.2.1) then some false else bif !decide (x.1.2.2.2.2.1=
 x.2.2.2.2.2.1) then some false else bif !decide (x.1.2.2.2.2.2=x.2.2.2.2.2.2) then some false else some true
theorem c19:FnOk Tryd.prog 19 ⟨s19,w_eqAnswer⟩:=fn_of mix_ok rfl tyl_ok (fl:=q19) trivial Tryd.func19 rfl rfl cuts0 (fun _=>by kernel_rfl)
def s155:Sig:=⟨[.ro t130,.ro t130],[(.bool,true)],false⟩
abbrev q155:List (FuncId×V.Fn):=[(19,⟨s19,w_eqAnswer⟩)]
def w_eqSession (x:D2×Int×Int×Int×Int×Int×List UInt8×Int×Int):Option (Bool):=bif !decide (x.1.1=x.2.1) then some false else bif !decide (x.1.2.1=x.2.2.1) then some false else(w_eqAnswer (x.1.2.2,x.2.2.2)).bind fun x=>bif !x then some false else some true
theorem c155:FnOk Tryd.prog 155 ⟨s155,w_eqSession⟩:=fn_of mix_ok rfl tyl_ok (fl:=q155) ⟨c19,trivial⟩ Tryd.func155 rfl rfl cuts0 (fun _=>by kernel_rfl)
def s70:Sig:=⟨[.ro (.sl 130 t130),.ro (.sl 130 t130)],[(.bool,true)],false⟩
abbrev q70:List (FuncId×V.Fn):=[(155,⟨s155,w_eqSession⟩)]
def s70_11:CutSig:=⟨27,[0,1,5],[.ro (.sl 130 t130),.ro (.sl 130 t130),.ro (.int .i64)],[(.ex 0,[],[]),(.ret,[4],[(.bool,true)])]⟩
def w_eqSessionS_L11 (go:List D2×List D2×Int->Option (Unit⊕Bool)) (x:List D2×List D2×Int):Option (Unit⊕Bool):=bif decide (x.2.2<(↑(List.length x.1):
 Int)) then bif decide (0<=x.2.2) then x.1[Int.toNat x.2.2]?.bind fun x_1=>bif decide (0<=x.2.2) then x.2.1[Int.toNat x.2.2]?.bind fun x_2=>(w_eqSession (x_1,x_2)).bind fun x_3=>bif !x_3 then some (Sum.inr false) else go (x.1,x.2.1,i64.wrap (x.2.2+1)) else none else none else some (Sum.inl ())
theorem l70_11:CutOk Tryd.prog ⟨s70_11,iter w_eqSessionS_L11 FUEL⟩ (.loop (loopOf Tryd.f70 11)):=loop_of mix_ok rfl tyl_ok (fl:=q70) ⟨c155,trivial⟩ (C:=C0) rfl (pts:=[]) (by kernel_rfl) trivial (fun _ _=>by kernel_rfl)
def w_eqSessionS (x:List D2×List D2):Option (Bool):=bif !decide ((↑(List.length x.1):Int)=(↑(List.length x.2):Int)) then some false else(iter w_eqSessionS_L11 FUEL (x.1,x.2,0)).bind fun x=>sumK x (fun _=>some true) fun z=>some z
abbrev k70:Cuts:=ctab [(11,⟨s70_11,iter w_eqSessionS_L11 FUEL⟩)]
theorem c70:FnOk Tryd.prog 70 ⟨s70,w_eqSessionS⟩:=fn_of2 mix_ok rfl tyl_ok (fl:=q70) ⟨c155,trivial⟩ Tryd.func70 rfl rfl (C:=k70) (pts:=[(⟨s70_11,iter w_eqSessionS_L11 FUEL⟩,.loop (loopOf Tryd.f70 11))]) (by kernel_rfl) ⟨l70_11,trivial⟩ (fun _=>by kernel_rfl)
def s18:Sig:=⟨[.ro t34,.ro t34],[(.bool,true)],false⟩
abbrev q18:List (FuncId×V.Fn):=[(68,⟨s68,w_eqVersionS⟩),(69,⟨s69,w_eqIntS⟩),(70,⟨s70,w_eqSessionS⟩)]
def w_eqReg (x:D1×List D3×List Int×List D2):Option (Bool):=(w_eqVersionS (x.1.1,x.2.1)).bind fun x_1=>bif !x_1 then some false else(w_eqIntS (x.1.2.1,x.2.2.1)).bind fun x_2=>
 bif !x_2 then some false else(w_eqSessionS (x.1.2.2,x.2.2.2)).bind fun x=>bif !x then some false else some true
theorem c18:FnOk Tryd.prog 18 ⟨s18,w_eqReg⟩:=fn_of mix_ok rfl tyl_ok (fl:=q18) ⟨c68,c69,c70,trivial⟩ Tryd.func18 rfl rfl cuts0 (fun _=>by kernel_rfl)
def s104:Sig:=⟨[.ro (.int .i64)],[(.str,true)],false⟩
abbrev q104:List (FuncId×V.Fn):=[]
def s104_11:CutSig:=⟨20,[0,3],[.ro (.int .i64),.ro .str],[(.ex 0,[3],[(.str,true)])]⟩
def w_markText_L11 (go:Int×List UInt8->Option (List UInt8)) (x:Int×List UInt8):Option (List UInt8):=bif decide (0<x.1) then bif decide ((List.map (fun(b:Int)=>UInt8.ofNat b.toNat) [u8.wrap (i64.wrap (48+Int.tmod x.1 10))]).length+List.length x.2<=4611686018427387904) then go (i64.wrap (Int.tdiv x.1 10),List.map (fun(b:Int)=>
 UInt8.ofNat b.toNat) [u8.wrap (i64.wrap (48+Int.tmod x.1 10))]++x.2) else none else some x.2
theorem l104_11:CutOk Tryd.prog ⟨s104_11,iter w_markText_L11 FUEL⟩ (.loop (loopOf Tryd.f104 11)):=loop_of mix_ok rfl tyl_ok (fl:=q104) trivial (C:=C0) rfl (pts:=[]) (by kernel_rfl) trivial (fun _ _=>by kernel_rfl)
def w_markText (x:Int):Option (List UInt8):=bif decide (x<=0) then some [(109:UInt8),(48:UInt8)] else(iter w_markText_L11 FUEL (x,[])).bind fun x=>bif decide ((1:Nat)+x.length<=4611686018427387904) then some ([(109:UInt8)]++x) else none
abbrev k104:Cuts:=ctab [(11,⟨s104_11,iter w_markText_L11 FUEL⟩)]
theorem c104:FnOk Tryd.prog 104 ⟨s104,w_markText⟩:=fn_of2 mix_ok rfl tyl_ok (fl:=q104) trivial Tryd.func104 rfl rfl (C:=k104) (pts:=[(⟨s104_11,iter w_markText_L11 FUEL⟩,.loop (loopOf Tryd.f104 11))]) (by kernel_rfl) ⟨l104_11,trivial⟩ (fun _=>by kernel_rfl)
def s71:Sig:=⟨[.io (.sl 52 t52),.ro (.int .i64)],[((.int .i64),true)],false⟩
abbrev q71:List (FuncId×V.Fn):=[(104,⟨s104,w_markText⟩)]
def s71_7:CutSig:=⟨36,[0,1,5],[.own (.sl 52 t52),.ro (.int .i64),.ro (.int .i64)],[(.ex 0,[0,1],[((.sl 52 t52),true),((.int .i64),true)])]⟩
def w_markVersionS_L7 (go:List D3×Int×Int->Option (List D3×Int)) (x:List D3×Int×Int):Option (List D3×Int):=bif decide (x.2.2<(↑(List.length x.1):Int)) then(w_markText x.2.1).bind fun x_1=>bif decide (0<=x.2.2) then x.1[Int.toNat
 x.2.2]?.bind fun _=>x.1[Int.toNat x.2.2]?.bind fun x_3=>(w_markText (i64.wrap (x.2.1+1))).bind fun x_4=>bif decide (0<=x.2.2) then(List.set x.1 (Int.toNat x.2.2) (x_1,x_3.2))[Int.toNat x.2.2]?.bind fun _=>(List.set x.1 (Int.toNat x.2.2) (x_1,x_3.2))[Int.toNat x.2.2]?.bind fun x_6=>bif decide (0<=x.2.2) then((List.set x.1 (Int.toNat x.2.2) (x_1,x_3.2)).set
 (Int.toNat x.2.2) (x_6.1,x_4,x_6.2.2))[Int.toNat x.2.2]?.bind fun _=>((List.set x.1 (Int.toNat x.2.2) (x_1,x_3.2)).set (Int.toNat x.2.2) (x_6.1,x_4,x_6.2.2))[Int.toNat x.2.2]?.bind fun x_8=>go (((List.set x.1 (Int.toNat x.2.2) (x_1,x_3.2)).set (Int.toNat x.2.2) (x_6.1,x_4,x_6.2.2)).set (Int.toNat x.2.2) (x_8.1,x_8.2.1,i64.wrap (i64.wrap (x.2.1+1)+1)),
 i64.wrap (i64.wrap (i64.wrap (x.2.1+1)+1)+1),i64.wrap (x.2.2+1)) else none else none else none else some (x.1,x.2.1)
theorem l71_7:CutOk Tryd.prog ⟨s71_7,iter w_markVersionS_L7 FUEL⟩ (.loop (loopOf Tryd.f71 7)):=loop_of mix_ok rfl tyl_ok (fl:=q71) ⟨c104,trivial⟩ (C:=C0) rfl (pts:=[]) (by kernel_rfl) trivial (fun _ _=>by kernel_rfl)
def w_markVersionS (x:List D3×Int):Option (Int×List D3):=(iter w_markVersionS_L7 FUEL (x.1,x.2,0)).bind fun x=>some (x.2,x.1)
abbrev k71:Cuts:=ctab [(7,⟨s71_7,iter w_markVersionS_L7 FUEL⟩)]
theorem c71:FnOk Tryd.prog 71 ⟨s71,w_markVersionS⟩:=fn_of2 mix_ok rfl tyl_ok (fl:=q71) ⟨c104,trivial⟩ Tryd.func71 rfl rfl (C:=k71) (pts:=[(⟨s71_7,iter w_markVersionS_L7 FUEL⟩,.loop (loopOf Tryd.f71 7))]) (by kernel_rfl) ⟨l71_7,trivial⟩ (fun _=>by kernel_rfl)
def s72:Sig:=⟨[.io t23,.ro (.int .i64)],[((.int .i64),true)],false⟩
abbrev q72:List (FuncId×V.Fn):=[]
def s72_7:CutSig:=⟨19,[0,1,5],[.own t23,.ro (.int .i64),.ro (.int .i64)],[(.ex 0,[0,1],[(t23,true),((.int .i64),true)])]⟩
def w_markIntS_L7 (go:List Int×Int×Int->Option (List Int×Int)) (x:List Int×Int×Int):Option (List Int×Int):=bif decide (x.2.2<(↑(List.length x.1):Int)) then bif decide (0<=x.2.2) then x.1[Int.toNat x.2.2]?.bind fun _=>x.1[Int.toNat x.2.2]?.bind fun _=>go (List.set x.1 (Int.toNat x.2.2) x.2.1,i64.wrap (x.2.1+1),i64.wrap (x.2.2+
 1)) else none else some (x.1,x.2.1)
theorem l72_7:CutOk Tryd.prog ⟨s72_7,iter w_markIntS_L7 FUEL⟩ (.loop (loopOf Tryd.f72 7)):=loop_of mix_ok rfl tyl_ok (fl:=q72) trivial (C:=C0) rfl (pts:=[]) (by kernel_rfl) trivial (fun _ _=>by kernel_rfl)
def w_markIntS (x:List Int×Int):Option (Int×List Int):=(iter w_markIntS_L7 FUEL (x.1,x.2,0)).bind fun x=>some (x.2,x.1)
abbrev k72:Cuts:=ctab [(7,⟨s72_7,iter w_markIntS_L7 FUEL⟩)]
theorem c72:FnOk Tryd.prog 72 ⟨s72,w_markIntS⟩:=fn_of2 mix_ok rfl tyl_ok (fl:=q72) trivial Tryd.func72 rfl rfl (C:=k72) (pts:=[(⟨s72_7,iter w_markIntS_L7 FUEL⟩,.loop (loopOf Tryd.f72 7))]) (by kernel_rfl) ⟨l72_7,trivial⟩ (fun _=>by kernel_rfl)
def s73:Sig:=⟨[.io (.sl 130 t130),.ro (.int .i64)],[((.int .i64),true)],false⟩
abbrev q73:List (FuncId×V.Fn):=[(104,⟨s104,w_markText⟩)]
def s73_7:CutSig:=⟨76,[0,1,5],[.own (.sl 130 t130),.ro (.int .i64),.ro (.int .i64)],[(.ex 0,[0,1],[((.sl 130 t130),true),((.int .i64),true)])]⟩
def w_markSessionS_L7 (go:List D2×Int×Int->Option (List D2×Int)) (x:List D2×Int×Int):Option (List D2×Int):=bif decide (x.2.2<(↑(List.length x.1):Int))
 then bif decide (0<=x.2.2) then x.1[Int.toNat x.2.2]?.bind fun _=>x.1[Int.toNat x.2.2]?.bind fun x_2=>bif decide (0<=x.2.2) then(List.set x.1 (Int.toNat x.2.2) (x.2.1,x_2.2))[Int.toNat x.2.2]?.bind fun _=>(List.set x.1 (Int.toNat x.2.2) (x.2.1,x_2.2))[Int.toNat x.2.2]?.bind fun x_4=>bif decide (0<=x.2.2) then((List.set x.1 (Int.toNat x.2.2) (x.2.1,x_2.2)).set (Int.toNat
 x.2.2) (x_4.1,i64.wrap (x.2.1+1),x_4.2.2))[Int.toNat x.2.2]?.bind fun _=>((List.set x.1 (Int.toNat x.2.2) (x.2.1,x_2.2)).set (Int.toNat x.2.2) (x_4.1,i64.wrap (x.2.1+1),x_4.2.2))[Int.toNat x.2.2]?.bind fun x_6=>bif decide (0<=x.2.2) then(((List.set x.1 (Int.toNat x.2.2) (x.2.1,x_2.2)).set (Int.toNat x.2.2) (x_4.1,i64.wrap (x.2.1+1),x_4.2.2)).set
 (Int.toNat x.2.2) (x_6.1,x_6.2.1,i64.wrap (i64.wrap (x.2.1+1)+1),x_6.2.2.2))[Int.toNat x.2.2]?.bind fun _=>(((List.set x.1 (Int.toNat x.2.2) (x.2.1,x_2.2)).set (Int.toNat x.2.2) (x_4.1,i64.wrap (x.2.1+1),x_4.2.2)).set (Int.toNat x.2.2) (x_6.1,x_6.2.1,i64.wrap (i64.wrap (x.2.1+1)+1),x_6.2.2.2))[Int.toNat x.2.2]?.bind fun x_8=>bif
 decide (0<=x.2.2) then((((List.set x.1 (Int.toNat x.2.2) (x.2.1,x_2.2)).set (Int.toNat x.2.2) (x_4.1,i64.wrap (x.2.1+1),x_4.2.2)).set (Int.toNat x.2.2) (x_6.1,x_6.2.1,i64.wrap (i64.wrap (x.2.1+1)+1),x_6.2.2.2)).set (Int.toNat x.2.2) (x_8.1,x_8.2.1,x_8.2.2.1,i64.wrap (i64.wrap (i64.wrap (x.2.1+1)+1)+1),x_8.2.2.2.2))[Int.toNat
 x.2.2]?.bind fun _=>((((List.set x.1 (Int.toNat x.2.2) (x.2.1,x_2.2)).set (Int.toNat x.2.2) (x_4.1,i64.wrap (x.2.1+1),x_4.2.2)).set (Int.toNat x.2.2) (x_6.1,x_6.2.1,i64.wrap (i64.wrap (x.2.1+1)+1),x_6.2.2.2)).set (Int.toNat x.2.2) (x_8.1,x_8.2.1,x_8.2.2.1,i64.wrap (i64.wrap (i64.wrap (x.2.1+1)+1)+1),x_8.2.2.2.2))[Int.toNat
 x.2.2]?.bind fun x_10=>(w_markText (i64.wrap (i64.wrap (i64.wrap (i64.wrap (i64.wrap (x.2.1+1)+1)+1)+1)+1))).bind fun x_11=>bif decide (0<=x.2.2) then(((((List.set x.1 (Int.toNat x.2.2) (x.2.1,x_2.2)).set (Int.toNat x.2.2) (x_4.1,i64.wrap (x.2.1+1),x_4.2.2)).set (Int.toNat x.2.2) (x_6.1,x_6.2.1,i64.wrap
 (i64.wrap (x.2.1+1)+1),x_6.2.2.2)).set (Int.toNat x.2.2) (x_8.1,x_8.2.1,x_8.2.2.1,i64.wrap (i64.wrap (i64.wrap (x.2.1+1)+1)+1),x_8.2.2.2.2)).set (Int.toNat x.2.2) (x_10.1,x_10.2.1,x_10.2.2.1,x_10.2.2.2.1,i64.wrap (i64.wrap (i64.wrap (i64.wrap (x.2.1+1)+1)+1)+1),x_10.2.2.2.2.2))[Int.toNat x.2.2]?.bind fun
 _=>(((((List.set x.1 (Int.toNat x.2.2) (x.2.1,x_2.2)).set (Int.toNat x.2.2) (x_4.1,i64.wrap (x.2.1+1),x_4.2.2)).set (Int.toNat x.2.2) (x_6.1,x_6.2.1,i64.wrap (i64.wrap (x.2.1+1)+1),x_6.2.2.2)).set (Int.toNat x.2.2) (x_8.1,x_8.2.1,x_8.2.2.1,i64.wrap (i64.wrap (i64.wrap (x.2.1+1)+1)+1),x_8.2.2.2.2)).set (Int.toNat x.2.2)
 (x_10.1,x_10.2.1,x_10.2.2.1,x_10.2.2.2.1,i64.wrap (i64.wrap (i64.wrap (i64.wrap (x.2.1+1)+1)+1)+1),x_10.2.2.2.2.2))[Int.toNat x.2.2]?.bind fun x_13=>bif decide (0<=x.2.2) then((((((List.set x.1 (Int.toNat x.2.2) (x.2.1,x_2.2)).set (Int.toNat x.2.2) (x_4.1,i64.wrap (x.2.1+1),x_4.2.2)).set (Int.toNat x.2.2) (x_6.1,x_6.2.1,
 i64.wrap (i64.wrap (x.2.1+1)+1),x_6.2.2.2)).set (Int.toNat x.2.2) (x_8.1,x_8.2.1,x_8.2.2.1,i64.wrap (i64.wrap (i64.wrap (x.2.1+1)+1)+1),x_8.2.2.2.2)).set (Int.toNat x.2.2) (x_10.1,x_10.2.1,x_10.2.2.1,x_10.2.2.2.1,i64.wrap (i64.wrap (i64.wrap (i64.wrap (x.2.1+1)+1)+1)+1),x_10.2.2.2.2.2)).set
 (Int.toNat x.2.2) (x_13.1,x_13.2.1,x_13.2.2.1,x_13.2.2.2.1,x_13.2.2.2.2.1,x_11,x_13.2.2.2.2.2.2))[Int.toNat x.2.2]?.bind fun _=>((((((List.set x.1 (Int.toNat x.2.2) (x.2.1,x_2.2)).set (Int.toNat x.2.2) (x_4.1,i64.wrap (x.2.1+1),x_4.2.2)).set (Int.toNat x.2.2) (x_6.1,x_6.2.1,i64.wrap (i64.wrap (x.2.1+1)+1),x_6.2.2.2)).set (Int.toNat x.2.2) (x_8.1,
 x_8.2.1,x_8.2.2.1,i64.wrap (i64.wrap (i64.wrap (x.2.1+1)+1)+1),x_8.2.2.2.2)).set (Int.toNat x.2.2) (x_10.1,x_10.2.1,x_10.2.2.1,x_10.2.2.2.1,i64.wrap (i64.wrap (i64.wrap (i64.wrap (x.2.1+1)+1)+1)+1),x_10.2.2.2.2.2)).set (Int.toNat x.2.2) (x_13.1,x_13.2.1,x_13.2.2.1,x_13.2.2.2.1,x_13.2.2.2.2.1,x_11,
 x_13.2.2.2.2.2.2))[Int.toNat x.2.2]?.bind fun x_15=>bif decide (0<=x.2.2) then(((((((List.set x.1 (Int.toNat x.2.2) (x.2.1,x_2.2)).set (Int.toNat x.2.2) (x_4.1,i64.wrap (x.2.1+1),x_4.2.2)).set (Int.toNat x.2.2) (x_6.1,x_6.2.1,i64.wrap (i64.wrap (x.2.1+1)+1),x_6.2.2.2)).set (Int.toNat x.2.2) (x_8.1,x_8.2.1,x_8.2.2.1,i64.wrap (i64.wrap
 (i64.wrap (x.2.1+1)+1)+1),x_8.2.2.2.2)).set (Int.toNat x.2.2) (x_10.1,x_10.2.1,x_10.2.2.1,x_10.2.2.2.1,i64.wrap (i64.wrap (i64.wrap (i64.wrap (x.2.1+1)+1)+1)+1),x_10.2.2.2.2.2)).set (Int.toNat x.2.2) (x_13.1,x_13.2.1,x_13.2.2.1,x_13.2.2.2.1,x_13.2.2.2.2.1,x_11,x_13.2.2.2.2.2.2)).set (Int.toNat x.2.2) (x_15.1,x_15.2.1,x_15.2.2.1,
 x_15.2.2.2.1,x_15.2.2.2.2.1,x_15.2.2.2.2.2.1,i64.wrap (i64.wrap (i64.wrap (i64.wrap (i64.wrap (i64.wrap (x.2.1+1)+1)+1)+1)+1)+1),x_15.2.2.2.2.2.2.2))[Int.toNat x.2.2]?.bind fun _=>(((((((List.set x.1 (Int.toNat x.2.2) (x.2.1,x_2.2)).set (Int.toNat x.2.2) (x_4.1,i64.wrap (x.2.1+1),x_4.2.2)).set (Int.toNat x.2.2)
 (x_6.1,x_6.2.1,i64.wrap (i64.wrap (x.2.1+1)+1),x_6.2.2.2)).set (Int.toNat x.2.2) (x_8.1,x_8.2.1,x_8.2.2.1,i64.wrap (i64.wrap (i64.wrap (x.2.1+1)+1)+1),x_8.2.2.2.2)).set (Int.toNat x.2.2) (x_10.1,x_10.2.1,x_10.2.2.1,x_10.2.2.2.1,i64.wrap (i64.wrap (i64.wrap (i64.wrap (x.2.1+1)+1)+1)+1),
 x_10.2.2.2.2.2)).set (Int.toNat x.2.2) (x_13.1,x_13.2.1,x_13.2.2.1,x_13.2.2.2.1,x_13.2.2.2.2.1,x_11,x_13.2.2.2.2.2.2)).set (Int.toNat x.2.2) (x_15.1,x_15.2.1,x_15.2.2.1,x_15.2.2.2.1,x_15.2.2.2.2.1,x_15.2.2.2.2.2.1,i64.wrap (i64.wrap (i64.wrap (i64.wrap (i64.wrap (i64.wrap (x.2.1+1)+1)+1)+1)+1)+1),
 x_15.2.2.2.2.2.2.2))[Int.toNat x.2.2]?.bind fun x_17=>go ((((((((List.set x.1 (Int.toNat x.2.2) (x.2.1,x_2.2)).set (Int.toNat x.2.2) (x_4.1,i64.wrap (x.2.1+1),x_4.2.2)).set (Int.toNat x.2.2) (x_6.1,x_6.2.1,i64.wrap (i64.wrap (x.2.1+1)+1),x_6.2.2.2)).set (Int.toNat x.2.2) (x_8.1,x_8.2.1,x_8.2.2.1,i64.wrap (i64.wrap
 (i64.wrap (x.2.1+1)+1)+1),x_8.2.2.2.2)).set (Int.toNat x.2.2) (x_10.1,x_10.2.1,x_10.2.2.1,x_10.2.2.2.1,i64.wrap (i64.wrap (i64.wrap (i64.wrap (x.2.1+1)+1)+1)+1),x_10.2.2.2.2.2)).set (Int.toNat x.2.2) (x_13.1,x_13.2.1,x_13.2.2.1,x_13.2.2.2.1,x_13.2.2.2.2.1,x_11,x_13.2.2.2.2.2.2)).set (Int.toNat x.2.2) (x_15.1,x_15.2.1,x_15.2.2.1,
 x_15.2.2.2.1,x_15.2.2.2.2.1,x_15.2.2.2.2.2.1,i64.wrap (i64.wrap (i64.wrap (i64.wrap (i64.wrap (i64.wrap (x.2.1+1)+1)+1)+1)+1)+1),x_15.2.2.2.2.2.2.2)).set (Int.toNat x.2.2) (x_17.1,x_17.2.1,x_17.2.2.1,x_17.2.2.2.1,x_17.2.2.2.2.1,x_17.2.2.2.2.2.1,x_17.2.2.2.2.2.2.1,i64.wrap (i64.wrap (i64.wrap
 (i64.wrap (i64.wrap (i64.wrap (i64.wrap (x.2.1+1)+1)+1)+1)+1)+1)+1)),i64.wrap (i64.wrap (i64.wrap (i64.wrap (i64.wrap (i64.wrap (i64.wrap (i64.wrap (x.2.1+1)+1)+1)+1)+1)+1)+1)+1),i64.wrap (x.2.2+1)) else none else none else none else none else none else none
 else none else none else some (x.1,x.2.1)
theorem l73_7:CutOk Tryd.prog ⟨s73_7,iter w_markSessionS_L7 FUEL⟩ (.loop (loopOf Tryd.f73 7)):=loop_of mix_ok rfl tyl_ok (fl:=q73) ⟨c104,trivial⟩ (C:=C0) rfl (pts:=[]) (by kernel_rfl) trivial (fun _ _=>by kernel_rfl)
def w_markSessionS (x:List D2×Int):Option (Int×List D2):=(iter w_markSessionS_L7 FUEL (x.1,x.2,0)).bind fun x=>some (x.2,x.1)
abbrev k73:Cuts:=ctab [(7,⟨s73_7,iter w_markSessionS_L7 FUEL⟩)]
theorem c73:FnOk Tryd.prog 73 ⟨s73,w_markSessionS⟩:=fn_of2 mix_ok rfl tyl_ok (fl:=q73) ⟨c104,trivial⟩ Tryd.func73 rfl rfl (C:=k73) (pts:=[(⟨s73_7,iter w_markSessionS_L7 FUEL⟩,.loop (loopOf Tryd.f73 7))]) (by kernel_rfl) ⟨l73_7,trivial⟩ (fun _=>by kernel_rfl)
def s20:Sig:=⟨[.io t34,.ro (.int .i64)],[((.int .i64),true)],false⟩
abbrev q20:List (FuncId×V.Fn):=[(71,⟨s71,w_markVersionS⟩),(72,⟨s72,w_markIntS⟩),(73,⟨s73,w_markSessionS⟩)]
def w_markReg (x:D1×Int):Option (Int×List D3×List Int×List D2):=bif !(true&&((some (true&&decide (List.length x.1.1=List.length x.1.1)&&decide ([2]=List.take 1 [2,3,4])
 &&((true&&decide (List.length x.1.1=List.length x.1.1)&&(true&&decide (List.length x.1.2.1=List.length x.1.2.1)&&(true&&decide (List.length x.1.2.2=List.length x.1.2.2)))&&[2,3,4].all fun τ=>τ==1||[4,3].contains τ||[2].contains τ)&&true)&&((true||1+(1+1)==1)&&true))).getD false&&(true&&(([].all fun τ=>(τ==0||τ==1||[4,3].contains τ||
 [].contains τ)&& ![].contains (0,τ))&&(true&&true))))) then none else(w_markVersionS (x.1.1,x.2)).bind fun x_1=>bif !(true&&((some (true&&decide (List.length x.1.2.1=List.length x.1.2.1)&&decide ([3]=List.take 1 (List.drop 1 [6,3,4]))&&((true&&decide (List.length x_1.2=List.length x_1.2)&&(true&&decide (List.length x.1.2.1=List.length x.1.2.1)&&(true&&decide
 (List.length x.1.2.2=List.length x.1.2.2)))&&[6,3,4].all fun τ=>τ==1||[6,4].contains τ||[3].contains τ)&&true)&&((true||1+(1+1)==1)&&true))).getD false&&(true&&(([].all fun τ=>(τ==0||τ==1||[6,4].contains τ||[].contains τ)&& ![].contains (0,τ))&&(true&&true))))) then none else(w_markIntS (x.1.2.1,x_1.1)).bind fun x_2=>bif !(true&&((some
 (true&&decide (List.length x.1.2.2=List.length x.1.2.2)&&decide ([4]=List.drop 1 (List.drop 1 [6,7,4]))&&((true&&decide (List.length x_1.2=List.length x_1.2)&&(true&&decide (List.length x_2.2=List.length x_2.2)&&(true&&decide (List.length x.1.2.2=List.length x.1.2.2)))&&[6,7,4].all fun τ=>τ==1||[7,6].contains τ||[4].contains τ)&&true)&&((true||1+
 (1+1)==1)&&true))).getD false&&(true&&(([].all fun τ=>(τ==0||τ==1||[7,6].contains τ||[].contains τ)&& ![].contains (0,τ))&&(true&&true))))) then none else(w_markSessionS (x.1.2.2,x_2.1)).bind fun x=>some (x.1,x_1.2,x_2.2,x.2)
theorem c20:FnOk Tryd.prog 20 ⟨s20,w_markReg⟩:=fn_of mix_ok rfl tyl_ok (fl:=q20) ⟨c71,c72,c73,trivial⟩ Tryd.func20 rfl rfl cuts0 (fun _=>by kernel_rfl)
def s74:Sig:=⟨[.ro (.sl 52 t52),.ro (.int .i64)],[((.int .i64),true)],false⟩
abbrev q74:List (FuncId×V.Fn):=[(104,⟨s104,w_markText⟩)]
def s74_7:CutSig:=⟨42,[0,1,5],[.ro (.sl 52 t52),.ro (.int .i64),.ro (.int .i64)],[(.ex 0,[1],[((.int .i64),true)]),(.ret,[4],[((.int .i64),true)])]⟩
def w_heldVersionS_L7 (go:List D3×Int×Int->Option (Int⊕Int)) (x:List D3×Int×Int):Option (Int⊕Int):=bif decide (x.2.2<(↑(List.length x.1):Int)) then bif decide (0<=x.2.2) then x.1[Int.toNat x.2.2]?.bind fun x_1=>(w_markText x.2.1).bind fun x_2=>bif !decide (x_1.1=x_2) then some (Sum.inr (-1))
 else bif decide (0<=x.2.2) then x.1[Int.toNat x.2.2]?.bind fun x_3=>(w_markText (i64.wrap (x.2.1+1))).bind fun x_4=>bif !decide (x_3.2.1=x_4) then some (Sum.inr (-1)) else bif decide (0<=x.2.2) then x.1[Int.toNat x.2.2]?.bind fun x_5=>bif !decide (x_5.2.2=i64.wrap (i64.wrap (x.2.1+1)+1)) then some (Sum.inr (-1)) else go (x.1,i64.wrap
 (i64.wrap (i64.wrap (x.2.1+1)+1)+1),i64.wrap (x.2.2+1)) else none else none else none else some (Sum.inl x.2.1)
theorem l74_7:CutOk Tryd.prog ⟨s74_7,iter w_heldVersionS_L7 FUEL⟩ (.loop (loopOf Tryd.f74 7)):=loop_of mix_ok rfl tyl_ok (fl:=q74) ⟨c104,trivial⟩ (C:=C0) rfl (pts:=[]) (by kernel_rfl) trivial (fun _ _=>by kernel_rfl)
def w_heldVersionS (x:List D3×Int):Option (Int):=(iter w_heldVersionS_L7 FUEL (x.1,x.2,0)).bind fun x=>sumK x (fun y=>some y) fun z=>some z
abbrev k74:Cuts:=ctab [(7,⟨s74_7,iter w_heldVersionS_L7 FUEL⟩)]
theorem c74:FnOk Tryd.prog 74 ⟨s74,w_heldVersionS⟩:=fn_of2 mix_ok rfl tyl_ok (fl:=q74) ⟨c104,trivial⟩ Tryd.func74 rfl rfl (C:=k74) (pts:=[(⟨s74_7,iter w_heldVersionS_L7 FUEL⟩,.loop (loopOf Tryd.f74 7))]) (by kernel_rfl) ⟨l74_7,trivial⟩ (fun _=>by kernel_rfl)
def s75:Sig:=⟨[.ro t23,.ro (.int .i64)],[((.int .i64),true)],false⟩
abbrev q75:List (FuncId×V.Fn):=[]
def s75_7:CutSig:=⟨21,[0,1,5],[.ro t23,.ro (.int .i64),.ro (.int .i64)],[(.ex 0,[1],[((.int .i64),true)]),(.ret,[4],[((.int .i64),true)])]⟩
def w_heldIntS_L7 (go:List Int×Int×Int->Option (Int⊕Int)) (x:List Int×Int×Int):Option (Int⊕Int):=bif decide (x.2.2<(↑(List.length x.1):Int)) then bif decide (0<=x.2.2) then x.1[Int.toNat x.2.2]?.bind fun x_1=>bif !decide (x_1=x.2.1) then some (Sum.inr (-1)) else go (x.1,i64.wrap (x.2.1+1),i64.wrap (x.2.2+1)) else none else some (Sum.inl x.2.1)
theorem l75_7:CutOk Tryd.prog ⟨s75_7,iter w_heldIntS_L7 FUEL⟩ (.loop (loopOf Tryd.f75 7)):=loop_of mix_ok rfl tyl_ok (fl:=q75) trivial (C:=C0) rfl (pts:=[]) (by kernel_rfl) trivial (fun _ _=>by kernel_rfl)
def w_heldIntS (x:List Int×Int):Option (Int):=(iter w_heldIntS_L7 FUEL (x.1,x.2,0)).bind fun x=>sumK x (fun y=>some y) fun z=>some z
abbrev k75:Cuts:=ctab [(7,⟨s75_7,iter w_heldIntS_L7 FUEL⟩)]
theorem c75:FnOk Tryd.prog 75 ⟨s75,w_heldIntS⟩:=fn_of2 mix_ok rfl tyl_ok (fl:=q75) trivial Tryd.func75 rfl rfl (C:=k75) (pts:=[(⟨s75_7,iter w_heldIntS_L7 FUEL⟩,.loop (loopOf Tryd.f75 7))]) (by kernel_rfl) ⟨l75_7,trivial⟩ (fun _=>by kernel_rfl)
def s76:Sig:=⟨[.ro (.sl 130 t130),.ro (.int .i64)],[((.int .i64),true)],false⟩
abbrev q76:List (FuncId×V.Fn):=[(104,⟨s104,w_markText⟩)]
def s76_7:CutSig:=⟨92,[0,1,5],[.ro (.sl 130 t130),.ro (.int .i64),.ro (.int .i64)],[(.ex 0,[1],[((.int .i64),true)]),(.ret,[4],[((.int .i64),true)])]⟩
def w_heldSessionS_L7 (go:List D2×Int×Int->Option (Int⊕Int)) (x:List D2×Int×Int):Option (Int⊕Int):=bif decide (x.2.2<(↑(List.length x.1):Int)) then bif decide (0<=x.2.2) then x.1[Int.toNat x.2.2]?.bind fun x_1=>bif !decide (x_1.1=x.2.1) then some
 (Sum.inr (-1)) else bif decide (0<=x.2.2) then x.1[Int.toNat x.2.2]?.bind fun x_2=>bif !decide (x_2.2.1=i64.wrap (x.2.1+1)) then some (Sum.inr (-1)) else bif decide (0<=x.2.2) then x.1[Int.toNat x.2.2]?.bind fun x_3=>bif !decide (x_3.2.2.1=i64.wrap (i64.wrap (x.2.1+1)+1)) then some (Sum.inr (-1)) else bif decide (0<=x.2.2) then x.1[Int.toNat x.2.2]?.bind
 fun x_4=>bif !decide (x_4.2.2.2.1=i64.wrap (i64.wrap (i64.wrap (x.2.1+1)+1)+1)) then some (Sum.inr (-1)) else bif decide (0<=x.2.2) then x.1[Int.toNat x.2.2]?.bind fun x_5=>bif !decide (x_5.2.2.2.2.1=i64.wrap (i64.wrap (i64.wrap (i64.wrap (x.2.1+1)+1)+1)+1)) then some (Sum.inr (-1)) else bif decide (0<=x.2.2) then
 x.1[Int.toNat x.2.2]?.bind fun x_6=>(w_markText (i64.wrap (i64.wrap (i64.wrap (i64.wrap (i64.wrap (x.2.1+1)+1)+1)+1)+1))).bind fun x_7=>bif !decide (x_6.2.2.2.2.2.1=x_7) then some (Sum.inr (-1)) else bif decide (0<=x.2.2) then x.1[Int.toNat x.2.2]?.bind fun x_8=>bif !decide (x_8.2.2.2.2.2.2.1=i64.wrap (i64.wrap
 (i64.wrap (i64.wrap (i64.wrap (i64.wrap (x.2.1+1)+1)+1)+1)+1)+1)) then some (Sum.inr (-1)) else bif decide (0<=x.2.2) then x.1[Int.toNat x.2.2]?.bind fun x_9=>bif !decide (x_9.2.2.2.2.2.2.2=i64.wrap (i64.wrap (i64.wrap (i64.wrap (i64.wrap (i64.wrap (i64.wrap (x.2.1+1)+1)+1)+1)+1)+
 1)+1)) then some (Sum.inr (-1)) else go (x.1,i64.wrap (i64.wrap (i64.wrap (i64.wrap (i64.wrap (i64.wrap (i64.wrap (i64.wrap (x.2.1+1)+1)+1)+1)+1)+1)+1)+1),i64.wrap (x.2.2+1)) else none else none else none else none else none else none else none else none else some (Sum.inl x.2.1)
theorem l76_7:CutOk Tryd.prog ⟨s76_7,iter w_heldSessionS_L7 FUEL⟩ (.loop (loopOf Tryd.f76 7)):=loop_of mix_ok rfl tyl_ok (fl:=q76) ⟨c104,trivial⟩ (C:=C0) rfl (pts:=[]) (by kernel_rfl) trivial (fun _ _=>by kernel_rfl)
def w_heldSessionS (x:List D2×Int):Option (Int):=(iter w_heldSessionS_L7 FUEL (x.1,x.2,0)).bind fun x=>sumK x (fun y=>some y) fun z=>some z
abbrev k76:Cuts:=ctab [(7,⟨s76_7,iter w_heldSessionS_L7 FUEL⟩)]
theorem c76:FnOk Tryd.prog 76 ⟨s76,w_heldSessionS⟩:=fn_of2 mix_ok rfl tyl_ok (fl:=q76) ⟨c104,trivial⟩ Tryd.func76 rfl rfl (C:=k76) (pts:=[(⟨s76_7,iter w_heldSessionS_L7 FUEL⟩,.loop (loopOf Tryd.f76 7))]) (by kernel_rfl) ⟨l76_7,trivial⟩ (fun _=>by kernel_rfl)
def s21:Sig:=⟨[.ro t34,.ro (.int .i64)],[((.int .i64),true)],false⟩
abbrev q21:List (FuncId×V.Fn):=[(74,⟨s74,w_heldVersionS⟩),(75,⟨s75,w_heldIntS⟩),(76,⟨s76,w_heldSessionS⟩)]
def w_heldReg (x:D1×Int):Option (Int):=(w_heldVersionS (x.1.1,x.2)).bind fun x_1=>bif decide (x_1<0) then some (-1) else(w_heldIntS (x.1.2.1,x_1)).bind fun x_2=>bif decide (x_2<0) then some (-1) else(w_heldSessionS (x.1.2.2,x_2)).bind fun x=>bif decide
 (x<0) then some (-1) else some x
theorem c21:FnOk Tryd.prog 21 ⟨s21,w_heldReg⟩:=fn_of mix_ok rfl tyl_ok (fl:=q21) ⟨c74,c75,c76,trivial⟩ Tryd.func21 rfl rfl cuts0 (fun _=>by kernel_rfl)
def s3:Sig:=⟨[.ro t26,.ro t28],[(.bool,true)],false⟩
abbrev q3:List (FuncId×V.Fn):=[(12,⟨s12,w_szReg⟩),(13,⟨s13,w_szOp⟩),(14,⟨s14,s_RegDo⟩),(15,⟨s15,w_toReg⟩),(16,⟨s16,w_toOp⟩),(17,⟨s17,i_RegDo⟩),(18,⟨s18,w_eqReg⟩),(19,⟨s19,w_eqAnswer⟩),(20,⟨s20,w_markReg⟩),(21,⟨s21,w_heldReg⟩)]
def w_FnExactRegDo (x:D1×Int×Int×Int×List UInt8):Option (Bool):=(w_szReg (x.1,1048576)).bind fun x_1=>bif decide (x_1<0) then some true else(w_szOp (x.2,x_1)).bind fun x_2=>bif decide (x_2<0) then some true else(w_toReg x.1).bind fun x_3=>(w_toOp
 x.2).bind fun x_4=>(s_RegDo (x_3,x_4)).bind fun x_5=>(w_toReg x.1).bind fun x_6=>(w_toOp x.2).bind fun x_7=>(i_RegDo (x_6,x_7)).bind fun x_8=>(w_eqReg (x_8.1,x_5.1)).bind fun x_9=>(bif !!x_9 then(w_eqAnswer (x_8.2,x_5.2)).bind fun x=>some !x else some true).bind fun x_10=>bif x_10 then some false else(w_toReg x.1).bind fun x_11=>(w_eqReg (x_6,x_11)).bind fun x_12=>bif
 !x_12 then some false else bif !(true&&((some (true&&decide (List.length x_6.1=List.length x_6.1)&&(true&&decide (List.length x_6.2.1=List.length x_6.2.1)&&(true&&decide (List.length x_6.2.2=List.length x_6.2.2)))&&decide ([12,13,14]=[12,13,14])&&true&&((true||1+(1+1)==1)&&true))).getD false&&(true&&(([].all fun τ=>(τ==0||τ==1||[23,22,21,
 18,17,16,9,8,7,6,5,4].contains τ||[].contains τ)&& ![].contains (0,τ))&&(true&&true))))) then none else(w_markReg (x_6,1)).bind fun x_13=>(bif !decide (x_13.1<0) then(w_eqReg (x_8.1,x_5.1)).bind fun x=>some !x else some true).bind fun x_14=>(bif !x_14 then(w_eqAnswer (x_8.2,x_5.2)).bind fun x=>some !x else some true).bind fun x_15=>bif x_15 then some false else
 bif !(true&&((some (true&&decide (List.length x_8.1.1=List.length x_8.1.1)&&(true&&decide (List.length x_8.1.2.1=List.length x_8.1.2.1)&&(true&&decide (List.length x_8.1.2.2=List.length x_8.1.2.2)))&&decide ([16,17,18]=[16,17,18])&&true&&((true||1+(1+1)==1)&&true))).getD false&&(true&&(([].all fun τ=>(τ==0||τ==1||[26,25,24,23,22,21,9,
 8,7,6,5,4].contains τ||[].contains τ)&& ![].contains (0,τ))&&(true&&true))))) then none else(w_markReg (x_8.1,1)).bind fun x_16=>(w_heldReg (x_16.2,1)).bind fun x_17=>bif decide (x_17<0) then some false else bif !decide (x_17=x_16.1) then some false else(w_toReg x.1).bind fun x_18=>(w_toOp x.2).bind fun x=>(i_RegDo (x_18,x)).bind fun x=>(w_eqReg (x.1,x_5.1)).bind
 fun x_19=>(bif !!x_19 then(w_eqAnswer (x.2,x_5.2)).bind fun x=>some !x else some true).bind fun x=>bif x then some false else(w_heldReg (x_16.2,1)).bind fun x=>bif decide (x<0) then some false else bif !decide (x=x_16.1) then some false else some true
theorem c3:FnOk Tryd.prog 3 ⟨s3,w_FnExactRegDo⟩:=fn_of mix_ok rfl tyl_ok (fl:=q3) ⟨c12,c13,c14,c15,c16,c17,c18,c19,c20,c21,trivial⟩ Tryd.func3 rfl rfl cuts0 (fun _=>by kernel_rfl)
end
end Go.Proofs.YtibidhcmenljoaaDoor

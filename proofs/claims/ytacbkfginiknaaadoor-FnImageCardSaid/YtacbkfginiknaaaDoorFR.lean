/- The types and the functions that the laws reach: what each computes, and that it computes it. Printed by a program of this session (mk2.py). -/
import Derived.Test.YtacbkfginiknaaaDoorIns
namespace Go.Proofs.YtacbkfginiknaaaDoor
open Go Go.Proofs.YtacbkfginiknaaaDoor.V
open IntKind
noncomputable section
set_option maxRecDepth 100000
abbrev D1:=List (List UInt8×List UInt8×Int)×List Int×List (Int×Int×Int×Int×Int×List UInt8×Int×Int)
abbrev D2:=Int×Int×Int×Int×Int×List UInt8×Int×Int
abbrev D3:=List UInt8×List UInt8×Int
abbrev D4:=List (Int×Int)×Unit
abbrev D5:=List Int×Int×Int
abbrev D6:=Int×Int×Int×List UInt8×Int×Int
abbrev D7:=List UInt8×Bool
abbrev D8:=List (List UInt8)⊕List (List UInt8)×Bool
abbrev D9:=Int×Int×Int×List UInt8
abbrev D10:=D7×List D3×List Int×List D2
abbrev D11:=Int×Int
abbrev D12:=Int×List Int×Int×Int
abbrev D13:=D6×List D3×List Int×List D2
def t7:Ty:=.st (.pair (.int .i64) (.pair (.int .i64) (.pair .bool (.int .u8))))
def t8:Ty:=.st (.pair (.int .i64) (.pair (.int .i64) (.pair .bool (.int .u8))))
def t22:Ty:=.st (.pair (.int .i64) (.pair (.int .i64) (.pair (.int .i64) .str)))
def t23:Ty:=.st (.pair (.int .i64) (.pair (.int .i64) (.pair (.int .i64) .str)))
def t24:Ty:=.st (.pair (.int .i64) (.pair (.int .i64) (.pair .bool (.pair t23 (.int .i64)))))
def t25:Ty:=.st (.pair (.int .i64) (.pair (.int .i64) (.pair .bool (.pair t23 (.int .i64)))))
def t26:Ty:=.st (.pair (.int .i64) (.pair (.int .i64) .str))
def t27:Ty:=.st (.pair (.int .i64) (.pair (.int .i64) .str))
def t28:Ty:=.st (.pair (.int .i64) (.pair (.int .i64) (.pair (.int .i64) (.pair .str (.pair (.int .i64) (.int .i64))))))
def t29:Ty:=.st (.pair (.int .i64) (.pair (.int .i64) (.pair (.int .i64) (.pair .str (.pair (.int .i64) (.int .i64))))))
def t219:Ty:=.st (.pair (.int .i64) (.int .i64))
def t142:Ty:=.st (.pair (.sl 219 t219) .unit)
def t144:Ty:=.st (.pair .str t142)
def t31:Ty:=.st (.pair t25 (.pair (.int .i64) (.pair t27 (.pair t29 (.pair .str (.sl 144 t144))))))
def t32:Ty:=.st (.pair t25 (.pair (.int .i64) (.pair t27 (.pair t29 (.pair .str (.sl 144 t144))))))
def t159:Ty:=.st (.pair (.int .i64) .str)
def t35:Ty:=.st (.pair (.int .i64) (.pair (.int .i64) (.pair (.int .i64) (.pair (.int .i64) (.pair (.int .i64) (.pair (.int .i64) (.pair (.int .i64) (.pair .bool (.pair (.sl 159 t159) .str)))))))))
def t36:Ty:=.st (.pair (.int .i64) (.pair (.int .i64) (.pair (.int .i64) (.pair (.int .i64) (.pair (.int .i64) (.pair (.int .i64) (.pair (.int .i64) (.pair .bool (.pair (.sl 159 t159) .str)))))))))
def t39:Ty:=.st (.pair (.int .i64) (.pair (.int .i64) (.pair (.int .i64) .str)))
def t40:Ty:=.st (.pair (.int .i64) (.pair (.int .i64) (.pair .bool (.pair t39 (.int .i64)))))
def t41:Ty:=.st (.pair (.int .i64) (.pair (.int .i64) (.pair .bool (.pair t39 (.int .i64)))))
def t42:Ty:=.st (.pair (.int .i64) (.pair (.int .i64) .str))
def t43:Ty:=.st (.pair (.int .i64) (.pair (.int .i64) (.pair (.int .i64) (.pair .str (.pair (.int .i64) (.int .i64))))))
def t179:Ty:=.st (.pair (.int .i64) (.int .i64))
def t131:Ty:=.st (.pair (.sl 179 t179) .unit)
def t148:Ty:=.st (.pair .str t131)
def t45:Ty:=.st (.pair t41 (.pair (.int .i64) (.pair t42 (.pair t43 (.pair .str (.sl 148 t148))))))
def t46:Ty:=.st (.pair t41 (.pair (.int .i64) (.pair t42 (.pair t43 (.pair .str (.sl 148 t148))))))
def t54:Ty:=.sl 3 (.int .i64)
def t55:Ty:=.st (.pair (.int .i64) (.pair t42 (.pair (.int .i64) (.pair .str (.pair t54 (.int .i64))))))
def t56:Ty:=.st (.pair (.int .i64) (.pair t42 (.pair (.int .i64) (.pair .str (.pair t54 (.int .i64))))))
def t63:Ty:=.sl 5 (.int .u8)
def t116:Ty:=.st (.pair .str (.pair .str (.int .i64)))
def t119:Ty:=.st (.pair (.int .i64) (.pair (.int .i64) t43))
def t67:Ty:=.st (.pair (.sl 116 t116) (.pair t54 (.sl 119 t119)))
def t68:Ty:=.st (.pair (.sl 116 t116) (.pair t54 (.sl 119 t119)))
def t115:Ty:=.st (.pair .str (.pair .str (.int .i64)))
def t118:Ty:=.st (.pair (.int .i64) (.pair (.int .i64) t43))
def t122:Ty:=.st (.pair .str .bool)
def t123:Ty:=.st (.pair .str .bool)
def t130:Ty:=.st (.pair (.sl 179 t179) .unit)
def t141:Ty:=.st (.pair (.sl 219 t219) .unit)
def t143:Ty:=.st (.pair .str t142)
def t147:Ty:=.st (.pair .str t131)
def t158:Ty:=.st (.pair (.int .i64) .str)
def t164:Ty:=.st (.pair t63 (.pair (.int .i64) (.int .i64)))
def t165:Ty:=.st (.pair t63 (.pair (.int .i64) (.int .i64)))
def t174:Ty:=.arr 8 (.int .u32)
def t178:Ty:=.st (.pair (.int .i64) (.int .i64))
def t180:Ty:=.sl 173 (.int .u32)
def t203:Ty:=.arr 64 (.int .u32)
def tyl:List (Option Ty):=[none,none,some (.int .i64),some (.int .i64),some .bool,some (.int .u8),some (.int .u8),some t7,some t8,some .str,some .str,some .str,some (.int .u64),none,none,none,none,none,none,none,none,some (.int .i32),some t22,some t23,some t24,some t25,some t26,some t27,some t28,some t29,some (.sl 144 t144),some t31,some t32,none,some (.sl 159 t159),some t35,some t36,none,none,some t39,some t40,some t41,some t42,some t43,some (.sl 148 t148),some t45,some t46,none,none,none,none,none,none,none,some t54,some t55,some t56,none,none,none,none,none,none,some t63,none,some (.sl 116 t116),some (.sl 119 t119),some t67,some t68,none,none,none,none,none,none,none,none,none,none,none,none,none,none,none,none,none,none,none,none,none,none,none,none,none,none,none,none,none,none,none,none,none,none,none,none,none,none,none,none,none,none,none,none,none,none,some t115,some t116,none,some t118,some t119,none,none,some t122,some t123,none,none,none,none,none,some (.sl 179 t179),some t130,some t131,none,none,none,none,none,none,none,none,some (.sl 219 t219),some t141,some t142,some t143,some t144,none,none,some t147,some t148,none,none,none,none,none,none,none,none,none,some t158,some t159,none,none,none,none,some t164,some t165,none,none,none,none,none,some (.int .u64),none,some (.int .u32),some t174,none,none,none,some t178,some t179,some t180,none,none,none,none,none,none,none,none,none,none,some (.sl 9 .str),none,none,none,none,none,none,none,none,none,none,none,some t203,none,none,none,none,none,none,none,none,none,none,none,none,none,none,none,some t219,none,none,none,none,none,none,none,none,some (.int .u8),some (.int .u8),none,none,some (.int .i32),some (.int .i32)]
theorem mix_ok:Tryd.prog.follows .mixedOrders=true:=by kernel_rfl
theorem tyl_ok:tabB Tryd.prog 12 tyl 0=true:=by kernel_rfl
def s23:Sig:=⟨[.ro t63],[(.bool,true)],false⟩
abbrev q23:List (FuncId×V.Fn):=[]
def w_big (x:List Int):Option (Bool):=some (decide (1048576<(↑x.length:Int)))
theorem c23:FnOk Tryd.prog 23 ⟨s23,w_big⟩:=fn_of mix_ok rfl tyl_ok (fl:=q23) trivial Tryd.func23 rfl rfl cuts0 (fun _=>by kernel_rfl)
def s64:Sig:=⟨[.ro t63],[(t165,false)],true⟩
abbrev q64:List (FuncId×V.Fn):=[]
def s64_9:CutSig:=⟨32,[0,3,4],[.ro t63,.ro (.int .i64),.ro (.int .i64)],[(.ex 0,[3],[((.int .i64),true)])]⟩
def s_l1New_L9 (go:List Int×Int×Int->Option (Int)) (x:List Int×Int×Int):Option (Int):=(bif decide (x.2.2<(↑(List.length x.1):Int)) then some (decide (x.2.2<4000)) else some false).bind fun x_1=>bif x_1 then bif decide (0<=x.2.2) then x.1[Int.toNat x.2.2]?.bind fun x_2=>go (x.1,i64.wrap (↑(BitVec.ofInt i64.bits (i64.wrap
 (i64.wrap (i64.wrap (x.2.1*131)+i64.wrap x_2)+7))&&&BitVec.ofInt i64.bits 1073741823).toNat:Int),i64.wrap (x.2.2+1)) else none else some x.2.1
theorem l64_9:CutOk Tryd.prog ⟨s64_9,iter s_l1New_L9 FUEL⟩ (.loop (loopOf Tryd.f64 9)):=loop_of mix_ok rfl tyl_ok (fl:=q64) trivial (C:=C0) rfl (pts:=[]) (by kernel_rfl) trivial (fun _ _=>by kernel_rfl)
def s_l1New (x:List Int):Option D5:=(iter s_l1New_L9 FUEL (x,i64.wrap (10101+(↑x.length:Int)),0)).bind fun x_1=>some (x,0,x_1)
abbrev k64:Cuts:=ctab [(9,⟨s64_9,iter s_l1New_L9 FUEL⟩)]
theorem c64:FnOk Tryd.prog 64 ⟨s64,s_l1New⟩:=fn_of2 mix_ok rfl tyl_ok (fl:=q64) trivial Tryd.func64 rfl rfl (C:=k64) (pts:=[(⟨s64_9,iter s_l1New_L9 FUEL⟩,.loop (loopOf Tryd.f64 9))]) (by kernel_rfl) ⟨l64_9,trivial⟩ (fun _=>by kernel_rfl)
def s124:Sig:=⟨[.mu t165],[((.int .i64),true)],false⟩
abbrev q124:List (FuncId×V.Fn):=[]
def s_l1Byte (x:List Int×Int×Int):Option D12:=bif decide (x.2.1<(↑(List.length x.1):Int)) then bif decide (0<=x.2.1) then x.1[Int.toNat x.2.1]?.bind fun x_1=>some (i64.wrap (↑(BitVec.ofInt i64.bits (i64.wrap (i64.wrap (↑(BitVec.ofInt i64.bits (i64.wrap (↑(BitVec.ofInt i64.bits
 ((i64.wrap (i64.wrap (x.2.2*6364136223846793005)+1442695040888963407)).fdiv (2^min (Int.toNat 33) i64.bits))^^^BitVec.ofInt i64.bits ((i64.wrap (i64.wrap (x.2.2*6364136223846793005)+1442695040888963407)).fdiv (2^min (Int.toNat 45) i64.bits))).toNat:Int))&&&BitVec.ofInt i64.bits 255).toNat:Int)+i64.wrap
 x_1))&&&BitVec.ofInt i64.bits 255).toNat:Int),x.1,i64.wrap (x.2.1+1),i64.wrap (i64.wrap (x.2.2*6364136223846793005)+1442695040888963407)) else none else some (i64.wrap (↑(BitVec.ofInt i64.bits (i64.wrap (↑(BitVec.ofInt i64.bits ((i64.wrap (i64.wrap (x.2.2*6364136223846793005)+
 1442695040888963407)).fdiv (2^min (Int.toNat 33) i64.bits))^^^BitVec.ofInt i64.bits ((i64.wrap (i64.wrap (x.2.2*6364136223846793005)+1442695040888963407)).fdiv (2^min (Int.toNat 45) i64.bits))).toNat:Int))&&&BitVec.ofInt i64.bits 255).toNat:Int),x.1,x.2.1,i64.wrap (i64.wrap (x.2.2*6364136223846793005)+1442695040888963407))
theorem c124:FnOk Tryd.prog 124 ⟨s124,s_l1Byte⟩:=fn_of mix_ok rfl tyl_ok (fl:=q124) trivial Tryd.func124 rfl rfl cuts0 (fun _=>by kernel_rfl)
def s68:Sig:=⟨[.mu t165,.ro (.int .i64)],[((.int .i64),true)],false⟩
abbrev q68:List (FuncId×V.Fn):=[(124,⟨s124,s_l1Byte⟩)]
def s_l1Below (x:D5×Int):Option D12:=bif decide (x.2<=0) then some (0,x.1) else bif decide (x.2<=256) then(s_l1Byte x.1).bind fun x_1=>bif !decide (x.2=0) then some (Int.tmod x_1.1 x.2,x_1.2) else none else(s_l1Byte x.1).bind fun x_1=>(s_l1Byte x_1.2).bind fun x_2=>(s_l1Byte x_2.2).bind fun x_3=>(s_l1Byte
 x_3.2).bind fun x_4=>bif !decide (x.2=0) then some ((i64.wrap (i64.wrap (i64.wrap (i64.wrap (x_1.1*16777216)+i64.wrap (x_2.1*65536))+i64.wrap (x_3.1*256))+x_4.1)).tmod x.2,x_4.2) else none
theorem c68:FnOk Tryd.prog 68 ⟨s68,s_l1Below⟩:=fn_of mix_ok rfl tyl_ok (fl:=q68) ⟨c124,trivial⟩ Tryd.func68 rfl rfl cuts0 (fun _=>by kernel_rfl)
def s70:Sig:=⟨[.mu t165,.ro (.int .i64)],[(.bool,true)],false⟩
abbrev q70:List (FuncId×V.Fn):=[(68,⟨s68,s_l1Below⟩)]
def s_l1Once (x:D5×Int):Option (Bool×List Int×Int×Int):=(s_l1Below (x.1,x.2)).bind fun x=>some (decide (x.1=0),x.2)
theorem c70:FnOk Tryd.prog 70 ⟨s70,s_l1Once⟩:=fn_of mix_ok rfl tyl_ok (fl:=q70) ⟨c68,trivial⟩ Tryd.func70 rfl rfl cuts0 (fun _=>by kernel_rfl)
def s71:Sig:=⟨[.mu t165,.ro t54],[((.int .i64),true)],false⟩
abbrev q71:List (FuncId×V.Fn):=[(68,⟨s68,s_l1Below⟩)]
def s_l1PickInt (x:D5×List Int):Option D12:=(s_l1Below (x.1,(↑(List.length x.2):Int))).bind fun x_1=>bif decide (0<=x_1.1) then x.2[Int.toNat x_1.1]?.bind fun x=>some (x,x_1.2) else none
theorem c71:FnOk Tryd.prog 71 ⟨s71,s_l1PickInt⟩:=fn_of mix_ok rfl tyl_ok (fl:=q71) ⟨c68,trivial⟩ Tryd.func71 rfl rfl cuts0 (fun _=>by kernel_rfl)
def s53:Sig:=⟨[.ro (.int .i64),.ro (.int .i64),.ro (.int .i64)],[(.bool,true)],false⟩
abbrev q53:List (FuncId×V.Fn):=[]
def s_l1In (x:Int×Int×Int):Option (Bool):=(bif decide (x.2.1<=x.1) then some (decide (x.1<=x.2.2)) else some false).bind fun x=>some x
theorem c53:FnOk Tryd.prog 53 ⟨s53,s_l1In⟩:=fn_of mix_ok rfl tyl_ok (fl:=q53) trivial Tryd.func53 rfl rfl cuts0 (fun _=>by kernel_rfl)
def s169:Sig:=⟨[.ro (.sl 9 .str),.ro (.int .i64)],[(.str,true)],false⟩
abbrev q169:List (FuncId×V.Fn):=[]
def s_l7Bytes (x:List (List UInt8)×Int):Option (List UInt8):=bif decide (x.2<256) then some (List.map (fun(b:Int)=>UInt8.ofNat b.toNat) [u8.wrap x.2]) else bif decide (0<=i64.wrap (x.2-256)) then x.1[(i64.wrap (x.2-256)).toNat]?.bind fun x=>some x else none
theorem c169:FnOk Tryd.prog 169 ⟨s169,s_l7Bytes⟩:=fn_of mix_ok rfl tyl_ok (fl:=q169) trivial Tryd.func169 rfl rfl cuts0 (fun _=>by kernel_rfl)
def s145:Sig:=⟨[.ro t131],[((.sl 9 .str),true),(.bool,true)],false⟩
abbrev q145:List (FuncId×V.Fn):=[(53,⟨s53,s_l1In⟩),(169,⟨s169,s_l7Bytes⟩)]
def s145_31:CutSig:=⟨72,[4,5,7,8],[.own (.sl 9 .str),.ro (.int .i64),.ro .str,.ro (.int .i64)],[(.ex 2,[4],[((.sl 9 .str),true)]),(.ret,[2,3],[((.sl 9 .str),true),(.bool,true)])]⟩
def s_l7Table_L31 (go:List (List UInt8)×Int×List UInt8×Int->Option D8) (x:List (List UInt8)×Int×List UInt8×Int):Option D8:=bif decide (x.2.2.2<x.2.1) then bif decide (0<=x.2.2.2) then x.1[Int.toNat x.2.2.2]?.bind fun _=>x.1[Int.toNat x.2.2.2]?.bind fun x_2=>bif
 decide (x_2=x.2.2.1) then some (Sum.inr (x.1,false)) else go (x.1,x.2.1,x.2.2.1,i64.wrap (x.2.2.2+1)) else none else some (Sum.inl x.1)
theorem l145_31:CutOk Tryd.prog ⟨s145_31,iter s_l7Table_L31 FUEL⟩ (.loop (loopOf Tryd.f145 31)):=loop_of mix_ok rfl tyl_ok (fl:=q145) ⟨c53,c169,trivial⟩ (C:=C0) rfl (pts:=[]) (by kernel_rfl) trivial (fun _ _=>by kernel_rfl)
def s145_13:CutSig:=⟨72,[1,4,5],[.pin t131,.own (.sl 9 .str),.ro (.int .i64)],[(.ex 0,[4],[((.sl 9 .str),true)]),(.ret,[2,3],[((.sl 9 .str),true),(.bool,true)])]⟩
def s_l7Table_L13 (go:D4×List (List UInt8)×Int->Option D8) (x:D4×List (List UInt8)×Int):Option D8:=bif decide (x.2.2<(↑(List.length x.1.1):Int)) then bif decide (0<=x.2.2) then x.1.1[Int.toNat x.2.2]?.bind fun x_1=>(s_l1In
 (x_1.1,0,i64.wrap (255+x.2.2))).bind fun x_2=>(bif !!x_2 then(s_l1In (x_1.2,0,i64.wrap (255+x.2.2))).bind fun x=>some !x else some true).bind fun x_3=>bif x_3 then some (Sum.inr (x.2.1,false)) else(s_l7Bytes (x.2.1,x_1.1)).bind fun x_4=>(s_l7Bytes (x.2.1,x_1.2)).bind fun x_5=>bif decide (x_4.length+x_5.length<=4611686018427387904) then bif decide (24<
 (↑(x_4++x_5).length:Int)) then some (Sum.inr (x.2.1,false)) else(iter s_l7Table_L31 FUEL (x.2.1,x.2.2,x_4++x_5,0)).bind fun x_6=>sumK x_6 (fun y=>bif decide (y.length+(1:Nat)<=4294967296) then go (x.1,y++[x_4++x_5],i64.wrap (x.2.2+1)) else none) fun z=>some (Sum.inr (z.1,z.2)) else none else none else some (Sum.inl x.2.1)
theorem l145_13:CutOk Tryd.prog ⟨s145_13,iter s_l7Table_L13 FUEL⟩ (.loop (loopOf Tryd.f145 13)):=loop_of mix_ok rfl tyl_ok (fl:=q145) ⟨c53,c169,trivial⟩ (C:=ctab [(31,⟨s145_31,iter s_l7Table_L31 FUEL⟩)]) rfl (pts:=[(⟨s145_31,iter s_l7Table_L31 FUEL⟩,.loop (loopOf Tryd.f145 31))]) (by kernel_rfl) ⟨l145_31,trivial⟩ (fun _ _=>by kernel_rfl)
def s_l7Table (x:List D11×Unit):Option (List (List UInt8)×Bool):=bif decide (60<(↑(List.length x.1):Int)) then some (List.replicate 0 [],false) else(iter s_l7Table_L13 FUEL (x,List.replicate 0 [],0)).bind fun x=>sumK x (fun y=>some (y,true)) fun z=>some (z.1,z.2)
abbrev k145:Cuts:=ctab [(13,⟨s145_13,iter s_l7Table_L13 FUEL⟩)]
theorem c145:FnOk Tryd.prog 145 ⟨s145,s_l7Table⟩:=fn_of2 mix_ok rfl tyl_ok (fl:=q145) ⟨c53,c169,trivial⟩ Tryd.func145 rfl rfl (C:=k145) (pts:=[(⟨s145_13,iter s_l7Table_L13 FUEL⟩,.loop (loopOf Tryd.f145 13))]) (by kernel_rfl) ⟨l145_13,trivial⟩ (fun _=>by kernel_rfl)
def s94:Sig:=⟨[.ro t131],[(.bool,true)],false⟩
abbrev q94:List (FuncId×V.Fn):=[(145,⟨s145,s_l7Table⟩)]
def s_VocabOk (x:List D11×Unit):Option (Bool):=(s_l7Table x).bind fun x=>some x.2
theorem c94:FnOk Tryd.prog 94 ⟨s94,s_VocabOk⟩:=fn_of mix_ok rfl tyl_ok (fl:=q94) ⟨c145,trivial⟩ Tryd.func94 rfl rfl cuts0 (fun _=>by kernel_rfl)
def s146:Sig:=⟨[.ro (.int .i64)],[(.str,true)],false⟩
abbrev q146:List (FuncId×V.Fn):=[(53,⟨s53,s_l1In⟩)]
def s146_11:CutSig:=⟨25,[0,3],[.ro (.int .i64),.own t63],[(.ex 0,[0,3],[((.int .i64),true),(t63,true)])]⟩
def s_Var_L11 (go:Int×List Int->Option (Int×List Int)) (x:Int×List Int):Option (Int×List Int):=bif decide (128<=x.1) then bif decide (List.length x.2+(1:Nat)<=4294967296) then go (i64.wrap (Int.tdiv x.1 128),x.2++[u8.wrap (i64.wrap (128+Int.tmod x.1 128))]) else none else some (x.1,x.2)
theorem l146_11:CutOk Tryd.prog ⟨s146_11,iter s_Var_L11 FUEL⟩ (.loop (loopOf Tryd.f146 11)):=loop_of mix_ok rfl tyl_ok (fl:=q146) ⟨c53,trivial⟩ (C:=C0) rfl (pts:=[]) (by kernel_rfl) trivial (fun _ _=>by kernel_rfl)
def s_Var (x:Int):Option (List UInt8):=(s_l1In (x,0,562949953421311)).bind fun x_1=>bif !x_1 then some [] else(iter s_Var_L11 FUEL (x,List.replicate 0 0)).bind fun x=>bif decide (List.length x.2+(1:Nat)<=4294967296) then some (List.map (fun(b:Int)=>UInt8.ofNat b.toNat) (x.2++[u8.wrap x.1])) else none
abbrev k146:Cuts:=ctab [(11,⟨s146_11,iter s_Var_L11 FUEL⟩)]
theorem c146:FnOk Tryd.prog 146 ⟨s146,s_Var⟩:=fn_of2 mix_ok rfl tyl_ok (fl:=q146) ⟨c53,trivial⟩ Tryd.func146 rfl rfl (C:=k146) (pts:=[(⟨s146_11,iter s_Var_L11 FUEL⟩,.loop (loopOf Tryd.f146 11))]) (by kernel_rfl) ⟨l146_11,trivial⟩ (fun _=>by kernel_rfl)
def s120:Sig:=⟨[.ro t131],[(.str,true)],false⟩
abbrev q120:List (FuncId×V.Fn):=[(94,⟨s94,s_VocabOk⟩),(146,⟨s146,s_Var⟩)]
def s120_13:CutSig:=⟨38,[1,3,4],[.pin t131,.ro .str,.ro (.int .i64)],[(.ex 0,[3],[(.str,true)])]⟩
def s_Canon_L13 (go:D4×List UInt8×Int->Option (List UInt8)) (x:D4×List UInt8×Int):Option (List UInt8):=bif decide (x.2.2<(↑(List.length x.1.1):Int)) then bif decide (0<=x.2.2) then x.1.1[Int.toNat x.2.2]?.bind fun x_1=>(s_Var x_1.1).bind fun x_2=>bif decide (List.length x.2.1+x_2.length ≤
 4611686018427387904) then bif decide (0<=x.2.2) then x.1.1[Int.toNat x.2.2]?.bind fun x_3=>(s_Var x_3.2).bind fun x_4=>bif decide ((x.2.1++x_2).length+x_4.length<=4611686018427387904) then go (x.1,x.2.1++x_2++x_4,i64.wrap (x.2.2+1)) else none else none else none else none else some x.2.1
theorem l120_13:CutOk Tryd.prog ⟨s120_13,iter s_Canon_L13 FUEL⟩ (.loop (loopOf Tryd.f120 13)):=loop_of mix_ok rfl tyl_ok (fl:=q120) ⟨c94,c146,trivial⟩ (C:=C0) rfl (pts:=[]) (by kernel_rfl) trivial (fun _ _=>by kernel_rfl)
def s_Canon (x:List D11×Unit):Option (List UInt8):=(s_VocabOk x).bind fun x_1=>bif !x_1 then some [] else(s_Var (↑(List.length x.1):Int)).bind fun x_2=>bif decide ((3:Nat)+x_2.length<=4611686018427387904) then(iter s_Canon_L13 FUEL (x,[(98:UInt8),(112:UInt8),(101:UInt8)]++x_2,0)).bind fun x=>some x else none
abbrev k120:Cuts:=ctab [(13,⟨s120_13,iter s_Canon_L13 FUEL⟩)]
theorem c120:FnOk Tryd.prog 120 ⟨s120,s_Canon⟩:=fn_of2 mix_ok rfl tyl_ok (fl:=q120) ⟨c94,c146,trivial⟩ Tryd.func120 rfl rfl (C:=k120) (pts:=[(⟨s120_13,iter s_Canon_L13 FUEL⟩,.loop (loopOf Tryd.f120 13))]) (by kernel_rfl) ⟨l120_13,trivial⟩ (fun _=>by kernel_rfl)
def s121:Sig:=⟨[.mu t165,.ro (.int .i64)],[(t131,true)],false⟩
abbrev q121:List (FuncId×V.Fn):=[(68,⟨s68,s_l1Below⟩),(70,⟨s70,s_l1Once⟩),(71,⟨s71,s_l1PickInt⟩),(94,⟨s94,s_VocabOk⟩)]
def s121_18:CutSig:=⟨72,[0,7,26],[.mu t165,.ro (.int .i64),.ro .bool],[(.nor,[7],[((.int .i64),true)])]⟩
def s_l7Draw_L18 (x:D5×Int×Bool):Option D12:=bif x.2.2 then(s_l1PickInt (x.1,[32,48,200,0,255])).bind fun x=>some (x.1,x.2) else some (x.2.1,x.1)
theorem l121_18:CutOk Tryd.prog ⟨s121_18,s_l7Draw_L18⟩ (condOf Tryd.f121 18):=cond_of mix_ok rfl tyl_ok (fl:=q121) ⟨c68,c70,c71,c94,trivial⟩ (C:=C0) rfl (pts:=[]) (by kernel_rfl) trivial (fun _=>by kernel_rfl)
def s121_9:CutSig:=⟨72,[0,5,6],[.mu t165,.pio t131,.ro (.int .i64)],[(.ex 0,[],[])]⟩
def s_l7Draw_L9 (go:D5×D4×Int->Option (D5×List D11×Unit)) (x:D5×D4×Int):Option (D5×List D11×Unit):=bif decide (0<x.2.2) then(s_l1Below (x.1,3)).bind fun x_1=>(s_l1Below (x_1.2,3)).bind fun x_2=>(s_l1Once
 (x_2.2,6)).bind fun x_3=>(s_l7Draw_L18 (x_3.2,i64.wrap (97+x_1.1),x_3.1)).bind fun x_4=>bif decide (0<(↑(List.length x.2.1.1):Int)) then(s_l1Once (x_4.2,2)).bind fun x_5=>bif x_5.1 then(s_l1Below (x_5.2,(↑(List.length x.2.1.1):Int))).bind fun x_6=>bif decide (0<(↑(List.length x.2.1.1):Int)) then(s_l1Once (x_6.2,3)).bind fun x_7=>bif x_7.1 then(s_l1Below
 (x_7.2,(↑(List.length x.2.1.1):Int))).bind fun x_8=>bif decide ((0:Nat)+List.length x.2.1.1<=4294967296) then bif decide ((x.2.1.1).length+(1:Nat)<=4294967296) then(s_VocabOk (x.2.1.1++[(i64.wrap (256+x_6.1),i64.wrap (256+x_8.1))],())).bind fun x_9=>bif x_9 then go (x_8.2,(x.2.1.1++[(i64.wrap (256+x_6.1),i64.wrap (256+x_8.1))],
 ()),i64.wrap (x.2.2-1)) else go (x_8.2,x.2.1,i64.wrap (x.2.2-1)) else none else none else bif decide ((0:Nat)+List.length x.2.1.1<=4294967296) then bif decide ((x.2.1.1).length+(1:Nat)<=4294967296) then(s_VocabOk (x.2.1.1++[(i64.wrap (256+x_6.1),i64.wrap (97+x_2.1))],())).bind fun x_8=>bif x_8 then go (x_7.2,(x.2.1.1++
 [(i64.wrap (256+x_6.1),i64.wrap (97+x_2.1))],()),i64.wrap (x.2.2-1)) else go (x_7.2,x.2.1,i64.wrap (x.2.2-1)) else none else none else bif decide ((0:Nat)+List.length x.2.1.1<=4294967296) then bif decide ((x.2.1.1).length+(1:Nat)<=4294967296) then(s_VocabOk (x.2.1.1++[(i64.wrap (256+x_6.1),i64.wrap (97+x_2.1))],
 ())).bind fun x_7=>bif x_7 then go (x_6.2,(x.2.1.1++[(i64.wrap (256+x_6.1),i64.wrap (97+x_2.1))],()),i64.wrap (x.2.2-1)) else go (x_6.2,x.2.1,i64.wrap (x.2.2-1)) else none else none else bif decide (0<(↑(List.length x.2.1.1):Int)) then(s_l1Once (x_5.2,3)).bind fun x_6=>bif x_6.1 then(s_l1Below (x_6.2,(↑(List.length x.2.1.1):
 Int))).bind fun x_7=>bif decide ((0:Nat)+List.length x.2.1.1<=4294967296) then bif decide ((x.2.1.1).length+(1:Nat)<=4294967296) then(s_VocabOk (x.2.1.1++[(x_4.1,i64.wrap (256+x_7.1))],())).bind fun x_8=>bif x_8 then go (x_7.2,(x.2.1.1++[(x_4.1,i64.wrap (256+x_7.1))],()),i64.wrap (x.2.2-1)) else go (x_7.2,x.2.1,i64.wrap (x.2.2-
 1)) else none else none else bif decide ((0:Nat)+List.length x.2.1.1<=4294967296) then bif decide ((x.2.1.1).length+(1:Nat)<=4294967296) then(s_VocabOk (x.2.1.1++[(x_4.1,i64.wrap (97+x_2.1))],())).bind fun x_7=>bif x_7 then go (x_6.2,(x.2.1.1++[(x_4.1,i64.wrap (97+x_2.1))],()),i64.wrap (x.2.2-1)) else go (x_6.2,x.2.1,i64.wrap (x.2.2
 -1)) else none else none else bif decide ((0:Nat)+List.length x.2.1.1<=4294967296) then bif decide ((x.2.1.1).length+(1:Nat)<=4294967296) then(s_VocabOk (x.2.1.1++[(x_4.1,i64.wrap (97+x_2.1))],())).bind fun x_6=>bif x_6 then go (x_5.2,(x.2.1.1++[(x_4.1,i64.wrap (97+x_2.1))],()),i64.wrap (x.2.2-1)) else go (x_5.2,x.2.1,i64.wrap
 (x.2.2-1)) else none else none else bif decide (0<(↑(List.length x.2.1.1):Int)) then(s_l1Once (x_4.2,3)).bind fun x_5=>bif x_5.1 then(s_l1Below (x_5.2,(↑(List.length x.2.1.1):Int))).bind fun x_6=>bif decide ((0:Nat)+List.length x.2.1.1<=4294967296) then bif decide ((x.2.1.1).length+(1:Nat)<=4294967296) then(s_VocabOk (x.2.1.1++[(x_4.1,i64.wrap (256+
 x_6.1))],())).bind fun x_7=>bif x_7 then go (x_6.2,(x.2.1.1++[(x_4.1,i64.wrap (256+x_6.1))],()),i64.wrap (x.2.2-1)) else go (x_6.2,x.2.1,i64.wrap (x.2.2-1)) else none else none else bif decide ((0:Nat)+List.length x.2.1.1<=4294967296) then bif decide ((x.2.1.1).length+(1:Nat)<=4294967296) then(s_VocabOk (x.2.1.1++[(x_4.1,i64.wrap (97
 +x_2.1))],())).bind fun x_6=>bif x_6 then go (x_5.2,(x.2.1.1++[(x_4.1,i64.wrap (97+x_2.1))],()),i64.wrap (x.2.2-1)) else go (x_5.2,x.2.1,i64.wrap (x.2.2-1)) else none else none else bif decide ((0:Nat)+List.length x.2.1.1<=4294967296) then bif decide ((x.2.1.1).length+(1:Nat)<=4294967296) then(s_VocabOk (x.2.1.1++[(x_4.1,i64.wrap
 (97+x_2.1))],())).bind fun x_5=>bif x_5 then go (x_4.2,(x.2.1.1++[(x_4.1,i64.wrap (97+x_2.1))],()),i64.wrap (x.2.2-1)) else go (x_4.2,x.2.1,i64.wrap (x.2.2-1)) else none else none else some (x.1,x.2.1)
theorem l121_9:CutOk Tryd.prog ⟨s121_9,iter s_l7Draw_L9 FUEL⟩ (.loop (loopOf Tryd.f121 9)):=loop_of mix_ok rfl tyl_ok (fl:=q121) ⟨c68,c70,c71,c94,trivial⟩ (C:=ctab [(18,⟨s121_18,s_l7Draw_L18⟩)]) rfl (pts:=[(⟨s121_18,s_l7Draw_L18⟩,condOf Tryd.f121 18)]) (by kernel_rfl) ⟨l121_18,trivial⟩ (fun _ _=>by kernel_rfl)
def s_l7Draw (x:D5×Int):Option (D4×List Int×Int×Int):=(s_l1Below (x.1,i64.wrap (x.2+1))).bind fun x=>(iter s_l7Draw_L9 FUEL (x.2,([],()),x.1)).bind fun x=>some (x.2,x.1)
abbrev k121:Cuts:=ctab [(9,⟨s121_9,iter s_l7Draw_L9 FUEL⟩)]
theorem c121:FnOk Tryd.prog 121 ⟨s121,s_l7Draw⟩:=fn_of2 mix_ok rfl tyl_ok (fl:=q121) ⟨c68,c70,c71,c94,trivial⟩ Tryd.func121 rfl rfl (C:=k121) (pts:=[(⟨s121_9,iter s_l7Draw_L9 FUEL⟩,.loop (loopOf Tryd.f121 9))]) (by kernel_rfl) ⟨l121_9,trivial⟩ (fun _=>by kernel_rfl)
def s154:Sig:=⟨[.mu t165,.ro (.int .i64)],[(.str,true)],false⟩
abbrev q154:List (FuncId×V.Fn):=[(68,⟨s68,s_l1Below⟩),(124,⟨s124,s_l1Byte⟩)]
def s154_11:CutSig:=⟨38,[0,5,6,7],[.mu t165,.own t63,.ro (.int .i64),.ro (.int .i64)],[(.ex 0,[5],[(t63,true)])]⟩
def s_l1Text_L11 (go:D5×List Int×Int×Int->Option (List Int×List Int×Int×Int)) (x:D5×List Int×Int×Int):Option (List Int×List Int×Int×Int):=bif decide (0<x.2.2.2) then(s_l1Byte x.1).bind fun x_1=>bif decide (x.2.2.1=1) then bif decide (x.2.2.1=2) then bif decide (List.length x.2.1+(1:Nat) ≤
 4294967296) then go (x_1.2,x.2.1++[u8.wrap (i64.wrap (97+(Int.tmod x_1.1 2).tmod 4))],x.2.2.1,i64.wrap (x.2.2.2-1)) else none else bif decide (List.length x.2.1+(1:Nat)<=4294967296) then go (x_1.2,x.2.1++[u8.wrap (Int.tmod x_1.1 2)],x.2.2.1,i64.wrap (x.2.2.2-1)) else none else bif decide (x.2.2.1=2) then bif decide (List.length x.2.1
 +(1:Nat)<=4294967296) then go (x_1.2,x.2.1++[u8.wrap (i64.wrap (97+Int.tmod x_1.1 4))],x.2.2.1,i64.wrap (x.2.2.2-1)) else none else bif decide (List.length x.2.1+(1:Nat)<=4294967296) then go (x_1.2,x.2.1++[u8.wrap x_1.1],x.2.2.1,i64.wrap (x.2.2.2-1)) else none else some (x.2.1,x.1)
theorem l154_11:CutOk Tryd.prog ⟨s154_11,iter s_l1Text_L11 FUEL⟩ (.loop (loopOf Tryd.f154 11)):=loop_of mix_ok rfl tyl_ok (fl:=q154) ⟨c68,c124,trivial⟩ (C:=C0) rfl (pts:=[]) (by kernel_rfl) trivial (fun _ _=>by kernel_rfl)
def s_l1Text (x:D5×Int):Option (List UInt8×List Int×Int×Int):=(s_l1Below (x.1,4)).bind fun x_1=>(s_l1Below (x_1.2,i64.wrap (x.2+1))).bind fun x=>(iter s_l1Text_L11 FUEL (x.2,List.replicate 0 0,x_1.1,x.1)).bind fun x=>some (List.map (fun(b:Int)=>UInt8.ofNat b.toNat) x.1,x.2)
abbrev k154:Cuts:=ctab [(11,⟨s154_11,iter s_l1Text_L11 FUEL⟩)]
theorem c154:FnOk Tryd.prog 154 ⟨s154,s_l1Text⟩:=fn_of2 mix_ok rfl tyl_ok (fl:=q154) ⟨c68,c124,trivial⟩ Tryd.func154 rfl rfl (C:=k154) (pts:=[(⟨s154_11,iter s_l1Text_L11 FUEL⟩,.loop (loopOf Tryd.f154 11))]) (by kernel_rfl) ⟨l154_11,trivial⟩ (fun _=>by kernel_rfl)
def s122:Sig:=⟨[.mu t165,.ro .str],[(.str,true)],false⟩
abbrev q122:List (FuncId×V.Fn):=[(68,⟨s68,s_l1Below⟩),(124,⟨s124,s_l1Byte⟩),(154,⟨s154,s_l1Text⟩)]
def s_l1Spoil (x:D5×List UInt8):Option (List UInt8×List Int×Int×Int):=bif decide ((↑(List.length x.2):Int)=0) then(s_l1Text (x.1,3)).bind fun x=>some (x.1,x.2) else(s_l1Below (x.1,(↑(List.length x.2):Int))).bind fun x_1=>(s_l1Below (x_1.2,4)).bind fun x_2=>bif decide (x_2.1=0) then bif decide (0<=x_1.1)&&decide (x_1.1 ≤
 (↑(List.length x.2):Int)) then bif decide (0<=i64.wrap (x_1.1+1))&&decide (i64.wrap (x_1.1+1)<=(↑(List.length x.2):Int)) then bif decide ((List.take (Int.toNat x_1.1) x.2).length+(List.drop (i64.wrap (x_1.1+1)).toNat x.2).length<=4611686018427387904) then some (List.take (Int.toNat x_1.1) x.2++List.drop (i64.wrap (x_1.1+1)).toNat x.2,x_2.2)
 else none else none else none else bif decide (x_2.1=1) then bif decide (0<=x_1.1)&&decide (x_1.1<=(↑(List.length x.2):Int)) then(s_l1Byte x_2.2).bind fun x_3=>bif decide ((List.take (Int.toNat x_1.1) x.2).length+(List.map (fun(b:Int)=>UInt8.ofNat b.toNat) [u8.wrap x_3.1]).length<=4611686018427387904) then bif decide (0<=x_1.1)&&decide (x_1.1<=(↑(List.length x.2):
 Int)) then bif decide ((List.take (Int.toNat x_1.1) x.2++List.map (fun(b:Int)=>UInt8.ofNat b.toNat) [u8.wrap x_3.1]).length+(List.drop (Int.toNat x_1.1) x.2).length<=4611686018427387904) then some (List.take (Int.toNat x_1.1) x.2++List.map (fun(b:Int)=>UInt8.ofNat b.toNat) [u8.wrap x_3.1]++List.drop (Int.toNat x_1.1) x.2,x_3.2) else none else none else none
 else none else bif decide (x_2.1=2) then bif decide (0<=x_1.1)&&decide (x_1.1<=(↑(List.length x.2):Int)) then some (List.take (Int.toNat x_1.1) x.2,x_2.2) else none else bif decide (0<=x_1.1)&&decide (x_1.1<=(↑(List.length x.2):Int)) then bif decide (0<=x_1.1) then x.2[Int.toNat x_1.1]?.bind fun x_3=>(s_l1Below (x_2.2,255)).bind fun x_4=>bif decide ((List.take (Int.toNat
 x_1.1) x.2).length+(List.map (fun(b:Int)=>UInt8.ofNat b.toNat) [u8.wrap (i64.wrap (↑(BitVec.ofInt i64.bits (i64.wrap (↑x_3.toNat:Int))^^^BitVec.ofInt i64.bits (i64.wrap (1+x_4.1))).toNat:Int))]).length<=4611686018427387904) then bif decide (0<=i64.wrap (x_1.1+1))&&decide (i64.wrap (x_1.1+1)<=(↑(List.length
 x.2):Int)) then bif decide ((List.take (Int.toNat x_1.1) x.2++List.map (fun(b:Int)=>UInt8.ofNat b.toNat) [u8.wrap (i64.wrap (↑(BitVec.ofInt i64.bits (i64.wrap (↑x_3.toNat:Int))^^^BitVec.ofInt i64.bits (i64.wrap (1+x_4.1))).toNat:Int))]).length+(List.drop (i64.wrap (x_1.1+1)).toNat x.2).length<=4611686018427387904) then
 some (List.take (Int.toNat x_1.1) x.2++List.map (fun(b:Int)=>UInt8.ofNat b.toNat) [u8.wrap (i64.wrap (↑(BitVec.ofInt i64.bits (i64.wrap (↑x_3.toNat:Int))^^^BitVec.ofInt i64.bits (i64.wrap (1+x_4.1))).toNat:Int))]++List.drop (i64.wrap (x_1.1+1)).toNat x.2,x_4.2) else none else none else none else none else none
theorem c122:FnOk Tryd.prog 122 ⟨s122,s_l1Spoil⟩:=fn_of mix_ok rfl tyl_ok (fl:=q122) ⟨c68,c124,c154,trivial⟩ Tryd.func122 rfl rfl cuts0 (fun _=>by kernel_rfl)
def s65:Sig:=⟨[.mu t165],[(t39,true)],false⟩
abbrev q65:List (FuncId×V.Fn):=[(68,⟨s68,s_l1Below⟩),(70,⟨s70,s_l1Once⟩),(71,⟨s71,s_l1PickInt⟩),(120,⟨s120,s_Canon⟩),(121,⟨s121,s_l7Draw⟩),(122,⟨s122,s_l1Spoil⟩)]
def s65_22:CutSig:=⟨87,[0,4,12,30],[.mu t165,.pio t39,.ro (.int .i64),.ro .bool],[(.nor,[],[])]⟩
def s_l12Op_L22 (x:D5×D9×Int×Bool):Option (D5×Int×Int×Int×List UInt8):=bif x.2.2.2 then(s_l1Below (x.1,4)).bind fun x_1=>(s_l1Below (x_1.2,3)).bind fun x_2=>some (x_2.2,x.2.1.1,x_2.1,i64.wrap (1+x_1.1),x.2.1.2.2.2) else bif decide (x.2.2.1=5) then(s_l1Once (x.1,2)).bind
 fun x_1=>bif x_1.1 then(s_l1Below (x_1.2,4)).bind fun x_2=>some (x_2.2,x.2.1.1,x.2.1.2.1,i64.wrap (1+x_2.1),x.2.1.2.2.2) else(s_l1Below (x_1.2,3)).bind fun x_2=>some (x_2.2,x.2.1.1,x_2.1,x.2.1.2.2) else(s_l1Below (x.1,4)).bind fun x_1=>some (x_1.2,x.2.1.1,x.2.1.2.1,i64.wrap (1+x_1.1),x.2.1.2.2.2)
theorem l65_22:CutOk Tryd.prog ⟨s65_22,s_l12Op_L22⟩ (condOf Tryd.f65 22):=cond_of mix_ok rfl tyl_ok (fl:=q65) ⟨c68,c70,c71,c120,c121,c122,trivial⟩ (C:=C0) rfl (pts:=[]) (by kernel_rfl) trivial (fun _=>by kernel_rfl)
def s65_43:CutSig:=⟨87,[5,6],[.ro (.int .i64),.own t63],[(.ex 2,[6],[(t63,true)])]⟩
def s_l12Op_L43 (go:Int×List Int->Option (List Int)) (x:Int×List Int):Option (List Int):=bif decide ((↑(List.length x.2):Int)<x.1) then bif true&&(false||[3,2].contains 3||[].contains 3)&&decide (List.length x.2+(1:Nat)<=4294967296) then go (x.1,x.2++[98]) else none else some x.2
theorem l65_43:CutOk Tryd.prog ⟨s65_43,iter s_l12Op_L43 FUEL⟩ (.loop (loopOf Tryd.f65 43)):=loop_of mix_ok rfl tyl_ok (fl:=q65) ⟨c68,c70,c71,c120,c121,c122,trivial⟩ (C:=C0) rfl (pts:=[]) (by kernel_rfl) trivial (fun _ _=>by kernel_rfl)
def s_l12Op (x:List Int×Int×Int):Option (D9×List Int×Int×Int):=(s_l1Below (x,5)).bind fun x=>bif decide (i64.wrap (1+x.1)=1) then(s_l7Draw (x.2,3)).bind fun x_1=>(s_Canon x_1.1).bind fun x_2=>(s_l1Once (x_1.2,12)).bind fun x_3=>bif x_3.1 then(s_l1Spoil (x_3.2,x_2)).bind fun x_4=>(s_l1Once (x_4.2,25)).bind fun
 x_5=>bif x_5.1 then(s_l1Below (x_5.2,4)).bind fun x_6=>bif decide (x_6.1=0) then(s_l1Below (x_6.2,8)).bind fun x=>some ((i64.wrap (x.1-1),0,0,x_4.1),x.2) else bif decide (x_6.1=1) then(s_l1PickInt (x_6.2,[-1,0,6,7])).bind fun x_7=>some ((i64.wrap (1+x.1),0,x_7.1,x_4.1),x_7.2) else bif decide (x_6.1=2) then(s_l1PickInt (x_6.2,[-1,3])).bind fun
 x_7=>some ((i64.wrap (1+x.1),x_7.1,0,x_4.1),x_7.2) else(s_l1Below (x_6.2,2)).bind fun x_7=>(iter s_l12Op_L43 FUEL (i64.wrap (250+x_7.1),List.replicate 0 0)).bind fun x_8=>some ((i64.wrap (1+x.1),0,0,List.map (fun(b:Int)=>UInt8.ofNat b.toNat) x_8),x_7.2) else some ((i64.wrap (1+x.1),0,0,x_4.1),x_5.2) else(s_l1Once (x_3.2,
 25)).bind fun x_4=>bif x_4.1 then(s_l1Below (x_4.2,4)).bind fun x_5=>bif decide (x_5.1=0) then(s_l1Below (x_5.2,8)).bind fun x=>some ((i64.wrap (x.1-1),0,0,x_2),x.2) else bif decide (x_5.1=1) then(s_l1PickInt (x_5.2,[-1,0,6,7])).bind fun x_6=>some ((i64.wrap (1+x.1),0,x_6.1,x_2),x_6.2) else bif decide (x_5.1=2) then(s_l1PickInt (x_5.2,[-1,
 3])).bind fun x_6=>some ((i64.wrap (1+x.1),x_6.1,0,x_2),x_6.2) else(s_l1Below (x_5.2,2)).bind fun x_6=>(iter s_l12Op_L43 FUEL (i64.wrap (250+x_6.1),List.replicate 0 0)).bind fun x_7=>some ((i64.wrap (1+x.1),0,0,List.map (fun(b:Int)=>UInt8.ofNat b.toNat) x_7),x_6.2) else some ((i64.wrap (1+x.1),0,0,x_2),x_4.2) else(s_l12Op_L22
 (x.2,(i64.wrap (1+x.1),0,0,[]),i64.wrap (1+x.1),decide (i64.wrap (1+x.1)=2))).bind fun x=>(s_l1Once (x.1,25)).bind fun x_1=>bif x_1.1 then(s_l1Below (x_1.2,4)).bind fun x_2=>bif decide (x_2.1=0) then(s_l1Below (x_2.2,8)).bind fun x_3=>some ((i64.wrap (x_3.1-1),x.2.2),x_3.2) else bif decide (x_2.1=1) then(s_l1PickInt (x_2.2,[-1,
 0,6,7])).bind fun x_3=>some ((x.2.1,x.2.2.1,x_3.1,x.2.2.2.2),x_3.2) else bif decide (x_2.1=2) then(s_l1PickInt (x_2.2,[-1,3])).bind fun x_3=>some ((x.2.1,x_3.1,x.2.2.2),x_3.2) else(s_l1Below (x_2.2,2)).bind fun x_3=>(iter s_l12Op_L43 FUEL (i64.wrap (250+x_3.1),List.replicate 0 0)).bind fun x_4=>some ((x.2.1,x.2.2.1,x.2.2.2.1,List.map (fun(b:Int)=>
 UInt8.ofNat b.toNat) x_4),x_3.2) else some (x.2,x_1.2)
abbrev k65:Cuts:=ctab [(22,⟨s65_22,s_l12Op_L22⟩),(43,⟨s65_43,iter s_l12Op_L43 FUEL⟩)]
theorem c65:FnOk Tryd.prog 65 ⟨s65,s_l12Op⟩:=fn_of2 mix_ok rfl tyl_ok (fl:=q65) ⟨c68,c70,c71,c120,c121,c122,trivial⟩ Tryd.func65 rfl rfl (C:=k65) (pts:=[(⟨s65_22,s_l12Op_L22⟩,condOf Tryd.f65 22),(⟨s65_43,iter s_l12Op_L43 FUEL⟩,.loop (loopOf Tryd.f65 43))]) (by kernel_rfl) ⟨l65_22,l65_43,trivial⟩ (fun _=>by kernel_rfl)
def s125:Sig:=⟨[.ro t68,.ro (.int .i64)],[((.int .i64),true),(.bool,true)],false⟩
abbrev q125:List (FuncId×V.Fn):=[]
def s125_7:CutSig:=⟨34,[1,2,6],[.ro (.int .i64),.pin t68,.ro (.int .i64)],[(.ex 0,[],[]),(.ret,[4,5],[((.int .i64),true),(.bool,true)])]⟩
def s_l12Session_L7 (go:Int×D1×Int->Option (Unit⊕Int×Bool)) (x:Int×D1×Int):Option (Unit⊕Int×Bool):=bif decide (x.2.2<(↑(List.length
 x.2.1.2.2):Int)) then bif decide (0<=x.2.2) then x.2.1.2.2[Int.toNat x.2.2]?.bind fun x_1=>bif decide (x.1<=x_1.1) then bif decide (0<=x.2.2) then x.2.1.2.2[Int.toNat x.2.2]?.bind fun x_2=>some (Sum.inr (x.2.2,decide (x_2.1=x.1))) else none else go (x.1,x.2.1,i64.wrap (x.2.2+1)) else none else some (Sum.inl ())
theorem l125_7:CutOk Tryd.prog ⟨s125_7,iter s_l12Session_L7 FUEL⟩ (.loop (loopOf Tryd.f125 7)):=loop_of mix_ok rfl tyl_ok (fl:=q125) trivial (C:=C0) rfl (pts:=[]) (by kernel_rfl) trivial (fun _ _=>by kernel_rfl)
def s_l12Session (x:D1×Int):Option (Int×Bool):=(iter s_l12Session_L7 FUEL (x.2,x.1,0)).bind fun x_1=>sumK x_1 (fun _=>some ((↑(List.length x.1.2.2):Int),false)) fun z=>some (z.1,z.2)
abbrev k125:Cuts:=ctab [(7,⟨s125_7,iter s_l12Session_L7 FUEL⟩)]
theorem c125:FnOk Tryd.prog 125 ⟨s125,s_l12Session⟩:=fn_of2 mix_ok rfl tyl_ok (fl:=q125) trivial Tryd.func125 rfl rfl (C:=k125) (pts:=[(⟨s125_7,iter s_l12Session_L7 FUEL⟩,.loop (loopOf Tryd.f125 7))]) (by kernel_rfl) ⟨l125_7,trivial⟩ (fun _=>by kernel_rfl)
def s69:Sig:=⟨[.ro t68,.ro (.int .i64)],[((.int .i64),true),(t43,true)],false⟩
abbrev q69:List (FuncId×V.Fn):=[(125,⟨s125,s_l12Session⟩)]
def s_l12Last (x:D1×Int):Option (Int×Int×Int×Int×List UInt8×Int×Int):=(s_l12Session (x.1,x.2)).bind fun x_1=>bif !x_1.2 then some (0,0,0,0,[],0,0) else bif decide (0<=x_1.1) then x.1.2.2[Int.toNat x_1.1]?.bind fun x_2=>bif decide (0<=x_1.1)
 then x.1.2.2[Int.toNat x_1.1]?.bind fun x=>some (x_2.2.1,x.2.2) else none else none
theorem c69:FnOk Tryd.prog 69 ⟨s69,s_l12Last⟩:=fn_of mix_ok rfl tyl_ok (fl:=q69) ⟨c125,trivial⟩ Tryd.func69 rfl rfl cuts0 (fun _=>by kernel_rfl)
def s51:Sig:=⟨[.ro t39],[(.bool,true)],false⟩
abbrev q51:List (FuncId×V.Fn):=[(53,⟨s53,s_l1In⟩)]
def s_OpOk (x:Int×Int×Int×List UInt8):Option (Bool):=(s_l1In (x.2.2.1,1,6)).bind fun x_1=>(s_l1In (x.2.1,0,2)).bind fun x_2=>bif decide (x.1=1) then(bif decide ((↑(List.length x.2.2.2):Int)<=250) then some (decide (x.2.2.1=0)) else some false).bind fun x_3=>(bif x_3 then some (decide (x.2.1=0)) else some false).bind fun x=>some x else bif decide
 (x.1=2) then(bif x_1 then some x_2 else some false).bind fun x_3=>(bif x_3 then some (decide (x.2.2.2=[])) else some false).bind fun x=>some x else bif decide (x.1=3) then bif decide (x.1=3) then(bif x_1 then some (decide (x.2.1=0)) else some false).bind fun x_3=>(bif x_3 then some (decide (x.2.2.2=[])) else some false).bind fun x=>some x else bif decide (x.1=5) then(bif
 decide (x.2.2.2=[]) then(bif x_1 then some (decide (x.2.1=0)) else some false).bind fun x_3=>(bif !x_3 then(bif decide (x.2.2.1=0) then some x_2 else some false).bind fun x=>some x else some true).bind fun x=>some x else some false).bind fun x=>some x else some false else bif decide (x.1=4) then(bif x_1 then some (decide (x.2.1=0)) else some false).bind fun x_3=>(bif x_3
 then some (decide (x.2.2.2=[])) else some false).bind fun x=>some x else bif decide (x.1=5) then(bif decide (x.2.2.2=[]) then(bif x_1 then some (decide (x.2.1=0)) else some false).bind fun x_3=>(bif !x_3 then(bif decide (x.2.2.1=0) then some x_2 else some false).bind fun x=>some x else some true).bind fun x=>some x else some false).bind fun x=>some x else some false
theorem c51:FnOk Tryd.prog 51 ⟨s51,s_OpOk⟩:=fn_of mix_ok rfl tyl_ok (fl:=q51) ⟨c53,trivial⟩ Tryd.func51 rfl rfl cuts0 (fun _=>by kernel_rfl)
def s133:Sig:=⟨[.ro .str],[((.int .i64),true),((.int .i64),true)],false⟩
abbrev q133:List (FuncId×V.Fn):=[(146,⟨s146,s_Var⟩)]
def s133_15:CutSig:=⟨39,[0,5,6],[.ro .str,.ro (.int .i64),.ro (.int .i64)],[(.ex 2,[5],[((.int .i64),true)])]⟩
def s_ReadVar_L15 (go:List UInt8×Int×Int->Option (Int)) (x:List UInt8×Int×Int):Option (Int):=bif decide (0<=x.2.2) then bif decide (0<=x.2.2) then x.1[Int.toNat x.2.2]?.bind fun x_1=>go (x.1,i64.wrap (i64.wrap (x.2.1*128)+(i64.wrap (↑x_1.toNat:Int)).tmod 128),i64.wrap (x.2.2-1)) else none else some x.2.1
theorem l133_15:CutOk Tryd.prog ⟨s133_15,iter s_ReadVar_L15 FUEL⟩ (.loop (loopOf Tryd.f133 15)):=loop_of mix_ok rfl tyl_ok (fl:=q133) ⟨c146,trivial⟩ (C:=C0) rfl (pts:=[]) (by kernel_rfl) trivial (fun _ _=>by kernel_rfl)
def s133_7:CutSig:=⟨39,[0,4],[.ro .str,.ro (.int .i64)],[(.ex 0,[],[]),(.ret,[2,3],[((.int .i64),true),((.int .i64),true)])]⟩
def s_ReadVar_L7 (go:List UInt8×Int->Option (Unit⊕Int×Int)) (x:List UInt8×Int):Option (Unit⊕Int×Int):=(bif decide (x.2<=7) then some (decide (x.2<=(↑(List.length x.1):Int))) else some false).bind fun x_1=>bif x_1 then(iter s_ReadVar_L15 FUEL (x.1,0,i64.wrap (x.2-1))).bind fun x_2=>(s_Var x_2).bind fun x_3=>bif decide (0<=x.2)&&decide
 (x.2<=(↑(List.length x.1):Int)) then bif decide (x_3=List.take (Int.toNat x.2) x.1) then some (Sum.inr (x_2,x.2)) else go (x.1,i64.wrap (x.2+1)) else none else some (Sum.inl ())
theorem l133_7:CutOk Tryd.prog ⟨s133_7,iter s_ReadVar_L7 FUEL⟩ (.loop (loopOf Tryd.f133 7)):=loop_of mix_ok rfl tyl_ok (fl:=q133) ⟨c146,trivial⟩ (C:=ctab [(15,⟨s133_15,iter s_ReadVar_L15 FUEL⟩)]) rfl (pts:=[(⟨s133_15,iter s_ReadVar_L15 FUEL⟩,.loop (loopOf Tryd.f133 15))]) (by kernel_rfl) ⟨l133_15,trivial⟩ (fun _ _=>by kernel_rfl)
def s_ReadVar (x:List UInt8):Option D11:=(iter s_ReadVar_L7 FUEL (x,1)).bind fun x=>sumK x (fun _=>some (0,0)) fun z=>some (z.1,z.2)
abbrev k133:Cuts:=ctab [(7,⟨s133_7,iter s_ReadVar_L7 FUEL⟩)]
theorem c133:FnOk Tryd.prog 133 ⟨s133,s_ReadVar⟩:=fn_of2 mix_ok rfl tyl_ok (fl:=q133) ⟨c146,trivial⟩ Tryd.func133 rfl rfl (C:=k133) (pts:=[(⟨s133_7,iter s_ReadVar_L7 FUEL⟩,.loop (loopOf Tryd.f133 7))]) (by kernel_rfl) ⟨l133_7,trivial⟩ (fun _=>by kernel_rfl)
def s82:Sig:=⟨[.ro .str],[(t131,true),(.bool,true)],false⟩
abbrev q82:List (FuncId×V.Fn):=[(120,⟨s120,s_Canon⟩),(133,⟨s133,s_ReadVar⟩)]
def s82_13:CutSig:=⟨66,[0,2,4,5],[.ro .str,.pio t131,.pio t131,.ro (.int .i64)],[(.ex 0,[],[]),(.ret,[3],[(.bool,true)])]⟩
def s_ReadCanon_L13 (go:List UInt8×D4×D4×Int->Option (D4×List D11×Unit⊕Bool×D4×List D11×Unit)) (x:List UInt8×D4×D4×Int):Option (D4×List D11×Unit⊕Bool×
 D4×List D11×Unit):=bif decide (x.2.2.2<(↑(List.length x.1):Int)) then bif decide (0<=x.2.2.2)&&decide (x.2.2.2<=(↑(List.length x.1):Int)) then(s_ReadVar (List.drop (Int.toNat x.2.2.2) x.1)).bind fun x_1=>bif decide (0<=i64.wrap (x.2.2.2+x_1.2))&&decide (i64.wrap (x.2.2.2+x_1.2)<=(↑(List.length x.1):Int)) then
 (s_ReadVar (List.drop (i64.wrap (x.2.2.2+x_1.2)).toNat x.1)).bind fun x_2=>(bif !decide (x_1.2=0) then some (decide (x_2.2=0)) else some true).bind fun x_3=>bif x_3 then some (Sum.inr (false,([],()),x.2.2.1)) else bif decide (List.length x.2.2.1.1+(1:Nat)<=4294967296) then go (x.1,x.2.1,(x.2.2.1.1++[(x_1.1,x_2.1)],x.2.2.1.2),i64.wrap (i64.wrap
 (x.2.2.2+x_1.2)+x_2.2)) else none else none else none else some (Sum.inl (x.2.1,x.2.2.1))
theorem l82_13:CutOk Tryd.prog ⟨s82_13,iter s_ReadCanon_L13 FUEL⟩ (.loop (loopOf Tryd.f82 13)):=loop_of mix_ok rfl tyl_ok (fl:=q82) ⟨c120,c133,trivial⟩ (C:=C0) rfl (pts:=[]) (by kernel_rfl) trivial (fun _ _=>by kernel_rfl)
def s_ReadCanon (x:List UInt8):Option (D4×Bool):=(bif !decide ((↑x.length:Int)<4) then some (decide (250<(↑x.length:Int))) else some true).bind fun x_1=>bif x_1 then some (([],()),false) else(iter s_ReadCanon_L13 FUEL (x,([],()),([],()),4)).bind fun x_2=>sumK x_2 (fun y=>(s_Canon y.2).bind fun x_3=>bif !decide (x_3=x) then
 some (([],()),false) else some (y.2,true)) fun z=>some (z.2.1,z.1)
abbrev k82:Cuts:=ctab [(13,⟨s82_13,iter s_ReadCanon_L13 FUEL⟩)]
theorem c82:FnOk Tryd.prog 82 ⟨s82,s_ReadCanon⟩:=fn_of2 mix_ok rfl tyl_ok (fl:=q82) ⟨c120,c133,trivial⟩ Tryd.func82 rfl rfl (C:=k82) (pts:=[(⟨s82_13,iter s_ReadCanon_L13 FUEL⟩,.loop (loopOf Tryd.f82 13))]) (by kernel_rfl) ⟨l82_13,trivial⟩ (fun _=>by kernel_rfl)
def s83:Sig:=⟨[.ro (.sl 116 t116),.ro .str],[((.int .i64),true)],false⟩
abbrev q83:List (FuncId×V.Fn):=[]
def s83_7:CutSig:=⟨21,[0,1,5],[.ro (.sl 116 t116),.ro .str,.ro (.int .i64)],[(.ex 0,[],[]),(.ret,[4],[((.int .i64),true)])]⟩
def s_l12Body_L7 (go:List D3×List UInt8×Int->Option (Unit⊕Int)) (x:List D3×List UInt8×Int):Option (Unit⊕Int):=bif decide (x.2.2<(↑(List.length x.1):Int)) then bif decide (0<=x.2.2) then x.1[Int.toNat x.2.2]?.bind fun x_1=>bif decide (x_1.1=x.2.1) then some (Sum.inr (i64.wrap (x.2.2+
 1))) else go (x.1,x.2.1,i64.wrap (x.2.2+1)) else none else some (Sum.inl ())
theorem l83_7:CutOk Tryd.prog ⟨s83_7,iter s_l12Body_L7 FUEL⟩ (.loop (loopOf Tryd.f83 7)):=loop_of mix_ok rfl tyl_ok (fl:=q83) trivial (C:=C0) rfl (pts:=[]) (by kernel_rfl) trivial (fun _ _=>by kernel_rfl)
def s_l12Body (x:List D3×List UInt8):Option (Int):=(iter s_l12Body_L7 FUEL (x.1,x.2,0)).bind fun x=>sumK x (fun _=>some 0) fun z=>some z
abbrev k83:Cuts:=ctab [(7,⟨s83_7,iter s_l12Body_L7 FUEL⟩)]
theorem c83:FnOk Tryd.prog 83 ⟨s83,s_l12Body⟩:=fn_of2 mix_ok rfl tyl_ok (fl:=q83) trivial Tryd.func83 rfl rfl (C:=k83) (pts:=[(⟨s83_7,iter s_l12Body_L7 FUEL⟩,.loop (loopOf Tryd.f83 7))]) (by kernel_rfl) ⟨l83_7,trivial⟩ (fun _=>by kernel_rfl)
def s134:Sig:=⟨[],[(t180,true)],false⟩
abbrev q134:List (FuncId×V.Fn):=[]
def s_l2Begin (_:Unit):Option (List Int):=some [1779033703,3144134277,1013904242,2773480762,1359893119,2600822924,528734635,1541459225]
theorem c134:FnOk Tryd.prog 134 ⟨s134,s_l2Begin⟩:=fn_of mix_ok rfl tyl_ok (fl:=q134) trivial Tryd.func134 rfl rfl cuts0 (fun _=>by kernel_rfl)
def s135:Sig:=⟨[],[(t180,true)],false⟩
abbrev q135:List (FuncId×V.Fn):=[]
def s_l2Table (_:Unit):Option (List Int):=some (((((((((((((((((((((((((((((((((((((((((((((((((((((((((((((((((List.replicate 64 0).set 0 1116352408).set 1 1899447441).set 2 3049323471).set 3 3921009573).set 4 961987163).set 5 1508970993).set 6 2453635748).set 7 2870763221).set 8 3624381080).set 9 310598401).set 10 607225278).set 11 1426881987).set 12 1925078388).set 13
 2162078206).set 14 2614888103).set 15 3248222580).set 16 3835390401).set 17 4022224774).set 18 264347078).set 19 604807628).set 20 770255983).set 21 1249150122).set 22 1555081692).set 23 1996064986).set 24 2554220882).set 25 2821834349).set 26 2952996808).set 27 3210313671).set 28 3336571891).set 29 3584528711).set 30 113926993).set 31 338241895).set 32 666307205).set 33 773529912).set 34
 1294757372).set 35 1396182291).set 36 1695183700).set 37 1986661051).set 38 2177026350).set 39 2456956037).set 40 2730485921).set 41 2820302411).set 42 3259730800).set 43 3345764771).set 44 3516065817).set 45 3600352804).set 46 4094571909).set 47 275423344).set 48 430227734).set 49 506948616).set 50 659060556).set 51 883997877).set 52 958139571).set 53 1322822218).set 54 1537002063).set 55
 1747873779).set 56 1955562222).set 57 2024104815).set 58 2227730452).set 59 2361852424).set 60 2428436474).set 61 2756734187).set 62 3204031479).set 63 3329325298)
theorem c135:FnOk Tryd.prog 135 ⟨s135,s_l2Table⟩:=fn_of mix_ok rfl tyl_ok (fl:=q135) trivial Tryd.func135 rfl rfl cuts0 (fun _=>by kernel_rfl)
def s136:Sig:=⟨[.ro (.int .i64),.ro (.int .i64)],[(.str,true)],false⟩
abbrev q136:List (FuncId×V.Fn):=[(53,⟨s53,s_l1In⟩)]
def s136_13:CutSig:=⟨31,[0,1,5,6],[.ro (.int .i64),.ro (.int .i64),.ro .str,.ro (.int .i64)],[(.ex 0,[0,5],[((.int .i64),true),(.str,true)])]⟩
def s_Fixed_L13 (go:Int×Int×List UInt8×Int->Option (Int×List UInt8)) (x:Int×Int×List UInt8×Int):Option (Int×List UInt8):=bif decide (x.2.2.2<x.2.1) then bif decide ((List.map (fun(b:Int)=>UInt8.ofNat b.toNat) [u8.wrap (Int.tmod x.1 256)]).length+List.length x.2.2.1<=4611686018427387904) then go (i64.wrap (Int.tdiv x.1 256),x.2.1,
 List.map (fun(b:Int)=>UInt8.ofNat b.toNat) [u8.wrap (Int.tmod x.1 256)]++x.2.2.1,i64.wrap (x.2.2.2+1)) else none else some (x.1,x.2.2.1)
theorem l136_13:CutOk Tryd.prog ⟨s136_13,iter s_Fixed_L13 FUEL⟩ (.loop (loopOf Tryd.f136 13)):=loop_of mix_ok rfl tyl_ok (fl:=q136) ⟨c53,trivial⟩ (C:=C0) rfl (pts:=[]) (by kernel_rfl) trivial (fun _ _=>by kernel_rfl)
def s_Fixed (x:Int×Int):Option (List UInt8):=(s_l1In (x.2,1,7)).bind fun x_1=>(bif !!x_1 then some (decide (x.1<0)) else some true).bind fun x_2=>bif x_2 then some [] else(iter s_Fixed_L13 FUEL (x.1,x.2,[],0)).bind fun x=>bif decide (0<x.1) then some [] else some x.2
abbrev k136:Cuts:=ctab [(13,⟨s136_13,iter s_Fixed_L13 FUEL⟩)]
theorem c136:FnOk Tryd.prog 136 ⟨s136,s_Fixed⟩:=fn_of2 mix_ok rfl tyl_ok (fl:=q136) ⟨c53,trivial⟩ Tryd.func136 rfl rfl (C:=k136) (pts:=[(⟨s136_13,iter s_Fixed_L13 FUEL⟩,.loop (loopOf Tryd.f136 13))]) (by kernel_rfl) ⟨l136_13,trivial⟩ (fun _=>by kernel_rfl)
def s160:Sig:=⟨[.ro (.int .u32),.ro (.int .i64)],[((.int .u32),true)],false⟩
abbrev q160:List (FuncId×V.Fn):=[]
def s_l2Turn (x:Int×Int):Option (Int):=bif decide (0<=u64.wrap x.2) then bif decide (0<=u64.wrap (i64.wrap (32-x.2))) then some (u32.wrap (↑(BitVec.ofInt u32.bits (Int.fdiv x.1 (2^min (u64.wrap x.2).toNat u32.bits))|||BitVec.ofInt u32.bits (u32.wrap (x.1*2^min (u64.wrap
 (i64.wrap (32-x.2))).toNat u32.bits))).toNat:Int)) else none else none
theorem c160:FnOk Tryd.prog 160 ⟨s160,s_l2Turn⟩:=fn_of mix_ok rfl tyl_ok (fl:=q160) trivial Tryd.func160 rfl rfl cuts0 (fun _=>by kernel_rfl)
def s137:Sig:=⟨[.ro t180,.ro t180,.ro .str],[(t180,true)],false⟩
abbrev q137:List (FuncId×V.Fn):=[(160,⟨s160,s_l2Turn⟩)]
def s137_9:CutSig:=⟨256,[2,7,8],[.ro .str,.own t180,.ro (.int .i64)],[(.ex 0,[7],[(t180,true)])]⟩
def s_l2Block_L9 (go:List UInt8×List Int×Int->Option (List Int)) (x:List UInt8×List Int×Int):Option (List Int):=bif decide (x.2.2<16) then bif decide (0<=i64.wrap (4*x.2.2)) then x.1[(i64.wrap (4*x.2.2)).toNat]?.bind fun x_1=>bif decide (0<=i64.wrap (i64.wrap (4*x.2.2)+1)) then x.1[(i64.wrap (i64.wrap (4
 *x.2.2)+1)).toNat]?.bind fun x_2=>bif decide (0<=i64.wrap (i64.wrap (4*x.2.2)+2)) then x.1[(i64.wrap (i64.wrap (4*x.2.2)+2)).toNat]?.bind fun x_3=>bif decide (0<=i64.wrap (i64.wrap (4*x.2.2)+3)) then x.1[(i64.wrap (i64.wrap (4*x.2.2)+3)).toNat]?.bind fun x_4=>bif decide (List.length x.2.1+(1:Nat) ≤
 4294967296) then go (x.1,x.2.1++[u32.wrap (↑(BitVec.ofInt u32.bits (u32.wrap (↑(BitVec.ofInt u32.bits (u32.wrap (↑(BitVec.ofInt u32.bits (u32.wrap (u32.wrap (↑x_1.toNat:Int)*2^min (Int.toNat 24) u32.bits))|||BitVec.ofInt u32.bits (u32.wrap (u32.wrap (↑x_2.toNat:Int)*2^min (Int.toNat
 16) u32.bits))).toNat:Int))|||BitVec.ofInt u32.bits (u32.wrap (u32.wrap (↑x_3.toNat:Int)*2^min (Int.toNat 8) u32.bits))).toNat:Int))|||BitVec.ofInt u32.bits (u32.wrap (↑x_4.toNat:Int))).toNat:Int)],i64.wrap (x.2.2+1)) else none else none else none else none else none else some x.2.1
theorem l137_9:CutOk Tryd.prog ⟨s137_9,iter s_l2Block_L9 FUEL⟩ (.loop (loopOf Tryd.f137 9)):=loop_of mix_ok rfl tyl_ok (fl:=q137) ⟨c160,trivial⟩ (C:=C0) rfl (pts:=[]) (by kernel_rfl) trivial (fun _ _=>by kernel_rfl)
def s137_17:CutSig:=⟨256,[7,9],[.own t180,.ro (.int .i64)],[(.ex 2,[7],[(t180,true)])]⟩
def s_l2Block_L17 (go:List Int×Int->Option (List Int)) (x:List Int×Int):Option (List Int):=bif decide (x.2<64) then bif decide (0<=i64.wrap (x.2-15)) then x.1[(i64.wrap (x.2-15)).toNat]?.bind fun _=>x.1[Int.toNat (i64.wrap (x.2-15))]?.bind fun x_2=>(s_l2Turn (x_2,7)).bind fun x_3=>bif decide (0<=i64.wrap (x.2-15))
 then x.1[(i64.wrap (x.2-15)).toNat]?.bind fun _=>x.1[Int.toNat (i64.wrap (x.2-15))]?.bind fun x_5=>(s_l2Turn (x_5,18)).bind fun x_6=>bif decide (0<=i64.wrap (x.2-15)) then x.1[(i64.wrap (x.2-15)).toNat]?.bind fun _=>x.1[Int.toNat (i64.wrap (x.2-15))]?.bind fun x_8=>bif decide (0<=i64.wrap (x.2-2)) then
 x.1[(i64.wrap (x.2-2)).toNat]?.bind fun _=>x.1[Int.toNat (i64.wrap (x.2-2))]?.bind fun x_10=>(s_l2Turn (x_10,17)).bind fun x_11=>bif decide (0<=i64.wrap (x.2-2)) then x.1[(i64.wrap (x.2-2)).toNat]?.bind fun _=>x.1[Int.toNat (i64.wrap (x.2-2))]?.bind fun x_13=>(s_l2Turn (x_13,19)).bind fun x_14=>bif decide (0<=i64.wrap
 (x.2-2)) then x.1[(i64.wrap (x.2-2)).toNat]?.bind fun _=>x.1[Int.toNat (i64.wrap (x.2-2))]?.bind fun x_16=>bif decide (0<=i64.wrap (x.2-16)) then x.1[(i64.wrap (x.2-16)).toNat]?.bind fun _=>x.1[Int.toNat (i64.wrap (x.2-16))]?.bind fun x_18=>bif decide (0<=i64.wrap (x.2-7)) then x.1[(i64.wrap (x.2-
 7)).toNat]?.bind fun _=>x.1[Int.toNat (i64.wrap (x.2-7))]?.bind fun x_20=>bif decide (List.length x.1+(1:Nat)<=4294967296) then go (x.1++[u32.wrap (u32.wrap (u32.wrap (x_18+u32.wrap (↑(BitVec.ofInt u32.bits (u32.wrap (↑(BitVec.ofInt u32.bits x_3^^^BitVec.ofInt u32.bits x_6).toNat:Int))^^^BitVec.ofInt
 u32.bits (x_8.fdiv (2^min (Int.toNat 3) u32.bits))).toNat:Int))+x_20)+u32.wrap (↑(BitVec.ofInt u32.bits (u32.wrap (↑(BitVec.ofInt u32.bits x_11^^^BitVec.ofInt u32.bits x_14).toNat:Int))^^^BitVec.ofInt u32.bits (x_16.fdiv (2^min (Int.toNat 10) u32.bits))).toNat:Int))],i64.wrap (x.2+1)) else none
 else none else none else none else none else none else none else none else none else some x.1
theorem l137_17:CutOk Tryd.prog ⟨s137_17,iter s_l2Block_L17 FUEL⟩ (.loop (loopOf Tryd.f137 17)):=loop_of mix_ok rfl tyl_ok (fl:=q137) ⟨c160,trivial⟩ (C:=C0) rfl (pts:=[]) (by kernel_rfl) trivial (fun _ _=>by kernel_rfl)
def s137_31:CutSig:=⟨256,[1,7,12,13],[.ro t180,.ro t180,.own t180,.ro (.int .i64)],[(.ex 4,[12],[(t180,true)])]⟩
def s_l2Block_L31 (go:List Int×List Int×List Int×Int->Option (List Int)) (x:List Int×List Int×List Int×Int):Option (List Int):=bif decide (x.2.2.2<64) then x.2.2.1[Int.toNat 4]?.bind fun _=>x.2.2.1[4]?.bind fun x_2=>(s_l2Turn (x_2,6)).bind fun x_3=>x.2.2.1[Int.toNat 4]?.bind fun _=>x.2.2.1[4]?.bind fun x_5=>(s_l2Turn (x_5,11)).bind fun x_6=>
 x.2.2.1[Int.toNat 4]?.bind fun _=>x.2.2.1[4]?.bind fun x_8=>(s_l2Turn (x_8,25)).bind fun x_9=>x.2.2.1[Int.toNat 7]?.bind fun _=>x.2.2.1[7]?.bind fun x_11=>x.2.2.1[Int.toNat 4]?.bind fun _=>x.2.2.1[4]?.bind fun x_13=>x.2.2.1[Int.toNat 5]?.bind fun _=>x.2.2.1[5]?.bind fun x_15=>x.2.2.1[Int.toNat 4]?.bind fun _=>x.2.2.1[4]?.bind fun x_17=>x.2.2.1[Int.toNat
 6]?.bind fun _=>x.2.2.1[6]?.bind fun x_19=>bif decide (0<=x.2.2.2) then x.1[Int.toNat x.2.2.2]?.bind fun x_20=>bif decide (0<=x.2.2.2) then x.2.1[Int.toNat x.2.2.2]?.bind fun x_21=>x.2.2.1[Int.toNat 0]?.bind fun _=>x.2.2.1[0]?.bind fun x_23=>(s_l2Turn (x_23,2)).bind fun x_24=>x.2.2.1[Int.toNat 0]?.bind fun _=>x.2.2.1[0]?.bind fun x_26=>(s_l2Turn (x_26,13)).bind fun
 x_27=>x.2.2.1[Int.toNat 0]?.bind fun _=>x.2.2.1[0]?.bind fun x_29=>(s_l2Turn (x_29,22)).bind fun x_30=>x.2.2.1[Int.toNat 0]?.bind fun _=>x.2.2.1[0]?.bind fun x_32=>x.2.2.1[Int.toNat 1]?.bind fun _=>x.2.2.1[1]?.bind fun x_34=>x.2.2.1[Int.toNat 0]?.bind fun _=>x.2.2.1[0]?.bind fun x_36=>x.2.2.1[Int.toNat 2]?.bind fun _=>x.2.2.1[2]?.bind fun x_38=>
 x.2.2.1[Int.toNat 1]?.bind fun _=>x.2.2.1[1]?.bind fun x_40=>x.2.2.1[Int.toNat 2]?.bind fun _=>x.2.2.1[2]?.bind fun x_42=>x.2.2.1[Int.toNat 0]?.bind fun _=>x.2.2.1[0]?.bind fun x_44=>x.2.2.1[Int.toNat 1]?.bind fun _=>x.2.2.1[1]?.bind fun x_46=>x.2.2.1[Int.toNat 2]?.bind fun _=>x.2.2.1[2]?.bind fun x_48=>x.2.2.1[Int.toNat 3]?.bind fun _=>x.2.2.1[3]?.bind
 fun x_50=>x.2.2.1[Int.toNat 4]?.bind fun _=>x.2.2.1[4]?.bind fun x_52=>x.2.2.1[Int.toNat 5]?.bind fun _=>x.2.2.1[5]?.bind fun x_54=>x.2.2.1[Int.toNat 6]?.bind fun _=>x.2.2.1[6]?.bind fun x_56=>go (x.1,x.2.1,[u32.wrap (u32.wrap (u32.wrap (u32.wrap (u32.wrap (x_11+u32.wrap (↑(BitVec.ofInt u32.bits (u32.wrap
 (↑(BitVec.ofInt u32.bits x_3^^^BitVec.ofInt u32.bits x_6).toNat:Int))^^^BitVec.ofInt u32.bits x_9).toNat:Int))+u32.wrap (↑(BitVec.ofInt u32.bits (u32.wrap (↑(BitVec.ofInt u32.bits x_13&&&BitVec.ofInt u32.bits x_15).toNat:Int))^^^BitVec.ofInt u32.bits (u32.wrap (↑(BitVec.ofInt u32.bits
 (u32.wrap (↑(BitVec.ofInt u32.bits (if false=true then -1 else u32.max)^^^BitVec.ofInt u32.bits x_17).toNat:Int))&&&BitVec.ofInt u32.bits x_19).toNat:Int))).toNat:Int))+x_20)+x_21)+u32.wrap (u32.wrap (↑(BitVec.ofInt u32.bits (u32.wrap (↑(BitVec.ofInt u32.bits x_24^^^BitVec.ofInt u32.bits
 x_27).toNat:Int))^^^BitVec.ofInt u32.bits x_30).toNat:Int)+u32.wrap (↑(BitVec.ofInt u32.bits (u32.wrap (↑(BitVec.ofInt u32.bits (u32.wrap (↑(BitVec.ofInt u32.bits x_32&&&BitVec.ofInt u32.bits x_34).toNat:Int))^^^BitVec.ofInt u32.bits (u32.wrap (↑(BitVec.ofInt u32.bits x_36&&&BitVec.ofInt
 u32.bits x_38).toNat:Int))).toNat:Int))^^^BitVec.ofInt u32.bits (u32.wrap (↑(BitVec.ofInt u32.bits x_40&&&BitVec.ofInt u32.bits x_42).toNat:Int))).toNat:Int))),x_44,x_46,x_48,u32.wrap (x_50+u32.wrap (u32.wrap (u32.wrap (u32.wrap (x_11+u32.wrap (↑(BitVec.ofInt u32.bits
 (u32.wrap (↑(BitVec.ofInt u32.bits x_3^^^BitVec.ofInt u32.bits x_6).toNat:Int))^^^BitVec.ofInt u32.bits x_9).toNat:Int))+u32.wrap (↑(BitVec.ofInt u32.bits (u32.wrap (↑(BitVec.ofInt u32.bits x_13&&&BitVec.ofInt u32.bits x_15).toNat:Int))^^^BitVec.ofInt u32.bits (u32.wrap (↑(BitVec.ofInt
 u32.bits (u32.wrap (↑(BitVec.ofInt u32.bits (if false=true then -1 else u32.max)^^^BitVec.ofInt u32.bits x_17).toNat:Int))&&&BitVec.ofInt u32.bits x_19).toNat:Int))).toNat:Int))+x_20)+x_21)),x_52,x_54,x_56],i64.wrap (x.2.2.2+1)) else none else none else some x.2.2.1
theorem l137_31:CutOk Tryd.prog ⟨s137_31,iter s_l2Block_L31 FUEL⟩ (.loop (loopOf Tryd.f137 31)):=loop_of mix_ok rfl tyl_ok (fl:=q137) ⟨c160,trivial⟩ (C:=C0) rfl (pts:=[]) (by kernel_rfl) trivial (fun _ _=>by kernel_rfl)
def s137_49:CutSig:=⟨256,[0,12,18,19],[.ro t180,.ro t180,.own t180,.ro (.int .i64)],[(.ex 6,[18],[(t180,true)])]⟩
def s_l2Block_L49 (go:List Int×List Int×List Int×Int->Option (List Int)) (x:List Int×List Int×List Int×Int):Option (List Int):=bif decide (x.2.2.2<8) then bif decide (0<=x.2.2.2) then x.1[Int.toNat x.2.2.2]?.bind fun x_1=>bif decide (0<=x.2.2.2) then x.2.1[Int.toNat x.2.2.2]?.bind fun x_2=>bif decide (List.length x.2.2.1+(1:Nat)<=4294967296) then go
 (x.1,x.2.1,x.2.2.1++[u32.wrap (x_1+x_2)],i64.wrap (x.2.2.2+1)) else none else none else none else some x.2.2.1
theorem l137_49:CutOk Tryd.prog ⟨s137_49,iter s_l2Block_L49 FUEL⟩ (.loop (loopOf Tryd.f137 49)):=loop_of mix_ok rfl tyl_ok (fl:=q137) ⟨c160,trivial⟩ (C:=C0) rfl (pts:=[]) (by kernel_rfl) trivial (fun _ _=>by kernel_rfl)
def s_l2Block (x:List Int×List Int×List UInt8):Option (List Int):=(iter s_l2Block_L9 FUEL (x.2.2,List.replicate 0 0,0)).bind fun x_1=>(iter s_l2Block_L17 FUEL (x_1,16)).bind fun x_2=>bif decide ((0:Nat)+List.length x.1<=4294967296) then(iter s_l2Block_L31 FUEL (x.2.1,x_2,x.1,0)).bind fun x_3=>(iter s_l2Block_L49 FUEL (x.1,x_3,List.replicate 0 0,
 0)).bind fun x=>some x else none
abbrev k137:Cuts:=ctab [(9,⟨s137_9,iter s_l2Block_L9 FUEL⟩),(17,⟨s137_17,iter s_l2Block_L17 FUEL⟩),(31,⟨s137_31,iter s_l2Block_L31 FUEL⟩),(49,⟨s137_49,iter s_l2Block_L49 FUEL⟩)]
theorem c137:FnOk Tryd.prog 137 ⟨s137,s_l2Block⟩:=fn_of2 mix_ok rfl tyl_ok (fl:=q137) ⟨c160,trivial⟩ Tryd.func137 rfl rfl (C:=k137) (pts:=[(⟨s137_9,iter s_l2Block_L9 FUEL⟩,.loop (loopOf Tryd.f137 9)),(⟨s137_17,iter s_l2Block_L17 FUEL⟩,.loop (loopOf Tryd.f137 17)),(⟨s137_31,iter s_l2Block_L31 FUEL⟩,.loop (loopOf Tryd.f137 31)),(⟨s137_49,iter s_l2Block_L49 FUEL⟩,.loop (loopOf Tryd.f137 49))]) (by kernel_rfl) ⟨l137_9,l137_17,l137_31,l137_49,trivial⟩ (fun _=>by kernel_rfl)
def s84:Sig:=⟨[.ro .str],[(.str,true)],false⟩
abbrev q84:List (FuncId×V.Fn):=[(134,⟨s134,s_l2Begin⟩),(135,⟨s135,s_l2Table⟩),(136,⟨s136,s_Fixed⟩),(137,⟨s137,s_l2Block⟩)]
def s84_11:CutSig:=⟨86,[0,5],[.ro .str,.own t63],[(.ex 0,[5],[(t63,true)])]⟩
def s_Sha_L11 (go:List UInt8×List Int->Option (List Int)) (x:List UInt8×List Int):Option (List Int):=bif !decide ((i64.wrap ((↑(List.length x.1):Int)+(↑(List.length x.2):Int))).tmod 64=56) then bif true&&(false||[3,2].contains 3||[].contains 3)&&decide (List.length x.2+(1:Nat)<=4294967296) then go (x.1,x.2++[0]) else none else some x.2
theorem l84_11:CutOk Tryd.prog ⟨s84_11,iter s_Sha_L11 FUEL⟩ (.loop (loopOf Tryd.f84 11)):=loop_of mix_ok rfl tyl_ok (fl:=q84) ⟨c134,c135,c136,c137,trivial⟩ (C:=C0) rfl (pts:=[]) (by kernel_rfl) trivial (fun _ _=>by kernel_rfl)
def s84_21:CutSig:=⟨86,[0,3,4,7,8],[.ro .str,.own t180,.ro t180,.ro (.int .i64),.ro (.int .i64)],[(.ex 2,[3],[(t180,true)])]⟩
def s_Sha_L21 (go:List UInt8×List Int×List Int×Int×Int->Option (List Int)) (x:List UInt8×List Int×List Int×Int×Int):Option (List Int):=bif decide (x.2.2.2.2<x.2.2.2.1) then bif decide (0<=x.2.2.2.2)&&decide (x.2.2.2.2<=i64.wrap (x.2.2.2.2+64))&&decide (0<=i64.wrap (x.2.2.2.2+64))&&decide (i64.wrap (x.2.2.2.2+64) ≤
 (↑(List.length x.1):Int)) then(s_l2Block (x.2.1,x.2.2.1,List.drop (Int.toNat x.2.2.2.2) (List.take (i64.wrap (x.2.2.2.2+64)).toNat x.1))).bind fun x_1=>go (x.1,x_1,x.2.2.1,x.2.2.2.1,i64.wrap (x.2.2.2.2+64)) else none else some x.2.1
theorem l84_21:CutOk Tryd.prog ⟨s84_21,iter s_Sha_L21 FUEL⟩ (.loop (loopOf Tryd.f84 21)):=loop_of mix_ok rfl tyl_ok (fl:=q84) ⟨c134,c135,c136,c137,trivial⟩ (C:=C0) rfl (pts:=[]) (by kernel_rfl) trivial (fun _ _=>by kernel_rfl)
def s84_31:CutSig:=⟨86,[3,4,9,10],[.own t180,.ro t180,.ro .str,.ro (.int .i64)],[(.ex 4,[3],[(t180,true)])]⟩
def s_Sha_L31 (go:List Int×List Int×List UInt8×Int->Option (List Int)) (x:List Int×List Int×List UInt8×Int):Option (List Int):=bif decide (i64.wrap (x.2.2.2+64)<=(↑(List.length x.2.2.1):Int)) then bif decide (0<=x.2.2.2)&&decide (x.2.2.2<=i64.wrap (x.2.2.2+64))&&decide (0<=i64.wrap (x.2.2.2+64))&&decide (i64.wrap
 (x.2.2.2+64)<=(↑(List.length x.2.2.1):Int)) then(s_l2Block (x.1,x.2.1,List.drop (Int.toNat x.2.2.2) (List.take (i64.wrap (x.2.2.2+64)).toNat x.2.2.1))).bind fun x_1=>go (x_1,x.2.1,x.2.2.1,i64.wrap (x.2.2.2+64)) else none else some x.1
theorem l84_31:CutOk Tryd.prog ⟨s84_31,iter s_Sha_L31 FUEL⟩ (.loop (loopOf Tryd.f84 31)):=loop_of mix_ok rfl tyl_ok (fl:=q84) ⟨c134,c135,c136,c137,trivial⟩ (C:=C0) rfl (pts:=[]) (by kernel_rfl) trivial (fun _ _=>by kernel_rfl)
def s84_41:CutSig:=⟨86,[3,11,12],[.ro t180,.ro .str,.ro (.int .i64)],[(.ex 6,[11],[(.str,true)])]⟩
def s_Sha_L41 (go:List Int×List UInt8×Int->Option (List UInt8)) (x:List Int×List UInt8×Int):Option (List UInt8):=bif decide (x.2.2<8) then bif decide (0<=x.2.2) then x.1[Int.toNat x.2.2]?.bind fun x_1=>(s_Fixed (i64.wrap x_1,4)).bind fun x_2=>bif decide (List.length x.2.1+x_2.length<=4611686018427387904) then go (x.1,x.2.1++x_2,
 i64.wrap (x.2.2+1)) else none else none else some x.2.1
theorem l84_41:CutOk Tryd.prog ⟨s84_41,iter s_Sha_L41 FUEL⟩ (.loop (loopOf Tryd.f84 41)):=loop_of mix_ok rfl tyl_ok (fl:=q84) ⟨c134,c135,c136,c137,trivial⟩ (C:=C0) rfl (pts:=[]) (by kernel_rfl) trivial (fun _ _=>by kernel_rfl)
def s_Sha (x:List UInt8):Option (List UInt8):=(s_l2Begin ()).bind fun x_1=>(s_l2Table ()).bind fun x_2=>(iter s_Sha_L11 FUEL (x,[128])).bind fun x_3=>bif decide ((List.map (fun(b:Int)=>UInt8.ofNat b.toNat) x_3).length+(List.map (fun(b:Int)=>UInt8.ofNat b.toNat) [0]).length<=4611686018427387904) then(s_Fixed (i64.wrap (8*(↑x.length:Int)),
 7)).bind fun x_4=>bif decide ((List.map (fun(b:Int)=>UInt8.ofNat b.toNat) x_3++List.map (fun(b:Int)=>UInt8.ofNat b.toNat) [0]).length+x_4.length<=4611686018427387904) then(iter s_Sha_L21 FUEL (x,x_1,x_2,i64.wrap (i64.wrap ((↑x.length:Int).tdiv 64)*64),0)).bind fun x_5=>bif decide (0<=i64.wrap (i64.wrap ((↑x.length:Int).tdiv 64)*
 64))&&decide (i64.wrap (i64.wrap ((↑x.length:Int).tdiv 64)*64)<=(↑x.length:Int)) then bif decide ((List.drop (i64.wrap (i64.wrap ((↑x.length:Int).tdiv 64)*64)).toNat x).length+(List.map (fun(b:Int)=>UInt8.ofNat b.toNat) x_3++List.map (fun(b:Int)=>UInt8.ofNat b.toNat) [0]++x_4).length<=4611686018427387904) then(iter s_Sha_L31 FUEL
 (x_5,x_2,List.drop (i64.wrap (i64.wrap ((↑x.length:Int).tdiv 64)*64)).toNat x++(List.map (fun(b:Int)=>UInt8.ofNat b.toNat) x_3++List.map (fun(b:Int)=>UInt8.ofNat b.toNat) [0]++x_4),0)).bind fun x=>(iter s_Sha_L41 FUEL (x,[],0)).bind fun x=>some x else none else none else none else none
abbrev k84:Cuts:=ctab [(11,⟨s84_11,iter s_Sha_L11 FUEL⟩),(21,⟨s84_21,iter s_Sha_L21 FUEL⟩),(31,⟨s84_31,iter s_Sha_L31 FUEL⟩),(41,⟨s84_41,iter s_Sha_L41 FUEL⟩)]
theorem c84:FnOk Tryd.prog 84 ⟨s84,s_Sha⟩:=fn_of2 mix_ok rfl tyl_ok (fl:=q84) ⟨c134,c135,c136,c137,trivial⟩ Tryd.func84 rfl rfl (C:=k84) (pts:=[(⟨s84_11,iter s_Sha_L11 FUEL⟩,.loop (loopOf Tryd.f84 11)),(⟨s84_21,iter s_Sha_L21 FUEL⟩,.loop (loopOf Tryd.f84 21)),(⟨s84_31,iter s_Sha_L31 FUEL⟩,.loop (loopOf Tryd.f84 31)),(⟨s84_41,iter s_Sha_L41 FUEL⟩,.loop (loopOf Tryd.f84 41))]) (by kernel_rfl) ⟨l84_11,l84_21,l84_31,l84_41,trivial⟩ (fun _=>by kernel_rfl)
def s166:Sig:=⟨[.ro t68,.ro (.int .i64),.ro (.int .i64)],[(t43,true)],false⟩
abbrev q166:List (FuncId×V.Fn):=[]
def s_l12Told (x:D1×Int×Int):Option D6:=bif decide (0<=i64.wrap (x.2.2-1)) then x.1.1[(i64.wrap (x.2.2-1)).toNat]?.bind fun x_1=>some (x.2.1,x.2.2,x_1.2.2,x_1.2.1,(↑(List.length x_1.1):Int),0) else none
theorem c166:FnOk Tryd.prog 166 ⟨s166,s_l12Told⟩:=fn_of mix_ok rfl tyl_ok (fl:=q166) trivial Tryd.func166 rfl rfl cuts0 (fun _=>by kernel_rfl)
def s167:Sig:=⟨[.ro (.int .i64),.ro (.int .i64)],[(.bool,true)],false⟩
abbrev q167:List (FuncId×V.Fn):=[]
def s_l12Wants (x:Int×Int):Option (Bool):=bif decide (x.1=2) then some (decide (x.2=1)) else bif decide (x.1=3) then some (decide (x.2=2)) else(bif !decide (x.2=1) then some (decide (x.2=3)) else some true).bind fun x=>some x
theorem c167:FnOk Tryd.prog 167 ⟨s167,s_l12Wants⟩:=fn_of mix_ok rfl tyl_ok (fl:=q167) trivial Tryd.func167 rfl rfl cuts0 (fun _=>by kernel_rfl)
def s143:Sig:=⟨[.own t68,.ro t39],[(t68,true),(t43,true)],false⟩
abbrev q143:List (FuncId×V.Fn):=[(51,⟨s51,s_OpOk⟩),(82,⟨s82,s_ReadCanon⟩),(83,⟨s83,s_l12Body⟩),(84,⟨s84,s_Sha⟩),(166,⟨s166,s_l12Told⟩),(167,⟨s167,s_l12Wants⟩)]
def s143_69:CutSig:=⟨178,[2,9,11],[.pio t68,.ro (.int .i64),.ro (.int .i64)],[(.ex 1,[],[])]⟩
def s_l12Do_L69 (go:D1×Int×Int->Option D1) (x:D1
 ×Int×Int):Option D1:=bif decide (x.2.2<(↑(List.length x.1.2.1):Int)) then bif decide (0<=x.2.2) then x.1.2.1[Int.toNat x.2.2]?.bind fun _=>x.1.2.1[Int.toNat x.2.2]?.bind fun x_2=>bif decide (x_2=x.2.1) then bif decide (0<=x.2.2) then x.1.2.1[Int.toNat x.2.2]?.bind fun
 _=>x.1.2.1[Int.toNat x.2.2]?.bind fun _=>go ((x.1.1,List.set x.1.2.1 (Int.toNat x.2.2) 0,x.1.2.2),x.2.1,i64.wrap (x.2.2+1)) else none else go (x.1,x.2.1,i64.wrap (x.2.2+1)) else none else some x.1
theorem l143_69:CutOk Tryd.prog ⟨s143_69,iter s_l12Do_L69 FUEL⟩ (.loop (loopOf Tryd.f143 69)):=loop_of mix_ok rfl tyl_ok (fl:=q143) ⟨c51,c82,c83,c84,c166,c167,trivial⟩ (C:=C0) rfl (pts:=[]) (by kernel_rfl) trivial (fun _ _=>by kernel_rfl)
def s_l12Do (x:D1×Int×Int×Int×List UInt8):Option (D1×Int×Int×Int×List UInt8×Int×Int):=(s_OpOk x.2).bind fun x_1=>bif !x_1 then some (x.1,
 1,0,0,[],0,0) else bif decide (x.2.1=1) then(s_ReadCanon x.2.2.2.2).bind fun x_2=>bif !x_2.2 then some (x.1,1,0,0,[],0,0) else(s_l12Body (x.1.1,x.2.2.2.2)).bind fun x_3=>bif decide (0<x_3) then(s_l12Told (x.1,2,x_3)).bind fun x_4=>some (x.1,x_4) else bif decide (6<=(↑(List.length x.1.1):Int)) then some (x.1,3,0,0,[],0,0) else(s_Sha x.2.2.2.2).bind fun x_4=>
 bif decide (List.length x.1.1+(1:Nat)<=4294967296) then(s_l12Told ((x.1.1++[(x.2.2.2.2,x_4,1)],x.1.2),0,(↑(x.1.1++[(x.2.2.2.2,x_4,1)]).length:Int))).bind fun x_5=>some ((x.1.1++[(x.2.2.2.2,x_4,1)],x.1.2),x_5) else none else(bif decide (x.2.1=5) then some (decide (x.2.2.2.1=0)) else some false).bind fun x_2=>bif x_2 then bif decide (0<=x.2.2.1) then
 x.1.2.1[Int.toNat x.2.2.1]?.bind fun _=>x.1.2.1[Int.toNat x.2.2.1]?.bind fun x_4=>(bif !decide (x_4=0) then some (decide ((↑(List.length x.1.1):Int)<x_4)) else some true).bind fun x_5=>bif x_5 then some (x.1,4,0,0,[],0,0) else bif decide (x.2.1=5) then(s_l12Told (x.1,0,x_4)).bind fun x_6=>some (x.1,x_6) else bif decide (0<=i64.wrap (x_4-1)) then
 x.1.1[(i64.wrap (x_4-1)).toNat]?.bind fun _=>x.1.1[Int.toNat (i64.wrap (x_4-1))]?.bind fun x_7=>(s_l12Wants (x.2.1,x_7.2.2)).bind fun x_8=>bif !x_8 then(s_l12Told (x.1,5,x_4)).bind fun x_9=>some (x.1,x_9) else bif decide (x.2.1=2) then bif decide (0<=x.2.2.1) then x.1.2.1[Int.toNat x.2.2.1]?.bind fun _=>x.1.2.1[Int.toNat x.2.2.1]?.bind fun x_10=>bif
 decide (0<x_10) then bif decide (0<=i64.wrap (x_10-1)) then x.1.1[(i64.wrap (x_10-1)).toNat]?.bind fun _=>x.1.1[Int.toNat (i64.wrap (x_10-1))]?.bind fun x_12=>bif decide (0<=x.2.2.1) then x.1.2.1[Int.toNat x.2.2.1]?.bind fun _=>x.1.2.1[Int.toNat x.2.2.1]?.bind fun _=>bif decide (0<=i64.wrap (x_4-1)) then(List.set x.1.1 (Int.toNat
 (i64.wrap (x_10-1))) (x_12.1,x_12.2.1,3))[(i64.wrap (x_4-1)).toNat]?.bind fun _=>(List.set x.1.1 (Int.toNat (i64.wrap (x_10-1))) (x_12.1,x_12.2.1,3))[Int.toNat (i64.wrap (x_4-1))]?.bind fun x_16=>(s_l12Told (((List.set x.1.1 (Int.toNat (i64.wrap (x_10-1))) (x_12.1,x_12.2.1,3)).set (Int.toNat (i64.wrap (x_4-1))) (x_16.1,
 x_16.2.1,2),List.set x.1.2.1 (Int.toNat x.2.2.1) x_4,x.1.2.2),0,x_4)).bind fun x_17=>some (((List.set x.1.1 (Int.toNat (i64.wrap (x_10-1))) (x_12.1,x_12.2.1,3)).set (Int.toNat (i64.wrap (x_4-1))) (x_16.1,x_16.2.1,2),List.set x.1.2.1 (Int.toNat x.2.2.1) x_4,x.1.2.2),x_17) else none else none else none else bif decide (0<=x.2.2.1) then x.1.2.1[Int.toNat
 x.2.2.1]?.bind fun _=>x.1.2.1[Int.toNat x.2.2.1]?.bind fun _=>bif decide (0<=i64.wrap (x_4-1)) then x.1.1[(i64.wrap (x_4-1)).toNat]?.bind fun _=>x.1.1[Int.toNat (i64.wrap (x_4-1))]?.bind fun x_14=>(s_l12Told ((List.set x.1.1 (Int.toNat (i64.wrap (x_4-1))) (x_14.1,x_14.2.1,2),List.set x.1.2.1 (Int.toNat x.2.2.1) x_4,x.1.2.2),0,
 x_4)).bind fun x_15=>some ((List.set x.1.1 (Int.toNat (i64.wrap (x_4-1))) (x_14.1,x_14.2.1,2),List.set x.1.2.1 (Int.toNat x.2.2.1) x_4,x.1.2.2),x_15) else none else none else none else bif decide (x.2.1=3) then(iter s_l12Do_L69 FUEL (x.1,x_4,0)).bind fun x=>bif decide (0<=i64.wrap (x_4-1)) then x.1[(i64.wrap (x_4-1)).toNat]?.bind fun _=>
 x.1[Int.toNat (i64.wrap (x_4-1))]?.bind fun x_10=>(s_l12Told ((List.set x.1 (Int.toNat (i64.wrap (x_4-1))) (x_10.1,x_10.2.1,3),x.2),0,x_4)).bind fun x_11=>some ((List.set x.1 (Int.toNat (i64.wrap (x_4-1))) (x_10.1,x_10.2.1,3),x.2),x_11) else none else bif decide (0<=i64.wrap (x_4-1)) then x.1.1[(i64.wrap (x_4-1)).toNat]?.bind fun
 _=>x.1.1[Int.toNat (i64.wrap (x_4-1))]?.bind fun x_10=>(s_l12Told ((List.set x.1.1 (Int.toNat (i64.wrap (x_4-1))) (x_10.1,x_10.2.1,4),x.1.2),0,x_4)).bind fun x_11=>some ((List.set x.1.1 (Int.toNat (i64.wrap (x_4-1))) (x_10.1,x_10.2.1,4),x.1.2),x_11) else none else none else none else(bif !decide (x.2.2.2.1=0) then some (decide ((↑(List.length
 x.1.1):Int)<x.2.2.2.1)) else some true).bind fun x_3=>bif x_3 then some (x.1,4,0,0,[],0,0) else bif decide (x.2.1=5) then(s_l12Told (x.1,0,x.2.2.2.1)).bind fun x_4=>some (x.1,x_4) else bif decide (0<=i64.wrap (x.2.2.2.1-1)) then x.1.1[(i64.wrap (x.2.2.2.1-1)).toNat]?.bind fun _=>x.1.1[Int.toNat (i64.wrap (x.2.2.2.1-1))]?.bind fun x_5=>
 (s_l12Wants (x.2.1,x_5.2.2)).bind fun x_6=>bif !x_6 then(s_l12Told (x.1,5,x.2.2.2.1)).bind fun x_7=>some (x.1,x_7) else bif decide (x.2.1=2) then bif decide (0<=x.2.2.1) then x.1.2.1[Int.toNat x.2.2.1]?.bind fun _=>x.1.2.1[Int.toNat x.2.2.1]?.bind fun x_8=>bif decide (0<x_8) then bif decide (0<=i64.wrap (x_8-1)) then x.1.1[(i64.wrap (x_8-1)).toNat]?.bind
 fun _=>x.1.1[Int.toNat (i64.wrap (x_8-1))]?.bind fun x_10=>bif decide (0<=x.2.2.1) then x.1.2.1[Int.toNat x.2.2.1]?.bind fun _=>x.1.2.1[Int.toNat x.2.2.1]?.bind fun _=>bif decide (0<=i64.wrap (x.2.2.2.1-1)) then(List.set x.1.1 (Int.toNat (i64.wrap (x_8-1))) (x_10.1,x_10.2.1,3))[(i64.wrap (x.2.2.2.1-1)).toNat]?.bind fun _=>
 (List.set x.1.1 (Int.toNat (i64.wrap (x_8-1))) (x_10.1,x_10.2.1,3))[Int.toNat (i64.wrap (x.2.2.2.1-1))]?.bind fun x_14=>(s_l12Told (((List.set x.1.1 (Int.toNat (i64.wrap (x_8-1))) (x_10.1,x_10.2.1,3)).set (Int.toNat (i64.wrap (x.2.2.2.1-1))) (x_14.1,x_14.2.1,2),List.set x.1.2.1 (Int.toNat x.2.2.1) x.2.2.2.1,x.1.2.2),0,x.2.2.2.1)).bind fun x_15
 =>some (((List.set x.1.1 (Int.toNat (i64.wrap (x_8-1))) (x_10.1,x_10.2.1,3)).set (Int.toNat (i64.wrap (x.2.2.2.1-1))) (x_14.1,x_14.2.1,2),List.set x.1.2.1 (Int.toNat x.2.2.1) x.2.2.2.1,x.1.2.2),x_15) else none else none else none else bif decide (0<=x.2.2.1) then x.1.2.1[Int.toNat x.2.2.1]?.bind fun _=>x.1.2.1[Int.toNat x.2.2.1]?.bind fun _=>bif decide (0 ≤
 i64.wrap (x.2.2.2.1-1)) then x.1.1[(i64.wrap (x.2.2.2.1-1)).toNat]?.bind fun _=>x.1.1[Int.toNat (i64.wrap (x.2.2.2.1-1))]?.bind fun x_12=>(s_l12Told ((List.set x.1.1 (Int.toNat (i64.wrap (x.2.2.2.1-1))) (x_12.1,x_12.2.1,2),List.set x.1.2.1 (Int.toNat x.2.2.1) x.2.2.2.1,x.1.2.2),0,x.2.2.2.1)).bind fun x_13=>some ((List.set x.1.1 (Int.toNat
 (i64.wrap (x.2.2.2.1-1))) (x_12.1,x_12.2.1,2),List.set x.1.2.1 (Int.toNat x.2.2.1) x.2.2.2.1,x.1.2.2),x_13) else none else none else none else bif decide (x.2.1=3) then(iter s_l12Do_L69 FUEL (x.1,x.2.2.2.1,0)).bind fun x_7=>bif decide (0<=i64.wrap (x.2.2.2.1-1)) then x_7.1[(i64.wrap (x.2.2.2.1-1)).toNat]?.bind fun _=>x_7.1[Int.toNat
 (i64.wrap (x.2.2.2.1-1))]?.bind fun x_9=>(s_l12Told ((List.set x_7.1 (Int.toNat (i64.wrap (x.2.2.2.1-1))) (x_9.1,x_9.2.1,3),x_7.2),0,x.2.2.2.1)).bind fun x_10=>some ((List.set x_7.1 (Int.toNat (i64.wrap (x.2.2.2.1-1))) (x_9.1,x_9.2.1,3),x_7.2),x_10) else none else bif decide (0<=i64.wrap (x.2.2.2.1-1)) then x.1.1[(i64.wrap (x.2.2.2.1
 -1)).toNat]?.bind fun _=>x.1.1[Int.toNat (i64.wrap (x.2.2.2.1-1))]?.bind fun x_8=>(s_l12Told ((List.set x.1.1 (Int.toNat (i64.wrap (x.2.2.2.1-1))) (x_8.1,x_8.2.1,4),x.1.2),0,x.2.2.2.1)).bind fun x_9=>some ((List.set x.1.1 (Int.toNat (i64.wrap (x.2.2.2.1-1))) (x_8.1,x_8.2.1,4),x.1.2),x_9) else none else none
abbrev k143:Cuts:=ctab [(69,⟨s143_69,iter s_l12Do_L69 FUEL⟩)]
theorem c143:FnOk Tryd.prog 143 ⟨s143,s_l12Do⟩:=fn_of2 mix_ok rfl tyl_ok (fl:=q143) ⟨c51,c82,c83,c84,c166,c167,trivial⟩ Tryd.func143 rfl rfl (C:=k143) (pts:=[(⟨s143_69,iter s_l12Do_L69 FUEL⟩,.loop (loopOf Tryd.f143 69))]) (by kernel_rfl) ⟨l143_69,trivial⟩ (fun _=>by kernel_rfl)
def s88:Sig:=⟨[.own t68,.ro (.int .i64),.ro (.int .i64),.ro t39,.ro (.int .i64)],[(t68,true),(t43,true),(.bool,true)],false⟩
abbrev q88:List (FuncId×V.Fn):=[(53,⟨s53,s_l1In⟩),(69,⟨s69,s_l12Last⟩),(125,⟨s125,s_l12Session⟩),(143,⟨s143,s_l12Do⟩)]
def s_l12Serve (x:D1×Int×Int×D9×Int):Option (D1×D6×Bool):=(s_l1In (x.2.1,1,
 6)).bind fun x_1=>(bif !!x_1 then(s_l1In (x.2.2.1,1,1000000)).bind fun x=>some !x else some true).bind fun x_2=>(bif !x_2 then(s_l1In (x.2.2.2.2,1,100000)).bind fun x=>some !x else some true).bind fun x_3=>bif x_3 then some (x.1,(0,0,0,[],0,0),false) else(s_l12Last (x.1,x.2.1)).bind fun x_4=>bif decide (x.2.2.1=x_4.1) then some (x.1,x_4.2,false) else bif !decide
 (x.2.2.1=i64.wrap (x_4.1+1)) then some (x.1,(0,0,0,[],0,0),false) else(s_l12Do (x.1,x.2.2.2.1)).bind fun x_5=>(s_l12Session (x_5.1,x.2.1)).bind fun x_6=>bif x_6.2 then bif decide (0<=x_6.1) then x_5.1.2.2[Int.toNat x_6.1]?.bind fun _=>x_5.1.2.2[Int.toNat x_6.1]?.bind fun _=>some ((x_5.1.1,x_5.1.2.1,List.set x_5.1.2.2 (Int.toNat x_6.1) (x.2.1,x.2.2.1,
 x_5.2.1,x_5.2.2.1,x_5.2.2.2.1,x_5.2.2.2.2.1,x_5.2.2.2.2.2.1,x.2.2.2.2)),(x_5.2.1,x_5.2.2.1,x_5.2.2.2.1,x_5.2.2.2.2.1,x_5.2.2.2.2.2.1,x.2.2.2.2),true) else none else bif decide (0<=x_6.1)&&decide (x_6.1<=(↑(List.length x_5.1.2.2):Int)) then bif decide ((0:Nat)+(List.take (Int.toNat x_6.1) x_5.1.2.2).length<=4294967296) then bif decide ((List.take (Int.toNat x_6.1)
 x_5.1.2.2).length+(1:Nat)<=4294967296) then bif decide (0<=x_6.1)&&decide (x_6.1<=(↑(List.length x_5.1.2.2):Int)) then bif decide ((List.take (Int.toNat x_6.1) x_5.1.2.2++[(x.2.1,x.2.2.1,x_5.2.1,x_5.2.2.1,x_5.2.2.2.1,x_5.2.2.2.2.1,x_5.2.2.2.2.2.1,x.2.2.2.2)]).length+(List.drop (Int.toNat x_6.1) x_5.1.2.2).length<=4294967296) then some ((x_5.1.1,x_5.1.2.1,List.take
 (Int.toNat x_6.1) x_5.1.2.2++[(x.2.1,x.2.2.1,x_5.2.1,x_5.2.2.1,x_5.2.2.2.1,x_5.2.2.2.2.1,x_5.2.2.2.2.2.1,x.2.2.2.2)]++List.drop (Int.toNat x_6.1) x_5.1.2.2),(x_5.2.1,x_5.2.2.1,x_5.2.2.2.1,x_5.2.2.2.2.1,x_5.2.2.2.2.2.1,x.2.2.2.2),true) else none else none else none else none else none
theorem c88:FnOk Tryd.prog 88 ⟨s88,s_l12Serve⟩:=fn_of mix_ok rfl tyl_ok (fl:=q88) ⟨c53,c69,c125,c143,trivial⟩ Tryd.func88 rfl rfl cuts0 (fun _=>by kernel_rfl)
def s155:Sig:=⟨[],[(t68,true)],false⟩
abbrev q155:List (FuncId×V.Fn):=[]
def s_NewReg (_:Unit):Option D1:=some ([],List.replicate (Int.toNat 3) 0,[])
theorem c155:FnOk Tryd.prog 155 ⟨s155,s_NewReg⟩:=fn_of mix_ok rfl tyl_ok (fl:=q155) trivial Tryd.func155 rfl rfl cuts0 (fun _=>by kernel_rfl)
def s123:Sig:=⟨[.mu t165,.ro (.int .i64)],[(t68,true)],false⟩
abbrev q123:List (FuncId×V.Fn):=[(65,⟨s65,s_l12Op⟩),(68,⟨s68,s_l1Below⟩),(69,⟨s69,s_l12Last⟩),(88,⟨s88,s_l12Serve⟩),(155,⟨s155,s_NewReg⟩)]
def s123_9:CutSig:=⟨41,[0,5,6],[.mu t165,.pio t68,.ro (.int .i64)],[(.ex 0,[],[])]⟩
def s_l12Reg_L9 (go:D5×D1×Int->Option (D5×List D3×List Int×List D2)) (x:D5×(List D3×
 List Int×List D2)×Int):Option (D5×List D3×List Int×List D2):=bif decide (0<x.2.2) then(s_l1Below (x.1,6)).bind fun x_1=>(s_l12Last (x.2.1,i64.wrap (1+x_1.1))).bind fun x_2=>(s_l12Op x_1.2).bind fun x_3=>
 (s_l12Serve (x.2.1,i64.wrap (1+x_1.1),i64.wrap (x_2.1+1),x_3.1,i64.wrap (1+x.2.2))).bind fun x_4=>go (x_3.2,x_4.1,i64.wrap (x.2.2-1)) else some (x.1,x.2.1)
theorem l123_9:CutOk Tryd.prog ⟨s123_9,iter s_l12Reg_L9 FUEL⟩ (.loop (loopOf Tryd.f123 9)):=loop_of mix_ok rfl tyl_ok (fl:=q123) ⟨c65,c68,c69,c88,c155,trivial⟩ (C:=C0) rfl (pts:=[]) (by kernel_rfl) trivial (fun _ _=>by kernel_rfl)
def s_l12Reg (x:D5×Int):Option (D1×List Int×Int×Int):=(s_NewReg ()).bind fun x_1=>(s_l1Below (x.1,x.2)).bind fun x=>(iter s_l12Reg_L9 FUEL (x.2,x_1,x.1)).bind fun x=>some (x.2,x.1)
abbrev k123:Cuts:=ctab [(9,⟨s123_9,iter s_l12Reg_L9 FUEL⟩)]
theorem c123:FnOk Tryd.prog 123 ⟨s123,s_l12Reg⟩:=fn_of2 mix_ok rfl tyl_ok (fl:=q123) ⟨c65,c68,c69,c88,c155,trivial⟩ Tryd.func123 rfl rfl (C:=k123) (pts:=[(⟨s123_9,iter s_l12Reg_L9 FUEL⟩,.loop (loopOf Tryd.f123 9))]) (by kernel_rfl) ⟨l123_9,trivial⟩ (fun _=>by kernel_rfl)
def s66:Sig:=⟨[.mu t165,.ro (.int .i64)],[(t68,true)],false⟩
abbrev q66:List (FuncId×V.Fn):=[(68,⟨s68,s_l1Below⟩),(70,⟨s70,s_l1Once⟩),(122,⟨s122,s_l1Spoil⟩),(123,⟨s123,s_l12Reg⟩)]
def s_l12Any (x:D5×Int):Option (D1×List Int×Int×Int):=(s_l12Reg (x.1,x.2)).bind fun x=>(s_l1Once (x.2,8)).bind fun x_1=>bif !x_1.1 then some (x.1,x_1.2) else(s_l1Below (x_1.2,6)).bind fun x_2=>bif decide (x_2.1=0) then bif true
 &&(false||[8,6,5,4].contains 8||[].contains 8)&&decide (List.length x.1.2.1+(1:Nat)<=4294967296) then some ((x.1.1,x.1.2.1++[0],x.1.2.2),x_2.2) else none else bif decide (x_2.1=1) then(s_l1Below (x_2.2,3)).bind fun x_3=>(s_l1Below (x_3.2,4)).bind fun x_4=>bif decide (0<=x_3.1) then x.1.2.1[Int.toNat x_3.1]?.bind fun _=>x.1.2.1[Int.toNat x_3.1]?.bind fun _=>
 some ((x.1.1,List.set x.1.2.1 (Int.toNat x_3.1) (i64.wrap (x_4.1-1)),x.1.2.2),x_4.2) else none else bif decide (x_2.1=2) then bif decide (0<(↑(List.length x.1.1):Int)) then(s_l1Below (x_2.2,6)).bind fun x_3=>x.1.1[Int.toNat 0]?.bind fun _=>x.1.1[0]?.bind fun x_5=>some ((List.set x.1.1 0 (x_5.1,x_5.2.1,x_3.1),x.1.2),x_3.2) else some (x.1,x_2.2) else bif decide
 (x_2.1=3) then bif decide (0<(↑(List.length x.1.1):Int)) then x.1.1[Int.toNat 0]?.bind fun _=>x.1.1[0]?.bind fun x_4=>bif decide (List.length x.1.1+(1:Nat)<=4294967296) then some ((x.1.1++[x_4],x.1.2),x_2.2) else none else some (x.1,x_2.2) else bif decide (x_2.1=4) then(s_l1Below (x_2.2,8)).bind fun x_3=>(s_l1Below (x_3.2,3)).bind fun x_4=>bif decide (List.length
 x.1.2.2+(1:Nat)<=4294967296) then some ((x.1.1,x.1.2.1,x.1.2.2++[(x_3.1,x_4.1,0,0,0,[],0,0)]),x_4.2) else none else bif decide (0<(↑(List.length x.1.1):Int)) then x.1.1[Int.toNat 0]?.bind fun _=>x.1.1[0]?.bind fun x_4=>(s_l1Spoil (x_2.2,x_4.2.1)).bind fun x_5=>x.1.1[Int.toNat 0]?.bind fun _=>x.1.1[0]?.bind fun x_7=>some ((List.set x.1.1 0 (x_7.1,x_5.1,
 x_7.2.2),x.1.2),x_5.2) else some (x.1,x_2.2)
theorem c66:FnOk Tryd.prog 66 ⟨s66,s_l12Any⟩:=fn_of mix_ok rfl tyl_ok (fl:=q66) ⟨c68,c70,c122,c123,trivial⟩ Tryd.func66 rfl rfl cuts0 (fun _=>by kernel_rfl)
def s67:Sig:=⟨[.ro t63,.ro (.int .i64)],[((.int .i64),true)],false⟩
abbrev q67:List (FuncId×V.Fn):=[]
def s_l1Size (x:List Int×Int):Option (Int):=bif decide (x.2<i64.wrap (2+i64.wrap ((↑(List.length x.1):Int).tdiv 20))) then some x.2 else some (i64.wrap (2+i64.wrap ((↑(List.length x.1):Int).tdiv 20)))
theorem c67:FnOk Tryd.prog 67 ⟨s67,s_l1Size⟩:=fn_of mix_ok rfl tyl_ok (fl:=q67) trivial Tryd.func67 rfl rfl cuts0 (fun _=>by kernel_rfl)
def s24:Sig:=⟨[.ro t63],[(t68,true),((.int .i64),true),((.int .i64),true),(t39,true),((.int .i64),true)],false⟩
abbrev q24:List (FuncId×V.Fn):=[(64,⟨s64,s_l1New⟩),(65,⟨s65,s_l12Op⟩),(66,⟨s66,s_l12Any⟩),(67,⟨s67,s_l1Size⟩),(68,⟨s68,s_l1Below⟩),(69,⟨s69,s_l12Last⟩),(70,⟨s70,s_l1Once⟩),(71,⟨s71,s_l1PickInt⟩)]
def s_DrawServe (x:List Int):Option (D1×Int×Int×D9×Int):=(s_l1New x).bind fun x_1=>(s_l12Op x_1).bind fun x_2=>(s_l1Size (x,20)).bind fun x=>(s_l12Any (x_2.2,x)).bind fun x=>(s_l1Below (x.2,8)).bind fun x_3=>(s_l12Last
 (x.1,x_3.1)).bind fun x_4=>(s_l1Below (x_3.2,4)).bind fun x_5=>(s_l1Below (x_5.2,50)).bind fun x_6=>(s_l1Once (x_6.2,12)).bind fun x_7=>bif x_7.1 then(s_l1PickInt (x_7.2,[0,-1,100000,100001])).bind fun x_8=>(s_l1Once (x_8.2,12)).bind fun x_9=>bif x_9.1 then(s_l1PickInt (x_9.2,[0,-1,1000000,1000001])).bind fun x_10=>some (x.1,x_3.1,x_10.1,x_2.1,x_8.1) else some
 (x.1,x_3.1,i64.wrap (i64.wrap (x_4.1+x_5.1)-1),x_2.1,x_8.1) else(s_l1Once (x_7.2,12)).bind fun x_8=>bif x_8.1 then(s_l1PickInt (x_8.2,[0,-1,1000000,1000001])).bind fun x_9=>some (x.1,x_3.1,x_9.1,x_2.1,i64.wrap (1+x_6.1)) else some (x.1,x_3.1,i64.wrap (i64.wrap (x_4.1+x_5.1)-1),x_2.1,i64.wrap (1+x_6.1))
theorem c24:FnOk Tryd.prog 24 ⟨s24,s_DrawServe⟩:=fn_of mix_ok rfl tyl_ok (fl:=q24) ⟨c64,c65,c66,c67,c68,c69,c70,c71,trivial⟩ Tryd.func24 rfl rfl cuts0 (fun _=>by kernel_rfl)
def s118:Sig:=⟨[.ro (.int .i64),.ro (.int .i64),.ro (.int .i64)],[(.bool,true)],false⟩
abbrev q118:List (FuncId×V.Fn):=[]
def i_within (x:Int×Int×Int):Option (Bool):=(bif decide (x.2.1<=x.1) then some (decide (x.1<=x.2.2)) else some false).bind fun x=>some x
theorem c118:FnOk Tryd.prog 118 ⟨s118,i_within⟩:=fn_of mix_ok rfl tyl_ok (fl:=q118) trivial Tryd.func118 rfl rfl cuts0 (fun _=>by kernel_rfl)
def s130:Sig:=⟨[.ro (.int .i64),.ro (.int .i64)],[(.str,true)],false⟩
abbrev q130:List (FuncId×V.Fn):=[(118,⟨s118,i_within⟩)]
def s130_13:CutSig:=⟨39,[0,5,6],[.ro (.int .i64),.own t63,.ro (.int .i64)],[(.ex 0,[5],[(t63,true)])]⟩
def i_Fixed_L13 (go:Int×List Int×Int->Option (List Int)) (x:Int×List Int×Int):Option (List Int):=bif decide (0<=x.2.2) then bif decide (0<=x.2.2) then x.2.1[Int.toNat x.2.2]?.bind fun _=>x.2.1[Int.toNat x.2.2]?.bind fun _=>go (Int.fdiv x.1 (2^min (Int.toNat 8) i64.bits),List.set x.2.1 (Int.toNat x.2.2) (u8.wrap (i64.wrap
 (↑(BitVec.ofInt i64.bits x.1&&&BitVec.ofInt i64.bits 255).toNat:Int))),i64.wrap (x.2.2-1)) else none else some x.2.1
theorem l130_13:CutOk Tryd.prog ⟨s130_13,iter i_Fixed_L13 FUEL⟩ (.loop (loopOf Tryd.f130 13)):=loop_of mix_ok rfl tyl_ok (fl:=q130) ⟨c118,trivial⟩ (C:=C0) rfl (pts:=[]) (by kernel_rfl) trivial (fun _ _=>by kernel_rfl)
def i_Fixed (x:Int×Int):Option (List UInt8):=(i_within (x.2,1,7)).bind fun x_1=>(bif !!x_1 then some (decide (x.1<0)) else some true).bind fun x_2=>(bif !x_2 then bif decide (0<=i64.wrap (8*x.2)) then some (decide (i64.wrap (1*2^min (i64.wrap (8*x.2)).toNat i64.bits)<=x.1)) else none else some true).bind fun x_3=>bif x_3
 then some [] else bif decide (0<=x.2)&&decide (x.2<=x.2)&&decide (x.2<=(↑4294967296:Int)) then(iter i_Fixed_L13 FUEL (x.1,List.replicate (Int.toNat x.2) 0,i64.wrap (x.2-1))).bind fun x=>some (List.map (fun(b:Int)=>UInt8.ofNat b.toNat) x) else none
abbrev k130:Cuts:=ctab [(13,⟨s130_13,iter i_Fixed_L13 FUEL⟩)]
theorem c130:FnOk Tryd.prog 130 ⟨s130,i_Fixed⟩:=fn_of2 mix_ok rfl tyl_ok (fl:=q130) ⟨c118,trivial⟩ Tryd.func130 rfl rfl (C:=k130) (pts:=[(⟨s130_13,iter i_Fixed_L13 FUEL⟩,.loop (loopOf Tryd.f130 13))]) (by kernel_rfl) ⟨l130_13,trivial⟩ (fun _=>by kernel_rfl)
def s158:Sig:=⟨[.ro .str],[((.int .u32),true)],false⟩
abbrev q158:List (FuncId×V.Fn):=[]
def i_fourBytes (x:List UInt8):Option (Int):=x[Int.toNat 0]?.bind fun x_1=>x[Int.toNat 1]?.bind fun x_2=>x[Int.toNat 2]?.bind fun x_3=>x[Int.toNat 3]?.bind fun x=>some (u32.wrap (↑(BitVec.ofInt u32.bits (u32.wrap (↑(BitVec.ofInt u32.bits (u32.wrap (↑(BitVec.ofInt u32.bits (u32.wrap (u32.wrap (↑x_1.toNat:
 Int)*2^min (Int.toNat 24) u32.bits))|||BitVec.ofInt u32.bits (u32.wrap (u32.wrap (↑x_2.toNat:Int)*2^min (Int.toNat 16) u32.bits))).toNat:Int))|||BitVec.ofInt u32.bits (u32.wrap (u32.wrap (↑x_3.toNat:Int)*2^min (Int.toNat 8) u32.bits))).toNat:Int))|||BitVec.ofInt u32.bits (u32.wrap
 (↑x.toNat:Int))).toNat:Int))
theorem c158:FnOk Tryd.prog 158 ⟨s158,i_fourBytes⟩:=fn_of mix_ok rfl tyl_ok (fl:=q158) trivial Tryd.func158 rfl rfl cuts0 (fun _=>by kernel_rfl)
def s159:Sig:=⟨[.ro (.int .u32),.ro (.int .i64)],[((.int .u32),true)],false⟩
abbrev q159:List (FuncId×V.Fn):=[]
def g_math_bits_RotateLeft32 (x:Int×Int):Option (Int):=bif decide (0<=u64.wrap (32-u64.wrap (↑(BitVec.ofInt u64.bits (u64.wrap x.2)&&&BitVec.ofInt u64.bits 31).toNat:Int))) then some (u32.wrap (↑(BitVec.ofInt u32.bits (u32.wrap (x.1*2^min (u64.wrap (↑(BitVec.ofInt u64.bits
 (u64.wrap x.2)&&&BitVec.ofInt u64.bits 31).toNat:Int)).toNat u32.bits))|||BitVec.ofInt u32.bits (Int.fdiv x.1 (2^min (u64.wrap (32-u64.wrap (↑(BitVec.ofInt u64.bits (u64.wrap x.2)&&&BitVec.ofInt u64.bits 31).toNat:Int))).toNat u32.bits))).toNat:Int)) else none
theorem c159:FnOk Tryd.prog 159 ⟨s159,g_math_bits_RotateLeft32⟩:=fn_of mix_ok rfl tyl_ok (fl:=q159) trivial Tryd.func159 rfl rfl cuts0 (fun _=>by kernel_rfl)
def s131:Sig:=⟨[.ro t174,.ro .str],[(t174,true)],false⟩
abbrev q131:List (FuncId×V.Fn):=[(158,⟨s158,i_fourBytes⟩),(159,⟨s159,g_math_bits_RotateLeft32⟩)]
def s131_9:CutSig:=⟨176,[1,5,22],[.ro .str,.pio t203,.ro (.int .i64)],[(.ex 0,[],[])]⟩
def i_shaBlock_L9 (go:List UInt8×List Int×Int->Option (List Int)) (x:List UInt8×List Int×Int):Option (List Int):=bif decide (x.2.2<16) then bif decide (0<=i64.wrap (4*x.2.2))&&decide (i64.wrap (4*x.2.2)<=(↑(List.length x.1):Int)) then(i_fourBytes (List.drop (i64.wrap (4*x.2.2)).toNat x.1)).bind fun x_1=>bif decide (0<=x.2.2)
 &&decide (x.2.2<(↑64:Int)) then x.2.1[Int.toNat x.2.2]?.bind fun _=>go (x.1,List.set x.2.1 (Int.toNat x.2.2) x_1,i64.wrap (x.2.2+1)) else none else none else some x.2.1
theorem l131_9:CutOk Tryd.prog ⟨s131_9,iter i_shaBlock_L9 FUEL⟩ (.loop (loopOf Tryd.f131 9)):=loop_of mix_ok rfl tyl_ok (fl:=q131) ⟨c158,c159,trivial⟩ (C:=C0) rfl (pts:=[]) (by kernel_rfl) trivial (fun _ _=>by kernel_rfl)
def s131_19:CutSig:=⟨176,[5,7],[.pio t203,.ro (.int .i64)],[(.ex 2,[],[])]⟩
def i_shaBlock_L19 (go:List Int×Int->Option (List Int)) (x:List Int×Int):Option (List Int):=bif decide (x.2<64) then bif decide (0<=i64.wrap (x.2-15))&&decide (i64.wrap (x.2-15)<(↑64:Int)) then x.1[Int.toNat (i64.wrap (x.2-15))]?.bind fun x_1=>bif decide (0<=i64.wrap (x.2-2))&&decide (i64.wrap (x.2-2)<
 (↑64:Int)) then x.1[Int.toNat (i64.wrap (x.2-2))]?.bind fun x_2=>(g_math_bits_RotateLeft32 (x_1,-7)).bind fun x_3=>(g_math_bits_RotateLeft32 (x_1,-18)).bind fun x_4=>(g_math_bits_RotateLeft32 (x_2,-17)).bind fun x_5=>(g_math_bits_RotateLeft32 (x_2,-19)).bind fun x_6=>bif decide (0<=i64.wrap (x.2-16))&&decide (i64.wrap (x.2-16)<(↑64:Int)) then
 x.1[Int.toNat (i64.wrap (x.2-16))]?.bind fun x_7=>bif decide (0<=i64.wrap (x.2-7))&&decide (i64.wrap (x.2-7)<(↑64:Int)) then x.1[Int.toNat (i64.wrap (x.2-7))]?.bind fun x_8=>bif decide (0<=x.2)&&decide (x.2<(↑64:Int)) then x.1[Int.toNat x.2]?.bind fun _=>go (List.set x.1 (Int.toNat x.2) (u32.wrap (u32.wrap
 (u32.wrap (x_7+u32.wrap (↑(BitVec.ofInt u32.bits (u32.wrap (↑(BitVec.ofInt u32.bits x_3^^^BitVec.ofInt u32.bits x_4).toNat:Int))^^^BitVec.ofInt u32.bits (x_1.fdiv (2^min (Int.toNat 3) u32.bits))).toNat:Int))+x_8)+u32.wrap (↑(BitVec.ofInt u32.bits (u32.wrap (↑(BitVec.ofInt u32.bits x_5
 ^^^BitVec.ofInt u32.bits x_6).toNat:Int))^^^BitVec.ofInt u32.bits (x_2.fdiv (2^min (Int.toNat 10) u32.bits))).toNat:Int))),i64.wrap (x.2+1)) else none else none else none else none else none else some x.1
theorem l131_19:CutOk Tryd.prog ⟨s131_19,iter i_shaBlock_L19 FUEL⟩ (.loop (loopOf Tryd.f131 19)):=loop_of mix_ok rfl tyl_ok (fl:=q131) ⟨c158,c159,trivial⟩ (C:=C0) rfl (pts:=[]) (by kernel_rfl) trivial (fun _ _=>by kernel_rfl)
def s131_35:CutSig:=⟨176,[5,12,77],[.pin t203,.pio t174,.ro (.int .i64)],[(.ex 4,[],[])]⟩
def i_shaBlock_L35 (go:List Int×List Int×Int->Option (List Int)) (x:List Int×List Int×Int):Option (List Int):=bif decide (x.2.2<64) then x.2.1[0]?.bind fun x_1=>x.2.1[4]?.bind fun x_2=>(g_math_bits_RotateLeft32 (x_2,-6)).bind fun x_3=>(g_math_bits_RotateLeft32 (x_2,-11)).bind fun x_4=>(g_math_bits_RotateLeft32 (x_2,-25)).bind fun x_5=>x.2.1[5]?.bind
 fun x_6=>x.2.1[6]?.bind fun x_7=>x.2.1[7]?.bind fun x_8=>bif decide (0<=x.2.2) then gv0[Int.toNat x.2.2]?.bind fun x_9=>bif decide (0<=x.2.2) then x.1[Int.toNat x.2.2]?.bind fun x_10=>(g_math_bits_RotateLeft32 (x_1,-2)).bind fun x_11=>(g_math_bits_RotateLeft32 (x_1,-13)).bind fun x_12=>(g_math_bits_RotateLeft32 (x_1,-22)).bind fun x_13=>x.2.1[1]?.bind fun x_14=>
 x.2.1[2]?.bind fun x_15=>x.2.1[1]?.bind fun x_16=>x.2.1[2]?.bind fun x_17=>x.2.1[0]?.bind fun x_18=>x.2.1[1]?.bind fun x_19=>x.2.1[2]?.bind fun x_20=>x.2.1[3]?.bind fun x_21=>x.2.1[4]?.bind fun x_22=>x.2.1[5]?.bind fun x_23=>x.2.1[6]?.bind fun x_24=>go (x.1,[u32.wrap (u32.wrap (u32.wrap (u32.wrap (u32.wrap (u32.wrap (x_8+
 u32.wrap (↑(BitVec.ofInt u32.bits (u32.wrap (↑(BitVec.ofInt u32.bits x_3^^^BitVec.ofInt u32.bits x_4).toNat:Int))^^^BitVec.ofInt u32.bits x_5).toNat:Int))+u32.wrap (↑(BitVec.ofInt u32.bits (u32.wrap (↑(BitVec.ofInt u32.bits x_2&&&BitVec.ofInt u32.bits x_6).toNat:Int))^^^BitVec.ofInt
 u32.bits (u32.wrap (↑(BitVec.ofInt u32.bits (u32.wrap (↑(BitVec.ofInt u32.bits (if false=true then -1 else u32.max)^^^BitVec.ofInt u32.bits x_2).toNat:Int))&&&BitVec.ofInt u32.bits x_7).toNat:Int))).toNat:Int))+x_9)+x_10)+u32.wrap (↑(BitVec.ofInt u32.bits (u32.wrap (↑(BitVec.ofInt
 u32.bits x_11^^^BitVec.ofInt u32.bits x_12).toNat:Int))^^^BitVec.ofInt u32.bits x_13).toNat:Int))+u32.wrap (↑(BitVec.ofInt u32.bits (u32.wrap (↑(BitVec.ofInt u32.bits (u32.wrap (↑(BitVec.ofInt u32.bits x_1&&&BitVec.ofInt u32.bits x_14).toNat:Int))^^^BitVec.ofInt u32.bits (u32.wrap
 (↑(BitVec.ofInt u32.bits x_1&&&BitVec.ofInt u32.bits x_15).toNat:Int))).toNat:Int))^^^BitVec.ofInt u32.bits (u32.wrap (↑(BitVec.ofInt u32.bits x_16&&&BitVec.ofInt u32.bits x_17).toNat:Int))).toNat:Int)),x_18,x_19,x_20,u32.wrap (x_21+u32.wrap (u32.wrap (u32.wrap (u32.wrap (x_8+
 u32.wrap (↑(BitVec.ofInt u32.bits (u32.wrap (↑(BitVec.ofInt u32.bits x_3^^^BitVec.ofInt u32.bits x_4).toNat:Int))^^^BitVec.ofInt u32.bits x_5).toNat:Int))+u32.wrap (↑(BitVec.ofInt u32.bits (u32.wrap (↑(BitVec.ofInt u32.bits x_2&&&BitVec.ofInt u32.bits x_6).toNat:Int))^^^BitVec.ofInt
 u32.bits (u32.wrap (↑(BitVec.ofInt u32.bits (u32.wrap (↑(BitVec.ofInt u32.bits (if false=true then -1 else u32.max)^^^BitVec.ofInt u32.bits x_2).toNat:Int))&&&BitVec.ofInt u32.bits x_7).toNat:Int))).toNat:Int))+x_9)+x_10)),x_22,x_23,x_24],i64.wrap (x.2.2+1)) else none else none else some x.2.1
theorem l131_35:CutOk Tryd.prog ⟨s131_35,iter i_shaBlock_L35 FUEL⟩ (.loop (loopOf Tryd.f131 35)):=loop_of mix_ok rfl tyl_ok (fl:=q131) ⟨c158,c159,trivial⟩ (C:=C0) rfl (pts:=[]) (by kernel_rfl) trivial (fun _ _=>by kernel_rfl)
def s131_57:CutSig:=⟨176,[2,12,162],[.pio t174,.pin t174,.ro (.int .i64)],[(.ex 6,[],[])]⟩
def i_shaBlock_L57 (go:List Int×List Int×Int->Option (List Int)) (x:List Int×List Int×Int):Option (List Int):=bif decide (x.2.2<8) then bif decide (0<=x.2.2)&&decide (x.2.2<(↑8:Int)) then x.1[Int.toNat x.2.2]?.bind fun x_1=>bif decide (0<=x.2.2) then x.2.1[Int.toNat x.2.2]?.bind fun x_2=>bif decide (0<=x.2.2)&&decide (x.2.2<(↑8:Int)) then
 x.1[Int.toNat x.2.2]?.bind fun _=>go (List.set x.1 (Int.toNat x.2.2) (u32.wrap (x_1+x_2)),x.2.1,i64.wrap (x.2.2+1)) else none else none else none else some x.1
theorem l131_57:CutOk Tryd.prog ⟨s131_57,iter i_shaBlock_L57 FUEL⟩ (.loop (loopOf Tryd.f131 57)):=loop_of mix_ok rfl tyl_ok (fl:=q131) ⟨c158,c159,trivial⟩ (C:=C0) rfl (pts:=[]) (by kernel_rfl) trivial (fun _ _=>by kernel_rfl)
def i_shaBlock (x:List Int×List UInt8):Option (List Int):=(iter i_shaBlock_L9 FUEL (x.2,List.replicate 64 0,0)).bind fun x_1=>(iter i_shaBlock_L19 FUEL (x_1,16)).bind fun x_2=>(iter i_shaBlock_L35 FUEL (x_2,x.1,0)).bind fun x_3=>(iter i_shaBlock_L57 FUEL (x.1,x_3,0)).bind fun x=>some x
abbrev k131:Cuts:=ctab [(9,⟨s131_9,iter i_shaBlock_L9 FUEL⟩),(19,⟨s131_19,iter i_shaBlock_L19 FUEL⟩),(35,⟨s131_35,iter i_shaBlock_L35 FUEL⟩),(57,⟨s131_57,iter i_shaBlock_L57 FUEL⟩)]
theorem c131:FnOk Tryd.prog 131 ⟨s131,i_shaBlock⟩:=fn_of2 mix_ok rfl tyl_ok (fl:=q131) ⟨c158,c159,trivial⟩ Tryd.func131 rfl rfl (C:=k131) (pts:=[(⟨s131_9,iter i_shaBlock_L9 FUEL⟩,.loop (loopOf Tryd.f131 9)),(⟨s131_19,iter i_shaBlock_L19 FUEL⟩,.loop (loopOf Tryd.f131 19)),(⟨s131_35,iter i_shaBlock_L35 FUEL⟩,.loop (loopOf Tryd.f131 35)),(⟨s131_57,iter i_shaBlock_L57 FUEL⟩,.loop (loopOf Tryd.f131 57))]) (by kernel_rfl) ⟨l131_9,l131_19,l131_35,l131_57,trivial⟩ (fun _=>by kernel_rfl)
def s79:Sig:=⟨[.ro .str],[(.str,true)],false⟩
abbrev q79:List (FuncId×V.Fn):=[(130,⟨s130,i_Fixed⟩),(131,⟨s131,i_shaBlock⟩)]
def s79_15:CutSig:=⟨55,[5,6,7],[.ro .str,.pio t174,.ro (.int .i64)],[(.ex 0,[],[])]⟩
def i_Sha_L15 (go:List UInt8×List Int×Int->Option (List Int)) (x:List UInt8×List Int×Int):Option (List Int):=bif decide (x.2.2<(↑(List.length x.1):Int)) then bif decide (0<=x.2.2)&&decide (x.2.2<=i64.wrap (x.2.2+64))&&decide (0<=i64.wrap (x.2.2+64))&&decide (i64.wrap (x.2.2+64)<=(↑(List.length x.1):Int)) then(i_shaBlock
 (x.2.1,List.drop (Int.toNat x.2.2) (List.take (i64.wrap (x.2.2+64)).toNat x.1))).bind fun x_1=>go (x.1,x_1,i64.wrap (x.2.2+64)) else none else some x.2.1
theorem l79_15:CutOk Tryd.prog ⟨s79_15,iter i_Sha_L15 FUEL⟩ (.loop (loopOf Tryd.f79 15)):=loop_of mix_ok rfl tyl_ok (fl:=q79) ⟨c130,c131,trivial⟩ (C:=C0) rfl (pts:=[]) (by kernel_rfl) trivial (fun _ _=>by kernel_rfl)
def s79_25:CutSig:=⟨55,[8,44,45],[.ro .str,.ro t174,.ro (.int .i64)],[(.ex 2,[8],[(.str,true)])]⟩
def i_Sha_L25 (go:List UInt8×List Int×Int->Option (List UInt8)) (x:List UInt8×List Int×Int):Option (List UInt8):=bif decide (x.2.2<8) then bif decide (0<=x.2.2) then x.2.1[Int.toNat x.2.2]?.bind fun x_1=>(i_Fixed (i64.wrap x_1,4)).bind fun x_2=>bif decide (List.length x.1+x_2.length<=4611686018427387904) then go (x.1++x_2,x.2.1,
 i64.wrap (x.2.2+1)) else none else none else some x.1
theorem l79_25:CutOk Tryd.prog ⟨s79_25,iter i_Sha_L25 FUEL⟩ (.loop (loopOf Tryd.f79 25)):=loop_of mix_ok rfl tyl_ok (fl:=q79) ⟨c130,c131,trivial⟩ (C:=C0) rfl (pts:=[]) (by kernel_rfl) trivial (fun _ _=>by kernel_rfl)
def i_Sha (x:List UInt8):Option (List UInt8):=bif decide (x.length+(1:Nat)<=4611686018427387904) then bif decide (0<=i64.wrap ((i64.wrap (64-(i64.wrap ((↑x.length:Int)+9)).tmod 64)).tmod 64+1))&&decide (i64.wrap ((i64.wrap (64-(i64.wrap ((↑x.length:Int)+9)).tmod 64)).tmod 64+1)<=i64.wrap
 ((i64.wrap (64-(i64.wrap ((↑x.length:Int)+9)).tmod 64)).tmod 64+1))&&decide (i64.wrap ((i64.wrap (64-(i64.wrap ((↑x.length:Int)+9)).tmod 64)).tmod 64+1)<=(↑4294967296:Int)) then bif decide ((x++[(128:UInt8)]).length+(List.map (fun(b:Int)=>UInt8.ofNat b.toNat) (List.replicate (i64.wrap ((i64.wrap (64-
 (i64.wrap ((↑x.length:Int)+9)).tmod 64)).tmod 64+1)).toNat 0)).length<=4611686018427387904) then(i_Fixed (i64.wrap (8*(↑x.length:Int)),7)).bind fun x_1=>bif decide ((x++[(128:UInt8)]++List.map (fun(b:Int)=>UInt8.ofNat b.toNat) (List.replicate (i64.wrap ((i64.wrap (64-(i64.wrap ((↑x.length:Int)+9)).tmod 64)).tmod 64+
 1)).toNat 0)).length+x_1.length<=4611686018427387904) then(iter i_Sha_L15 FUEL (x++[(128:UInt8)]++List.map (fun(b:Int)=>UInt8.ofNat b.toNat) (List.replicate (i64.wrap ((i64.wrap (64-(i64.wrap ((↑x.length:Int)+9)).tmod 64)).tmod 64+1)).toNat 0)++x_1,[1779033703,3144134277,1013904242,2773480762,1359893119,2600822924,528734635,1541459225],
 0)).bind fun x=>(iter i_Sha_L25 FUEL ([],x,0)).bind fun x=>some x else none else none else none else none
abbrev k79:Cuts:=ctab [(15,⟨s79_15,iter i_Sha_L15 FUEL⟩),(25,⟨s79_25,iter i_Sha_L25 FUEL⟩)]
theorem c79:FnOk Tryd.prog 79 ⟨s79,i_Sha⟩:=fn_of2 mix_ok rfl tyl_ok (fl:=q79) ⟨c130,c131,trivial⟩ Tryd.func79 rfl rfl (C:=k79) (pts:=[(⟨s79_15,iter i_Sha_L15 FUEL⟩,.loop (loopOf Tryd.f79 15)),(⟨s79_25,iter i_Sha_L25 FUEL⟩,.loop (loopOf Tryd.f79 25))]) (by kernel_rfl) ⟨l79_15,l79_25,trivial⟩ (fun _=>by kernel_rfl)
def s106:Sig:=⟨[.ro t43],[(.bool,true)],false⟩
abbrev q106:List (FuncId×V.Fn):=[(118,⟨s118,i_within⟩)]
def i_AnswerOk (x:Int×Int×Int×List UInt8×Int×Int):Option (Bool):=(i_within (x.1,0,5)).bind fun x_1=>(bif x_1 then(i_within (x.2.1,0,6)).bind fun x=>some x else some false).bind fun x_2=>(bif x_2 then(i_within (x.2.2.1,0,4)).bind fun x=>some x else some false).bind fun x_3=>(bif x_3 then(bif !decide ((↑(List.length x.2.2.2.1):Int)=0) then some
 (decide ((↑(List.length x.2.2.2.1):Int)=32)) else some true).bind fun x=>some x else some false).bind fun x_4=>(bif x_4 then(i_within (x.2.2.2.2.1,0,250)).bind fun x=>some x else some false).bind fun x_5=>(bif x_5 then(i_within (x.2.2.2.2.2,0,100000)).bind fun x=>some x else some false).bind fun x=>some x
theorem c106:FnOk Tryd.prog 106 ⟨s106,i_AnswerOk⟩:=fn_of mix_ok rfl tyl_ok (fl:=q106) ⟨c118,trivial⟩ Tryd.func106 rfl rfl cuts0 (fun _=>by kernel_rfl)
def s73:Sig:=⟨[.ro (.int .i64)],[(.str,true)],false⟩
abbrev q73:List (FuncId×V.Fn):=[(118,⟨s118,i_within⟩)]
def s73_11:CutSig:=⟨25,[0,3],[.ro (.int .i64),.own t63],[(.ex 0,[0,3],[((.int .i64),true),(t63,true)])]⟩
def i_Var_L11 (go:Int×List Int->Option (Int×List Int)) (x:Int×List Int):Option (Int×List Int):=bif decide (127<x.1) then bif decide (List.length x.2+(1:Nat)<=4294967296) then go (Int.fdiv x.1 (2^min (Int.toNat 7) i64.bits),x.2++[u8.wrap (i64.wrap (↑(BitVec.ofInt i64.bits (i64.wrap (↑(BitVec.ofInt i64.bits
 x.1&&&BitVec.ofInt i64.bits 127).toNat:Int))|||BitVec.ofInt i64.bits 128).toNat:Int))]) else none else some (x.1,x.2)
theorem l73_11:CutOk Tryd.prog ⟨s73_11,iter i_Var_L11 FUEL⟩ (.loop (loopOf Tryd.f73 11)):=loop_of mix_ok rfl tyl_ok (fl:=q73) ⟨c118,trivial⟩ (C:=C0) rfl (pts:=[]) (by kernel_rfl) trivial (fun _ _=>by kernel_rfl)
def i_Var (x:Int):Option (List UInt8):=(i_within (x,0,562949953421311)).bind fun x_1=>bif !x_1 then some [] else(iter i_Var_L11 FUEL (x,List.replicate 0 0)).bind fun x=>bif decide (List.length x.2+(1:Nat)<=4294967296) then some (List.map (fun(b:Int)=>UInt8.ofNat b.toNat) (x.2++[u8.wrap x.1])) else none
abbrev k73:Cuts:=ctab [(11,⟨s73_11,iter i_Var_L11 FUEL⟩)]
theorem c73:FnOk Tryd.prog 73 ⟨s73,i_Var⟩:=fn_of2 mix_ok rfl tyl_ok (fl:=q73) ⟨c118,trivial⟩ Tryd.func73 rfl rfl (C:=k73) (pts:=[(⟨s73_11,iter i_Var_L11 FUEL⟩,.loop (loopOf Tryd.f73 11))]) (by kernel_rfl) ⟨l73_11,trivial⟩ (fun _=>by kernel_rfl)
def s132:Sig:=⟨[.ro .str],[((.int .i64),true),((.int .i64),true)],false⟩
abbrev q132:List (FuncId×V.Fn):=[(73,⟨s73,i_Var⟩)]
def s132_9:CutSig:=⟨40,[0,4,5],[.ro .str,.ro (.int .i64),.ro (.int .i64)],[(.ex 0,[],[]),(.ret,[2,3],[((.int .i64),true),((.int .i64),true)])]⟩
def i_ReadVar_L9 (go:List UInt8×Int×Int->Option (Unit⊕Int×Int)) (x:List UInt8×Int×Int):Option (Unit⊕Int×Int):=(bif decide (x.2.2<(↑(List.length x.1):Int)) then some (decide (x.2.2<7)) else some false).bind fun x_1=>bif x_1 then bif decide (0<=x.2.2) then x.1[Int.toNat x.2.2]?.bind fun x_2=>bif decide (0<=i64.wrap (7*x.2.2)) then bif
 decide (0<=x.2.2) then x.1[Int.toNat x.2.2]?.bind fun x_3=>bif decide ((↑x_3.toNat:Int)<128) then(i_Var (i64.wrap (↑(BitVec.ofInt i64.bits x.2.1|||BitVec.ofInt i64.bits (i64.wrap (i64.wrap (u8.wrap (↑(BitVec.ofInt u8.bits (↑x_2.toNat:Int)&&&BitVec.ofInt u8.bits 127).toNat:Int))*2^min (i64.wrap (7*
 x.2.2)).toNat i64.bits))).toNat:Int))).bind fun x_4=>bif decide (0<=i64.wrap (x.2.2+1))&&decide (i64.wrap (x.2.2+1)<=(↑(List.length x.1):Int)) then bif !decide (x_4=List.take (i64.wrap (x.2.2+1)).toNat x.1) then some (Sum.inr (0,0)) else some (Sum.inr (i64.wrap (↑(BitVec.ofInt i64.bits x.2.1|||BitVec.ofInt i64.bits
 (i64.wrap (i64.wrap (u8.wrap (↑(BitVec.ofInt u8.bits (↑x_2.toNat:Int)&&&BitVec.ofInt u8.bits 127).toNat:Int))*2^min (i64.wrap (7*x.2.2)).toNat i64.bits))).toNat:Int),i64.wrap (x.2.2+1))) else none else go (x.1,i64.wrap (↑(BitVec.ofInt i64.bits x.2.1|||BitVec.ofInt i64.bits
 (i64.wrap (i64.wrap (u8.wrap (↑(BitVec.ofInt u8.bits (↑x_2.toNat:Int)&&&BitVec.ofInt u8.bits 127).toNat:Int))*2^min (i64.wrap (7*x.2.2)).toNat i64.bits))).toNat:Int),i64.wrap (x.2.2+1)) else none else none else none else some (Sum.inl ())
theorem l132_9:CutOk Tryd.prog ⟨s132_9,iter i_ReadVar_L9 FUEL⟩ (.loop (loopOf Tryd.f132 9)):=loop_of mix_ok rfl tyl_ok (fl:=q132) ⟨c73,trivial⟩ (C:=C0) rfl (pts:=[]) (by kernel_rfl) trivial (fun _ _=>by kernel_rfl)
def i_ReadVar (x:List UInt8):Option D11:=(iter i_ReadVar_L9 FUEL (x,0,0)).bind fun x=>sumK x (fun _=>some (0,0)) fun z=>some (z.1,z.2)
abbrev k132:Cuts:=ctab [(9,⟨s132_9,iter i_ReadVar_L9 FUEL⟩)]
theorem c132:FnOk Tryd.prog 132 ⟨s132,i_ReadVar⟩:=fn_of2 mix_ok rfl tyl_ok (fl:=q132) ⟨c73,trivial⟩ Tryd.func132 rfl rfl (C:=k132) (pts:=[(⟨s132_9,iter i_ReadVar_L9 FUEL⟩,.loop (loopOf Tryd.f132 9))]) (by kernel_rfl) ⟨l132_9,trivial⟩ (fun _=>by kernel_rfl)
def s80:Sig:=⟨[.pio t123],[((.int .i64),true)],false⟩
abbrev q80:List (FuncId×V.Fn):=[(132,⟨s132,i_ReadVar⟩)]
def i_scan_num (x:List UInt8×Bool):Option (Int×List UInt8×Bool):=(i_ReadVar x.1).bind fun x_1=>(bif !x.2 then some (decide (x_1.2=0)) else some true).bind fun x_2=>bif x_2 then some (0,x.1,true) else bif decide (0<=x_1.2)&&decide (x_1.2<=(↑(List.length x.1):Int)) then some (x_1.1,List.drop (Int.toNat x_1.2) x.1,x.2) else none
theorem c80:FnOk Tryd.prog 80 ⟨s80,i_scan_num⟩:=fn_of mix_ok rfl tyl_ok (fl:=q80) ⟨c132,trivial⟩ Tryd.func80 rfl rfl cuts0 (fun _=>by kernel_rfl)
def s76:Sig:=⟨[.pio t123,.ro (.int .i64)],[((.int .i64),true)],false⟩
abbrev q76:List (FuncId×V.Fn):=[(80,⟨s80,i_scan_num⟩)]
def i_scan_many (x:D7×Int):Option (Int×List UInt8×Bool):=(i_scan_num x.1).bind fun x_1=>bif decide (x.2<x_1.1) then some (0,x_1.2.1,true) else bif x_1.2.2 then some (0,x_1.2) else some (x_1.1,x_1.2)
theorem c76:FnOk Tryd.prog 76 ⟨s76,i_scan_many⟩:=fn_of mix_ok rfl tyl_ok (fl:=q76) ⟨c80,trivial⟩ Tryd.func76 rfl rfl cuts0 (fun _=>by kernel_rfl)
def s129:Sig:=⟨[.pio t123,.ro (.int .i64)],[(.str,true)],false⟩
abbrev q129:List (FuncId×V.Fn):=[(118,⟨s118,i_within⟩)]
def i_scan_cut (x:D7×Int):Option (List UInt8×List UInt8×Bool):=(bif !x.1.2 then(i_within (x.2,0,(↑(List.length x.1.1):Int))).bind fun x=>some !x else some true).bind fun x_1=>bif x_1 then some ([],x.1.1,true) else bif decide (0<=x.2)&&decide (x.2<=(↑(List.length x.1.1):Int)) then bif decide (0<=x.2)&&decide (x.2<=(↑(List.length
 x.1.1):Int)) then some (List.take (Int.toNat x.2) x.1.1,List.drop (Int.toNat x.2) x.1.1,x.1.2) else none else none
theorem c129:FnOk Tryd.prog 129 ⟨s129,i_scan_cut⟩:=fn_of mix_ok rfl tyl_ok (fl:=q129) ⟨c118,trivial⟩ Tryd.func129 rfl rfl cuts0 (fun _=>by kernel_rfl)
def s171:Sig:=⟨[.ro (.sl 9 .str),.ro (.int .i64)],[(.str,true)],false⟩
abbrev q171:List (FuncId×V.Fn):=[]
def i_bytesIn (x:List (List UInt8)×Int):Option (List UInt8):=bif decide (x.2<256) then some (List.map (fun(b:Int)=>UInt8.ofNat b.toNat) [u8.wrap x.2]) else bif decide (0<=i64.wrap (x.2-256)) then x.1[(i64.wrap (x.2-256)).toNat]?.bind fun x=>some x else none
theorem c171:FnOk Tryd.prog 171 ⟨s171,i_bytesIn⟩:=fn_of mix_ok rfl tyl_ok (fl:=q171) trivial Tryd.func171 rfl rfl cuts0 (fun _=>by kernel_rfl)
def s177:Sig:=⟨[.ro (.sl 9 .str),.ro .str],[((.int .i64),true)],false⟩
abbrev q177:List (FuncId×V.Fn):=[]
def s177_7:CutSig:=⟨19,[0,1,7,8],[.ro (.sl 9 .str),.ro .str,.ro (.int .i64),.ro (.int .i64)],[(.ex 0,[],[]),(.ret,[4],[((.int .i64),true)])]⟩
def g_slices_Index_string_string_L7 (go:List (List UInt8)×List UInt8×Int×Int->Option (Unit⊕Int)) (x:List (List UInt8)×List UInt8×Int×Int):Option (Unit⊕Int):=bif decide (x.2.2.2<x.2.2.1) then bif decide (0<=x.2.2.2) then x.1[Int.toNat x.2.2.2]?.bind fun x_1=>bif decide (x.2.1=x_1) then some (Sum.inr x.2.2.2) else go (x.1,x.2.1,x.2.2.1,
 i64.wrap (x.2.2.2+1)) else none else some (Sum.inl ())
theorem l177_7:CutOk Tryd.prog ⟨s177_7,iter g_slices_Index_string_string_L7 FUEL⟩ (.loop (loopOf Tryd.f177 7)):=loop_of mix_ok rfl tyl_ok (fl:=q177) trivial (C:=C0) rfl (pts:=[]) (by kernel_rfl) trivial (fun _ _=>by kernel_rfl)
def g_slices_Index_string_string (x:List (List UInt8)×List UInt8):Option (Int):=(iter g_slices_Index_string_string_L7 FUEL (x.1,x.2,(↑(List.length x.1):Int),0)).bind fun x=>sumK x (fun _=>some (-1)) fun z=>some z
abbrev k177:Cuts:=ctab [(7,⟨s177_7,iter g_slices_Index_string_string_L7 FUEL⟩)]
theorem c177:FnOk Tryd.prog 177 ⟨s177,g_slices_Index_string_string⟩:=fn_of2 mix_ok rfl tyl_ok (fl:=q177) trivial Tryd.func177 rfl rfl (C:=k177) (pts:=[(⟨s177_7,iter g_slices_Index_string_string_L7 FUEL⟩,.loop (loopOf Tryd.f177 7))]) (by kernel_rfl) ⟨l177_7,trivial⟩ (fun _=>by kernel_rfl)
def s172:Sig:=⟨[.ro (.sl 9 .str),.ro .str],[(.bool,true)],false⟩
abbrev q172:List (FuncId×V.Fn):=[(177,⟨s177,g_slices_Index_string_string⟩)]
def g_slices_Contains_string_string (x:List (List UInt8)×List UInt8):Option (Bool):=(g_slices_Index_string_string (x.1,x.2)).bind fun x=>some (decide (0<=x))
theorem c172:FnOk Tryd.prog 172 ⟨s172,g_slices_Contains_string_string⟩:=fn_of mix_ok rfl tyl_ok (fl:=q172) ⟨c177,trivial⟩ Tryd.func172 rfl rfl cuts0 (fun _=>by kernel_rfl)
def s148:Sig:=⟨[.ro (.sl 179 t179)],[((.sl 9 .str),true),(.bool,true)],false⟩
abbrev q148:List (FuncId×V.Fn):=[(118,⟨s118,i_within⟩),(171,⟨s171,i_bytesIn⟩),(172,⟨s172,g_slices_Contains_string_string⟩)]
def s148_13:CutSig:=⟨59,[4,13,14,15],[.own (.sl 9 .str),.ro (.sl 179 t179),.ro (.int .i64),.ro (.int .i64)],[(.ex 0,[4],[((.sl 9 .str),true)]),(.ret,[2,3],[((.sl 9 .str),true),(.bool,true)])]⟩
def i_tokens_L13 (go:List (List UInt8)×List D11×Int×Int->Option D8) (x:List (List UInt8)×List D11×Int×Int):Option D8:=bif decide (x.2.2.2<x.2.2.1) then bif decide (0<=x.2.2.2) then x.2.1[Int.toNat x.2.2.2]?.bind fun x_1=>(i_within (x_1.1,0,
 i64.wrap (255+x.2.2.2))).bind fun x_2=>(bif !!x_2 then(i_within (x_1.2,0,i64.wrap (255+x.2.2.2))).bind fun x=>some !x else some true).bind fun x_3=>bif x_3 then some (Sum.inr (x.1,false)) else(i_bytesIn (x.1,x_1.1)).bind fun x_4=>(i_bytesIn (x.1,x_1.2)).bind fun x_5=>bif decide (x_4.length+x_5.length<=4611686018427387904) then(bif !decide (24<(↑(x_4++
 x_5).length:Int)) then(g_slices_Contains_string_string (x.1,x_4++x_5)).bind fun x=>some x else some true).bind fun x_6=>bif x_6 then some (Sum.inr (x.1,false)) else bif decide (List.length x.1+(1:Nat)<=4294967296) then go (x.1++[x_4++x_5],x.2.1,x.2.2.1,i64.wrap (x.2.2.2+1)) else none else none else none else some (Sum.inl x.1)
theorem l148_13:CutOk Tryd.prog ⟨s148_13,iter i_tokens_L13 FUEL⟩ (.loop (loopOf Tryd.f148 13)):=loop_of mix_ok rfl tyl_ok (fl:=q148) ⟨c118,c171,c172,trivial⟩ (C:=C0) rfl (pts:=[]) (by kernel_rfl) trivial (fun _ _=>by kernel_rfl)
def i_tokens (x:List D11):Option (List (List UInt8)×Bool):=bif decide (60<(↑x.length:Int)) then some (List.replicate 0 [],false) else(iter i_tokens_L13 FUEL (List.replicate 0 [],x,(↑x.length:Int),0)).bind fun x=>sumK x (fun y=>some (y,true)) fun z=>some (z.1,z.2)
abbrev k148:Cuts:=ctab [(13,⟨s148_13,iter i_tokens_L13 FUEL⟩)]
theorem c148:FnOk Tryd.prog 148 ⟨s148,i_tokens⟩:=fn_of2 mix_ok rfl tyl_ok (fl:=q148) ⟨c118,c171,c172,trivial⟩ Tryd.func148 rfl rfl (C:=k148) (pts:=[(⟨s148_13,iter i_tokens_L13 FUEL⟩,.loop (loopOf Tryd.f148 13))]) (by kernel_rfl) ⟨l148_13,trivial⟩ (fun _=>by kernel_rfl)
def s102:Sig:=⟨[.ro t131],[(.bool,true)],false⟩
abbrev q102:List (FuncId×V.Fn):=[(148,⟨s148,i_tokens⟩)]
def i_VocabOk (x:List D11×Unit):Option (Bool):=(i_tokens x.1).bind fun x=>some x.2
theorem c102:FnOk Tryd.prog 102 ⟨s102,i_VocabOk⟩:=fn_of mix_ok rfl tyl_ok (fl:=q102) ⟨c148,trivial⟩ Tryd.func102 rfl rfl cuts0 (fun _=>by kernel_rfl)
def s149:Sig:=⟨[.ro t131],[(.str,true)],false⟩
abbrev q149:List (FuncId×V.Fn):=[(73,⟨s73,i_Var⟩),(102,⟨s102,i_VocabOk⟩)]
def s149_13:CutSig:=⟨32,[3,15,16,17],[.ro .str,.ro (.sl 179 t179),.ro (.int .i64),.ro (.int .i64)],[(.ex 0,[3],[(.str,true)])]⟩
def i_Canon_L13 (go:List UInt8×List D11×Int×Int->Option (List UInt8)) (x:List UInt8×List D11×Int×Int):Option (List UInt8):=bif decide (x.2.2.2<x.2.2.1) then bif decide (0<=x.2.2.2) then x.2.1[Int.toNat x.2.2.2]?.bind fun x_1=>(i_Var x_1.1).bind fun x_2=>bif decide (List.length x.1+x_2.length<=4611686018427387904) then(i_Var x_1.2).bind
 fun x_3=>bif decide ((x.1++x_2).length+x_3.length<=4611686018427387904) then go (x.1++x_2++x_3,x.2.1,x.2.2.1,i64.wrap (x.2.2.2+1)) else none else none else none else some x.1
theorem l149_13:CutOk Tryd.prog ⟨s149_13,iter i_Canon_L13 FUEL⟩ (.loop (loopOf Tryd.f149 13)):=loop_of mix_ok rfl tyl_ok (fl:=q149) ⟨c73,c102,trivial⟩ (C:=C0) rfl (pts:=[]) (by kernel_rfl) trivial (fun _ _=>by kernel_rfl)
def i_Canon (x:List D11×Unit):Option (List UInt8):=(i_VocabOk x).bind fun x_1=>bif !x_1 then some [] else(i_Var (↑(List.length x.1):Int)).bind fun x_2=>bif decide ((3:Nat)+x_2.length<=4611686018427387904) then(iter i_Canon_L13 FUEL ([(98:UInt8),(112:UInt8),(101:UInt8)]++x_2,x.1,(↑(List.length x.1):Int),0)).bind fun x=>some x else none
abbrev k149:Cuts:=ctab [(13,⟨s149_13,iter i_Canon_L13 FUEL⟩)]
theorem c149:FnOk Tryd.prog 149 ⟨s149,i_Canon⟩:=fn_of2 mix_ok rfl tyl_ok (fl:=q149) ⟨c73,c102,trivial⟩ Tryd.func149 rfl rfl (C:=k149) (pts:=[(⟨s149_13,iter i_Canon_L13 FUEL⟩,.loop (loopOf Tryd.f149 13))]) (by kernel_rfl) ⟨l149_13,trivial⟩ (fun _=>by kernel_rfl)
def s126:Sig:=⟨[.ro .str],[(t131,true),(.bool,true)],false⟩
abbrev q126:List (FuncId×V.Fn):=[(76,⟨s76,i_scan_many⟩),(80,⟨s80,i_scan_num⟩),(129,⟨s129,i_scan_cut⟩),(149,⟨s149,i_Canon⟩)]
def s126_15:CutSig:=⟨48,[4,6,16,17],[.pio t123,.pio t131,.ro (.int .i64),.ro (.int .i64)],[(.ex 0,[],[])]⟩
def i_ReadCanon_L15 (go:D7×D4×Int×Int->Option (D7×List D11×Unit)) (x:D7×D4×Int×Int):Option (D7×List D11×Unit):=bif decide (x.2.2.2<x.2.2.1) then(i_scan_num x.1).bind fun x_1=>(i_scan_num x_1.2).bind fun x_2=>bif
 decide (List.length x.2.1.1+(1:Nat)<=4294967296) then go (x_2.2,(x.2.1.1++[(x_1.1,x_2.1)],x.2.1.2),x.2.2.1,i64.wrap (x.2.2.2+1)) else none else some (x.1,x.2.1)
theorem l126_15:CutOk Tryd.prog ⟨s126_15,iter i_ReadCanon_L15 FUEL⟩ (.loop (loopOf Tryd.f126 15)):=loop_of mix_ok rfl tyl_ok (fl:=q126) ⟨c76,c80,c129,c149,trivial⟩ (C:=C0) rfl (pts:=[]) (by kernel_rfl) trivial (fun _ _=>by kernel_rfl)
def i_ReadCanon (x:List UInt8):Option (D4×Bool):=(i_scan_cut ((x,false),3)).bind fun x_1=>(i_scan_many (x_1.2,60)).bind fun x_2=>(iter i_ReadCanon_L15 FUEL (x_2.2,([],()),x_2.1,0)).bind fun x_3=>(bif !x_3.1.2 then some (decide (x=[])) else some true).bind fun x_4=>(bif !x_4 then(i_Canon x_3.2).bind fun x_5=>some !decide (x_5=x)
 else some true).bind fun x=>bif x then some (([],()),false) else some (x_3.2,true)
abbrev k126:Cuts:=ctab [(15,⟨s126_15,iter i_ReadCanon_L15 FUEL⟩)]
theorem c126:FnOk Tryd.prog 126 ⟨s126,i_ReadCanon⟩:=fn_of2 mix_ok rfl tyl_ok (fl:=q126) ⟨c76,c80,c129,c149,trivial⟩ Tryd.func126 rfl rfl (C:=k126) (pts:=[(⟨s126_15,iter i_ReadCanon_L15 FUEL⟩,.loop (loopOf Tryd.f126 15))]) (by kernel_rfl) ⟨l126_15,trivial⟩ (fun _=>by kernel_rfl)
def s157:Sig:=⟨[.ro t116,.pin .str],[(.bool,true)],false⟩
abbrev q157:List (FuncId×V.Fn):=[]
def i_Reg_has_1 (x:D3×List UInt8):Option (Bool):=some (decide (x.1.1=x.2))
theorem c157:FnOk Tryd.prog 157 ⟨s157,i_Reg_has_1⟩:=fn_of mix_ok rfl tyl_ok (fl:=q157) trivial Tryd.func157 rfl rfl cuts0 (fun _=>by kernel_rfl)
def s156:Sig:=⟨[.ro (.sl 116 t116),.clo 157 0 [(true,.str)]],[((.int .i64),true)],false⟩
abbrev q156:List (FuncId×V.Fn):=[(157,⟨s157,i_Reg_has_1⟩)]
def s156_7:CutSig:=⟨19,[0,1,7,8],[.ro (.sl 116 t116),.clo 157 0 [(true,.str)],.ro (.int .i64),.ro (.int .i64)],[(.ex 0,[],[]),(.ret,[4],[((.int .i64),true)])]⟩
def g_slices_IndexFunc_impl_Version_impl_Version_L7 (go:List D3×(List UInt8×Unit)×Int×Int->Option (Unit⊕Int)) (x:List D3×(List UInt8×Unit)×Int×Int):Option (Unit⊕Int):=bif decide (x.2.2.2<x.2.2.1) then bif decide (0<=x.2.2.2) then x.1[Int.toNat x.2.2.2]?.bind fun x_1=>(i_Reg_has_1 (x_1,
 x.2.1.1)).bind fun x_2=>bif x_2 then some (Sum.inr x.2.2.2) else go (x.1,(x.2.1.1,()),x.2.2.1,i64.wrap (x.2.2.2+1)) else none else some (Sum.inl ())
theorem l156_7:CutOk Tryd.prog ⟨s156_7,iter g_slices_IndexFunc_impl_Version_impl_Version_L7 FUEL⟩ (.loop (loopOf Tryd.f156 7)):=loop_of mix_ok rfl tyl_ok (fl:=q156) ⟨c157,trivial⟩ (C:=C0) rfl (pts:=[]) (by kernel_rfl) trivial (fun _ _=>by kernel_rfl)
def g_slices_IndexFunc_impl_Version_impl_Version (x:List D3×List UInt8×Unit):Option (Int):=(iter g_slices_IndexFunc_impl_Version_impl_Version_L7 FUEL (x.1,(x.2.1,()),(↑(List.length x.1):Int),0)).bind fun x=>sumK x (fun _=>some (-1)) fun z=>some z
abbrev k156:Cuts:=ctab [(7,⟨s156_7,iter g_slices_IndexFunc_impl_Version_impl_Version_L7 FUEL⟩)]
theorem c156:FnOk Tryd.prog 156 ⟨s156,g_slices_IndexFunc_impl_Version_impl_Version⟩:=fn_of2 mix_ok rfl tyl_ok (fl:=q156) ⟨c157,trivial⟩ Tryd.func156 rfl rfl (C:=k156) (pts:=[(⟨s156_7,iter g_slices_IndexFunc_impl_Version_impl_Version_L7 FUEL⟩,.loop (loopOf Tryd.f156 7))]) (by kernel_rfl) ⟨l156_7,trivial⟩ (fun _=>by kernel_rfl)
def s127:Sig:=⟨[.ro t68,.ro .str],[((.int .i64),true)],false⟩
abbrev q127:List (FuncId×V.Fn):=[(156,⟨s156,g_slices_IndexFunc_impl_Version_impl_Version⟩)]
def i_Reg_has (x:D1×List UInt8):Option (Int):=(g_slices_IndexFunc_impl_Version_impl_Version (x.1.1,x.2,())).bind fun x=>some (i64.wrap (1+x))
theorem c127:FnOk Tryd.prog 127 ⟨s127,i_Reg_has⟩:=fn_of mix_ok rfl tyl_ok (fl:=q127) ⟨c156,trivial⟩ Tryd.func127 rfl rfl cuts0 (fun _=>by kernel_rfl)
def s128:Sig:=⟨[.ro t68,.ro (.int .i64)],[(.bool,true)],false⟩
abbrev q128:List (FuncId×V.Fn):=[]
def s128_9:CutSig:=⟨23,[1,5,9,10,11],[.ro (.int .i64),.ro (.int .i64),.ro t54,.ro (.int .i64),.ro (.int .i64)],[(.ex 0,[5],[((.int .i64),true)])]⟩
def i_Reg_isActive_L9 (go:Int×Int×List Int×Int×Int->Option (Int)) (x:Int×Int×List Int×Int×Int):Option (Int):=bif decide (x.2.2.2.2<x.2.2.2.1) then bif decide (0<=x.2.2.2.2) then x.2.2.1[Int.toNat x.2.2.2.2]?.bind fun x_1=>bif decide (x_1=x.1) then go (x.1,i64.wrap (x.2.1+1),x.2.2.1,x.2.2.2.1,i64.wrap (x.2.2.2.2+1)) else go
 (x.1,x.2.1,x.2.2.1,x.2.2.2.1,i64.wrap (x.2.2.2.2+1)) else none else some x.2.1
theorem l128_9:CutOk Tryd.prog ⟨s128_9,iter i_Reg_isActive_L9 FUEL⟩ (.loop (loopOf Tryd.f128 9)):=loop_of mix_ok rfl tyl_ok (fl:=q128) trivial (C:=C0) rfl (pts:=[]) (by kernel_rfl) trivial (fun _ _=>by kernel_rfl)
def i_Reg_isActive (x:D1×Int):Option (Bool):=(iter i_Reg_isActive_L9 FUEL (x.2,0,x.1.2.1,(↑(List.length x.1.2.1):Int),0)).bind fun x=>some (decide (x=1))
abbrev k128:Cuts:=ctab [(9,⟨s128_9,iter i_Reg_isActive_L9 FUEL⟩)]
theorem c128:FnOk Tryd.prog 128 ⟨s128,i_Reg_isActive⟩:=fn_of2 mix_ok rfl tyl_ok (fl:=q128) trivial Tryd.func128 rfl rfl (C:=k128) (pts:=[(⟨s128_9,iter i_Reg_isActive_L9 FUEL⟩,.loop (loopOf Tryd.f128 9))]) (by kernel_rfl) ⟨l128_9,trivial⟩ (fun _=>by kernel_rfl)
def s72:Sig:=⟨[.ro t68],[(.bool,true)],false⟩
abbrev q72:List (FuncId×V.Fn):=[(79,⟨s79,i_Sha⟩),(106,⟨s106,i_AnswerOk⟩),(118,⟨s118,i_within⟩),(126,⟨s126,i_ReadCanon⟩),(127,⟨s127,i_Reg_has⟩),(128,⟨s128,i_Reg_isActive⟩)]
def s72_11:CutSig:=⟨148,[1,28,29,30],[.pin t68,.ro (.sl 116 t116),.ro (.int .i64),.ro (.int .i64)],[(.ex 0,[],[]),(.ret,[2],[(.bool,true)])]⟩
def i_RegOk_L11 (go:D1×List D3×Int×Int->Option (Unit⊕Bool)) (x:D1×List D3×Int×Int):
 Option (Unit⊕Bool):=bif decide (x.2.2.2<x.2.2.1) then bif decide (0<=x.2.2.2) then x.2.1[Int.toNat x.2.2.2]?.bind fun x_1=>(i_ReadCanon x_1.1).bind fun x_2=>(bif !!x_2.2 then(i_Sha x_1.1).bind fun x=>some !decide (x_1.2.1=x) else some true).bind fun x_3=>(bif !x_3 then(i_within (x_1.2.2,1,4)).bind fun x=>some !x else some true).bind fun x_4=>(bif !x_4 then(i_Reg_has
 (x.1,x_1.1)).bind fun x_5=>some !decide (x_5=i64.wrap (x.2.2.2+1)) else some true).bind fun x_5=>(bif !x_5 then(bif decide (x_1.2.2=2) then(i_Reg_isActive (x.1,i64.wrap (x.2.2.2+1))).bind fun x=>some !x else some false).bind fun x=>some x else some true).bind fun x_6=>bif x_6 then some (Sum.inr false) else go (x.1,x.2.1,x.2.2.1,i64.wrap (x.2.2.2+
 1)) else none else some (Sum.inl ())
theorem l72_11:CutOk Tryd.prog ⟨s72_11,iter i_RegOk_L11 FUEL⟩ (.loop (loopOf Tryd.f72 11)):=loop_of mix_ok rfl tyl_ok (fl:=q72) ⟨c79,c106,c118,c126,c127,c128,trivial⟩ (C:=C0) rfl (pts:=[]) (by kernel_rfl) trivial (fun _ _=>by kernel_rfl)
def s72_25:CutSig:=⟨148,[1,80,81,82],[.pin t68,.ro t54,.ro (.int .i64),.ro (.int .i64)],[(.ex 2,[],[]),(.ret,[2],[(.bool,true)])]⟩
def i_RegOk_L25 (go:D1×List Int×Int×Int->Option (Unit⊕Bool)) (x:D1×List Int×Int×Int):Option (Unit⊕Bool):=bif decide (x.2.2.2<x.2.2.1) then
 bif decide (0<=x.2.2.2) then x.2.1[Int.toNat x.2.2.2]?.bind fun x_1=>(i_within (x_1,0,(↑(List.length x.1.1):Int))).bind fun x_2=>(bif !!x_2 then(bif decide (0<x_1) then bif decide (0<=i64.wrap (x_1-1)) then x.1.1[(i64.wrap (x_1-1)).toNat]?.bind fun x=>some !decide (x.2.2=2) else none else some false).bind fun x=>some x else some true).bind fun x_3=>bif
 x_3 then some (Sum.inr false) else go (x.1,x.2.1,x.2.2.1,i64.wrap (x.2.2.2+1)) else none else some (Sum.inl ())
theorem l72_25:CutOk Tryd.prog ⟨s72_25,iter i_RegOk_L25 FUEL⟩ (.loop (loopOf Tryd.f72 25)):=loop_of mix_ok rfl tyl_ok (fl:=q72) ⟨c79,c106,c118,c126,c127,c128,trivial⟩ (C:=C0) rfl (pts:=[]) (by kernel_rfl) trivial (fun _ _=>by kernel_rfl)
def s72_37:CutSig:=⟨148,[1,108,109,110],[.pin t68,.ro (.sl 119 t119),.ro (.int .i64),.ro (.int .i64)],[(.ex 4,[],[]),(.ret,[2],[(.bool,true)])]⟩
def i_RegOk_L37 (go:D1×List D2×Int×Int->Option (Unit⊕Bool)) (x:D1×List (Int×Int×Int×Int×Int
 ×List UInt8×Int×Int)×Int×Int):Option (Unit⊕Bool):=bif decide (x.2.2.2<x.2.2.1) then bif decide (0<=x.2.2.2) then x.2.1[Int.toNat x.2.2.2]?.bind fun x_1=>(i_within (x_1.1,1,6)).bind fun x_2=>(bif !!x_2 then(bif decide (0<x.2.2.2) then bif decide (0<=i64.wrap (x.2.2.2-1)) then x.1.2.2[(i64.wrap (x.2.2.2-1)).toNat]?.bind fun x=>some (decide (x_1.1
 ≤ x.1)) else none else some false).bind fun x=>some x else some true).bind fun x_3=>(bif !x_3 then(i_within (x_1.2.1,1,1000000)).bind fun x=>some !x else some true).bind fun x_4=>(bif !x_4 then(i_AnswerOk x_1.2.2).bind fun x=>some !x else some true).bind fun x_5=>bif x_5 then some (Sum.inr false) else go (x.1,x.2.1,x.2.2.1,i64.wrap (x.2.2.2+1)) else none else some (Sum.inl ())
theorem l72_37:CutOk Tryd.prog ⟨s72_37,iter i_RegOk_L37 FUEL⟩ (.loop (loopOf Tryd.f72 37)):=loop_of mix_ok rfl tyl_ok (fl:=q72) ⟨c79,c106,c118,c126,c127,c128,trivial⟩ (C:=C0) rfl (pts:=[]) (by kernel_rfl) trivial (fun _ _=>by kernel_rfl)
def i_RegOk (x:List D3×List Int×List D2):Option (Bool):=(bif !decide (6<(↑(List.length x.1):Int)) then some !decide ((↑(List.length x.2.1):Int)=3) else some true).bind fun x_1=>(bif !x_1 then some (decide (6<(↑(List.length x.2.2):Int))) else some true).bind fun x_2=>bif x_2
 then some false else(iter i_RegOk_L11 FUEL (x,x.1,(↑(List.length x.1):Int),0)).bind fun x_3=>sumK x_3 (fun _=>(iter i_RegOk_L25 FUEL (x,x.2.1,(↑(List.length x.2.1):Int),0)).bind fun x_4=>sumK x_4 (fun _=>(iter i_RegOk_L37 FUEL (x,x.2.2,(↑(List.length x.2.2):Int),0)).bind fun x=>sumK x (fun _=>some true) fun z=>some z) fun z=>some z) fun z=>some z
abbrev k72:Cuts:=ctab [(11,⟨s72_11,iter i_RegOk_L11 FUEL⟩),(25,⟨s72_25,iter i_RegOk_L25 FUEL⟩),(37,⟨s72_37,iter i_RegOk_L37 FUEL⟩)]
theorem c72:FnOk Tryd.prog 72 ⟨s72,i_RegOk⟩:=fn_of2 mix_ok rfl tyl_ok (fl:=q72) ⟨c79,c106,c118,c126,c127,c128,trivial⟩ Tryd.func72 rfl rfl (C:=k72) (pts:=[(⟨s72_11,iter i_RegOk_L11 FUEL⟩,.loop (loopOf Tryd.f72 11)),(⟨s72_25,iter i_RegOk_L25 FUEL⟩,.loop (loopOf Tryd.f72 25)),(⟨s72_37,iter i_RegOk_L37 FUEL⟩,.loop (loopOf Tryd.f72 37))]) (by kernel_rfl) ⟨l72_11,l72_25,l72_37,trivial⟩ (fun _=>by kernel_rfl)
def s74:Sig:=⟨[.ro .str],[(.str,true)],false⟩
abbrev q74:List (FuncId×V.Fn):=[(73,⟨s73,i_Var⟩)]
def i_sized (x:List UInt8):Option (List UInt8):=(i_Var (↑x.length:Int)).bind fun x_1=>bif decide (x_1.length+x.length<=4611686018427387904) then some (x_1++x) else none
theorem c74:FnOk Tryd.prog 74 ⟨s74,i_sized⟩:=fn_of mix_ok rfl tyl_ok (fl:=q74) ⟨c73,trivial⟩ Tryd.func74 rfl rfl cuts0 (fun _=>by kernel_rfl)
def s75:Sig:=⟨[.ro t43],[(.str,true)],false⟩
abbrev q75:List (FuncId×V.Fn):=[(73,⟨s73,i_Var⟩),(106,⟨s106,i_AnswerOk⟩)]
def i_ShowAnswer (x:Int×Int×Int×List UInt8×Int×Int):Option (List UInt8):=(i_AnswerOk x).bind fun x_1=>bif !x_1 then some [] else(i_Var x.1).bind fun x_2=>(i_Var x.2.1).bind fun x_3=>bif decide (x_2.length+x_3.length<=4611686018427387904) then(i_Var x.2.2.1).bind fun x_4=>bif decide ((x_2++x_3).length+x_4.length<=4611686018427387904) then(i_Var
 x.2.2.2.2.1).bind fun x_5=>bif decide ((x_2++x_3++x_4).length+x_5.length<=4611686018427387904) then(i_Var x.2.2.2.2.2).bind fun x_6=>bif decide ((x_2++x_3++x_4++x_5).length+x_6.length<=4611686018427387904) then bif decide ((x_2++x_3++x_4++x_5++x_6).length+List.length x.2.2.2.1<=4611686018427387904) then some (x_2++x_3++x_4++x_5++x_6++x.2.2.2.1) else none
 else none else none else none else none
theorem c75:FnOk Tryd.prog 75 ⟨s75,i_ShowAnswer⟩:=fn_of mix_ok rfl tyl_ok (fl:=q75) ⟨c73,c106,trivial⟩ Tryd.func75 rfl rfl cuts0 (fun _=>by kernel_rfl)
def s25:Sig:=⟨[.ro t68],[(.str,true)],false⟩
abbrev q25:List (FuncId×V.Fn):=[(72,⟨s72,i_RegOk⟩),(73,⟨s73,i_Var⟩),(74,⟨s74,i_sized⟩),(75,⟨s75,i_ShowAnswer⟩)]
def s25_13:CutSig:=⟨77,[3,18,19,20],[.ro .str,.ro (.sl 116 t116),.ro (.int .i64),.ro (.int .i64)],[(.ex 0,[3],[(.str,true)])]⟩
def i_ShowReg_L13 (go:List UInt8×List D3×Int×Int->Option (List UInt8)) (x:List UInt8×List D3×Int×Int):Option (List UInt8):=bif decide (x.2.2.2<x.2.2.1) then bif decide (0<=x.2.2.2) then x.2.1[Int.toNat x.2.2.2]?.bind fun x_1=>bif decide (List.length x.1+(List.map (fun(b:Int)=>UInt8.ofNat
 b.toNat) [u8.wrap x_1.2.2]).length<=4611686018427387904) then(i_sized x_1.1).bind fun x_2=>bif decide ((x.1++List.map (fun(b:Int)=>UInt8.ofNat b.toNat) [u8.wrap x_1.2.2]).length+x_2.length<=4611686018427387904) then go (x.1++List.map (fun(b:Int)=>UInt8.ofNat b.toNat) [u8.wrap x_1.2.2]++x_2,x.2.1,x.2.2.1,i64.wrap (x.2.2.2+1)) else none
 else none else none else some x.1
theorem l25_13:CutOk Tryd.prog ⟨s25_13,iter i_ShowReg_L13 FUEL⟩ (.loop (loopOf Tryd.f25 13)):=loop_of mix_ok rfl tyl_ok (fl:=q25) ⟨c72,c73,c74,c75,trivial⟩ (C:=C0) rfl (pts:=[]) (by kernel_rfl) trivial (fun _ _=>by kernel_rfl)
def s25_23:CutSig:=⟨77,[3,37,38,39],[.ro .str,.ro t54,.ro (.int .i64),.ro (.int .i64)],[(.ex 2,[3],[(.str,true)])]⟩
def i_ShowReg_L23 (go:List UInt8×List Int×Int×Int->Option (List UInt8)) (x:List UInt8×List Int×Int×Int):Option (List UInt8):=bif decide (x.2.2.2<x.2.2.1) then bif decide (0<=x.2.2.2) then x.2.1[Int.toNat x.2.2.2]?.bind fun x_1=>(i_Var x_1).bind fun x_2=>bif decide (List.length x.1+x_2.length<=4611686018427387904) then go (x.1++x_2,x.2.1,x.2.2.1,
 i64.wrap (x.2.2.2+1)) else none else none else some x.1
theorem l25_23:CutOk Tryd.prog ⟨s25_23,iter i_ShowReg_L23 FUEL⟩ (.loop (loopOf Tryd.f25 23)):=loop_of mix_ok rfl tyl_ok (fl:=q25) ⟨c72,c73,c74,c75,trivial⟩ (C:=C0) rfl (pts:=[]) (by kernel_rfl) trivial (fun _ _=>by kernel_rfl)
def s25_35:CutSig:=⟨77,[3,55,56,57],[.ro .str,.ro (.sl 119 t119),.ro (.int .i64),.ro (.int .i64)],[(.ex 4,[3],[(.str,true)])]⟩
def i_ShowReg_L35 (go:List UInt8×List D2×Int×Int->Option (List UInt8)) (x:List UInt8×List D2×Int×Int):Option (List UInt8):=bif decide (x.2.2.2<x.2.2.1) then bif decide (0<=x.2.2.2) then x.2.1[Int.toNat x.2.2.2]?.bind fun x_1=>(i_Var x_1.1).bind fun x_2=>
 bif decide (List.length x.1+x_2.length<=4611686018427387904) then(i_Var x_1.2.1).bind fun x_3=>bif decide ((x.1++x_2).length+x_3.length<=4611686018427387904) then(i_ShowAnswer x_1.2.2).bind fun x_4=>(i_sized x_4).bind fun x_5=>bif decide ((x.1++x_2++x_3).length+x_5.length<=4611686018427387904) then go (x.1++x_2++x_3++x_5,x.2.1,x.2.2.1,i64.wrap (x.2.2.2+
 1)) else none else none else none else none else some x.1
theorem l25_35:CutOk Tryd.prog ⟨s25_35,iter i_ShowReg_L35 FUEL⟩ (.loop (loopOf Tryd.f25 35)):=loop_of mix_ok rfl tyl_ok (fl:=q25) ⟨c72,c73,c74,c75,trivial⟩ (C:=C0) rfl (pts:=[]) (by kernel_rfl) trivial (fun _ _=>by kernel_rfl)
def i_ShowReg (x:List D3×List Int×List D2):Option (List UInt8):=(i_RegOk x).bind fun x_1=>bif !x_1 then some [] else(i_Var (↑(List.length x.1):Int)).bind fun x_2=>(iter i_ShowReg_L13 FUEL (x_2,x.1,(↑(List.length x.1):Int),0)).bind fun x_3=>(iter i_ShowReg_L23 FUEL (x_3,x.2.1,
 (↑(List.length x.2.1):Int),0)).bind fun x_4=>(i_Var (↑(List.length x.2.2):Int)).bind fun x_5=>bif decide (x_4.length+x_5.length<=4611686018427387904) then(iter i_ShowReg_L35 FUEL (x_4++x_5,x.2.2,(↑(List.length x.2.2):Int),0)).bind fun x=>some x else none
abbrev k25:Cuts:=ctab [(13,⟨s25_13,iter i_ShowReg_L13 FUEL⟩),(23,⟨s25_23,iter i_ShowReg_L23 FUEL⟩),(35,⟨s25_35,iter i_ShowReg_L35 FUEL⟩)]
theorem c25:FnOk Tryd.prog 25 ⟨s25,i_ShowReg⟩:=fn_of2 mix_ok rfl tyl_ok (fl:=q25) ⟨c72,c73,c74,c75,trivial⟩ Tryd.func25 rfl rfl (C:=k25) (pts:=[(⟨s25_13,iter i_ShowReg_L13 FUEL⟩,.loop (loopOf Tryd.f25 13)),(⟨s25_23,iter i_ShowReg_L23 FUEL⟩,.loop (loopOf Tryd.f25 23)),(⟨s25_35,iter i_ShowReg_L35 FUEL⟩,.loop (loopOf Tryd.f25 35))]) (by kernel_rfl) ⟨l25_13,l25_23,l25_35,trivial⟩ (fun _=>by kernel_rfl)
def s77:Sig:=⟨[.pio t123],[((.int .i64),true)],false⟩
abbrev q77:List (FuncId×V.Fn):=[(129,⟨s129,i_scan_cut⟩)]
def i_scan_byte (x:List UInt8×Bool):Option (Int×List UInt8×Bool):=(i_scan_cut (x,1)).bind fun x=>bif decide (x.1=[]) then some (0,x.2) else x.1[Int.toNat 0]?.bind fun x_1=>some (i64.wrap (↑x_1.toNat:Int),x.2)
theorem c77:FnOk Tryd.prog 77 ⟨s77,i_scan_byte⟩:=fn_of mix_ok rfl tyl_ok (fl:=q77) ⟨c129,trivial⟩ Tryd.func77 rfl rfl cuts0 (fun _=>by kernel_rfl)
def s78:Sig:=⟨[.pio t123],[(.str,true)],false⟩
abbrev q78:List (FuncId×V.Fn):=[(80,⟨s80,i_scan_num⟩),(129,⟨s129,i_scan_cut⟩)]
def i_scan_text (x:List UInt8×Bool):Option (List UInt8×List UInt8×Bool):=(i_scan_num x).bind fun x=>(i_scan_cut (x.2,x.1)).bind fun x=>some (x.1,x.2)
theorem c78:FnOk Tryd.prog 78 ⟨s78,i_scan_text⟩:=fn_of mix_ok rfl tyl_ok (fl:=q78) ⟨c80,c129,trivial⟩ Tryd.func78 rfl rfl cuts0 (fun _=>by kernel_rfl)
def s81:Sig:=⟨[.ro .str],[(t43,true),(.bool,true)],false⟩
abbrev q81:List (FuncId×V.Fn):=[(75,⟨s75,i_ShowAnswer⟩),(80,⟨s80,i_scan_num⟩)]
def i_ReadAnswer (x:List UInt8):Option (D6×Bool):=(i_scan_num (x,false)).bind fun x_1=>(i_scan_num x_1.2).bind fun x_2=>(i_scan_num x_2.2).bind fun x_3=>(i_scan_num x_3.2).bind fun x_4=>(i_scan_num x_4.2).bind fun x_5=>(bif !x_5.2.2 then some (decide (x=[])) else some true).bind fun x_6=>(bif !x_6 then(i_ShowAnswer
 (x_1.1,x_2.1,x_3.1,x_5.2.1,x_4.1,x_5.1)).bind fun x_7=>some !decide (x_7=x) else some true).bind fun x=>bif x then some ((0,0,0,[],0,0),false) else some ((x_1.1,x_2.1,x_3.1,x_5.2.1,x_4.1,x_5.1),true)
theorem c81:FnOk Tryd.prog 81 ⟨s81,i_ReadAnswer⟩:=fn_of mix_ok rfl tyl_ok (fl:=q81) ⟨c75,c80,trivial⟩ Tryd.func81 rfl rfl cuts0 (fun _=>by kernel_rfl)
def s26:Sig:=⟨[.ro .str],[(t68,true),(.bool,true)],false⟩
abbrev q26:List (FuncId×V.Fn):=[(25,⟨s25,i_ShowReg⟩),(76,⟨s76,i_scan_many⟩),(77,⟨s77,i_scan_byte⟩),(78,⟨s78,i_scan_text⟩),(79,⟨s79,i_Sha⟩),(80,⟨s80,i_scan_num⟩),(81,⟨s81,i_ReadAnswer⟩)]
def s26_13:CutSig:=⟨90,[4,5,17,18],[.pio t123,.pio t68,.ro (.int .i64),.ro (.int .i64)],[(.ex 0,[],[])]⟩
def i_ReadReg_L13 (go:D7×D1×Int×Int->Option D10) (x:D7×(List D3×List
 Int×List D2)×Int×Int):Option D10:=bif decide (x.2.2.2<x.2.2.1) then(i_scan_byte x.1).bind fun x_1=>(i_scan_text x_1.2).bind fun x_2=>(i_Sha x_2.1).bind fun x_3=>bif decide (List.length x.2.1.1+(1
 :Nat)<=4294967296) then go (x_2.2,(x.2.1.1++[(x_2.1,x_3,x_1.1)],x.2.1.2),x.2.2.1,i64.wrap (x.2.2.2+1)) else none else some (x.1,x.2.1)
theorem l26_13:CutOk Tryd.prog ⟨s26_13,iter i_ReadReg_L13 FUEL⟩ (.loop (loopOf Tryd.f26 13)):=loop_of mix_ok rfl tyl_ok (fl:=q26) ⟨c25,c76,c77,c78,c79,c80,c81,trivial⟩ (C:=C0) rfl (pts:=[]) (by kernel_rfl) trivial (fun _ _=>by kernel_rfl)
def s26_27:CutSig:=⟨90,[4,5,37],[.pio t123,.pio t68,.ro (.int .i64)],[(.ex 2,[],[])]⟩
def i_ReadReg_L27 (go:D7×D1×Int->Option D10) (x:D7×(List D3×List Int×
 List D2)×Int):Option D10:=bif decide (x.2.2<3) then(i_scan_num x.1).bind fun x_1=>bif decide (List.length x.2.1.2.1+(1:Nat)<=4294967296) then go (x_1.2,(x.2.1.1,x.2.1.2.1++[x_1.1],x.2.1.2.2),
 i64.wrap (x.2.2+1)) else none else some (x.1,x.2.1)
theorem l26_27:CutOk Tryd.prog ⟨s26_27,iter i_ReadReg_L27 FUEL⟩ (.loop (loopOf Tryd.f26 27)):=loop_of mix_ok rfl tyl_ok (fl:=q26) ⟨c25,c76,c77,c78,c79,c80,c81,trivial⟩ (C:=C0) rfl (pts:=[]) (by kernel_rfl) trivial (fun _ _=>by kernel_rfl)
def s26_39:CutSig:=⟨90,[4,5,50,51],[.pio t123,.pio t68,.ro (.int .i64),.ro (.int .i64)],[(.ex 4,[],[])]⟩
def i_ReadReg_L39 (go:D7×D1×Int×Int->Option D10) (x:D7×(List D3×List
 Int×List D2)×Int×Int):Option D10:=bif decide (x.2.2.2<x.2.2.1) then(i_scan_num x.1).bind fun x_1=>(i_scan_num x_1.2).bind fun x_2=>(i_scan_text x_2.2).bind fun x_3=>(i_ReadAnswer x_3.1).bind fun
 x_4=>bif decide (List.length x.2.1.2.2+(1:Nat)<=4294967296) then go (x_3.2,(x.2.1.1,x.2.1.2.1,x.2.1.2.2++[(x_1.1,x_2.1,x_4.1)]),x.2.2.1,i64.wrap (x.2.2.2+1)) else none else some (x.1,x.2.1)
theorem l26_39:CutOk Tryd.prog ⟨s26_39,iter i_ReadReg_L39 FUEL⟩ (.loop (loopOf Tryd.f26 39)):=loop_of mix_ok rfl tyl_ok (fl:=q26) ⟨c25,c76,c77,c78,c79,c80,c81,trivial⟩ (C:=C0) rfl (pts:=[]) (by kernel_rfl) trivial (fun _ _=>by kernel_rfl)
def i_ReadReg (x:List UInt8):Option (D1×Bool):=(i_scan_many ((x,false),6)).bind fun x_1=>(iter i_ReadReg_L13 FUEL (x_1.2,([],[],[]),x_1.1,0)).bind fun x_2=>(iter i_ReadReg_L27 FUEL (x_2.1,x_2.2,0)).bind fun x_3=>(i_scan_many (x_3.1,6)).bind fun x_4=>
 (iter i_ReadReg_L39 FUEL (x_4.2,x_3.2,x_4.1,0)).bind fun x_5=>(bif !x_5.1.2 then some (decide (x=[])) else some true).bind fun x_6=>(bif !x_6 then(i_ShowReg x_5.2).bind fun x_7=>some !decide (x_7=x) else some true).bind fun x=>bif x then some (([],[],[]),false) else some (x_5.2,true)
abbrev k26:Cuts:=ctab [(13,⟨s26_13,iter i_ReadReg_L13 FUEL⟩),(27,⟨s26_27,iter i_ReadReg_L27 FUEL⟩),(39,⟨s26_39,iter i_ReadReg_L39 FUEL⟩)]
theorem c26:FnOk Tryd.prog 26 ⟨s26,i_ReadReg⟩:=fn_of2 mix_ok rfl tyl_ok (fl:=q26) ⟨c25,c76,c77,c78,c79,c80,c81,trivial⟩ Tryd.func26 rfl rfl (C:=k26) (pts:=[(⟨s26_13,iter i_ReadReg_L13 FUEL⟩,.loop (loopOf Tryd.f26 13)),(⟨s26_27,iter i_ReadReg_L27 FUEL⟩,.loop (loopOf Tryd.f26 27)),(⟨s26_39,iter i_ReadReg_L39 FUEL⟩,.loop (loopOf Tryd.f26 39))]) (by kernel_rfl) ⟨l26_13,l26_27,l26_39,trivial⟩ (fun _=>by kernel_rfl)
def s85:Sig:=⟨[.ro t43],[(.bool,true)],false⟩
abbrev q85:List (FuncId×V.Fn):=[(53,⟨s53,s_l1In⟩)]
def s_AnswerOk (x:Int×Int×Int×List UInt8×Int×Int):Option (Bool):=(s_l1In (x.1,0,5)).bind fun x_1=>(bif x_1 then(s_l1In (x.2.1,0,6)).bind fun x=>some x else some false).bind fun x_2=>(bif x_2 then(s_l1In (x.2.2.1,0,4)).bind fun x=>some x else some false).bind fun x_3=>(bif x_3 then(bif !decide ((↑(List.length x.2.2.2.1):Int)=0) then some (decide
 ((↑(List.length x.2.2.2.1):Int)=32)) else some true).bind fun x=>some x else some false).bind fun x_4=>(bif x_4 then(s_l1In (x.2.2.2.2.1,0,250)).bind fun x=>some x else some false).bind fun x_5=>(bif x_5 then(s_l1In (x.2.2.2.2.2,0,100000)).bind fun x=>some x else some false).bind fun x=>some x
theorem c85:FnOk Tryd.prog 85 ⟨s85,s_AnswerOk⟩:=fn_of mix_ok rfl tyl_ok (fl:=q85) ⟨c53,trivial⟩ Tryd.func85 rfl rfl cuts0 (fun _=>by kernel_rfl)
def s27:Sig:=⟨[.ro t68],[(.bool,true)],false⟩
abbrev q27:List (FuncId×V.Fn):=[(53,⟨s53,s_l1In⟩),(82,⟨s82,s_ReadCanon⟩),(83,⟨s83,s_l12Body⟩),(84,⟨s84,s_Sha⟩),(85,⟨s85,s_AnswerOk⟩)]
def s27_27:CutSig:=⟨166,[1,3,7,8],[.pin t68,.ro (.int .i64),.ro (.int .i64),.ro (.int .i64)],[(.ex 2,[7],[((.int .i64),true)])]⟩
def s_RegOk_L27 (go:D1×Int×Int×Int->Option (Int)) (x:D1×Int×Int×Int):Option (Int):=bif decide (x.2.2.2<(↑(List.length x.1.2.1):Int)) then bif
 decide (0<=x.2.2.2) then x.1.2.1[Int.toNat x.2.2.2]?.bind fun x_1=>bif decide (x_1=i64.wrap (x.2.1+1)) then go (x.1,x.2.1,i64.wrap (x.2.2.1+1),i64.wrap (x.2.2.2+1)) else go (x.1,x.2.1,x.2.2.1,i64.wrap (x.2.2.2+1)) else none else some x.2.2.1
theorem l27_27:CutOk Tryd.prog ⟨s27_27,iter s_RegOk_L27 FUEL⟩ (.loop (loopOf Tryd.f27 27)):=loop_of mix_ok rfl tyl_ok (fl:=q27) ⟨c53,c82,c83,c84,c85,trivial⟩ (C:=C0) rfl (pts:=[]) (by kernel_rfl) trivial (fun _ _=>by kernel_rfl)
def s27_11:CutSig:=⟨166,[1,3],[.pin t68,.ro (.int .i64)],[(.ex 0,[],[]),(.ret,[2],[(.bool,true)])]⟩
def s_RegOk_L11 (go:D1×Int->Option (Unit⊕Bool)) (x:D1×Int):Option (Unit⊕Bool):=bif decide (x.2<(↑(List.length x.1.1):Int)) then bif decide (0 ≤
 x.2) then x.1.1[Int.toNat x.2]?.bind fun x_1=>(s_ReadCanon x_1.1).bind fun x_2=>(bif !!x_2.2 then bif decide (0<=x.2)&&decide (x.2<=(↑(List.length x.1.1):Int)) then(s_l12Body (List.take (Int.toNat x.2) x.1.1,x_1.1)).bind fun x=>some (decide (0<x)) else none else some true).bind fun x_3=>(bif !x_3 then(s_Sha x_1.1).bind fun x=>some !decide (x_1.2.1=x) else some true).bind
 fun x_4=>(bif !x_4 then(s_l1In (x_1.2.2,1,4)).bind fun x=>some !x else some true).bind fun x_5=>bif x_5 then some (Sum.inr false) else(iter s_RegOk_L27 FUEL (x.1,x.2,0,0)).bind fun x_6=>(bif decide (x_1.2.2=2) then some !decide (x_6=1) else some false).bind fun x_7=>(bif !x_7 then(bif !decide (x_1.2.2=2) then some !decide (x_6=0) else some false).bind fun x=>some x
 else some true).bind fun x_8=>bif x_8 then some (Sum.inr false) else go (x.1,i64.wrap (x.2+1)) else none else some (Sum.inl ())
theorem l27_11:CutOk Tryd.prog ⟨s27_11,iter s_RegOk_L11 FUEL⟩ (.loop (loopOf Tryd.f27 11)):=loop_of mix_ok rfl tyl_ok (fl:=q27) ⟨c53,c82,c83,c84,c85,trivial⟩ (C:=ctab [(27,⟨s27_27,iter s_RegOk_L27 FUEL⟩)]) rfl (pts:=[(⟨s27_27,iter s_RegOk_L27 FUEL⟩,.loop (loopOf Tryd.f27 27))]) (by kernel_rfl) ⟨l27_27,trivial⟩ (fun _ _=>by kernel_rfl)
def s27_41:CutSig:=⟨166,[1,9],[.pin t68,.ro (.int .i64)],[(.ex 4,[],[]),(.ret,[2],[(.bool,true)])]⟩
def s_RegOk_L41 (go:D1×Int->Option (Unit⊕Bool)) (x:D1×Int):Option (Unit⊕Bool):=bif decide (x.2<(↑(List.length x.1.2.1):Int)) then bif decide (0
 ≤ x.2) then x.1.2.1[Int.toNat x.2]?.bind fun x_1=>(s_l1In (x_1,0,(↑(List.length x.1.1):Int))).bind fun x_2=>bif !x_2 then some (Sum.inr false) else go (x.1,i64.wrap (x.2+1)) else none else some (Sum.inl ())
theorem l27_41:CutOk Tryd.prog ⟨s27_41,iter s_RegOk_L41 FUEL⟩ (.loop (loopOf Tryd.f27 41)):=loop_of mix_ok rfl tyl_ok (fl:=q27) ⟨c53,c82,c83,c84,c85,trivial⟩ (C:=C0) rfl (pts:=[]) (by kernel_rfl) trivial (fun _ _=>by kernel_rfl)
def s27_51:CutSig:=⟨166,[1,10],[.pin t68,.ro (.int .i64)],[(.ex 6,[],[]),(.ret,[2],[(.bool,true)])]⟩
def s_RegOk_L51 (go:D1×Int->Option (Unit⊕Bool)) (x:D1×Int):Option (Unit⊕Bool):=bif decide (x.2<(↑(List.length x.1.2.2):Int)) then bif decide (0
 ≤ x.2) then x.1.2.2[Int.toNat x.2]?.bind fun x_1=>(s_l1In (x_1.1,1,6)).bind fun x_2=>(bif !!x_2 then(bif decide (0<x.2) then bif decide (0<=i64.wrap (x.2-1)) then x.1.2.2[(i64.wrap (x.2-1)).toNat]?.bind fun x=>some (decide (x_1.1<=x.1)) else none else some false).bind fun x=>some x else some true).bind fun x_3=>(bif !x_3 then(s_l1In (x_1.2.1,1,
 1000000)).bind fun x=>some !x else some true).bind fun x_4=>(bif !x_4 then(s_AnswerOk x_1.2.2).bind fun x=>some !x else some true).bind fun x_5=>bif x_5 then some (Sum.inr false) else go (x.1,i64.wrap (x.2+1)) else none else some (Sum.inl ())
theorem l27_51:CutOk Tryd.prog ⟨s27_51,iter s_RegOk_L51 FUEL⟩ (.loop (loopOf Tryd.f27 51)):=loop_of mix_ok rfl tyl_ok (fl:=q27) ⟨c53,c82,c83,c84,c85,trivial⟩ (C:=C0) rfl (pts:=[]) (by kernel_rfl) trivial (fun _ _=>by kernel_rfl)
def s_RegOk (x:List D3×List Int×List D2):Option (Bool):=(bif !decide (6<(↑(List.length x.1):Int)) then some !decide ((↑(List.length x.2.1):Int)=3) else some true).bind fun x_1=>(bif !x_1 then some (decide (6<(↑(List.length x.2.2):Int))) else some true).bind fun x_2=>bif x_2
 then some false else(iter s_RegOk_L11 FUEL (x,0)).bind fun x_3=>sumK x_3 (fun _=>(iter s_RegOk_L41 FUEL (x,0)).bind fun x_4=>sumK x_4 (fun _=>(iter s_RegOk_L51 FUEL (x,0)).bind fun x=>sumK x (fun _=>some true) fun z=>some z) fun z=>some z) fun z=>some z
abbrev k27:Cuts:=ctab [(11,⟨s27_11,iter s_RegOk_L11 FUEL⟩),(41,⟨s27_41,iter s_RegOk_L41 FUEL⟩),(51,⟨s27_51,iter s_RegOk_L51 FUEL⟩)]
theorem c27:FnOk Tryd.prog 27 ⟨s27,s_RegOk⟩:=fn_of2 mix_ok rfl tyl_ok (fl:=q27) ⟨c53,c82,c83,c84,c85,trivial⟩ Tryd.func27 rfl rfl (C:=k27) (pts:=[(⟨s27_11,iter s_RegOk_L11 FUEL⟩,.loop (loopOf Tryd.f27 11)),(⟨s27_41,iter s_RegOk_L41 FUEL⟩,.loop (loopOf Tryd.f27 41)),(⟨s27_51,iter s_RegOk_L51 FUEL⟩,.loop (loopOf Tryd.f27 51))]) (by kernel_rfl) ⟨l27_11,l27_41,l27_51,trivial⟩ (fun _=>by kernel_rfl)
def s138:Sig:=⟨[.ro t54],[(t54,true)],false⟩
abbrev q138:List (FuncId×V.Fn):=[]
def i_copyInts (x:List Int):Option (List Int):=bif decide ((0:Nat)+x.length<=4294967296) then some ([]++x) else none
theorem c138:FnOk Tryd.prog 138 ⟨s138,i_copyInts⟩:=fn_of mix_ok rfl tyl_ok (fl:=q138) trivial Tryd.func138 rfl rfl cuts0 (fun _=>by kernel_rfl)
def s86:Sig:=⟨[.ro t68],[(t68,true)],false⟩
abbrev q86:List (FuncId×V.Fn):=[(138,⟨s138,i_copyInts⟩)]
def i_copyReg (x:List D3×List Int×List D2):Option D1:=bif decide (List.length x.1<=4294967296) then(i_copyInts x.2.1).bind fun x_1=>bif decide (List.length x.2.2<=4294967296) then
 some (x.1,x_1,x.2.2) else none else none
theorem c86:FnOk Tryd.prog 86 ⟨s86,i_copyReg⟩:=fn_of mix_ok rfl tyl_ok (fl:=q86) ⟨c138,trivial⟩ Tryd.func86 rfl rfl cuts0 (fun _=>by kernel_rfl)
def s139:Sig:=⟨[.ro t68,.ro (.int .i64)],[((.int .i64),true),(.bool,true)],false⟩
abbrev q139:List (FuncId×V.Fn):=[]
def s139_7:CutSig:=⟨29,[1,9,10,11],[.ro (.int .i64),.ro (.sl 119 t119),.ro (.int .i64),.ro (.int .i64)],[(.ex 0,[],[]),(.ret,[4,5],[((.int .i64),true),(.bool,true)])]⟩
def i_Reg_session_L7 (go:Int×List D2×Int×Int->Option (Unit⊕Int×Bool)) (x:Int×List D2×Int×Int):Option (Unit⊕Int×Bool):=bif decide (x.2.2.2<x.2.2.1) then bif decide (0<=x.2.2.2) then x.2.1[Int.toNat x.2.2.2]?.bind fun x_1=>bif decide (x.1<=x_1.1)
 then some (Sum.inr (x.2.2.2,decide (x_1.1=x.1))) else go (x.1,x.2.1,x.2.2.1,i64.wrap (x.2.2.2+1)) else none else some (Sum.inl ())
theorem l139_7:CutOk Tryd.prog ⟨s139_7,iter i_Reg_session_L7 FUEL⟩ (.loop (loopOf Tryd.f139 7)):=loop_of mix_ok rfl tyl_ok (fl:=q139) trivial (C:=C0) rfl (pts:=[]) (by kernel_rfl) trivial (fun _ _=>by kernel_rfl)
def i_Reg_session (x:D1×Int):Option (Int×Bool):=(iter i_Reg_session_L7 FUEL (x.2,x.1.2.2,(↑(List.length x.1.2.2):Int),0)).bind fun x_1=>sumK x_1 (fun _=>some ((↑(List.length x.1.2.2):Int),false)) fun z=>some (z.1,z.2)
abbrev k139:Cuts:=ctab [(7,⟨s139_7,iter i_Reg_session_L7 FUEL⟩)]
theorem c139:FnOk Tryd.prog 139 ⟨s139,i_Reg_session⟩:=fn_of2 mix_ok rfl tyl_ok (fl:=q139) trivial Tryd.func139 rfl rfl (C:=k139) (pts:=[(⟨s139_7,iter i_Reg_session_L7 FUEL⟩,.loop (loopOf Tryd.f139 7))]) (by kernel_rfl) ⟨l139_7,trivial⟩ (fun _=>by kernel_rfl)
def s140:Sig:=⟨[.ro t68,.ro (.int .i64)],[((.int .i64),true)],false⟩
abbrev q140:List (FuncId×V.Fn):=[(139,⟨s139,i_Reg_session⟩)]
def i_Reg_last (x:D1×Int):Option (Int):=(i_Reg_session (x.1,x.2)).bind fun x_1=>bif x_1.2 then bif decide (0<=x_1.1) then x.1.2.2[Int.toNat x_1.1]?.bind fun x=>some x.2.1 else none else some 0
theorem c140:FnOk Tryd.prog 140 ⟨s140,i_Reg_last⟩:=fn_of mix_ok rfl tyl_ok (fl:=q140) ⟨c139,trivial⟩ Tryd.func140 rfl rfl cuts0 (fun _=>by kernel_rfl)
def s116:Sig:=⟨[.ro (.int .i64)],[(.bool,true)],false⟩
abbrev q116:List (FuncId×V.Fn):=[(118,⟨s118,i_within⟩)]
def i_isVersion (x:Int):Option (Bool):=(i_within (x,1,6)).bind fun x=>some x
theorem c116:FnOk Tryd.prog 116 ⟨s116,i_isVersion⟩:=fn_of mix_ok rfl tyl_ok (fl:=q116) ⟨c118,trivial⟩ Tryd.func116 rfl rfl cuts0 (fun _=>by kernel_rfl)
def s117:Sig:=⟨[.ro (.int .i64)],[(.bool,true)],false⟩
abbrev q117:List (FuncId×V.Fn):=[(118,⟨s118,i_within⟩)]
def i_isChannel (x:Int):Option (Bool):=(i_within (x,0,2)).bind fun x=>some x
theorem c117:FnOk Tryd.prog 117 ⟨s117,i_isChannel⟩:=fn_of mix_ok rfl tyl_ok (fl:=q117) ⟨c118,trivial⟩ Tryd.func117 rfl rfl cuts0 (fun _=>by kernel_rfl)
def s56:Sig:=⟨[.ro t39],[(.bool,true)],false⟩
abbrev q56:List (FuncId×V.Fn):=[(116,⟨s116,i_isVersion⟩),(117,⟨s117,i_isChannel⟩)]
def i_OpOk (x:Int×Int×Int×List UInt8):Option (Bool):=(bif !decide (x.1=1) then some !decide (x.2.2.2=[]) else some false).bind fun x_1=>bif x_1 then some false else bif decide (x.1=1) then(bif decide (x.2.1=0) then some (decide (x.2.2.1=0)) else some false).bind fun x_2=>(bif x_2 then some (decide ((↑(List.length x.2.2.2):Int)<=250)) else some
 false).bind fun x=>some x else bif decide (x.1=2) then(i_isVersion x.2.2.1).bind fun x_2=>(bif x_2 then(i_isChannel x.2.1).bind fun x=>some x else some false).bind fun x=>some x else bif decide (x.1=3) then bif decide (x.1=3) then(i_isVersion x.2.2.1).bind fun x_2=>(bif x_2 then some (decide (x.2.1=0)) else some false).bind fun x=>some x else bif decide (x.1=5) then
 (i_isVersion x.2.2.1).bind fun x_2=>(bif x_2 then some (decide (x.2.1=0)) else some false).bind fun x_3=>(bif !x_3 then(bif decide (x.2.2.1=0) then(i_isChannel x.2.1).bind fun x=>some x else some false).bind fun x=>some x else some true).bind fun x=>some x else some false else bif decide (x.1=4) then(i_isVersion x.2.2.1).bind fun x_2=>(bif x_2 then some (decide (x.2.1=0))
 else some false).bind fun x=>some x else bif decide (x.1=5) then(i_isVersion x.2.2.1).bind fun x_2=>(bif x_2 then some (decide (x.2.1=0)) else some false).bind fun x_3=>(bif !x_3 then(bif decide (x.2.2.1=0) then(i_isChannel x.2.1).bind fun x=>some x else some false).bind fun x=>some x else some true).bind fun x=>some x else some false
theorem c56:FnOk Tryd.prog 56 ⟨s56,i_OpOk⟩:=fn_of mix_ok rfl tyl_ok (fl:=q56) ⟨c116,c117,trivial⟩ Tryd.func56 rfl rfl cuts0 (fun _=>by kernel_rfl)
def s163:Sig:=⟨[.ro t68,.ro (.int .i64),.ro (.int .i64)],[(t43,true)],false⟩
abbrev q163:List (FuncId×V.Fn):=[]
def i_Reg_told (x:D1×Int×Int):Option D6:=bif decide (0<=i64.wrap (x.2.1-1)) then x.1.1[(i64.wrap (x.2.1-1)).toNat]?.bind fun x_1=>some (x.2.2,x.2.1,x_1.2.2,x_1.2.1,(↑(List.length x_1.1):Int),0) else none
theorem c163:FnOk Tryd.prog 163 ⟨s163,i_Reg_told⟩:=fn_of mix_ok rfl tyl_ok (fl:=q163) trivial Tryd.func163 rfl rfl cuts0 (fun _=>by kernel_rfl)
def s161:Sig:=⟨[.pio t68,.ro .str],[(t43,true)],false⟩
abbrev q161:List (FuncId×V.Fn):=[(79,⟨s79,i_Sha⟩),(126,⟨s126,i_ReadCanon⟩),(127,⟨s127,i_Reg_has⟩),(163,⟨s163,i_Reg_told⟩)]
def i_Reg_publish (x:D1×List UInt8):Option D13:=(i_ReadCanon x.2).bind fun x_1=>bif !x_1.2 then some ((1,0,0,
 [],0,0),x.1) else(i_Reg_has (x.1,x.2)).bind fun x_2=>bif decide (0<x_2) then(i_Reg_told (x.1,x_2,2)).bind fun x_3=>some (x_3,x.1) else bif decide ((↑(List.length x.1.1):Int)=6) then some ((3,0,0,[],0,0),x.1) else(i_Sha x.2).bind fun x_3=>bif decide (List.length x.1.1+(1:Nat)<=4294967296) then(i_Reg_told ((x.1.1++[(x.2,x_3,1)],x.1.2),(↑(x.1.1++[(x.2,x_3,
 1)]).length:Int),0)).bind fun x_4=>some (x_4,x.1.1++[(x.2,x_3,1)],x.1.2) else none
theorem c161:FnOk Tryd.prog 161 ⟨s161,i_Reg_publish⟩:=fn_of mix_ok rfl tyl_ok (fl:=q161) ⟨c79,c126,c127,c163,trivial⟩ Tryd.func161 rfl rfl cuts0 (fun _=>by kernel_rfl)
def s174:Sig:=⟨[.ro t54,.ro (.int .i64)],[((.int .i64),true)],false⟩
abbrev q174:List (FuncId×V.Fn):=[]
def s174_7:CutSig:=⟨19,[0,1,7,8],[.ro t54,.ro (.int .i64),.ro (.int .i64),.ro (.int .i64)],[(.ex 0,[],[]),(.ret,[4],[((.int .i64),true)])]⟩
def g_slices_Index_int_int_L7 (go:List Int×Int×Int×Int->Option (Unit⊕Int)) (x:List Int×Int×Int×Int):Option (Unit⊕Int):=bif decide (x.2.2.2<x.2.2.1) then bif decide (0<=x.2.2.2) then x.1[Int.toNat x.2.2.2]?.bind fun x_1=>bif decide (x.2.1=x_1) then some (Sum.inr x.2.2.2) else go (x.1,x.2.1,x.2.2.1,i64.wrap (x.2.2.2+1)) else none else some (Sum.inl ())
theorem l174_7:CutOk Tryd.prog ⟨s174_7,iter g_slices_Index_int_int_L7 FUEL⟩ (.loop (loopOf Tryd.f174 7)):=loop_of mix_ok rfl tyl_ok (fl:=q174) trivial (C:=C0) rfl (pts:=[]) (by kernel_rfl) trivial (fun _ _=>by kernel_rfl)
def g_slices_Index_int_int (x:List Int×Int):Option (Int):=(iter g_slices_Index_int_int_L7 FUEL (x.1,x.2,(↑(List.length x.1):Int),0)).bind fun x=>sumK x (fun _=>some (-1)) fun z=>some z
abbrev k174:Cuts:=ctab [(7,⟨s174_7,iter g_slices_Index_int_int_L7 FUEL⟩)]
theorem c174:FnOk Tryd.prog 174 ⟨s174,g_slices_Index_int_int⟩:=fn_of2 mix_ok rfl tyl_ok (fl:=q174) trivial Tryd.func174 rfl rfl (C:=k174) (pts:=[(⟨s174_7,iter g_slices_Index_int_int_L7 FUEL⟩,.loop (loopOf Tryd.f174 7))]) (by kernel_rfl) ⟨l174_7,trivial⟩ (fun _=>by kernel_rfl)
def s162:Sig:=⟨[.pio t68,.ro t39],[(t43,true)],false⟩
abbrev q162:List (FuncId×V.Fn):=[(163,⟨s163,i_Reg_told⟩),(174,⟨s174,g_slices_Index_int_int⟩)]
def s162_18:CutSig:=⟨118,[6,7,32,33],[.pin t116,.ro .bool,.ro (.int .i64),.ro .bool],[(.nor,[7],[(.bool,true)])]⟩
def i_Reg_turn_L18 (x:D3×Bool×Int×Bool):Option (Bool):=bif x.2.2.2 then some (decide (x.1.2.2=2)) else bif decide (x.2.2.1=4) then(bif !decide (x.1.2.2=1) then some (decide (x.1.2.2=3)) else some true).bind fun x=>some x else some x.2.1
theorem l162_18:CutOk Tryd.prog ⟨s162_18,i_Reg_turn_L18⟩ (condOf Tryd.f162 18):=cond_of mix_ok rfl tyl_ok (fl:=q162) ⟨c163,c174,trivial⟩ (C:=C0) rfl (pts:=[]) (by kernel_rfl) trivial (fun _=>by kernel_rfl)
def i_Reg_turn (x:D1×Int×Int×Int×List UInt8):Option D13:=bif decide ((↑(List.length x.1.1):Int)<
 x.2.2.2.1) then some ((4,0,0,[],0,0),x.1) else bif decide (0<=i64.wrap (x.2.2.2.1-1)) then x.1.1[(i64.wrap (x.2.2.2.1-1)).toNat]?.bind fun _=>x.1.1[Int.toNat (i64.wrap (x.2.2.2.1-1))]?.bind fun x_2=>x.1.1[Int.toNat (i64.wrap (x.2.2.2.1-1))]?.bind fun x_3=>(i_Reg_turn_L18 (x_3,decide (x_2.2.2=1),x.2.1,decide (x.2.1=3))).bind fun x_4=>
 bif !x_4 then(i_Reg_told (x.1,x.2.2.2.1,5)).bind fun x_5=>some (x_5,x.1) else bif decide (x.2.1=2) then bif decide (0<=x.2.2.1) then x.1.2.1[Int.toNat x.2.2.1]?.bind fun _=>x.1.2.1[Int.toNat x.2.2.1]?.bind fun x_6=>bif decide (0<x_6) then bif decide (0<=i64.wrap (x_6-1)) then x.1.1[(i64.wrap (x_6-1)).toNat]?.bind fun _=>x.1.1[Int.toNat (i64.wrap
 (x_6-1))]?.bind fun x_8=>bif decide (0<=x.2.2.1) then x.1.2.1[Int.toNat x.2.2.1]?.bind fun _=>x.1.2.1[Int.toNat x.2.2.1]?.bind fun _=>(List.set x.1.1 (Int.toNat (i64.wrap (x_6-1))) (x_8.1,x_8.2.1,3))[Int.toNat (i64.wrap (x.2.2.2.1-1))]?.bind fun x_11=>(i_Reg_told (((List.set x.1.1 (Int.toNat (i64.wrap (x_6-1))) (x_8.1,x_8.2.1,3)).set (Int.toNat
 (i64.wrap (x.2.2.2.1-1))) (x_11.1,x_11.2.1,2),List.set x.1.2.1 (Int.toNat x.2.2.1) x.2.2.2.1,x.1.2.2),x.2.2.2.1,0)).bind fun x_12=>some (x_12,(List.set x.1.1 (Int.toNat (i64.wrap (x_6-1))) (x_8.1,x_8.2.1,3)).set (Int.toNat (i64.wrap (x.2.2.2.1-1))) (x_11.1,x_11.2.1,2),List.set x.1.2.1 (Int.toNat x.2.2.1) x.2.2.2.1,x.1.2.2) else none else none else bif
 decide (0<=x.2.2.1) then x.1.2.1[Int.toNat x.2.2.1]?.bind fun _=>x.1.2.1[Int.toNat x.2.2.1]?.bind fun _=>x.1.1[Int.toNat (i64.wrap (x.2.2.2.1-1))]?.bind fun x_9=>(i_Reg_told ((List.set x.1.1 (Int.toNat (i64.wrap (x.2.2.2.1-1))) (x_9.1,x_9.2.1,2),List.set x.1.2.1 (Int.toNat x.2.2.1) x.2.2.2.1,x.1.2.2),x.2.2.2.1,0)).bind fun x_10=>some (x_10,List.set x.1.1
 (Int.toNat (i64.wrap (x.2.2.2.1-1))) (x_9.1,x_9.2.1,2),List.set x.1.2.1 (Int.toNat x.2.2.1) x.2.2.2.1,x.1.2.2) else none else none else bif decide (x.2.1=3) then(g_slices_Index_int_int (x.1.2.1,x.2.2.2.1)).bind fun x_5=>bif decide (0<=x_5) then x.1.2.1[x_5.toNat]?.bind fun _=>x.1.2.1[Int.toNat x_5]?.bind fun _=>x.1.1[Int.toNat (i64.wrap (x.2.2.2.1-
 1))]?.bind fun x_8=>(i_Reg_told ((List.set x.1.1 (Int.toNat (i64.wrap (x.2.2.2.1-1))) (x_8.1,x_8.2.1,3),List.set x.1.2.1 (Int.toNat x_5) 0,x.1.2.2),x.2.2.2.1,0)).bind fun x_9=>some (x_9,List.set x.1.1 (Int.toNat (i64.wrap (x.2.2.2.1-1))) (x_8.1,x_8.2.1,3),List.set x.1.2.1 (Int.toNat x_5) 0,x.1.2.2) else none else x.1.1[Int.toNat (i64.wrap (x.2.2.2.1-
 1))]?.bind fun x_5=>(i_Reg_told ((List.set x.1.1 (Int.toNat (i64.wrap (x.2.2.2.1-1))) (x_5.1,x_5.2.1,4),x.1.2),x.2.2.2.1,0)).bind fun x_6=>some (x_6,List.set x.1.1 (Int.toNat (i64.wrap (x.2.2.2.1-1))) (x_5.1,x_5.2.1,4),x.1.2) else none
abbrev k162:Cuts:=ctab [(18,⟨s162_18,i_Reg_turn_L18⟩)]
theorem c162:FnOk Tryd.prog 162 ⟨s162,i_Reg_turn⟩:=fn_of2 mix_ok rfl tyl_ok (fl:=q162) ⟨c163,c174,trivial⟩ Tryd.func162 rfl rfl (C:=k162) (pts:=[(⟨s162_18,i_Reg_turn_L18⟩,condOf Tryd.f162 18)]) (by kernel_rfl) ⟨l162_18,trivial⟩ (fun _=>by kernel_rfl)
def s141:Sig:=⟨[.pio t68,.ro t39],[(t43,true)],false⟩
abbrev q141:List (FuncId×V.Fn):=[(56,⟨s56,i_OpOk⟩),(118,⟨s118,i_within⟩),(161,⟨s161,i_Reg_publish⟩),(162,⟨s162,i_Reg_turn⟩),(163,⟨s163,i_Reg_told⟩)]
def i_Reg_do (x:D1×Int×Int×Int×List UInt8):Option D13:=(i_OpOk x.2).bind fun x_1=>bif !x_1 then some ((1,
 0,0,[],0,0),x.1) else bif decide (x.2.1=1) then(i_Reg_publish (x.1,x.2.2.2.2)).bind fun x=>some (x.1,x.2) else bif decide (x.2.1=2) then bif decide (x.2.1=2) then(i_Reg_turn (x.1,x.2)).bind fun x=>some (x.1,x.2) else bif decide (x.2.2.2.1=0) then bif decide (0<=x.2.2.1) then x.1.2.1[Int.toNat x.2.2.1]?.bind fun _=>x.1.2.1[Int.toNat x.2.2.1]?.bind fun x_3=>(i_within
 (x_3,1,(↑(List.length x.1.1):Int))).bind fun x_4=>bif !x_4 then some ((4,0,0,[],0,0),x.1) else(i_Reg_told (x.1,x_3,0)).bind fun x_5=>some (x_5,x.1) else none else(i_within (x.2.2.2.1,1,(↑(List.length x.1.1):Int))).bind fun x_2=>bif !x_2 then some ((4,0,0,[],0,0),x.1) else(i_Reg_told (x.1,x.2.2.2.1,0)).bind fun x_3=>some (x_3,x.1) else bif decide (x.2.1=3)
 then bif decide (x.2.1=3) then(i_Reg_turn (x.1,x.2)).bind fun x=>some (x.1,x.2) else bif decide (x.2.2.2.1=0) then bif decide (0<=x.2.2.1) then x.1.2.1[Int.toNat x.2.2.1]?.bind fun _=>x.1.2.1[Int.toNat x.2.2.1]?.bind fun x_3=>(i_within (x_3,1,(↑(List.length x.1.1):Int))).bind fun x_4=>bif !x_4 then some ((4,0,0,[],0,0),x.1) else(i_Reg_told (x.1,x_3,0)).bind fun x_5
 =>some (x_5,x.1) else none else(i_within (x.2.2.2.1,1,(↑(List.length x.1.1):Int))).bind fun x_2=>bif !x_2 then some ((4,0,0,[],0,0),x.1) else(i_Reg_told (x.1,x.2.2.2.1,0)).bind fun x_3=>some (x_3,x.1) else bif decide (x.2.1=4) then(i_Reg_turn (x.1,x.2)).bind fun x=>some (x.1,x.2) else bif decide (x.2.2.2.1=0) then bif decide (0<=x.2.2.1) then x.1.2.1[Int.toNat
 x.2.2.1]?.bind fun _=>x.1.2.1[Int.toNat x.2.2.1]?.bind fun x_3=>(i_within (x_3,1,(↑(List.length x.1.1):Int))).bind fun x_4=>bif !x_4 then some ((4,0,0,[],0,0),x.1) else(i_Reg_told (x.1,x_3,0)).bind fun x_5=>some (x_5,x.1) else none else(i_within (x.2.2.2.1,1,(↑(List.length x.1.1):Int))).bind fun x_2=>bif !x_2 then some ((4,0,0,[],0,0),x.1) else(i_Reg_told
 (x.1,x.2.2.2.1,0)).bind fun x_3=>some (x_3,x.1)
theorem c141:FnOk Tryd.prog 141 ⟨s141,i_Reg_do⟩:=fn_of mix_ok rfl tyl_ok (fl:=q141) ⟨c56,c118,c161,c162,c163,trivial⟩ Tryd.func141 rfl rfl cuts0 (fun _=>by kernel_rfl)
def s142:Sig:=⟨[.own (.sl 119 t119),.ro (.int .i64),.ro (.sl 119 t119)],[((.sl 119 t119),true)],false⟩
def g_slices_Insert_impl_Session_impl_Session (x:List SesD×Int×List SesD):Option (List SesD):=insF x
theorem c142:FnOk Tryd.prog 142 ⟨s142,g_slices_Insert_impl_Session_impl_Session⟩:=ins_ok
def s87:Sig:=⟨[.pio t68,.ro (.int .i64),.ro (.int .i64),.ro t39,.ro (.int .i64)],[(t43,true),(.bool,true)],false⟩
abbrev q87:List (FuncId×V.Fn):=[(118,⟨s118,i_within⟩),(139,⟨s139,i_Reg_session⟩),(140,⟨s140,i_Reg_last⟩),(141,⟨s141,i_Reg_do⟩),(142,⟨s142,g_slices_Insert_impl_Session_impl_Session⟩)]
def i_Reg_serve (x:D1×Int×Int×D9×Int):Option (D6×Bool×List D3×List Int×List D2):=(i_within (x.2.1,1,
 6)).bind fun x_1=>(bif !!x_1 then(i_within (x.2.2.1,1,1000000)).bind fun x=>some !x else some true).bind fun x_2=>(bif !x_2 then(i_within (x.2.2.2.2,1,100000)).bind fun x=>some !x else some true).bind fun x_3=>bif x_3 then some ((0,0,0,[],0,0),false,x.1) else(i_Reg_session (x.1,x.2.1)).bind fun x_4=>(i_Reg_last (x.1,x.2.1)).bind fun x_5=>bif decide (x.2.2.1=x_5)
 then bif decide (0<=x_4.1) then x.1.2.2[Int.toNat x_4.1]?.bind fun _=>x.1.2.2[Int.toNat x_4.1]?.bind fun x_7=>some (x_7.2.2,false,x.1) else none else bif !decide (x.2.2.1=i64.wrap (x_5+1)) then some ((0,0,0,[],0,0),false,x.1) else(i_Reg_do (x.1,x.2.2.2.1)).bind fun x_6=>bif x_4.2 then bif decide (0<=x_4.1) then x_6.2.2.2[Int.toNat x_4.1]?.bind fun _=>
 x_6.2.2.2[Int.toNat x_4.1]?.bind fun _=>some ((x_6.1.1,x_6.1.2.1,x_6.1.2.2.1,x_6.1.2.2.2.1,x_6.1.2.2.2.2.1,x.2.2.2.2),true,x_6.2.1,x_6.2.2.1,List.set x_6.2.2.2 (Int.toNat x_4.1) (x.2.1,x.2.2.1,x_6.1.1,x_6.1.2.1,x_6.1.2.2.1,x_6.1.2.2.2.1,x_6.1.2.2.2.2.1,x.2.2.2.2)) else none else(g_slices_Insert_impl_Session_impl_Session (x_6.2.2.2,x_4.1,[(x.2.1,x.2.2.1,x_6.1.1,
 x_6.1.2.1,x_6.1.2.2.1,x_6.1.2.2.2.1,x_6.1.2.2.2.2.1,x.2.2.2.2)])).bind fun x_7=>some ((x_6.1.1,x_6.1.2.1,x_6.1.2.2.1,x_6.1.2.2.2.1,x_6.1.2.2.2.2.1,x.2.2.2.2),true,x_6.2.1,x_6.2.2.1,x_7)
theorem c87:FnOk Tryd.prog 87 ⟨s87,i_Reg_serve⟩:=fn_of mix_ok rfl tyl_ok (fl:=q87) ⟨c118,c139,c140,c141,c142,trivial⟩ Tryd.func87 rfl rfl cuts0 (fun _=>by kernel_rfl)
def s28:Sig:=⟨[.ro t68,.ro (.int .i64),.ro (.int .i64),.ro t39,.ro (.int .i64)],[(t68,true),(t43,true),(.bool,true)],false⟩
abbrev q28:List (FuncId×V.Fn):=[(72,⟨s72,i_RegOk⟩),(86,⟨s86,i_copyReg⟩),(87,⟨s87,i_Reg_serve⟩)]
def i_Serve (x:D1×Int×Int×D9×Int):Option (D1×D6×Bool):=(i_RegOk x.1).bind fun x_1
 =>bif !x_1 then some (([],[],[]),(0,0,0,[],0,0),false) else(i_copyReg x.1).bind fun x_2=>(i_Reg_serve (x_2,x.2.1,x.2.2.1,x.2.2.2.1,x.2.2.2.2)).bind fun x=>some (x.2.2,x.1,x.2.1)
theorem c28:FnOk Tryd.prog 28 ⟨s28,i_Serve⟩:=fn_of mix_ok rfl tyl_ok (fl:=q28) ⟨c72,c86,c87,trivial⟩ Tryd.func28 rfl rfl cuts0 (fun _=>by kernel_rfl)
def s89:Sig:=⟨[.ro t68],[(t68,true)],false⟩
abbrev q89:List (FuncId×V.Fn):=[]
def s_l12Copy (x:List D3×List Int×List D2):Option D1:=bif decide ((0:Nat)+List.length x.1<=4294967296) then bif decide ((0:Nat)+List.length x.2.1<=4294967296) then bif decide
 ((0:Nat)+List.length x.2.2<=4294967296) then some (x.1,x.2.1,x.2.2) else none else none else none
theorem c89:FnOk Tryd.prog 89 ⟨s89,s_l12Copy⟩:=fn_of mix_ok rfl tyl_ok (fl:=q89) trivial Tryd.func89 rfl rfl cuts0 (fun _=>by kernel_rfl)
def s29:Sig:=⟨[.ro t68,.ro (.int .i64),.ro (.int .i64),.ro t39,.ro (.int .i64)],[(t68,true),(t43,true),(.bool,true)],false⟩
abbrev q29:List (FuncId×V.Fn):=[(27,⟨s27,s_RegOk⟩),(88,⟨s88,s_l12Serve⟩),(89,⟨s89,s_l12Copy⟩)]
def s_Serve (x:D1×Int×Int×D9×Int):Option (D1×D6×Bool):=(s_RegOk x.1).bind fun x_1
 =>bif !x_1 then some (([],[],[]),(0,0,0,[],0,0),false) else(s_l12Copy x.1).bind fun x_2=>(s_l12Serve (x_2,x.2.1,x.2.2.1,x.2.2.2.1,x.2.2.2.2)).bind fun x=>some (x.1,x.2.1,x.2.2)
theorem c29:FnOk Tryd.prog 29 ⟨s29,s_Serve⟩:=fn_of mix_ok rfl tyl_ok (fl:=q29) ⟨c27,c88,c89,trivial⟩ Tryd.func29 rfl rfl cuts0 (fun _=>by kernel_rfl)
def s90:Sig:=⟨[.ro t54,.ro t54],[(.bool,true)],false⟩
abbrev q90:List (FuncId×V.Fn):=[]
def s90_11:CutSig:=⟨26,[0,1,5],[.ro t54,.ro t54,.ro (.int .i64)],[(.ex 0,[],[]),(.ret,[4],[(.bool,true)])]⟩
def w_sameInts_L11 (go:List Int×List Int×Int->Option (Unit⊕Bool)) (x:List Int×List Int×Int):Option (Unit⊕Bool):=bif decide (x.2.2<(↑(List.length x.1):Int)) then bif decide (0<=x.2.2) then x.1[Int.toNat x.2.2]?.bind fun x_1=>bif decide (0<=x.2.2) then x.2.1[Int.toNat x.2.2]?.bind fun x_2=>bif !decide (x_1=x_2) then some (Sum.inr false) else go (x.1,
 x.2.1,i64.wrap (x.2.2+1)) else none else none else some (Sum.inl ())
theorem l90_11:CutOk Tryd.prog ⟨s90_11,iter w_sameInts_L11 FUEL⟩ (.loop (loopOf Tryd.f90 11)):=loop_of mix_ok rfl tyl_ok (fl:=q90) trivial (C:=C0) rfl (pts:=[]) (by kernel_rfl) trivial (fun _ _=>by kernel_rfl)
def w_sameInts (x:List Int×List Int):Option (Bool):=bif !decide ((↑(List.length x.1):Int)=(↑(List.length x.2):Int)) then some false else(iter w_sameInts_L11 FUEL (x.1,x.2,0)).bind fun x=>sumK x (fun _=>some true) fun z=>some z
abbrev k90:Cuts:=ctab [(11,⟨s90_11,iter w_sameInts_L11 FUEL⟩)]
theorem c90:FnOk Tryd.prog 90 ⟨s90,w_sameInts⟩:=fn_of2 mix_ok rfl tyl_ok (fl:=q90) trivial Tryd.func90 rfl rfl (C:=k90) (pts:=[(⟨s90_11,iter w_sameInts_L11 FUEL⟩,.loop (loopOf Tryd.f90 11))]) (by kernel_rfl) ⟨l90_11,trivial⟩ (fun _=>by kernel_rfl)
def s30:Sig:=⟨[.ro t68,.ro t68],[(.bool,true)],false⟩
abbrev q30:List (FuncId×V.Fn):=[(90,⟨s90,w_sameInts⟩)]
def s30_11:CutSig:=⟨67,[2,3,5],[.pin t68,.pin t68,.ro (.int .i64)],[(.ex 0,[],[]),(.ret,[4],[(.bool,true)])]⟩
def w_sameReg_L11 (go:D1×D1×Int->Option (Unit⊕Bool)) (x:(List D3×List Int×List (Int×Int×Int×Int×Int×List UInt8×
 Int×Int))×D1×Int):Option (Unit⊕Bool):=bif decide (x.2.2<(↑(List.length x.1.1):Int)) then bif decide (0<=x.2.2) then x.1.1[Int.toNat x.2.2]?.bind fun x_1=>bif decide (0<=x.2.2) then x.2.1.1[Int.toNat x.2.2]?.bind fun x_2=>bif !(decide (x_1.1=x_2.1)&&(decide
 (x_1.2.1=x_2.2.1)&&decide (x_1.2.2=x_2.2.2))) then some (Sum.inr false) else go (x.1,x.2.1,i64.wrap (x.2.2+1)) else none else none else some (Sum.inl ())
theorem l30_11:CutOk Tryd.prog ⟨s30_11,iter w_sameReg_L11 FUEL⟩ (.loop (loopOf Tryd.f30 11)):=loop_of mix_ok rfl tyl_ok (fl:=q30) ⟨c90,trivial⟩ (C:=C0) rfl (pts:=[]) (by kernel_rfl) trivial (fun _ _=>by kernel_rfl)
def s30_21:CutSig:=⟨67,[2,3,6],[.pin t68,.pin t68,.ro (.int .i64)],[(.ex 2,[],[]),(.ret,[4],[(.bool,true)])]⟩
def w_sameReg_L21 (go:D1×D1×Int->Option (Unit⊕Bool)) (x:(List D3×List Int×List (Int×Int×Int×Int×Int×List UInt8×
 Int×Int))×D1×Int):Option (Unit⊕Bool):=bif decide (x.2.2<(↑(List.length x.1.2.2):Int)) then bif decide (0<=x.2.2) then x.1.2.2[Int.toNat x.2.2]?.bind fun x_1=>bif decide (0<=x.2.2) then x.2.1.2.2[Int.toNat x.2.2]?.bind fun x_2=>bif !(decide (x_1.1=x_2.1)&&(decide
 (x_1.2.1=x_2.2.1)&&(decide (x_1.2.2.1=x_2.2.2.1)&&(decide (x_1.2.2.2.1=x_2.2.2.2.1)&&(decide (x_1.2.2.2.2.1=x_2.2.2.2.2.1)&&(decide (x_1.2.2.2.2.2.1=x_2.2.2.2.2.2.1)&&(decide (x_1.2.2.2.2.2.2.1=x_2.2.2.2.2.2.2.1)&&decide (x_1.2.2.2.2.2.2.2=x_2.2.2.2.2.2.2.2)))))))) then some (Sum.inr false) else go (x.1,x.2.1,i64.wrap (x.2.2+1)) else none else none else some (Sum.inl ())
theorem l30_21:CutOk Tryd.prog ⟨s30_21,iter w_sameReg_L21 FUEL⟩ (.loop (loopOf Tryd.f30 21)):=loop_of mix_ok rfl tyl_ok (fl:=q30) ⟨c90,trivial⟩ (C:=C0) rfl (pts:=[]) (by kernel_rfl) trivial (fun _ _=>by kernel_rfl)
def w_sameReg (x:D1×List D3×List Int×List D2):Option (Bool):=(bif !!decide ((↑(List.length x.1.1):Int)=(↑(List.length x.2.1):Int)) then(w_sameInts (x.1.2.1,x.2.2.1)).bind fun
 x=>some !x else some true).bind fun x_1=>(bif !x_1 then some !decide ((↑(List.length x.1.2.2):Int)=(↑(List.length x.2.2.2):Int)) else some true).bind fun x_2=>bif x_2 then some false else(iter w_sameReg_L11 FUEL (x.1,x.2,0)).bind fun x_3=>sumK x_3 (fun _=>(iter w_sameReg_L21 FUEL (x.1,x.2,0)).bind fun x=>sumK x (fun _=>some true) fun z=>some z) fun z=>some z
abbrev k30:Cuts:=ctab [(11,⟨s30_11,iter w_sameReg_L11 FUEL⟩),(21,⟨s30_21,iter w_sameReg_L21 FUEL⟩)]
theorem c30:FnOk Tryd.prog 30 ⟨s30,w_sameReg⟩:=fn_of2 mix_ok rfl tyl_ok (fl:=q30) ⟨c90,trivial⟩ Tryd.func30 rfl rfl (C:=k30) (pts:=[(⟨s30_11,iter w_sameReg_L11 FUEL⟩,.loop (loopOf Tryd.f30 11)),(⟨s30_21,iter w_sameReg_L21 FUEL⟩,.loop (loopOf Tryd.f30 21))]) (by kernel_rfl) ⟨l30_11,l30_21,trivial⟩ (fun _=>by kernel_rfl)
def s5:Sig:=⟨[.ro t63],[(.bool,true)],false⟩
abbrev q5:List (FuncId×V.Fn):=[(23,⟨s23,w_big⟩),(24,⟨s24,s_DrawServe⟩),(25,⟨s25,i_ShowReg⟩),(26,⟨s26,i_ReadReg⟩),(27,⟨s27,s_RegOk⟩),(28,⟨s28,i_Serve⟩),(29,⟨s29,s_Serve⟩),(30,⟨s30,w_sameReg⟩)]
def w_FnImage (x:List Int):Option (Bool):=(w_big x).bind fun x_1=>bif x_1 then some true else(s_DrawServe x).bind fun x=>(i_ShowReg x.1).bind fun x_2=>(i_ReadReg x_2).bind fun x_3=>(s_RegOk x.1).bind fun x_4=>bif !x_4 then(bif decide (x_2=[]) then some !x_3.2 else some false).bind fun x=>some x else(i_Serve (x_3.1,x.2.1,x.2.2.1,x.2.2.2.1,x.2.2.2.2)).bind
 fun x_5=>(s_Serve (x.1,x.2.1,x.2.2.1,x.2.2.2.1,x.2.2.2.2)).bind fun x_6=>(bif x_3.2 then(w_sameReg (x_3.1,x.1)).bind fun x=>some x else some false).bind fun x=>(bif x then(w_sameReg (x_5.1,x_6.1)).bind fun x=>some x else some false).bind fun x=>(bif x then some (decide (x_5.2.1.1=x_6.2.1.1)&&(decide (x_5.2.1.2.1=x_6.2.1.2.1)&&(decide (x_5.2.1.2.2.1=x_6.2.1.2.2.1)&&
 (decide (x_5.2.1.2.2.2.1=x_6.2.1.2.2.2.1)&&(decide (x_5.2.1.2.2.2.2.1=x_6.2.1.2.2.2.2.1)&&decide (x_5.2.1.2.2.2.2.2=x_6.2.1.2.2.2.2.2)))))) else some false).bind fun x=>(bif x then some (x_5.2.2==x_6.2.2) else some false).bind fun x=>(bif x then some (decide ((↑x_2.length:Int)<=8000)) else some false).bind fun x=>some x
theorem c5:FnOk Tryd.prog 5 ⟨s5,w_FnImage⟩:=fn_of mix_ok rfl tyl_ok (fl:=q5) ⟨c23,c24,c25,c26,c27,c28,c29,c30,trivial⟩ Tryd.func5 rfl rfl cuts0 (fun _=>by kernel_rfl)
end
end Go.Proofs.YtacbkfginiknaaaDoor

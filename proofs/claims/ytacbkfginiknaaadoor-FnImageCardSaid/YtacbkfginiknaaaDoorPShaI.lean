/- The plain law: the program's digest is the reference's. -/
import Derived.Test.YtacbkfginiknaaaDoorPSha
import Derived.Test.YtacbkfginiknaaaDoorPCanon
namespace Go.Proofs.YtacbkfginiknaaaDoor
open Go Go.Proofs.YtacbkfginiknaaaDoor.V
theorem iter_lock {α α' β β':Type} {S1:(α->Option β)->α->Option β} {S2:(α'->Option β')->α'->Option β'} (R:α->α'->Prop) (f:β'->β)
  (h:∀go1 go2 x y,R x y->(∀x' y',R x' y'->go1 x'=(go2 y').map f)->S1 go1 x=(S2 go2 y).map f):∀n x y,R x y->iter S1 n x=(iter S2 n y).map f:=by
 intro n
 induction n with
 |zero=>intro x y _;rfl
 |succ n ih=>intro x y hr;exact h _ _ x y hr fun x' y' hr'=>ih x' y' hr'
theorem w32 (n:Int):IntKind.u32.wrap n=n%4294967296:=rfl
noncomputable def turn (x n:Int):Int:=(s_l2Turn (x,n)).getD 0
theorem s_turn_is (x n:Int):s_l2Turn (x,n)=some (turn x n):=by
 obtain⟨y,hy⟩:=turn_tot x n
 unfold turn;rw[hy];rfl
theorem rot_is {k n a b:Int} (x:Int) (h1:IntKind.u64.wrap (↑(BitVec.ofInt IntKind.u64.bits (IntKind.u64.wrap k)&&&BitVec.ofInt IntKind.u64.bits 31).toNat:Int)=a) (h2:IntKind.u64.wrap (32-a)=b) (h3:IntKind.u64.wrap n=b) (h4:IntKind.u64.wrap (IntKind.i64.wrap (32-n))=a) (h5:0<=b) (h6:0<=a):
  g_math_bits_RotateLeft32 (x,k)=some (turn x n):=by
 rw[<-s_turn_is]
 unfold g_math_bits_RotateLeft32 s_l2Turn
 simp only[h1,h2,h3,h4,decide_eq_true h5,decide_eq_true h6,cond_true]
 rw[BitVec.or_comm]
theorem r7 (x):g_math_bits_RotateLeft32 (x,-7)=some (turn x 7):=rot_is (a:=25) (b:=7) x (by decide) (by decide) (by decide) (by decide) (by decide) (by decide)
theorem r18 (x):g_math_bits_RotateLeft32 (x,-18)=some (turn x 18):=rot_is (a:=14) (b:=18) x (by decide) (by decide) (by decide) (by decide) (by decide) (by decide)
theorem r17 (x):g_math_bits_RotateLeft32 (x,-17)=some (turn x 17):=rot_is (a:=15) (b:=17) x (by decide) (by decide) (by decide) (by decide) (by decide) (by decide)
theorem r19 (x):g_math_bits_RotateLeft32 (x,-19)=some (turn x 19):=rot_is (a:=13) (b:=19) x (by decide) (by decide) (by decide) (by decide) (by decide) (by decide)
theorem r6 (x):g_math_bits_RotateLeft32 (x,-6)=some (turn x 6):=rot_is (a:=26) (b:=6) x (by decide) (by decide) (by decide) (by decide) (by decide) (by decide)
theorem r11 (x):g_math_bits_RotateLeft32 (x,-11)=some (turn x 11):=rot_is (a:=21) (b:=11) x (by decide) (by decide) (by decide) (by decide) (by decide) (by decide)
theorem r25 (x):g_math_bits_RotateLeft32 (x,-25)=some (turn x 25):=rot_is (a:=7) (b:=25) x (by decide) (by decide) (by decide) (by decide) (by decide) (by decide)
theorem r2 (x):g_math_bits_RotateLeft32 (x,-2)=some (turn x 2):=rot_is (a:=30) (b:=2) x (by decide) (by decide) (by decide) (by decide) (by decide) (by decide)
theorem r13 (x):g_math_bits_RotateLeft32 (x,-13)=some (turn x 13):=rot_is (a:=19) (b:=13) x (by decide) (by decide) (by decide) (by decide) (by decide) (by decide)
theorem r22 (x):g_math_bits_RotateLeft32 (x,-22)=some (turn x 22):=rot_is (a:=10) (b:=22) x (by decide) (by decide) (by decide) (by decide) (by decide) (by decide)
def pad0 (w:List Int):List Int:=w++List.replicate (64-w.length) 0
theorem pad_get {w:List Int} {j:Nat} (h:j<w.length):(pad0 w)[j]?=some w[j]:=by
 unfold pad0;rw[List.getElem?_append_left h,List.getElem?_eq_getElem h]
theorem pad_new {w:List Int} (h:w.length<64):(pad0 w)[w.length]?=some 0:=by
 unfold pad0;rw[List.getElem?_append_right (Nat.le_refl _),Nat.sub_self,List.getElem?_replicate,if_pos (by omega)]
theorem pad_set {w:List Int} {v:Int} (h:w.length<64):(pad0 w).set w.length v=pad0 (w++[v]):=by
 unfold pad0
 rw[List.set_append_right _ _ (Nat.le_refl _),Nat.sub_self,show 64-w.length=(64-(w++[v]).length)+1 by simp;omega,List.replicate_succ,List.set_cons_zero,List.append_assoc]
 rfl
theorem four_is {b:Bs} {m:Nat} (h:m+3<b.length):i_fourBytes (b.drop m)=b[m]?.bind fun x_1=>b[m+1]?.bind fun x_2=>b[m+2]?.bind fun x_3=>b[m+3]?.bind fun x=>
  some (IntKind.u32.wrap (↑(BitVec.ofInt IntKind.u32.bits (IntKind.u32.wrap (↑(BitVec.ofInt IntKind.u32.bits (IntKind.u32.wrap (↑(BitVec.ofInt IntKind.u32.bits (IntKind.u32.wrap (IntKind.u32.wrap (↑x_1.toNat:Int)*2^min (Int.toNat 24) IntKind.u32.bits))|||BitVec.ofInt IntKind.u32.bits (IntKind.u32.wrap (IntKind.u32.wrap (↑x_2.toNat:Int)*2^min (Int.toNat 16) IntKind.u32.bits))).toNat:Int))|||BitVec.ofInt IntKind.u32.bits (IntKind.u32.wrap (IntKind.u32.wrap (↑x_3.toNat:Int)*2^min (Int.toNat 8) IntKind.u32.bits))).toNat:Int))|||BitVec.ofInt IntKind.u32.bits (IntKind.u32.wrap (↑x.toNat:Int))).toNat:Int)):=by
 unfold i_fourBytes
 simp only[List.getElem?_drop]
 rfl
def L9R (x y:Bs×List Int×Int):Prop:=x.1=y.1/\y.1.length=64/\x.2.1=pad0 y.2.1/\x.2.2=(y.2.1.length:Int)/\y.2.2=(y.2.1.length:Int)/\y.2.1.length<=16
theorem l9_lock (go1 go2) (x y:Bs×List Int×Int) (hr:L9R x y) (hgo:∀x' y',L9R x' y'->go1 x'=(go2 y').map pad0):i_shaBlock_L9 go1 x=(s_l2Block_L9 go2 y).map pad0:=by
 obtain⟨b,w',i⟩:=x
 obtain⟨b2,w,i2⟩:=y
 obtain⟨h1,h2,h3,h4,h5,h6⟩:=hr
 simp only at h1 h2 h3 h4 h5 h6
 subst h1 h3 h4 h5
 unfold i_shaBlock_L9 s_l2Block_L9
 simp only
 by_cases hi:w.length<16
 ·have d:decide ((w.length:Int)<16)=true:=by simp;omega
  have e0:IntKind.i64.wrap (4*(w.length:Int))=((4*w.length:Nat):Int):=by rw[w64 (by omega) (by omega)];omega
  have e1:IntKind.i64.wrap (((4*w.length:Nat):Int)+1)=((4*w.length+1:Nat):Int):=by rw[w64 (by omega) (by omega)];omega
  have e2:IntKind.i64.wrap (((4*w.length:Nat):Int)+2)=((4*w.length+2:Nat):Int):=by rw[w64 (by omega) (by omega)];omega
  have e3:IntKind.i64.wrap (((4*w.length:Nat):Int)+3)=((4*w.length+3:Nat):Int):=by rw[w64 (by omega) (by omega)];omega
  have d2:decide (((4*w.length:Nat):Int)<=(b.length:Int))=true:=by simp;omega
  have d3:decide ((w.length:Int)<64)=true:=by simp;omega
  simp only[d,e0,e1,e2,e3,d2,d3,nnN,cond_true,Bool.and_self,Int.toNat_natCast,four_is (b:=b) (m:=4*w.length) (by omega),pad_new (w:=w) (by omega)]
  rw[List.getElem?_eq_getElem (show 4*w.length<b.length by omega),List.getElem?_eq_getElem (show 4*w.length+1<b.length by omega),List.getElem?_eq_getElem (show 4*w.length+2<b.length by omega),List.getElem?_eq_getElem (show 4*w.length+3<b.length by omega)]
  simp only[Option.bind_some]
  rw[decide_eq_true (show w.length+1<=4294967296 by omega),cond_true,pad_set (by omega),wSucc (by omega)]
  exact hgo _ _ ⟨rfl,h2,rfl,by simp,by simp,by simp;omega⟩
 ·have d:decide ((w.length:Int)<16)=false:=by simp;omega
  simp only[d,cond_false,Option.map_some]
def L17R (x:List Int×Int) (y:List Int×Int):Prop:=x.1=pad0 y.1/\x.2=(y.1.length:Int)/\y.2=(y.1.length:Int)/\16<=y.1.length/\y.1.length<=64
theorem l17_lock (go1 go2) (x y:List Int×Int) (hr:L17R x y) (hgo:∀x' y',L17R x' y'->go1 x'=(go2 y').map pad0):i_shaBlock_L19 go1 x=(s_l2Block_L17 go2 y).map pad0:=by
 obtain⟨w',i⟩:=x
 obtain⟨w,i2⟩:=y
 obtain⟨h1,h2,h3,h4,h5⟩:=hr
 simp only at h1 h2 h3 h4 h5
 subst h1 h2 h3
 unfold i_shaBlock_L19 s_l2Block_L17
 simp only
 by_cases hi:w.length<64
 ·have d:decide ((w.length:Int)<64)=true:=by simp;omega
  have e0:IntKind.i64.wrap ((w.length:Int)-15)=((w.length-15:Nat):Int):=by rw[w64 (by omega) (by omega)];omega
  have e1:IntKind.i64.wrap ((w.length:Int)-2)=((w.length-2:Nat):Int):=by rw[w64 (by omega) (by omega)];omega
  have e2:IntKind.i64.wrap ((w.length:Int)-16)=((w.length-16:Nat):Int):=by rw[w64 (by omega) (by omega)];omega
  have e3:IntKind.i64.wrap ((w.length:Int)-7)=((w.length-7:Nat):Int):=by rw[w64 (by omega) (by omega)];omega
  have f0:decide (((w.length-15:Nat):Int)<64)=true:=by simp;omega
  have f1:decide (((w.length-2:Nat):Int)<64)=true:=by simp;omega
  have f2:decide (((w.length-16:Nat):Int)<64)=true:=by simp;omega
  have f3:decide (((w.length-7:Nat):Int)<64)=true:=by simp;omega
  simp only[d,e0,e1,e2,e3,f0,f1,f2,f3,nnN,cond_true,Bool.and_self,Int.toNat_natCast]
  rw[List.getElem?_eq_getElem (show w.length-15<w.length by omega),List.getElem?_eq_getElem (show w.length-2<w.length by omega),List.getElem?_eq_getElem (show w.length-16<w.length by omega),List.getElem?_eq_getElem (show w.length-7<w.length by omega),
   pad_get (show w.length-15<w.length by omega),pad_get (show w.length-2<w.length by omega),pad_get (show w.length-16<w.length by omega),pad_get (show w.length-7<w.length by omega),pad_new (by omega)]
  simp only[Option.bind_some,r7,r18,r17,r19,s_turn_is]
  rw[decide_eq_true (show w.length+1<=4294967296 by omega),cond_true,pad_set (by omega),wSucc (by omega)]
  exact hgo _ _ ⟨rfl,by simp,by simp,by simp;omega,by simp;omega⟩
 ·have d:decide ((w.length:Int)<64)=false:=by simp;omega
  simp only[d,cond_false,Option.map_some]
def L31R (x:List Int×List Int×Int) (y:List Int×List Int×List Int×Int):Prop:=x.1=y.2.1/\x.2.1=y.2.2.1/\y.2.2.1.length=8/\x.2.2=y.2.2.2/\y.1=gv0
theorem wadd (a b c:Int):IntKind.u32.wrap (IntKind.u32.wrap (a+b)+c)=IntKind.u32.wrap (a+IntKind.u32.wrap (b+c)):=by
 simp only[w32];omega
theorem l31_lock (go1 go2) (x y) (hr:L31R x y) (hgo:∀x' y',L31R x' y'->go1 x'=(go2 y').map id):i_shaBlock_L35 go1 x=(s_l2Block_L31 go2 y).map id:=by
 obtain⟨w,v,i⟩:=x
 obtain⟨k,w2,v2,i2⟩:=y
 obtain⟨h1,h2,h3,h4,h5⟩:=hr
 simp only at h1 h2 h3 h4 h5
 subst h1 h2 h4 h5
 obtain⟨v0,v1,v2,v3,v4,v5,v6,v7,rfl⟩:∃v0 v1 v2 v3 v4 v5 v6 v7,v=[v0,v1,v2,v3,v4,v5,v6,v7]:=by
  match v,h3 with
  |[v0,v1,v2,v3,v4,v5,v6,v7],_=>exact⟨_,_,_,_,_,_,_,_,rfl⟩
 unfold i_shaBlock_L35 s_l2Block_L31
 simp only
 cases hd:decide (i<64) with
 |false=>simp only[cond_false,Option.map_some,id]
 |true=>
  have g0:([v0,v1,v2,v3,v4,v5,v6,v7]:List Int)[0]?=some v0:=rfl
  have g1:([v0,v1,v2,v3,v4,v5,v6,v7]:List Int)[1]?=some v1:=rfl
  have g2:([v0,v1,v2,v3,v4,v5,v6,v7]:List Int)[2]?=some v2:=rfl
  have g3:([v0,v1,v2,v3,v4,v5,v6,v7]:List Int)[3]?=some v3:=rfl
  have g4:([v0,v1,v2,v3,v4,v5,v6,v7]:List Int)[4]?=some v4:=rfl
  have g5:([v0,v1,v2,v3,v4,v5,v6,v7]:List Int)[5]?=some v5:=rfl
  have g6:([v0,v1,v2,v3,v4,v5,v6,v7]:List Int)[6]?=some v6:=rfl
  have g7:([v0,v1,v2,v3,v4,v5,v6,v7]:List Int)[7]?=some v7:=rfl
  have t0:Int.toNat 0=0:=rfl
  have t1:Int.toNat 1=1:=rfl
  have t2:Int.toNat 2=2:=rfl
  have t3:Int.toNat 3=3:=rfl
  have t4:Int.toNat 4=4:=rfl
  have t5:Int.toNat 5=5:=rfl
  have t6:Int.toNat 6=6:=rfl
  have t7:Int.toNat 7=7:=rfl
  simp only[cond_true,t0,t1,t2,t3,t4,t5,t6,t7,g0,g1,g2,g3,g4,g5,g6,g7,Option.bind_some,r6,r11,r25,r2,r13,r22,s_turn_is]
  cases hn:decide (0<=i) with
  |false=>rfl
  |true=>
   simp only[cond_true]
   cases gv0[i.toNat]? with
   |none=>rfl
   |some a=>
    cases w[i.toNat]? with
    |none=>rfl
    |some c=>
     simp only[Option.bind_some,wadd]
     refine hgo _ _ ⟨rfl,?_,rfl,rfl,rfl⟩
     simp only
end Go.Proofs.YtacbkfginiknaaaDoor

/- The plain law: the cursor's draws come back, within their bounds. -/
import Derived.Test.YtacbkfginiknaaaDoorPVar
namespace Go.Proofs.YtacbkfginiknaaaDoor
open Go Go.Proofs.YtacbkfginiknaaaDoor.V
abbrev Cur:=List Int×Int×Int
def CI (c:Cur):Prop:=0<=c.2.1/\c.2.1<=(c.1.length:Int)/\c.1.length<=1048576
theorem and255 (b:BitVec IntKind.i64.bits):0<=IntKind.i64.wrap (((b&&&BitVec.ofInt IntKind.i64.bits 255).toNat:Nat):Int)/\IntKind.i64.wrap (((b&&&BitVec.ofInt IntKind.i64.bits 255).toNat:Nat):Int)<=255:=by
 have h:(b&&&BitVec.ofInt IntKind.i64.bits 255).toNat<=255:=by
  rw[BitVec.toNat_and]
  have:(BitVec.ofInt IntKind.i64.bits 255).toNat=255:=by decide
  rw[this];exact Nat.and_le_right
 rw[w64 (by omega) (by omega)];omega
theorem byte_tot (c:Cur) (h:CI c):Tot (s_l1Byte c) (fun y=>0<=y.1/\y.1<=255/\CI y.2):=by
 obtain⟨h1,h2,h3⟩:=h
 unfold s_l1Byte
 refine tot_bif (fun h4=>?_) (fun _=>tot_some ⟨(and255 _).1,(and255 _).2,h1,h2,h3⟩)
 have h4':c.2.1<(c.1.length:Int):=by simpa using h4
 refine tot_ok (by simpa using h1) (tot_get (by omega) fun x _=>tot_some ⟨(and255 _).1,(and255 _).2,?_,?_,h3⟩)
 ·show 0<=IntKind.i64.wrap (c.2.1+1)
  rw[w64 (by omega) (by omega)];omega
 ·show IntKind.i64.wrap (c.2.1+1)<=_
  rw[w64 (by omega) (by omega)];show c.2.1+1<=(c.1.length:Int);omega
theorem below_tot (c:Cur) (n:Int) (hc:CI c):Tot (s_l1Below (c,n)) (fun y=>0<=y.1/\(0<n->y.1<n)/\(n<=0->y.1=0)/\CI y.2):=by
 unfold s_l1Below
 refine tot_bif (fun h=>tot_some ?_) (fun h=>?_)
 ·have h':n<=0:=by simpa using h
  exact⟨Int.le_refl 0,fun h=>by omega,fun _=>rfl,hc⟩
 have hn:0<n:=by simpa using h
 refine tot_bif (fun _=>tot_bind (byte_tot c hc) fun y ⟨h1,h2,h3⟩=>tot_ok (by simp;omega) (tot_some ⟨Int.tmod_nonneg _ h1,fun _=>Int.tmod_lt_of_pos _ hn,fun h=>by omega,h3⟩)) (fun _=>?_)
 refine tot_bind (byte_tot c hc) fun a ⟨a1,a2,a3⟩=>tot_bind (byte_tot _ a3) fun b ⟨b1,b2,b3⟩=>tot_bind (byte_tot _ b3) fun d ⟨d1,d2,d3⟩=>tot_bind (byte_tot _ d3) fun e ⟨e1,e2,e3⟩=>tot_ok (by simp;omega) (tot_some ⟨Int.tmod_nonneg _ ?_,fun _=>Int.tmod_lt_of_pos _ hn,fun h=>by omega,e3⟩)
 rw[w64 (n:=a.1*16777216) (by omega) (by omega),w64 (n:=b.1*65536) (by omega) (by omega),w64 (n:=d.1*256) (by omega) (by omega)]
 rw[w64 (n:=a.1*16777216+b.1*65536) (by omega) (by omega),w64 (n:=a.1*16777216+b.1*65536+d.1*256) (by omega) (by omega),w64 (by omega) (by omega)]
 omega
theorem once_tot (c:Cur) (n:Int) (hc:CI c):Tot (s_l1Once (c,n)) (fun y=>CI y.2):=by
 unfold s_l1Once
 exact tot_bind (below_tot c n hc) fun y ⟨_,_,_,h⟩=>tot_some h
theorem pick_tot (c:Cur) (l:List Int) (hl:0<l.length) (hc:CI c):Tot (s_l1PickInt (c,l)) (fun y=>y.1∈l/\CI y.2):=by
 unfold s_l1PickInt
 refine tot_bind (below_tot c _ hc) fun y ⟨h1,h2,_,h⟩=>tot_ok (by simpa using h1) (tot_get ?_ fun x hx=>tot_some ⟨hx,h⟩)
 have:=h2 (show(0:Int)<((l.length:Nat):Int) by omega)
 omega
end Go.Proofs.YtacbkfginiknaaaDoor

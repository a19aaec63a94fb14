/- The plain law: what a scanner takes off. -/
import Derived.Test.YtacbkfginiknaaaDoorPServe
namespace Go.Proofs.YtacbkfginiknaaaDoor
open Go Go.Proofs.YtacbkfginiknaaaDoor.V
theorem iter_run {α β:Type} {S:(α->Option β)->α->Option β} (st:Nat->α) (n:Nat) (out:β) (hn:n<=72057594037927936)
  (h1:∀go i,i<n->S go (st i)=go (st (i+1))) (h2:∀go,S go (st n)=some out):iter S FUEL (st 0)=some out:=
 (iter_sum (σ:=Unit) (fun i _=>st i) n (fun _ s=>s) (fun _ _=>True) (fun _=>out) hn (fun go i _ hi _=>⟨h1 go i hi,trivial⟩) (fun go _ _=>h2 go) () trivial).1
theorem gl {n:Nat} (h:n<=100000):decide (n<=4611686018427387904)=true:=decide_eq_true (by omega)
theorem num_var2 {x:Int} (h0:0<=x) (h1:x<=562949953421311) (t:Bs):numP (varText x++t,false)=(x,t,false):=by
 have hp:=varText_pos h0 h1
 unfold numP
 simp only[rv_var h0 h1,Bool.false_eq_true,false_or]
 rw[if_neg (by omega),Int.toNat_natCast]
 simp
theorem cut_is (a t:Bs):i_scan_cut ((a++t,false),(a.length:Int))=some (a,t,false):=by
 unfold i_scan_cut
 simp only[in_i,Option.bind_some,Bool.not_false,cond_true,nnN,Bool.true_and]
 have h2:decide ((a.length:Int)<=(a.length:Int)+(t.length:Int))=true:=decide_eq_true (by omega)
 simp[h2]
theorem byte_is {n:Int} (h0:0<=n) (h1:n<256) (t:Bs):i_scan_byte ([UInt8.ofNat n.toNat]++t,false)=some (n,t,false):=by
 unfold i_scan_byte
 have:=cut_is [UInt8.ofNat n.toNat] t
 simp only[List.length_singleton] at this
 have e:((1:Nat):Int)=1:=rfl
 rw[e] at this
 rw[this]
 have hb:(UInt8.ofNat n.toNat).toNat=n.toNat:=by rw[UInt8.toNat_ofNat'];omega
 have hmx:((n.toNat:Nat):Int)=n:=by omega
 simp only[Option.bind_some]
 rw[decide_eq_false (by simp),cond_false]
 show some (IntKind.i64.wrap (((UInt8.ofNat n.toNat).toNat:Nat):Int),t,false)=_
 rw[hb,hmx,w64 (by omega) (by omega)]
theorem varText_ne {x:Int} (h0:0<=x) (h1:x<=562949953421311) (t:Bs):varText x++t≠[]:=fun h=>by
 have hp:=varText_pos h0 h1
 have:=congrArg List.length h
 simp only[List.length_append,List.length_nil] at this;omega
end Go.Proofs.YtacbkfginiknaaaDoor

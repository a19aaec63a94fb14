/- The plain law: drawn servings come back. -/
import Derived.Test.YtacbkfginiknaaaDoorPDrawReg
namespace Go.Proofs.YtacbkfginiknaaaDoor
open Go Go.Proofs.YtacbkfginiknaaaDoor.V
theorem any_tot2 (c:Cur) (n:Int) (hn:0<n) (hn2:n<=100) (hc:CI c):Tot (s_l12Any (c,n)) (fun z=>z.1.2.2.length<=300/\CI z.2):=by
 unfold s_l12Any
 refine tot_bind (reg_tot c n hn hn2 hc) fun z ⟨zw,zc,zs⟩=>tot_bind (once_tot _ _ zc) fun a ac=>tot_bif (fun _=>tot_some ⟨by simp only;omega,ac⟩) fun _=>tot_bind (below_pos _ 6 (by omega) ac) fun k ⟨_,_,kc⟩=>?_
 have h3:=zw.a3
 have h6:=zw.v6
 refine tot_if (fun _=>?_) fun _=>tot_if (fun _=>?_) fun _=>tot_if (fun _=>?_) fun _=>tot_if (fun _=>?_) fun _=>tot_if (fun _=>?_) fun _=>?_
 ·refine tot_ok ?_ (tot_some ⟨by simp only;omega,kc⟩)
  rw[decide_eq_true (show z.1.2.1.length+1<=4294967296 by omega)];rfl
 ·refine tot_bind (below_pos _ 3 (by omega) kc) fun a ⟨a0,a1,ac⟩=>tot_bind (below_pos _ 4 (by omega) ac) fun b ⟨_,_,bc⟩=>tot_okd a0 (tot_get (by omega) fun _ _=>tot_get (by omega) fun _ _=>tot_some ⟨by simp only;omega,bc⟩)
 ·refine tot_if (fun h=>?_) fun _=>tot_some ⟨by simp only;omega,kc⟩
  exact tot_bind (below_pos _ 6 (by omega) kc) fun a ⟨_,_,ac⟩=>tot_get (by simp;omega) fun _ _=>tot_get (by omega) fun _ _=>tot_some ⟨by simp only;omega,ac⟩
 ·refine tot_if (fun h=>?_) fun _=>tot_some ⟨by simp only;omega,kc⟩
  exact tot_get (by simp;omega) fun _ _=>tot_get (by omega) fun _ _=>tot_okd (by omega) (tot_some ⟨by simp only;omega,kc⟩)
 ·exact tot_bind (below_pos _ 8 (by omega) kc) fun a ⟨_,_,ac⟩=>tot_bind (below_pos _ 3 (by omega) ac) fun _ ⟨_,_,bc⟩=>tot_okd (by omega) (tot_some ⟨by simp only[len_push];omega,bc⟩)
 ·refine tot_if (fun h=>?_) fun _=>tot_some ⟨by simp only;omega,kc⟩
  exact tot_get (by simp;omega) fun _ _=>tot_get (by omega) fun v hv=>tot_bind (spoil_tot _ _ (by have:=zw.hash v hv;omega) kc) fun _ ⟨_,sc⟩=>tot_get (by simp;omega) fun _ _=>tot_get (by omega) fun _ _=>tot_some ⟨by simp only;omega,sc⟩
theorem drawServe_tot (x:List Int) (hx:x.length<=1048576):TotT (s_DrawServe x):=by
 unfold s_DrawServe
 refine Tot.t (Q:=fun _=>True) (tot_bind (new_tot x hx) fun c hc=>tot_bind (op_tot c hc) fun o ⟨_,oc⟩=>tot_bind (size_tot x hx) fun m ⟨m0,m1⟩=>tot_bind (any_tot2 _ m m0 (by omega) oc) fun z ⟨z1,z2⟩=>tot_bind (below_pos _ 8 (by omega) z2) fun cl ⟨_,_,cc⟩=>tot_bindT (last_tot _ _ (by omega)) fun l=>tot_bind (below_pos _ 4 (by omega) cc) fun a ⟨_,_,ac⟩=>tot_bind (below_pos _ 50 (by omega) ac) fun b ⟨_,_,bc⟩=>tot_bind (once_tot _ _ bc) fun d dc=>?_)
 repeat' first
  |exact tot_some trivial
  |refine tot_bind (pick_tot _ _ (by simp) (by assumption)) (fun _ ⟨_,_⟩=>?_)
  |refine tot_bind (once_tot _ _ (by assumption)) (fun _ _=>?_)
  |refine tot_bif (fun _=>?_) (fun _=>?_)
end Go.Proofs.YtacbkfginiknaaaDoor

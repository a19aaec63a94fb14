/- The plain law: drawn registries come back. -/
import Derived.Test.YtacbkfginiknaaaDoorPDrawOp
namespace Go.Proofs.YtacbkfginiknaaaDoor
open Go Go.Proofs.YtacbkfginiknaaaDoor.V
def SeI (r:RegT) (x:Int×RegT×Int):Prop:=x.2.1=r/\0<=x.2.2/\x.2.2<=(r.2.2.length:Int)
theorem ses_tot (r:RegT) (cl:Int) (hs:r.2.2.length<=1000):Tot (s_l12Session (r,cl)) (fun z=>0<=z.1/\z.1<=(r.2.2.length:Int)/\(z.2=true->z.1<(r.2.2.length:Int))):=by
 unfold s_l12Session
 refine tot_bind (iter_tot (S:=s_l12Session_L7) (fun x=>((r.2.2.length:Int)-x.2.2).toNat) (SeI r) (fun z=>∀y,z= .inr y->0<=y.1/\y.1<(r.2.2.length:Int)) (fun go x hx hgo=>?_) FUEL _ ⟨rfl,by simp,by simp⟩ (fuel_lt (by simp only;omega))) fun z hz=>?_
 ·obtain⟨c,r',i⟩:=x
  obtain⟨h1,h2,h3⟩:=hx
  simp only at h1 h2 h3 hgo
  subst h1
  unfold s_l12Session_L7
  refine tot_if (fun hi=>?_) (fun _=>tot_some fun y hy=>by cases hy)
  simp only at hi
  have e:IntKind.i64.wrap (i+1)=i+1:=w64 (by omega) (by omega)
  simp only[e]
  refine tot_okd h2 (tot_get (by omega) fun _ _=>tot_if (fun _=>tot_okd h2 (tot_get (by omega) fun _ _=>tot_some fun y hy=>?_)) (fun _=>hgo _ ⟨rfl,by simp only;omega,by simp only;omega⟩ (by simp only;omega)))
  cases hy
  exact⟨h2,hi⟩
 ·cases z with
  |inl _=>exact tot_some ⟨by simp,by simp,fun h=>by cases h⟩
  |inr y=>have:=hz y rfl;exact tot_some ⟨this.1,by simp only;omega,fun _=>this.2⟩
theorem last_tot (r:RegT) (cl:Int) (hs:r.2.2.length<=1000):TotT (s_l12Last (r,cl)):=by
 unfold s_l12Last
 obtain⟨⟨i,b⟩,hz,h0,h1,h2⟩:=ses_tot r cl hs
 simp only[hz,Option.bind_some]
 cases b with
 |false=>exact totT_some _
 |true=>
  have:=h2 rfl
  simp only at h0 this
  simp only[Bool.not_true,cond_false]
  rw[decide_eq_true h0,cond_true,List.getElem?_eq_getElem (show i.toNat<r.2.2.length by omega)]
  exact totT_some _
theorem serve_tot {r:RegT} (hr:WD r) (hs:r.2.2.length<=999) (cl se ix:Int) (o:OpT):Tot (s_l12Serve (r,cl,se,o,ix)) (fun z=>WD z.1/\z.1.2.2.length<=r.2.2.length+1):=by
 have hst:∀ {a:Ans} {b:Bool},Tot (some (r,a,b)) (fun z:RegT×Ans×Bool=>WD z.1/\z.1.2.2.length<=r.2.2.length+1):=tot_some ⟨hr,by simp⟩
 unfold s_l12Serve
 simp only[in_s,Option.bind_some,bOr]
 refine tot_bif (fun _=>hst) fun _=>tot_bindT (last_tot r cl (by omega)) fun l=>tot_bif (fun _=>hst) fun _=>tot_bif (fun _=>hst) fun _=>tot_bind (s_do_tot hr o) fun z ⟨g1,g2⟩=>?_
 have gl:z.1.2.2.length=r.2.2.length:=by rw[g2]
 refine tot_bind (ses_tot z.1 cl (by omega)) fun y ⟨y0,y1,y2⟩=>tot_bif (fun hb=>?_) fun _=>?_
 ·have:=y2 hb
  exact tot_okd y0 (tot_get (by omega) fun _ _=>tot_get (by omega) fun _ _=>tot_some ⟨⟨g1.v6,g1.a3,g1.act,g1.hash⟩,by simp only[List.length_set];omega⟩)
 ·have hb:(decide (0<=y.1)&&decide (y.1<=(z.1.2.2.length:Int)))=true:=by simp only[Bool.and_eq_true,decide_eq_true_eq];exact⟨y0,y1⟩
  refine tot_ok hb (tot_okd (by simp only[List.length_take];omega) (tot_okd (by simp only[List.length_take];omega) (tot_ok hb (tot_okd (by simp only[List.length_append,List.length_take,List.length_drop,List.length_cons,List.length_nil];omega) (tot_some ⟨⟨g1.v6,g1.a3,g1.act,g1.hash⟩,?_⟩)))))
  simp only[List.length_append,List.length_take,List.length_drop,List.length_cons,List.length_nil];omega
theorem new_wd:WD (([],List.replicate (Int.toNat 3) 0,[]):RegT):=⟨by simp,rfl,fun a ha=>by
 have:a=0:=List.eq_of_mem_replicate ha
 rw[this];simp,fun v hv=>by cases hv⟩
theorem reg_tot (c:Cur) (n:Int) (hn:0<n) (hn2:n<=100) (hc:CI c):Tot (s_l12Reg (c,n)) (fun z=>WD z.1/\CI z.2/\z.1.2.2.length<=200):=by
 unfold s_l12Reg
 have e:s_NewReg ()=some ([],List.replicate (Int.toNat 3) 0,[]):=rfl
 rw[e]
 simp only[Option.bind_some]
 refine tot_bind (below_pos c n hn hc) fun y ⟨y0,y1,yc⟩=>tot_bind (iter_tot (S:=s_l12Reg_L9) (fun x=>x.2.2.toNat) (fun x=>CI x.1/\WD x.2.1/\0<=x.2.2/\x.2.2<=100/\(x.2.1.2.2.length:Int)+x.2.2<=100) (fun z=>CI z.1/\WD z.2/\z.2.2.2.length<=200) (fun go x hx hgo=>?_) FUEL _ ⟨yc,new_wd,y0,by simp only;omega,by simp;omega⟩ (fuel_lt (by simp only;omega))) fun z ⟨z1,z2,z3⟩=>tot_some ⟨z2,z1,z3⟩
 obtain⟨c,r,n⟩:=x
 obtain⟨h1,h2,h3,h4,h5⟩:=hx
 simp only at h1 h2 h3 h4 h5 hgo
 unfold s_l12Reg_L9
 refine tot_if (fun hi=>?_) (fun _=>tot_some ⟨h1,h2,by simp only;omega⟩)
 simp only at hi
 have e:IntKind.i64.wrap (n-1)=n-1:=w64 (by omega) (by omega)
 simp only[e]
 refine tot_bind (below_pos c 6 (by omega) h1) fun a ⟨_,_,ac⟩=>tot_bindT (last_tot r _ (by omega)) fun l=>tot_bind (op_tot _ ac) fun o ⟨_,oc⟩=>tot_bind (serve_tot h2 (by omega) _ _ _ _) fun z ⟨z1,z2⟩=>?_
 exact hgo _ ⟨oc,z1,by simp only;omega,by simp only;omega,by simp only;omega⟩ (by simp only;omega)
theorem size_tot (x:List Int) (hx:x.length<=1048576):Tot (s_l1Size (x,20)) (fun m=>0<m/\m<=20):=by
 unfold s_l1Size
 have e1:Int.tdiv ((x.length:Nat):Int) 20=((x.length/20:Nat):Int):=rfl
 have e2:IntKind.i64.wrap ((x.length/20:Nat):Int)=((x.length/20:Nat):Int):=w64 (by omega) (by omega)
 have e3:IntKind.i64.wrap (2+((x.length/20:Nat):Int))=2+((x.length/20:Nat):Int):=w64 (by omega) (by omega)
 simp only[e1,e2,e3]
 exact tot_if (fun _=>tot_some ⟨by omega,by omega⟩) (fun h=>tot_some ⟨by omega,by omega⟩)
end Go.Proofs.YtacbkfginiknaaaDoor

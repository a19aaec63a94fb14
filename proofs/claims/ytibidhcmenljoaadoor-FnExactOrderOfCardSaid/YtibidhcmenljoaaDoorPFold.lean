/- The plain law: a registry behind entries, and the turns: the program's fold is the reference's. -/
import Derived.Test.YtibidhcmenljoaaDoorPReadCmd
import Derived.Test.YtibidhcmenljoaaDoorPServeI
namespace Go.Proofs.YtibidhcmenljoaaDoor
open Go Go.Proofs.YtibidhcmenljoaaDoor.V
abbrev Ent:=Int×Bs
abbrev TurnT:=Int×Int×OpT×Ans
abbrev FoldT:=RegT×List TurnT
def reg0:RegT:=([],List.replicate (Int.toNat 3) 0,[])
theorem reg0_right:RegP reg0:=by
 refine⟨by simp[reg0],by simp[reg0],by simp[reg0],fun i x hx=>by simp[reg0] at hx,fun a ha=>?_,by simp[reg0,allFrom]⟩
 have:a=0:=List.eq_of_mem_replicate ha
 subst this
 simp
noncomputable def foldE (e:Ent) (ix:Int) (s:FoldT):FoldT:=
 bif (rdC e.2).2 then
  ((servP s.1 (rdC e.2).1.1 (rdC e.2).1.2.1 (rdC e.2).1.2.2 ix).1,
   bif (servP s.1 (rdC e.2).1.1 (rdC e.2).1.2.1 (rdC e.2).1.2.2 ix).2.2 then s.2++[((rdC e.2).1.1,(rdC e.2).1.2.1,(rdC e.2).1.2.2,(servP s.1 (rdC e.2).1.1 (rdC e.2).1.2.1 (rdC e.2).1.2.2 ix).2.1)] else s.2)
 else s
noncomputable def foldF (es:List Ent) (i:Nat) (s:FoldT):FoldT:=match es[i]? with
 |some e=>foldE e ((i+1:Nat):Int) s
 |none=>s
noncomputable def foldP (es:List Ent) (n:Nat):FoldT:=sumI (foldF es) n 0 (reg0,[])
def FoldI (i:Nat) (s:FoldT):Prop:=RegP s.1/\s.2.length<=i
theorem foldE_right {e:Ent} {ix:Int} {s:FoldT} {i:Nat} (h:FoldI i s):FoldI (i+1) (foldE e ix s):=by
 obtain⟨h1,h2⟩:=h
 unfold foldE
 cases(rdC e.2).2 with
 |false=>exact⟨h1,Nat.le_succ_of_le h2⟩
 |true=>
  refine⟨serv_right h1 _ _ _ _,?_⟩
  simp only[cond_true]
  cases(servP s.1 (rdC e.2).1.1 (rdC e.2).1.2.1 (rdC e.2).1.2.2 ix).2.2 with
  |false=>exact Nat.le_succ_of_le h2
  |true=>simp only[cond_true,List.length_append,List.length_singleton];omega
theorem foldF_right {es:List Ent} {i:Nat} {s:FoldT} (h:FoldI i s):FoldI (i+1) (foldF es i s):=by
 unfold foldF
 cases es[i]? with
 |none=>exact⟨h.1,Nat.le_succ_of_le h.2⟩
 |some e=>exact foldE_right h
theorem i_newReg:i_NewReg ()=some reg0:=rfl
theorem s_newReg:s_NewReg ()=some reg0:=rfl
theorem i_folded_is {es:List Ent} (hl:es.length<=1000000):i_folded es=some (foldP es es.length):=by
 unfold i_folded
 rw[i_newReg,Option.bind_some]
 have e:=iter_sum (S:=i_folded_L11) (fun i (s:FoldT)=>(s.1,s.2,es,(es.length:Int),(i:Int))) es.length (foldF es) FoldI (fun s=>(s.2,s.1)) (by omega) (fun go i s hi hs=>by
  refine⟨?_,foldF_right hs⟩
  have hat:=List.getElem?_eq_getElem hi
  unfold i_folded_L11
  simp only[decN,Int.toNat_natCast,nnN,cond_true]
  rw[decide_eq_true hi,cond_true,hat,Option.bind_some,i_ReadCmd_is,Option.bind_some,wSucc (by omega)]
  unfold foldF
  rw[hat]
  simp only[foldE]
  cases(rdC es[i].2).2 with
  |false=>rfl
  |true=>
   simp only[Bool.not_true,cond_false,cond_true]
   rw[i_serve_is hs.1]
   simp only[Option.bind_some]
   cases(servP s.1 (rdC es[i].2).1.1 (rdC es[i].2).1.2.1 (rdC es[i].2).1.2.2 ((i+1:Nat):Int)).2.2 with
   |false=>rfl
   |true=>
    have:=hs.2
    simp only[cond_true]
    rw[decide_eq_true (by omega),cond_true]) (fun go s _=>by
  unfold i_folded_L11
  simp) (reg0,[]) ⟨reg0_right,Nat.le_refl _⟩
 have e1:=e.1
 simp only[List.replicate] at e1 ⊢
 rw[show((0:Nat):Int)=0 from rfl] at e1
 rw[e1]
 rfl
theorem s_fold_is {es:List Ent} {n:Nat} (hn:n<=es.length) (hl:es.length<=1000000) (hd:∀e∈es,e.2.length<=1000000000):s_l21Fold (es,(n:Int))=some (foldP es n):=by
 unfold s_l21Fold
 rw[s_newReg,Option.bind_some]
 have e:=iter_sum (S:=s_l21Fold_L11) (fun i (s:FoldT)=>(es,(n:Int),s.1,s.2,(i:Int))) n (foldF es) FoldI (fun s=>(s.2,s.1)) (by omega) (fun go i s hi hs=>by
  refine⟨?_,foldF_right hs⟩
  have hi':i<es.length:=by omega
  have hat:=List.getElem?_eq_getElem hi'
  unfold s_l21Fold_L11
  simp only[decN,Int.toNat_natCast,nnN,cond_true]
  rw[decide_eq_true hi,cond_true,hat,Option.bind_some,s_ReadCmd_is (hd _ (List.getElem_mem hi')),Option.bind_some,wSucc (by omega)]
  unfold foldF
  rw[hat]
  simp only[foldE]
  cases(rdC es[i].2).2 with
  |false=>rfl
  |true=>
   simp only[Bool.not_true,cond_false,cond_true]
   rw[s_serve_is hs.1]
   simp only[Option.bind_some]
   cases(servP s.1 (rdC es[i].2).1.1 (rdC es[i].2).1.2.1 (rdC es[i].2).1.2.2 ((i+1:Nat):Int)).2.2 with
   |false=>rfl
   |true=>
    have:=hs.2
    simp only[cond_true]
    rw[decide_eq_true (by omega),cond_true]) (fun go s _=>by
  unfold s_l21Fold_L11
  simp) (reg0,[]) ⟨reg0_right,Nat.le_refl _⟩
 have e1:=e.1
 simp only[List.replicate] at e1 ⊢
 rw[show((0:Nat):Int)=0 from rfl] at e1
 rw[e1]
 rfl
theorem fold_right (es:List Ent) (n:Nat):FoldI n (foldP es n):=by
 have:∀ (k i:Nat) (s:FoldT),FoldI i s->FoldI (i+k) (sumI (foldF es) k i s):=by
  intro k
  induction k with
  |zero=>intro i s h;exact h
  |succ k ih=>intro i s h;rw[sumI,show i+(k+1)=i+1+k by omega];exact ih _ _ (foldF_right h)
 have:=this n 0 (reg0,[]) ⟨reg0_right,Nat.le_refl _⟩
 rwa [Nat.zero_add] at this
end Go.Proofs.YtibidhcmenljoaaDoor

/- The plain law of FnExactFoldReg. -/
import Derived.Test.YtibidhcmenljoaaDoorPEnts
namespace Go.Proofs.YtibidhcmenljoaaDoor
open Go Go.Proofs.YtibidhcmenljoaaDoor.V
theorem few_of {r:RegT} (hr:RegP r):Few r:=⟨by have:=hr.v6;omega,by have:=hr.a3;omega,by have:=hr.s6;omega⟩
theorem few_nil:Few ([],[],[]):=⟨by simp,by simp,by simp⟩
theorem foldP_take {es:List Ent} {n:Nat} (hn:n<=es.length):foldP (es.take n) n=foldP es n:=by
 unfold foldP
 have key:∀ (k i:Nat) (s:FoldT),i+k<=n->sumI (foldF (es.take n)) k i s=sumI (foldF es) k i s:=by
  intro k
  induction k with
  |zero=>intro i s _;rfl
  |succ k ih=>
   intro i s h
   rw[sumI,sumI,ih (i+1) _ (by omega)]
   have:foldF (es.take n) i s=foldF es i s:=by unfold foldF;rw[List.getElem?_take,if_pos (by omega)]
   rw[this]
 exact key n 0 _ (by omega)
theorem foldReg_is {es:List Ent} (n:Int) (h:∀e∈es,e.2.length<=1048576):∃x:RegT×Bool,Few x.1/\s_FoldReg (es,n)=some x/\i_FoldReg (es,n)=some x:=by
 unfold s_FoldReg i_FoldReg
 simp only[in_i,in_s,Option.bind_some]
 by_cases q:(400:Int)<(es.length:Int)
 ·rw[decide_eq_true q]
  exact⟨(([],[],[]),false),few_nil,rfl,rfl⟩
 ·rw[decide_eq_false q]
  simp only[Bool.not_false,cond_true]
  by_cases q2:0<=n/\n<=(es.length:Int)
  ·obtain⟨m,rfl⟩:∃m:Nat,n=(m:Int):=⟨n.toNat,by omega⟩
   have hm:m<=es.length:=by omega
   rw[decide_eq_true q2.1,decide_eq_true q2.2]
   simp only[Bool.and_self,Bool.not_true,cond_false,cond_true,Option.bind_some,Int.toNat_natCast]
   have hl:(es.take m).length=m:=by rw[List.length_take];omega
   have e1:=i_folded_is (es:=es.take m) (by omega)
   rw[hl,foldP_take hm] at e1
   rw[s_fold_is hm (by omega) (fun e he=>by have:=h e he;omega),e1]
   exact⟨_,few_of (fold_right es m).1,rfl,rfl⟩
  ·have:(decide (0<=n)&&decide (n<=(es.length:Int)))=false:=by
    by_cases h0:0<=n
    ·rw[decide_eq_true h0,decide_eq_false (fun h1=>q2 ⟨h0,h1⟩)];rfl
    ·rw[decide_eq_false h0];rfl
   rw[this]
   exact⟨(([],[],[]),false),few_nil,rfl,rfl⟩
theorem law7 {x:List Ent×Int} (h1:x.1.length<=maxLen) (h2:∀e∈x.1,e.2.length<=maxLen):w_FnExactFoldReg x=some true:=by
 unfold w_FnExactFoldReg
 obtain⟨n,hn,n1,n2⟩:=szEntryS_is (l:=1048576) h1 h2 (by omega) (by omega)
 rw[hn,Option.bind_some]
 by_cases q:n<0
 ·rw[decide_eq_true q];rfl
 rw[decide_eq_false q,cond_false]
 obtain⟨k1,k2⟩:=n2 (by omega)
 obtain⟨g,hf,e1,e2⟩:=foldReg_is x.2 k2
 obtain⟨ke,oe,me,he⟩:=markEntryS_is k1
 obtain⟨k,r1,m1,m2,m3⟩:=markReg_is hf
 simp only[toEntryS_is k1,e1,e2,Option.bind_some,eqReg_refl hf,eqEntryS_refl k1,me,m1,m3,decide_eq_false (show ¬ke<0 by omega),decide_eq_false (show ¬k<0 by omega),decide_true]
 simp
theorem law7W (x:List Ent×Int) (hx:WFs [.sl 148 t148,.int .i64] x):w_FnExactFoldReg x=some true:=
 law7 hx.1.1 (fun e he=>(hx.1.2 e he).2)
end Go.Proofs.YtibidhcmenljoaaDoor

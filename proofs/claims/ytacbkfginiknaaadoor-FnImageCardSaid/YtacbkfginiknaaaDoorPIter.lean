/- Loops by the place where they stand: the first place that fits; a sum over the places. -/
import Derived.Test.YtacbkfginiknaaaDoorPReg
namespace Go.Proofs.YtacbkfginiknaaaDoor
open Go Go.Proofs.YtacbkfginiknaaaDoor.V
def fstI (p:Nat->Bool):Nat->Nat->Option Nat
 |0,_=>none
 |k+1,i=>bif p i then some i else fstI p k (i+1)
theorem fstI_some {p:Nat->Bool}:∀ {k i j:Nat},fstI p k i=some j->i<=j/\j<i+k/\p j=true/\∀m,i<=m->m<j->p m=false:=by
 intro k
 induction k with
 |zero=>intro i j h;cases h
 |succ k ih=>
  intro i j h
  unfold fstI at h
  cases hp:p i with
  |true=>rw[hp] at h;cases h;exact⟨Nat.le_refl _,by omega,hp,fun m h1 h2=>by omega⟩
  |false=>
   rw[hp] at h
   obtain⟨h1,h2,h3,h4⟩:=ih h
   refine⟨by omega,by omega,h3,fun m m1 m2=>?_⟩
   by_cases hm:m=i
   ·rw[hm];exact hp
   ·exact h4 m (by omega) m2
theorem fstI_none {p:Nat->Bool}:∀ {k i:Nat},fstI p k i=none->∀m,i<=m->m<i+k->p m=false:=by
 intro k
 induction k with
 |zero=>intro i h m h1 h2;omega
 |succ k ih=>
  intro i h m h1 h2
  unfold fstI at h
  cases hp:p i with
  |true=>rw[hp] at h;cases h
  |false=>
   rw[hp] at h
   by_cases hm:m=i
   ·rw[hm];exact hp
   ·exact ih h m (by omega) (by omega)
def fstS {β γ:Type} (u:β) (out:Nat->γ):Option Nat->β⊕γ
 |none=>.inl u
 |some j=>.inr (out j)
theorem iter_fst {α β γ:Type} {S:(α->Option (β⊕γ))->α->Option (β⊕γ)} (st:Nat->α) (n:Nat) (p:Nat->Bool) (u:β) (out:Nat->γ) (hn:n<=72057594037927936)
  (h1:∀go i,i<n->S go (st i)=bif p i then some (.inr (out i)) else go (st (i+1))) (h2:∀go,S go (st n)=some (.inl u)):iter S FUEL (st 0)=some (fstS u out (fstI p n 0)):=by
 have:∀ (k f i:Nat),n-i=k->i<=n->k<f->iter S f (st i)=some (fstS u out (fstI p (n-i) i)):=by
  intro k
  induction k with
  |zero=>
   intro f i hk hi hf
   obtain⟨f,rfl⟩:∃g,f=g+1:=⟨f-1,by omega⟩
   have:i=n:=by omega
   subst this
   rw[Nat.sub_self]
   exact h2 _
  |succ k ih=>
   intro f i hk hi hf
   obtain⟨f,rfl⟩:∃g,f=g+1:=⟨f-1,by omega⟩
   have e:iter S (f+1) (st i)=S (iter S f) (st i):=rfl
   rw[e,h1 _ i (by omega),show n-i=(n-(i+1))+1 by omega,fstI]
   cases p i with
   |true=>rfl
   |false=>exact ih f (i+1) (by omega) (by omega) (by omega)
 exact this n FUEL 0 (by omega) (by omega) (fuel_lt hn)
def sumI {σ:Type} (f:Nat->σ->σ):Nat->Nat->σ->σ
 |0,_,s=>s
 |k+1,i,s=>sumI f k (i+1) (f i s)
theorem iter_sum {α β σ:Type} {S:(α->Option β)->α->Option β} (st:Nat->σ->α) (n:Nat) (f:Nat->σ->σ) (I:Nat->σ->Prop) (out:σ->β) (hn:n<=72057594037927936)
  (h1:∀go i s,i<n->I i s->S go (st i s)=go (st (i+1) (f i s))/\I (i+1) (f i s)) (h2:∀go s,I n s->S go (st n s)=some (out s)) (s:σ) (h0:I 0 s):
  iter S FUEL (st 0 s)=some (out (sumI f n 0 s))/\I n (sumI f n 0 s):=by
 have:∀ (k fu i:Nat) (s:σ),n-i=k->i<=n->I i s->k<fu->iter S fu (st i s)=some (out (sumI f (n-i) i s))/\I n (sumI f (n-i) i s):=by
  intro k
  induction k with
  |zero=>
   intro fu i s hk hi hs hf
   obtain⟨fu,rfl⟩:∃g,fu=g+1:=⟨fu-1,by omega⟩
   have:i=n:=by omega
   subst this
   rw[Nat.sub_self]
   exact⟨h2 _ _ hs,hs⟩
  |succ k ih=>
   intro fu i s hk hi hs hf
   obtain⟨fu,rfl⟩:∃g,fu=g+1:=⟨fu-1,by omega⟩
   have e:iter S (fu+1) (st i s)=S (iter S fu) (st i s):=rfl
   obtain⟨g1,g2⟩:=h1 (iter S fu) i s (by omega) hs
   rw[e,g1,show n-i=(n-(i+1))+1 by omega,sumI]
   exact ih fu (i+1) _ (by omega) (by omega) g2 (by omega)
 exact this n FUEL 0 s (by omega) (by omega) h0 (fuel_lt hn)
end Go.Proofs.YtacbkfginiknaaaDoor

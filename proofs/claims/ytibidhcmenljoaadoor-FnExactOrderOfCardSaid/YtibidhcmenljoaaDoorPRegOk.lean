/- The plain law: the program's RegOk is the reference's (second part). -/
import Derived.Test.YtibidhcmenljoaaDoorPReg
namespace Go.Proofs.YtibidhcmenljoaaDoor
open Go Go.Proofs.YtibidhcmenljoaaDoor.V
def ansB (a:Ans):Bool:=decide ((0<=a.1/\a.1<=5)/\(0<=a.2.1/\a.2.1<=6)/\(0<=a.2.2.1/\a.2.2.1<=4)/\(a.2.2.2.1.length=0\/a.2.2.2.1.length=32)/\(0<=a.2.2.2.2.1/\a.2.2.2.2.1<=250)/\(0<=a.2.2.2.2.2/\a.2.2.2.2.2<=100000))
theorem dpos (a:Nat):decide ((0:Int)<(a:Int))= !decide (a=0):=by
 by_cases h:a=0
 ·simp[h]
 ·simp[h];omega
noncomputable def okSes (l:List Ses) (k:Nat):Bool:=match l[k]? with
 |some s=>(decide (1<=s.1)&&decide (s.1<=6))&&(match k with|0=>true|j+1=>(match l[j]? with|some p=> !decide (s.1<=p.1)|none=>false))&&(decide (1<=s.2.1)&&decide (s.2.1<=1000000))&&ansB s.2.2
 |none=>true
theorem cnt_pos {n:Int} {l:List Int} (h:n∈l):0<cnt n l:=List.count_pos_iff.2 h
structure RegP (r:RegT):Prop where
 v6:r.1.length<=6
 a3:r.2.1.length=3
 s6:r.2.2.length<=6
 ver:∀ (i:Nat) (x:Ver),r.1[i]?=some x->(rc x.1).2=true/\(∀ (j:Nat) (y:Ver),j<i->r.1[j]?=some y->y.1≠x.1)/\x.2.1=sha x.1/\1<=x.2.2/\x.2.2<=4/\cnt ((i:Int)+1) r.2.1=if x.2.2=2 then 1 else 0
 act:∀a∈r.2.1,0<=a/\a<=(r.1.length:Int)
 ses:allFrom (okSes r.2.2) r.2.2.length 0=true
end Go.Proofs.YtibidhcmenljoaaDoor

/- The evaluator: typed values, places, operations, code; nothing is proved here. -/
import Derived.Test.YtopeacfbcdoljaaProg
import Derived.WalkKit
import Derived.KernelRfl
namespace Go.Proofs.Ytopeacfbcdoljaa.V
open Go

inductive Ty where
  | int (k : IntKind)
  | bool
  | str
  | unit
  | pair (a b : Ty)
  | st (t : Ty)
  | arr (n : Nat) (t : Ty)
  | sl (e : TypeId) (t : Ty)
  deriving DecidableEq

namespace Ty
@[reducible] def den : Ty → Type
  | int _ => Int
  | bool => Bool
  | str => List UInt8
  | unit => Unit
  | pair a b => a.den × b.den
  | st t => t.den
  | arr _ t => List t.den
  | sl _ t => List t.den
/-- Cells. -/
def size : Ty → Nat
  | int _ | bool | str | sl _ _ => 1
  | unit => 0
  | pair a b => a.size + b.size
  | st t => t.size
  | arr n t => n * t.size
/-- Slices outside of slices. -/
def nl : Ty → Nat
  | sl _ _ => 1
  | pair a b => a.nl + b.nl
  | st t => t.nl
  | _ => 0
/-- Arrays hold no slices. -/
def ok : Ty → Bool
  | pair a b => a.ok && b.ok
  | st t => t.ok
  | arr _ t => t.ok && t.nl == 0
  | sl _ t => t.ok && decide (0 < t.size)
  | _ => true
def agg : Ty → Bool
  | st _ | arr _ _ => true
  | _ => false
def zero : (t : Ty) → t.den
  | int _ => (0 : Int)
  | bool => false
  | str => ([] : List UInt8)
  | unit => ()
  | pair a b => (a.zero, b.zero)
  | st t => t.zero
  | arr n t => List.replicate n t.zero
  | sl _ t => ([] : List t.den)
def beq : Ty → Ty → Bool
  | int k, int k' => k == k'
  | bool, bool => true
  | str, str => true
  | unit, unit => true
  | pair a b, pair c d => beq a c && beq b d
  | st a, st b => beq a b
  | arr n a, arr m b => n == m && beq a b
  | sl e a, sl f b => e == f && beq a b
  | _, _ => false
theorem eq_of_beq : ∀ {a b : Ty}, beq a b = true → a = b := by
  intro a
  induction a with
  | int k => intro b h; cases b <;> simp [beq] at h; subst h; rfl
  | bool => intro b h; cases b <;> simp [beq] at h; rfl
  | str => intro b h; cases b <;> simp [beq] at h; rfl
  | unit => intro b h; cases b <;> simp [beq] at h; rfl
  | pair a b iha ihb => intro c h; cases c <;> simp [beq] at h; rw [iha h.1, ihb h.2]
  | st a ih => intro c h; cases c <;> simp [beq] at h; rw [ih h]
  | arr n a ih => intro c h; cases c <;> simp [beq] at h; rw [h.1, ih h.2]
  | sl e a ih => intro c h; cases c <;> simp [beq] at h; rw [h.1, ih h.2]
/-- Equality as the machine tells it (no slices). -/
def eqb : (t : Ty) → t.den → t.den → Bool
  | int _, x, y => decide ((x : Int) = y)
  | bool, x, y => (x : Bool) == y
  | str, x, y => decide ((x : List UInt8) = y)
  | unit, _, _ => true
  | pair a b, x, y => eqb a x.1 y.1 && eqb b x.2 y.2
  | st t, x, y => eqb t x y
  | arr _ _, _, _ => false
  | sl _ _, _, _ => false
def comparable : Ty → Bool
  | int _ | bool | str | unit => true
  | pair a b => a.comparable && b.comparable
  | st t => t.comparable
  | _ => false
end Ty

inductive Sel where
  | fst | snd
  | ix (i : Nat)
inductive Root where
  | tmp (i : Nat)
  | bx (i : Nat)
structure Home where
  root : Root
  path : List Sel
/-- A value with its slices' tokens, in order (0: frozen; 1: nil; from 2 on: made here). -/
structure Val where
  t : Ty
  v : t.den
  ms : List Nat
inductive Slot where
  | no
  | val (x : Val) (h : Option Home)
  | nilsl
  /-- A pointer into a box of type r, along a path, to a t. -/
  | ptr (id : Nat) (r : Ty) (p : List Sel) (t : Ty)
  /-- A pointer into element i (of type u) of the slice that stands at h with a token that comes out of τ's. -/
  | eptr (h : Home) (τ : Nat) (i : Nat) (u : Ty) (p : List Sel) (t : Ty)
  /-- A pointer to what is read only: inside the slice with this token. -/
  | rptr (τ : Nat) (x : Val)
  | clo (f : FuncId) (caps : List Slot)
  | tup (l : List Val)
structure Bx where
  id : Nat
  x : Val
structure St where
  fr : List Slot
  bx : List Bx
  al : List Nat
  fz : List Nat
  /-- Which token came out of which by a write in place. -/
  ln : List (Nat × Nat)
  nt : Nat

def cast? (t : Ty) (x : Val) : Option (t.den × List Nat) :=
  if h : Ty.beq x.t t = true then some (Ty.eq_of_beq h ▸ x.v, x.ms) else none

/-- May what has this token be read? -/
def St.us (σ : St) (τ : Nat) : Bool := τ == 0 || τ == 1 || σ.al.contains τ || σ.fz.contains τ
/-- Is it the call's own, to be written? -/
def St.own (σ : St) (τ : Nat) : Bool := τ == 1 || σ.al.contains τ

def LIM : Nat := 4294967296
def SLIM : Nat := 4611686018427387904

section
variable {R : Type}
/-- Down a path (through no slice). -/
def getK : (t : Ty) → t.den → List Nat → List Sel → (Val → Option R) → Option R
  | t, v, ms, [], k => k ⟨t, v, ms⟩
  | .st t, v, ms, s :: p, k => getK t v ms (s :: p) k
  | .pair a _, v, ms, .fst :: p, k => getK a v.1 (ms.take a.nl) p k
  | .pair a b, v, ms, .snd :: p, k => getK b v.2 (ms.drop a.nl) p k
  | .arr _ t, v, _, .ix i :: p, k => ((v : List t.den)[i]?).bind fun x => getK t x [] p k
  | _, _, _, _, _ => none
/-- Another value at a path. -/
def setK : (t : Ty) → t.den → List Nat → List Sel → Val → (t.den → List Nat → Option R) → Option R
  | t, _, _, [], x, k => match cast? t x with
    | some (v, ms) => k v ms
    | none => none
  | .st t, v, ms, s :: p, x, k => setK t v ms (s :: p) x k
  | .pair a b, v, ms, .fst :: p, x, k => setK a v.1 (ms.take a.nl) p x fun v' ms' => k ((v', v.2) : a.den × b.den) (ms' ++ ms.drop a.nl)
  | .pair a b, v, ms, .snd :: p, x, k => setK b v.2 (ms.drop a.nl) p x fun v' ms' => k ((v.1, v') : a.den × b.den) (ms.take a.nl ++ ms')
  | .arr _ t, v, ms, .ix i :: p, x, k => ((v : List t.den)[i]?).bind fun y => setK t y [] p x fun y' _ => k ((v : List t.den).set i y') ms
  | _, _, _, _, _, _ => none
end
/-- A struct's field. -/
def fieldPath : Ty → Nat → Option (List Sel)
  | .pair _ _, 0 => some [.fst]
  | .pair _ b, i + 1 => match fieldPath b i with
    | some p => some (.snd :: p)
    | none => none
  | .unit, _ => none
  | _, 0 => some []
  | _, _ => none
def fieldTy : Ty → List Sel → Ty
  | t, [] => t
  | .pair a _, .fst :: p => fieldTy a p
  | .pair _ b, .snd :: p => fieldTy b p
  | t, _ => t

def St.find (σ : St) (id : Nat) : Option Val :=
  go σ.bx
where go : List Bx → Option Val
  | [] => none
  | b :: r => if b.id = id then some b.x else go r
def setBx (id : Nat) (x : Val) : List Bx → List Bx
  | [] => []
  | b :: r => if b.id = id then ⟨id, x⟩ :: r else b :: setBx id x r
def St.root (σ : St) : Root → Option Val
  | .tmp i => match σ.fr.getD i .no with
    | .val x _ => some x
    | _ => none
  | .bx id => σ.find id
def St.setRoot (σ : St) (root : Root) (x : Val) : St :=
  match root with
  | .tmp i => { σ with fr := σ.fr.set i (.val x none) }
  | .bx id => { σ with bx := setBx id x σ.bx }
/-- The token that another one came out of. -/
def rootTok (ln : List (Nat × Nat)) (τ : Nat) : Nat :=
  match ln with
  | [] => τ
  | (a, b) :: r => bif a == τ then rootTok r b else rootTok r τ

section
variable {R : Type}
/-- The slice at a place. -/
def rowK (σ : St) (h : Home) (k : Val → Val → Option R) : Option R :=
  match σ.root h.root with
  | some y => getK y.t y.v y.ms h.path fun z => k y z
  | none => none
/-- Through a pointer. -/
def readK (σ : St) (s : Slot) (k : Val → Option Home → Option R) : Option R :=
  match s with
  | .ptr id r p _ => (match σ.find id with
    | some y => bif Ty.beq y.t r then getK y.t y.v y.ms p fun x => k x (some ⟨.bx id, p⟩) else none
    | none => none)
  | .eptr h τ i u p _ => rowK σ h fun _ z => match z with
    | ⟨.sl _ t, xs, ms⟩ => bif σ.us (ms.headD 0) && (rootTok σ.ln (ms.headD 0) == rootTok σ.ln τ) && Ty.beq t u then
        ((xs : List t.den)[i]?).bind fun x => getK t x (List.replicate t.nl 0) p fun x => k x none
      else none
    | _ => none
  | .rptr τ x => bif σ.us τ && !(τ == 1) then k x none else none
  | _ => none
def writeK (σ : St) (s : Slot) (x : Val) (k : St → Option R) : Option R :=
  match s with
  | .ptr id r p _ => (match σ.find id with
    | some y => bif Ty.beq y.t r then setK y.t y.v y.ms p x fun v ms => k { σ with bx := setBx id ⟨y.t, v, ms⟩ σ.bx } else none
    | none => none)
  | .eptr h τ i u p _ => rowK σ h fun y z => match z with
    | ⟨.sl e t, xs, ms⟩ => bif σ.al.contains (ms.headD 0) && (rootTok σ.ln (ms.headD 0) == rootTok σ.ln τ) && Ty.beq t u && t.nl == 0 then
        ((xs : List t.den)[i]?).bind fun z => setK t z [] p x fun z' _ => setK y.t y.v y.ms h.path ⟨.sl e t, (xs : List t.den).set i z', [σ.nt]⟩ fun v ms' =>
          k ({ σ with al := σ.nt :: σ.al.erase (ms.headD 0), ln := (σ.nt, ms.headD 0) :: σ.ln, nt := σ.nt + 1 }.setRoot h.root ⟨y.t, v, ms'⟩)
      else none
    | _ => none
  | _ => none
/-- At a value's home. -/
def homeK (σ : St) (h : Home) (x : Val) (k : St → Option R) : Option R :=
  match σ.root h.root with
  | some y => setK y.t y.v y.ms h.path x fun v ms => k (σ.setRoot h.root ⟨y.t, v, ms⟩)
  | none => none
end
/-- Some slices are never written again. -/
def St.freeze (σ : St) : List Nat → St
  | [] => σ
  | τ :: r => (bif σ.al.contains τ then { σ with al := σ.al.erase τ, fz := τ :: σ.fz } else σ).freeze r

-- what a function takes and gives
inductive AK where
  | ro (t : Ty) | own (t : Ty) | mu (t : Ty) | pin (t : Ty) | pio (t : Ty)
def AK.ty : AK → Ty
  | ro t | own t | mu t | pin t | pio t => t
def AK.outs : AK → List Ty
  | mu t | pio t => [t]
  | _ => []
@[reducible] def Tup : List Ty → Type
  | [] => Unit
  | [t] => t.den
  | t :: u :: r => t.den × Tup (u :: r)
def Tup.cons {t : Ty} : {r : List Ty} → t.den → Tup r → Tup (t :: r)
  | [], v, _ => v
  | _ :: _, v, x => (v, x)
def Tup.hd {t : Ty} : {r : List Ty} → Tup (t :: r) → t.den
  | [], v => v
  | _ :: _, x => x.1
def Tup.tl {t : Ty} : {r : List Ty} → Tup (t :: r) → Tup r
  | [], _ => ()
  | _ :: _, x => x.2
structure Sig where
  args : List AK
  res : List (Ty × Bool)
def outsOf : List AK → List Ty
  | [] => []
  | a :: r => a.outs ++ outsOf r
def tysOf : List AK → List Ty
  | [] => []
  | a :: r => a.ty :: tysOf r
def resOf : List (Ty × Bool) → List Ty
  | [] => []
  | a :: r => a.1 :: resOf r
@[reducible] def Sig.In (s : Sig) : Type := Tup (tysOf s.args)
@[reducible] def Sig.Out (s : Sig) : Type := Tup (resOf s.res ++ outsOf s.args)
structure Fn where
  s : Sig
  f : s.In → Option s.Out
end Go.Proofs.Ytopeacfbcdoljaa.V

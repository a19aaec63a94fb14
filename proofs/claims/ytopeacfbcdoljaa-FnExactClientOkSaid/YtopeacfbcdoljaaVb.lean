/- The evaluator, second part: operations, regions, code, functions; nothing is proved here. -/
import Derived.Test.YtopeacfbcdoljaaVa
namespace Go.Proofs.Ytopeacfbcdoljaa.V
open Go

structure Tabs where
  T : TypeId → Option Ty
  F : FuncId → Option Fn

/-- How a cut (a loop, a part of a function's code) is left. -/
inductive XK where
  | nor | ex (id : Nat) | ret
def XK.beq : XK → XK → Bool
  | .nor, .nor => true
  | .ex i, .ex j => i == j
  | .ret, .ret => true
  | _, _ => false
/-- A cut: its slots, as arguments; what each exit bears: slots, as results. -/
structure CutSig where
  ds : List Nat
  aks : List AK
  exits : List (XK × List Nat × List (Ty × Bool))
@[reducible] def XOuts (aks : List AK) : List (XK × List Nat × List (Ty × Bool)) → Type
  | [] => Empty
  | [e] => Tup (resOf e.2.2 ++ outsOf aks)
  | e :: f :: r => Tup (resOf e.2.2 ++ outsOf aks) ⊕ XOuts aks (f :: r)
@[reducible] def CutSig.In (c : CutSig) : Type := Tup (tysOf c.aks)
@[reducible] def CutSig.Out (c : CutSig) : Type := XOuts c.aks c.exits
structure Cut where
  s : CutSig
  f : s.In → Option s.Out
/-- Cuts, by the number of the first region in the code. -/
abbrev Cuts := Nat → Option Cut

def opd (σ : St) : Operand → Slot
  | .tmp t => σ.fr.getD t .no
  | .const (.int k n) => .val ⟨.int k, n, []⟩ none
  | .const (.bool b) => .val ⟨.bool, b, []⟩ none
  | .const (.string s) => .val ⟨.str, s.data.toList, []⟩ none
  | .const (.slice none 0 0) => .nilsl
  | .func f => .clo f []
  | _ => .no
/-- As a value of a type. -/
def coe (t : Ty) : Slot → Option (t.den × List Nat)
  | .val x _ => cast? t x
  | .nilsl => match t with
    | .sl _ _ => some ([], [1])
    | _ => none
  | _ => none
def St.put (σ : St) (d : Option Tmp) (s : Slot) : St :=
  match d with
  | some d => { σ with fr := σ.fr.set d s }
  | none => σ
def St.putv (σ : St) (d : Option Tmp) (t : Ty) (v : t.den) : St := σ.put d (.val ⟨t, v, []⟩ none)

section
variable {R : Type}
def guardK (b : Bool) (k : Option R) : Option R := bif b then k else none

def intBin (op : BinOp) (k : IntKind) (x y : Int) (kk : (t : Ty) → t.den → Option R) : Option R :=
  match op with
  | .add => kk (.int k) (k.wrap (x + y))
  | .sub => kk (.int k) (k.wrap (x - y))
  | .mul => kk (.int k) (k.wrap (x * y))
  | .quo => guardK (!decide (y = 0)) (kk (.int k) (k.wrap (x.tdiv y)))
  | .rem => guardK (!decide (y = 0)) (kk (.int k) (x.tmod y))
  | .and => kk (.int k) (k.wrap (BitVec.ofInt k.bits x &&& BitVec.ofInt k.bits y).toNat)
  | .or => kk (.int k) (k.wrap (BitVec.ofInt k.bits x ||| BitVec.ofInt k.bits y).toNat)
  | .xor => kk (.int k) (k.wrap (BitVec.ofInt k.bits x ^^^ BitVec.ofInt k.bits y).toNat)
  | .andNot => kk (.int k) (k.wrap (BitVec.ofInt k.bits x &&& ~~~ BitVec.ofInt k.bits y).toNat)
  | .eql => kk .bool (decide (x = y))
  | .neq => kk .bool (!decide (x = y))
  | .lss => kk .bool (decide (x < y))
  | .leq => kk .bool (decide (x ≤ y))
  | .gtr => kk .bool (decide (y < x))
  | .geq => kk .bool (decide (y ≤ x))
  | _ => none
def shBin (op : BinOp) (k : IntKind) (x y : Int) (kk : (t : Ty) → t.den → Option R) : Option R :=
  guardK (decide (0 ≤ y)) (match op with
  | .shl => kk (.int k) (k.wrap (x * 2 ^ (min y.toNat k.bits)))
  | .shr => kk (.int k) (x.fdiv (2 ^ (min y.toNat k.bits)))
  | _ => none)
def strBin (op : BinOp) (x y : List UInt8) (kk : (t : Ty) → t.den → Option R) : Option R :=
  match op with
  | .add => guardK (decide (x.length + y.length ≤ SLIM)) (kk .str (x ++ y))
  | .eql => kk .bool (decide (x = y))
  | .neq => kk .bool (!decide (x = y))
  | .lss => kk .bool (Op.bytesLess x y)
  | .leq => kk .bool (Op.bytesLess x y || decide (x = y))
  | .gtr => kk .bool (!(Op.bytesLess x y || decide (x = y)))
  | .geq => kk .bool (!Op.bytesLess x y)
  | _ => none
def binK (tt : Option Ty) (op : BinOp) (x y : Slot) (kk : (t : Ty) → t.den → Option R) : Option R :=
  match x, y with
  | .val ⟨.int k, a, _⟩ _, .val ⟨.int k', b, _⟩ _ => (match op with
    | .shl | .shr => shBin op k a b kk
    | _ => bif k == k' then intBin op k a b kk else none)
  | .val ⟨.str, a, _⟩ _, .val ⟨.str, b, _⟩ _ => strBin op a b kk
  | .val x _, .val y _ => (match tt with
    | some t => (match cast? t x, cast? t y with
      | some (a, _), some (b, _) => bif t.comparable then (match op with
        | .eql => kk .bool (Ty.eqb t a b)
        | .neq => kk .bool (!Ty.eqb t a b)
        | _ => none) else none
      | _, _ => none)
    | none => none)
  | _, _ => none
def unK (op : UnOp) (x : Slot) (kk : (t : Ty) → t.den → Option R) : Option R :=
  match op, x with
  | .not, .val ⟨.bool, b, _⟩ _ => kk .bool (!b)
  | .neg, .val ⟨.int k, n, _⟩ _ => kk (.int k) (k.wrap (0 - n))
  | .xor, .val ⟨.int k, n, _⟩ _ => kk (.int k) (k.wrap (BitVec.ofInt k.bits (if k.signed then -1 else k.max) ^^^ BitVec.ofInt k.bits n).toNat)
  | _, _ => none
def idxK {α : Type} (xs : List α) (i : Slot) (k : Nat → α → Option R) : Option R :=
  match i with
  | .val ⟨.int _, i, _⟩ _ => guardK (decide (0 ≤ i)) ((xs[i.toNat]?).bind fun x => k i.toNat x)
  | _ => none
def boundK (n : Nat) (lo hi : Option Slot) (k : Nat → Nat → Option R) : Option R :=
  match lo, hi with
  | none, none => k 0 n
  | none, some (.val ⟨.int _, h, _⟩ _) => guardK (decide (0 ≤ h) && decide (h ≤ n)) (k 0 h.toNat)
  | some (.val ⟨.int _, l, _⟩ _), none => guardK (decide (0 ≤ l) && decide (l ≤ n)) (k l.toNat n)
  | some (.val ⟨.int _, l, _⟩ _), some (.val ⟨.int _, h, _⟩ _) => guardK (decide (0 ≤ l) && decide (l ≤ h) && decide (0 ≤ h) && decide (h ≤ n)) (k l.toNat h.toNat)
  | _, _ => none
def cutList {α : Type} (xs : List α) (lo hi : Option Slot) (l h : Nat) : List α :=
  match lo, hi with
  | none, none => xs
  | none, some _ => xs.take h
  | some _, none => xs.drop l
  | some _, some _ => (xs.take h).drop l

def allUs (σ : St) : List Nat → Bool
  | [] => true
  | τ :: r => σ.us τ && allUs σ r
/-- Tokens are handed away: each the call's own. -/
def takeK (σ : St) : List Nat → (St → Option R) → Option R
  | [], k => k σ
  | τ :: r, k => bif τ == 1 then takeK σ r k else bif σ.al.contains τ then takeK { σ with al := σ.al.erase τ } r k else none
def oneK (a : AK) (s : Slot) (σ : St) (k : a.ty.den → St → Option R) : Option R :=
  match a with
  | .ro t => (match coe t s with
    | some (v, ms) => bif allUs σ ms then k v σ else none
    | none => none)
  | .own t | .mu t => (match coe t s with
    | some (v, ms) => takeK σ ms fun σ => k v σ
    | none => none)
  | .pin t => readK σ s fun x _ => match cast? t x with
      | some (v, ms) => bif allUs σ ms then k v σ else none
      | none => none
  | .pio t => (match s with
    | .rptr _ _ => none
    | s => readK σ s fun x _ => match cast? t x with
      | some (v, ms) => takeK σ ms fun σ => k v σ
      | none => none)
def gatherK : (ks : List AK) → List Slot → St → (Tup (tysOf ks) → St → Option R) → Option R
  | [], [], σ, k => k () σ
  | a :: r, s :: ss, σ, k => oneK a s σ fun v σ => gatherK r ss σ fun x σ => k (Tup.cons v x) σ
  | _, _, _, _ => none
/-- New tokens, one for each slice. -/
def St.new (σ : St) (n : Nat) : List Nat := List.range' σ.nt n
def St.more (σ : St) : Nat → St
  | 0 => σ
  | n + 1 => { σ.more n with al := (σ.more n).nt :: (σ.more n).al, nt := (σ.more n).nt + 1 }
def putOne (a : AK) (s : Slot) (σ : St) : Tup a.outs → (St → Option R) → Option R :=
  match a with
  | .pio t => fun v k => writeK (σ.more t.nl) s ⟨t, v, σ.new t.nl⟩ k
  | .mu t => fun v k => (match s with
    | .val _ (some h) => bif !t.agg && t.size == 1 then homeK (σ.more t.nl) h ⟨t, v, σ.new t.nl⟩ k else none
    | _ => none)
  | _ => fun _ k => k σ
def Tup.fst : {a b : List Ty} → Tup (a ++ b) → Tup a
  | [], _, _ => ()
  | [_], _, x => Tup.hd x
  | _ :: _ :: _, _, x => (Tup.hd x, Tup.fst (Tup.tl x))
def Tup.snd : {a b : List Ty} → Tup (a ++ b) → Tup b
  | [], _, x => x
  | _ :: a, b, x => Tup.snd (a := a) (b := b) (Tup.tl x)
def putBackK : (ks : List AK) → List Slot → Tup (outsOf ks) → St → (St → Option R) → Option R
  | a :: r, s :: ss, x, σ, k => putOne a s σ (Tup.fst (a := a.outs) (b := outsOf r) x) fun σ => putBackK r ss (Tup.snd (a := a.outs) (b := outsOf r) x) σ k
  | _, _, _, σ, k => k σ
/-- The results, as values with tokens. -/
def resVals : (rs : List (Ty × Bool)) → Tup (resOf rs) → St → List Val × St
  | [], _, σ => ([], σ)
  | (t, o) :: r, x, σ =>
    let v : Val := ⟨t, Tup.hd x, bif o then σ.new t.nl else List.replicate t.nl 0⟩
    let (l, σ') := resVals r (Tup.tl x) (bif o then σ.more t.nl else σ)
    (v :: l, σ')
def resSlot : List Val → Slot
  | [x] => .val x none
  | l => .tup l
def roToks (σ : St) : List AK → List Slot → List Nat
  | .ro t :: r, s :: ss => (match coe t s with | some (_, ms) => ms | none => []) ++ roToks σ r ss
  | _ :: r, _ :: ss => roToks σ r ss
  | _, _ => []
/-- Slices of what holds slices. -/
def Ty.deep : Ty → Bool
  | .sl _ t => !(t.nl == 0)
  | .pair a b => a.deep || b.deep
  | .st t => t.deep
  | _ => false
def sharesR : List (Ty × Bool) → Bool
  | [] => false
  | (t, o) :: r => (!o && !(t.nl == 0)) || t.deep || sharesR r
def sharesO : List AK → Bool
  | [] => false
  | a :: r => a.outs.any Ty.deep || sharesO r
/-- May what comes out share with what came in? -/
def shares (s : Sig) : Bool := sharesR s.res || sharesO s.args
def noPins : List AK → Bool
  | [] => true
  | .pin t :: r => t.nl == 0 && noPins r
  | _ :: r => noPins r
/-- The token of the slice that stands at a home. -/
def rowTok (σ : St) (h : Home) : Option Nat := rowK σ h fun _ z => match z with
  | ⟨.sl _ _, _, ms⟩ => some (ms.headD 0)
  | _ => none
/-- What is lent for writing in place. -/
def exclOf (σ : St) : List AK → List Slot → List (Nat × Nat)
  | .pio _ :: r, .ptr id _ _ _ :: ss => (1, id) :: exclOf σ r ss
  | .pio _ :: r, .eptr h _ _ _ _ _ :: ss => (match rowTok σ h with | some τ => [(0, τ)] | none => []) ++ exclOf σ r ss
  | _ :: r, _ :: ss => exclOf σ r ss
  | _, _ => []
def noDup : List (Nat × Nat) → Bool
  | [] => true
  | a :: r => !r.contains a && noDup r
def freeToks (σ : St) (ex : List (Nat × Nat)) (ms : List Nat) : Bool := ms.all fun τ => σ.us τ && !ex.contains (0, τ)
/-- What is lent for reading is not lent for writing as well. -/
def lendAt (σ : St) (ex : List (Nat × Nat)) (a : AK) (s : Slot) : Bool :=
  match a with
  | .ro t => (match coe t s with | some (_, ms) => freeToks σ ex ms | none => false)
  | .own _ => true
  | .mu _ => false
  | .pin _ => (match readK σ s fun x _ => some x.ms with | some ms => freeToks σ ex ms | none => false) &&
    (match s with
    | .ptr id _ _ _ => !ex.contains (1, id)
    | .eptr h τ _ _ _ _ => (match rowTok σ h with | some υ => (rootTok σ.ln υ == rootTok σ.ln τ) && σ.al.contains υ && !ex.contains (0, υ) | none => false)
    | .rptr τ _ => freeToks σ ex [τ]
    | _ => false)
  | .pio t => !(t.size == 0) && (match s with
    | .ptr id _ _ _ => (σ.find id).isSome
    | .eptr h τ _ _ _ _ => (match rowTok σ h with | some υ => (rootTok σ.ln υ == rootTok σ.ln τ) && σ.al.contains υ | none => false)
    | _ => false)
def lentOk (σ : St) (ex : List (Nat × Nat)) : List AK → List Slot → Bool
  | a :: r, s :: ss => lendAt σ ex a s && lentOk σ ex r ss
  | _, _ => true
/-- What is lent to another. sh: what comes out may share with what goes in. -/
def lendK (aks : List AK) (sh : Bool) (ss : List Slot) (σ : St) (k : Tup (tysOf aks) → St → Option R) : Option R :=
  bif !sh || noPins aks then
    gatherK aks ss (bif sh then σ.freeze (roToks σ aks ss) else σ) fun x σ =>
      bif !(noDup (exclOf σ aks ss) && lentOk σ (exclOf σ aks ss) aks ss) then none else k x σ
  else none
/-- What comes back. -/
def backK (aks : List AK) (ss : List Slot) (rs : List (Ty × Bool)) (y : Tup (resOf rs ++ outsOf aks)) (σ : St) (k : List Val → St → Option R) : Option R :=
  putBackK aks ss (Tup.snd (a := resOf rs) (b := outsOf aks) y) σ fun σ =>
    match resVals rs (Tup.fst (a := resOf rs) (b := outsOf aks) y) σ with
    | (l, σ) => k l σ
def callK (fn : Fn) (ss : List Slot) (d : Option Tmp) (σ : St) (k : St → Option R) : Option R :=
  lendK fn.s.args (shares fn.s) ss σ fun x σ => (fn.f x).bind fun y => backK fn.s.args ss fn.s.res y σ fun l σ => k (σ.put d (resSlot l))

/-- A struct or an array out of parts. -/
def partsK (t : Ty) : List (Nat × Slot) → Val → (Val → Option R) → Option R
  | [], x, k => k x
  | (i, s) :: r, x, k => match t with
    | .st u => (match fieldPath u i with
      | some p => (match coe (fieldTy u p) s with
        | some (v, ms) => setK x.t x.v x.ms p ⟨fieldTy u p, v, ms⟩ fun v ms => partsK t r ⟨x.t, v, ms⟩ k
        | none => none)
      | none => none)
    | .arr n u => (match coe u s with
      | some (v, ms) => bif decide (i < n) then setK x.t x.v x.ms [.ix i] ⟨u, v, ms⟩ fun v ms => partsK t r ⟨x.t, v, ms⟩ k else none
      | none => none)
    | _ => none
def listK (t : Ty) : List (Nat × Slot) → List t.den → List Nat → (List t.den → List Nat → Option R) → Option R
  | [], xs, ts, k => k xs ts
  | (i, s) :: r, xs, ts, k => match coe t s with
    | some (v, ms) => bif decide (i < xs.length) then listK t r (xs.set i v) (ms ++ ts) k else none
    | none => none

def homeOf (x : Operand) (h : Option Home) : Option Home :=
  match h, x with
  | some h, _ => some h
  | none, .tmp i => some ⟨.tmp i, []⟩
  | _, _ => none

/-- Does the slice with this token stand at its home still? -/
def atHome (σ : St) (e : TypeId) (u : Ty) (τ : Nat) : Option Home → Option Home
  | some h => bif σ.al.contains τ then rowK σ h fun _ z => bif Ty.beq z.t (.sl e u) && z.ms.headD 0 == τ then some h else none else none
  | none => none
def stepK (P : Tabs) (o : Oper) (σ : St) (k : St → Option R) : Option R :=
  match o.op with
  | .move x => (match opd σ x with
    | .val v h => k (σ.put o.dst (.val v (homeOf x h)))
    | .nilsl => (match P.T o.type with
      | some (.sl e t) => k (σ.put o.dst (.val ⟨.sl e t, ([] : List t.den), [1]⟩ none))
      | _ => none)
    | .no => none
    | s => k (σ.put o.dst s))
  | .assign x => (match opd σ x with
    | .val v _ => k (σ.put o.dst (.val v none))
    | .nilsl => (match P.T o.type with
      | some (.sl e t) => k (σ.put o.dst (.val ⟨.sl e t, ([] : List t.den), [1]⟩ none))
      | _ => none)
    | .no => none
    | s => k (σ.put o.dst s))
  | .pick c a b => (match opd σ c, opd σ a, opd σ b with
    | .val ⟨.bool, c, _⟩ _, .val ⟨.bool, a, _⟩ _, .val ⟨.bool, b, _⟩ _ => k (σ.putv o.dst .bool (bif c then a else b))
    | _, _, _ => none)
  | .alloc e => (match P.T e with
    | some t => k ({ σ with bx := ⟨σ.nt, ⟨t, t.zero, List.replicate t.nl 1⟩⟩ :: σ.bx, nt := σ.nt + 1 }.put o.dst (.ptr σ.nt t [] t))
    | none => none)
  | .box e x => (match P.T e with
    | some t => (match coe t (opd σ x) with
      | some (v, ms) => k ({ σ with bx := ⟨σ.nt, ⟨t, v, ms⟩⟩ :: σ.bx, nt := σ.nt + 1 }.put o.dst (.ptr σ.nt t [] t))
      | none => none)
    | none => none)
  | .build t ps => (match P.T t with
    | some t => bif t.agg then partsK t (ps.toList.map fun p => (p.1, opd σ p.2)) ⟨t, t.zero, List.replicate t.nl 1⟩ fun x => k (σ.put o.dst (.val x none)) else none
    | none => none)
  | .buildSlice t n ps => (match P.T t with
    | some (.sl e t) => listK t (ps.toList.map fun p => (p.1, opd σ p.2)) (List.replicate n t.zero) [] fun xs ts =>
        guardK (allUs σ ts && decide (n * t.size ≤ 16777216)) (k (((σ.freeze ts).more 1).put o.dst (.val ⟨.sl e t, xs, [σ.nt]⟩ none)))
    | _ => none)
  | .load t p => (match P.T t with
    | some t => readK σ (opd σ p) fun x h => bif Ty.beq x.t t then k (σ.put o.dst (.val x h)) else none
    | none => none)
  | .store t p x => (match P.T t, o.dst with
    | some t, none => (match coe t (opd σ x) with
      | some (v, ms) => writeK σ (opd σ p) ⟨t, v, ms⟩ k
      | none => none)
    | _, _ => none)
  | .nilCheck x => (match opd σ x with
    | .ptr id r p t => k (σ.put o.dst (.ptr id r p t))
    | .eptr h τ i u p t => k (σ.put o.dst (.eptr h τ i u p t))
    | .rptr τ x => k (σ.put o.dst (.rptr τ x))
    | _ => none)
  | .binOp op tt x y _ => binK (P.T tt) op (opd σ x) (opd σ y) fun t v => k (σ.putv o.dst t v)
  | .unOp op _ x => unK op (opd σ x) fun t v => k (σ.putv o.dst t v)
  | .convert s d x => (match P.T s, P.T d, opd σ x with
    | some (.int _), some (.int q), .val ⟨.int _, n, _⟩ _ => k (σ.putv o.dst (.int q) (q.wrap n))
    | some .str, some .str, .val ⟨.str, n, _⟩ _ => k (σ.putv o.dst .str n)
    | some (.sl _ (.int .u8)), some .str, s => (match s with
      | .val ⟨.sl _ (.int .u8), n, ms⟩ _ => bif σ.us (ms.headD 0) then k (σ.putv o.dst .str (n.map fun (b : Int) => UInt8.ofNat b.toNat)) else none
      | .nilsl => k (σ.putv o.dst .str [])
      | _ => none)
    | _, _, _ => none)
  | .makeSlice t n c => (match P.T t, opd σ n, opd σ c with
    | some (.sl e t), .val ⟨.int _, n, _⟩ _, .val ⟨.int _, c, _⟩ _ =>
      guardK (decide (0 ≤ n) && decide (n ≤ c) && decide (c ≤ LIM)) (k ((σ.more 1).put o.dst (.val ⟨.sl e t, List.replicate n.toNat t.zero, [σ.nt]⟩ none)))
    | _, _, _ => none)
  | .slice tt x lo hi none => (match P.T tt with
    | some .str => (match opd σ x with
      | .val ⟨.str, s, _⟩ _ => boundK s.length (lo.map (opd σ)) (hi.map (opd σ)) fun l h => k (σ.putv o.dst .str (cutList s (lo.map (opd σ)) (hi.map (opd σ)) l h))
      | _ => none)
    | some (.sl e t) => (match opd σ x with
      | .val y h => (match cast? (.sl e t) y with
        | some (s, ms) => boundK (s : List t.den).length (lo.map (opd σ)) (hi.map (opd σ)) fun l r =>
          (match lo with
          | none => bif σ.us (ms.headD 0) then k (σ.put o.dst (.val ⟨.sl e t, cutList (s : List t.den) none (hi.map (opd σ)) l r, ms⟩ h)) else none
          | some _ => bif σ.us (ms.headD 0) then k ((σ.freeze ms).put o.dst (.val ⟨.sl e t, cutList (s : List t.den) (lo.map (opd σ)) (hi.map (opd σ)) l r, [0]⟩ none)) else none)
        | none => none)
      | _ => none)
    | _ => none)
  | .fieldAddr s x j => (match P.T s with
    | some (.st u) => (match fieldPath u j with
      | some p => (match opd σ x with
        | .ptr id r q t => bif Ty.beq t (.st u) && !p.isEmpty then k (σ.put o.dst (.ptr id r (q ++ p) (fieldTy u p))) else none
        | .eptr h τ i z q t => bif Ty.beq t (.st u) && !p.isEmpty then k (σ.put o.dst (.eptr h τ i z (q ++ p) (fieldTy u p))) else none
        | .rptr τ y => (match cast? (.st u) y with
          | some (v, ms) => getK u v ms p fun y => k (σ.put o.dst (.rptr τ y))
          | none => none)
        | _ => none)
      | none => none)
    | _ => none)
  | .field s x j => (match P.T s with
    | some (.st u) => (match fieldPath u j with
      | some p => (match opd σ x with
        | .val y h => (match cast? (.st u) y with
          | some (v, ms) => getK u v ms p fun y => k (σ.put o.dst (.val y (h.map fun h => ⟨h.root, h.path ++ p⟩)))
          | none => none)
        | _ => none)
      | none => none)
    | _ => none)
  | .indexAddr tt x i => (match P.T tt with
    | some (.arr n u) => (match opd σ x with
      | .ptr id r q t => bif Ty.beq t (.arr n u) then (match opd σ i with
          | .val ⟨.int _, i, _⟩ _ => guardK (decide (0 ≤ i) && decide (i < n)) (k (σ.put o.dst (.ptr id r (q ++ [.ix i.toNat]) u)))
          | _ => none) else none
      | .rptr τ y => (match cast? (.arr n u) y with
        | some (v, _) => bif σ.us τ && !(τ == 1) then idxK (v : List u.den) (opd σ i) fun _ x => k (σ.put o.dst (.rptr τ ⟨u, x, []⟩)) else none
        | none => none)
      | _ => none)
    | some (.sl e u) => (match opd σ x with
      | .val y h => (match cast? (.sl e u) y with
        | some (v, ms) => idxK (v : List u.den) (opd σ i) fun j x =>
          (match atHome σ e u (ms.headD 0) h with
          | some h => k (σ.put o.dst (.eptr h (ms.headD 0) j u [] u))
          | none => bif σ.us (ms.headD 0) then k (σ.put o.dst (.rptr (ms.headD 0) ⟨u, x, List.replicate u.nl 0⟩)) else none)
        | none => none)
      | _ => none)
    | _ => none)
  | .index tt x i => (match P.T tt with
    | some .str => (match opd σ x with
      | .val ⟨.str, s, _⟩ _ => idxK s (opd σ i) fun _ b => k (σ.putv o.dst (.int .u8) ((b.toNat : Nat) : Int))
      | _ => none)
    | some (.arr n u) => (match opd σ x with
      | .val y _ => (match cast? (.arr n u) y with
        | some (v, _) => bif u.nl == 0 then idxK (v : List u.den) (opd σ i) fun _ x => k (σ.putv o.dst u x) else none
        | none => none)
      | _ => none)
    | _ => none)
  | .extract x i => (match opd σ x with
    | .tup l => (match l[i]? with
      | some v => k (σ.put o.dst (.val v none))
      | none => none)
    | _ => none)
  | .call ⟨.builtin .len, args, ats⟩ => (match ats.toList.map P.T, args.toList.map (opd σ) with
    | [some .str], [.val ⟨.str, s, _⟩ _] => k (σ.putv o.dst (.int .i64) (s.length : Nat))
    | [some (.sl e t)], [.val y _] => (match cast? (.sl e t) y with
      | some (s, _) => k (σ.putv o.dst (.int .i64) ((s : List t.den).length : Nat))
      | none => none)
    | _, _ => none)
  | .call ⟨.builtin .min, args, _⟩ => (match args.toList.map (opd σ) with
    | [.val ⟨.int q, x, _⟩ _, .val ⟨.int _, y, _⟩ _] => k (σ.putv o.dst (.int q) (bif decide (y < x) then y else x))
    | _ => none)
  | .call ⟨.builtin .max, args, _⟩ => (match args.toList.map (opd σ) with
    | [.val ⟨.int q, x, _⟩ _, .val ⟨.int _, y, _⟩ _] => k (σ.putv o.dst (.int q) (bif decide (x < y) then y else x))
    | _ => none)
  | .call ⟨.builtin .append, args, ats⟩ => (match ats.toList, args.toList.map (opd σ) with
    | [t0, t1], [s, x] => (match P.T t0 with
    | some (.sl e t) => (match coe (.sl e t) s with
      | some (xs, ms) =>
        guardK (σ.own (ms.headD 0)) (match P.T t1 with
        | some (.sl _ _) => (match coe (.sl e t) x with
          | some (ys, us) => guardK (t0 == t1 && σ.us (us.headD 0) && decide (List.length (α := t.den) xs + List.length (α := t.den) ys ≤ LIM))
              (k (({ σ with al := σ.al.erase (ms.headD 0) }.more 1).put o.dst (.val ⟨.sl e t, (xs : List t.den) ++ ys, [σ.nt]⟩ none)))
          | none => none)
        | _ => none)
      | none => none)
    | _ => none)
    | _, _ => none)
  | .call ⟨.value (.func f), args, _⟩ => (match P.F f with
    | some fn => callK fn (args.toList.map (opd σ)) o.dst σ k
    | none => none)
  | _ => none
end

def roOnly : List AK → Bool
  | [] => true
  | .ro _ :: r | .pin _ :: r => roOnly r
  | _ => false
/-- Does the operation leave all that is there as it is? -/
def quiet (T : Tabs) (o : Op) : Bool :=
  match o with
  | .store _ _ _ => false
  | .call ⟨.builtin .append, _, _⟩ => false
  | .call ⟨.value (.func f), _, _⟩ => (match T.F f with
    | some fn => roOnly fn.s.args
    | none => false)
  | _ => true
def Slot.lit? : Slot → Option Bool
  | .val ⟨.bool, b, _⟩ _ => some b
  | _ => none
def gOf (o : Oper) : Nat := match o.guard with | some (j, _) => j + 1 | none => 0
/-- The operations behind a guard (and inside of them), and what follows. -/
def spanG (j : Nat) : List (Oper × Nat) → List (Oper × Nat) × List (Oper × Nat)
  | [] => ([], [])
  | o :: r => bif decide (j < gOf o.1) then (match spanG j r with | (a, b) => (o :: a, b)) else ([], o :: r)
def dstOf (ops : Array Oper) (j : Nat) : Option Tmp := (ops[j]?).bind (·.dst)
def clearD (l : List (Oper × Nat)) (σ : St) : St := l.foldl (fun σ o => σ.put o.1.dst .no) σ
/-- An operation of a guarded group that begins at place i0: guarded alike, or by one of the group; quiet; it does not write the guard. -/
def okG (P : Tabs) (i0 j : Nat) (w : Bool) (c : Tmp) (o : Oper) (i : Nat) : Bool :=
  (match o.guard with
  | some (j', w') => (j' == j && w' == w) || (decide (i0 ≤ j') && decide (j' < i))
  | none => false) && !(o.dst == some c) && quiet P o.op
def pgOk (act : List (Nat × Bool)) : Option (Nat × Bool) → Bool
  | none => true
  | some x => act.contains x
/-- A guard that isn't known to hold. -/
def openG (act : List (Nat × Bool)) (o : Oper) : Option (Nat × Bool) :=
  match o.guard with
  | some g => bif act.contains g then none else some g
  | none => none
def boolOf (s : Slot) : Option Bool := match s with
  | .val ⟨.bool, b, _⟩ _ => some b
  | _ => none

section
variable {R : Type}
/-- A region's operations, in the text's order. A guard that isn't known: both ways, up to the 'pick' behind. -/
def opsK (P : Tabs) (ops : Array Oper) : Nat → List (Nat × Bool) → (R : Type) → List (Oper × Nat) → St → (St → Option R) → Option R
  | _, _, _, [], σ, k => k σ
  | 0, _, _, _ :: _, _, _ => none
  | n + 1, act, R, o :: r, σ, k => match openG act o.1 with
    | none => stepK P o.1 σ fun σ => opsK P ops n act R r σ k
    | some (j, w) => (match spanG j (o :: r) with
      | (g, ({ dst := some d, op := .pick (.tmp c) a b, guard := pg, .. }, _) :: r') =>
        bif dstOf ops j == some c && g.all (fun q => okG P o.2 j w c q.1 q.2) && pgOk act pg then (match boolOf (σ.fr.getD c .no) with
          | some v =>
            (bif (bif w then v else !v) then opsK P ops n ((j, w) :: act) Bool g σ fun σ' => boolOf (opd σ' (bif w then a else b))
             else boolOf (opd (clearD g σ) (bif w then b else a))).bind fun t => opsK P ops n act R r' ((clearD g σ).put (some d) (.val ⟨.bool, t, []⟩ none)) k
          | none => none) else none
      | _ => none)
end

/-- The number of the first region. -/
def firstR : Code → Nat
  | .region id _ _ => id + 1
  | .seq a b => bif firstR a == 0 then firstR b else firstR a
  | .cond _ a b => bif firstR a == 0 then firstR b else firstR a
  | .block _ c | .loop c | .scope c => firstR c
  | _ => 0
def opsWrites (l : List Oper) : List Nat := l.filterMap (·.dst)
/-- The slots that code writes. -/
def writes : Code → List Nat
  | .region _ ops _ => opsWrites ops.toList
  | .seq a b => writes a ++ writes b
  | .cond _ a b => writes a ++ writes b
  | .block _ c | .loop c | .scope c => writes c
  | _ => []
def clearL (l : List Nat) (σ : St) : St := { σ with fr := l.foldl (fun fr i => fr.set i .no) σ.fr }

section
variable {R : Type}
def slotsAt (σ : St) (ds : List Nat) : List Slot := ds.map fun d => σ.fr.getD d .no
/-- An exit's slots are filled. -/
def fillL : List Nat → List Val → St → St
  | d :: ds, x :: l, σ => fillL ds l (σ.put (some d) (.val x none))
  | _, _, σ => σ
def exitsK (aks : List AK) (ss : List Slot) (ws : List Nat) : (es : List (XK × List Nat × List (Ty × Bool))) → XOuts aks es → St → (XK → St → Option R) → Option R
  | [], y, _, _ => nomatch y
  | [e], y, σ, k => backK aks ss e.2.2 y σ fun l σ => k e.1 (fillL e.2.1 l (clearL ws σ))
  | e :: f :: r, y, σ, k => match y with
    | .inl y => backK aks ss e.2.2 y σ fun l σ => k e.1 (fillL e.2.1 l (clearL ws σ))
    | .inr y => exitsK aks ss ws (f :: r) y σ k
def sharesC (c : CutSig) : Bool := c.exits.any (fun e => sharesR e.2.2) || sharesO c.aks
def cutK (c : Cut) (code : Code) (σ : St) (k : XK → St → Option R) : Option R :=
  lendK c.s.aks (sharesC c.s) (slotsAt σ c.s.ds) σ fun x σ1 => (c.f x).bind fun y => exitsK c.s.aks (slotsAt σ c.s.ds) (writes code) c.s.exits y σ1 k
def XK.thenK (e : XK) (σ : St) (next : St → Option R) (k : XK → St → Option R) : Option R :=
  match e with
  | .nor => next σ
  | e => k e σ
def codeK (P : Tabs) (C : Cuts) : Code → St → (XK → St → Option R) → Option R
  | .skip, σ, k => k .nor σ
  | .label _, σ, k => k .nor σ
  | .ret, σ, k => k .ret σ
  | .exit id, σ, k => k (.ex id) σ
  | .region _ ops dr, σ, k => bif dr then none else opsK P ops (ops.size + 1) [] R ops.toList.zipIdx σ (k .nor)
  | .seq a b, σ, k => codeK P C a σ fun e σ => e.thenK σ (fun σ => codeK P C b σ k) k
  | .cond c a b, σ, k => match C (2 * firstR (.cond c a b)) with
    | some cut => cutK cut (.cond c a b) σ k
    | none => (match boolOf (opd σ c) with
      | some t => bif t then codeK P C a σ k else codeK P C b σ k
      | none => none)
  | .block id c, σ, k => codeK P C c σ fun e σ => match e with
    | .ex i => bif i == id then k .nor σ else k (.ex i) σ
    | e => k e σ
  | .loop c, σ, k => match C (2 * firstR c + 1) with
    | some cut => cutK cut (.loop c) σ k
    | none => none
  | _, _, _ => none
end

-- how code begins: a fresh state
structure Ini where
  σ : St
  homes : List Slot
def initOne (a : AK) (d : Nat) (i : Ini) : a.ty.den → Ini :=
  match a with
  | .ro t => fun v => ⟨i.σ.put (some d) (.val ⟨t, v, List.replicate t.nl 0⟩ none), i.homes ++ [.no]⟩
  | .own t => fun v => ⟨(i.σ.more t.nl).put (some d) (.val ⟨t, v, i.σ.new t.nl⟩ none), i.homes ++ [.no]⟩
  | .mu t => fun v => ⟨(i.σ.more t.nl).put (some d) (.val ⟨t, v, i.σ.new t.nl⟩ none), i.homes ++ [.no]⟩
  | .pin t => fun v => ⟨i.σ.put (some d) (.rptr 0 ⟨t, v, List.replicate t.nl 0⟩), i.homes ++ [.no]⟩
  | .pio t => fun v => ⟨{ (i.σ.more t.nl) with bx := ⟨(i.σ.more t.nl).nt, ⟨t, v, i.σ.new t.nl⟩⟩ :: (i.σ.more t.nl).bx, nt := (i.σ.more t.nl).nt + 1 }.put (some d) (.ptr (i.σ.more t.nl).nt t [] t), i.homes ++ [.ptr (i.σ.more t.nl).nt t [] t]⟩
def initL : (ks : List AK) → List Nat → Tup (tysOf ks) → Ini → Ini
  | a :: r, d :: ds, x, i => initL r ds (Tup.tl x) (initOne a d i (Tup.hd x))
  | _, _, _, i => i
def ini0 (n : Nat) : Ini := ⟨⟨List.replicate n .no, [], [], [], [], 2⟩, []⟩
-- how it ends
section
variable {R : Type}
def resL : List Slot → (rs : List (Ty × Bool)) → St → (Tup (resOf rs) → St → Option R) → Option R
  | [], [], σ, k => k () σ
  | s :: ss, (t, o) :: rs, σ, k => match coe t s with
    | some (v, ms) => bif o then takeK σ ms fun σ => resL ss rs σ fun x σ => k (Tup.cons v x) σ
      else bif allUs σ ms then resL ss rs (σ.freeze ms) fun x σ => k (Tup.cons v x) σ else none
    | none => none
  | _, _, _, _ => none
def Tup.app : {a b : List Ty} → Tup a → Tup b → Tup (a ++ b)
  | [], _, _, y => y
  | _ :: _, _, x, y => Tup.cons (Tup.hd x) (Tup.app (Tup.tl x) y)
/-- What a parameter that may turn holds in the end. -/
def outOne (a : AK) (home : Slot) (σ : St) : (Tup a.outs → St → Option R) → Option R :=
  match a with
  | .pio t => fun k => readK σ home fun x _ => match cast? t x with
      | some (v, ms) => takeK σ ms fun σ => k v σ
      | none => none
  | .mu _ => fun _ => none
  | .ro _ | .own _ | .pin _ => fun k => k () σ
def outsL : (ks : List AK) → List Slot → St → (Tup (outsOf ks) → Option R) → Option R
  | a :: r, h :: hs, σ, k => outOne a h σ fun v σ => outsL r hs σ fun x => k (Tup.app v x)
  | [], _, _, k => k ()
  | _, _, _, _ => none
def rvK (T : TypeId → Option Ty) (σ : St) (rv : ResultVar) (k : Slot → Option R) : Option R :=
  match rv with
  | .tmp t => k (σ.fr.getD t .no)
  | .cell a i => (match T i with
    | some t => readK σ (σ.fr.getD a .no) fun x _ => bif Ty.beq x.t t then k (.val x none) else none
    | none => none)
def rvsK (T : TypeId → Option Ty) (σ : St) : List ResultVar → (List Slot → Option R) → Option R
  | [], k => k []
  | rv :: r, k => rvK T σ rv fun s => rvsK T σ r fun ss => k (s :: ss)
end
def finK (ks : List AK) (hs : List Slot) (rs : List (Ty × Bool)) (ss : List Slot) (σ : St) : Option (Tup (resOf rs ++ outsOf ks)) :=
  resL ss rs σ fun y σ => outsL ks hs σ fun z => some (Tup.app y z)
/-- A function, by its text. -/
def fnK (P : Tabs) (C : Cuts) (fn : Func) (s : Sig) (x : s.In) : Option s.Out :=
  match fn.body with
  | some c => bif decide (s.args.length ≤ fn.ntmps) then
      let i := initL s.args (List.range s.args.length) x (ini0 fn.ntmps)
      codeK P C c i.σ fun e σ => match e with
        | .ex _ => none
        | _ => rvsK P.T σ fn.results.toList fun ss => finK s.args i.homes s.res ss σ
    else none
  | none => none
-- a cut, by its text
def leaveK (aks : List AK) (hs : List Slot) : (es : List (XK × List Nat × List (Ty × Bool))) → XK → St → Option (XOuts aks es)
  | [], _, _ => none
  | [e], x, σ => bif e.1.beq x then finK aks hs e.2.2 (slotsAt σ e.2.1) σ else none
  | e :: f :: r, x, σ => bif e.1.beq x then (finK aks hs e.2.2 (slotsAt σ e.2.1) σ).map .inl else (leaveK aks hs (f :: r) x σ).map .inr
def cutFn (P : Tabs) (C : Cuts) (n : Nat) (code : Code) (c : CutSig) (x : c.In) : Option c.Out :=
  let i := initL c.aks c.ds x (ini0 n)
  codeK P C code i.σ fun e σ => leaveK c.aks i.homes c.exits e σ
/-- The pointers of what may turn stand where they stood. -/
def sameHomes : List AK → List Slot → List Slot → Bool
  | .pio _ :: r, .ptr id _ _ _ :: hs, .ptr id' _ [] _ :: ss => id == id' && sameHomes r hs ss
  | .pio _ :: _, _, _ => false
  | .mu _ :: _, _, _ => false
  | _ :: r, _ :: hs, _ :: ss => sameHomes r hs ss
  | [], _, _ => true
  | _, _, _ => false
/-- A loop's rounds. -/
def loopFn (P : Tabs) (C : Cuts) (n : Nat) (body : Code) (c : CutSig) : Nat → c.In → Option c.Out
  | 0, _ => none
  | m + 1, x =>
    let i := initL c.aks c.ds x (ini0 n)
    codeK P C body i.σ fun e σ => match e with
      | .nor => bif sameHomes c.aks i.homes (slotsAt σ c.ds) then lendK c.aks (sharesC c) (slotsAt σ c.ds) σ fun x _ => loopFn P C n body c m x else none
      | e => leaveK c.aks i.homes c.exits e σ
end Go.Proofs.Ytopeacfbcdoljaa.V

/- A plain reading of the program's operations: typed values, owned rows and boxes, and what each operation makes of them; no memory of the machine here. -/
import GoSem.Step
namespace Go.Proofs.Ythjiokbokncpoaa.Rf
open Go

/-- The types that are read. 'sl': a slice that nobody writes; 'own': a slice whose row belongs to the reader. -/
inductive Ty where
  | int (k : IntKind) | bool | str | sl (e : Ty) | own (e : Ty) | unit | pair (a b : Ty)
  deriving DecidableEq, Inhabited

@[reducible] def den : Ty → Type
  | .int _ => Int
  | .bool => Bool
  | .str => ByteArray
  | .sl e => List (den e)
  | .own e => List (den e)
  | .unit => Unit
  | .pair a b => den a × den b

def zero : (t : Ty) → den t
  | .int _ => (0 : Int)
  | .bool => false
  | .str => ByteArray.empty
  | .sl _ => []
  | .own _ => []
  | .unit => ()
  | .pair a b => (zero a, zero b)

def csz : Ty → Nat
  | .unit => 0
  | .pair a b => csz a + csz b
  | _ => 1

def isStr : Ty → Bool
  | .unit => true
  | .pair _ _ => true
  | _ => false

/-- no slice that shares memory in it -/
def flatB : Ty → Bool
  | .sl _ => false
  | .own e => flatB e
  | .pair a b => flatB a && flatB b
  | _ => true

/-- no owned row in it -/
def noOwn : Ty → Bool
  | .own _ => false
  | .sl e => noOwn e
  | .pair a b => noOwn a && noOwn b
  | _ => true

/-- What a cell may be known to hold. -/
inductive CV where
  | undef
  | nov
  | int (k : IntKind) (n : Int)
  | bool (b : Bool)
  | str (s : ByteArray)
  | sl (e : Ty) (l : List (den e))
  | nilv
  | ref (i : Nat)
  | sub (i : Nat) (lo n : Nat)
  | ptr (i off : Nat)
  | elt (i : Nat) (ix : Nat) (off : Nat)
  | cst (e : Ty) (x : den e) (off : Nat)
  | fn (f : FuncId)

/-- What a slot may be known to hold: a cell, a struct's cells, or several values. -/
inductive AV where
  | c (x : CV)
  | agg (cs : List CV)
  | tup (vs : List (Bool × List CV))

inductive Ob where
  | box (cs : List CV)
  | row (e : Ty) (l : List (den e))

abbrev Hp := Nat → Option Ob

structure St where
  tm : List AV
  hp : Hp
  nx : Nat

/-- A tree of tests. -/
inductive CT (α : Type) : Type 1 where
  | fail
  | ok (a : α)
  | test (b : Bool) (x : CT α)
  | call {β : Type} (c : Option β) (k : β → CT α)

def CT.val {α : Type} : CT α → Option α
  | .fail => none
  | .ok a => some a
  | .test b x => bif b then x.val else none
  | .call c k => c.bind fun y => (k y).val

def CT.run {α R : Type} : CT α → (α → Option R) → Option R
  | .fail, _ => none
  | .ok a, K => K a
  | .test b x, K => bif b then x.run K else none
  | .call c k, K => c.bind fun y => (k y).run K

def CT.opt {α : Type} : Option α → CT α
  | some a => .ok a
  | none => .fail

theorem CT.run_val {α R : Type} (x : CT α) (K : α → Option R) : x.run K = x.val.bind K := by
  induction x with
  | fail => rfl
  | ok a => rfl
  | test b x ih => cases b <;> simp [CT.run, CT.val, ih]
  | call c k ih => cases c <;> simp [CT.run, CT.val, ih]

/-! ### cells -/
def zeros : Ty → List CV
  | .int k => [.int k 0]
  | .bool => [.bool false]
  | .str => [.str ByteArray.empty]
  | .sl _ => [.nilv]
  | .own _ => [.nilv]
  | .unit => []
  | .pair a b => zeros a ++ zeros b

/-- The cells of a value without rows of one's own. -/
def flat : (t : Ty) → den t → List CV
  | .int k, n => [.int k n]
  | .bool, b => [.bool b]
  | .str, s => [.str s]
  | .sl e, l => [.sl e l]
  | .own _, _ => [.undef]
  | .unit, _ => []
  | .pair a b, x => flat a x.1 ++ flat b x.2

def castL {e' e : Ty} (l : List (den e')) : Option (List (den e)) :=
  if h : e' = e then some (h ▸ l) else none

def rowOf (hp : Hp) (i : Nat) (e : Ty) : Option (List (den e)) :=
  match hp i with
  | some (.row _ l) => castL l
  | _ => none

/-- What one cell tells as a slice of e. -/
def asL (hp : Hp) (e : Ty) : CV → Option (List (den e))
  | .sl _ l => castL l
  | .nilv => some []
  | .ref i => rowOf hp i e
  | .sub i lo n => match rowOf hp i e with | some l => some ((l.drop lo).take n) | none => none
  | _ => none

def asO (hp : Hp) (e : Ty) : CV → Option (List (den e))
  | .nilv => some []
  | .ref i => rowOf hp i e
  | _ => none

def pack (hp : Hp) : (t : Ty) → List CV → Option (den t × List CV)
  | .int k, .int k' n :: r => if k' = k then some (n, r) else none
  | .bool, .bool b :: r => some (b, r)
  | .str, .str s :: r => some (s, r)
  | .sl e, c :: r => match asL hp e c with | some l => some (l, r) | none => none
  | .own e, c :: r => match asO hp e c with | some l => some (l, r) | none => none
  | .unit, r => some ((), r)
  | .pair a b, cs => match pack hp a cs with
    | some (x, r) => match pack hp b r with
      | some (y, r) => some ((x, y), r)
      | none => none
    | none => none
  | _, _ => none

def packAll (hp : Hp) (t : Ty) (cs : List CV) : Option (den t) :=
  match pack hp t cs with
  | some (x, []) => some x
  | _ => none

/-- The cells of a value; its own rows get new numbers from n on. -/
def unpack : (n : Nat) → (t : Ty) → den t → List CV × List (Nat × Ob)
  | _, .int k, x => ([.int k x], [])
  | _, .bool, b => ([.bool b], [])
  | _, .str, s => ([.str s], [])
  | _, .sl e, l => ([.sl e l], [])
  | n, .own e, l => ([.ref n], [(n, .row e l)])
  | _, .unit, _ => ([], [])
  | n, .pair a b, x =>
    let p := unpack n a x.1
    let q := unpack (n + p.2.length) b x.2
    (p.1 ++ q.1, p.2 ++ q.2)

def AV.cells : AV → List CV
  | .agg cs => cs
  | .c x => [x]
  | .tup _ => []

def AV.fits (t : Ty) : AV → Bool
  | .agg _ => isStr t
  | .c _ => !isStr t
  | .tup _ => false

def mkVal (t : Ty) (cs : List CV) : AV :=
  if isStr t then .agg cs else .c (cs.headD .undef)

def CV.ids : CV → List Nat
  | .ref i => [i]
  | .sub i _ _ => [i]
  | .ptr i _ => [i]
  | .elt i _ _ => [i]
  | _ => []

def CV.isDef : CV → Bool
  | .undef => false
  | .nov => false
  | _ => true

def idsOf (cs : List CV) : List Nat := cs.flatMap CV.ids

def AV.ids : AV → List Nat
  | .c x => x.ids
  | .agg cs => idsOf cs
  | .tup vs => vs.flatMap fun p => idsOf p.2

/-! ### numbers, texts -/
def bt (s : ByteArray) (i : Nat) : Int := ((s.data.toList.getD i 0).toNat : Int)
def bytesOf (l : List Int) : ByteArray := ⟨(l.map fun n => UInt8.ofNat n.toNat).toArray⟩
def listOf (s : ByteArray) : List Int := s.data.toList.map fun b => (b.toNat : Int)

def bitOp (op : BinOp) (k : IntKind) (x y : Int) : Int :=
  let a := BitVec.ofInt k.bits x
  let b := BitVec.ofInt k.bits y
  match op with
  | .and => k.wrap (a &&& b).toNat
  | .or => k.wrap (a ||| b).toNat
  | .xor => k.wrap (a ^^^ b).toNat
  | _ => k.wrap (a &&& ~~~b).toNat

def shlv (k : IntKind) (x y : Int) : Int := k.wrap (x * 2 ^ (min y.toNat k.bits))
def shrv (k : IntKind) (x y : Int) : Int := x.fdiv (2 ^ (min y.toNat k.bits))

def sEq (x y : ByteArray) : Bool := x.toList == y.toList
def sLt (x y : ByteArray) : Bool := Go.Op.bytesLess x.toList y.toList

def intBin (op : BinOp) (k : IntKind) (x y : Int) : CT CV :=
  match op with
  | .add => .ok (.int k (k.wrap (x + y)))
  | .sub => .ok (.int k (k.wrap (x - y)))
  | .mul => .ok (.int k (k.wrap (x * y)))
  | .quo => .test (decide (y ≠ 0)) (.ok (.int k (k.wrap (x.tdiv y))))
  | .rem => .test (decide (y ≠ 0)) (.ok (.int k (x.tmod y)))
  | .and => .ok (.int k (bitOp .and k x y))
  | .or => .ok (.int k (bitOp .or k x y))
  | .xor => .ok (.int k (bitOp .xor k x y))
  | .andNot => .ok (.int k (bitOp .andNot k x y))
  | .eql => .ok (.bool (x == y))
  | .neq => .ok (.bool (x != y))
  | .lss => .ok (.bool (decide (x < y)))
  | .leq => .ok (.bool (decide (x ≤ y)))
  | .gtr => .ok (.bool (decide (x > y)))
  | .geq => .ok (.bool (decide (x ≥ y)))
  | _ => .fail

def strBin (op : BinOp) (x y : ByteArray) : CT CV :=
  match op with
  | .add => .test (decide (x.size + y.size ≤ 9223372036854775807)) (.ok (.str (x ++ y)))
  | .eql => .ok (.bool (sEq x y))
  | .neq => .ok (.bool (!sEq x y))
  | .lss => .ok (.bool (sLt x y))
  | .leq => .ok (.bool (sLt x y || sEq x y))
  | .gtr => .ok (.bool (!(sLt x y || sEq x y)))
  | .geq => .ok (.bool (!sLt x y))
  | _ => .fail

def binOpA (op : BinOp) (x y : CV) : CT CV :=
  match x, y with
  | .int k a, .int k' b =>
    match op with
    | .shl => .test (decide (0 ≤ b)) (.ok (.int k (shlv k a b)))
    | .shr => .test (decide (0 ≤ b)) (.ok (.int k (shrv k a b)))
    | _ => if k = k' then intBin op k a b else .fail
  | .str a, .str b => strBin op a b
  | _, _ => .fail

def unOpA (op : UnOp) (x : CV) : CT CV :=
  match op, x with
  | .neg, .int k n => .ok (.int k (k.wrap (0 - n)))
  | .xor, .int k n => .ok (.int k (bitOp .xor k (if k.signed then -1 else k.max) n))
  | .not, .bool b => .ok (.bool !b)
  | _, _ => .fail

/-! ### the table of types -/
structure TI where
  ty : Ty
  bytes : Nat
  ebytes : Nat
  deriving Inhabited

abbrev TE := List (Nat × TI)
def TE.get (te : TE) (t : Nat) : Option TI :=
  match te with
  | [] => none
  | (u, i) :: r => if u = t then some i else TE.get r t

/-- the place and the type of a field -/
def fieldAt : Ty → Nat → Option (Nat × Ty)
  | .pair a _, 0 => some (0, a)
  | .pair a b, n + 1 => match fieldAt b n with | some (o, t) => some (csz a + o, t) | none => none
  | _, _ => none

def splice (cs : List CV) (off : Nat) (new : List CV) : List CV := cs.take off ++ new ++ cs.drop (off + new.length)

/-- parts laid into cells -/
def layParts (t : Ty) : List (Nat × AV) → List CV → Option (List CV)
  | [], cs => some cs
  | (i, v) :: r, cs =>
    match fieldAt t i with
    | some (o, ft) => if v.cells.length = csz ft && v.cells.all CV.isDef && v.fits ft then layParts t r (splice cs o v.cells) else none
    | none => none

abbrev Upd := List (Nat × Option Ob)
def setHp (hp : Hp) (i : Nat) (o : Option Ob) : Hp := fun j => if j = i then o else hp j
def updHp (hp : Hp) : Upd → Hp
  | [] => hp
  | (i, o) :: r => updHp (setHp hp i o) r

def rdN {e : Ty} (l : List (den e)) (i : Nat) : den e := l.getD i (zero e)

/-- The elements of a slice or text that is appended. -/
def elemsOf (hp : Hp) (e : Ty) : AV → Option (List (den e))
  | .c (.str s) => castL (e' := .int .u8) (listOf s)
  | .c x => asL hp e x
  | _ => none

def elemTy : Ty → Option Ty
  | .sl e => some e
  | _ => none

def lenA (hp : Hp) : CV → Option Nat
  | .sl _ l => some l.length
  | .nilv => some 0
  | .str s => some s.size
  | .sub _ _ n => some n
  | .ref i => match hp i with | some (.row _ l) => some l.length | _ => none
  | _ => none

end Go.Proofs.Ythjiokbokncpoaa.Rf

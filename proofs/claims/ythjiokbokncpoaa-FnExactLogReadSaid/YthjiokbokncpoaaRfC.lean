/- What each operation, each piece of code and each function makes of typed values: an evaluator over the plain reading. -/
import Derived.Test.YthjiokbokncpoaaRfA
namespace Go.Proofs.Ythjiokbokncpoaa.Rf
open Go

/-! ### calls -/
inductive PM where
  | imm (t : Ty) | lent (t : Ty) | take (t : Ty) | ref (t : Ty)
inductive RM where
  | val (t : Ty) | ptr (t : Ty)

@[reducible] def PM.ty : PM → Ty
  | .imm t => t
  | .lent t => t
  | .take t => t
  | .ref t => t
@[reducible] def RM.ty : RM → Ty
  | .val t => t
  | .ptr t => t

@[reducible] def inTy : List PM → Ty
  | [] => .unit
  | p :: r => .pair p.ty (inTy r)
@[reducible] def resTy : List RM → Ty
  | [] => .unit
  | r :: rs => .pair r.ty (resTy rs)
@[reducible] def mutTy : List PM → Ty
  | [] => .unit
  | .imm _ :: r => mutTy r
  | .take _ :: r => mutTy r
  | .lent t :: r => .pair t (mutTy r)
  | .ref t :: r => .pair t (mutTy r)

structure FC where
  id : FuncId
  ps : List PM
  rs : List RM
  sem : den (inTy ps) → Option (den (resTy rs) × den (mutTy ps))

def findFC : List FC → FuncId → Option FC
  | [], _ => none
  | c :: r, f => if c.id = f then some c else findFC r f

/-- the numbers of the rows that stand where the type says 'own' -/
def ownIds : Ty → List CV → List Nat × List CV
  | .own _, c :: r => (c.ids, r)
  | .pair a b, cs => let p := ownIds a cs; let q := ownIds b p.2; (p.1 ++ q.1, q.2)
  | .unit, cs => ([], cs)
  | _, _ :: r => ([], r)
  | _, [] => ([], [])

/-- those that stand where it says 'sl' -/
def slIds : Ty → List CV → List Nat × List CV
  | .sl _, c :: r => (c.ids, r)
  | .pair a b, cs => let p := slIds a cs; let q := slIds b p.2; (p.1 ++ q.1, q.2)
  | .unit, cs => ([], cs)
  | _, _ :: r => ([], r)
  | _, [] => ([], [])

def boxOf (hp : Hp) : AV → Option (Nat × List CV)
  | .c (.ptr i 0) => match hp i with
    | some (.box cs) => some (i, cs)
    | _ => none
  | _ => none

/-- an argument: what it tells; the numbers that are lent to be written, those that are read and stay, those that are read and given up -/
def packArg (hp : Hp) (p : PM) (v : AV) : Option (den p.ty × List Nat × List Nat × List Nat) :=
  match p with
  | .ref t => match boxOf hp v with
    | some (i, cs) => match packAll hp t cs with
      | some x => some (x, i :: (ownIds t cs).1, [], (slIds t cs).1)
      | none => none
    | none => none
  | .imm t => if v.fits t && noOwn t then match packAll hp t v.cells with
      | some x => some (x, [], (slIds t v.cells).1, [])
      | none => none else none
  | .lent t => if v.fits t then match packAll hp t v.cells with
      | some x => some (x, (ownIds t v.cells).1, (slIds t v.cells).1, [])
      | none => none else none
  | .take t => if v.fits t then match packAll hp t v.cells with
      | some x => some (x, (ownIds t v.cells).1, [], (slIds t v.cells).1)
      | none => none else none

def packArgs (hp : Hp) : (ps : List PM) → List AV → Option (den (inTy ps) × List Nat × List Nat × List Nat)
  | [], [] => some ((), [], [], [])
  | p :: ps, v :: vs => match packArg hp p v with
    | some (x, o, m, f) => match packArgs hp ps vs with
      | some (y, o', m', f') => some ((x, y), o ++ o', m ++ m', f ++ f')
      | none => none
    | none => none
  | _, _ => none

def nodupB : List Nat → Bool
  | [] => true
  | x :: r => !r.contains x && nodupB r
def disjB (xs ys : List Nat) : Bool := xs.all fun x => !ys.contains x

/-- the rows where the type says 'own', with what they hold now -/
def rewriteOwn : (t : Ty) → List CV → den t → List (Nat × Ob) × List CV
  | .own e, .ref i :: r, l => ([(i, .row e l)], r)
  | .own _, _ :: r, _ => ([], r)
  | .pair a b, cs, x => let p := rewriteOwn a cs x.1; let q := rewriteOwn b p.2 x.2; (p.1 ++ q.1, q.2)
  | .unit, cs, _ => ([], cs)
  | _, _ :: r, _ => ([], r)
  | _, [], _ => ([], [])

def lift (us : List (Nat × Ob)) : Upd := us.map fun p => (p.1, some p.2)
def kills (is : List Nat) : Upd := is.map fun i => (i, none)

/-- how many rows of its own a value has -/
def cnt : Ty → Nat
  | .own _ => 1
  | .pair a b => cnt a + cnt b
  | _ => 0

/-- what the call has taken of the arguments that were lent -/
def backKills (hp : Hp) : List PM → List AV → List Nat
  | .take t :: ps, v :: vs => (ownIds t v.cells).1 ++ (slIds t v.cells).1 ++ backKills hp ps vs
  | .ref t :: ps, v :: vs => (match boxOf hp v with
    | some (_, cs) => (ownIds t cs).1 ++ (slIds t cs).1
    | none => []) ++ backKills hp ps vs
  | _ :: ps, _ :: vs => backKills hp ps vs
  | _, _ => []

/-- what it has written of them; new rows get numbers from n on -/
def backWrites (hp : Hp) (n : Nat) : (ps : List PM) → List AV → den (mutTy ps) → List (Nat × Ob)
  | .imm _ :: ps, _ :: vs, y => backWrites hp n ps vs y
  | .take _ :: ps, _ :: vs, y => backWrites hp n ps vs y
  | .lent t :: ps, v :: vs, y => (rewriteOwn t v.cells y.1).1 ++ backWrites hp n ps vs y.2
  | .ref t :: ps, v :: vs, y => (match boxOf hp v with
    | some (i, _) => [(i, .box (unpack n t y.1).1)]
    | none => []) ++ backWrites hp (n + cnt t) ps vs y.2
  | _, _, _ => []

def backNews (n : Nat) : (ps : List PM) → den (mutTy ps) → List (Nat × Ob)
  | [], _ => []
  | .imm _ :: ps, y => backNews n ps y
  | .take _ :: ps, y => backNews n ps y
  | .lent _ :: ps, y => backNews n ps y.2
  | .ref t :: ps, y => (unpack n t y.1).2 ++ backNews (n + cnt t) ps y.2

def resOne (n : Nat) (r : RM) (x : den r.ty) : (Bool × List CV) × List (Nat × Ob) :=
  match r with
  | .val t => ((isStr t, (unpack n t x).1), (unpack n t x).2)
  | .ptr t => ((false, [.ptr n 0]), (n, .box (unpack (n + 1) t x).1) :: (unpack (n + 1) t x).2)

def cntR : RM → Nat
  | .val t => cnt t
  | .ptr t => cnt t + 1

def cntRs : List RM → Nat
  | [] => 0
  | r :: rs => cntR r + cntRs rs

def cntPs : List PM → Nat
  | [] => 0
  | .ref t :: ps => cnt t + cntPs ps
  | _ :: ps => cntPs ps

def resAll (n : Nat) : (rs : List RM) → den (resTy rs) → List (Bool × List CV) × List (Nat × Ob)
  | [], _ => ([], [])
  | r :: rs, y => ((resOne n r y.1).1 :: (resAll (n + cntR r) rs y.2).1, (resOne n r y.1).2 ++ (resAll (n + cntR r) rs y.2).2)

def resAV : List (Bool × List CV) → AV
  | [p] => if p.1 then .agg p.2 else .c (p.2.headD .undef)
  | ps => .tup ps

def allFlat : List RM → Bool
  | [] => true
  | r :: rs => flatB r.ty && allFlat rs
def mutFlat : List PM → Bool
  | [] => true
  | .lent t :: ps => flatB t && mutFlat ps
  | .ref t :: ps => flatB t && mutFlat ps
  | _ :: ps => mutFlat ps

/-- the call of a function whose meaning is known -/
def callA (hp : Hp) (nid : Nat) (c : FC) (args : List AV) : CT (AV × Upd) :=
  match packArgs hp c.ps args with
  | some (x, os, ms, fs) =>
    if nodupB os && disjB (ms ++ fs) os && (ms.isEmpty || (allFlat c.rs && mutFlat c.ps)) && decide (cntRs c.rs + cntPs c.ps ≤ 16) then
      .call (c.sem x) fun y =>
        .ok (resAV (resAll nid c.rs y.1).1, kills (backKills hp c.ps args) ++ lift (backWrites hp (nid + cntRs c.rs) c.ps args y.2 ++ (backNews (nid + cntRs c.rs) c.ps y.2 ++ (resAll nid c.rs y.1).2)))
    else .fail
  | none => .fail

/-! ### operations -/
def evalA (tm : List AV) : Operand → AV
  | .tmp t => tm.getD t (.c .undef)
  | .const (.int k n) => .c (.int k n)
  | .const (.bool b) => .c (.bool b)
  | .const (.string s) => .c (.str s)
  | .const (.slice none 0 0) => .c .nilv
  | .func f => .c (.fn f)
  | _ => .c .undef

def sameTmp : Operand → Operand → Bool
  | .tmp a, .tmp b => a == b
  | .const (.int .i64 a), .const (.int .i64 b) => a == b
  | _, _ => false

def partAV (t : Ty) (cs : List CV) (off : Nat) : AV := mkVal t ((cs.drop off).take (csz t))

def seqO {α : Type} : List (Option α) → Option (List α)
  | [] => some []
  | some x :: r => match seqO r with | some l => some (x :: l) | none => none
  | none :: _ => none

def CT.map {α β : Type} (f : α → β) : CT α → CT β
  | .fail => .fail
  | .ok a => .ok (f a)
  | .test b x => .test b (x.map f)
  | .call c k => .call c fun y => (k y).map f

def val1 (v : CV) : AV × Upd := (.c v, [])

def eqCell : CV → CV → Option Bool
  | .int k a, .int k' b => if k = k' then some (a == b) else none
  | .bool a, .bool b => some (a == b)
  | .str a, .str b => some (sEq a b)
  | _, _ => none
def eqCells : List CV → List CV → Option Bool
  | [], [] => some true
  | a :: r, b :: s => match eqCell a b with
    | some x => match eqCells r s with
      | some y => some (x && y)
      | none => none
    | none => none
  | _, _ => none

def optI (tm : Operand → AV) (x : Option Operand) (d : Int) : Option Int :=
  match x with
  | none => some d
  | some x => match tm x with | .c (.int _ n) => some n | _ => none

def sliceA (hp : Hp) (te : Option TI) (x : CV) (lo hi : Int) : CT (AV × Upd) :=
  match te, x with
  | some ⟨.str, _, _⟩, .str s => .test (decide (0 ≤ lo)) (.test (decide (lo ≤ hi)) (.test (decide (hi ≤ (s.size : Int))) (.ok (val1 (.str (s.extract lo.toNat hi.toNat))))))
  | some ⟨.sl e, _, _⟩, .sl e' l => if e ≠ e' then .fail else .test (decide (0 ≤ lo)) (.test (decide (lo ≤ hi)) (.test (decide (hi ≤ (l.length : Int))) (.ok (val1 (.sl e' ((l.take hi.toNat).drop lo.toNat))))))
  | some ⟨.sl e, _, _⟩, .ref i => match rowOf hp i e with
    | some l => .test (decide (0 ≤ lo)) (.test (decide (lo ≤ hi)) (.test (decide (hi ≤ (l.length : Int))) (.ok (val1 (.sub i lo.toNat (hi.toNat - lo.toNat))))))
    | none => .fail
  | some ⟨.sl e, _, _⟩, .sub i o n => match rowOf hp i e with
    | some _ => .test (decide (0 ≤ lo)) (.test (decide (lo ≤ hi)) (.test (decide (hi ≤ (n : Int))) (.ok (val1 (.sub i (o + lo.toNat) (hi.toNat - lo.toNat))))))
    | none => .fail
  | _, _ => .fail

def appendA (hp : Hp) (nid : Nat) (e : Ty) (bytes : Nat) (s x : AV) : CT (AV × Upd) :=
  if !noOwn e || bytes == 0 then .fail else
  match elemsOf hp e x with
  | none => .fail
  | some xs => match s with
    | .c .nilv => .test (decide (xs.length * bytes ≤ 140737488355328)) (.ok (.c (.ref nid), [(nid, some (.row e xs))]))
    | .c (.ref i) => match rowOf hp i e with
      | some l => .test (decide ((l.length + xs.length) * bytes ≤ 140737488355328)) (.ok (.c (.ref nid), [(i, none), (nid, some (.row e (l ++ xs)))]))
      | none => .fail
    | _ => .fail

def mn (x y : Int) : Int := if y < x then y else x
def mx (x y : Int) : Int := if x < y then y else x
def foldI (f : Int → Int → Int) : Int → List CV → IntKind → Option Int
  | a, [], _ => some a
  | a, .int k b :: r, k' => if k = k' then foldI f (f a b) r k' else none
  | _, _, _ => none

def one : AV → Option CV
  | .c x => some x
  | _ => none

structure Cfg where
  te : TE
  fs : List FC

def builtinA (cfg : Cfg) (hp : Hp) (nid : Nat) (b : Builtin) (ts : List Nat) (args : List AV) : CT (AV × Upd) :=
  match b, args with
  | .len, [.c x] => match ts with
    | [t] => match cfg.te.get t with
      | some ⟨.sl _, _, _⟩ => match x with
        | .str _ => .fail
        | x => match lenA hp x with
          | some n => .ok (val1 (.int .i64 (n : Int)))
          | none => .fail
      | some ⟨.str, _, _⟩ => match x with
        | .str s => .ok (val1 (.int .i64 (s.size : Int)))
        | _ => .fail
      | _ => .fail
    | _ => .fail
  | .append, [s, x] => match ts with
    | [t, u] => match cfg.te.get t, cfg.te.get u with
      | some ⟨.sl e, _, eb⟩, some ⟨.sl _, _, _⟩ => match x with
        | .c (.str _) => .fail
        | x => appendA hp nid e eb s x
      | some ⟨.sl e, _, eb⟩, some ⟨.str, _, _⟩ => match x with
        | .c (.str z) => appendA hp nid e eb s (.c (.str z))
        | _ => .fail
      | _, _ => .fail
    | _ => .fail
  | .min, .c (.int k a) :: r => match foldI mn a (r.filterMap one) k with
    | some n => if (r.filterMap one).length = r.length then .ok (val1 (.int k n)) else .fail
    | none => .fail
  | .max, .c (.int k a) :: r => match foldI mx a (r.filterMap one) k with
    | some n => if (r.filterMap one).length = r.length then .ok (val1 (.int k n)) else .fail
    | none => .fail
  | _, _ => .fail

def stepOp (cfg : Cfg) (ρ : Operand → AV) (hp : Hp) (nid : Nat) (op : Op) : CT (AV × Upd) :=
  match op with
  | .move x => .ok (ρ x, [])
  | .assign x => .ok (ρ x, [])
  | .pick c a b => match ρ c with
    | .c (.bool t) => .ok (bif t then ρ a else ρ b, [])
    | _ => .fail
  | .alloc t => match cfg.te.get t with
    | some i => .ok (.c (.ptr nid 0), [(nid, some (.box (zeros i.ty)))])
    | none => .fail
  | .box t x => match cfg.te.get t with
    | some i => if (ρ x).cells.length = csz i.ty && (ρ x).fits i.ty && (ρ x).cells.all CV.isDef then .ok (.c (.ptr nid 0), [(nid, some (.box (ρ x).cells))]) else .fail
    | none => .fail
  | .build t ps => match cfg.te.get t with
    | some i => if isStr i.ty then match layParts i.ty (ps.toList.map fun p => (p.1, ρ p.2)) (zeros i.ty) with
        | some cs => .ok (.agg cs, [])
        | none => .fail else .fail
    | none => .fail
  | .buildSlice t n ps => match cfg.te.get t with
    | some ⟨.sl e, _, _⟩ => if ps.toList.map (·.1) = List.range n && noOwn e && decide (n * csz e ≤ 16777216) && ps.toList.all (fun p => (ρ p.2).fits e) then
        match seqO (ps.toList.map fun p => packAll hp e (ρ p.2).cells) with
        | some l => .ok (.c (.ref nid), (nid, some (.row e l)) :: kills (ps.toList.flatMap fun p => idsOf (ρ p.2).cells))
        | none => .fail else .fail
    | _ => .fail
  | .load t a => match cfg.te.get t with
    | some i => match ρ a with
      | .c (.ptr j off) => match hp j with
        | some (.box cs) => if off + csz i.ty ≤ cs.length then .ok (partAV i.ty cs off, []) else .fail
        | _ => .fail
      | .c (.elt j ix off) => match hp j with
        | some (.row e l) => if off + csz i.ty ≤ csz e && noOwn e then .ok (partAV i.ty (flat e (rdN l ix)) off, []) else .fail
        | _ => .fail
      | .c (.cst e x off) => if off + csz i.ty ≤ csz e then .ok (partAV i.ty (flat e x) off, []) else .fail
      | _ => .fail
    | none => .fail
  | .store t a v => match cfg.te.get t with
    | some i => if (ρ v).cells.length = csz i.ty && (ρ v).fits i.ty && (ρ v).cells.all CV.isDef then
      match ρ a with
      | .c (.ptr j off) => match hp j with
        | some (.box cs) => if off + csz i.ty ≤ cs.length then .ok (.c .undef, [(j, some (.box (splice cs off (ρ v).cells)))]) else .fail
        | _ => .fail
      | .c (.elt j ix off) => match hp j with
        | some (.row e l) => if off + csz i.ty ≤ csz e && noOwn e && !(idsOf (ρ v).cells).contains j then
            match packAll hp e (splice (flat e (rdN l ix)) off (ρ v).cells) with
            | some x => .ok (.c .undef, (j, some (.row e (l.set ix x))) :: kills (idsOf (ρ v).cells))
            | none => .fail else .fail
        | _ => .fail
      | _ => .fail else .fail
    | none => .fail
  | .nilCheck x => match ρ x with
    | .c (.ptr i o) => .ok (.c (.ptr i o), [])
    | .c (.elt i ix o) => .ok (.c (.elt i ix o), [])
    | .c (.cst e y o) => .ok (.c (.cst e y o), [])
    | _ => .fail
  | .binOp op t x y _ => match ρ x, ρ y with
    | .c (.bool a), .c (.bool b) => match cfg.te.get t with
      | some ⟨.bool, _, _⟩ => match op with
        | .eql => .ok (val1 (.bool (a == b)))
        | .neq => .ok (val1 (.bool (!(a == b))))
        | _ => .fail
      | _ => .fail
    | .c a, .c b => (binOpA op a b).map val1
    | _, _ => .fail
  | .unOp op _ x => match ρ x with
    | .c a => (unOpA op a).map val1
    | _ => .fail
  | .convert s d x => match cfg.te.get s, cfg.te.get d with
    | some ⟨.int _, _, _⟩, some ⟨.int k, _, _⟩ => match ρ x with
      | .c (.int _ n) => .ok (val1 (.int k (k.wrap n)))
      | _ => .fail
    | some ⟨.str, _, _⟩, some ⟨.str, _, _⟩ => match ρ x with
      | .c (.str s) => .ok (val1 (.str s))
      | _ => .fail
    | some ⟨.sl (.int .u8), _, _⟩, some ⟨.str, _, _⟩ => match ρ x with
      | .c v => match asL hp (.int .u8) v with
        | some l => .ok (val1 (.str (bytesOf l)))
        | none => .fail
      | _ => .fail
    | some ⟨.str, _, _⟩, some ⟨.sl (.int .u8), _, _⟩ => match ρ x with
      | .c (.str s) => .ok (.c (.ref nid), [(nid, some (.row (.int .u8) (listOf s)))])
      | _ => .fail
    | _, _ => .fail
  | .makeSlice t l c => match cfg.te.get t with
    | some ⟨.sl e, _, eb⟩ => if sameTmp l c && noOwn e && eb != 0 then match ρ l with
        | .c (.int .i64 n) => .test (decide (0 ≤ n)) (.test (decide (n * (eb : Int) ≤ 140737488355328)) (.ok (.c (.ref nid), [(nid, some (.row e (List.replicate n.toNat (zero e))))])))
        | _ => .fail else .fail
    | _ => .fail
  | .slice t x lo hi none => match ρ x with
    | .c x => match optI ρ lo 0 with
      | some lo => match lenA hp x with
        | some n => match optI ρ hi n with
          | some hi => sliceA hp (cfg.te.get t) x lo hi
          | none => .fail
        | none => .fail
      | none => .fail
    | _ => .fail
  | .fieldAddr s x f => match cfg.te.get s with
    | some i => match fieldAt i.ty f with
      | some (o, _) => match ρ x with
        | .c (.ptr j off) => .ok (.c (.ptr j (off + o)), [])
        | .c (.elt j ix off) => .ok (.c (.elt j ix (off + o)), [])
        | .c (.cst e y off) => .ok (.c (.cst e y (off + o)), [])
        | _ => .fail
      | none => .fail
    | none => .fail
  | .field s x f => match cfg.te.get s with
    | some i => match fieldAt i.ty f with
      | some (o, ft) => match ρ x with
        | .agg cs => if o + csz ft ≤ cs.length then .ok (partAV ft cs o, []) else .fail
        | _ => .fail
      | none => .fail
    | none => .fail
  | .indexAddr t x ix => match cfg.te.get t, ρ ix with
    | some ⟨.sl te, _, _⟩, .c (.int _ n) => match ρ x with
      | .c (.ref i) => match rowOf hp i te with
        | some l => .test (decide (0 ≤ n)) (.test (decide (n < (l.length : Int))) (.ok (.c (.elt i n.toNat 0), [])))
        | _ => .fail
      | .c (.sub i lo m) => match rowOf hp i te with
        | some _ => .test (decide (0 ≤ n)) (.test (decide (n < (m : Int))) (.ok (.c (.elt i (lo + n.toNat) 0), [])))
        | none => .fail
      | .c (.sl e l) => if e ≠ te then .fail else .test (decide (0 ≤ n)) (.test (decide (n < (l.length : Int))) (.ok (.c (.cst e (rdN l n.toNat) 0), [])))
      | _ => .fail
    | _, _ => .fail
  | .index t x ix => match cfg.te.get t, ρ ix, ρ x with
    | some ⟨.str, _, _⟩, .c (.int _ n), .c (.str s) => .test (decide (0 ≤ n)) (.test (decide (n < (s.size : Int))) (.ok (val1 (.int .u8 (bt s n.toNat)))))
    | _, _, _ => .fail
  | .extract x i => match ρ x with
    | .tup ps => match ps[i]? with
      | some (true, cs) => .ok (.agg cs, [])
      | some (false, [x]) => .ok (.c x, [])
      | _ => .fail
    | _ => .fail
  | .call c => match c.callee with
    | .builtin b => builtinA cfg hp nid b c.argTypes.toList (c.args.toList.map ρ)
    | .value f => match ρ f with
      | .c (.fn f) => match findFC cfg.fs f with
        | some fc => callA hp nid fc (c.args.toList.map ρ)
        | none => .fail
      | _ => .fail
    | _ => .fail
  | _ => .fail

end Go.Proofs.Ythjiokbokncpoaa.Rf

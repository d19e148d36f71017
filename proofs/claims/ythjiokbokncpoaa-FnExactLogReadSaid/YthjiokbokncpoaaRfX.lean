/- The evaluator of code and of functions. -/
import Derived.Test.YthjiokbokncpoaaRfW
namespace Go.Proofs.Ythjiokbokncpoaa.Rf
open Go

inductive Ex where
  | normal | exit (id : Nat) | ret

/-- which slots are live at the head of a loop, and where ways meet, by the number of the region that stands there -/
inductive Coe where
  | keep | own (e : Ty) | sl (e : Ty)

/-- a slot (or the box that it points to) whose cells are brought to a form -/
structure Co where
  slot : Nat
  box : Bool
  cs : List Coe

structure Head where
  rp : List Nat
  co : List Co
  live : List Nat

structure An where
  loops : List (Nat × Head)
  joins : List (Nat × Head)

def look : List (Nat × Head) → Nat → Option Head
  | [], _ => none
  | (i, l) :: r, j => if i = j then some l else look r j

def firstRegion : Code → Option Nat
  | .region id _ _ => some id
  | .seq a b => match firstRegion a with | some i => some i | none => firstRegion b
  | .cond _ a b => match firstRegion a with | some i => some i | none => firstRegion b
  | .block _ a => firstRegion a
  | .loop a => firstRegion a
  | .scope a => firstRegion a
  | _ => none

def coeC (hp : Hp) (nx : Nat) : Coe → CV → CV × Hp × Nat
  | .own e, .nilv => (.ref nx, setHp hp nx (some (.row e [])), nx + 1)
  | .sl e, .nilv => (.sl e [], hp, nx)
  | .sl e, .ref i => match rowOf hp i e with
    | some l => (.sl e l, setHp hp i none, nx)
    | none => (.ref i, hp, nx)
  | .sl e, .sub i lo n => match rowOf hp i e with
    | some l => (.sl e ((l.drop lo).take n), setHp hp i none, nx)
    | none => (.sub i lo n, hp, nx)
  | _, c => (c, hp, nx)

def coeCs (hp : Hp) (nx : Nat) : List Coe → List CV → List CV × Hp × Nat
  | k :: ks, c :: cs => ((coeC hp nx k c).1 :: (coeCs (coeC hp nx k c).2.1 (coeC hp nx k c).2.2 ks cs).1, (coeCs (coeC hp nx k c).2.1 (coeC hp nx k c).2.2 ks cs).2)
  | _, cs => (cs, hp, nx)

def coeOne (s : St) (o : Co) : St :=
  bif o.box then match s.tm.getD o.slot (.c .undef) with
    | .c (.ptr i _) => match s.hp i with
      | some (.box cs) => ⟨s.tm, setHp (coeCs s.hp s.nx o.cs cs).2.1 i (some (.box (coeCs s.hp s.nx o.cs cs).1)), (coeCs s.hp s.nx o.cs cs).2.2⟩
      | _ => s
    | _ => s
  else match s.tm.getD o.slot (.c .undef) with
    | .c x => ⟨s.tm.set o.slot (.c ((coeCs s.hp s.nx o.cs [x]).1.headD .undef)), (coeCs s.hp s.nx o.cs [x]).2.1, (coeCs s.hp s.nx o.cs [x]).2.2⟩
    | .agg cs => ⟨s.tm.set o.slot (.agg (coeCs s.hp s.nx o.cs cs).1), (coeCs s.hp s.nx o.cs cs).2.1, (coeCs s.hp s.nx o.cs cs).2.2⟩
    | .tup _ => s

def coeSt (s : St) : List Co → St
  | [] => s
  | o :: r => coeSt (coeOne s o) r

abbrev LSt := List AV × List (Option Ob)

def aliveIn (hp : Hp) (i : Nat) : Bool :=
  match hp i with
  | some _ => true
  | none => false

def collect (hp : Hp) : Nat → List Nat → List Nat → List Nat
  | 0, _, acc => acc
  | _ + 1, [], acc => acc
  | f + 1, i :: r, acc => bif acc.contains i || !aliveIn hp i then collect hp f r acc else collect hp f (r ++ boxIds hp i) (acc ++ [i])

def pos : List Nat → Nat → Option Nat
  | [], _ => none
  | x :: r, i => if x = i then some 0 else match pos r i with | some j => some (j + 1) | none => none

def renC (acc : List Nat) : CV → CV
  | .ref i => match pos acc i with | some j => .ref j | none => .undef
  | .sub i lo n => match pos acc i with | some j => .sub j lo n | none => .undef
  | .ptr i o => match pos acc i with | some j => .ptr j o | none => .undef
  | .elt i ix o => match pos acc i with | some j => .elt j ix o | none => .undef
  | c => c

def renA (acc : List Nat) : AV → AV
  | .c x => .c (renC acc x)
  | .agg cs => .agg (cs.map (renC acc))
  | .tup ps => .tup (ps.map fun p => (p.1, p.2.map (renC acc)))

def renOb (acc : List Nat) : Ob → Ob
  | .box cs => .box (cs.map (renC acc))
  | .row e l => .row e l

def obsOf (hp : Hp) (acc : List Nat) (is : List Nat) : List (Option Ob) := is.map fun i => match hp i with
  | some ob => some (renOb acc ob)
  | none => none

def getTm (tm : List AV) (t : Nat) : AV := tm.getD t (.c .undef)

def canonIds (m : Nat) (live : List Nat) (s : St) : List Nat := collect s.hp 300 ((live.map (getTm s.tm)).flatMap AV.ids ++ (List.range m).flatMap (boxIds s.hp)) (List.range m)

def canonSt (m : Nat) (live : List Nat) (s : St) : LSt := ((live.map (getTm s.tm)).map (renA (canonIds m live s)), obsOf s.hp (canonIds m live s) (canonIds m live s))

def setAll (tm : List AV) : List Nat → List AV → List AV
  | t :: ts, v :: vs => setAll (tm.set t v) ts vs
  | _, _ => tm

def expandSt (nt : Nat) (live : List Nat) (ls : LSt) : St := ⟨setAll (List.replicate nt (.c .undef)) live ls.1, fun j => (ls.2[j]?).bind fun x => x, ls.2.length⟩

section
variable {R : Type}

def evOps (cfg : Cfg) (ops : Array Oper) (base : Nat) (draw : Bool) : List (Nat × Oper) → List Rec → List AV → Hp → (List AV → Hp → List Rec → Option R) → Option R
  | [], rcs, tm, hp, K => K tm hp rcs
  | (i, o) :: L, rcs, tm, hp, K =>
    let go (tm : List AV) : Option R := (stepOp cfg (evalA tm) (view draw tm hp o.op) (base + 16 * i) o.op).run fun p =>
      evOps cfg ops base draw L (⟨i, fpOf tm hp o.op, p.2.map (·.1)⟩ :: rcs) (putA tm o.dst p.1) (updHp hp p.2) K
    let skip (tm : List AV) : Option R := evOps cfg ops base draw L (⟨i, [], []⟩ :: rcs) (putA tm o.dst (.c .nov)) hp K
    match o.guard with
    | none => go tm
    | some (j, pol) => match (ops[j]?).bind (·.dst) with
      | none => none
      | some d => match tm.getD d (.c .undef) with
        | .c (.bool b) => bif b then (bif pol then go (tm.set d (.c (.bool true))) else skip (tm.set d (.c (.bool true))))
            else (bif pol then skip (tm.set d (.c (.bool false))) else go (tm.set d (.c (.bool false))))
        | .c .nov => skip tm
        | _ => none

def evRegion (cfg : Cfg) (ops : Array Oper) (draw : Bool) (s : St) (K : St → Option R) : Option R :=
  evOps cfg ops s.nx draw (ops.toList.zipIdx.map fun p => (p.2, p.1)) [] s.tm s.hp fun tm hp rcs =>
    bif draw then (bif edgesB ops.toList 0 && pairsB ops (befs ops.toList []) rcs.reverse then K ⟨tm, hp, s.nx + 16 * ops.size⟩ else none)
    else K ⟨tm, hp, s.nx + 16 * ops.size⟩

end

/-- the piece of code at a path -/
def nodeAt : Code → List Nat → Option Code
  | c, [] => some c
  | .seq a _, 0 :: p => nodeAt a p
  | .seq _ b, 1 :: p => nodeAt b p
  | .cond _ a _, 0 :: p => nodeAt a p
  | .cond _ _ b, 1 :: p => nodeAt b p
  | .block _ c, 0 :: p => nodeAt c p
  | .loop c, 0 :: p => nodeAt c p
  | _, _ => none

inductive Md where
  | run | go | up | ex (id : Nat)

def refine (s : St) (c : Operand) (b : Bool) : St :=
  match c with
  | .tmp t => { s with tm := s.tm.set t (.c (.bool b)) }
  | _ => s

def eqL : List Nat → List Nat → Bool
  | [], [] => true
  | a :: r, b :: s => a == b && eqL r s
  | _, _ => false

structure Fu where
  an : An
  cfg : Cfg
  nt : Nat
  m : Nat
  root : Code

/-- what the oracle says at the head of a loop, or where ways meet -/
def atHead {R : Type} (fu : Fu) (o : Nat → LSt → Option R) (hs : List (Nat × Head)) (id : Nat) (rp : List Nat) (s : St) : Option R :=
  match look hs id with
  | none => none
  | some h => bif eqL h.rp rp then o id (canonSt fu.m h.live (coeSt s h.co)) else none

/-- code, up to the next head -/
def evU {R : Type} (fu : Fu) (o : Nat → LSt → Option R) (fin : St → Option R) : Nat → Md → List Nat → St → Option R
  | 0, _, _, _ => none
  | f + 1, .run, rp, s => match nodeAt fu.root rp.reverse with
    | some .skip => evU fu o fin f .up rp s
    | some (.label _) => evU fu o fin f .up rp s
    | some (.region id _ _) => match look fu.an.joins id with
      | some _ => atHead fu o fu.an.joins id rp s
      | none => evU fu o fin f .go rp s
    | some (.seq _ _) => evU fu o fin f .run (0 :: rp) s
    | some (.cond c _ _) => match evalA s.tm c with
      | .c (.bool b) => bif b then evU fu o fin f .run (0 :: rp) (refine s c true) else evU fu o fin f .run (1 :: rp) (refine s c false)
      | _ => none
    | some (.block _ _) => evU fu o fin f .run (0 :: rp) s
    | some (.loop body) => match firstRegion body with
      | some id => atHead fu o fu.an.loops id rp s
      | none => none
    | some (.exit id) => evU fu o fin f (.ex id) rp s
    | some .ret => fin s
    | _ => none
  | f + 1, .go, rp, s => match nodeAt fu.root rp.reverse with
    | some (.region _ ops draw) => evRegion fu.cfg ops draw s (evU fu o fin f .up rp)
    | _ => none
  | f + 1, .up, rp, s => match rp with
    | [] => fin s
    | i :: q => match nodeAt fu.root q.reverse with
      | some (.seq _ _) => match i with
        | 0 => evU fu o fin f .run (1 :: q) s
        | _ => evU fu o fin f .up q s
      | some (.cond _ _ _) => evU fu o fin f .up q s
      | some (.block _ _) => evU fu o fin f .up q s
      | some (.loop body) => match firstRegion body with
        | some id => atHead fu o fu.an.loops id q s
        | none => none
      | _ => none
  | f + 1, .ex id, rp, s => match rp with
    | [] => none
    | _ :: q => match nodeAt fu.root q.reverse with
      | some (.block id' _) => match decide (id' = id) with
        | true => evU fu o fin f .up q s
        | false => evU fu o fin f (.ex id) q s
      | some _ => evU fu o fin f (.ex id) q s
      | none => none

def big : Nat := 100000

/-- the oracle with n rounds -/
def orcN {R : Type} (fu : Fu) (fin : St → Option R) : Nat → Nat → LSt → Option R
  | 0, _, _ => none
  | n + 1, id, ls => match look fu.an.loops id with
    | some h => evU fu (orcN fu fin n) fin big .run (0 :: h.rp) (expandSt fu.nt h.live ls)
    | none => match look fu.an.joins id with
      | some h => evU fu (orcN fu fin n) fin big .go h.rp (expandSt fu.nt h.live ls)
      | none => none

/-- the loops on the way to a path -/
def loopsR (root : Code) : List Nat → List Nat
  | [] => []
  | _ :: q => match nodeAt root q.reverse with
    | some (.loop c) => (firstRegion c).getD 0 :: loopsR root q
    | _ => loopsR root q

def isLoopAt (root : Code) (id : Nat) (h : Head) : Bool :=
  match nodeAt root h.rp.reverse with
  | some (.loop body) => match firstRegion body with
    | some i => decide (i = id) && !(loopsR root h.rp).contains id
    | none => false
  | _ => false

def isJoinAt (root : Code) (id : Nat) (h : Head) : Bool :=
  match nodeAt root h.rp.reverse with
  | some (.region i _ _) => decide (i = id)
  | _ => false

def anOk (root : Code) (an : An) : Bool := an.loops.all (fun p => isLoopAt root p.1 p.2) && an.joins.all (fun p => isJoinAt root p.1 p.2 && match look an.loops p.1 with | some _ => false | none => true)

/-! ### functions -/
/-- the slots of the parameters, their objects -/
def parA (n : Nat) (p : PM) (x : den p.ty) : AV × List (Nat × Ob) :=
  match p with
  | .imm t => (mkVal t (unpack n t x).1, (unpack n t x).2)
  | .lent t => (mkVal t (unpack n t x).1, (unpack n t x).2)
  | .take t => (mkVal t (unpack n t x).1, (unpack n t x).2)
  | .ref t => (.c (.ptr n 0), (n, .box (unpack (n + 1) t x).1) :: (unpack (n + 1) t x).2)

def cntP : PM → Nat
  | .imm t => cnt t
  | .lent t => cnt t
  | .take t => cnt t
  | .ref t => cnt t + 1

def parsA (n : Nat) : (ps : List PM) → den (inTy ps) → List AV × List (Nat × Ob)
  | [], _ => ([], [])
  | p :: ps, x => ((parA n p x.1).1 :: (parsA (n + cntP p) ps x.2).1, (parA n p x.1).2 ++ (parsA (n + cntP p) ps x.2).2)

def listHp (us : List (Nat × Ob)) : Hp := updHp (fun _ => none) (lift us)

def cntIn : List PM → Nat
  | [] => 0
  | p :: ps => cntP p + cntIn ps

/-- what a result's slot tells -/
def retCells (te : TE) (s : St) (r : Ty) (v : ResultVar) : Option (List CV) :=
  match v with
  | .tmp t => bif (getTm s.tm t).fits r then some (getTm s.tm t).cells else none
  | .cell a t => match te.get t, getTm s.tm a with
    | some i, .c (.ptr j off) => match s.hp j with
      | some (.box cs) => bif decide (off + csz i.ty ≤ cs.length) && decide (csz i.ty = csz r) && (isStr i.ty == isStr r) then some ((cs.drop off).take (csz i.ty)) else none
      | _ => none
    | _, _ => none

/-- a result: what it tells, its own numbers, those that are read alone -/
def packRet (te : TE) (s : St) (r : RM) (v : ResultVar) : Option (den r.ty × List Nat × List Nat) :=
  match r with
  | .val t => match retCells te s t v with
    | some cs => match packAll s.hp t cs with
      | some x => some (x, (ownIds t cs).1, (slIds t cs).1)
      | none => none
    | none => none
  | .ptr t => match v with
    | .tmp z => match boxOf s.hp (getTm s.tm z) with
      | some (i, cs) => match packAll s.hp t cs with
        | some x => some (x, i :: (ownIds t cs).1, (slIds t cs).1)
        | none => none
      | none => none
    | _ => none

def packRets (te : TE) (s : St) : (rs : List RM) → List ResultVar → Option (den (resTy rs) × List Nat × List Nat)
  | [], [] => some ((), [], [])
  | r :: rs, v :: vs => match packRet te s r v with
    | some (x, o, m) => match packRets te s rs vs with
      | some (y, o', m') => some ((x, y), o ++ o', m ++ m')
      | none => none
    | none => none
  | _, _ => none

/-- what has become of the arguments that were lent -/
def packMuts (s : St) (n : Nat) : (ps : List PM) → den (inTy ps) → Option (den (mutTy ps) × List Nat × List Nat)
  | [], _ => some ((), [], [])
  | .imm t :: ps, x => packMuts s (n + cnt t) ps x.2
  | .take t :: ps, x => packMuts s (n + cnt t) ps x.2
  | .lent t :: ps, x => match packAll s.hp t (unpack n t x.1).1 with
    | some y => match packMuts s (n + cnt t) ps x.2 with
      | some (z, o, m) => some ((y, z), (ownIds t (unpack n t x.1).1).1 ++ o, (slIds t (unpack n t x.1).1).1 ++ m)
      | none => none
    | none => none
  | .ref t :: ps, x => match s.hp n with
    | some (.box cs) => match packAll s.hp t cs with
      | some y => match packMuts s (n + (cnt t + 1)) ps x.2 with
        | some (z, o, m) => some ((y, z), n :: (ownIds t cs).1 ++ o, (slIds t cs).1 ++ m)
        | none => none
      | none => none
    | _ => none

def exitF (te : TE) (fn : Func) (ps : List PM) (rs : List RM) (x : den (inTy ps)) (s : St) : Option (den (resTy rs) × den (mutTy ps)) :=
  match packRets te s rs fn.results.toList with
  | some (y, o, m) => match packMuts s 0 ps x with
    | some (z, o', m') => bif nodupB (o ++ o') && disjB (m ++ m') (o ++ o') then some (y, z) else none
    | none => none
  | none => none

def entrySt (fn : Func) (ps : List PM) (x : den (inTy ps)) : St :=
  ⟨(parsA 0 ps x).1 ++ List.replicate (fn.ntmps - ps.length) (.c .undef), listHp (parsA 0 ps x).2, cntIn ps⟩

def bodyOf (fn : Func) : Code := fn.body.getD .skip

def fuOf (an : An) (cfg : Cfg) (fn : Func) (ps : List PM) : Fu := ⟨an, cfg, ps.length + (fn.ntmps - ps.length), cntIn ps, bodyOf fn⟩

def evF (an : An) (cfg : Cfg) (k : Nat) (fn : Func) (ps : List PM) (rs : List RM) (x : den (inTy ps)) : Option (den (resTy rs) × den (mutTy ps)) :=
  evU (fuOf an cfg fn ps) (orcN (fuOf an cfg fn ps) (exitF cfg.te fn ps rs x) k) (exitF cfg.te fn ps rs x) big .run [] (entrySt fn ps x)

end Go.Proofs.Ythjiokbokncpoaa.Rf

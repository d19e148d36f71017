/- How typed values, rows and boxes lie in the machine's memory. -/
import Derived.Test.YthjiokbokncpoaaRfA
import Derived.Calls
import Derived.Orders
namespace Go.Proofs.Ythjiokbokncpoaa.Rf
open Go

def RdLs {α : Type} (P : List Value → α → Prop) (n : Nat) (cs : List Value) (l : List α) : Prop :=
  ∀ i (h : i < l.length), P ((cs.drop (i * n)).take n) l[i]

def Rd (w : World) (A : Nat → Prop) : (t : Ty) → List Value → den t → Prop
  | .int k, cs, n => cs = [.int k n]
  | .bool, cs, b => cs = [.bool b]
  | .str, cs, s => cs = [.string s]
  | .sl e, cs, l => (cs = [.slice none 0 0] ∧ l = []) ∨
      ∃ b off cap vs el fz, cs = [.slice (some ⟨b, off, none⟩) (List.length l) cap] ∧ List.length l ≤ cap ∧ A b ∧ w.heap[b]? = some (.cells vs el fz) ∧
        RdLs (Rd w A e) (csz e) (vs.toList.drop off) l
  | .own _, _, _ => False
  | .unit, cs, _ => cs = []
  | .pair a b, cs, x => ∃ c1 c2, cs = c1 ++ c2 ∧ Rd w A a c1 x.1 ∧ Rd w A b c2 x.2

theorem Rd.len {w : World} {A : Nat → Prop} : ∀ {t : Ty} {cs : List Value} {x : den t}, Rd w A t cs x → cs.length = csz t := by
  intro t
  induction t with
  | int k => intro cs x h; simp [Rd] at h; simp [h, csz]
  | bool => intro cs x h; simp [Rd] at h; simp [h, csz]
  | str => intro cs x h; simp [Rd] at h; simp [h, csz]
  | sl e ih =>
    intro cs x h
    rcases h with ⟨h, _⟩ | ⟨b, off, cap, vs, el, fz, h, _⟩ <;> simp [h, csz]
  | own e ih => intro cs x h; exact h.elim
  | unit => intro cs x h; simp [Rd] at h; simp [h, csz]
  | pair a b iha ihb =>
    intro cs x h
    obtain ⟨c1, c2, rfl, h1, h2⟩ := h
    simp [csz, iha h1, ihb h2]

theorem RdLs.mono {α : Type} {P Q : List Value → α → Prop} {n : Nat} {cs : List Value} {l : List α} (h : RdLs P n cs l) (hpq : ∀ c x, P c x → Q c x) : RdLs Q n cs l :=
  fun i hi => hpq _ _ (h i hi)

theorem Rd.frame {w w' : World} {A A' : Nat → Prop} (hf : ∀ b, A b → A' b ∧ w'.heap[b]? = w.heap[b]?) :
    ∀ {t : Ty} {cs : List Value} {x : den t}, Rd w A t cs x → Rd w' A' t cs x := by
  intro t
  induction t with
  | int k => intro cs x h; exact h
  | bool => intro cs x h; exact h
  | str => intro cs x h; exact h
  | sl e ih =>
    intro cs x h
    rcases h with h | ⟨b, off, cap, vs, el, fz, h, hlc, hA, hb, hr⟩
    · exact .inl h
    · exact .inr ⟨b, off, cap, vs, el, fz, h, hlc, (hf b hA).1, by rw [(hf b hA).2]; exact hb, hr.mono fun _ _ h => ih h⟩
  | own e ih => intro cs x h; exact h
  | unit => intro cs x h; exact h
  | pair a b iha ihb =>
    intro cs x h
    obtain ⟨c1, c2, hc, h1, h2⟩ := h
    exact ⟨c1, c2, hc, iha h1, ihb h2⟩

/-! ### what is known of a number -/
inductive Gh where
  | box (b : Nat)
  | row (e : Ty) (b : Option Nat) (len cap : Nat)

abbrev Gm := Nat → Option Gh

def Gh.blk : Gh → Option Nat
  | .box b => some b
  | .row _ b _ _ => b

def hdr (b : Option Nat) (len cap : Nat) : Value :=
  match b with
  | some b => .slice (some ⟨b, 0, none⟩) len cap
  | none => .slice none 0 0

def concC (w : World) (A : Nat → Prop) (g : Gm) : CV → Value → Prop
  | .undef, _ => True
  | .nov, v => v = undef
  | .int k n, v => v = .int k n
  | .bool b, v => v = .bool b
  | .str s, v => v = .string s
  | .sl e l, v => Rd w A (.sl e) [v] l
  | .nilv, v => v = .slice none 0 0
  | .ref i, v => ∃ e b len cap, g i = some (.row e b len cap) ∧ v = hdr b len cap
  | .sub i lo n, v => ∃ e b len cap a cap', g i = some (.row e b len cap) ∧ v = .slice a n cap' ∧ n ≤ cap' ∧ lo + n ≤ len ∧
      ((a = none ∧ n = 0 ∧ cap' = 0) ∨ ∃ b' off, b = some b' ∧ a = some ⟨b', off, none⟩ ∧ (n = 0 ∨ off = lo * csz e))
  | .ptr i off, v => ∃ b, g i = some (.box b) ∧ v = .pointer (some ⟨b, off, none⟩)
  | .elt i ix off, v => ∃ e b len cap, g i = some (.row e (some b) len cap) ∧ ix < len ∧ v = .pointer (some ⟨b, ix * csz e + off, none⟩)
  | .cst e x off, v => ∃ b o vs el fz, v = .pointer (some ⟨b, o + off, none⟩) ∧ A b ∧ w.heap[b]? = some (.cells vs el fz) ∧
      Rd w A e ((vs.toList.drop o).take (csz e)) x
  | .fn f, v => v = .func (.func f) #[] #[]

def concCs (w : World) (A : Nat → Prop) (g : Gm) (cs : List CV) (vs : List Value) : Prop :=
  cs.length = vs.length ∧ ∀ i (h : i < cs.length) (h' : i < vs.length), concC w A g cs[i] vs[i]

def conc (w : World) (A : Nat → Prop) (g : Gm) : AV → Value → Prop
  | .c x, v => concC w A g x v
  | .agg cs, v => ∃ vs : Array Value, v = .agg vs ∧ concCs w A g cs vs.toList
  | .tup ps, v => ∃ vs : Array Value, v = .tuple vs ∧ ps.length = vs.size ∧ ∀ i (h : i < ps.length) (h' : i < vs.size),
      if (ps[i]).1 then ∃ us : Array Value, vs[i] = .agg us ∧ concCs w A g (ps[i]).2 us.toList
      else ∃ x, (ps[i]).2 = [x] ∧ concC w A g x vs[i]

def Gm.le (g g' : Gm) : Prop := ∀ i gh, g i = some gh → g' i = some gh

theorem concC.frame {w w' : World} {A A' : Nat → Prop} {g g' : Gm} (hf : ∀ b, A b → A' b ∧ w'.heap[b]? = w.heap[b]?) (hg : g.le g') {c : CV} {v : Value}
    (h : concC w A g c v) : concC w' A' g' c v := by
  cases c with
  | undef => trivial
  | nov => exact h
  | int k n => exact h
  | bool b => exact h
  | str s => exact h
  | sl e l => exact Rd.frame hf h
  | nilv => exact h
  | ref i => obtain ⟨e, b, len, cap, h1, h2⟩ := h; exact ⟨e, b, len, cap, hg _ _ h1, h2⟩
  | sub i lo n => obtain ⟨e, b, len, cap, a, cap', h1, h2⟩ := h; exact ⟨e, b, len, cap, a, cap', hg _ _ h1, h2⟩
  | ptr i off => obtain ⟨b, h1, h2⟩ := h; exact ⟨b, hg _ _ h1, h2⟩
  | elt i ix off => obtain ⟨e, b, len, cap, h1, h2⟩ := h; exact ⟨e, b, len, cap, hg _ _ h1, h2⟩
  | cst e x off =>
    obtain ⟨b, o, vs, el, fz, h1, h2, h3, h4⟩ := h
    exact ⟨b, o, vs, el, fz, h1, (hf b h2).1, by rw [(hf b h2).2]; exact h3, Rd.frame hf h4⟩
  | fn f => exact h

theorem concCs.frame {w w' : World} {A A' : Nat → Prop} {g g' : Gm} (hf : ∀ b, A b → A' b ∧ w'.heap[b]? = w.heap[b]?) (hg : g.le g') {cs : List CV} {vs : List Value}
    (h : concCs w A g cs vs) : concCs w' A' g' cs vs :=
  ⟨h.1, fun i a b => (h.2 i a b).frame hf hg⟩

theorem conc.frame {w w' : World} {A A' : Nat → Prop} {g g' : Gm} (hf : ∀ b, A b → A' b ∧ w'.heap[b]? = w.heap[b]?) (hg : g.le g') {x : AV} {v : Value}
    (h : conc w A g x v) : conc w' A' g' x v := by
  cases x with
  | c x => exact concC.frame hf hg h
  | agg cs => obtain ⟨vs, h1, h2⟩ := h; exact ⟨vs, h1, h2.frame hf hg⟩
  | tup ps =>
    obtain ⟨vs, h1, h2, h3⟩ := h
    refine ⟨vs, h1, h2, fun i a b => ?_⟩
    have := h3 i a b
    split
    · rename_i hp; rw [if_pos hp] at this; obtain ⟨us, k1, k2⟩ := this; exact ⟨us, k1, k2.frame hf hg⟩
    · rename_i hp; rw [if_neg hp] at this; obtain ⟨x, k1, k2⟩ := this; exact ⟨x, k1, k2.frame hf hg⟩

/-! ### the relation -/
def Alive (hp : Hp) (g : Gm) (b : Nat) : Prop := ∃ i ob gh, hp i = some ob ∧ g i = some gh ∧ gh.blk = some b

/-- where a call began -/
structure Base where
  w : World
  A : Nat → Prop
  O : List Nat

def Im (B : Base) (hp : Hp) (g : Gm) (w : World) (b : Nat) : Prop :=
  b < w.heap.size ∧ (B.A b ∨ B.w.heap.size ≤ b ∨ b ∈ B.O) ∧ ¬ Alive hp g b

structure Fr (B : Base) (w : World) : Prop where
  os : w.os = B.w.os
  tape : w.tape = B.w.tape
  output : w.output = B.w.output
  size : B.w.heap.size ≤ w.heap.size
  block : ∀ b, b < B.w.heap.size → b ∉ B.O → w.heap[b]? = B.w.heap[b]?

def ObOk (w : World) (A : Nat → Prop) (g : Gm) (i : Nat) : Ob → Prop
  | .box cs => ∃ b vs el, g i = some (.box b) ∧ w.heap[b]? = some (.cells vs el (0, 0)) ∧ concCs w A g cs vs.toList
  | .row e l => ∃ b cap, g i = some (.row e b l.length cap) ∧
      (match b with
       | none => l.length = 0 ∧ cap = 0
       | some b => ∃ vs el fz, w.heap[b]? = some (.cells vs el fz) ∧ l.length ≤ cap ∧ cap * csz e ≤ vs.size ∧ (fz.2 ≤ fz.1 ∨ vs.size ≤ fz.1) ∧
          RdLs (Rd w A e) (csz e) vs.toList l)

structure Inv (B : Base) (hp : Hp) (g : Gm) (w : World) : Prop where
  fr : Fr B w
  ob : ∀ i ob, hp i = some ob → ObOk w (Im B hp g w) g i ob
  blk : ∀ i ob gh b, hp i = some ob → g i = some gh → gh.blk = some b → b < w.heap.size ∧ (B.w.heap.size ≤ b ∨ b ∈ B.O)
  inj : ∀ i j oi oj gi gj b, hp i = some oi → hp j = some oj → g i = some gi → g j = some gj → gi.blk = some b → gj.blk = some b → i = j

def concTm (w : World) (A : Nat → Prop) (g : Gm) (tm : List AV) (ts : Array Value) : Prop :=
  tm.length = ts.size ∧ ∀ i (h : i < tm.length) (h' : i < ts.size), conc w A g tm[i] ts[i]

end Go.Proofs.Ythjiokbokncpoaa.Rf

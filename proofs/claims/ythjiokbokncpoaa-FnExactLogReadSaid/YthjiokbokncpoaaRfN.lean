/- What a function's meaning says of the machine's call; the arguments of a call. -/
import Derived.Test.YthjiokbokncpoaaRfM
namespace Go.Proofs.Ythjiokbokncpoaa.Rf
open Go

variable {P : Program} {B : Base} {hp : Hp} {g : Gm} {w : World} {nid : Nat} {A : Nat → Prop}

/-- cells that read as x, the owned rows in blocks of their own -/
def OwnRd (w : World) (A : Nat → Prop) : (t : Ty) → List Value → den t → List Nat → Prop
  | .int k, cs, n, O => cs = [.int k n] ∧ O = []
  | .bool, cs, b, O => cs = [.bool b] ∧ O = []
  | .str, cs, s, O => cs = [.string s] ∧ O = []
  | .sl e, cs, l, O => Rd w A (.sl e) cs l ∧ O = []
  | .own e, cs, l, O => ∃ b cap, cs = [hdr b (List.length l) cap] ∧ RowAt w A e l b cap ∧ O = b.toList
  | .unit, cs, _, O => cs = [] ∧ O = []
  | .pair a b, cs, x, O => ∃ c1 c2 O1 O2, cs = c1 ++ c2 ∧ O = O1 ++ O2 ∧ OwnRd w A a c1 x.1 O1 ∧ OwnRd w A b c2 x.2 O2

def ShapeOk (t : Ty) (v : Value) : Prop := if isStr t then ∃ vs, v = .agg vs else v.cells = #[v]

def BoxAt (w : World) (A : Nat → Prop) (t : Ty) (v : Value) (x : den t) (O : List Nat) : Prop :=
  ∃ b vs el O', v = .pointer (some ⟨b, 0, none⟩) ∧ w.heap[b]? = some (.cells vs el (0, 0)) ∧ OwnRd w A t vs.toList x O' ∧ O = b :: O'

def ArgOk (w : World) (A : Nat → Prop) (p : PM) (v : Value) (x : den p.ty) (O : List Nat) : Prop :=
  match p with
  | .imm t => ShapeOk t v ∧ Rd w A t v.cells.toList x ∧ O = []
  | .lent t => ShapeOk t v ∧ OwnRd w A t v.cells.toList x O
  | .take t => ShapeOk t v ∧ OwnRd w A t v.cells.toList x O
  | .ref t => BoxAt w A t v x O

def ArgsOk (w : World) (A : Nat → Prop) : (ps : List PM) → List Value → den (inTy ps) → List Nat → Prop
  | [], vs, _, O => vs = [] ∧ O = []
  | p :: ps, vs, x, O => ∃ v vs' O1 O2, vs = v :: vs' ∧ O = O1 ++ O2 ∧ ArgOk w A p v x.1 O1 ∧ ArgsOk w A ps vs' x.2 O2

def MutsOk (w : World) (A : Nat → Prop) : (ps : List PM) → List Value → den (mutTy ps) → List Nat → Prop
  | [], _, _, O => O = []
  | .imm _ :: ps, vs, y, O => ∃ v vs', vs = v :: vs' ∧ MutsOk w A ps vs' y O
  | .take _ :: ps, vs, y, O => ∃ v vs', vs = v :: vs' ∧ MutsOk w A ps vs' y O
  | .lent t :: ps, vs, y, O => ∃ v vs' O1 O2, vs = v :: vs' ∧ O = O1 ++ O2 ∧ OwnRd w A t v.cells.toList y.1 O1 ∧ MutsOk w A ps vs' y.2 O2
  | .ref t :: ps, vs, y, O => ∃ v vs' O1 O2, vs = v :: vs' ∧ O = O1 ++ O2 ∧ BoxAt w A t v y.1 O1 ∧ MutsOk w A ps vs' y.2 O2

def ResOk (w : World) (A : Nat → Prop) (r : RM) (v : Value) (x : den r.ty) (O : List Nat) : Prop :=
  match r with
  | .val t => ShapeOk t v ∧ OwnRd w A t v.cells.toList x O
  | .ptr t => BoxAt w A t v x O

def RessOk (w : World) (A : Nat → Prop) : (rs : List RM) → List Value → den (resTy rs) → List Nat → Prop
  | [], vs, _, O => vs = [] ∧ O = []
  | r :: rs, vs, y, O => ∃ v vs' O1 O2, vs = v :: vs' ∧ O = O1 ++ O2 ∧ ResOk w A r v y.1 O1 ∧ RessOk w A rs vs' y.2 O2

def resV (vs : List Value) : Value :=
  match vs with
  | [v] => v
  | vs => .tuple vs.toArray

def After (w w' : World) (A : Nat → Prop) (O O' : List Nat) (b : Nat) : Prop := b < w'.heap.size ∧ (A b ∨ w.heap.size ≤ b ∨ b ∈ O) ∧ b ∉ O'

structure FPost (c : FC) (w : World) (A : Nat → Prop) (O : List Nat) (vs : List Value) (y : den (resTy c.rs) × den (mutTy c.ps)) (e : Ending) (w' : World) : Prop where
  fr : Fr ⟨w, A, O⟩ w'
  res : ∃ us Or Om, e = .returned (resV us) ∧ RessOk w' (After w w' A O (Or ++ Om)) c.rs us y.1 Or ∧ MutsOk w' (After w w' A O (Or ++ Om)) c.ps vs y.2 Om ∧
    (Or ++ Om).Nodup ∧ ∀ b ∈ Or ++ Om, b < w'.heap.size ∧ (w.heap.size ≤ b ∨ b ∈ O)

/-- The machine's call does what the meaning says. -/
def FSound (P : Program) (c : FC) : Prop :=
  (∃ fn cd, P.funcs[c.id]? = some fn ∧ (fn.name == "runtime.NumGoroutine") = false ∧ fn.body = some cd) ∧
  ∀ x y, c.sem x = some y → ∀ (w : World) (A : Nat → Prop) (vs : Array Value) (O : List Nat), ArgsOk w A c.ps vs.toList x O → O.Nodup → (∀ b, A b → b < w.heap.size ∧ b ∉ O) → (∀ b ∈ O, b < w.heap.size) →
    Calls P c.id vs w (FPost c w A O vs.toList y)

theorem OwnRd.len : ∀ {t : Ty} {cs : List Value} {x : den t} {O : List Nat}, OwnRd w A t cs x O → cs.length = csz t
  | .int _, _, _, _, h => by rw [h.1]; rfl
  | .bool, _, _, _, h => by rw [h.1]; rfl
  | .str, _, _, _, h => by rw [h.1]; rfl
  | .sl _, _, _, _, h => h.1.len
  | .own _, _, _, _, h => by obtain ⟨b, cap, h, _⟩ := h; rw [h]; rfl
  | .unit, _, _, _, h => by rw [h.1]; rfl
  | .pair a b, _, _, _, h => by
    obtain ⟨c1, c2, O1, O2, rfl, rfl, h1, h2⟩ := h
    simp [csz, h1.len, h2.len]

theorem OwnRd.of_rd : ∀ {t : Ty} {cs : List Value} {x : den t}, Rd w A t cs x → OwnRd w A t cs x []
  | .int _, _, _, h => ⟨h, rfl⟩
  | .bool, _, _, h => ⟨h, rfl⟩
  | .str, _, _, h => ⟨h, rfl⟩
  | .sl _, _, _, h => ⟨h, rfl⟩
  | .own _, _, _, h => h.elim
  | .unit, _, _, h => ⟨h, rfl⟩
  | .pair a b, _, _, h => by
    obtain ⟨c1, c2, rfl, h1, h2⟩ := h
    exact ⟨c1, c2, [], [], rfl, rfl, OwnRd.of_rd h1, OwnRd.of_rd h2⟩

theorem RowAt.frame {w' : World} {A' : Nat → Prop} (hf : ∀ b, A b → A' b ∧ w'.heap[b]? = w.heap[b]?) {e : Ty} {l : List (den e)} {b : Option Nat} {cap : Nat} (hb : ∀ c, b = some c → w'.heap[c]? = w.heap[c]?)
    (h : RowAt w A e l b cap) : RowAt w' A' e l b cap := by
  cases b with
  | none => exact h
  | some b =>
    obtain ⟨q1, q2, q3, q4, q5, q6, q7, q8⟩ := h
    exact ⟨q1, q2, q3, by rw [hb b rfl]; exact q4, q5, q6, q7, q8.mono fun _ _ h => Rd.frame hf h⟩

theorem OwnRd.frame {w' : World} {A' : Nat → Prop} (hf : ∀ b, A b → A' b ∧ w'.heap[b]? = w.heap[b]?) : ∀ {t : Ty} {cs : List Value} {x : den t} {O : List Nat}, (∀ b ∈ O, w'.heap[b]? = w.heap[b]?) → OwnRd w A t cs x O → OwnRd w' A' t cs x O
  | .int _, _, _, _, _, h => h
  | .bool, _, _, _, _, h => h
  | .str, _, _, _, _, h => h
  | .sl _, _, _, _, _, h => ⟨Rd.frame hf h.1, h.2⟩
  | .own _, _, _, _, hO, h => by
    obtain ⟨b, cap, h1, h2, h3⟩ := h
    exact ⟨b, cap, h1, h2.frame hf (fun c hc => hO c (by rw [h3, hc]; simp)), h3⟩
  | .unit, _, _, _, _, h => h
  | .pair a b, _, _, _, hO, h => by
    obtain ⟨c1, c2, O1, O2, h1, h2, h3, h4⟩ := h
    exact ⟨c1, c2, O1, O2, h1, h2, OwnRd.frame hf (fun b hb => hO b (by rw [h2]; simp [hb])) h3, OwnRd.frame hf (fun b hb => hO b (by rw [h2]; simp [hb])) h4⟩

theorem OwnRd.mono {A' : Nat → Prop} (hA : ∀ b, A b → A' b) {t : Ty} {cs : List Value} {x : den t} {O : List Nat} (h : OwnRd w A t cs x O) : OwnRd w A' t cs x O :=
  OwnRd.frame (fun b hb => ⟨hA b hb, rfl⟩) (fun _ _ => rfl) h

/-- the blocks of numbers -/
def bo (g : Gm) (is : List Nat) : List Nat := is.filterMap fun i => (g i).bind Gh.blk

theorem bo_append (g : Gm) (a b : List Nat) : bo g (a ++ b) = bo g a ++ bo g b := by simp [bo]

theorem mem_bo {g : Gm} {is : List Nat} {b : Nat} (h : b ∈ bo g is) : ∃ i ∈ is, ∃ gh, g i = some gh ∧ gh.blk = some b := by
  simp only [bo, List.mem_filterMap] at h
  obtain ⟨i, hi, h⟩ := h
  cases hg : g i with
  | none => rw [hg] at h; cases h
  | some gh => rw [hg] at h; exact ⟨i, hi, gh, hg, h⟩

def AliveIds (hp : Hp) (is : List Nat) : Prop := ∀ i ∈ is, hp i ≠ none

theorem bo_blkOf {is : List Nat} (ha : AliveIds hp is) {b : Nat} (h : b ∈ bo g is) : ∃ i ∈ is, BlkOf hp g i b := by
  obtain ⟨i, hi, gh, h1, h2⟩ := mem_bo h
  cases ho : hp i with
  | none => exact absurd ho (ha i hi)
  | some ob => exact ⟨i, hi, ob, gh, ho, h1, h2⟩

theorem bo_nodup (hI : Inv B hp g w) : ∀ {is : List Nat}, AliveIds hp is → is.Nodup → (bo g is).Nodup
  | [], _, _ => by simp [bo]
  | i :: is, ha, hn => by
    have ih := bo_nodup hI (is := is) (fun j hj => ha j (by simp [hj])) (List.nodup_cons.1 hn).2
    cases hg : (g i).bind Gh.blk with
    | none => simpa [bo, hg] using ih
    | some b =>
      have e : bo g (i :: is) = b :: bo g is := by simp [bo, hg]
      rw [e, List.nodup_cons]
      refine ⟨fun hb => ?_, ih⟩
      obtain ⟨j, hj, h2⟩ := bo_blkOf (fun j hj => ha j (by simp [hj])) hb
      have h1 : BlkOf hp g i b := by
        have h1a : AliveIds hp [i] := fun k hk => ha k (by simp at hk; simp [hk])
        have h1b : b ∈ bo g [i] := by simp [bo, hg]
        obtain ⟨k, hk, h1⟩ := bo_blkOf h1a h1b
        have : k = i := by simpa using hk
        subst this; exact h1
      have := hI.inj' h1 h2
      subst this
      exact (List.nodup_cons.1 hn).1 hj

theorem nodupB_iff : ∀ {l : List Nat}, nodupB l = true → l.Nodup
  | [], _ => List.nodup_nil
  | x :: r, h => by
    simp only [nodupB, Bool.and_eq_true, Bool.not_eq_true', List.contains_eq_mem] at h
    exact List.nodup_cons.2 ⟨by simpa using h.1, nodupB_iff h.2⟩

theorem disjB_iff {xs ys : List Nat} (h : disjB xs ys = true) : ∀ x ∈ xs, x ∉ ys := by
  intro x hx
  have := List.all_eq_true.1 h x hx
  simpa using this

theorem castL_self {e : Ty} (l : List (den e)) : castL l = some l := by simp [castL]

/-- own cells: what 'pack' tells, as owned rows -/
theorem pack_own (hI : Inv B hp g w) : ∀ {t : Ty} {cs : List CV} {vs : List Value} {x : den t} {r : List CV}, concCs w (Im B hp g w) g cs vs → pack hp t cs = some (x, r) →
    OwnRd w (With B hp g w (slIds t cs).1) t (vs.take (csz t)) x (bo g (ownIds t cs).1) ∧ r = cs.drop (csz t) ∧ csz t ≤ cs.length ∧ AliveIds hp (ownIds t cs).1 ∧ (ownIds t cs).2 = r ∧ (slIds t cs).2 = r ∧
      (∀ i ∈ (slIds t cs).1, hp i ≠ none) := by
  intro t
  induction t with
  | int k =>
    intro cs vs x r hc h
    match cs, vs, hc, h with
    | c :: cs, v :: vs, hc, h =>
      have hv := hc.2 0 (by simp) (by simp)
      cases c <;> simp [pack] at h
      obtain ⟨rfl, rfl, rfl⟩ := h
      simp only [List.getElem_cons_zero] at hv
      obtain rfl := hv
      exact ⟨⟨rfl, rfl⟩, rfl, by simp [csz], fun i hi => by simp [ownIds] at hi, rfl, rfl, fun i hi => by simp [slIds] at hi⟩
    | [], _, _, h => simp [pack] at h
    | _ :: _, [], hc, _ => have := hc.1; simp at this
  | bool =>
    intro cs vs x r hc h
    match cs, vs, hc, h with
    | c :: cs, v :: vs, hc, h =>
      have hv := hc.2 0 (by simp) (by simp)
      cases c <;> simp [pack] at h
      obtain ⟨rfl, rfl⟩ := h
      simp only [List.getElem_cons_zero] at hv
      obtain rfl := hv
      exact ⟨⟨rfl, rfl⟩, rfl, by simp [csz], fun i hi => by simp [ownIds] at hi, rfl, rfl, fun i hi => by simp [slIds] at hi⟩
    | [], _, _, h => simp [pack] at h
    | _ :: _, [], hc, _ => have := hc.1; simp at this
  | str =>
    intro cs vs x r hc h
    match cs, vs, hc, h with
    | c :: cs, v :: vs, hc, h =>
      have hv := hc.2 0 (by simp) (by simp)
      cases c <;> simp [pack] at h
      obtain ⟨rfl, rfl⟩ := h
      simp only [List.getElem_cons_zero] at hv
      obtain rfl := hv
      exact ⟨⟨rfl, rfl⟩, rfl, by simp [csz], fun i hi => by simp [ownIds] at hi, rfl, rfl, fun i hi => by simp [slIds] at hi⟩
    | [], _, _, h => simp [pack] at h
    | _ :: _, [], hc, _ => have := hc.1; simp at this
  | sl e ih =>
    intro cs vs x r hc h
    match cs, vs, hc, h with
    | c :: cs, v :: vs, hc, h =>
      have hv := hc.2 0 (by simp) (by simp)
      simp only [pack] at h
      split at h
      · rename_i l hl
        obtain ⟨rfl, rfl⟩ := Prod.mk.inj (Option.some.inj h)
        have := asL_sound hI hv hl
        refine ⟨⟨this, rfl⟩, rfl, by simp [csz], fun i hi => by simp [ownIds] at hi, rfl, rfl, fun i hi => ?_⟩
        simp only [slIds] at hi
        cases c <;> simp [CV.ids] at hi <;> subst hi
        · have := rowOf_some hl; rw [this]; simp
        · simp only [asL] at hl
          split at hl
          · rename_i l2 h2; have := rowOf_some h2; rw [this]; simp
          · cases hl
        · simp [asL] at hl
        · simp [asL] at hl
      · cases h
    | [], _, _, h => simp [pack] at h
    | _ :: _, [], hc, _ => have := hc.1; simp at this
  | own e ih =>
    intro cs vs x r hc h
    match cs, vs, hc, h with
    | c :: cs, v :: vs, hc, h =>
      have hv := hc.2 0 (by simp) (by simp)
      simp only [pack] at h
      split at h
      · rename_i l hl
        obtain ⟨rfl, rfl⟩ := Prod.mk.inj (Option.some.inj h)
        simp only [List.getElem_cons_zero] at hv
        have key : OwnRd w (With B hp g w []) (.own e) [v] l (bo g c.ids) ∧ (∀ i ∈ c.ids, hp i ≠ none) := by
          cases c <;> simp [asO] at hl
          · subst hl
            obtain rfl := hv
            exact ⟨⟨none, 0, rfl, ⟨rfl, rfl⟩, rfl⟩, fun i hi => by simp [CV.ids] at hi⟩
          · rename_i i
            have hi := rowOf_some hl
            obtain ⟨e', b, len, cap, hg, rfl⟩ := hv
            obtain ⟨rfl, rfl, hrow⟩ := row_of hI hi hg
            refine ⟨⟨b, cap, rfl, ?_, ?_⟩, fun j hj => by
              have : j = i := by simpa [CV.ids] using hj
              subst this; rw [hi]; simp⟩
            · cases b with
              | none => exact hrow
              | some b =>
                obtain ⟨cs, el, fz, k1, k2, k3, k4, k5⟩ := hrow
                exact ⟨cs, el, fz, k1, k2, k3, k4, k5.mono fun _ _ h => Rd.mono (fun b hb => .inl hb) h⟩
            · cases b <;> simp [bo, CV.ids, hg, Gh.blk]
        exact ⟨key.1, rfl, by simp [csz], key.2, rfl, rfl, fun i hi => by simp [slIds] at hi⟩
      · cases h
    | [], _, _, h => simp [pack] at h
    | _ :: _, [], hc, _ => have := hc.1; simp at this
  | unit =>
    intro cs vs x r hc h
    simp [pack] at h
    subst h
    exact ⟨by simp [OwnRd, csz, ownIds, bo], by simp [csz], by simp [csz], fun i hi => by simp [ownIds] at hi, rfl, rfl, fun i hi => by simp [slIds] at hi⟩
  | pair a b iha ihb =>
    intro cs vs x r hc h
    simp only [pack] at h
    split at h
    · rename_i x1 r1 h1
      split at h
      · rename_i y r2 h2
        obtain ⟨rfl, rfl⟩ := Prod.mk.inj (Option.some.inj h)
        obtain ⟨k1, rfl, k3, k4, k5, k6, k7⟩ := iha hc h1
        obtain ⟨m1, rfl, m3, m4, m5, m6, m7⟩ := ihb (hc.drop _) h2
        simp only [List.length_drop] at m3
        refine ⟨⟨vs.take (csz a), (vs.drop (csz a)).take (csz b), bo g (ownIds a cs).1, bo g (ownIds b (cs.drop (csz a))).1, ?_, ?_, ?_, ?_⟩, by simp [csz], by simp only [csz]; omega, ?_, ?_, ?_, ?_⟩
        · rw [← List.take_add]; rfl
        · simp only [ownIds, k5, bo_append]
        · exact k1.mono (fun c hc => With.mono (fun i hi => by simp [slIds, hi]) hc)
        · exact m1.mono (fun c hc => With.mono (fun i hi => by simp only [slIds, k6]; simp [hi]) hc)
        · intro i hi
          simp only [ownIds, k5, List.mem_append] at hi
          exact hi.elim (k4 i) (m4 i)
        · simp only [ownIds, k5, m5]
        · simp only [slIds, k6, m6]
        · intro i hi
          simp only [slIds, k6, List.mem_append] at hi
          exact hi.elim (k7 i) (m7 i)
      · cases h
    · cases h

end Go.Proofs.Ythjiokbokncpoaa.Rf

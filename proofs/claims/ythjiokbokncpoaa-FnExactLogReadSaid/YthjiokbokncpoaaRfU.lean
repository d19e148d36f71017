/- Regions: whatever order the machine draws, it comes to what the order of the text comes to. -/
import Derived.Test.YthjiokbokncpoaaRfS
import Derived.Test.YthjiokbokncpoaaRfT
namespace Go.Proofs.Ythjiokbokncpoaa.Rf
open Go

structure RS where
  tm : List AV
  hp : Hp

structure Rec where
  i : Nat
  fp : List Nat
  wr : List Nat

def restr (fp : List Nat) (hp : Hp) : Hp := fun j => if fp.contains j then hp j else none
def opIds (tm : List AV) (op : Op) : List Nat := op.operands.toList.flatMap fun x => (evalA tm x).ids
def boxIds (hp : Hp) (i : Nat) : List Nat :=
  match hp i with
  | some (.box cs) => idsOf cs
  | _ => []
def fpOf (tm : List AV) (hp : Hp) (op : Op) : List Nat := opIds tm op ++ (opIds tm op).flatMap (boxIds hp)
def view (draw : Bool) (tm : List AV) (hp : Hp) (op : Op) : Hp := bif draw then restr (fpOf tm hp op) hp else hp

def putA (tm : List AV) (dst : Option Tmp) (v : AV) : List AV :=
  match dst with
  | some d => tm.set d v
  | none => tm

def wantedA (ops : Array Oper) (o : Oper) (tm : List AV) : Option Bool :=
  match o.guard with
  | none => some true
  | some (j, pol) => match (ops[j]?).bind (·.dst) with
    | none => none
    | some d => match tm.getD d (.c .undef) with
      | .c (.bool b) => some (b == pol)
      | .c .nov => some false
      | _ => none

def StepR (cfg : Cfg) (ops : Array Oper) (base : Nat) (draw : Bool) (i : Nat) (o : Oper) (s s' : RS) (rc : Rec) : Prop :=
  match wantedA ops o s.tm with
  | some true => ∃ r ups, (stepOp cfg (evalA s.tm) (view draw s.tm s.hp o.op) (base + 16 * i) o.op).val = some (r, ups) ∧ s' = ⟨putA s.tm o.dst r, updHp s.hp ups⟩ ∧ rc = ⟨i, fpOf s.tm s.hp o.op, ups.map (·.1)⟩
  | some false => s' = ⟨putA s.tm o.dst (.c .nov), s.hp⟩ ∧ rc = ⟨i, [], []⟩
  | none => False

def RunR (cfg : Cfg) (ops : Array Oper) (base : Nat) (draw : Bool) : List (Nat × Oper) → RS → List Rec → RS → Prop
  | [], s, rcs, s' => rcs = [] ∧ s' = s
  | (i, o) :: L, s, rcs, s' => ∃ s1 rc rcs', StepR cfg ops base draw i o s s1 rc ∧ rcs = rc :: rcs' ∧ RunR cfg ops base draw L s1 rcs' s'

def RInv (B : Base) (g0 : List Gh) (base : Nat) (done : Nat → Prop) (s : RS) (a : Act) (w : World) : Prop :=
  ∃ g, Inv B s.hp g w ∧ concTm w (Im B s.hp g w) g s.tm a.tmps ∧ (∀ id, g id ≠ none → id < base ∨ ∃ k, done k ∧ base + 16 * k ≤ id ∧ id < base + 16 * k + 16) ∧ a.defers = [] ∧ Ghosts g 0 g0

variable {P : Program} {B : Base} {cfg : Cfg} {ops : Array Oper} {base : Nat} {draw : Bool} {g0 : List Gh}

theorem view_le (tm : List AV) (hp : Hp) (op : Op) : (view draw tm hp op).le hp := by
  intro j ob h
  unfold view at h
  cases draw with
  | false => exact h
  | true =>
    simp only [cond_true, restr] at h
    split at h
    · exact h
    · cases h

theorem concTm.put {w : World} {A : Nat → Prop} {g : Gm} {tm : List AV} {a : Act} {r : AV} {v : Value} (h : concTm w A g tm a.tmps) (hv : conc w A g r v) (dst : Option Tmp) : concTm w A g (putA tm dst r) (a.put dst v).tmps := by
  cases dst with
  | none => exact h
  | some d =>
    refine ⟨by simp [putA, Act.put, h.1], fun i hi hi' => ?_⟩
    simp only [putA, Act.put] at hi hi' ⊢
    have h1 : i < tm.length := by simpa using hi
    have h2 : i < a.tmps.size := by rw [← h.1]; exact h1
    by_cases hid : d = i
    · subst hid
      simp only [List.getElem_set_self, Array.getElem_setIfInBounds_self]
      exact hv
    · rw [List.getElem_set_ne hid, Array.getElem_setIfInBounds_ne _ hid]
      exact h.2 i h1 h2

theorem concTm.frame {w w' : World} {A A' : Nat → Prop} {g g' : Gm} {tm : List AV} {ts : Array Value} (hf : ∀ b, A b → A' b ∧ w'.heap[b]? = w.heap[b]?) (hg : g.le g') (h : concTm w A g tm ts) : concTm w' A' g' tm ts :=
  ⟨h.1, fun i hi hi' => (h.2 i hi hi').frame hf hg⟩

theorem wanted_of {w : World} {A : Nat → Prop} {g : Gm} {tm : List AV} {a : Act} (h : concTm w A g tm a.tmps) {o : Oper} {b : Bool} (hw : wantedA ops o tm = some b) : Region.wanted o (yielded ops a.tmps) = b := by
  unfold wantedA at hw
  unfold Region.wanted
  split at hw
  · rename_i hg; rw [hg]; exact Option.some.inj hw
  · rename_i j pol hg
    rw [hg]
    simp only
    split at hw
    · cases hw
    · rename_i d hd
      have key : ∀ x : CV, tm.getD d (.c .undef) = .c x → x ≠ .undef → ∃ v, a.tmps[d]? = some v ∧ concC w A g x v := by
        intro x hx hne
        rcases Nat.lt_or_ge d tm.length with hlt | hge
        · have h1 := h.2 d hlt (by rw [← h.1]; exact hlt)
          have e : tm[d] = .c x := by simpa [hlt] using hx
          rw [e] at h1
          exact ⟨_, by rw [Array.getElem?_eq_getElem (by rw [← h.1]; exact hlt)], h1⟩
        · rw [List.getD_eq_getElem?_getD, List.getElem?_eq_none hge] at hx
          simp at hx
          exact absurd hx.symm hne
      split at hw
      · rename_i c hc
        obtain ⟨v, h1, h2⟩ := key _ hc (by simp)
        obtain rfl := h2
        obtain rfl := Option.some.inj hw
        simp only [yielded, hd, Option.bind_some, h1]
        cases c <;> cases pol <;> rfl
      · rename_i hc
        obtain ⟨v, h1, h2⟩ := key _ hc (by simp)
        obtain rfl := h2
        obtain rfl := Option.some.inj hw
        simp only [yielded, hd, Option.bind_some, h1, undef]
        rfl
      · cases hw

theorem stepR_sound (hte : teB P cfg.te = true) (hfs : AllSound P cfg.fs) {done : Nat → Prop} {s s' : RS} {a : Act} {w : World} (hI : RInv B g0 base done s a w) {i : Nat} (hi : ¬ done i) {o : Oper} (ho : ops[i]? = some o)
    {rc : Rec} (h : StepR cfg ops base draw i o s s' rc) {K : Act → World → Prop} {Q : Exit → Act → World → Prop} (hK : ∀ a' w', RInv B g0 base (fun k => done k ∨ k = i) s' a' w' → K a' w') : wpOp P ops Q i K a w := by
  obtain ⟨g, hInv, htm, hfr, hdf, hg0⟩ := hI
  unfold wpOp
  simp only [ho]
  unfold StepR at h
  split at h
  · rename_i hw
    obtain ⟨r, ups, h1, rfl, rfl⟩ := h
    rw [wanted_of htm hw, if_pos rfl]
    left
    have h2 := stepOp_mono (view_le s.tm s.hp o.op) h1
    refine stepOp_sound hte hfs hInv (nid := base + 16 * i) ?_ htm h2 ?_
    · intro id h3 h4
      cases hg : g id with
      | none => rfl
      | some gh =>
        rcases hfr id (by rw [hg]; simp) with h5 | ⟨k, hk, h5, h6⟩
        · omega
        · have : k = i := by omega
          subst this; exact absurd hk hi
    · intro g' w' v hp
      refine hK _ _ ⟨g', hp.inv, ?_, ?_, ?_, fun k hk => hp.le _ _ (hg0 k hk)⟩
      · exact concTm.put (htm.frame hp.keep hp.le) hp.val o.dst
      · intro id hid
        cases hg : g id with
        | none =>
          have := hp.new id hg hid
          exact .inr ⟨i, .inr rfl, this.1, this.2⟩
        | some gh =>
          exact (hfr id (by rw [hg]; simp)).imp (fun x => x) fun ⟨k, hk, h⟩ => ⟨k, .inl hk, h⟩
      · cases o.dst <;> exact hdf
  · rename_i hw
    obtain ⟨rfl, rfl⟩ := h
    rw [wanted_of htm hw, if_neg (by simp)]
    refine hK _ _ ⟨g, hInv, concTm.put (r := .c .nov) (v := undef) htm rfl o.dst, ?_, ?_, hg0⟩
    · intro id hid
      exact (hfr id hid).imp (fun x => x) fun ⟨k, hk, h⟩ => ⟨k, .inl hk, h⟩
    · cases o.dst <;> exact hdf
  · exact h.elim

theorem RInv.mono {done done' : Nat → Prop} (hd : ∀ k, done k → done' k) {s : RS} {a : Act} {w : World} (h : RInv B g0 base done s a w) : RInv B g0 base done' s a w := by
  obtain ⟨g, h1, h2, h3, h4⟩ := h
  exact ⟨g, h1, h2, fun id hid => (h3 id hid).imp (fun x => x) fun ⟨k, hk, h⟩ => ⟨k, hd k hk, h⟩, h4⟩

/-- the order of the text -/
theorem seq_sound (hte : teB P cfg.te = true) (hfs : AllSound P cfg.fs) {Q : Exit → Act → World → Prop} {sEnd : RS} (hQ : ∀ a w, RInv B g0 base (fun k => k < ops.size) sEnd a w → Q .normal a w) :
    ∀ (l : List Oper) (k : Nat) (s : RS) (rcs : List Rec) (a : Act) (w : World), (∀ j, l[j]? = ops[k + j]?) → k + l.length = ops.size → RunR cfg ops base draw (l.zipIdx k |>.map fun p => (p.2, p.1)) s rcs sEnd →
      RInv B g0 base (fun j => j < k) s a w → wpOps P ops Q (List.range' k l.length) a w
  | [], k, s, rcs, a, w, _, hk, hr, hI => by
    obtain ⟨_, rfl⟩ := hr
    have hk : k = ops.size := by simpa using hk
    subst hk
    exact hQ a w hI
  | o :: l, k, s, rcs, a, w, hl, hk, hr, hI => by
    have h0 : ops[k]? = some o := by simpa using (hl 0).symm
    obtain ⟨s1, rc, rcs', h1, _, h2⟩ := hr
    rw [List.length_cons, List.range'_succ, wpOps_cons]
    refine stepR_sound hte hfs hI (Nat.lt_irrefl k) h0 h1 fun a' w' hI' => ?_
    refine seq_sound hte hfs hQ l (k + 1) s1 rcs' a' w' (fun j => by have := hl (j + 1); simpa [Nat.add_assoc, Nat.add_comm 1 j] using this) (by simp only [List.length_cons] at hk; omega) h2 ?_
    exact hI'.mono fun j hj => by rcases hj with h | h <;> omega

end Go.Proofs.Ythjiokbokncpoaa.Rf

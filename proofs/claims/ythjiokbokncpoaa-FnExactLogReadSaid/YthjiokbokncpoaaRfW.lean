/- Regions whose order is drawn: every order comes to the same. -/
import Derived.Test.YthjiokbokncpoaaRfV
import Derived.StillTail
namespace Go.Proofs.Ythjiokbokncpoaa.Rf
open Go

variable {P : Program} {B : Base} {cfg : Cfg} {ops : Array Oper} {base : Nat} {g0 : List Gh}

def befBits (acc : List Nat) (es : List Edge) (s : Nat) : Nat :=
  match es with
  | [] => s
  | e :: r => befBits acc r (if Region.binds .any e then s ||| 2 ^ e.on ||| acc.getD e.on 0 else s)

def befs : List Oper → List Nat → List Nat
  | [], acc => acc
  | o :: l, acc => befs l (acc ++ [befBits acc o.after.toList 0])

def edgesB : List Oper → Nat → Bool
  | [], _ => true
  | o :: l, i => o.after.toList.all (fun e => !Region.binds .any e || decide (e.on < i)) && edgesB l (i + 1)

def apartI (ops : Array Oper) (i j : Nat) : Bool :=
  match ops[i]?, ops[j]? with
  | some x, some y => x.apart ops y
  | _, _ => false

def pairOk (ops : Array Oper) (bs : List Nat) (a b : Rec) : Bool := (bs.getD b.i 0).testBit a.i || (apartI ops a.i b.i && indep a b)

def pairsB (ops : Array Oper) (bs : List Nat) : List Rec → Bool
  | [] => true
  | a :: r => r.all (pairOk ops bs a) && pairsB ops bs r

inductive AncP (ops : Array Oper) (j : Nat) : Nat → Prop where
  | edge {i : Nat} {o : Oper} {e : Edge} : ops[i]? = some o → e ∈ o.after → Region.binds .any e = true → e.on = j → AncP ops j i
  | step {i : Nat} {o : Oper} {e : Edge} : ops[i]? = some o → e ∈ o.after → Region.binds .any e = true → AncP ops j e.on → AncP ops j i

theorem befBits_spec {acc : List Nat} {j : Nat} : ∀ {es : List Edge} {s : Nat}, (befBits acc es s).testBit j = true → s.testBit j = true ∨ ∃ e ∈ es, Region.binds .any e = true ∧ (e.on = j ∨ (acc.getD e.on 0).testBit j = true)
  | [], _, h => .inl h
  | e :: r, s, h => by
    simp only [befBits] at h
    rcases befBits_spec h with h1 | ⟨e', h1, h2⟩
    · split at h1
      · rename_i hb
        simp only [Nat.testBit_or, Bool.or_eq_true, Nat.testBit_two_pow, decide_eq_true_eq] at h1
        rcases h1 with (h1 | h1) | h1
        · exact .inl h1
        · exact .inr ⟨e, by simp, hb, .inl h1⟩
        · exact .inr ⟨e, by simp, hb, .inr h1⟩
      · exact .inl h1
    · exact .inr ⟨e', by simp [h1], h2⟩

theorem befs_spec : ∀ (l : List Oper) (acc : List Nat), (∀ k, l[k]? = ops[acc.length + k]?) → (∀ i j, (acc.getD i 0).testBit j = true → AncP ops j i) → ∀ i j, ((befs l acc).getD i 0).testBit j = true → AncP ops j i
  | [], acc, _, h => h
  | o :: l, acc, hl, h => by
    refine befs_spec l (acc ++ [befBits acc o.after.toList 0]) (fun k => by have := hl (k + 1); simpa [Nat.add_assoc, Nat.add_comm 1 k] using this) ?_
    intro i j hij
    rcases Nat.lt_trichotomy i acc.length with hi | hi | hi
    · rw [List.getD_eq_getElem?_getD, List.getElem?_append_left hi, ← List.getD_eq_getElem?_getD] at hij
      exact h i j hij
    · subst hi
      rw [List.getD_eq_getElem?_getD, List.getElem?_append_right (Nat.le_refl _)] at hij
      simp only [Nat.sub_self, List.getElem?_cons_zero, Option.getD_some] at hij
      have ho : ops[acc.length]? = some o := by simpa using (hl 0).symm
      rcases befBits_spec hij with h1 | ⟨e, h1, h2, h3⟩
      · simp at h1
      · rcases h3 with h3 | h3
        · exact .edge ho (by simpa using h1) h2 h3
        · exact .step ho (by simpa using h1) h2 (h _ _ h3)
    · rw [List.getD_eq_getElem?_getD, List.getElem?_eq_none (by simp; omega)] at hij
      simp at hij

theorem edgesB_spec : ∀ (l : List Oper) (k : Nat), edgesB l k = true → ∀ i o, l[i]? = some o → ∀ e ∈ o.after, Region.binds .any e = true → e.on < k + i
  | [], _, _, i, o, h => by simp at h
  | o' :: l, k, hb, i, o, h => by
    simp only [edgesB, Bool.and_eq_true] at hb
    cases i with
    | zero =>
      obtain rfl : o' = o := by simpa using h
      intro e he hbd
      have := List.all_eq_true.1 hb.1 e (by simpa using he)
      simpa [hbd] using this
    | succ i =>
      intro e he hbd
      have := edgesB_spec l (k + 1) hb.2 i o (by simpa using h) e he hbd
      omega

def Closed (ops : Array Oper) (listed : Array Bool) : Prop := ∀ k o, ops[k]? = some o → listed.getD k false = true → ∀ e ∈ o.after, Region.binds .any e = true → listed.getD e.on false = true

theorem anc_listed {listed : Array Bool} (hc : Closed ops listed) {j : Nat} : ∀ {i : Nat}, AncP ops j i → (∀ o, ops[i]? = some o → ∀ e ∈ o.after, Region.binds .any e = true → listed.getD e.on false = true) → listed.getD j false = true := by
  intro i h
  induction h with
  | edge ho he hb hj => intro h; rw [← hj]; exact h _ ho _ he hb
  | step ho he hb _ ih =>
    intro h
    have h1 := h _ ho _ he hb
    exact ih fun o' ho' e' he' hb' => hc _ o' ho' h1 e' he' hb'

theorem runR_recs {draw : Bool} : ∀ {L : List (Nat × Oper)} {s s' : RS} {rcs : List Rec}, RunR cfg ops base draw L s rcs s' → rcs.map (·.i) = L.map (·.1)
  | [], _, _, _, h => by rw [h.1]; rfl
  | (i, o) :: L, s, s', _, h => by
    obtain ⟨s1, rc, rcs', h1, rfl, h2⟩ := h
    have hi : rc.i = i := by
      unfold StepR at h1
      split at h1
      · obtain ⟨_, _, _, _, rfl⟩ := h1; rfl
      · obtain ⟨_, rfl⟩ := h1; rfl
      · exact h1.elim
    simp [hi, runR_recs h2]

/-- an operation that has nothing to do with those ahead of it may be taken first -/
theorem runR_front {i : Nat} {o : Oper} {L2 : List (Nat × Oper)} {ri : Rec} {r2 : List Rec} {s' : RS} : ∀ {L1 : List (Nat × Oper)} {s : RS} {r1 : List Rec}, r1.length = L1.length →
    (∀ p ∈ L1, ops[p.1]? = some p.2) → ops[i]? = some o → (∀ a ∈ r1, apartI ops a.i i = true ∧ indep a ri = true) →
    RunR cfg ops base true (L1 ++ (i, o) :: L2) s (r1 ++ ri :: r2) s' → ∃ s1, StepR cfg ops base true i o s s1 ri ∧ RunR cfg ops base true (L1 ++ L2) s1 (r1 ++ r2) s'
  | [], s, r1, hl, _, _, _, h => by
    have : r1 = [] := List.length_eq_zero_iff.1 hl
    subst this
    obtain ⟨s1, rc, rcs', h1, h2, h3⟩ := h
    obtain ⟨rfl, rfl⟩ := List.cons.inj h2
    exact ⟨s1, h1, h3⟩
  | (j, oj) :: L1, s, [], hl, _, _, _, _ => by simp at hl
  | (j, oj) :: L1, s, rj :: r1, hl, hops, ho, hap, h => by
    obtain ⟨s1, rc, rcs', h1, h2, h3⟩ := h
    obtain ⟨rfl, rfl⟩ := List.cons.inj h2
    obtain ⟨s2, k1, k2⟩ := runR_front (L1 := L1) (by simpa using hl) (fun p hp => hops p (by simp [hp])) ho (fun a ha => hap a (by simp [ha])) h3
    have hji : rj.i = j := by
      unfold StepR at h1
      split at h1
      · obtain ⟨_, _, _, _, rfl⟩ := h1; rfl
      · obtain ⟨_, rfl⟩ := h1; rfl
      · exact h1.elim
    obtain ⟨a1, a2⟩ := hap rj (by simp)
    have hj := hops (j, oj) (by simp)
    simp only at hj
    have hapart : oj.apart ops o = true := by
      rw [hji] at a1
      unfold apartI at a1
      rw [hj, ho] at a1
      exact a1
    obtain ⟨s1', m1, m2⟩ := stepR_swap hapart a2 h1 k1
    exact ⟨s1', m1, s2, rj, r1 ++ r2, m2, rfl, k2⟩

theorem getD_tf {listed : Array Bool} {n i : Nat} (hs : listed.size = n) (hi : i < n) : listed.getD i true = listed.getD i false := by
  simp [hs, hi]

theorem any_sound (hte : teB P cfg.te = true) (hfs : AllSound P cfg.fs) {Q : Exit → Act → World → Prop} {sEnd : RS} (hQ : ∀ a w, RInv B g0 base (fun k => k < ops.size) sEnd a w → Q .normal a w)
    (hedges : edgesB ops.toList 0 = true) {bs : List Nat} (hbs : ∀ i j, (bs.getD i 0).testBit j = true → AncP ops j i) :
    ∀ (n : Nat) (L : List (Nat × Oper)) (listed : Array Bool) (s : RS) (rcs : List Rec) (a : Act) (w : World), L.length = n → listed.size = ops.size → (∀ p ∈ L, ops[p.1]? = some p.2 ∧ listed.getD p.1 false = false) →
      (∀ k, k < ops.size → listed.getD k false = false → ∃ o, (k, o) ∈ L) → (L.map (·.1)).Pairwise (· < ·) → Closed ops listed → RunR cfg ops base true L s rcs sEnd → rcs.Pairwise (fun a b => pairOk ops bs a b = true) →
      RInv B g0 base (fun k => listed.getD k false = true) s a w → wpAny P .any ops Q n listed a w := by
  intro n
  induction n with
  | zero =>
    intro L listed s rcs a w hL hsz h1 h2 _ _ hr _ hI
    have : L = [] := List.length_eq_zero_iff.1 hL
    subst this
    obtain ⟨_, rfl⟩ := hr
    refine ⟨?_, hQ a w (hI.mono fun k hk => ?_)⟩
    · cases hrd : Region.ready .any ops listed with
      | nil => rfl
      | cons k r =>
        have hk : k ∈ Region.ready .any ops listed := by rw [hrd]; simp
        obtain ⟨hun, o, ho, _⟩ := mem_ready.1 hk
        have hlt : k < ops.size := (Array.getElem?_eq_some_iff.1 ho).1
        obtain ⟨o', h⟩ := h2 k hlt (by rw [← getD_tf hsz hlt]; exact hun)
        cases h
    · rcases Nat.lt_or_ge k listed.size with h | h
      · rw [← hsz]; exact h
      · simp [Array.getElem?_eq_none h] at hk
  | succ n ih =>
    intro L listed s rcs a w hL hsz h1 h2 hlt hcl hr hpw hI
    refine ⟨fun hrd => ?_, fun i hi => ?_⟩
    · -- the first of those that are left is ready
      exfalso
      match L, hL with
      | (k, o) :: L', _ =>
        obtain ⟨ho, hun⟩ := h1 (k, o) (by simp)
        have hkl : k < ops.size := (Array.getElem?_eq_some_iff.1 ho).1
        have : k ∈ Region.ready .any ops listed := by
          refine mem_ready.2 ⟨by rw [getD_tf hsz hkl]; exact hun, o, ho, fun e he hb => ?_⟩
          have hlt2 := edgesB_spec ops.toList 0 hedges k o (by simpa using ho) e he hb
          cases hl : listed.getD e.on false with
          | true => rfl
          | false =>
            obtain ⟨o', hm⟩ := h2 e.on (by omega) hl
            rcases List.mem_cons.1 hm with h | h
            · have := (Prod.mk.inj h).1; omega
            · simp only [List.map_cons, List.pairwise_cons] at hlt
              have := hlt.1 e.on (List.mem_map.2 ⟨_, h, rfl⟩)
              omega
        rw [hrd] at this; cases this
    · obtain ⟨hun, o, ho, hall⟩ := mem_ready.1 hi
      have hil : i < ops.size := (Array.getElem?_eq_some_iff.1 ho).1
      obtain ⟨o', hm⟩ := h2 i hil (by rw [← getD_tf hsz hil]; exact hun)
      obtain rfl : o' = o := by
        have := (h1 _ hm).1
        simp only at this
        rw [ho] at this; exact (Option.some.inj this).symm
      obtain ⟨L1, L2, rfl⟩ := List.append_of_mem hm
      -- the records, in the same cut
      have hrec := runR_recs hr
      obtain ⟨r1, rr, hr1, e1, e2⟩ : ∃ r1 rr, rcs = r1 ++ rr ∧ r1.map (·.i) = L1.map (·.1) ∧ rr.map (·.i) = ((i, o') :: L2).map (·.1) := by
        rw [List.map_append] at hrec
        obtain ⟨r1, rr, h, h3, h4⟩ := List.map_eq_append_iff.1 hrec
        exact ⟨r1, rr, h, h3, h4⟩
      obtain ⟨ri, r2, rfl⟩ : ∃ ri r2, rr = ri :: r2 := by
        cases rr with
        | nil => simp at e2
        | cons ri r2 => exact ⟨ri, r2, rfl⟩
      subst hr1
      have hri : ri.i = i := by simpa using (List.cons.inj e2).1
      rw [List.pairwise_append] at hpw
      obtain ⟨pw1, pw2, pw3⟩ := hpw
      have hL1 : ∀ p ∈ L1, p.1 < i := by
        intro p hp
        rw [List.map_append, List.pairwise_append] at hlt
        exact hlt.2.2 p.1 (List.mem_map.2 ⟨p, hp, rfl⟩) i (by simp)
      have hfront : ∀ x ∈ r1, apartI ops x.i i = true ∧ indep x ri = true := by
        intro x hx
        have h3 := pw3 x hx ri (by simp)
        simp only [pairOk, Bool.or_eq_true, Bool.and_eq_true] at h3
        rw [hri] at h3
        rcases h3 with h3 | h3
        · exfalso
          have hanc := hbs i x.i h3
          have hlis := anc_listed hcl hanc (fun o2 ho2 e he hb => by
            rw [ho] at ho2
            obtain rfl := Option.some.inj ho2
            exact hall e he hb)
          have hxm : x.i ∈ L1.map (·.1) := by rw [← e1]; exact List.mem_map.2 ⟨x, hx, rfl⟩
          obtain ⟨p, hp, hpx⟩ := List.mem_map.1 hxm
          have := (h1 p (by simp [hp])).2
          rw [hpx, hlis] at this; cases this
        · exact h3
      obtain ⟨s1, k1, k2⟩ := runR_front (by have := congrArg List.length e1; simpa using this) (fun p hp => (h1 p (by simp [hp])).1) ho hfront hr
      refine stepR_sound hte hfs hI (by rw [← getD_tf hsz hil, hun]; simp) ho k1 fun a' w' hI' => ?_
      refine ih (L1 ++ L2) (listed.setIfInBounds i true) s1 (r1 ++ r2) a' w' ?_ (by simp [hsz]) ?_ ?_ ?_ ?_ k2 ?_ ?_
      · simp only [List.length_append, List.length_cons] at hL ⊢; omega
      · intro p hp
        have hp' : p ∈ L1 ++ (i, o') :: L2 := by
          rcases List.mem_append.1 hp with h | h
          · simp [h]
          · simp [h]
        obtain ⟨q1, q2⟩ := h1 p hp'
        refine ⟨q1, ?_⟩
        have hne : i ≠ p.1 := by
          intro e
          rw [List.map_append, List.map_cons, List.pairwise_append] at hlt
          rcases List.mem_append.1 hp with h | h
          · have := hL1 p h; omega
          · have := (List.pairwise_cons.1 hlt.2.1).1 p.1 (List.mem_map.2 ⟨p, h, rfl⟩)
            simp only at this
            omega
        rw [getD_set_ne false hne]; exact q2
      · intro k hk hk2
        by_cases hik : i = k
        · subst hik
          rw [show (listed.setIfInBounds i true).getD i false = true by simp [hsz, hil]] at hk2
          cases hk2
        · rw [getD_set_ne false hik] at hk2
          obtain ⟨o2, h⟩ := h2 k hk hk2
          refine ⟨o2, ?_⟩
          rcases List.mem_append.1 h with h | h
          · simp [h]
          · rcases List.mem_cons.1 h with h | h
            · exact absurd (Prod.mk.inj h).1.symm hik
            · simp [h]
      · rw [List.map_append, List.map_cons] at hlt
        rw [List.map_append]
        exact List.Pairwise.sublist (List.Sublist.append (List.Sublist.refl _) (List.sublist_cons_self _ _)) hlt
      · intro k o2 hk hl e he hb
        by_cases hik : i = k
        · subst hik
          rw [ho] at hk
          obtain rfl := Option.some.inj hk
          exact getD_set_true (hall e he hb)
        · rw [getD_set_ne false hik] at hl
          exact getD_set_true (hcl k o2 hk hl e he hb)
      · rw [List.pairwise_append]
        exact ⟨pw1, (List.pairwise_cons.1 pw2).2, fun x hx y hy => pw3 x hx y (by simp [hy])⟩
      · refine hI'.mono fun k hk => ?_
        rcases hk with hk | rfl
        · exact getD_set_true hk
        · simp [hsz, hil]

end Go.Proofs.Ythjiokbokncpoaa.Rf

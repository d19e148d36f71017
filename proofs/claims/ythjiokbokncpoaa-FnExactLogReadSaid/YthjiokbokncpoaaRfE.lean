/- What keeps the relation between plain objects and memory: new blocks, stores, objects that are given up. -/
import Derived.Test.YthjiokbokncpoaaRfD
namespace Go.Proofs.Ythjiokbokncpoaa.Rf
open Go

def BlkOf (hp : Hp) (g : Gm) (i b : Nat) : Prop := ∃ ob gh, hp i = some ob ∧ g i = some gh ∧ gh.blk = some b
def setG (g : Gm) (i : Nat) (gh : Gh) : Gm := fun j => if j = i then some gh else g j

theorem alive_iff {hp : Hp} {g : Gm} {b : Nat} : Alive hp g b ↔ ∃ i, BlkOf hp g i b :=
  ⟨fun ⟨i, ob, gh, h⟩ => ⟨i, ob, gh, h⟩, fun ⟨i, ob, gh, h⟩ => ⟨i, ob, gh, h⟩⟩

theorem Gm.le_refl (g : Gm) : g.le g := fun _ _ h => h
theorem Gm.le_trans {a b c : Gm} (h : a.le b) (k : b.le c) : a.le c := fun i gh e => k i gh (h i gh e)
theorem setG_le {g : Gm} {i : Nat} {gh : Gh} (h : g i = none) : g.le (setG g i gh) := by
  intro j k hj
  unfold setG
  split
  · rename_i e; subst e; rw [h] at hj; cases hj
  · exact hj

def Keep (B : Base) (hp hp' : Hp) (g g' : Gm) (w w' : World) : Prop := ∀ b, Im B hp g w b → Im B hp' g' w' b ∧ w'.heap[b]? = w.heap[b]?

theorem Keep.refl (B : Base) (hp : Hp) (g : Gm) (w : World) : Keep B hp hp g g w w := fun _ h => ⟨h, rfl⟩
theorem Keep.trans {B : Base} {hp hp' hp'' : Hp} {g g' g'' : Gm} {w w' w'' : World} (h : Keep B hp hp' g g' w w') (k : Keep B hp' hp'' g' g'' w' w'') : Keep B hp hp'' g g'' w w'' :=
  fun b hb => ⟨(k b (h b hb).1).1, (k b (h b hb).1).2.trans (h b hb).2⟩

theorem ObOk.frame {B : Base} {hp hp' : Hp} {g g' : Gm} {w w' : World} {i : Nat} {ob : Ob} (hk : Keep B hp hp' g g' w w') (hg : g.le g') (h : ObOk w (Im B hp g w) g i ob)
    (hi : hp i = some ob) (hb : ∀ b, BlkOf hp g i b → w'.heap[b]? = w.heap[b]?) : ObOk w' (Im B hp' g' w') g' i ob := by
  cases ob with
  | box cs =>
    obtain ⟨b, vs, el, h1, h2, h3⟩ := h
    exact ⟨b, vs, el, hg _ _ h1, by rw [hb b ⟨_, _, hi, h1, rfl⟩]; exact h2, h3.frame hk hg⟩
  | row e l =>
    obtain ⟨b, cap, h1, h2⟩ := h
    refine ⟨b, cap, hg _ _ h1, ?_⟩
    cases b with
    | none => exact h2
    | some b =>
      obtain ⟨vs, el, fz, k1, k2, k3, k4, k5⟩ := h2
      exact ⟨vs, el, fz, by rw [hb b ⟨_, _, hi, h1, rfl⟩]; exact k1, k2, k3, k4, k5.mono fun _ _ h => Rd.frame hk h⟩

theorem Inv.blk' {B : Base} {hp : Hp} {g : Gm} {w : World} (h : Inv B hp g w) {i b : Nat} (hb : BlkOf hp g i b) : b < w.heap.size ∧ (B.w.heap.size ≤ b ∨ b ∈ B.O) := by
  obtain ⟨ob, gh, h1, h2, h3⟩ := hb
  exact h.blk i ob gh b h1 h2 h3
theorem Inv.inj' {B : Base} {hp : Hp} {g : Gm} {w : World} (h : Inv B hp g w) {i j b : Nat} (hi : BlkOf hp g i b) (hj : BlkOf hp g j b) : i = j := by
  obtain ⟨ob, gh, h1, h2, h3⟩ := hi
  obtain ⟨ob', gh', k1, k2, k3⟩ := hj
  exact h.inj i j ob ob' gh gh' b h1 k1 h2 k2 h3 k3

theorem Inv.step {B : Base} {hp hp' : Hp} {g g' : Gm} {w w' : World} (h : Inv B hp g w) (hg : g.le g') (hos : w'.os = w.os) (htape : w'.tape = w.tape) (hout : w'.output = w.output)
    (hsize : w.heap.size ≤ w'.heap.size)
    (hal : ∀ i b, BlkOf hp' g' i b → (∃ j, BlkOf hp g j b) ∨ w.heap.size ≤ b)
    (hlt : ∀ i b, BlkOf hp' g' i b → b < w'.heap.size)
    (hheap : ∀ b, b < w.heap.size → (∀ i, ¬ BlkOf hp g i b) → w'.heap[b]? = w.heap[b]?)
    (hinj : ∀ i j b, BlkOf hp' g' i b → BlkOf hp' g' j b → i = j)
    (hob : Keep B hp hp' g g' w w' → ∀ i ob, hp' i = some ob → (hp i = some ob ∧ ∀ b, BlkOf hp g i b → w'.heap[b]? = w.heap[b]?) ∨ ObOk w' (Im B hp' g' w') g' i ob) :
    Inv B hp' g' w' ∧ Keep B hp hp' g g' w w' := by
  have hk : Keep B hp hp' g g' w w' := by
    intro b hb
    obtain ⟨h1, h2, h3⟩ := hb
    refine ⟨⟨Nat.lt_of_lt_of_le h1 hsize, h2, fun ha => ?_⟩, hheap b h1 (fun i hi => h3 (alive_iff.2 ⟨i, hi⟩))⟩
    obtain ⟨i, hi⟩ := alive_iff.1 ha
    rcases hal i b hi with ⟨j, hj⟩ | hn
    · exact h3 (alive_iff.2 ⟨j, hj⟩)
    · omega
  have hf := h.fr
  refine ⟨⟨⟨hos.trans hf.os, htape.trans hf.tape, hout.trans hf.output, Nat.le_trans hf.size hsize, fun b hb hO => ?_⟩, fun i ob hi => ?_, ?_, ?_⟩, hk⟩
  · have hna : ∀ i, ¬ BlkOf hp g i b := fun i hi => by
      have := (h.blk' hi).2
      rcases this with h1 | h1
      · omega
      · exact hO h1
    exact (hheap b (Nat.lt_of_lt_of_le hb hf.size) hna).trans (hf.block b hb hO)
  · rcases hob hk i ob hi with ⟨h1, h2⟩ | h1
    · exact (h.ob i ob h1).frame hk hg h1 h2
    · exact h1
  · intro i ob gh b h1 h2 h3
    have hb : BlkOf hp' g' i b := ⟨ob, gh, h1, h2, h3⟩
    refine ⟨hlt i b hb, ?_⟩
    rcases hal i b hb with ⟨j, hj⟩ | hn
    · exact (h.blk' hj).2
    · exact .inl (Nat.le_trans hf.size hn)
  · intro i j oi oj gi gj b h1 h2 h3 h4 h5 h6
    exact hinj i j b ⟨oi, gi, h1, h3, h5⟩ ⟨oj, gj, h2, h4, h6⟩

/-- the same objects in a world with the same heap -/
theorem Inv.same {B : Base} {hp : Hp} {g : Gm} {w w' : World} (h : Inv B hp g w) (hh : w'.heap = w.heap) (hos : w'.os = w.os) (htape : w'.tape = w.tape) (hout : w'.output = w.output) :
    Inv B hp g w' ∧ Keep B hp hp g g w w' :=
  h.step (Gm.le_refl g) hos htape hout (by rw [hh]; exact Nat.le_refl _) (fun i b hb => .inl ⟨i, hb⟩) (fun i b hb => by rw [hh]; exact (h.blk' hb).1) (fun b _ _ => by rw [hh])
    (fun i j b hi hj => h.inj' hi hj) (fun _ i ob hi => .inl ⟨hi, fun b _ => by rw [hh]⟩)

/-- an object is given up -/
theorem Inv.kill {B : Base} {hp : Hp} {g : Gm} {w : World} (h : Inv B hp g w) (i : Nat) : Inv B (setHp hp i none) g w ∧ Keep B hp (setHp hp i none) g g w w := by
  have hsub : ∀ j b, BlkOf (setHp hp i none) g j b → BlkOf hp g j b := by
    rintro j b ⟨ob, gh, h1, h2, h3⟩
    unfold setHp at h1
    split at h1
    · cases h1
    · exact ⟨ob, gh, h1, h2, h3⟩
  refine h.step (Gm.le_refl g) rfl rfl rfl (Nat.le_refl _) (fun j b hb => .inl ⟨j, hsub j b hb⟩) (fun j b hb => (h.blk' (hsub j b hb)).1) (fun _ _ _ => rfl)
    (fun a c b ha hc => h.inj' (hsub a b ha) (hsub c b hc)) (fun _ j ob hj => .inl ⟨?_, fun _ _ => rfl⟩)
  unfold setHp at hj
  split at hj
  · cases hj
  · exact hj

theorem Inv.none_of {B : Base} {hp : Hp} {g : Gm} {w : World} (h : Inv B hp g w) {n : Nat} (hn : g n = none) : hp n = none := by
  cases hq : hp n with
  | none => rfl
  | some ob =>
    have := h.ob n ob hq
    cases ob with
    | box cs => obtain ⟨b, vs, el, h1, _⟩ := this; rw [hn] at h1; cases h1
    | row e l => obtain ⟨b, cap, h1, _⟩ := this; rw [hn] at h1; cases h1

/-- a new object in a new block -/
theorem Inv.alloc {B : Base} {hp : Hp} {g : Gm} {w : World} (h : Inv B hp g w) {n : Nat} (hn : g n = none) (o : Obj) (ob : Ob) (gh : Gh) (hgh : gh.blk = some w.heap.size) {w' : World}
    (hw : w'.heap = w.heap.push o) (hos : w'.os = w.os) (htape : w'.tape = w.tape) (hout : w'.output = w.output)
    (hob : Keep B hp (setHp hp n (some ob)) g (setG g n gh) w w' → ObOk w' (Im B (setHp hp n (some ob)) (setG g n gh) w') (setG g n gh) n ob) :
    Inv B (setHp hp n (some ob)) (setG g n gh) w' ∧ Keep B hp (setHp hp n (some ob)) g (setG g n gh) w w' := by
  have hpn := h.none_of hn
  have hsub : ∀ j b, BlkOf (setHp hp n (some ob)) (setG g n gh) j b → (j = n ∧ b = w.heap.size) ∨ (j ≠ n ∧ BlkOf hp g j b) := by
    rintro j b ⟨ob', gh', h1, h2, h3⟩
    unfold setHp at h1; unfold setG at h2
    split at h1
    · rename_i e
      rw [if_pos e] at h2
      obtain rfl := Option.some.inj h2
      rw [hgh] at h3
      exact .inl ⟨e, (Option.some.inj h3).symm⟩
    · rename_i e
      rw [if_neg e] at h2
      exact .inr ⟨e, ob', gh', h1, h2, h3⟩
  refine h.step (setG_le hn) hos htape hout (by rw [hw]; simp) ?_ ?_ ?_ ?_ ?_
  · intro j b hb
    rcases hsub j b hb with ⟨_, rfl⟩ | ⟨_, hb⟩
    · exact .inr (Nat.le_refl _)
    · exact .inl ⟨j, hb⟩
  · intro j b hb
    rcases hsub j b hb with ⟨_, rfl⟩ | ⟨_, hb⟩
    · rw [hw]; simp
    · rw [hw]; have := (h.blk' hb).1; simp; omega
  · intro b hb _
    rw [hw, Array.getElem?_push, if_neg (by omega)]
  · intro a c b ha hc
    rcases hsub a b ha with ⟨e, rfl⟩ | ⟨_, ha⟩ <;> rcases hsub c _ hc with ⟨e', he⟩ | ⟨_, hc⟩
    · rw [e, e']
    · have := (h.blk' hc).1; omega
    · subst he; have := (h.blk' ha).1; omega
    · exact h.inj' ha hc
  · intro hk j ob' hj
    unfold setHp at hj
    split at hj
    · rename_i e
      obtain rfl := Option.some.inj hj
      subst e
      exact .inr (hob hk)
    · rename_i e
      exact .inl ⟨hj, fun b hb => by rw [hw, Array.getElem?_push, if_neg (by have := (h.blk' hb).1; omega)]⟩

/-- a new row without a block -/
theorem Inv.nilrow {B : Base} {hp : Hp} {g : Gm} {w : World} (h : Inv B hp g w) {n : Nat} (hn : g n = none) (e : Ty) :
    Inv B (setHp hp n (some (.row e []))) (setG g n (.row e none 0 0)) w ∧ Keep B hp (setHp hp n (some (.row e []))) g (setG g n (.row e none 0 0)) w w := by
  have hsub : ∀ j b, BlkOf (setHp hp n (some (.row e []))) (setG g n (.row e none 0 0)) j b → BlkOf hp g j b := by
    rintro j b ⟨ob', gh', h1, h2, h3⟩
    unfold setHp at h1; unfold setG at h2
    split at h1
    · rename_i e
      rw [if_pos e] at h2
      obtain rfl := Option.some.inj h2
      simp [Gh.blk] at h3
    · rename_i e
      rw [if_neg e] at h2
      exact ⟨ob', gh', h1, h2, h3⟩
  refine h.step (setG_le hn) rfl rfl rfl (Nat.le_refl _) (fun j b hb => .inl ⟨j, hsub j b hb⟩) (fun j b hb => (h.blk' (hsub j b hb)).1) (fun _ _ _ => rfl)
    (fun a c b ha hc => h.inj' (hsub a b ha) (hsub c b hc)) (fun _ j ob hj => ?_)
  unfold setHp at hj
  split at hj
  · rename_i e
    obtain rfl := Option.some.inj hj
    subst e
    exact .inr ⟨none, 0, by simp [setG], by simp⟩
  · exact .inl ⟨hj, fun _ _ => rfl⟩

/-- an object's block is written -/
theorem Inv.write {B : Base} {hp : Hp} {g : Gm} {w w' : World} (h : Inv B hp g w) {i b : Nat} {ob ob' : Ob} {vs' : Array Value} {el : TypeId} {fz : Nat × Nat} (hi : hp i = some ob) (hb : BlkOf hp g i b)
    (hst : Stored w w' b vs' el fz)
    (hob : Keep B hp (setHp hp i (some ob')) g g w w' → ObOk w' (Im B (setHp hp i (some ob')) g w') g i ob') :
    Inv B (setHp hp i (some ob')) g w' ∧ Keep B hp (setHp hp i (some ob')) g g w w' := by
  have hsub : ∀ j c, BlkOf (setHp hp i (some ob')) g j c → BlkOf hp g j c := by
    rintro j c ⟨o, gh, h1, h2, h3⟩
    unfold setHp at h1
    split at h1
    · rename_i e; subst e; exact ⟨ob, gh, hi, h2, h3⟩
    · exact ⟨o, gh, h1, h2, h3⟩
  refine h.step (Gm.le_refl g) hst.os hst.tape hst.output (by rw [hst.size]; exact Nat.le_refl _) (fun j c hc => .inl ⟨j, hsub j c hc⟩) (fun j c hc => by rw [hst.size]; exact (h.blk' (hsub j c hc)).1) ?_
    (fun a c b ha hc => h.inj' (hsub a b ha) (hsub c b hc)) ?_
  · intro c _ hna
    exact hst.other c (fun e => hna i (e ▸ hb))
  · intro hk j o hj
    unfold setHp at hj
    split at hj
    · rename_i e
      obtain rfl := Option.some.inj hj
      subst e
      exact .inr (hob hk)
    · rename_i e
      refine .inl ⟨hj, fun c hc => hst.other c fun e' => ?_⟩
      subst e'
      exact e (h.inj' hc hb)

/-- an object's block goes over to a new number, and is written -/
theorem Inv.moved {B : Base} {hp : Hp} {g : Gm} {w w' : World} (h : Inv B hp g w) {i n b : Nat} {ob' : Ob} {gh : Gh} {vs' : Array Value} {el : TypeId} {fz : Nat × Nat} (hb : BlkOf hp g i b)
    (hn : g n = none) (hgh : gh.blk = some b) (hst : Stored w w' b vs' el fz)
    (hob : Keep B hp (setHp (setHp hp i none) n (some ob')) g (setG g n gh) w w' → ObOk w' (Im B (setHp (setHp hp i none) n (some ob')) (setG g n gh) w') (setG g n gh) n ob') :
    Inv B (setHp (setHp hp i none) n (some ob')) (setG g n gh) w' ∧ Keep B hp (setHp (setHp hp i none) n (some ob')) g (setG g n gh) w w' := by
  have hsub : ∀ j c, BlkOf (setHp (setHp hp i none) n (some ob')) (setG g n gh) j c → (j = n ∧ c = b) ∨ (j ≠ n ∧ j ≠ i ∧ BlkOf hp g j c) := by
    rintro j c ⟨o, gh', h1, h2, h3⟩
    unfold setHp at h1; unfold setG at h2
    split at h1
    · rename_i e
      rw [if_pos e] at h2
      obtain rfl := Option.some.inj h2
      rw [hgh] at h3
      exact .inl ⟨e, (Option.some.inj h3).symm⟩
    · rename_i e
      rw [if_neg e] at h2
      split at h1
      · cases h1
      · rename_i e2
        exact .inr ⟨e, e2, o, gh', h1, h2, h3⟩
  refine h.step (setG_le hn) hst.os hst.tape hst.output (by rw [hst.size]; exact Nat.le_refl _) ?_ ?_ ?_ ?_ ?_
  · intro j c hc
    rcases hsub j c hc with ⟨_, rfl⟩ | ⟨_, _, hc⟩
    · exact .inl ⟨i, hb⟩
    · exact .inl ⟨j, hc⟩
  · intro j c hc
    rw [hst.size]
    rcases hsub j c hc with ⟨_, rfl⟩ | ⟨_, _, hc⟩
    · exact (h.blk' hb).1
    · exact (h.blk' hc).1
  · intro c _ hna
    exact hst.other c (fun e => hna i (e ▸ hb))
  · intro a c d ha hc
    rcases hsub a d ha with ⟨e, rfl⟩ | ⟨_, hai, ha⟩ <;> rcases hsub c _ hc with ⟨e', he⟩ | ⟨_, hci, hc⟩
    · rw [e, e']
    · exact absurd (h.inj' hc hb) hci
    · subst he; exact absurd (h.inj' ha hb) hai
    · exact h.inj' ha hc
  · intro hk j o hj
    unfold setHp at hj
    split at hj
    · rename_i e
      obtain rfl := Option.some.inj hj
      subst e
      exact .inr (hob hk)
    · split at hj
      · cases hj
      · rename_i e2
        refine .inl ⟨hj, fun c hc => hst.other c fun e' => ?_⟩
        subst e'
        exact e2 (h.inj' hc hb)

/-! ### what an operation comes to -/
structure Post (B : Base) (hp hp' : Hp) (g : Gm) (w : World) (nid : Nat) (r : AV) (g' : Gm) (w' : World) (v : Value) : Prop where
  le : g.le g'
  new : ∀ i, g i = none → g' i ≠ none → nid ≤ i ∧ i < nid + 16
  inv : Inv B hp' g' w'
  keep : Keep B hp hp' g g' w w'
  val : conc w' (Im B hp' g' w') g' r v

theorem Post.pure {B : Base} {hp : Hp} {g : Gm} {w : World} {nid : Nat} {r : AV} {v : Value} (h : Inv B hp g w) (hv : conc w (Im B hp g w) g r v) : Post B hp hp g w nid r g w v :=
  ⟨Gm.le_refl g, fun i h1 h2 => absurd h1 h2, h, Keep.refl _ _ _ _, hv⟩

end Go.Proofs.Ythjiokbokncpoaa.Rf

/- Plain mathematics: numbers at vertices, made smaller edge by edge; after as many passes as there are vertices nothing changes any more; under no condition but what each theorem states. -/
import Derived.Test.YtkolndfgpplknaaPlain
namespace Go.Proofs.Ytkolndfgpplknaa.Relax
open Go.RowKit Go.Proofs.Ytkolndfgpplknaa.Plain Go.Proofs.YtkolndfgpplknaaW.PrintWords Go.Proofs.YtkolndfgpplknaaW.PrintLast Go.Proofs.YtkolndfgpplknaaW.PrintMore

theorem rd_set {l : List Int} {i j : Int} {v : Int} (h0 : 0 ≤ i) (h1 : i < l.length) (h2 : 0 ≤ j) : rd (l.set i.toNat v) j = if i = j then v else rd l j := by
  unfold rd
  rw [List.getD_eq_getElem?_getD, List.getD_eq_getElem?_getD, List.getElem?_set]
  by_cases h : i = j
  · subst h
    rw [if_pos rfl, if_pos (by omega), if_pos rfl]
    rfl
  · rw [if_neg (by omega), if_neg h]
theorem ext_rd {a b : List Int} (hl : a.length = b.length) (h : ∀ j : Int, 0 ≤ j → j < a.length → rd a j = rd b j) : a = b := by
  refine List.ext_getElem hl (fun i h1 h2 => ?_)
  have := h i (by omega) (by omega)
  unfold rd at this
  rw [List.getD_eq_getElem?_getD, List.getD_eq_getElem?_getD, Int.toNat_natCast, List.getElem?_eq_getElem h1, List.getElem?_eq_getElem h2] at this
  exact this

abbrev Ed := Int × Int × Int
/-- An edge's ends lie below n, and it adds nothing negative. -/
def EOk (n : Int) (E : List Ed) : Prop := ∀ e ∈ E, 0 ≤ e.1 ∧ e.1 < n ∧ 0 ≤ e.2.1 ∧ e.2.1 < n ∧ 0 ≤ e.2.2
def relax (l : List Int) (e : Ed) : List Int := l.set e.2.1.toNat (min (rd l e.2.1) (rd l e.1 + e.2.2))
def pass (E : List Ed) (l : List Int) : List Int := E.foldl relax l
theorem relax_length (l : List Int) (e : Ed) : (relax l e).length = l.length := by simp [relax]
theorem pass_length (E : List Ed) : ∀ l, (pass E l).length = l.length := by
  induction E with
  | nil => intro l; rfl
  | cons e E ih => intro l; exact (ih (relax l e)).trans (relax_length l e)
theorem EOk.head {n : Int} {e : Ed} {E : List Ed} (h : EOk n (e :: E)) : 0 ≤ e.1 ∧ e.1 < n ∧ 0 ≤ e.2.1 ∧ e.2.1 < n ∧ 0 ≤ e.2.2 := h e List.mem_cons_self
theorem EOk.tail {n : Int} {e : Ed} {E : List Ed} (h : EOk n (e :: E)) : EOk n E := fun x hx => h x (List.mem_cons_of_mem _ hx)
theorem rd_relax {l : List Int} {e : Ed} {j : Int} (h0 : 0 ≤ e.2.1) (h1 : e.2.1 < l.length) (h2 : 0 ≤ j) : rd (relax l e) j = if e.2.1 = j then min (rd l e.2.1) (rd l e.1 + e.2.2) else rd l j := rd_set h0 h1 h2
theorem relax_le {l : List Int} {e : Ed} {j : Int} (h0 : 0 ≤ e.2.1) (h1 : e.2.1 < l.length) (h2 : 0 ≤ j) : rd (relax l e) j ≤ rd l j := by
  rw [rd_relax h0 h1 h2]
  split
  · rename_i h
    rw [← h]
    omega
  · omega
theorem pass_le (E : List Ed) : ∀ {l : List Int}, EOk l.length E → ∀ {j : Int}, 0 ≤ j → rd (pass E l) j ≤ rd l j := by
  induction E with
  | nil => intro l _ j _; exact Int.le_refl _
  | cons e E ih =>
    intro l h j hj
    obtain ⟨h1, h2, h3, h4, h5⟩ := h.head
    have := ih (l := relax l e) (by rw [relax_length]; exact h.tail) hj
    exact Int.le_trans this (relax_le h3 h4 hj)
/-- Behind a pass an edge's end is no more than what the edge's begin was, and the edge. -/
theorem pass_edge (E : List Ed) : ∀ {l : List Int}, EOk l.length E → ∀ e ∈ E, rd (pass E l) e.2.1 ≤ rd l e.1 + e.2.2 := by
  induction E with
  | nil => intro l _ e he; simp at he
  | cons f E ih =>
    intro l h e he
    obtain ⟨h1, h2, h3, h4, h5⟩ := h.head
    have ht : EOk (relax l f).length E := by rw [relax_length]; exact h.tail
    rcases List.mem_cons.1 he with rfl | he'
    · have a := pass_le E ht (j := e.2.1) h3
      have b := rd_relax (l := l) (e := e) (j := e.2.1) h3 h4 h3
      rw [if_pos rfl] at b
      show rd (pass E (relax l e)) e.2.1 ≤ _
      omega
    · obtain ⟨g1, g2, g3, g4, g5⟩ := h e he
      have a := ih ht e he'
      have b := relax_le (l := l) (e := f) (j := e.1) h3 h4 g1
      show rd (pass E (relax l f)) e.2.1 ≤ _
      omega
/-- What lies below, and is told by no edge to be smaller, stays below. -/
theorem pass_ge (E : List Ed) (D : Int → Int) (hD : ∀ e ∈ E, D e.2.1 ≤ D e.1 + e.2.2) : ∀ {l : List Int}, EOk l.length E → (∀ j : Int, 0 ≤ j → j < l.length → D j ≤ rd l j) → ∀ j : Int, 0 ≤ j → j < l.length → D j ≤ rd (pass E l) j := by
  induction E with
  | nil => intro l _ h; exact h
  | cons e E ih =>
    intro l h hl j h0 h1
    obtain ⟨g1, g2, g3, g4, g5⟩ := h.head
    refine ih (fun f hf => hD f (List.mem_cons_of_mem _ hf)) (l := relax l e) (by rw [relax_length]; exact h.tail) (fun i hi0 hi1 => ?_) j h0 (by rw [relax_length]; exact h1)
    rw [relax_length] at hi1
    rw [rd_relax g3 g4 hi0]
    split
    · rename_i hh
      have a := hl i hi0 hi1
      have b := hl e.1 g1 g2
      have c := hD e List.mem_cons_self
      rw [hh] at c ⊢
      omega
    · exact hl i hi0 hi1

/-! ### all at once, round by round -/
def best (E : List Ed) (B : Int → Int) (v : Int) : List Ed → Int → Int
  | [], m => m
  | e :: F, m => best E B v F (if e.2.1 = v then min m (B e.1 + e.2.2) else m)
def jac (E : List Ed) (l : List Int) : Nat → Int → Int
  | 0, v => rd l v
  | i + 1, v => best E (jac E l i) v E (jac E l i v)
theorem best_le (E : List Ed) (B : Int → Int) (v : Int) (F : List Ed) : ∀ m, best E B v F m ≤ m := by
  induction F with
  | nil => intro m; exact Int.le_refl _
  | cons e F ih =>
    intro m
    have := ih (if e.2.1 = v then min m (B e.1 + e.2.2) else m)
    simp only [best]
    split at this <;> rename_i h
    · rw [if_pos h]; omega
    · rw [if_neg h]; omega
theorem best_edge (E : List Ed) (B : Int → Int) (v : Int) (F : List Ed) : ∀ m, ∀ e ∈ F, e.2.1 = v → best E B v F m ≤ B e.1 + e.2.2 := by
  induction F with
  | nil => intro m e he; simp at he
  | cons f F ih =>
    intro m e he hv
    rcases List.mem_cons.1 he with rfl | he'
    · have := best_le E B v F (min m (B e.1 + e.2.2))
      simp only [best]
      rw [if_pos hv]
      omega
    · exact ih _ e he' hv
theorem best_is (E : List Ed) (B : Int → Int) (v : Int) (F : List Ed) : ∀ m, best E B v F m = m ∨ ∃ e ∈ F, e.2.1 = v ∧ best E B v F m = B e.1 + e.2.2 := by
  induction F with
  | nil => intro m; exact .inl rfl
  | cons f F ih =>
    intro m
    rcases ih (if f.2.1 = v then min m (B f.1 + f.2.2) else m) with h | ⟨e, he, hv, h⟩
    · simp only [best]
      by_cases hf : f.2.1 = v
      · rw [if_pos hf] at h ⊢
        by_cases hm : m ≤ B f.1 + f.2.2
        · left; rw [h]; omega
        · right; exact ⟨f, List.mem_cons_self, hf, by rw [h]; omega⟩
      · rw [if_neg hf] at h ⊢
        exact .inl h
    · right
      exact ⟨e, List.mem_cons_of_mem _ he, hv, h⟩
theorem jac_le (E : List Ed) (l : List Int) (i : Nat) (v : Int) : jac E l (i + 1) v ≤ jac E l i v := best_le _ _ _ _ _
theorem jac_mono (E : List Ed) (l : List Int) {i j : Nat} (h : i ≤ j) (v : Int) : jac E l j v ≤ jac E l i v := by
  induction h with
  | refl => exact Int.le_refl _
  | step h ih => exact Int.le_trans (jac_le E l _ v) ih
theorem jac_edge (E : List Ed) (l : List Int) (i : Nat) (e : Ed) (he : e ∈ E) : jac E l (i + 1) e.2.1 ≤ jac E l i e.1 + e.2.2 := best_edge _ _ _ _ _ e he rfl

/-- No two alike, all below n: no more than n. -/
theorem nodup_bound : ∀ (n : Nat) (L : List Int), L.Nodup → (∀ x ∈ L, 0 ≤ x ∧ x < n) → L.length ≤ n := by
  intro n
  induction n with
  | zero =>
    intro L _ h
    cases L with
    | nil => simp
    | cons x L => have := h x List.mem_cons_self; omega
  | succ n ih =>
    intro L hn h
    by_cases hm : (n : Int) ∈ L
    · have h1 := List.length_erase_of_mem hm
      have h2 := ih (L.erase (n : Int)) (hn.erase _) (fun x hx => by
        rw [hn.mem_erase_iff] at hx
        have := h x hx.2
        have := hx.1
        omega)
      omega
    · have := ih L hn (fun x hx => by
        have := h x hx
        have : x ≠ n := fun e => hm (e ▸ hx)
        omega)
      omega
/-- A vertex that turns in round i + 1 stands behind i others. -/
theorem jac_chain (E : List Ed) (l : List Int) (n : Int) (hE : EOk n E) (i : Nat) : ∀ v, 0 ≤ v → v < n → jac E l (i + 1) v < jac E l i v →
    ∃ L : List Int, L.length = i + 1 ∧ L.Nodup ∧ (∀ x ∈ L, 0 ≤ x ∧ x < n) ∧ ∀ x ∈ L, ∃ j, j ≤ i ∧ jac E l (j + 1) x ≤ jac E l (i + 1) v := by
  induction i with
  | zero =>
    intro v h0 h1 h
    refine ⟨[v], rfl, by simp, by simpa using ⟨h0, h1⟩, fun x hx => ⟨0, Nat.le_refl _, ?_⟩⟩
    rw [List.mem_singleton.1 hx]
    exact Int.le_refl _
  | succ i ih =>
    intro v h0 h1 h
    rcases best_is E (jac E l (i + 1)) v E (jac E l (i + 1) v) with hh | ⟨e, he, hv, hh⟩
    · have : jac E l (i + 1 + 1) v = jac E l (i + 1) v := hh
      omega
    · have hval : jac E l (i + 1 + 1) v = jac E l (i + 1) e.1 + e.2.2 := hh
      obtain ⟨g1, g2, g3, g4, g5⟩ := hE e he
      have h2 := jac_edge E l i e he
      rw [hv] at h2
      obtain ⟨L, hl, hn, hb, hx⟩ := ih e.1 g1 g2 (by omega)
      have hnot : v ∉ L := fun hv' => by
        obtain ⟨j, hj, hle⟩ := hx v hv'
        have := jac_mono E l (show j + 1 ≤ i + 1 by omega) v
        omega
      refine ⟨v :: L, by simp [hl], List.nodup_cons.2 ⟨hnot, hn⟩, fun x hx' => ?_, fun x hx' => ?_⟩
      · rcases List.mem_cons.1 hx' with rfl | h3
        · exact ⟨h0, h1⟩
        · exact hb x h3
      · rcases List.mem_cons.1 hx' with rfl | h3
        · exact ⟨i + 1, Nat.le_refl _, Int.le_refl _⟩
        · obtain ⟨j, hj, hle⟩ := hx x h3
          exact ⟨j, by omega, by omega⟩
theorem jac_stays (E : List Ed) (l : List Int) (n : Nat) (hE : EOk n E) (v : Int) (h0 : 0 ≤ v) (h1 : v < n) : jac E l (n + 1) v = jac E l n v := by
  have h := jac_le E l n v
  by_cases hh : jac E l (n + 1) v < jac E l n v
  · obtain ⟨L, hl, hn, hb, _⟩ := jac_chain E l n hE n v h0 h1 hh
    have := nodup_bound n L hn hb
    omega
  · omega
def passes (E : List Ed) : Nat → List Int → List Int
  | 0, l => l
  | i + 1, l => pass E (passes E i l)
theorem passes_length (E : List Ed) (i : Nat) (l : List Int) : (passes E i l).length = l.length := by
  induction i with
  | zero => rfl
  | succ i ih => exact (pass_length E _).trans ih
theorem passes_le_jac (E : List Ed) (l : List Int) (hE : EOk l.length E) (i : Nat) : ∀ v : Int, 0 ≤ v → v < l.length → rd (passes E i l) v ≤ jac E l i v := by
  induction i with
  | zero => intro v _ _; exact Int.le_refl _
  | succ i ih =>
    intro v h0 h1
    have hE' : EOk (passes E i l).length E := by rw [passes_length]; exact hE
    rcases best_is E (jac E l i) v E (jac E l i v) with hh | ⟨e, he, hv, hh⟩
    · have h2 : jac E l (i + 1) v = jac E l i v := hh
      have h3 := pass_le E hE' h0
      have h4 := ih v h0 h1
      show rd (pass E (passes E i l)) v ≤ _
      omega
    · have h2 : jac E l (i + 1) v = jac E l i e.1 + e.2.2 := hh
      obtain ⟨g1, g2, g3, g4, g5⟩ := hE e he
      have h3 := pass_edge E hE' e he
      have h4 := ih e.1 g1 g2
      rw [hv] at h3
      show rd (pass E (passes E i l)) v ≤ _
      omega
/-- After as many passes as there are vertices: nothing turns any more. -/
theorem passes_stay (E : List Ed) (l : List Int) (hE : EOk l.length E) : pass E (passes E l.length l) = passes E l.length l := by
  have hD : ∀ e ∈ E, jac E l l.length e.2.1 ≤ jac E l l.length e.1 + e.2.2 := fun e he => by
    obtain ⟨g1, g2, g3, g4, g5⟩ := hE e he
    have := jac_edge E l l.length e he
    rw [jac_stays E l l.length hE _ g3 g4] at this
    exact this
  have hge : ∀ i, ∀ j : Int, 0 ≤ j → j < l.length → jac E l l.length j ≤ rd (passes E i l) j := by
    intro i
    induction i with
    | zero => intro j h0 h1; exact jac_mono E l (Nat.zero_le _) j
    | succ i ih =>
      intro j h0 h1
      exact pass_ge E _ hD (by rw [passes_length]; exact hE) (fun j' a b => ih j' a (by rw [passes_length] at b; exact b)) j h0 (by rw [passes_length]; exact h1)
  refine ext_rd (pass_length E _) (fun j h0 h1 => ?_)
  rw [pass_length, passes_length] at h1
  have a := hge (l.length + 1) j h0 h1
  have b := passes_le_jac E l hE l.length j h0 h1
  have c := pass_le E (l := passes E l.length l) (by rw [passes_length]; exact hE) h0
  have d := hge l.length j h0 h1
  have a' : jac E l l.length j ≤ rd (pass E (passes E l.length l)) j := a
  omega
theorem passes_fix (E : List Ed) (i : Nat) (l : List Int) (h : pass E (passes E i l) = passes E i l) (d : Nat) : passes E (i + d) l = passes E i l := by
  induction d with
  | zero => rfl
  | succ d ih =>
    show pass E (passes E (i + d) l) = _
    rw [ih]
    exact h
end Go.Proofs.Ytkolndfgpplknaa.Relax

/- What Paths and the reference's Paths come to: after as many passes as there are vertices; under no condition but what each theorem states. -/
import Derived.Test.YtkolndfgpplknaaFnGraph
import Derived.Test.YtkolndfgpplknaaGx2
import Derived.Test.YtkolndfgpplknaaGx3
import Derived.Test.YtkolndfgpplknaaGx5
namespace Go.Proofs.Ytkolndfgpplknaa.Fn
set_option linter.unusedSimpArgs false
set_option linter.unusedVariables false
open Go.RowKit Go.Proofs.Ytkolndfgpplknaa.Plain Go.Proofs.Ytkolndfgpplknaa.Relax Go.Proofs.Ytkolndfgpplknaa.G Go.Proofs.YtkolndfgpplknaaW.PrintWords Go.Proofs.YtkolndfgpplknaaW.PrintLast Go.Proofs.YtkolndfgpplknaaW.PrintMore

def eW (e : S82) : Ed := (e.f0, e.f1, e.f2)
theorem gOk_edges {n : Int} {l : List S82} (h : gOk n l) : EOk n (l.map eW) := fun e he => by
  obtain ⟨x, hx, rfl⟩ := List.mem_map.1 he
  have := h.2.2.2 x hx
  unfold eOk at this
  exact ⟨this.1, this.2.1, this.2.2.1, this.2.2.2.1, this.2.2.2.2.1⟩
/-- All values lie from 0 to the end. -/
def Vals (l : List Int) : Prop := ∀ j : Int, 0 ≤ j → j < l.length → 0 ≤ rd l j ∧ rd l j ≤ 1099511627776
theorem Vals.relax {l : List Int} {e : Ed} (h : Vals l) (he : EOk l.length [e]) : Vals (relax l e) := fun j h0 h1 => by
  obtain ⟨g1, g2, g3, g4, g5⟩ := he.head
  rw [relax_length] at h1
  have a := h j h0 h1
  have b := h e.1 g1 g2
  rw [rd_relax g3 g4 h0]
  split
  · rename_i hh
    rw [hh]
    omega
  · exact a
theorem Vals.pass (E : List Ed) : ∀ {l : List Int}, Vals l → EOk l.length E → Vals (pass E l) := by
  induction E with
  | nil => intro l h _; exact h
  | cons e E ih =>
    intro l h hE
    exact ih (l := Relax.relax l e) (h.relax (fun x hx => by rw [List.mem_singleton.1 hx]; exact hE.head)) (by rw [relax_length]; exact hE.tail)
theorem Vals.passes {E : List Ed} {l : List Int} (h : Vals l) (hE : EOk l.length E) (i : Nat) : Vals (passes E i l) := by
  induction i with
  | zero => exact h
  | succ i ih => exact ih.pass E (by rw [passes_length]; exact hE)
theorem EOk.one {n : Int} {E : List Ed} {e : Ed} (h : EOk n E) (he : e ∈ E) : EOk n [e] := fun x hx => by rw [List.mem_singleton.1 hx]; exact h e he

theorem passes_pass (E : List Ed) (d : Nat) (x : List Int) : Relax.passes E d (Relax.pass E x) = Relax.passes E (d + 1) x := by
  induction d with
  | zero => rfl
  | succ d ih => show Relax.pass E (Relax.passes E d (Relax.pass E x)) = Relax.pass E (Relax.passes E (d + 1) x); rw [ih]

/-! ### the reference -/
theorem spec_AddCap_f {a b : Int} (h0 : 0 ≤ a) (h1 : a ≤ 1099511627776) (h2 : 0 ≤ b) (h3 : b ≤ 1000) : spec_AddCap.f a b = some (min (a + b) 1099511627776) := by
  have hc : ∀ x : Int, 0 ≤ x → spec_l10Cap.f x = some (min x 1099511627776) := by
    intro x hx
    unfold spec_l10Cap.f spec_l02Clamp.f
    rw [if_neg (by omega)]
    split
    · simp only [Option.bind_some]; congr 1; omega
    · simp only [Option.bind_some]; congr 1; omega
  unfold spec_AddCap.f
  rw [hc a h0, hc b h2]
  simp only [Option.bind_some]
  rw [show min a 1099511627776 = a by omega, show min b 1099511627776 = b by omega, w64 (by omega) (by omega), hc _ (by omega)]
  rfl
theorem spec_l10Min_f (a b : Int) : spec_l10Min.f a b = some (min a b) := by
  unfold spec_l10Min.f
  split <;> congr 1 <;> omega
theorem spec_Paths_l2 (d : Nat) : ∀ (x : List Int) (l : List S82) (n r i : Int), gOk n l → x.length = n → Vals x → 0 ≤ i → l.length - i = d → ∀ k, d < k →
    spec_Paths.l2 k x r l (l.length : Int) i n l = spec_Paths.l1 (k - d - 1) (pass ((l.drop i.toNat).map eW) x) (wrap64 (r + 1)) n l := by
  induction d with
  | zero =>
    intro x l n r i hg hx hv h0 h1 k hk
    obtain ⟨m, rfl, _⟩ := succ_of' hk
    simp only [spec_Paths.l2]
    rw [if_neg (by omega), List.drop_eq_nil_of_le (by omega)]
    rfl
  | succ d ih =>
    intro x l n r i hg hx hv h0 h1 k hk
    obtain ⟨m, rfl, _⟩ := succ_of' hk
    have hd := drop_rd l z82 h0 (by omega)
    change _ = rd_T82 l i :: _ at hd
    have hl := hg.2.2.1
    have hm : rd_T82 l i ∈ l := List.mem_of_mem_drop (i := i.toNat) (by rw [hd]; exact List.mem_cons_self)
    have he := hg.2.2.2 _ hm
    unfold eOk at he
    have hu := hv (rd_T82 l i).f0 (by omega) (by omega)
    have hw := hv (rd_T82 l i).f1 (by omega) (by omega)
    simp only [spec_Paths.l2]
    rw [if_pos (by omega), if_pos (by omega), if_pos (by omega), if_pos (by omega), if_pos (by omega), if_pos (by omega), if_pos (by omega), spec_AddCap_f hu.1 hu.2 (by omega) (by omega)]
    simp only [Option.bind_some]
    rw [spec_l10Min_f]
    simp only [Option.bind_some]
    have e1 : x.set (rd_T82 l i).f1.toNat (min (rd x (rd_T82 l i).f1) (min (rd x (rd_T82 l i).f0 + (rd_T82 l i).f2) 1099511627776)) = relax x (eW (rd_T82 l i)) := by
      unfold relax eW
      congr 1
      simp only
      omega
    have hok : EOk x.length [eW (rd_T82 l i)] := by rw [hx]; exact EOk.one (gOk_edges hg) (List.mem_map.2 ⟨_, hm, rfl⟩)
    rw [e1, w64 (x := i + 1) (by omega) (by omega), ih _ l n r (i + 1) hg (by rw [relax_length]; exact hx) (hv.relax hok) (by omega) (by omega) m (by omega), hd, show m + 1 - (d + 1) - 1 = m - d - 1 by omega]
    rfl
theorem spec_Paths_l1 (d : Nat) : ∀ (x : List Int) (l : List S82) (n r : Int), gOk n l → x.length = n → Vals x → 0 ≤ r → n - r = d → ∀ k, d * (l.length + 2) < k →
    spec_Paths.l1 k x r n l = some (passes (l.map eW) d x) := by
  induction d with
  | zero =>
    intro x l n r hg hx hv h0 h1 k hk
    obtain ⟨m, rfl, _⟩ := succ_of' hk
    simp only [spec_Paths.l1]
    rw [if_neg (by omega)]
    rfl
  | succ d ih =>
    intro x l n r hg hx hv h0 h1 k hk
    rw [Nat.add_mul] at hk
    obtain ⟨m, rfl, _⟩ := succ_of' hk
    have hn := hg.2.1
    have hE : EOk x.length (l.map eW) := by rw [hx]; exact gOk_edges hg
    simp only [spec_Paths.l1]
    rw [if_pos (by omega), spec_Paths_l2 l.length x l n r 0 hg hx hv (by omega) (by omega) m (by omega), w64 (by omega) (by omega)]
    simp only [Int.toNat_zero, List.drop_zero]
    rw [ih _ l n (r + 1) hg (by rw [pass_length]; exact hx) (hv.pass _ hE) (by omega) (by omega) _ (by omega)]
    exact congrArg some (passes_pass _ d x)
/-- The values at the begin. -/
def start (n : Nat) (s : Int) : List Int := (List.replicate n 1099511627776).set s.toNat 0
theorem start_length (n : Nat) (s : Int) : (start n s).length = n := by simp [start]
theorem start_vals (n : Nat) (s : Int) : Vals (start n s) := fun j h0 h1 => by
  have h2 : rd (start n s) j = 0 ∨ rd (start n s) j = 1099511627776 := by
    rw [start_length] at h1
    unfold start rd
    rw [List.getD_eq_getElem?_getD, List.getElem?_set]
    split
    · left
      split <;> simp
    · right
      rw [List.getElem?_replicate, if_pos (by omega)]
      rfl
  omega
theorem spec_Paths_l0 (d : Nat) : ∀ (i : Nat) (l : List S82) (n : Nat) (s : Int), gOk n l → 0 ≤ s → s < n → (n : Int) - i = d → ∀ k, d + n * (l.length + 2) + 1 < k →
    spec_Paths.l0 k s (List.replicate i 1099511627776) i n l = some (passes (l.map eW) n (start n s)) := by
  induction d with
  | zero =>
    intro i l n s hg hs0 hs1 h1 k hk
    obtain ⟨m, rfl, _⟩ := succ_of' hk
    obtain rfl : i = n := by omega
    simp only [spec_Paths.l0]
    rw [if_neg (by omega), if_pos hs0, if_pos (by simpa using hs1)]
    exact spec_Paths_l1 i (start i s) l i 0 hg (by rw [start_length]) (start_vals _ _) (by omega) (by omega) m (by omega)
  | succ d ih =>
    intro i l n s hg hs0 hs1 h1 k hk
    obtain ⟨m, rfl, _⟩ := succ_of' hk
    have hn := hg.2.1
    simp only [spec_Paths.l0]
    rw [if_pos (by omega), if_pos (by simp; omega), w64 (by omega) (by omega), ← List.replicate_succ']
    exact ih (i + 1) l n s hg hs0 hs1 (by omega) m (by omega)
def pathsOf (n : Int) (l : List S82) (s : Int) : List Int := if gOk n l ∧ 0 ≤ s ∧ s < n then passes (l.map eW) n.toNat (start n.toNat s) else []
theorem spec_Paths_j0 {k : Nat} {n : Int} {l : List S82} {s : Int} (b : Bool) (hb : b = false ↔ (gOk n l ∧ 0 ≤ s ∧ s < n)) (hk : 100000 < k) : spec_Paths.j0 k s b n l = some (pathsOf n l s) := by
  obtain ⟨m, rfl, _⟩ := succ_of' hk
  simp only [spec_Paths.j0]
  unfold pathsOf
  cases b with
  | true => rw [if_pos rfl, if_neg (fun h => by have := hb.2 h; cases this)]
  | false =>
    have h := hb.1 rfl
    obtain ⟨N, rfl⟩ := Int.eq_ofNat_of_zero_le (show 0 ≤ n by omega)
    have hn := h.1.2.1
    have hl := h.1.2.2.1
    rw [if_neg (by simp), if_pos h]
    have : N * (l.length + 2) ≤ 150 * 402 := Nat.mul_le_mul (by omega) (by omega)
    exact spec_Paths_l0 N 0 l N s h.1 h.2.1 h.2.2 (by omega) m (by omega)
theorem spec_Paths_f {k : Nat} {n : Int} {l : List S82} {s : Int} (hl : l.length ≤ 1048576) (hk : 2000000 < k) : spec_Paths.f k n l s = some (pathsOf n l s) := by
  unfold spec_Paths.f
  rw [spec_GraphOk_f hl (by omega)]
  simp only [Option.bind_some]
  by_cases hg : gOk n l
  · rw [decide_eq_true hg, if_pos rfl]
    split
    · exact spec_Paths_j0 true (by simp; omega) (by omega)
    · exact spec_Paths_j0 _ (by simp [hg]; omega) (by omega)
  · rw [decide_eq_false hg, if_neg (by simp)]
    exact spec_Paths_j0 true (by simp [hg]) (by omega)

/-! ### the program -/
theorem impl_Paths_l2 (d : Nat) : ∀ (x : List Int) (l : List S82) (n i : Int) (b : Bool), gOk n l → x.length = n → Vals x → 0 ≤ i → l.length - i = d → ∀ k, d < k →
    ∃ b' : Bool, impl_Paths.l2 k x b l (l.length : Int) i n l = impl_Paths.l1 (k - d - 1) (pass ((l.drop i.toNat).map eW) x) b' n l ∧ (b = true → b' = true) ∧
      (b' = false → pass ((l.drop i.toNat).map eW) x = x) ∧ (b = false → b' = true → pass ((l.drop i.toNat).map eW) x ≠ x) := by
  induction d with
  | zero =>
    intro x l n i b hg hx hv h0 h1 k hk
    obtain ⟨m, rfl, _⟩ := succ_of' hk
    refine ⟨b, ?_, id, fun _ => ?_, fun h h' => ?_⟩
    · simp only [impl_Paths.l2]
      rw [if_neg (by omega), List.drop_eq_nil_of_le (by omega)]
      rfl
    · rw [List.drop_eq_nil_of_le (by omega)]; rfl
    · rw [h] at h'; cases h'
  | succ d ih =>
    intro x l n i b hg hx hv h0 h1 k hk
    obtain ⟨m, rfl, _⟩ := succ_of' hk
    have hd := drop_rd l z82 h0 (by omega)
    change _ = rd_T82 l i :: _ at hd
    have hl := hg.2.2.1
    have hm : rd_T82 l i ∈ l := List.mem_of_mem_drop (i := i.toNat) (by rw [hd]; exact List.mem_cons_self)
    have he := hg.2.2.2 _ hm
    unfold eOk at he
    have hu := hv (rd_T82 l i).f0 (by omega) (by omega)
    have hw := hv (rd_T82 l i).f1 (by omega) (by omega)
    have hok : EOk x.length [eW (rd_T82 l i)] := by rw [hx]; exact EOk.one (gOk_edges hg) (List.mem_map.2 ⟨_, hm, rfl⟩)
    have htl : EOk (relax x (eW (rd_T82 l i))).length ((l.drop (i + 1).toNat).map eW) := fun e he => by
      rw [relax_length, hx]
      obtain ⟨y, hy, rfl⟩ := List.mem_map.1 he
      exact gOk_edges hg _ (List.mem_map.2 ⟨y, List.mem_of_mem_drop hy, rfl⟩)
    have hp : pass ((l.drop i.toNat).map eW) x = pass ((l.drop (i + 1).toNat).map eW) (relax x (eW (rd_T82 l i))) := by rw [hd]; rfl
    by_cases hlt : rd x (rd_T82 l i).f0 + (rd_T82 l i).f2 < rd x (rd_T82 l i).f1
    · have e1 : x.set (rd_T82 l i).f1.toNat (rd x (rd_T82 l i).f0 + (rd_T82 l i).f2) = relax x (eW (rd_T82 l i)) := by
        unfold relax eW
        congr 1
        simp only
        omega
      obtain ⟨b', h3, h4, h5, h6⟩ := ih (relax x (eW (rd_T82 l i))) l n (i + 1) true hg (by rw [relax_length]; exact hx) (hv.relax hok) (by omega) (by omega) m (by omega)
      have hb' := h4 rfl
      refine ⟨b', ?_, fun _ => hb', (fun h => by rw [hb'] at h; cases h), fun _ _ => ?_⟩
      · simp only [impl_Paths.l2]
        rw [if_pos (by omega), if_pos (by omega), if_pos (by omega), if_pos (by omega), if_pos (by omega), if_neg (by omega), if_pos (by omega), if_pos (by omega), w64 (x := rd x (rd_T82 l i).f0 + (rd_T82 l i).f2) (by omega) (by omega), if_pos hlt, e1, w64 (by omega) (by omega), h3, hp, show m + 1 - (d + 1) - 1 = m - d - 1 by omega]
      · rw [hp]
        intro heq
        have a := pass_le ((l.drop (i + 1).toNat).map eW) htl (j := (rd_T82 l i).f1) (by omega)
        rw [heq, rd_relax (by exact he.2.2.1) (by show (rd_T82 l i).f1 < _; omega) (by omega)] at a
        simp only [eW, ↓reduceIte] at a
        change rd x (rd_T82 l i).f1 ≤ min (rd x (rd_T82 l i).f1) (rd x (rd_T82 l i).f0 + (rd_T82 l i).f2) at a
        omega
    · have e1 : relax x (eW (rd_T82 l i)) = x := by
        refine ext_rd (relax_length _ _) (fun j hj0 hj1 => ?_)
        rw [rd_relax (by exact he.2.2.1) (by show (rd_T82 l i).f1 < _; omega) hj0]
        split
        · rename_i hh
          rw [← hh]
          show min (rd x (rd_T82 l i).f1) (rd x (rd_T82 l i).f0 + (rd_T82 l i).f2) = rd x (rd_T82 l i).f1
          omega
        · rfl
      rw [hp, e1]
      obtain ⟨b', h3, h4, h5, h6⟩ := ih x l n (i + 1) b hg hx hv (by omega) (by omega) m (by omega)
      refine ⟨b', ?_, h4, h5, h6⟩
      simp only [impl_Paths.l2]
      rw [if_pos (by omega), if_pos (by omega), if_pos (by omega), if_pos (by omega), if_pos (by omega), w64 (x := i + 1) (by omega) (by omega), show m + 1 - (d + 1) - 1 = m - d - 1 by omega]
      by_cases hf : rd x (rd_T82 l i).f0 = 1099511627776
      · rw [if_pos hf, h3]
      · rw [if_neg hf, if_pos (by omega), if_pos (by omega), w64 (by omega) (by omega), if_neg hlt, h3]
theorem impl_Paths_l1 (d : Nat) : ∀ (x : List Int) (l : List S82) (n i : Nat), gOk n l → x.length = n → Vals x → (n : Int) - i = d → ∀ k, (d + 1) * (l.length + 2) + 1 < k →
    impl_Paths.l1 k (passes (l.map eW) i x) true n l = some (passes (l.map eW) n x) := by
  have base : ∀ (x : List Int) (l : List S82) (n i : Nat), gOk n l → x.length = n → Vals x → ∀ k, l.length + 1 < k → ∃ b', impl_Paths.l1 k (passes (l.map eW) i x) true n l = impl_Paths.l1 (k - l.length - 2) (passes (l.map eW) (i + 1) x) b' n l ∧ (b' = false → passes (l.map eW) (i + 1) x = passes (l.map eW) i x) ∧ (b' = true → passes (l.map eW) (i + 1) x ≠ passes (l.map eW) i x) := by
    intro x l n i hg hx hv k hk
    obtain ⟨m, rfl, _⟩ := succ_of' hk
    have hE : EOk x.length (l.map eW) := by rw [hx]; exact gOk_edges hg
    obtain ⟨b', h3, _, h5, h6⟩ := impl_Paths_l2 l.length (passes (l.map eW) i x) l n 0 false hg (by rw [passes_length, hx]) (hv.passes hE i) (by omega) (by omega) m (by omega)
    simp only [Int.toNat_zero, List.drop_zero] at h3 h5 h6
    refine ⟨b', ?_, h5, h6 trivial⟩
    simp only [impl_Paths.l1]
    rw [if_pos trivial, h3, show m + 1 - l.length - 2 = m - l.length - 1 by omega]
    rfl
  induction d with
  | zero =>
    intro x l n i hg hx hv h1 k hk
    obtain ⟨b', h3, _, h5⟩ := base x l n i hg hx hv k (by omega)
    have hE : EOk x.length (l.map eW) := by rw [hx]; exact gOk_edges hg
    have hst := passes_stay (l.map eW) x hE
    obtain rfl : i = n := by omega
    have hxl : x.length = i := by omega
    rw [hxl] at hst
    have hb : b' = false := by
      cases b' with
      | false => rfl
      | true => exact absurd hst (h5 rfl)
    rw [h3, hb]
    obtain ⟨m, hm, _⟩ := succ_of' (d := 0) (k := k - l.length - 2) (by omega)
    rw [hm]
    simp only [impl_Paths.l1]
    rw [if_neg (by simp)]
    exact congrArg some hst
  | succ d ih =>
    intro x l n i hg hx hv h1 k hk
    rw [Nat.add_mul] at hk
    obtain ⟨b', h3, h4, h5⟩ := base x l n i hg hx hv k (by omega)
    rw [h3]
    cases b' with
    | true => exact ih x l n (i + 1) hg hx hv (by omega) _ (by omega)
    | false =>
      obtain ⟨m, hm, _⟩ := succ_of' (d := 0) (k := k - l.length - 2) (by omega)
      rw [hm]
      simp only [impl_Paths.l1]
      rw [if_neg (by simp), h4 rfl]
      have := passes_fix (l.map eW) i x (h4 rfl) (n - i)
      rw [show i + (n - i) = n by omega] at this
      rw [this]
theorem start_snoc (i n : Nat) (s : Int) (h0 : 0 ≤ s) : (if s < i then start i s else List.replicate i 1099511627776) ++ [if (i : Int) = s then 0 else 1099511627776] = if s < (i + 1 : Nat) then start (i + 1) s else List.replicate (i + 1) 1099511627776 := by
  unfold start
  by_cases h1 : s < i
  · rw [if_pos h1, if_neg (by omega), if_pos (by omega), List.replicate_succ', List.set_append_left _ _ (by simp; omega)]
  · rw [if_neg h1]
    by_cases h2 : (i : Int) = s
    · subst h2
      rw [if_pos rfl, if_pos (by omega), List.replicate_succ', List.set_append_right _ _ (by simp)]
      simp
    · rw [if_neg h2, if_neg (by omega), List.replicate_succ']
theorem impl_Paths_l0 (d : Nat) : ∀ (i : Nat) (l : List S82) (n : Nat) (s : Int), gOk n l → 0 ≤ s → s < n → (n : Int) - i = d → ∀ k, d + (n + 1) * (l.length + 2) + 2 < k →
    impl_Paths.l0 k s (if s < i then start i s else List.replicate i 1099511627776) n i n l = some (passes (l.map eW) n (start n s)) := by
  induction d with
  | zero =>
    intro i l n s hg hs0 hs1 h1 k hk
    obtain ⟨m, rfl, _⟩ := succ_of' hk
    obtain rfl : i = n := by omega
    simp only [impl_Paths.l0]
    rw [if_neg (by omega), if_pos hs1]
    exact impl_Paths_l1 i (start i s) l i 0 hg (start_length _ _) (start_vals _ _) (by omega) m (by omega)
  | succ d ih =>
    intro i l n s hg hs0 hs1 h1 k hk
    obtain ⟨m, rfl, _⟩ := succ_of' hk
    have hn := hg.2.1
    have hlen : (if s < (i : Int) then start i s else List.replicate i 1099511627776).length = i := by split <;> simp [start_length]
    have := ih (i + 1) l n s hg hs0 hs1 (by omega) m (by omega)
    rw [← start_snoc i n s hs0] at this
    simp only [impl_Paths.l0]
    rw [if_pos (by omega), w64 (by omega) (by omega)]
    by_cases h : (i : Int) = s
    · rw [if_pos h] at this
      rw [if_pos h, if_pos (by omega)]
      exact this
    · rw [if_neg h] at this
      rw [if_neg h, if_pos (by omega)]
      exact this
theorem impl_Paths_j0 {k : Nat} {n : Int} {l : List S82} {s : Int} (b : Bool) (hb : b = false ↔ (gOk n l ∧ 0 ≤ s ∧ s < n)) (hk : 100000 < k) : impl_Paths.j0 k s b n l = some (pathsOf n l s) := by
  obtain ⟨m, rfl, _⟩ := succ_of' hk
  simp only [impl_Paths.j0]
  unfold pathsOf
  cases b with
  | true => rw [if_pos rfl, if_neg (fun h => by have := hb.2 h; cases this)]
  | false =>
    have h := hb.1 rfl
    obtain ⟨N, rfl⟩ := Int.eq_ofNat_of_zero_le (show 0 ≤ n by omega)
    have hn := h.1.2.1
    have hl := h.1.2.2.1
    rw [if_neg (by simp), if_pos h]
    have : (N + 1) * (l.length + 2) ≤ 151 * 402 := Nat.mul_le_mul (by omega) (by omega)
    have := impl_Paths_l0 N 0 l N s h.1 h.2.1 h.2.2 (by omega) m (by omega)
    rw [if_neg (by omega)] at this
    exact this
theorem impl_Paths_f {k : Nat} {n : Int} {l : List S82} {s : Int} (hl : l.length ≤ 1048576) (hk : 2000000 < k) : impl_Paths.f k n l s = some (pathsOf n l s) := by
  unfold impl_Paths.f
  rw [impl_GraphOk_f hl (by omega)]
  simp only [Option.bind_some]
  by_cases hg : gOk n l
  · rw [decide_eq_true hg, if_pos rfl]
    split
    · exact impl_Paths_j0 true (by simp; omega) (by omega)
    · exact impl_Paths_j0 _ (by simp [hg]; omega) (by omega)
  · rw [decide_eq_false hg, if_neg (by simp)]
    exact impl_Paths_j0 true (by simp [hg]) (by omega)
theorem pathsOf_len (n : Int) (l : List S82) (s : Int) : (pathsOf n l s).length ≤ 150 := by
  unfold pathsOf
  split
  · rename_i h
    have := h.1.2.1
    rw [passes_length, start_length]
    omega
  · simp
end Go.Proofs.Ytkolndfgpplknaa.Fn

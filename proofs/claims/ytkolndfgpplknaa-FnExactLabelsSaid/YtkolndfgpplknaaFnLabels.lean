/- What Labels and the reference's Labels come to: after as many passes as there are vertices; under no condition but what each theorem states. -/
import Derived.Test.YtkolndfgpplknaaFnGraph
import Derived.Test.YtkolndfgpplknaaGx1
import Derived.Test.YtkolndfgpplknaaGx3
namespace Go.Proofs.Ytkolndfgpplknaa.Fn
set_option linter.unusedSimpArgs false
set_option linter.unusedVariables false
open Go.RowKit Go.Proofs.Ytkolndfgpplknaa.Plain Go.Proofs.Ytkolndfgpplknaa.Relax Go.Proofs.Ytkolndfgpplknaa.G Go.Proofs.YtkolndfgpplknaaW.PrintWords Go.Proofs.YtkolndfgpplknaaW.PrintLast Go.Proofs.YtkolndfgpplknaaW.PrintMore

/-- An edge, in both directions. -/
def eB (e : S82) : List Ed := [(e.f0, e.f1, 0), (e.f1, e.f0, 0)]
theorem gOk_both {n : Int} {l : List S82} (h : ∀ e ∈ l, eOk n e) : EOk n (l.flatMap eB) := fun e he => by
  obtain ⟨x, hx, hm⟩ := List.mem_flatMap.1 he
  have := h x hx
  unfold eOk at this
  unfold eB at hm
  rcases List.mem_cons.1 hm with rfl | hm
  · exact ⟨this.1, this.2.1, this.2.2.1, this.2.2.2.1, Int.le_refl _⟩
  · rw [List.mem_singleton.1 hm]
    exact ⟨this.2.2.1, this.2.2.2.1, this.1, this.2.1, Int.le_refl _⟩
theorem two_relax {x : List Int} {u v : Int} (h0 : 0 ≤ u) (h1 : u < x.length) (h2 : 0 ≤ v) (h3 : v < x.length) :
    relax (relax x (u, v, 0)) (v, u, 0) = (x.set u.toNat (min (rd x u) (rd x v))).set v.toNat (min (rd x u) (rd x v)) := by
  refine ext_rd (by simp [relax]) (fun j hj0 hj1 => ?_)
  rw [rd_relax (e := (v, u, 0)) h0 (by rw [relax_length]; exact h1) hj0, rd_set h2 (by simpa using h3) hj0, rd_set h0 h1 hj0]
  rw [rd_relax (e := (u, v, 0)) h2 h3 hj0, rd_relax (e := (u, v, 0)) h2 h3 h0, rd_relax (e := (u, v, 0)) h2 h3 h2]
  simp only
  by_cases hu : u = j
  · rw [if_pos hu]
    by_cases hv : v = j
    · rw [if_pos hv, if_pos (by omega), if_pos trivial]
      omega
    · rw [if_neg hv, if_pos hu, if_neg (by omega), if_pos trivial]
      omega
  · rw [if_neg hu]
    by_cases hv : v = j
    · rw [if_pos hv, if_pos hv]
      omega
    · rw [if_neg hv, if_neg hv, if_neg hu]
theorem pass_both (l : List S82) (e : S82) (x : List Int) (h0 : 0 ≤ e.f0) (h1 : e.f0 < x.length) (h2 : 0 ≤ e.f1) (h3 : e.f1 < x.length) :
    pass ((e :: l).flatMap eB) x = pass (l.flatMap eB) ((x.set e.f0.toNat (min (rd x e.f0) (rd x e.f1))).set e.f1.toNat (min (rd x e.f0) (rd x e.f1))) := by
  rw [← two_relax h0 h1 h2 h3]
  rfl
theorem spec_min2 (a b : Int) : spec_l10Min.f a b = some (min a b) := by
  unfold spec_l10Min.f
  split <;> congr 1 <;> omega
theorem passes_pass2 (E : List Ed) (d : Nat) (x : List Int) : passes E d (pass E x) = passes E (d + 1) x := by
  induction d with
  | zero => rfl
  | succ d ih => show pass E (passes E d (pass E x)) = pass E (passes E (d + 1) x); rw [ih]
theorem spec_Labels_l2 (d : Nat) : ∀ (x : List Int) (l : List S82) (n r i : Int), gOk n l → x.length = n → 0 ≤ i → l.length - i = d → ∀ k, d < k →
    spec_Labels.l2 k x r l (l.length : Int) i n l = spec_Labels.l1 (k - d - 1) (pass ((l.drop i.toNat).flatMap eB) x) (wrap64 (r + 1)) n l := by
  induction d with
  | zero =>
    intro x l n r i hg hx h0 h1 k hk
    obtain ⟨m, rfl, _⟩ := succ_of' hk
    simp only [spec_Labels.l2]
    rw [if_neg (by omega), List.drop_eq_nil_of_le (by omega)]
    rfl
  | succ d ih =>
    intro x l n r i hg hx h0 h1 k hk
    obtain ⟨m, rfl, _⟩ := succ_of' hk
    have hd := drop_rd l z82 h0 (by omega)
    change _ = rd_T82 l i :: _ at hd
    have hl := hg.2.2.1
    have hm : rd_T82 l i ∈ l := List.mem_of_mem_drop (i := i.toNat) (by rw [hd]; exact List.mem_cons_self)
    have he := hg.2.2.2 _ hm
    unfold eOk at he
    simp only [spec_Labels.l2]
    rw [if_pos (by omega), if_pos (by omega), if_pos (by omega), if_pos (by omega), if_pos (by omega), if_pos (by omega), if_pos (by omega), spec_min2]
    simp only [Option.bind_some]
    rw [w64 (x := i + 1) (by omega) (by omega), ih _ l n r (i + 1) hg (by simpa using hx) (by omega) (by omega) m (by omega), hd, pass_both _ _ _ he.1 (by omega) he.2.2.1 (by omega), show m + 1 - (d + 1) - 1 = m - d - 1 by omega]
theorem spec_Labels_l1 (d : Nat) : ∀ (x : List Int) (l : List S82) (n r : Int), gOk n l → x.length = n → 0 ≤ r → n - r = d → ∀ k, d * (l.length + 2) < k →
    spec_Labels.l1 k x r n l = some (passes (l.flatMap eB) d x) := by
  induction d with
  | zero =>
    intro x l n r hg hx h0 h1 k hk
    obtain ⟨m, rfl, _⟩ := succ_of' hk
    simp only [spec_Labels.l1]
    rw [if_neg (by omega)]
    rfl
  | succ d ih =>
    intro x l n r hg hx h0 h1 k hk
    rw [Nat.add_mul] at hk
    obtain ⟨m, rfl, _⟩ := succ_of' hk
    have hn := hg.2.1
    simp only [spec_Labels.l1]
    rw [if_pos (by omega), spec_Labels_l2 l.length x l n r 0 hg hx (by omega) (by omega) m (by omega), w64 (by omega) (by omega)]
    simp only [Int.toNat_zero, List.drop_zero]
    rw [ih _ l n (r + 1) hg (by rw [pass_length]; exact hx) (by omega) (by omega) _ (by omega)]
    exact congrArg some (passes_pass2 _ d x)
def iota (n : Nat) : List Int := (List.range n).map (fun i : Nat => (i : Int))
theorem iota_length (n : Nat) : (iota n).length = n := by simp [iota]
theorem iota_succ (n : Nat) : iota n ++ [(n : Int)] = iota (n + 1) := by simp [iota, List.range_succ]
theorem spec_Labels_l0 (d : Nat) : ∀ (i : Nat) (l : List S82) (n : Nat), gOk n l → (n : Int) - i = d → ∀ k, d + n * (l.length + 2) + 1 < k →
    spec_Labels.l0 k (iota i) i n l = some (passes (l.flatMap eB) n (iota n)) := by
  induction d with
  | zero =>
    intro i l n hg h1 k hk
    obtain ⟨m, rfl, _⟩ := succ_of' hk
    obtain rfl : i = n := by omega
    simp only [spec_Labels.l0]
    rw [if_neg (by omega)]
    exact spec_Labels_l1 i (iota i) l i 0 hg (by rw [iota_length]) (by omega) (by omega) m (by omega)
  | succ d ih =>
    intro i l n hg h1 k hk
    obtain ⟨m, rfl, _⟩ := succ_of' hk
    have hn := hg.2.1
    simp only [spec_Labels.l0]
    rw [if_pos (by omega), if_pos (by rw [iota_length]; omega), w64 (by omega) (by omega), iota_succ]
    exact ih (i + 1) l n hg (by omega) m (by omega)
def labelsOf (n : Int) (l : List S82) : List Int := if gOk n l then passes (l.flatMap eB) n.toNat (iota n.toNat) else []
theorem spec_Labels_f {k : Nat} {n : Int} {l : List S82} (hl : l.length ≤ 1048576) (hk : 2000000 < k) : spec_Labels.f k n l = some (labelsOf n l) := by
  unfold spec_Labels.f labelsOf
  rw [spec_GraphOk_f hl (by omega)]
  simp only [Option.bind_some]
  by_cases hg : gOk n l
  · obtain ⟨N, rfl⟩ := Int.eq_ofNat_of_zero_le hg.1
    have hn := hg.2.1
    have hl2 := hg.2.2.1
    have : N * (l.length + 2) ≤ 150 * 402 := Nat.mul_le_mul (by omega) (by omega)
    rw [decide_eq_true hg, if_pos rfl, if_pos hg]
    exact spec_Labels_l0 N 0 l N hg (by omega) k (by omega)
  · rw [decide_eq_false hg, if_neg (by simp), if_neg hg]

/-! ### the program -/
theorem mn_eq (a b : Int) : mn a b = min a b := by unfold mn; split <;> omega
theorem impl_Labels_l2 (d : Nat) : ∀ (x : List Int) (l : List S82) (n i : Int) (b : Bool), gOk n l → x.length = n → 0 ≤ i → l.length - i = d → ∀ k, d < k →
    ∃ b' : Bool, impl_Labels.l2 k x b l (l.length : Int) i n l = impl_Labels.l1 (k - d - 1) (pass ((l.drop i.toNat).flatMap eB) x) b' n l ∧ (b = true → b' = true) ∧
      (b' = false → pass ((l.drop i.toNat).flatMap eB) x = x) ∧ (b = false → b' = true → pass ((l.drop i.toNat).flatMap eB) x ≠ x) := by
  induction d with
  | zero =>
    intro x l n i b hg hx h0 h1 k hk
    obtain ⟨m, rfl, _⟩ := succ_of' hk
    refine ⟨b, ?_, id, fun _ => ?_, fun h h' => ?_⟩
    · simp only [impl_Labels.l2]
      rw [if_neg (by omega), List.drop_eq_nil_of_le (by omega)]
      rfl
    · rw [List.drop_eq_nil_of_le (by omega)]; rfl
    · rw [h] at h'; cases h'
  | succ d ih =>
    intro x l n i b hg hx h0 h1 k hk
    obtain ⟨m, rfl, _⟩ := succ_of' hk
    have hd := drop_rd l z82 h0 (by omega)
    change _ = rd_T82 l i :: _ at hd
    have hl := hg.2.2.1
    have hm : rd_T82 l i ∈ l := List.mem_of_mem_drop (i := i.toNat) (by rw [hd]; exact List.mem_cons_self)
    have he := hg.2.2.2 _ hm
    unfold eOk at he
    have hp := pass_both (l.drop (i + 1).toNat) (rd_T82 l i) x he.1 (by omega) he.2.2.1 (by omega)
    rw [← hd] at hp
    have htl : EOk x.length ((l.drop (i + 1).toNat).flatMap eB) := by rw [hx]; exact gOk_both (fun e he => hg.2.2.2 e (List.mem_of_mem_drop he))
    by_cases hch : rd x (rd_T82 l i).f0 = min (rd x (rd_T82 l i).f0) (rd x (rd_T82 l i).f1) ∧ rd x (rd_T82 l i).f1 = min (rd x (rd_T82 l i).f0) (rd x (rd_T82 l i).f1)
    · have e1 : (x.set (rd_T82 l i).f0.toNat (min (rd x (rd_T82 l i).f0) (rd x (rd_T82 l i).f1))).set (rd_T82 l i).f1.toNat (min (rd x (rd_T82 l i).f0) (rd x (rd_T82 l i).f1)) = x := by
        refine ext_rd (by simp) (fun j hj0 hj1 => ?_)
        rw [rd_set he.2.2.1 (by rw [List.length_set]; omega) hj0, rd_set he.1 (by omega) hj0]
        split
        · rename_i hh; rw [← hh]; exact hch.2.symm
        · split
          · rename_i hh; rw [← hh]; exact hch.1.symm
          · rfl
      rw [hp, e1]
      obtain ⟨b', h3, h4, h5, h6⟩ := ih x l n (i + 1) b hg hx (by omega) (by omega) m (by omega)
      refine ⟨b', ?_, h4, h5, h6⟩
      simp only [impl_Labels.l2, mn_eq]
      rw [if_pos (by omega), if_pos (by omega), if_pos (by omega), if_pos (by omega), if_pos (by omega), if_pos (by omega), if_pos (by omega), if_pos hch.1, if_pos hch.2, w64 (x := i + 1) (by omega) (by omega), show m + 1 - (d + 1) - 1 = m - d - 1 by omega, h3]
    · obtain ⟨b', h3, h4, h5, h6⟩ := ih ((x.set (rd_T82 l i).f0.toNat (min (rd x (rd_T82 l i).f0) (rd x (rd_T82 l i).f1))).set (rd_T82 l i).f1.toNat (min (rd x (rd_T82 l i).f0) (rd x (rd_T82 l i).f1))) l n (i + 1) true hg (by simpa using hx) (by omega) (by omega) m (by omega)
      have hb' := h4 rfl
      refine ⟨b', ?_, fun _ => hb', (fun h => by rw [hb'] at h; cases h), fun _ _ => ?_⟩
      · simp only [impl_Labels.l2, mn_eq]
        rw [if_pos (by omega), if_pos (by omega), if_pos (by omega), if_pos (by omega), if_pos (by omega), if_pos (by omega), if_pos (by omega), w64 (x := i + 1) (by omega) (by omega), hp, show m + 1 - (d + 1) - 1 = m - d - 1 by omega, h3]
        split
        · split
          · rename_i h7 h8; exact absurd ⟨h7, h8⟩ hch
          · rfl
        · rfl
      · rw [hp]
        intro heq
        have a0 := pass_le ((l.drop (i + 1).toNat).flatMap eB) (l := ((x.set (rd_T82 l i).f0.toNat (min (rd x (rd_T82 l i).f0) (rd x (rd_T82 l i).f1))).set (rd_T82 l i).f1.toNat (min (rd x (rd_T82 l i).f0) (rd x (rd_T82 l i).f1)))) (by simpa using htl) (j := (rd_T82 l i).f0) he.1
        have a1 := pass_le ((l.drop (i + 1).toNat).flatMap eB) (l := ((x.set (rd_T82 l i).f0.toNat (min (rd x (rd_T82 l i).f0) (rd x (rd_T82 l i).f1))).set (rd_T82 l i).f1.toNat (min (rd x (rd_T82 l i).f0) (rd x (rd_T82 l i).f1)))) (by simpa using htl) (j := (rd_T82 l i).f1) he.2.2.1
        rw [heq, rd_set he.2.2.1 (by rw [List.length_set]; omega) he.1, rd_set he.1 (by omega) he.1] at a0
        rw [heq, rd_set he.2.2.1 (by rw [List.length_set]; omega) he.2.2.1, if_pos rfl] at a1
        refine hch ⟨?_, ?_⟩
        · split at a0
          · omega
          · rw [if_pos rfl] at a0
            omega
        · omega
theorem impl_Labels_l1 (d : Nat) : ∀ (x : List Int) (l : List S82) (n i : Nat), gOk n l → x.length = n → (n : Int) - i = d → ∀ k, (d + 1) * (l.length + 2) + 1 < k →
    impl_Labels.l1 k (passes (l.flatMap eB) i x) true n l = some (passes (l.flatMap eB) n x) := by
  have base : ∀ (x : List Int) (l : List S82) (n i : Nat), gOk n l → x.length = n → ∀ k, l.length + 1 < k → ∃ b', impl_Labels.l1 k (passes (l.flatMap eB) i x) true n l = impl_Labels.l1 (k - l.length - 2) (passes (l.flatMap eB) (i + 1) x) b' n l ∧ (b' = false → passes (l.flatMap eB) (i + 1) x = passes (l.flatMap eB) i x) ∧ (b' = true → passes (l.flatMap eB) (i + 1) x ≠ passes (l.flatMap eB) i x) := by
    intro x l n i hg hx k hk
    obtain ⟨m, rfl, _⟩ := succ_of' hk
    obtain ⟨b', h3, _, h5, h6⟩ := impl_Labels_l2 l.length (passes (l.flatMap eB) i x) l n 0 false hg (by rw [passes_length, hx]) (by omega) (by omega) m (by omega)
    simp only [Int.toNat_zero, List.drop_zero] at h3 h5 h6
    refine ⟨b', ?_, h5, h6 trivial⟩
    simp only [impl_Labels.l1]
    rw [if_pos trivial, h3, show m + 1 - l.length - 2 = m - l.length - 1 by omega]
    rfl
  induction d with
  | zero =>
    intro x l n i hg hx h1 k hk
    obtain ⟨b', h3, _, h5⟩ := base x l n i hg hx k (by omega)
    have hE : EOk x.length (l.flatMap eB) := by rw [hx]; exact gOk_both hg.2.2.2
    have hst := passes_stay (l.flatMap eB) x hE
    obtain rfl : i = n := by omega
    rw [hx] at hst
    have hb : b' = false := by
      cases b' with
      | false => rfl
      | true => exact absurd hst (h5 rfl)
    rw [h3, hb]
    obtain ⟨m, hm, _⟩ := succ_of' (d := 0) (k := k - l.length - 2) (by omega)
    rw [hm]
    simp only [impl_Labels.l1]
    rw [if_neg (by simp)]
    exact congrArg some hst
  | succ d ih =>
    intro x l n i hg hx h1 k hk
    rw [Nat.add_mul] at hk
    obtain ⟨b', h3, h4, h5⟩ := base x l n i hg hx k (by omega)
    rw [h3]
    cases b' with
    | true => exact ih x l n (i + 1) hg hx (by omega) _ (by omega)
    | false =>
      obtain ⟨m, hm, _⟩ := succ_of' (d := 0) (k := k - l.length - 2) (by omega)
      rw [hm]
      simp only [impl_Labels.l1]
      rw [if_neg (by simp), h4 rfl]
      have := passes_fix (l.flatMap eB) i x (h4 rfl) (n - i)
      rw [show i + (n - i) = n by omega] at this
      rw [this]
theorem impl_Labels_l0 (d : Nat) : ∀ (i : Nat) (l : List S82) (n : Nat), gOk n l → (n : Int) - i = d → ∀ k, d + (n + 1) * (l.length + 2) + 2 < k →
    impl_Labels.l0 k (iota i) n i n l = some (passes (l.flatMap eB) n (iota n)) := by
  induction d with
  | zero =>
    intro i l n hg h1 k hk
    obtain ⟨m, rfl, _⟩ := succ_of' hk
    obtain rfl : i = n := by omega
    simp only [impl_Labels.l0]
    rw [if_neg (by omega)]
    exact impl_Labels_l1 i (iota i) l i 0 hg (iota_length _) (by omega) m (by omega)
  | succ d ih =>
    intro i l n hg h1 k hk
    obtain ⟨m, rfl, _⟩ := succ_of' hk
    have hn := hg.2.1
    simp only [impl_Labels.l0]
    rw [if_pos (by omega), if_pos (by rw [iota_length]; omega), w64 (by omega) (by omega), iota_succ]
    exact ih (i + 1) l n hg (by omega) m (by omega)
theorem impl_Labels_f {k : Nat} {n : Int} {l : List S82} (hl : l.length ≤ 1048576) (hk : 2000000 < k) : impl_Labels.f k n l = some (labelsOf n l) := by
  unfold impl_Labels.f labelsOf
  rw [impl_GraphOk_f hl (by omega)]
  simp only [Option.bind_some]
  by_cases hg : gOk n l
  · obtain ⟨N, rfl⟩ := Int.eq_ofNat_of_zero_le hg.1
    have hn := hg.2.1
    have hl2 := hg.2.2.1
    have : (N + 1) * (l.length + 2) ≤ 151 * 402 := Nat.mul_le_mul (by omega) (by omega)
    rw [decide_eq_true hg, if_pos rfl, if_pos hg]
    exact impl_Labels_l0 N 0 l N hg (by omega) k (by omega)
  · rw [decide_eq_false hg, if_neg (by simp), if_neg hg]
theorem labelsOf_len (n : Int) (l : List S82) : (labelsOf n l).length ≤ 150 := by
  unfold labelsOf
  split
  · rename_i h
    have := h.2.1
    rw [passes_length, iota_length]
    omega
  · simp
end Go.Proofs.Ytkolndfgpplknaa.Fn

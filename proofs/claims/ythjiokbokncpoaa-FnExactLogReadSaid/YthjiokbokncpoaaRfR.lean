/- Every operation that the plain reading takes: the machine does what it says. -/
import Derived.Test.YthjiokbokncpoaaRfQ
namespace Go.Proofs.Ythjiokbokncpoaa.Rf
open Go

variable {P : Program} {B : Base} {hp hp' : Hp} {g : Gm} {w : World} {nid : Nat}

theorem wp_of_runs {o : Oper} {a : Act} {K : Act → World → Prop} {Q : Exit → Act → World → Prop} {r : AV} {s : Sem Value} (he : execOp a.eval o = (do pure (.value (← s))))
    (h : Runs P B hp hp' g w nid r s) (hK : ∀ g' w' v, Post B hp hp' g w nid r g' w' v → K (a.put o.dst v) w') : o.wp P a w K Q := by
  obtain ⟨g', w', v, h1, h2⟩ := h
  unfold Oper.wp
  rw [he]
  simp only [Sem.run_bind, h1, Result.andThen_ok, Sem.run_pure]
  exact hK g' w' v h2

theorem wp_of_runsU {o : Oper} {a : Act} {K : Act → World → Prop} {Q : Exit → Act → World → Prop} {s : Sem Unit} (he : execOp a.eval o = (do s; pure .skip))
    (h : RunsU P B hp hp' g w nid s) (hK : ∀ g' w' v, Post B hp hp' g w nid (.c .undef) g' w' v → K (a.put o.dst v) w') : o.wp P a w K Q := by
  obtain ⟨g', w', h1, h2⟩ := h
  unfold Oper.wp
  rw [he]
  simp only [Sem.run_bind, h1, Result.andThen_ok, Sem.run_pure]
  exact hK g' w' undef h2

theorem minmax {f : Int → Int → Int} {f2 : Value → Value → Sem Value} (hf : ∀ k a b w, (f2 (.int k a) (.int k b)).run P w = .ok (.int k (f a b)) w) {A : Nat → Prop} {g : Gm} :
    ∀ (r : List CV) (vs : List Value) (k : IntKind) (a n : Int), concCs w A g r vs → foldI f a r k = some n → (vs.foldlM f2 (.int k a)).run P w = .ok (.int k n) w
  | [], [], k, a, n, _, h => by obtain rfl := Option.some.inj h; rfl
  | [], _ :: _, _, _, _, hc, _ => by have := hc.1; simp at this
  | _ :: _, [], _, _, _, hc, _ => by have := hc.1; simp at this
  | c :: r, v :: vs, k, a, n, hc, h => by
    have h0 := hc.2 0 (by simp) (by simp)
    simp only [List.getElem_cons_zero] at h0
    cases c <;> simp [foldI] at h
    obtain ⟨rfl, h⟩ := h
    obtain rfl := h0
    simp only [List.foldlM_cons, Sem.run_bind, hf, Result.andThen_ok]
    exact minmax hf r vs _ _ n ⟨by have := hc.1; simpa using this, fun i hi hi' => by
      have := hc.2 (i + 1) (by simpa using hi) (by simpa using hi')
      simpa using this⟩ h

theorem filterMap_one {A : Nat → Prop} {g : Gm} : ∀ {r : List AV} {vs : List Value}, concL w A g r vs → (r.filterMap one).length = r.length → concCs w A g (r.filterMap one) vs
  | [], [], _, _ => .nil
  | [], _ :: _, h, _ => by have := h.1; simp at this
  | _ :: _, [], h, _ => by have := h.1; simp at this
  | av :: r, v :: vs, h, hl => by
    obtain ⟨h1, h2⟩ := h.tail
    cases av with
    | c x =>
      simp only [List.filterMap_cons, one, List.length_cons, Nat.add_right_cancel_iff] at hl ⊢
      exact (concCs.single (c := x) (v := v) h1).append (filterMap_one h2 hl)
    | agg cs =>
      simp only [List.filterMap_cons, one, List.length_cons] at hl
      have := List.length_filterMap_le one r
      omega
    | tup ps =>
      simp only [List.filterMap_cons, one, List.length_cons] at hl
      have := List.length_filterMap_le one r
      omega

theorem concL_map {a : Act} {tm : List AV} {A : Nat → Prop} {g : Gm} (hρ : ∀ x, conc w A g (evalA tm x) (a.eval x)) (xs : List Operand) : concL w A g (xs.map (evalA tm)) (xs.map a.eval) :=
  ⟨by simp, fun i hi hi' => by simp only [List.getElem_map]; exact hρ _⟩

theorem opt_some {α : Type} {x : CT α} {y : α} (h : x.val = some y) (hx : x = .ok y ∨ True) : x.val = some y := h

theorem builtin_sound {cfg : Cfg} (hte : teB P cfg.te = true) (hI : Inv B hp g w) (hn : g nid = none) {b : Builtin} {ts : Array TypeId} {ty : TypeId} {cs : Array Bool} {avs : List AV} {vs : Array Value}
    (hc : concL w (Im B hp g w) g avs vs.toList) {r : AV} {ups : Upd} (h : (builtinA cfg hp nid b ts.toList avs).val = some (r, ups)) :
    ∃ s : Sem Value, builtin b ts ty cs vs = (do pure (.value (← s))) ∧ Runs P B hp (updHp hp ups) g w nid r s := by
  unfold builtinA at h
  split at h
  · -- len
    rename_i b' x
    obtain ⟨v, hv⟩ : ∃ v, vs = #[v] := by
      have := hc.1
      match vs, this with
      | ⟨[v]⟩, _ => exact ⟨v, rfl⟩
    subst hv
    have hx : concC w (Im B hp g w) g x v := hc.2 0 (by simp) (by simp)
    refine ⟨Builtin.len_ ts ty #[v], rfl, ?_⟩
    split at h
    · rename_i t hts
      have hts' : ts = #[t] := by
        cases ts with | mk l => simp at hts; simp [hts]
      subst hts'
      split at h
      · rename_i e b1 b2 hget
        have hr := (teB_ok hte hget).rep
        split at h
        · cases h
        · rename_i x' hns
          split at h
          · rename_i n hn'
            obtain ⟨rfl, rfl⟩ := val1_inj h
            obtain ⟨a, cap, rfl⟩ := lenA_val hI hx hn' hns
            exact Runs.pure hI (len_sl hr a n cap) rfl
          · cases h
      · rename_i b1 b2 hget
        have hr := (teB_ok hte hget).rep
        split at h
        · obtain ⟨rfl, rfl⟩ := val1_inj h
          obtain rfl := hx
          exact Runs.pure hI (len_str hr _) rfl
        · cases h
      · cases h
    · cases h
  · -- append
    rename_i s x
    obtain ⟨u, v, hv⟩ : ∃ u v, vs = #[u, v] := by
      have := hc.1
      match vs, this with
      | ⟨[u, v]⟩, _ => exact ⟨u, v, rfl⟩
    subst hv
    have hs : conc w (Im B hp g w) g s u := hc.2 0 (by simp) (by simp)
    have hx : conc w (Im B hp g w) g x v := hc.2 1 (by simp) (by simp)
    refine ⟨Builtin.append_ ts ty #[u, v], rfl, ?_⟩
    split at h
    · rename_i t tx hts
      have hts' : ts = #[t, tx] := by
        cases ts with | mk l => simp at hts; simp [hts]
      subst hts'
      split at h
      · rename_i e b1 b2 e2 b3 b4 hget hget2
        obtain ⟨et, hu, _⟩ := ((teB_ok hte hget2).rep).und_sl
        split at h
        · cases h
        · rename_i x' hns
          exact appendA_runs hI hn (teB_ok hte hget) rfl hs hx (.inl ⟨⟨et, hu⟩, hns⟩) h
      · rename_i e b1 b2 b3 b4 hget hget2
        have hu := ((teB_ok hte hget2).rep).und_str
        split at h
        · rename_i s'
          exact appendA_runs hI hn (teB_ok hte hget) rfl hs hx (.inr ⟨hu, s', rfl⟩) h
        · cases h
      · cases h
    · cases h
  · -- min
    rename_i k a r'
    refine ⟨Builtin.min_ ts ty vs, rfl, ?_⟩
    split at h
    · rename_i n hf
      split at h
      · rename_i hl
        obtain ⟨rfl, rfl⟩ := val1_inj h
        match vs, hc with
        | ⟨v :: vs⟩, hc =>
          obtain ⟨h1, h2⟩ := hc.tail
          obtain rfl := h1
          refine Runs.pure hI (v := .int k n) ?_ rfl
          exact minmax (f := mn) (f2 := Builtin.min2) (fun k a b w => by simp only [Builtin.min2, mn]; split <;> rfl) _ _ _ _ _ (filterMap_one h2 hl) hf
        | ⟨[]⟩, hc => have := hc.1; simp at this
      · cases h
    · cases h
  · -- max
    rename_i k a r'
    refine ⟨Builtin.max_ ts ty vs, rfl, ?_⟩
    split at h
    · rename_i n hf
      split at h
      · rename_i hl
        obtain ⟨rfl, rfl⟩ := val1_inj h
        match vs, hc with
        | ⟨v :: vs⟩, hc =>
          obtain ⟨h1, h2⟩ := hc.tail
          obtain rfl := h1
          refine Runs.pure hI (v := .int k n) ?_ rfl
          exact minmax (f := mx) (f2 := Builtin.max2) (fun k a b w => by simp only [Builtin.max2, mx]; split <;> rfl) _ _ _ _ _ (filterMap_one h2 hl) hf
        | ⟨[]⟩, hc => have := hc.1; simp at this
      · cases h
    · cases h
  · cases h

end Go.Proofs.Ythjiokbokncpoaa.Rf

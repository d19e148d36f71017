/- Cells read as values, values laid as cells. -/
import Derived.Test.YthjiokbokncpoaaRfE
namespace Go.Proofs.Ythjiokbokncpoaa.Rf
open Go

variable {w : World} {A : Nat → Prop} {g : Gm}

theorem castL_some {e' e : Ty} {l' : List (den e')} {l : List (den e)} (h : castL l' = some l) : ∃ he : e' = e, he ▸ l' = l := by
  unfold castL at h
  split at h
  · rename_i he; exact ⟨he, Option.some.inj h⟩
  · cases h

theorem rowOf_some {hp : Hp} {i : Nat} {e : Ty} {l : List (den e)} (h : rowOf hp i e = some l) : hp i = some (.row e l) := by
  unfold rowOf at h
  split at h
  · rename_i e' l' hi
    obtain ⟨he, hl⟩ := castL_some h
    subst he
    rw [hi, ← hl]
  · cases h

theorem hdr_one (b : Option Nat) (len cap : Nat) : (hdr b len cap).oneCell' = true ∧ (hdr b len cap).cells = #[hdr b len cap] := by
  cases b <;> exact ⟨rfl, rfl⟩

theorem concC.one {c : CV} {v : Value} (h : concC w A g c v) (hd : c.isDef = true) : v.oneCell' = true ∧ v.cells = #[v] := by
  cases c with
  | undef => simp [CV.isDef] at hd
  | nov => simp [CV.isDef] at hd
  | int k n => obtain rfl := h; exact ⟨rfl, rfl⟩
  | bool b => obtain rfl := h; exact ⟨rfl, rfl⟩
  | str s => obtain rfl := h; exact ⟨rfl, rfl⟩
  | sl e l =>
    rcases h with ⟨h, _⟩ | ⟨b, off, cap, vs, el, fz, h, _⟩ <;> (obtain rfl := (List.cons.inj h).1; exact ⟨rfl, rfl⟩)
  | nilv => obtain rfl := h; exact ⟨rfl, rfl⟩
  | ref i => obtain ⟨e, b, len, cap, _, rfl⟩ := h; exact hdr_one b len cap
  | sub i lo n => obtain ⟨e, b, len, cap, a, cap', _, rfl, _⟩ := h; exact ⟨rfl, rfl⟩
  | ptr i off => obtain ⟨b, _, rfl⟩ := h; exact ⟨rfl, rfl⟩
  | elt i ix off => obtain ⟨e, b, len, cap, _, _, rfl⟩ := h; exact ⟨rfl, rfl⟩
  | cst e x off => obtain ⟨b, o, vs, el, fz, rfl, _⟩ := h; exact ⟨rfl, rfl⟩
  | fn f => obtain rfl := h; exact ⟨rfl, rfl⟩

theorem concCs.one {cs : List CV} {vs : List Value} (h : concCs w A g cs vs) (hd : cs.all CV.isDef = true) : ∀ u ∈ vs, u.oneCell' = true := by
  intro u hu
  obtain ⟨i, hi, rfl⟩ := List.mem_iff_getElem.1 hu
  have hi' : i < cs.length := by rw [h.1]; exact hi
  exact (concC.one (h.2 i hi' hi) (List.all_eq_true.1 hd _ (List.getElem_mem hi'))).1

theorem conc.cells {r : AV} {v : Value} {t : Ty} (h : conc w A g r v) (hf : r.fits t = true) (hd : r.cells.all CV.isDef = true) :
    concCs w A g r.cells v.cells.toList ∧ (∀ u ∈ v.cells.toList, u.oneCell' = true) := by
  cases r with
  | c x =>
    have hd' : x.isDef = true := by simpa [AV.cells] using hd
    have h1 := concC.one h hd'
    rw [h1.2]
    exact ⟨⟨rfl, fun i hi hi' => by simp [AV.cells] at hi; subst hi; exact h⟩, by simpa using h1.1⟩
  | agg cs =>
    obtain ⟨vs, rfl, hc⟩ := h
    exact ⟨hc, hc.one hd⟩
  | tup ps => simp [AV.fits] at hf

theorem concCs.append {a b : List CV} {va vb : List Value} (ha : concCs w A g a va) (hb : concCs w A g b vb) : concCs w A g (a ++ b) (va ++ vb) := by
  refine ⟨by simp [ha.1, hb.1], fun i hi hi' => ?_⟩
  rcases Nat.lt_or_ge i a.length with h | h
  · rw [List.getElem_append_left h, List.getElem_append_left (by rw [← ha.1]; exact h)]
    exact ha.2 i h _
  · rw [List.getElem_append_right h, List.getElem_append_right (by rw [← ha.1]; exact h)]
    have h1 : i - a.length < b.length := by simp at hi; omega
    have e : i - va.length = i - a.length := by rw [ha.1]
    simp only [e]
    exact hb.2 _ h1 (by rw [← hb.1]; exact h1)

theorem concCs.nil : concCs w A g [] [] := ⟨rfl, fun i hi => by simp at hi⟩
theorem concCs.single {c : CV} {v : Value} (h : concC w A g c v) : concCs w A g [c] [v] :=
  ⟨rfl, fun i hi hi' => by simp at hi; subst hi; exact h⟩
theorem concCs.take {cs : List CV} {vs : List Value} (h : concCs w A g cs vs) (n : Nat) : concCs w A g (cs.take n) (vs.take n) :=
  ⟨by simp [h.1], fun i hi hi' => by
    simp only [List.getElem_take]
    exact h.2 i (by simp at hi; omega) (by simp at hi'; omega)⟩
theorem concCs.drop {cs : List CV} {vs : List Value} (h : concCs w A g cs vs) (n : Nat) : concCs w A g (cs.drop n) (vs.drop n) :=
  ⟨by simp [h.1], fun i hi hi' => by
    simp only [List.getElem_drop]
    exact h.2 (n + i) (by simp at hi; omega) (by simp at hi'; omega)⟩
theorem concCs.splice {cs new : List CV} {vs vnew : List Value} (h : concCs w A g cs vs) (hn : concCs w A g new vnew) (off : Nat) :
    concCs w A g (splice cs off new) (vs.take off ++ vnew ++ vs.drop (off + vnew.length)) := by
  unfold Rf.splice
  rw [hn.1]
  exact ((h.take off).append hn).append (h.drop _)

theorem zeros_conc : ∀ t : Ty, concCs w A g (zeros t) (zerosV t)
  | .int _ => .single rfl
  | .bool => .single rfl
  | .str => .single rfl
  | .sl _ => .single rfl
  | .own _ => .single rfl
  | .unit => .nil
  | .pair a b => (zeros_conc a).append (zeros_conc b)

theorem zeros_len : ∀ t : Ty, (zeros t).length = csz t
  | .int _ => rfl
  | .bool => rfl
  | .str => rfl
  | .sl _ => rfl
  | .own _ => rfl
  | .unit => rfl
  | .pair a b => by simp [zeros, csz, zeros_len a, zeros_len b]

theorem flat_len : ∀ (t : Ty) (x : den t), (flat t x).length = csz t
  | .int _, _ => rfl
  | .bool, _ => rfl
  | .str, _ => rfl
  | .sl _, _ => rfl
  | .own _, _ => rfl
  | .unit, _ => rfl
  | .pair a b, x => by simp [flat, csz, flat_len a, flat_len b]

theorem flat_conc : ∀ {t : Ty} {cs : List Value} {x : den t}, Rd w A t cs x → concCs w A g (flat t x) cs
  | .int _, cs, x, h => by obtain rfl := h; exact .single rfl
  | .bool, cs, x, h => by obtain rfl := h; exact .single rfl
  | .str, cs, x, h => by obtain rfl := h; exact .single rfl
  | .sl e, cs, x, h => by
    have h1 := h.len
    match cs, h1, h with
    | [v], _, h => exact .single h
  | .own _, cs, x, h => h.elim
  | .unit, cs, x, h => by obtain rfl := h; exact .nil
  | .pair a b, cs, x, h => by
    obtain ⟨c1, c2, rfl, h1, h2⟩ := h
    exact (flat_conc h1).append (flat_conc h2)

theorem flat_def : ∀ {t : Ty} (x : den t), noOwn t = true → (flat t x).all CV.isDef = true
  | .int _, _, _ => rfl
  | .bool, _, _ => rfl
  | .str, _, _ => rfl
  | .sl _, _, _ => rfl
  | .own _, _, h => by simp [noOwn] at h
  | .unit, _, _ => rfl
  | .pair a b, x, h => by
    simp only [noOwn, Bool.and_eq_true] at h
    simp [flat, flat_def x.1 h.1, flat_def x.2 h.2]

/-! ### rows -/
theorem Rd.zero_of : ∀ {t : Ty}, noOwn t = true → Rd w A t (zerosV t) (zero t)
  | .int _, _ => rfl
  | .bool, _ => rfl
  | .str, _ => rfl
  | .sl _, _ => .inl ⟨rfl, rfl⟩
  | .own _, h => by simp [noOwn] at h
  | .unit, _ => rfl
  | .pair a b, h => by
    simp only [noOwn, Bool.and_eq_true] at h
    exact ⟨_, _, rfl, Rd.zero_of h.1, Rd.zero_of h.2⟩

section rows
variable {α : Type} {P : List Value → α → Prop} {n : Nat}

theorem RdLs.nil (cs : List Value) : RdLs P n cs [] := fun i hi => by simp at hi

theorem RdLs.fits {cs : List Value} {l : List α} (h : RdLs P n cs l) (hP : ∀ c x, P c x → c.length = n) : l.length * n ≤ cs.length ∨ n = 0 := by
  rcases Nat.eq_zero_or_pos n with h0 | h0
  · exact .inr h0
  · rcases Nat.eq_zero_or_pos l.length with hl | hl
    · rw [hl]; left; omega
    · left
      have := hP _ _ (h (l.length - 1) (by omega))
      simp at this
      have e : l.length * n = (l.length - 1) * n + n := by
        obtain ⟨m, hm⟩ : ∃ m, l.length = m + 1 := ⟨l.length - 1, by omega⟩
        rw [hm]; simp [Nat.succ_mul]
      omega

theorem RdLs.congr {cs cs' : List Value} {l : List α} (h : RdLs P n cs l) (he : cs.take (l.length * n) = cs'.take (l.length * n)) : RdLs P n cs' l := by
  intro i hi
  have := h i hi
  have e : ∀ c : List Value, (c.drop (i * n)).take n = ((c.take (l.length * n)).drop (i * n)).take n := by
    intro c
    rw [List.drop_take, List.take_take]
    have : n ≤ l.length * n - i * n := by
      rw [← Nat.sub_mul]
      exact Nat.le_mul_of_pos_left n (by omega)
    rw [Nat.min_eq_left this]
  rw [e cs', ← he, ← e cs]
  exact this

theorem RdLs.append {cs cs2 : List Value} {l l2 : List α} (h : RdLs P n cs l) (hl : cs.length = l.length * n) (h2 : RdLs P n cs2 l2) : RdLs P n (cs ++ cs2) (l ++ l2) := by
  intro i hi
  rcases Nat.lt_or_ge i l.length with hlt | hge
  · rw [List.getElem_append_left hlt]
    have h1 := h i hlt
    have hle : i * n + n ≤ cs.length := by
      rw [hl]
      have : (i + 1) * n ≤ l.length * n := Nat.mul_le_mul_right n hlt
      rw [Nat.succ_mul] at this; exact this
    rw [List.drop_append_of_le_length (by omega), List.take_append_of_le_length (by simp; omega)]
    exact h1
  · rw [List.getElem_append_right hge]
    have h1 := h2 (i - l.length) (by simp at hi; omega)
    have e : i * n = cs.length + (i - l.length) * n := by
      rw [hl, ← Nat.add_mul]; congr 1; omega
    rw [e, List.drop_append, List.drop_eq_nil_of_le (by omega)]
    simpa using h1

theorem RdLs.drop {cs : List Value} {l : List α} (h : RdLs P n cs l) (k : Nat) : RdLs P n (cs.drop (k * n)) (l.drop k) := by
  intro i hi
  rw [List.getElem_drop, List.drop_drop, ← Nat.add_mul]
  exact h (k + i) (by simp at hi; omega)

theorem RdLs.take {cs : List Value} {l : List α} (h : RdLs P n cs l) (k : Nat) : RdLs P n cs (l.take k) := by
  intro i hi
  rw [List.getElem_take]
  exact h i (by simp at hi; omega)

theorem RdLs.set {cs : List Value} {l : List α} (h : RdLs P n cs l) {i : Nat} (hi : i < l.length) {c : List Value} {x : α} (hx : P c x) (hc : c.length = n) (hlen : i * n + n ≤ cs.length) :
    RdLs P n (cs.take (i * n) ++ c ++ cs.drop (i * n + n)) (l.set i x) := by
  intro j hj
  have hj' : j < l.length := by simpa using hj
  have hlt : (cs.take (i * n)).length = i * n := by simp; omega
  rcases Nat.lt_trichotomy j i with hji | hji | hji
  · rw [List.getElem_set_ne (by omega)]
    have hle : j * n + n ≤ i * n := by
      have : (j + 1) * n ≤ i * n := Nat.mul_le_mul_right n hji
      rw [Nat.succ_mul] at this; exact this
    rw [List.append_assoc, List.drop_append_of_le_length (by omega), List.take_append_of_le_length (by simp; omega), List.drop_take, List.take_take, Nat.min_eq_left (by omega)]
    exact h j hj'
  · subst hji
    rw [List.getElem_set_self, List.append_assoc, List.drop_append, hlt, Nat.sub_self, List.drop_eq_nil_of_le (by omega)]
    simp only [List.nil_append, List.drop_zero]
    rw [List.take_append_of_le_length (by omega), List.take_of_length_le (by omega)]
    exact hx
  · rw [List.getElem_set_ne (by omega)]
    have hle : i * n + n ≤ j * n := by
      have : (i + 1) * n ≤ j * n := Nat.mul_le_mul_right n hji
      rw [Nat.succ_mul] at this; exact this
    have hlt2 : (cs.take (i * n) ++ c).length = i * n + n := by simp [hc]; omega
    rw [List.drop_append, hlt2, List.drop_eq_nil_of_le (by omega), List.nil_append, List.drop_drop]
    have e : i * n + n + (j * n - (i * n + n)) = j * n := by omega
    rw [e]
    exact h j hj'
end rows

theorem Rd.sl_of_row {b off cap : Nat} {e : Ty} {l : List (den e)} {vs : Array Value} {el : TypeId} {fz : Nat × Nat} {A' : Nat → Prop} (hlc : l.length ≤ cap) (hA : A' b) (hb : w.heap[b]? = some (.cells vs el fz))
    (hr : RdLs (Rd w A' e) (csz e) (vs.toList.drop off) l) : Rd w A' (.sl e) [.slice (some ⟨b, off, none⟩) l.length cap] l :=
  .inr ⟨b, off, cap, vs, el, fz, rfl, hlc, hA, hb, hr⟩

/-- the blocks that may be read, and those of some rows -/
def With (B : Base) (hp : Hp) (g : Gm) (w : World) (is : List Nat) (b : Nat) : Prop := Im B hp g w b ∨ ∃ i ∈ is, BlkOf hp g i b

theorem With.of {B : Base} {hp : Hp} {g : Gm} {w : World} {is : List Nat} {b : Nat} (h : Im B hp g w b) : With B hp g w is b := .inl h

theorem Rd.mono {A' : Nat → Prop} (hA : ∀ b, A b → A' b) {t : Ty} {cs : List Value} {x : den t} (h : Rd w A t cs x) : Rd w A' t cs x :=
  Rd.frame (fun b hb => ⟨hA b hb, rfl⟩) h

theorem asL_sound {B : Base} {hp : Hp} {g : Gm} {w : World} (hI : Inv B hp g w) {e : Ty} {c : CV} {v : Value} {l : List (den e)} (hc : concC w (Im B hp g w) g c v) (h : asL hp e c = some l) :
    Rd w (With B hp g w c.ids) (.sl e) [v] l := by
  cases c with
  | sl e' l' =>
    obtain ⟨he, hl⟩ := castL_some h
    subst he; subst hl
    exact Rd.mono (fun b hb => .inl hb) (show Rd w (Im B hp g w) (.sl e') [v] l' from hc)
  | nilv => obtain rfl := hc; obtain rfl := Option.some.inj h; exact .inl ⟨rfl, rfl⟩
  | ref i =>
    have hi := rowOf_some h
    obtain ⟨e', b, len, cap, hg, rfl⟩ := hc
    obtain ⟨b2, cap2, hg2, hr⟩ := hI.ob i _ hi
    rw [hg] at hg2
    obtain ⟨rfl, rfl, rfl, rfl⟩ : e' = e ∧ b = b2 ∧ len = l.length ∧ cap = cap2 := by simpa using hg2
    cases b with
    | none => exact .inl ⟨rfl, List.length_eq_zero_iff.1 hr.1⟩
    | some b =>
      obtain ⟨vs, el, fz, k1, k2, _, _, k5⟩ := hr
      exact Rd.sl_of_row k2 (.inr ⟨i, by simp [CV.ids], _, _, hi, hg, rfl⟩) k1 (by simpa using k5.mono fun _ _ h => Rd.mono (fun b hb => .inl hb) h)
  | sub i lo n =>
    simp only [asL] at h
    split at h
    · rename_i l' hl'
      have hi := rowOf_some hl'
      obtain ⟨e', b, len, cap, a, cap', hg, rfl, hnc, hlo, ha⟩ := hc
      obtain ⟨b2, cap2, hg2, hr⟩ := hI.ob i _ hi
      rw [hg] at hg2
      obtain ⟨rfl, rfl, rfl, rfl⟩ : e' = e ∧ b = b2 ∧ len = l'.length ∧ cap = cap2 := by simpa using hg2
      obtain rfl := Option.some.inj h
      have hlen : (List.take n (List.drop lo l')).length = n := by simp; omega
      rcases ha with ⟨rfl, rfl, rfl⟩ | ⟨b', off, rfl, rfl, hoff⟩
      · exact .inl ⟨rfl, by simp⟩
      · obtain ⟨vs, el, fz, k1, _, _, _, k5⟩ := hr
        refine .inr ⟨b', off, cap', vs, el, fz, by rw [hlen], by rw [hlen]; exact hnc, .inr ⟨i, by simp [CV.ids], _, _, hi, hg, rfl⟩, k1, ?_⟩
        rcases hoff with rfl | rfl
        · simp only [List.take_zero]; exact RdLs.nil _
        · exact ((k5.mono fun _ _ h => Rd.mono (fun b hb => .inl hb) h).drop lo).take n
    · cases h
  | _ => simp [asL] at h

theorem With.mono {B : Base} {hp : Hp} {g : Gm} {w : World} {is js : List Nat} (h : ∀ i ∈ is, i ∈ js) {b : Nat} (hb : With B hp g w is b) : With B hp g w js b :=
  hb.imp id fun ⟨i, hi, hb⟩ => ⟨i, h i hi, hb⟩

theorem pack_sound {B : Base} {hp : Hp} {g : Gm} {w : World} (hI : Inv B hp g w) : ∀ {t : Ty} {cs : List CV} {vs : List Value} {x : den t} {r : List CV}, noOwn t = true →
    concCs w (Im B hp g w) g cs vs → pack hp t cs = some (x, r) → Rd w (With B hp g w (idsOf (cs.take (csz t)))) t (vs.take (csz t)) x ∧ r = cs.drop (csz t) ∧ csz t ≤ cs.length := by
  intro t
  induction t with
  | int k =>
    intro cs vs x r _ hc h
    match cs, vs, hc, h with
    | c :: cs, v :: vs, hc, h =>
      have hv := hc.2 0 (by simp) (by simp)
      cases c <;> simp [pack] at h
      obtain ⟨rfl, rfl, rfl⟩ := h
      simp only [List.getElem_cons_zero] at hv
      obtain rfl := hv
      exact ⟨rfl, rfl, by simp [csz]⟩
    | [], _, _, h => simp [pack] at h
    | _ :: _, [], hc, _ => have := hc.1; simp at this
  | bool =>
    intro cs vs x r _ hc h
    match cs, vs, hc, h with
    | c :: cs, v :: vs, hc, h =>
      have hv := hc.2 0 (by simp) (by simp)
      cases c <;> simp [pack] at h
      obtain ⟨rfl, rfl⟩ := h
      simp only [List.getElem_cons_zero] at hv
      obtain rfl := hv
      exact ⟨rfl, rfl, by simp [csz]⟩
    | [], _, _, h => simp [pack] at h
    | _ :: _, [], hc, _ => have := hc.1; simp at this
  | str =>
    intro cs vs x r _ hc h
    match cs, vs, hc, h with
    | c :: cs, v :: vs, hc, h =>
      have hv := hc.2 0 (by simp) (by simp)
      cases c <;> simp [pack] at h
      obtain ⟨rfl, rfl⟩ := h
      simp only [List.getElem_cons_zero] at hv
      obtain rfl := hv
      exact ⟨rfl, rfl, by simp [csz]⟩
    | [], _, _, h => simp [pack] at h
    | _ :: _, [], hc, _ => have := hc.1; simp at this
  | sl e ih =>
    intro cs vs x r _ hc h
    match cs, vs, hc, h with
    | c :: cs, v :: vs, hc, h =>
      have hv := hc.2 0 (by simp) (by simp)
      simp only [pack] at h
      split at h
      · rename_i l hl
        obtain ⟨rfl, rfl⟩ : l = x ∧ cs = r := by simpa using h
        refine ⟨?_, rfl, by simp [csz]⟩
        have := asL_sound hI hv hl
        simp only [csz, List.take_succ_cons, List.take_zero]
        exact Rd.mono (fun b hb => With.mono (fun i hi => by simpa [idsOf] using hi) hb) this
      · cases h
    | [], _, _, h => simp [pack] at h
    | _ :: _, [], hc, _ => have := hc.1; simp at this
  | own e ih => intro cs vs x r hn; simp [noOwn] at hn
  | unit =>
    intro cs vs x r _ hc h
    simp [pack] at h
    obtain ⟨_, rfl⟩ := h
    exact ⟨by simp [Rd, csz], by simp [csz], by simp [csz]⟩
  | pair a b iha ihb =>
    intro cs vs x r hn hc h
    simp only [noOwn, Bool.and_eq_true] at hn
    simp only [pack] at h
    split at h
    · rename_i x1 r1 h1
      split at h
      · rename_i y r2 h2
        obtain ⟨rfl, rfl⟩ : (x1, y) = x ∧ r2 = r := by simpa using h
        obtain ⟨k1, rfl, k3⟩ := iha hn.1 hc h1
        obtain ⟨m1, rfl, m3⟩ := ihb hn.2 (hc.drop _) h2
        simp at m3
        refine ⟨⟨vs.take (csz a), (vs.drop (csz a)).take (csz b), ?_, ?_, ?_⟩, by simp [csz], by simp [csz]; omega⟩
        · rw [← List.take_add]; rfl
        · exact Rd.mono (fun c hc => With.mono (fun i hi => by
            simp only [idsOf, List.mem_flatMap] at hi ⊢
            obtain ⟨q, hq, hi⟩ := hi
            refine ⟨q, ?_, hi⟩
            rw [show csz (.pair a b) = csz a + csz b from rfl, List.take_add]
            simp [hq]) hc) k1
        · exact Rd.mono (fun c hc => With.mono (fun i hi => by
            simp only [idsOf, List.mem_flatMap] at hi ⊢
            obtain ⟨q, hq, hi⟩ := hi
            refine ⟨q, ?_, hi⟩
            rw [show csz (.pair a b) = csz a + csz b from rfl, List.take_add]
            simp [hq]) hc) m1
      · cases h
    · cases h

theorem packAll_sound {B : Base} {hp : Hp} {g : Gm} {w : World} (hI : Inv B hp g w) {t : Ty} {cs : List CV} {vs : List Value} {x : den t} (hn : noOwn t = true)
    (hc : concCs w (Im B hp g w) g cs vs) (h : packAll hp t cs = some x) : Rd w (With B hp g w (idsOf cs)) t vs x := by
  unfold packAll at h
  split at h
  · rename_i x' h1
    obtain rfl := Option.some.inj h
    obtain ⟨k1, k2, k3⟩ := pack_sound hI hn hc h1
    have hl : cs.length = csz t := by
      have := congrArg List.length k2
      simp at this; omega
    rw [List.take_of_length_le (by omega), List.take_of_length_le (by rw [← hc.1]; omega)] at k1
    exact k1
  · cases h

end Go.Proofs.Ythjiokbokncpoaa.Rf

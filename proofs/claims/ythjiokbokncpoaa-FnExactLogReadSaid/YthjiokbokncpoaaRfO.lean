/- Results and written arguments of a call, as objects. -/
import Derived.Test.YthjiokbokncpoaaRfN
namespace Go.Proofs.Ythjiokbokncpoaa.Rf
open Go

variable {P : Program} {B : Base} {hp : Hp} {g : Gm} {w : World} {nid : Nat} {A : Nat → Prop}

theorem unpack_len : ∀ (n : Nat) (t : Ty) (x : den t), (unpack n t x).2.length = cnt t
  | _, .int _, _ => rfl
  | _, .bool, _ => rfl
  | _, .str, _ => rfl
  | _, .sl _, _ => rfl
  | _, .own _, _ => rfl
  | _, .unit, _ => rfl
  | n, .pair a b, x => by simp [unpack, cnt, unpack_len n a, unpack_len _ b]

def Ghosts (g' : Gm) (n : Nat) (gs : List Gh) : Prop := ∀ k (h : k < gs.length), g' (n + k) = some gs[k]

theorem Ghosts.left {g' : Gm} {n : Nat} {a b : List Gh} (h : Ghosts g' n (a ++ b)) : Ghosts g' n a := fun k hk => by
  have := h k (by simp; omega)
  rwa [List.getElem_append_left hk] at this
theorem Ghosts.right {g' : Gm} {n : Nat} {a b : List Gh} (h : Ghosts g' n (a ++ b)) : Ghosts g' (n + a.length) b := fun k hk => by
  have := h (a.length + k) (by simp; omega)
  rw [List.getElem_append_right (by omega)] at this
  simpa [Nat.add_assoc] using this

theorem unpack_ok : ∀ {t : Ty} (n : Nat) {cs : List Value} {x : den t} {O : List Nat}, OwnRd w A t cs x O →
    (unpack n t x).2.map Prod.fst = List.range' n (cnt t) ∧ ∃ gs : List Gh, gs.length = cnt t ∧ gs.filterMap Gh.blk = O ∧
      ∀ g', Ghosts g' n gs → concCs w A g' (unpack n t x).1 cs ∧ ∀ p ∈ (unpack n t x).2, ObOk w A g' p.1 p.2
  | .int _, n, _, _, _, h => by obtain ⟨rfl, rfl⟩ := h; exact ⟨rfl, [], rfl, rfl, fun g' _ => ⟨.single rfl, fun p hp => by simp [unpack] at hp⟩⟩
  | .bool, n, _, _, _, h => by obtain ⟨rfl, rfl⟩ := h; exact ⟨rfl, [], rfl, rfl, fun g' _ => ⟨.single rfl, fun p hp => by simp [unpack] at hp⟩⟩
  | .str, n, _, _, _, h => by obtain ⟨rfl, rfl⟩ := h; exact ⟨rfl, [], rfl, rfl, fun g' _ => ⟨.single rfl, fun p hp => by simp [unpack] at hp⟩⟩
  | .sl e, n, cs, x, _, h => by
    obtain ⟨h1, rfl⟩ := h
    have h2 := h1.len
    match cs, h2, h1 with
    | [v], _, h1 => exact ⟨rfl, [], rfl, rfl, fun g' _ => ⟨.single h1, fun p hp => by simp [unpack] at hp⟩⟩
  | .own e, n, _, l, _, h => by
    obtain ⟨b, cap, rfl, h2, rfl⟩ := h
    refine ⟨rfl, [.row e b (List.length l) cap], rfl, by cases b <;> rfl, fun g' hg => ?_⟩
    have h0 := hg 0 (by simp)
    simp only [Nat.add_zero, List.getElem_cons_zero] at h0
    refine ⟨.single ⟨e, b, _, cap, h0, rfl⟩, fun p hp => ?_⟩
    simp only [unpack, List.mem_singleton] at hp
    subst hp
    exact ⟨b, cap, h0, h2⟩
  | .unit, n, _, _, _, h => by obtain ⟨rfl, rfl⟩ := h; exact ⟨rfl, [], rfl, rfl, fun g' _ => ⟨.nil, fun p hp => by simp [unpack] at hp⟩⟩
  | .pair a b, n, _, x, _, h => by
    obtain ⟨c1, c2, O1, O2, rfl, rfl, h1, h2⟩ := h
    obtain ⟨k1, gs1, k2, k3, k4⟩ := unpack_ok n h1
    obtain ⟨m1, gs2, m2, m3, m4⟩ := unpack_ok (n + cnt a) h2
    have hl := unpack_len n a x.1
    refine ⟨?_, gs1 ++ gs2, by simp [cnt, k2, m2], by simp [k3, m3], fun g' hg => ?_⟩
    · simp only [unpack, List.map_append, hl, k1, m1, cnt]
      rw [List.range'_append_1]
    · obtain ⟨q1, q2⟩ := k4 g' hg.left
      obtain ⟨r1, r2⟩ := m4 g' (by have := hg.right; rw [k2] at this; exact this)
      refine ⟨by simp only [unpack, hl]; exact q1.append r1, fun p hp => ?_⟩
      simp only [unpack, hl, List.mem_append] at hp
      exact hp.elim (q2 p) (r2 p)

/-- what a result's cells are known to be -/
def PartOk (w : World) (A : Nat → Prop) (g : Gm) (p : Bool × List CV) (v : Value) : Prop :=
  if p.1 then ∃ us : Array Value, v = .agg us ∧ concCs w A g p.2 us.toList else ∃ x, p.2 = [x] ∧ concC w A g x v

theorem part_of_shape {g' : Gm} {t : Ty} {v : Value} {cs : List CV} (hs : ShapeOk t v) (hc : concCs w A g' cs v.cells.toList) (hl : cs.length = csz t) : PartOk w A g' (isStr t, cs) v := by
  unfold ShapeOk at hs
  unfold PartOk
  cases h : isStr t with
  | true =>
    rw [h] at hs
    obtain ⟨us, rfl⟩ := hs
    exact ⟨us, rfl, hc⟩
  | false =>
    rw [h] at hs
    simp only [Bool.false_eq_true, if_false] at hs ⊢
    rw [csz_one h] at hl
    rw [hs] at hc
    match cs, hl with
    | [x], _ => exact ⟨x, rfl, hc.2 0 (by simp) (by simp)⟩

theorem unpack_cells_len : ∀ (n : Nat) (t : Ty) (x : den t), (unpack n t x).1.length = csz t
  | _, .int _, _ => rfl
  | _, .bool, _ => rfl
  | _, .str, _ => rfl
  | _, .sl _, _ => rfl
  | _, .own _, _ => rfl
  | _, .unit, _ => rfl
  | n, .pair a b, x => by simp [unpack, csz, unpack_cells_len n a, unpack_cells_len _ b]

theorem resOne_ok {r : RM} (n : Nat) {v : Value} {x : den r.ty} {O : List Nat} (h : ResOk w A r v x O) :
    (resOne n r x).2.map Prod.fst = List.range' n (cntR r) ∧ ∃ gs : List Gh, gs.length = cntR r ∧ gs.filterMap Gh.blk = O ∧
      ∀ g', Ghosts g' n gs → PartOk w A g' (resOne n r x).1 v ∧ ∀ p ∈ (resOne n r x).2, ObOk w A g' p.1 p.2 := by
  cases r with
  | val t =>
    obtain ⟨h1, h2⟩ := h
    obtain ⟨k1, gs, k2, k3, k4⟩ := unpack_ok n h2
    refine ⟨k1, gs, k2, k3, fun g' hg => ?_⟩
    obtain ⟨q1, q2⟩ := k4 g' hg
    exact ⟨part_of_shape h1 q1 (unpack_cells_len n t x), q2⟩
  | ptr t =>
    obtain ⟨b, vs, el, O', rfl, h1, h2, rfl⟩ := h
    obtain ⟨k1, gs, k2, k3, k4⟩ := unpack_ok (n + 1) h2
    refine ⟨?_, .box b :: gs, by simp [k2, cntR], by simp [k3, Gh.blk], fun g' hg => ?_⟩
    · simp only [resOne, List.map_cons, k1, cntR]
      rw [List.range'_succ]
    · have hg' : Ghosts g' n ([.box b] ++ gs) := hg
      have h0 := hg 0 (by simp)
      simp only [Nat.add_zero, List.getElem_cons_zero] at h0
      obtain ⟨q1, q2⟩ := k4 g' hg'.right
      refine ⟨⟨_, rfl, ⟨b, h0, rfl⟩⟩, fun p hp => ?_⟩
      simp only [resOne, List.mem_cons] at hp
      rcases hp with rfl | hp
      · exact ⟨b, vs, el, h0, h1, q1⟩
      · exact q2 p hp

theorem resAll_ok : ∀ {rs : List RM} (n : Nat) {vs : List Value} {y : den (resTy rs)} {O : List Nat}, RessOk w A rs vs y O →
    (resAll n rs y).2.map Prod.fst = List.range' n (cntRs rs) ∧ ∃ gs : List Gh, gs.length = cntRs rs ∧ gs.filterMap Gh.blk = O ∧
      ∀ g', Ghosts g' n gs → ((resAll n rs y).1.length = vs.length ∧ ∀ i (h : i < (resAll n rs y).1.length) (h' : i < vs.length), PartOk w A g' (resAll n rs y).1[i] vs[i]) ∧ ∀ p ∈ (resAll n rs y).2, ObOk w A g' p.1 p.2
  | [], n, _, _, _, h => by obtain ⟨rfl, rfl⟩ := h; exact ⟨rfl, [], rfl, rfl, fun g' _ => ⟨⟨rfl, fun i hi => by simp [resAll] at hi⟩, fun p hp => by simp [resAll] at hp⟩⟩
  | r :: rs, n, _, y, _, h => by
    obtain ⟨v, vs', O1, O2, rfl, rfl, h1, h2⟩ := h
    obtain ⟨k1, gs1, k2, k3, k4⟩ := resOne_ok n h1
    obtain ⟨m1, gs2, m2, m3, m4⟩ := resAll_ok (n + cntR r) h2
    refine ⟨?_, gs1 ++ gs2, by simp [cntRs, k2, m2], by simp [k3, m3], fun g' hg => ?_⟩
    · simp only [resAll, List.map_append, k1, m1, cntRs]
      rw [List.range'_append_1]
    · obtain ⟨q1, q2⟩ := k4 g' hg.left
      obtain ⟨⟨r0, r1⟩, r2⟩ := m4 g' (by have := hg.right; rw [k2] at this; exact this)
      refine ⟨⟨by simp [resAll, r0], fun i hi hi' => ?_⟩, fun p hp => ?_⟩
      · cases i with
        | zero => exact q1
        | succ i => exact r1 i (by simpa [resAll] using hi) (by simpa using hi')
      · simp only [resAll, List.mem_append] at hp
        exact hp.elim (q2 p) (r2 p)

theorem resAV_conc {g' : Gm} {ps : List (Bool × List CV)} {vs : List Value} (hl : ps.length = vs.length) (h : ∀ i (h : i < ps.length) (h' : i < vs.length), PartOk w A g' ps[i] vs[i]) : conc w A g' (resAV ps) (resV vs) := by
  match ps, vs, hl, h with
  | [], [], _, h => exact ⟨#[], rfl, rfl, fun i hi => by simp at hi⟩
  | [p], [v], _, h =>
    have h0 := h 0 (by simp) (by simp)
    simp only [List.getElem_cons_zero] at h0
    unfold PartOk at h0
    simp only [resAV, resV]
    split at h0
    · rename_i hp; rw [if_pos hp]; exact h0
    · rename_i hp
      rw [if_neg hp]
      obtain ⟨x, h1, h2⟩ := h0
      rw [h1]; exact h2
  | p :: q :: ps, v :: u :: vs, hl, h =>
    refine ⟨(v :: u :: vs).toArray, rfl, by simpa using hl, fun i hi hi' => ?_⟩
    have := h i hi (by simpa using hi')
    unfold PartOk at this
    simpa using this

/-! ### written arguments -/
theorem hdr_inj {b b' : Option Nat} {n n' c c' : Nat} (h : hdr b n c = hdr b' n' c') (h0 : b = none → n = 0 ∧ c = 0) (h1 : b' = none → n' = 0 ∧ c' = 0) : b = b' ∧ n = n' ∧ c = c' := by
  cases b <;> cases b'
  · have := h0 rfl; have := h1 rfl; exact ⟨rfl, by omega, by omega⟩
  · simp [hdr] at h
  · simp [hdr] at h
  · simp only [hdr, Value.slice.injEq, Option.some.injEq, Addr.mk.injEq] at h
    exact ⟨by rw [h.1.1], h.2.1, h.2.2⟩

theorem rowAt_none {e : Ty} {l : List (den e)} {b : Option Nat} {cap : Nat} (h : RowAt w A e l b cap) : b = none → l.length = 0 ∧ cap = 0 := by
  intro hb; subst hb; exact h

/-- the rows of one's own of a value that was lent, behind the call -/
theorem rewriteOwn_ok {w0 : World} {hp : Hp} {g : Gm} (hI : Inv B hp g w0) {w : World} {A : Nat → Prop} : ∀ {t : Ty} {cs : List CV} {vs : List Value} {x0 x : den t} {r : List CV} {O : List Nat}, concCs w0 (Im B hp g w0) g cs vs → pack hp t cs = some (x0, r) →
    OwnRd w A t (vs.take (csz t)) x O → (rewriteOwn t cs x).2 = r ∧ r = cs.drop (csz t) ∧ (rewriteOwn t cs x).1.map Prod.fst = (ownIds t cs).1 ∧ O = bo g (ownIds t cs).1 ∧
      ∀ g', g.le g' → ∀ p ∈ (rewriteOwn t cs x).1, ObOk w A g' p.1 p.2 := by
  intro t
  induction t with
  | int k =>
    intro cs vs x0 x r O hc h ho
    have hr := (pack_own hI hc h).2.1
    match cs, h with
    | c :: cs, h => exact ⟨by rw [hr]; rfl, hr, rfl, by rw [ho.2]; rfl, fun g' _ p hp => by simp [rewriteOwn] at hp⟩
    | [], h => simp [pack] at h
  | bool =>
    intro cs vs x0 x r O hc h ho
    have hr := (pack_own hI hc h).2.1
    match cs, h with
    | c :: cs, h => exact ⟨by rw [hr]; rfl, hr, rfl, by rw [ho.2]; rfl, fun g' _ p hp => by simp [rewriteOwn] at hp⟩
    | [], h => simp [pack] at h
  | str =>
    intro cs vs x0 x r O hc h ho
    have hr := (pack_own hI hc h).2.1
    match cs, h with
    | c :: cs, h => exact ⟨by rw [hr]; rfl, hr, rfl, by rw [ho.2]; rfl, fun g' _ p hp => by simp [rewriteOwn] at hp⟩
    | [], h => simp [pack] at h
  | sl e ih =>
    intro cs vs x0 x r O hc h ho
    have hr := (pack_own hI hc h).2.1
    match cs, h with
    | c :: cs, h => exact ⟨by rw [hr]; rfl, hr, rfl, by rw [ho.2]; rfl, fun g' _ p hp => by simp [rewriteOwn] at hp⟩
    | [], h => simp [pack] at h
  | own e ih =>
    intro cs vs x0 x r O hc h ho
    have hr := (pack_own hI hc h).2.1
    match cs, vs, hc, h with
    | c :: cs, v :: vs, hc, h =>
      have hv := hc.2 0 (by simp) (by simp)
      simp only [List.getElem_cons_zero] at hv
      simp only [pack] at h
      split at h
      · rename_i l hl
        obtain ⟨b, cap, h1, h2, h3⟩ := ho
        simp only [csz, List.take_succ_cons, List.take_zero] at h1
        have h1 := (List.cons.inj h1).1
        cases c <;> simp [asO] at hl
        · refine ⟨by rw [hr]; rfl, hr, rfl, ?_, fun g' _ p hp => by simp [rewriteOwn] at hp⟩
          obtain rfl := hv
          have : b = none := by cases b with
            | none => rfl
            | some b => simp [hdr] at h1
          subst this
          rw [h3]; rfl
        · rename_i i
          have hi := rowOf_some hl
          obtain ⟨e', b', len, cap', hg, h4⟩ := hv
          obtain ⟨rfl, rfl, hrow⟩ := row_of hI hi hg
          rw [h4] at h1
          obtain ⟨e1, e2, e3⟩ := hdr_inj h1 (rowAt_none hrow) (rowAt_none h2)
          subst e1; subst e3
          refine ⟨by rw [hr]; rfl, hr, rfl, ?_, fun g' hle p hp => ?_⟩
          · rw [h3]; cases b' <;> simp [bo, ownIds, CV.ids, hg, Gh.blk]
          · simp only [rewriteOwn, List.mem_singleton] at hp
            subst hp
            exact ⟨b', cap', by rw [hle _ _ hg, e2], h2⟩
      · cases h
    | [], _, _, h => simp [pack] at h
    | _ :: _, [], hc, _ => have := hc.1; simp at this
  | unit =>
    intro cs vs x0 x r O hc h ho
    have hr := (pack_own hI hc h).2.1
    exact ⟨by rw [hr]; simp [rewriteOwn, csz], hr, rfl, by rw [ho.2]; rfl, fun g' _ p hp => by simp [rewriteOwn] at hp⟩
  | pair a b iha ihb =>
    intro cs vs x0 x r O hc h ho
    simp only [pack] at h
    split at h
    · rename_i x1 r1 h1
      split at h
      · rename_i y r2 h2
        obtain ⟨rfl, rfl⟩ := Prod.mk.inj (Option.some.inj h)
        obtain ⟨c1, c2, O1, O2, e1, rfl, o1, o2⟩ := ho
        have pa := pack_own hI hc h1
        have hcl := hc.1
        have hlen1 : c1.length = csz a := o1.len
        have e2 : c1 ++ c2 = vs.take (csz a) ++ (vs.drop (csz a)).take (csz b) := by rw [← e1, ← List.take_add]; rfl
        have hle := pa.2.2.1
        obtain ⟨ec1, ec2⟩ := List.append_inj e2 (by rw [hlen1, List.length_take]; omega)
        rw [ec1] at o1; rw [ec2] at o2
        obtain ⟨k1, k2, k3, k4, k5⟩ := iha hc h1 o1
        subst k2
        obtain ⟨m1, m2, m3, m4, m5⟩ := ihb (hc.drop _) h2 o2
        have hoa := pa.2.2.2.2.1
        refine ⟨by simp only [rewriteOwn, k1]; exact m1, by rw [m2]; simp [csz], ?_, ?_, fun g' hle p hp => ?_⟩
        · simp only [rewriteOwn, ownIds, k1, hoa, List.map_append, k3, m3]
        · simp only [ownIds, hoa, bo_append, k4, m4]
        · simp only [rewriteOwn, k1, List.mem_append] at hp
          exact hp.elim (k5 g' hle p) (m5 g' hle p)
      · cases h
    · cases h

end Go.Proofs.Ythjiokbokncpoaa.Rf

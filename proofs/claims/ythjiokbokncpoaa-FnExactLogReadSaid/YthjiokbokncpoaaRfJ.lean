/- New slices, cuts, appends, structs put together. -/
import Derived.Test.YthjiokbokncpoaaRfI
import Derived.Laws.MakeOwn
import Derived.Deep.AppendSrc
namespace Go.Proofs.Ythjiokbokncpoaa.Rf
open Go

variable {P : Program} {B : Base} {hp : Hp} {g : Gm} {w : World} {nid : Nat} {A : Nat → Prop}

theorem Inv.drew' (hI : Inv B hp g w) : Inv B hp g w.drew ∧ Keep B hp hp g g w w.drew := hI.same rfl rfl rfl rfl

/-- a new row out of cells that read as l -/
theorem newrow_post (hI : Inv B hp g w) {n : Nat} (hn : g n = none) (h1 : nid ≤ n) (h2 : n < nid + 16) {w' : World} {e : Ty} {l : List (den e)} {vs : Array Value} {el : TypeId} {fz : Nat × Nat} {cap : Nat}
    (hw : w'.heap = w.heap.push (.cells vs el fz)) (hos : w'.os = w.os) (htape : w'.tape = w.tape) (hout : w'.output = w.output) (hlc : l.length ≤ cap) (hcap : cap * csz e ≤ vs.size)
    (hfz : fz.2 ≤ fz.1 ∨ vs.size ≤ fz.1) (hrd : RdLs (Rd w (Im B hp g w) e) (csz e) vs.toList l) :
    Post B hp (setHp hp n (some (.row e l))) g w nid (.c (.ref n)) (setG g n (.row e (some w.heap.size) l.length cap)) w' (.slice (some ⟨w.heap.size, 0, none⟩) l.length cap) := by
  obtain ⟨k1, k2⟩ := hI.alloc (w' := w') hn (.cells vs el fz) (.row e l) (.row e (some w.heap.size) l.length cap) rfl hw hos htape hout
    (fun hk => ⟨some w.heap.size, cap, by simp [setG], vs, el, fz, by rw [hw]; simp, hlc, hcap, hfz, hrd.mono fun _ _ h => Rd.frame hk h⟩)
  exact ⟨setG_le hn, new_setG h1 h2, k1, k2, ⟨e, some w.heap.size, l.length, cap, by simp [setG], rfl⟩⟩

theorem madeCells_rd {e : Ty} (hno : noOwn e = true) {z : Value} (hz : z.cells.toList = zerosV e) (n : Nat) : RdLs (Rd w A e) (csz e) (madeCells z.cells (n * csz e)).toList (List.replicate n (zero e)) := by
  intro i hi
  have hi' : i < n := by simpa using hi
  rw [List.getElem_replicate]
  have hzl : z.cells.size = csz e := by
    have := congrArg List.length hz
    have h2 := (Rd.zero_of (w := w) (A := A) hno).len
    simp at this; omega
  have e1 : List.take (csz e) (List.drop (i * csz e) (madeCells z.cells (n * csz e)).toList) = zerosV e := by
    rw [← hz]
    apply List.ext_getElem
    · have : i * csz e + csz e ≤ n * csz e := by
        have : (i + 1) * csz e ≤ n * csz e := Nat.mul_le_mul_right _ hi'
        rw [Nat.succ_mul] at this; exact this
      simp [size_madeCells, hzl]; omega
    · intro j h1 h2
      simp only [List.getElem_take, List.getElem_drop, madeCells, Array.getElem_toList, Array.getElem_map, Array.getElem_range]
      have hj : j < csz e := by simpa [hzl] using h2
      rw [hzl, Nat.mul_comm, Nat.mul_add_mod, Nat.mod_eq_of_lt hj]
      simp [hzl, hj]
  rw [e1]
  exact Rd.zero_of hno

theorem makeSlice_runs (hI : Inv B hp g w) (hn : g nid = none) {t : TypeId} {i : TI} {e : Ty} (hti : TIOk P t i) (hty : i.ty = .sl e) (hno : noOwn e = true) (hb : i.ebytes ≠ 0) {n : Int} (h0 : 0 ≤ n)
    (h1 : n * (i.ebytes : Int) ≤ 140737488355328) :
    Runs P B hp (setHp hp nid (some (.row e (List.replicate n.toNat (zero e))))) g w nid (.c (.ref nid)) (Instr.makeSlice t (.int .i64 n) (.int .i64 n)) := by
  obtain ⟨et, inf, hu, hre, hinf, hbytes⟩ := hti.elem e hty
  obtain ⟨f⟩ := hre.f
  have hif : f.inf = inf := by have := f.info; rw [hinf] at this; exact (Option.some.inj this).symm
  have hle : n ≤ 140737488355328 := by
    have : n * 1 ≤ n * (i.ebytes : Int) := Int.mul_le_mul_of_nonneg_left (by omega) h0
    omega
  have hrun := run_make (P := P) w t et f.inf f.z hu f.info f.zero .i64 .i64 n n h0 (Int.le_refl _) (by rw [hif, hbytes, Int.mul_comm]; omega) (by omega)
  rw [f.size] at hrun
  have hpost := newrow_post (nid := nid) (w' := w.alloc (.cells (madeCells f.z.cells (n.toNat * csz e)) et)) (cap := n.toNat) (l := List.replicate n.toNat (zero e)) hI hn (Nat.le_refl _) (by omega) rfl rfl rfl rfl
    (by simp) (by rw [size_madeCells]; exact Nat.le_refl _) (.inl (Nat.le_refl _)) (madeCells_rd hno f.zcs _)
  rw [List.length_replicate] at hpost
  exact ⟨_, _, _, hrun, hpost⟩

theorem val1_inj {v : CV} {r : AV} {ups : Upd} (h : some (val1 v) = some (r, ups)) : r = .c v ∧ ups = [] := by
  obtain ⟨h1, h2⟩ := Prod.mk.inj (show (AV.c v, ([] : Upd)) = (r, ups) from Option.some.inj h)
  exact ⟨h1.symm, h2.symm⟩

/-! ### cuts -/
theorem sliceA_runs (hI : Inv B hp g w) {te : TE} (hte : teB P te = true) {t : TypeId} {c : CV} {v : Value} (hv : concC w (Im B hp g w) g c v) {lo hi : Option Value} {x y : Int} {n : Nat} (hlo : optV 0 lo x)
    (hn : lenA hp c = some n) (hhi : optV n hi y) {r : AV} {ups : Upd} (h : (sliceA hp (te.get t) c x y).val = some (r, ups)) :
    Runs P B hp (updHp hp ups) g w nid r (Instr.sliceAt t v lo hi none) := by
  unfold sliceA at h
  split at h
  · rename_i b eb s hget
    have hr := (teB_ok hte hget).rep
    simp only [CT.val] at h
    obtain ⟨h0, h⟩ := bif_some h
    obtain ⟨h1, h⟩ := bif_some h
    obtain ⟨h2, h⟩ := bif_some h
    obtain ⟨rfl, rfl⟩ := val1_inj h
    obtain rfl := hv
    obtain rfl : s.size = n := by simpa [lenA] using hn
    exact Runs.pure hI (slice_str_run hr hlo hhi (by simpa using h0) (by simpa using h1) (by simpa using h2)) rfl
  · rename_i e b eb e' l hget
    have hr := (teB_ok hte hget).rep
    split at h
    · cases h
    · rename_i hee
      have hee' : e = e' := by simpa using hee
      subst hee'
      simp only [CT.val] at h
      obtain ⟨h0, h⟩ := bif_some h
      obtain ⟨h1, h⟩ := bif_some h
      obtain ⟨h2, h⟩ := bif_some h
      obtain ⟨rfl, rfl⟩ := val1_inj h
      have h0 : 0 ≤ x := by simpa using h0
      have h1 : x ≤ y := by simpa using h1
      have h2 : y ≤ (l.length : Int) := by simpa using h2
      obtain rfl : l.length = n := by simpa [lenA] using hn
      have hlen : (List.drop x.toNat (List.take y.toNat l)).length = y.toNat - x.toNat := by simp; omega
      rcases hv with ⟨hv, hl⟩ | ⟨bb, off, cap, vs, el, fz, hv, hlc, hA, hb, hrd⟩
      · obtain rfl := (List.cons.inj hv).1
        subst hl
        simp only [List.length_nil] at hhi h2 hlen
        refine Runs.pure hI (slice_sl_run hr hlo hhi h0 h1 (by simpa using h2) (Nat.le_refl _)) ?_
        have hx : x.toNat = 0 := by simp at h2; omega
        have hy : y.toNat = 0 := by simp at h2; omega
        simp only [hx, hy]
        exact .inl ⟨rfl, by simp⟩
      · obtain rfl := (List.cons.inj hv).1
        refine Runs.pure hI (slice_sl_run hr hlo hhi h0 h1 h2 hlc) ?_
        by_cases hc : cap = x.toNat
        · rw [if_pos hc]
          refine .inr ⟨bb, off, cap - x.toNat, vs, el, fz, by rw [hlen], by rw [hlen]; omega, hA, hb, ?_⟩
          have : List.drop x.toNat (List.take y.toNat l) = [] := List.drop_eq_nil_of_le (by simp; omega)
          rw [this]; exact RdLs.nil _
        · rw [if_neg hc]
          simp only [Option.map_some, add_none]
          refine .inr ⟨bb, off + x.toNat * csz e, cap - x.toNat, vs, el, fz, by rw [hlen], by rw [hlen]; omega, hA, hb, ?_⟩
          rw [← List.drop_drop]
          exact (hrd.take _).drop _
  · rename_i e b eb i hget
    have hr := (teB_ok hte hget).rep
    split at h
    · rename_i l hl
      have hi' := rowOf_some hl
      simp only [CT.val] at h
      obtain ⟨h0, h⟩ := bif_some h
      obtain ⟨h1, h⟩ := bif_some h
      obtain ⟨h2, h⟩ := bif_some h
      obtain ⟨rfl, rfl⟩ := val1_inj h
      have h0 : 0 ≤ x := by simpa using h0
      have h1 : x ≤ y := by simpa using h1
      have h2 : y ≤ (l.length : Int) := by simpa using h2
      obtain rfl : l.length = n := by simpa [lenA, hi'] using hn
      obtain ⟨e', bb, len, cap, hg, rfl⟩ := hv
      obtain ⟨rfl, rfl, hrow⟩ := row_of hI hi' hg
      cases bb with
      | none =>
        obtain ⟨hl0, rfl⟩ := hrow
        rw [hl0] at hhi h2
        refine Runs.pure (v := .slice none 0 0) hI ?_ ⟨e', none, l.length, 0, none, 0, hg, ?_, by omega, by omega, .inl ⟨rfl, by omega, rfl⟩⟩
        · have := slice_sl_run (P := P) (w := w) hr (a := none) hlo hhi h0 h1 h2 (Nat.le_refl 0)
          have hx : x.toNat = 0 := by omega
          have hy : y.toNat = 0 := by omega
          simpa [hx, hy, hdr] using this
        · have : y.toNat - x.toNat = 0 := by omega
          rw [this]
      | some bb =>
        obtain ⟨vs, el, fz, hb, hlc, _, _, _⟩ := hrow
        refine Runs.pure hI (slice_sl_run hr hlo hhi h0 h1 h2 hlc) ⟨e', some bb, l.length, cap, _, _, hg, rfl, by omega, by omega, .inr ?_⟩
        by_cases hc : cap = x.toNat
        · exact ⟨bb, 0, rfl, by rw [if_pos hc], .inl (by omega)⟩
        · exact ⟨bb, x.toNat * csz e', rfl, by rw [if_neg hc]; simp [add_none], .inr rfl⟩
    · cases h
  · rename_i e b eb i o m hget
    have hr := (teB_ok hte hget).rep
    split at h
    · rename_i l hl
      have hi' := rowOf_some hl
      simp only [CT.val] at h
      obtain ⟨h0, h⟩ := bif_some h
      obtain ⟨h1, h⟩ := bif_some h
      obtain ⟨h2, h⟩ := bif_some h
      obtain ⟨rfl, rfl⟩ := val1_inj h
      have h0 : 0 ≤ x := by simpa using h0
      have h1 : x ≤ y := by simpa using h1
      have h2 : y ≤ (m : Int) := by simpa using h2
      obtain rfl : m = n := by simpa [lenA] using hn
      obtain ⟨e', bb, len, cap, a, cap', hg, rfl, hmc, hle, ha⟩ := hv
      obtain ⟨rfl, rfl, hrow⟩ := row_of hI hi' hg
      refine Runs.pure hI (slice_sl_run hr hlo hhi h0 h1 h2 hmc) ⟨e', bb, l.length, cap, _, _, hg, rfl, by omega, by omega, ?_⟩
      rcases ha with ⟨rfl, rfl, rfl⟩ | ⟨b', off, rfl, rfl, hoff⟩
      · left; refine ⟨?_, by omega, by omega⟩
        split <;> rfl
      · right
        by_cases hc : cap' = x.toNat
        · exact ⟨b', off, rfl, by rw [if_pos hc], .inl (by omega)⟩
        · refine ⟨b', off + x.toNat * csz e', rfl, by rw [if_neg hc]; simp [add_none], ?_⟩
          rcases hoff with rfl | rfl
          · left; omega
          · right; rw [Nat.add_mul]
    · cases h
  · cases h

end Go.Proofs.Ythjiokbokncpoaa.Rf

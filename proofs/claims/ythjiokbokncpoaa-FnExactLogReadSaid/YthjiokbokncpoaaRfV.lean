/- Regions whose order is drawn. -/
import Derived.Test.YthjiokbokncpoaaRfU
namespace Go.Proofs.Ythjiokbokncpoaa.Rf
open Go

variable {P : Program} {B : Base} {cfg : Cfg} {ops : Array Oper} {base : Nat}

theorem flatMap_same {α β : Type} {f g : α → List β} : ∀ {l : List α}, (∀ x ∈ l, f x = g x) → l.flatMap f = l.flatMap g
  | [], _ => rfl
  | x :: l, h => by rw [List.flatMap_cons, List.flatMap_cons, h x (by simp), flatMap_same fun y hy => h y (by simp [hy])]

theorem stepOp_congr {ρ ρ' : Operand → AV} {hp : Hp} {nid : Nat} {op : Op} (h : ∀ x ∈ op.operands, ρ x = ρ' x) : stepOp cfg ρ hp nid op = stepOp cfg ρ' hp nid op := by
  have pairs : ∀ ps : Array (Nat × Operand), (∀ x ∈ (ps.toList.map (·.2)).toArray, ρ x = ρ' x) → ∀ p ∈ ps.toList, ρ p.2 = ρ' p.2 := fun ps hp p hm => hp _ (by simpa using ⟨p.1, by simpa using hm⟩)
  cases op <;> simp only [Op.operands] at h <;> simp only [stepOp]
  case move x => rw [h x (by simp)]
  case assign x => rw [h x (by simp)]
  case pick c x y => rw [h c (by simp), h x (by simp), h y (by simp)]
  case box t x => rw [h x (by simp)]
  case build t ps =>
    have e : (ps.toList.map fun p => (p.1, ρ p.2)) = ps.toList.map fun p => (p.1, ρ' p.2) := List.map_congr_left fun p hp => by rw [pairs ps h p hp]
    rw [e]
  case buildSlice t n ps =>
    have e1 : ∀ e : Ty, (ps.toList.map fun p => packAll hp e (ρ p.2).cells) = ps.toList.map fun p => packAll hp e (ρ' p.2).cells := fun e => List.map_congr_left fun p hp => by rw [pairs ps h p hp]
    have e2 : (ps.toList.flatMap fun p => idsOf (ρ p.2).cells) = ps.toList.flatMap fun p => idsOf (ρ' p.2).cells := by
      exact flatMap_same fun p hp => by rw [pairs ps h p hp]
    have e3 : ∀ e : Ty, (ps.toList.all fun p => (ρ p.2).fits e) = ps.toList.all fun p => (ρ' p.2).fits e := fun e => by
      rw [Bool.eq_iff_iff, List.all_eq_true, List.all_eq_true]
      exact ⟨fun hh p hp => by rw [← pairs ps h p hp]; exact hh p hp, fun hh p hp => by rw [pairs ps h p hp]; exact hh p hp⟩
    simp only [e1, e2, e3]
  case load t x => rw [h x (by simp)]
  case store t x y => rw [h x (by simp), h y (by simp)]
  case nilCheck x => rw [h x (by simp)]
  case binOp bop t x y yt => rw [h x (by simp), h y (by simp)]
  case unOp uop t x => rw [h x (by simp)]
  case convert s d x => rw [h x (by simp)]
  case makeSlice t l c => rw [h l (by simp)]
  case slice t x lo hi mx =>
    cases mx with
    | some m => rfl
    | none =>
      simp only
      rw [h x (by simp)]
      have e1 : ∀ d, optI ρ lo d = optI ρ' lo d := fun d => by
        cases lo with
        | none => rfl
        | some l => simp only [optI]; rw [h l (by simp)]
      have e2 : ∀ d, optI ρ hi d = optI ρ' hi d := fun d => by
        cases hi with
        | none => rfl
        | some l => simp only [optI]; rw [h l (by simp)]
      simp only [e1, e2]
  case fieldAddr s x f => rw [h x (by simp)]
  case field s x f => rw [h x (by simp)]
  case indexAddr t x ix => rw [h x (by simp), h ix (by simp)]
  case index t x ix => rw [h x (by simp), h ix (by simp)]
  case extract x i => rw [h x (by simp)]
  case call c =>
    have e : c.args.toList.map ρ = c.args.toList.map ρ' := List.map_congr_left fun x hx => h x (by simp [Call.operands]; exact .inr (by simpa using hx))
    rw [e]
    cases hc : c.callee with
    | value f => simp only; rw [h f (by simp [Call.operands, hc])]
    | _ => rfl

theorem evalA_put {tm : List AV} {dst : Option Tmp} {v : AV} {x : Operand} (h : ∀ d, dst = some d → x ≠ .tmp d) : evalA (putA tm dst v) x = evalA tm x := by
  cases dst with
  | none => rfl
  | some d =>
    cases x with
    | tmp t =>
      have hne : d ≠ t := fun e => h d rfl (e ▸ rfl)
      simp [evalA, putA, List.getElem?_set_ne hne]
    | const v =>
      cases v with
      | slice a n c =>
        match a, n, c with
        | none, 0, 0 => rfl
        | some _, _, _ => rfl
        | none, _ + 1, _ => rfl
        | none, 0, _ + 1 => rfl
      | _ => rfl
    | _ => rfl

theorem mem_looks {o : Oper} {x : Operand} (hx : x ∈ o.op.operands) {t : Tmp} (ht : x = .tmp t) : t ∈ o.looksAt ops := by
  subst ht
  unfold Oper.looksAt
  rw [List.mem_append]
  left
  rw [List.mem_filterMap]
  exact ⟨_, by simpa using hx, rfl⟩

theorem updHp_other {hp : Hp} : ∀ {ups : Upd} {j : Nat}, j ∉ ups.map (·.1) → updHp hp ups j = hp j := by
  intro ups
  induction ups generalizing hp with
  | nil => intro j _; rfl
  | cons p ups ih =>
    intro j h
    simp only [List.map_cons, List.mem_cons, not_or] at h
    show updHp (setHp hp p.1 p.2) ups j = _
    rw [ih h.2]; simp [setHp, h.1]

theorem updHp_key {hp hp2 : Hp} : ∀ {ups : Upd} {j : Nat}, j ∈ ups.map (·.1) → updHp hp ups j = updHp hp2 ups j := by
  intro ups
  induction ups generalizing hp hp2 with
  | nil => intro j h; cases h
  | cons p ups ih =>
    intro j h
    show updHp (setHp hp p.1 p.2) ups j = updHp (setHp hp2 p.1 p.2) ups j
    by_cases hj : j ∈ ups.map (·.1)
    · exact ih hj
    · rw [updHp_other hj, updHp_other hj]
      simp only [List.map_cons, List.mem_cons] at h
      rcases h with h | h
      · subst h; simp [setHp]
      · exact absurd h hj

theorem updHp_comm {hp : Hp} {u v : Upd} (h : ∀ j ∈ u.map (·.1), j ∉ v.map (·.1)) : updHp (updHp hp u) v = updHp (updHp hp v) u := by
  funext j
  by_cases hu : j ∈ u.map (·.1)
  · rw [updHp_other (h j hu)]
    exact updHp_key hu
  · by_cases hv : j ∈ v.map (·.1)
    · rw [updHp_other hu (hp := updHp hp v)]
      exact updHp_key hv
    · rw [updHp_other hv, updHp_other hu, updHp_other hu, updHp_other hv]

theorem putA_comm (tm : List AV) {x y : Option Tmp} (v u : AV) (h : ∀ d, x = some d → y ≠ some d) : putA (putA tm x v) y u = putA (putA tm y u) x v := by
  cases x with
  | none => rfl
  | some d =>
    cases y with
    | none => rfl
    | some e =>
      have hne : d ≠ e := fun he => h d rfl (he ▸ rfl)
      simp only [putA]
      exact List.set_comm _ _ hne

def indep (a b : Rec) : Bool := disjB a.wr b.fp && disjB b.wr a.fp && disjB a.wr b.wr

theorem wantedA_put {o : Oper} {tm : List AV} {dst : Option Tmp} {v : AV} (h : ∀ d, dst = some d → d ∉ o.looksAt ops) : wantedA ops o (putA tm dst v) = wantedA ops o tm := by
  unfold wantedA
  cases hg : o.guard with
  | none => rfl
  | some p =>
    obtain ⟨j, pol⟩ := p
    simp only
    cases hd : (ops[j]?).bind (·.dst) with
    | none => rfl
    | some d =>
      simp only
      have e : (putA tm dst v).getD d (.c .undef) = tm.getD d (.c .undef) := by
        cases dst with
        | none => rfl
        | some d' =>
          have hne : d' ≠ d := by
            intro e
            subst e
            refine h d' rfl ?_
            unfold Oper.looksAt
            rw [List.mem_append]
            right
            simp [hg, hd]
          simp [putA, List.getElem?_set_ne hne]
      rw [e]

theorem opIds_put {tm : List AV} {dst : Option Tmp} {v : AV} {o : Oper} (h : ∀ d, dst = some d → d ∉ o.looksAt ops) : opIds (putA tm dst v) o.op = opIds tm o.op := by
  unfold opIds
  refine flatMap_same fun x hx => ?_
  rw [evalA_put fun d hd e => h d hd (mem_looks (ops := ops) (o := o) (by simpa using hx) e)]

/-- what an operation sees does not change by a write elsewhere -/
theorem sees_same {tm tm' : List AV} {hp hp' : Hp} {op : Op} {wr : List Nat} (hids : opIds tm' op = opIds tm op) (hhp : ∀ j, j ∉ wr → hp' j = hp j) (hd : ∀ j ∈ wr, j ∉ fpOf tm hp op) :
    fpOf tm' hp' op = fpOf tm hp op ∧ restr (fpOf tm' hp' op) hp' = restr (fpOf tm hp op) hp := by
  have h1 : ∀ j ∈ fpOf tm hp op, hp' j = hp j := fun j hj => hhp j fun hw => hd j hw hj
  have e1 : fpOf tm' hp' op = fpOf tm hp op := by
    unfold fpOf
    rw [hids]
    congr 1
    refine flatMap_same fun i hi => ?_
    unfold boxIds
    rw [h1 i (by unfold fpOf; exact List.mem_append_left _ hi)]
  refine ⟨e1, ?_⟩
  funext j
  unfold restr
  rw [e1]
  split
  · rename_i hj
    exact h1 j (by simpa using hj)
  · rfl

theorem disj_of {xs ys : List Nat} (h : disjB xs ys = true) : ∀ j ∈ xs, j ∉ ys := disjB_iff h

/-- two operations that have nothing to do with each other may be exchanged -/
theorem stepR_swap {j i : Nat} {oj oi : Oper} {s s1 s2 : RS} {rj ri : Rec} (hap : oj.apart ops oi = true) (hin : indep rj ri = true) (hj : StepR cfg ops base true j oj s s1 rj) (hi : StepR cfg ops base true i oi s1 s2 ri) :
    ∃ s1', StepR cfg ops base true i oi s s1' ri ∧ StepR cfg ops base true j oj s1' s2 rj := by
  obtain ⟨a1, a2, a3⟩ := Oper.apart_spec hap
  simp only [indep, Bool.and_eq_true] at hin
  obtain ⟨⟨d1, d2⟩, d3⟩ := hin
  have d1 := disj_of d1; have d2 := disj_of d2; have d3 := disj_of d3
  unfold StepR at hj hi
  split at hj
  · rename_i hwj
    obtain ⟨vj, uj, e1, rfl, rfl⟩ := hj
    simp only at hi d1 d2 d3
    rw [wantedA_put a1] at hi
    have hidsi : opIds (putA s.tm oj.dst vj) oi.op = opIds s.tm oi.op := opIds_put a1
    split at hi
    · rename_i hwi
      obtain ⟨vi, ui, e2, rfl, rfl⟩ := hi
      simp only at d1 d2 d3
      -- i sees in s what it saw behind j
      obtain ⟨f1, f2⟩ := sees_same (tm := putA s.tm oj.dst vj) (tm' := s.tm) (hp := updHp s.hp uj) (hp' := s.hp) (op := oi.op) (wr := uj.map (·.1)) hidsi.symm (fun k hk => (updHp_other hk).symm) d1
      have hvi : (stepOp cfg (evalA s.tm) (view true s.tm s.hp oi.op) (base + 16 * i) oi.op).val = some (vi, ui) := by
        rw [← e2]
        unfold view
        simp only [cond_true]
        rw [f2]
        rw [stepOp_congr fun x hx => (evalA_put (v := vj) fun d hd e => a1 d hd (mem_looks (ops := ops) hx e)).symm]
      -- j sees behind i what it saw in s
      obtain ⟨f3, f4⟩ := sees_same (tm := s.tm) (tm' := putA s.tm oi.dst vi) (hp := s.hp) (hp' := updHp s.hp ui) (op := oj.op) (wr := ui.map (·.1)) (opIds_put (ops := ops) a3) (fun k hk => updHp_other hk) d2
      have hvj : (stepOp cfg (evalA (putA s.tm oi.dst vi)) (view true (putA s.tm oi.dst vi) (updHp s.hp ui) oj.op) (base + 16 * j) oj.op).val = some (vj, uj) := by
        rw [← e1]
        unfold view
        simp only [cond_true]
        rw [f4]
        rw [stepOp_congr fun x hx => (evalA_put (v := vi) fun d hd e => a3 d hd (mem_looks (ops := ops) hx e))]
      refine ⟨⟨putA s.tm oi.dst vi, updHp s.hp ui⟩, ?_, ?_⟩
      · unfold StepR
        rw [hwi]
        exact ⟨vi, ui, hvi, rfl, by rw [f1]⟩
      · unfold StepR
        rw [wantedA_put a3, hwj]
        refine ⟨vj, uj, hvj, ?_, by rw [f3]⟩
        simp only
        rw [putA_comm s.tm vj vi a2, updHp_comm d3]
    · rename_i hwi
      obtain ⟨rfl, rfl⟩ := hi
      refine ⟨⟨putA s.tm oi.dst (.c .nov), s.hp⟩, ?_, ?_⟩
      · unfold StepR
        rw [hwi]
        exact ⟨rfl, rfl⟩
      · obtain ⟨f3, f4⟩ := sees_same (tm := s.tm) (tm' := putA s.tm oi.dst (.c .nov)) (hp := s.hp) (hp' := s.hp) (op := oj.op) (wr := []) (opIds_put (ops := ops) a3) (fun k _ => rfl) (fun k hk => (by cases hk))
        unfold StepR
        rw [wantedA_put a3, hwj]
        refine ⟨vj, uj, ?_, ?_, by rw [f3]⟩
        · rw [← e1]
          unfold view
          simp only [cond_true]
          rw [f4]
          rw [stepOp_congr fun x hx => (evalA_put (v := .c .nov) fun d hd e => a3 d hd (mem_looks (ops := ops) hx e))]
        · simp only
          rw [putA_comm s.tm vj (.c .nov) a2]
    · exact hi.elim
  · rename_i hwj
    obtain ⟨rfl, rfl⟩ := hj
    simp only at hi
    rw [wantedA_put a1] at hi
    have hidsi : opIds (putA s.tm oj.dst (.c .nov)) oi.op = opIds s.tm oi.op := opIds_put a1
    split at hi
    · rename_i hwi
      obtain ⟨vi, ui, e2, rfl, rfl⟩ := hi
      obtain ⟨f1, f2⟩ := sees_same (tm := putA s.tm oj.dst (.c .nov)) (tm' := s.tm) (hp := s.hp) (hp' := s.hp) (op := oi.op) (wr := []) hidsi.symm (fun k _ => rfl) (fun k hk => (by cases hk))
      refine ⟨⟨putA s.tm oi.dst vi, updHp s.hp ui⟩, ?_, ?_⟩
      · unfold StepR
        rw [hwi]
        refine ⟨vi, ui, ?_, rfl, by rw [f1]⟩
        rw [← e2]
        unfold view
        simp only [cond_true]
        rw [f2]
        rw [stepOp_congr fun x hx => (evalA_put (v := .c .nov) fun d hd e => a1 d hd (mem_looks (ops := ops) hx e)).symm]
      · unfold StepR
        rw [wantedA_put a3, hwj]
        refine ⟨?_, rfl⟩
        simp only
        rw [putA_comm s.tm (.c .nov) vi a2]
    · rename_i hwi
      obtain ⟨rfl, rfl⟩ := hi
      refine ⟨⟨putA s.tm oi.dst (.c .nov), s.hp⟩, ?_, ?_⟩
      · unfold StepR
        rw [hwi]
        exact ⟨rfl, rfl⟩
      · unfold StepR
        rw [wantedA_put a3, hwj]
        refine ⟨?_, rfl⟩
        simp only
        rw [putA_comm s.tm (.c .nov) (.c .nov) a2]
    · exact hi.elim
  · exact hj.elim

end Go.Proofs.Ythjiokbokncpoaa.Rf

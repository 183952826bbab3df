/- A region whose order is drawn: whatever order the edges allow, the end is that of the order of the text. -/
import Derived.Test.YtdbcojhhdjlbiaaDoorE10
namespace Go.Pend
open Go.RowKit (Below)

section
variable {P : Program} {E : Env}

/-! ## an operation hangs on what it looks at alone -/
theorem evs_congr {s s' : St} : ∀ {l : List Operand}, (∀ x ∈ l, s.ev x = s'.ev x) → s.evs l = s'.evs l
  | [], _ => rfl
  | x :: l, h => by
    have h1 := evs_congr (l := l) fun y hy => h y (List.mem_cons_of_mem _ hy)
    simp only [St.evs, h x (by simp), h1]

theorem evParts_congr {s s' : St} : ∀ {l : List (Nat × Operand)}, (∀ x ∈ l, s.ev x.2 = s'.ev x.2) → s.evParts l = s'.evParts l
  | [], _ => rfl
  | (i, x) :: l, h => by
    have h1 := evParts_congr (l := l) fun y hy => h y (List.mem_cons_of_mem _ hy)
    simp only [St.evParts, h (i, x) (by simp), h1]

theorem opA_congr {s s' : St} (hH : s.H = s'.H) {o : Oper} (h : ∀ x ∈ o.op.operands.toList, s.ev x = s'.ev x) : opA E o s = opA E o s' := by
  obtain ⟨dst, op, ty, pos, aft, gd⟩ := o
  simp only at h
  cases op
  case build t ps =>
    have : s.evParts ps.toList = s'.evParts ps.toList := evParts_congr fun x hx => h x.2 (by simp [Op.operands]; exact ⟨x.1, by simpa using hx⟩)
    simp only [opA, hH, this]
  case buildSlice t n ps =>
    have : s.evParts ps.toList = s'.evParts ps.toList := evParts_congr fun x hx => h x.2 (by simp [Op.operands]; exact ⟨x.1, by simpa using hx⟩)
    simp only [opA, hH, this]
  case makeFunc fn first caps =>
    have : s.evs caps.toList = s'.evs caps.toList := evs_congr fun x hx => h x (by simp [Op.operands]; exact .inr (by simpa using hx))
    cases fn <;> simp only [opA, hH, this]
  case makeMap t r => cases r <;> simp only [opA, hH]
  case slice t x lo hi mx =>
    have h1 := h x (by simp [Op.operands])
    have h2 : ∀ y, lo = some y → s.ev y = s'.ev y := fun y hy => h y (by subst hy; simp [Op.operands])
    have h3 : ∀ y, hi = some y → s.ev y = s'.ev y := fun y hy => h y (by subst hy; simp [Op.operands])
    have h4 : ∀ y, mx = some y → s.ev y = s'.ev y := fun y hy => h y (by subst hy; simp [Op.operands])
    cases lo <;> cases hi <;> cases mx <;> simp only [opA, hH, h1] <;> simp_all
  case call c =>
    obtain ⟨callee, args, ats⟩ := c
    cases callee <;> simp only [opA]
    have : s.evs args.toList = s'.evs args.toList := evs_congr fun x hx => h x (by simp [Op.operands, Call.operands]; simpa using hx)
    simp only [hH, this]
  all_goals
    simp only [Op.operands, List.mem_cons, List.not_mem_nil, or_false, forall_eq_or_imp, forall_eq, false_imp_iff, implies_true] at h
    simp only [opA, hH, h]

theorem stepA_congr {cf : CallF} {s s' : St} (hH : s.H = s'.H) {o : Oper} (h : ∀ x ∈ o.op.operands.toList, s.ev x = s'.ev x) : stepA E cf o s = stepA E cf o s' := by
  unfold stepA
  split
  · rename_i c hc
    split
    · rename_i f hf
      have h1 : s.ev f = s'.ev f := h f (by rw [hc]; obtain ⟨cl, args, ats⟩ := c; simp only at hf; subst hf; simp [Op.operands, Call.operands])
      have h2 : s.evs c.args.toList = s'.evs c.args.toList := evs_congr fun x hx => h x (by rw [hc]; obtain ⟨cl, args, ats⟩ := c; simp only at hf; subst hf; simp [Op.operands, Call.operands]; exact .inr (by simpa using hx))
      rw [h1, h2, hH]
    · exact opA_congr hH h
  · exact opA_congr hH h

theorem lift_eq {H1 H2 : AH} {o : Option AVal} {v : AVal} {K : AH} (h : lift H1 o = some (v, K)) : K = H1 ∧ lift H2 o = some (v, H2) := by
  obtain ⟨rfl, rfl⟩ := lift_some h
  exact ⟨rfl, rfl⟩

/-- what neither makes nor writes leaves memory as it is -/
theorem opA_pure {s : St} {o : Oper} (he : eff o.op = false) {v : AVal} {K : AH} (h : opA E o s = some (v, K)) : K = s.H := by
  obtain ⟨dst, op, ty, pos, aft, gd⟩ := o
  simp only at he
  cases op <;> simp only [eff, Bool.true_eq_false] at he <;> simp only [opA] at h
  case call c =>
    obtain ⟨callee, args, ats⟩ := c
    cases callee <;> (try simp only [] at h) <;> try (cases h; done)
    rename_i b
    cases b <;> try (cases he; done)
    all_goals (try simp only [builtinA] at h)
    all_goals
      split at h
      · repeat' split at h
        all_goals first
          | (cases h; done)
          | contradiction
          | (simp only [Option.some.injEq, Prod.mk.injEq] at h; exact h.2.symm)
      · cases h
  case makeFunc fn first caps =>
    cases fn <;> (try simp only at h) <;> try (cases h; done)
    split at h
    · simp only [Option.some.injEq, Prod.mk.injEq] at h; exact h.2.symm
    · cases h
  all_goals
    repeat' split at h
  all_goals first
    | (cases h; done)
    | exact (lift_eq (H2 := s.H) h).1
    | (simp only [Option.some.injEq, Prod.mk.injEq] at h; exact h.2.symm)

/-- what does not look at memory gives the same in any -/
theorem opA_noheap {s : St} {o : Oper} (he : eff o.op = false) (hh : heapy o.op = false) {v : AVal} {K : AH} (h : opA E o s = some (v, K)) (H : AH) : opA E o ⟨s.T, H, s.nt⟩ = some (v, H) := by
  have hev : ∀ x, St.ev ⟨s.T, H, s.nt⟩ x = s.ev x := fun x => by cases x <;> rfl
  have hevs : ∀ l, St.evs ⟨s.T, H, s.nt⟩ l = s.evs l := fun l => evs_congr fun x _ => hev x
  have hevp : ∀ l, St.evParts ⟨s.T, H, s.nt⟩ l = s.evParts l := fun l => evParts_congr fun x _ => hev x.2
  obtain ⟨dst, op, ty, pos, aft, gd⟩ := o
  simp only at he hh
  cases op <;> simp only [eff, Bool.true_eq_false] at he <;> simp only [heapy, Bool.true_eq_false] at hh <;> simp only [opA] at h <;> simp only [opA, hev, hevs, hevp]
  case call c =>
    obtain ⟨callee, args, ats⟩ := c
    cases callee <;> (try simp only [] at h ⊢) <;> try (cases h; done)
    rename_i b
    cases b <;> try (first | (cases he; done) | (cases hh; done))
    all_goals (try simp only [builtinA, hevs] at h ⊢)
    all_goals
      split at h
      · repeat' split at h
        all_goals first
          | (cases h; done)
          | contradiction
          | (simp only [Option.some.injEq, Prod.mk.injEq] at h; obtain ⟨rfl, rfl⟩ := h; simp_all)
      · cases h
  case makeFunc fn first caps =>
    cases fn <;> (try simp only [hevs] at h ⊢) <;> try (cases h; done)
    split at h
    · simp only [Option.some.injEq, Prod.mk.injEq] at h; obtain ⟨rfl, rfl⟩ := h; simp_all
    · cases h
  all_goals
    repeat' split at h
  all_goals first
    | (cases h; done)
    | (have := (lift_eq (H2 := H) h).2; simp_all; done)
    | (simp only [Option.some.injEq, Prod.mk.injEq] at h; obtain ⟨rfl, rfl⟩ := h; simp_all; done)

end
end Go.Pend

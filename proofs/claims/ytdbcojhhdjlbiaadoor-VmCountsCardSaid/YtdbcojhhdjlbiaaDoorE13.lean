/- The drawn region's theorem, and the evaluator's. -/
import Derived.Test.YtdbcojhhdjlbiaaDoorE12
namespace Go.Pend
open Go.RowKit (Below)

section
variable {P : Program} {E : Env}

/-- a slot's value when just these operations are done -/
def TV (L : List Oper) (σ : Nat → St) (s0 : St) (D : Nat → Bool) : Nat → Nat → Option AVal
  | 0, t => s0.T.get t
  | j + 1, t => if D j = true ∧ (L[j]?.bind (·.dst)) = some t then (σ (j + 1)).T.get t else TV L σ s0 D j t

/-- how many are not done -/
def left (D : Nat → Bool) : Nat → Nat
  | 0 => 0
  | k + 1 => (if D k then 0 else 1) + left D k

theorem left_zero {D : Nat → Bool} : ∀ {k : Nat}, left D k = 0 → ∀ j, j < k → D j = true
  | 0, _, j, hj => by omega
  | k + 1, h, j, hj => by
    simp only [left] at h
    by_cases hk : D k = true
    · rw [if_pos hk] at h
      by_cases e : j = k
      · subst e; exact hk
      · exact left_zero (k := k) (by omega) j (by omega)
    · rw [if_neg hk] at h; omega

theorem left_same {D D' : Nat → Bool} : ∀ {k : Nat}, (∀ j, j < k → D' j = D j) → left D' k = left D k
  | 0, _ => rfl
  | k + 1, h => by
    simp only [left, h k (by omega)]
    rw [left_same (fun j hj => h j (by omega))]

theorem left_done {D D' : Nat → Bool} {i : Nat} (hi : D i = false) (hD : ∀ j, D' j = if j = i then true else D j) : ∀ {k : Nat}, i < k → left D' k + 1 = left D k
  | 0, h => by omega
  | k + 1, h => by
    simp only [left]
    by_cases e : k = i
    · subst e
      rw [hD k, if_pos rfl, if_pos rfl, hi, if_neg (by simp), left_same (D := D) (D' := D') (fun j hj => by rw [hD j, if_neg (by omega)])]
      omega
    · have := left_done hi hD (k := k) (by omega)
      rw [hD k, if_neg e]
      omega

/-- the trace of a region, in the order of the text -/
structure Tr (E : Env) (cf : CallF) (L : List Oper) (σ : Nat → St) (s0 : St) : Prop where
  zero : σ 0 = s0
  one : ∀ (i : Nat) o, L[i]? = some o → oneA E cf L o (σ i) = some (σ (i + 1))
  free : ∀ (i j : Nat) o p b, i < j → L[i]? = some o → L[j]? = some p → (Bits L)[j]? = some b → freeA E L i o (σ i) (σ (i + 1)) b p (σ j) (σ (j + 1)) = true
  back : ∀ (i : Nat) o, L[i]? = some o → ∀ e ∈ o.after.toList, Region.binds .any e = true → e.on < i

variable {cf : CallF} {L : List Oper} {σ : Nat → St} {s0 : St}

theorem Tr.nt (h : Tr E cf L σ s0) : ∀ i, i ≤ L.length → (σ i).nt = s0.nt
  | 0, _ => by rw [h.zero]
  | i + 1, hi => by
    have ho := List.getElem?_eq_getElem (l := L) (i := i) (by omega)
    rw [(one_T (h.one i _ ho)).1, h.nt i (by omega)]

/-- between two places with no writing operation between memory is the same -/
theorem Tr.heap (h : Tr E cf L σ s0) {p : Nat} : ∀ {q : Nat}, p ≤ q → q ≤ L.length → (∀ j o, p ≤ j → j < q → L[j]? = some o → eff o.op = false) → (σ q).H = (σ p).H
  | 0, hp, _, _ => by rw [show p = 0 by omega]
  | q + 1, hp, hq, he => by
    by_cases e : p = q + 1
    · rw [e]
    · have ho := List.getElem?_eq_getElem (l := L) (i := q) (by omega)
      rw [one_H (he q _ (by omega) (by omega) ho) (h.one q _ ho)]
      exact h.heap (by omega) (by omega) fun j o h1 h2 h3 => he j o h1 (by omega) h3

theorem Tr.slot (h : Tr E cf L σ s0) {D : Nat → Bool} {i t : Nat} (hlo : ∀ j o, j < i → L[j]? = some o → o.dst = some t → D j = true)
    (hhi : ∀ j o, i ≤ j → L[j]? = some o → o.dst = some t → D j = false) : ∀ k, k ≤ L.length → TV L σ s0 D k t = (σ (min k i)).T.get t
  | 0, _ => by simp [TV, h.zero]
  | k + 1, hk => by
    have ho := List.getElem?_eq_getElem (l := L) (i := k) (by omega)
    have ih := h.slot hlo hhi k (by omega)
    simp only [TV, ho, Option.bind_some]
    by_cases hd : (L[k]'(by omega)).dst = some t
    · by_cases hki : k < i
      · rw [if_pos ⟨hlo k _ hki ho hd, hd⟩, Nat.min_eq_left (by omega)]
      · have := hhi k _ (by omega) ho hd
        rw [if_neg (by simp [this]), ih]
        rw [show min k i = i by omega, show min (k + 1) i = i by omega]
    · rw [if_neg (fun hh => hd hh.2), ih]
      by_cases hki : k < i
      · rw [show min k i = k by omega, show min (k + 1) i = k + 1 by omega]
        exact ((one_T (h.one k _ ho)).2 t hd).symm
      · rw [show min k i = i by omega, show min (k + 1) i = i by omega]

/-- one more done -/
theorem TV_done {D D' : Nat → Bool} {i t : Nat} {o : Oper} (ho : L[i]? = some o) (hD : ∀ j, D' j = if j = i then true else D j) (hi : D i = false)
    (hhi : ∀ j p, i < j → L[j]? = some p → p.dst = some t → o.dst = some t → D j = false) : ∀ k, k ≤ L.length →
      TV L σ s0 D' k t = if i < k ∧ o.dst = some t then (σ (i + 1)).T.get t else TV L σ s0 D k t
  | 0, _ => by simp [TV]
  | k + 1, hk => by
    have hok := List.getElem?_eq_getElem (l := L) (i := k) (by omega)
    have ih := TV_done ho hD hi hhi k (by omega)
    simp only [TV]
    by_cases e : k = i
    · subst e
      rw [hD k, if_pos rfl, ho]
      simp only [Option.bind_some, true_and]
      by_cases hd : o.dst = some t
      · rw [if_pos hd, if_pos ⟨by omega, hd⟩]
      · rw [if_neg hd, if_neg (fun h => hd h.2), if_neg (fun h => hd h.2), ih, if_neg (by omega)]
    · rw [hD k, if_neg e, hok]
      simp only [Option.bind_some]
      by_cases hd : (L[k]'(by omega)).dst = some t
      · by_cases hdk : D k = true
        · rw [if_pos ⟨hdk, hd⟩]
          by_cases hik : i < k
          · by_cases hod : o.dst = some t
            · have := hhi k _ hik hok hd hod
              rw [this] at hdk; cases hdk
            · rw [if_neg (fun h => hod h.2), if_pos ⟨hdk, hd⟩]
          · rw [if_neg (by omega), if_pos ⟨hdk, hd⟩]
        · rw [if_neg (fun h => hdk h.1), ih]
          by_cases hod : i < k ∧ o.dst = some t
          · rw [if_pos hod, if_pos ⟨by omega, hod.2⟩]
          · rw [if_neg hod]
            by_cases hod2 : i < k + 1 ∧ o.dst = some t
            · exact absurd ⟨by omega, hod2.2⟩ hod
            · rw [if_neg hod2, if_neg (fun h => hdk h.1)]
      · rw [if_neg (fun h => hd h.2), ih]
        by_cases hod : i < k ∧ o.dst = some t
        · rw [if_pos hod, if_pos ⟨by omega, hod.2⟩]
        · rw [if_neg hod]
          by_cases hod2 : i < k + 1 ∧ o.dst = some t
          · exact absurd ⟨by omega, hod2.2⟩ hod
          · rw [if_neg hod2, if_neg (fun h => hd h.2)]

/-- what holds when just these are done -/
structure Inv (L : List Oper) (σ : Nat → St) (s0 : St) (D : Nat → Bool) (r : St) (p : Nat) : Prop where
  direct : Direct L D
  p_le : p ≤ L.length
  effs : ∀ (j : Nat) o, L[j]? = some o → eff o.op = true → (D j = true ↔ j < p)
  heap : r.H = (σ p).H
  nt : r.nt = s0.nt
  slots : ∀ t, r.T.get t = TV L σ s0 D L.length t

theorem first_eff {L : List Oper} {i : Nat} : ∀ {p : Nat}, (∃ j o, p ≤ j ∧ j < i ∧ L[j]? = some o ∧ eff o.op = true) →
    ∃ q o, p ≤ q ∧ q < i ∧ L[q]? = some o ∧ eff o.op = true ∧ ∀ j o', p ≤ j → j < q → L[j]? = some o' → eff o'.op = false := by
  intro p ⟨j, o, h1, h2, h3, h4⟩
  induction j using Nat.strongRecOn generalizing o with
  | _ j ih =>
    by_cases hex : ∃ j' o', p ≤ j' ∧ j' < j ∧ L[j']? = some o' ∧ eff o'.op = true
    · obtain ⟨j', o', k1, k2, k3, k4⟩ := hex
      exact ih j' k2 o' k1 (by omega) k3 k4
    · refine ⟨j, o, h1, h2, h3, h4, fun j' o' k1 k2 k3 => ?_⟩
      cases he : eff o'.op with
      | false => rfl
      | true => exact absurd ⟨j', o', k1, k2, k3, he⟩ hex

theorem last_eff {L : List Oper} {i p : Nat} (h : ∃ j o, i ≤ j ∧ j < p ∧ L[j]? = some o ∧ eff o.op = true) :
    ∃ q o, i ≤ q ∧ q < p ∧ L[q]? = some o ∧ eff o.op = true ∧ ∀ j o', q < j → j < p → L[j]? = some o' → eff o'.op = false := by
  obtain ⟨j, o, h1, h2, h3, h4⟩ := h
  obtain ⟨d, hd⟩ : ∃ d, p - j = d := ⟨_, rfl⟩
  induction d using Nat.strongRecOn generalizing j o with
  | _ d ih =>
    by_cases hex : ∃ j' o', j < j' ∧ j' < p ∧ L[j']? = some o' ∧ eff o'.op = true
    · obtain ⟨j', o', k1, k2, k3, k4⟩ := hex
      exact ih (p - j') (by omega) j' o' (by omega) k2 k3 k4 rfl
    · refine ⟨j, o, h1, h2, h3, h4, fun j' o' k1 k2 k3 => ?_⟩
      cases he : eff o'.op with
      | false => rfl
      | true => exact absurd ⟨j', o', k1, k2, k3, he⟩ hex

theorem still_spec {o : Oper} {s : St} {H : AH} (h : stillA E L o s H = true) (hw : wantedA L o s = some true) {v : AVal} {K : AH} (hv : opA E o s = some (v, K)) :
    ∃ K', opA E o ⟨s.T, H, s.nt⟩ = some (v, K') := by
  unfold stillA at h
  rw [hw] at h
  simp only [hv] at h
  split at h
  · rename_i v1 K1 u K2 e1 e2
    simp only [Option.some.injEq, Prod.mk.injEq] at e1
    obtain ⟨rfl, rfl⟩ := e1
    rw [same_eq h]
    exact ⟨_, e2⟩
  · cases h

/-- an operation that is ready, done where just these are done -/
theorem inv_step (h : Tr E cf L σ s0) {D D' : Nat → Bool} {r : St} {p i : Nat} {o : Oper} (hI : Inv L σ s0 D r p) (ho : L[i]? = some o) (hi : D i = false)
    (hready : ∀ e ∈ o.after.toList, Region.binds .any e = true → D e.on = true) (hD : ∀ j, D' j = if j = i then true else D j) :
    ∃ r' p', oneA E cf L o r = some r' ∧ Inv L σ s0 D' r' p' := by
  have hil : i < L.length := (List.getElem?_eq_some_iff.1 ho).1
  obtain ⟨b, hb⟩ : ∃ b, (Bits L)[i]? = some b := ⟨_, List.getElem?_eq_getElem (by rw [(bits_spec L).1]; exact hil)⟩
  -- what stands ahead, and what does not
  have ahead : ∀ j, b.testBit j = true → D j = true := fun j hj => ready_bits hI.direct ho hb hready hj
  have behind : ∀ j q c, L[j]? = some q → (Bits L)[j]? = some c → D j = true → c.testBit i = false := by
    intro j q c hq hc hj
    cases hbit : c.testBit i with
    | false => rfl
    | true => have := direct_bits hI.direct j q c i hq hc hj hbit; rw [hi] at this; cases this
  have bitsAt : ∀ j, j < L.length → ∃ c, (Bits L)[j]? = some c := fun j hj => ⟨_, List.getElem?_eq_getElem (by rw [(bits_spec L).1]; exact hj)⟩
  -- writers of a slot that this one looks at, or writes
  have wr_lo : ∀ j q t, j < i → L[j]? = some q → q.dst = some t → (t ∈ looks L o ∨ o.dst = some t) → D j = true := by
    intro j q t hj hq hd ht
    have hf := h.free j i q o b hj hq ho hb
    unfold freeA at hf
    rw [Bool.or_eq_true] at hf
    rcases hf with hf | hf
    · exact ahead j hf
    · exfalso
      simp only [Bool.and_eq_true, Bool.not_eq_true'] at hf
      have hc := hf.1
      unfold clash at hc
      rw [hd] at hc
      simp only [Bool.or_eq_false_iff] at hc
      rcases ht with ht | ht
      · have := hc.1.2
        rw [List.any_eq_false] at this
        exact this t ht (Nat.beq_refl t)
      · rw [ht] at hc
        have : Nat.beq t t = false := hc.1.1
        rw [Nat.beq_refl] at this; cases this
  have wr_hi : ∀ j q t, i < j → L[j]? = some q → q.dst = some t → (t ∈ looks L o ∨ o.dst = some t) → D j = false := by
    intro j q t hj hq hd ht
    cases hdj : D j with
    | false => rfl
    | true =>
      exfalso
      obtain ⟨c, hc⟩ := bitsAt j (List.getElem?_eq_some_iff.1 hq).1
      have hnb := behind j q c hq hc hdj
      have hf := h.free i j o q c hj ho hq hc
      unfold freeA at hf
      rw [hnb] at hf
      simp only [Bool.false_or, Bool.and_eq_true, Bool.not_eq_true'] at hf
      have hcl := hf.1
      unfold clash at hcl
      rw [hd] at hcl
      simp only [Bool.or_eq_false_iff] at hcl
      rcases ht with ht | ht
      · have := hcl.2
        rw [List.any_eq_false] at this
        exact this t ht (Nat.beq_refl t)
      · rw [ht] at hcl
        have : (Nat.beq t t || (looks L q).any (Nat.beq t)) = false := hcl.1
        rw [Nat.beq_refl] at this; cases this
  have hslots : ∀ t ∈ looks L o, r.T.get t = (σ i).T.get t := by
    intro t ht
    rw [hI.slots t, h.slot (i := i) (fun j q hj hq hd => wr_lo j q t hj hq hd (.inl ht)) (fun j q hj hq hd => ?_) L.length (Nat.le_refl _), Nat.min_eq_right (by omega)]
    by_cases e : j = i
    · subst e; exact hi
    · exact wr_hi j q t (by omega) hq hd (.inl ht)
  have hnt : r.nt = (σ i).nt := by rw [hI.nt, h.nt i (by omega)]
  have hone := h.one i o ho
  -- the slots behind it
  have slots' : ∀ r' : St, (∀ t, r'.T.get t = if o.dst = some t then (σ (i + 1)).T.get t else r.T.get t) → ∀ t, r'.T.get t = TV L σ s0 D' L.length t := by
    intro r' hr t
    rw [hr t, TV_done ho hD hi (fun j q hj hq hd hod => wr_hi j q t hj hq hd (.inr hod)) L.length (Nat.le_refl _)]
    by_cases hod : o.dst = some t
    · rw [if_pos hod, if_pos ⟨hil, hod⟩]
    · rw [if_neg hod, if_neg (fun h => hod h.2), hI.slots t]
  have direct' : Direct L D' := by
    intro k q e hk hq he hbn
    rw [hD k] at hk
    rw [hD e.on]
    by_cases e1 : e.on = i
    · rw [if_pos e1]
    · rw [if_neg e1]
      split at hk
      · subst k; rw [ho] at hq; cases hq; exact hready e he hbn
      · exact hI.direct k q e hk hq he hbn
  cases heff : eff o.op with
  | true =>
    -- the writing ones stand in one row
    have lo : ∀ j q, j < i → L[j]? = some q → eff q.op = true → D j = true := by
      intro j q hj hq he
      have hf := h.free j i q o b hj hq ho hb
      unfold freeA at hf
      rw [he, heff] at hf
      simp only [Bool.and_false, Bool.or_false] at hf
      exact ahead j hf
    have hi' : ∀ j q, i < j → L[j]? = some q → eff q.op = true → D j = false := by
      intro j q hj hq he
      cases hdj : D j with
      | false => rfl
      | true =>
        exfalso
        obtain ⟨c, hc⟩ := bitsAt j (List.getElem?_eq_some_iff.1 hq).1
        have hnb := behind j q c hq hc hdj
        have hf := h.free i j o q c hj ho hq hc
        unfold freeA at hf
        rw [hnb, he, heff] at hf
        simp at hf
    have hheap : r.H = (σ i).H := by
      rw [hI.heap]
      by_cases hpi : p ≤ i
      · refine (h.heap hpi (by omega) fun j q k1 k2 k3 => ?_).symm
        cases he : eff q.op with
        | false => rfl
        | true => have := (hI.effs j q k3 he).1 (lo j q k2 k3 he); omega
      · refine h.heap (by omega) hI.p_le fun j q k1 k2 k3 => ?_
        cases he : eff q.op with
        | false => rfl
        | true =>
          have hdj := (hI.effs j q k3 he).2 k2
          by_cases e : j = i
          · subst e; rw [hi] at hdj; cases hdj
          · rw [hi' j q (by omega) k3 he] at hdj; cases hdj
    obtain ⟨r', k1, k2, k3, k4⟩ := one_move hone hslots hnt (σ (i + 1)).H (fun v H1 hw hst => by
      refine ⟨H1, ?_, ?_⟩
      · rw [← hst]
        exact stepA_congr hheap (ev_of_looks hslots)
      · unfold oneA at hone
        simp only [hw, hst] at hone
        exact (put_spec hone).1.symm) (fun hw => by
      rw [hheap]
      unfold oneA at hone
      simp only [hw] at hone
      exact (put_spec hone).1.symm)
    refine ⟨r', i + 1, k1, direct', by omega, ?_, k3, k2.trans hI.nt, slots' r' k4⟩
    intro j q hq he
    rw [hD j]
    by_cases e : j = i
    · subst e; simp
    · rw [if_neg e]
      constructor
      · intro hdj
        apply Nat.lt_of_not_le
        intro hle
        rw [hi' j q (by omega) hq he] at hdj; cases hdj
      · intro hlt; exact lo j q (by omega) hq he
  | false =>
    have hval : ∀ v H1, wantedA L o (σ i) = some true → stepA E cf o (σ i) = some (v, H1) → ∃ K', stepA E cf o r = some (v, K') ∧ K' = r.H := by
      intro v H1 hw hst
      rw [stepA_pure heff] at hst ⊢
      -- it gives the same in that memory
      have hmem : ∃ K', opA E o ⟨(σ i).T, r.H, (σ i).nt⟩ = some (v, K') := by
        cases hh : heapy o.op with
        | false => exact ⟨_, opA_noheap heff hh hst r.H⟩
        | true =>
          rw [hI.heap]
          have same : (σ p).H = (σ i).H → ∃ K', opA E o ⟨(σ i).T, (σ p).H, (σ i).nt⟩ = some (v, K') := by
            intro e; rw [e]; exact ⟨_, hst⟩
          by_cases hpi : p ≤ i
          · by_cases hex : ∃ j q, p ≤ j ∧ j < i ∧ L[j]? = some q ∧ eff q.op = true
            · obtain ⟨q, oq, q1, q2, q3, q4, q5⟩ := first_eff hex
              have hpq : (σ q).H = (σ p).H := h.heap q1 (by omega) fun j o' a1 a2 a3 => q5 j o' a1 a2 a3
              have hf := h.free q i oq o b q2 q3 ho hb
              unfold freeA at hf
              rw [Bool.or_eq_true] at hf
              rcases hf with hf | hf
              · have := (hI.effs q oq q3 q4).1 (ahead q hf); omega
              · rw [q4, heff, hh] at hf
                simp only [Bool.not_true, Bool.false_or, Bool.and_eq_true] at hf
                rw [← hpq]
                exact still_spec hf.2.1 hw hst
            · exact same (h.heap hpi (by omega) fun j q k1 k2 k3 => by
                cases he : eff q.op with
                | false => rfl
                | true => exact absurd ⟨j, q, k1, k2, k3, he⟩ hex).symm
          · by_cases hex : ∃ j q, i ≤ j ∧ j < p ∧ L[j]? = some q ∧ eff q.op = true
            · obtain ⟨q, oq, q1, q2, q3, q4, q5⟩ := last_eff hex
              have hne : q ≠ i := by intro e; subst e; rw [ho] at q3; cases q3; rw [heff] at q4; cases q4
              have hpq : (σ p).H = (σ (q + 1)).H := h.heap (by omega) hI.p_le fun j o' a1 a2 a3 => q5 j o' (by omega) a2 a3
              obtain ⟨c, hc⟩ := bitsAt q (by have := hI.p_le; omega)
              have hdq := (hI.effs q oq q3 q4).2 q2
              have hnb := behind q oq c q3 hc hdq
              have hf := h.free i q o oq c (by omega) ho q3 hc
              unfold freeA at hf
              rw [hnb, q4, heff, hh] at hf
              simp only [Bool.not_true, Bool.false_or, Bool.and_eq_true] at hf
              rw [hpq]
              exact still_spec hf.2.2 hw hst
            · exact same (h.heap (by omega) hI.p_le fun j q k1 k2 k3 => by
                cases he : eff q.op with
                | false => rfl
                | true => exact absurd ⟨j, q, k1, k2, k3, he⟩ hex)
      obtain ⟨K', hK⟩ := hmem
      have hc : opA E o r = opA E o ⟨(σ i).T, r.H, (σ i).nt⟩ := opA_congr (s := r) (s' := ⟨(σ i).T, r.H, (σ i).nt⟩) rfl (ev_of_looks (ops := L) hslots)
      rw [hc]
      exact ⟨K', hK, opA_pure (s := ⟨(σ i).T, r.H, (σ i).nt⟩) heff hK⟩
    obtain ⟨r', k1, k2, k3, k4⟩ := one_move hone hslots hnt r.H hval (fun _ => rfl)
    refine ⟨r', p, k1, direct', hI.p_le, ?_, k3.trans hI.heap, k2.trans hI.nt, slots' r' k4⟩
    intro j q hq he
    rw [hD j]
    by_cases e : j = i
    · subst e; rw [ho] at hq; cases hq; rw [heff] at he; cases he
    · rw [if_neg e]; exact hI.effs j q hq he

theorem ready_spec {ops : Array Oper} {listed : Array Bool} {i : Nat} (hn : listed.size = ops.size) (h : i ∈ Region.ready .any ops listed) :
    ∃ o, ops.toList[i]? = some o ∧ listed.getD i false = false ∧ ∀ e ∈ o.after.toList, Region.binds .any e = true → listed.getD e.on false = true := by
  unfold Region.ready at h
  simp only [List.mem_filter, List.mem_range, Bool.and_eq_true, Bool.not_eq_true'] at h
  obtain ⟨h1, h2, h3⟩ := h
  have ho : ops[i]? = some ops[i] := by simp [h1]
  rw [ho] at h3
  simp only [Option.map_some, Option.getD_some] at h3
  refine ⟨ops[i], by simp, ?_, ?_⟩
  · have hl : i < listed.size := by omega
    simp only [Array.getD_eq_getD_getElem?, Array.getElem?_eq_getElem hl, Option.getD_some] at h2 ⊢
    exact h2
  · intro e he hb
    rw [← Array.all_toList] at h3
    have := List.all_eq_true.1 h3 e he
    rw [hb] at this
    simpa using this

theorem ready_of {ops : Array Oper} {listed : Array Bool} {i : Nat} {o : Oper} (hn : listed.size = ops.size) (ho : ops.toList[i]? = some o) (hi : listed.getD i false = false)
    (h : ∀ e ∈ o.after.toList, Region.binds .any e = true → listed.getD e.on false = true) : i ∈ Region.ready .any ops listed := by
  unfold Region.ready
  have hlt : i < ops.size := by have := (List.getElem?_eq_some_iff.1 ho).1; simpa using this
  have ho' : ops[i]? = some o := by simpa using ho
  simp only [List.mem_filter, List.mem_range, Bool.and_eq_true, Bool.not_eq_true']
  refine ⟨hlt, ?_, ?_⟩
  · have hl : i < listed.size := by omega
    simp only [Array.getD_eq_getD_getElem?, Array.getElem?_eq_getElem hl, Option.getD_some] at hi ⊢
    exact hi
  · rw [ho']
    simp only [Option.map_some, Option.getD_some]
    rw [← Array.all_toList, List.all_eq_true]
    intro e he
    cases hb : Region.binds .any e with
    | false => rfl
    | true => simp [h e he hb]

theorem any_sound {rd : Bool} {F : Fence} (hE : EnvOK P E) (hF : FOK rd F) (hcf : CallOK P E cf) {ops : Array Oper} (h : Tr E cf ops.toList σ s0) {Q : Exit → Act → World → Prop} :
    ∀ (fuel : Nat) (listed : Array Bool) (Γ : Ctx) (r : St) (p : Nat) (a : Act) (w : World), listed.size = ops.size → left (fun j => listed.getD j false) ops.size ≤ fuel →
      GOK P E Γ → SR Γ r a w → Inv ops.toList σ s0 (fun j => listed.getD j false) r p → (∀ Γ' a' w', Ext Γ Γ' → SR Γ' (σ ops.size) a' w' → Q .normal a' w') →
      wpAnyIn F 0 P .any ops Q fuel listed a w := by
  -- all is done where nothing is ready
  have done : ∀ (listed : Array Bool) (Γ : Ctx) (r : St) (p : Nat) (a : Act) (w : World), listed.size = ops.size → (∀ j, j < ops.size → listed.getD j false = true) → SR Γ r a w →
      Inv ops.toList σ s0 (fun j => listed.getD j false) r p → SR Γ (σ ops.size) a w := by
    intro listed Γ r p a w hn hall hs hI
    have hlen : ops.toList.length = ops.size := by simp
    have hT : ∀ t, r.T.get t = (σ ops.size).T.get t := by
      intro t
      rw [hI.slots t, h.slot (i := ops.size) (fun j q hj hq _ => hall j hj) (fun j q hj hq _ => by
        have := (List.getElem?_eq_some_iff.1 hq).1; omega) _ (Nat.le_refl _), hlen, Nat.min_self]
    have hH : (σ ops.size).H = r.H := by
      rw [hI.heap]
      refine h.heap (by rw [← hlen]; exact hI.p_le) (by omega) fun j q k1 k2 k3 => ?_
      cases he : eff q.op with
      | false => rfl
      | true => have := (hI.effs j q k3 he).1 (hall j k2); omega
    refine ⟨fun i x hx => hs.t i x (by rw [hT]; exact hx), ?_, hs.d, by rw [hH]; exact hs.w⟩
    rw [h.nt _ (by omega), ← hI.nt]; exact hs.nt
  intro fuel
  induction fuel with
  | zero =>
    intro listed Γ r p a w hn hl hG hs hI hq
    have hall : ∀ j, j < ops.size → listed.getD j false = true := fun j hj => left_zero (D := fun j => listed.getD j false) (Nat.le_zero.1 hl) j hj
    refine ⟨?_, hq Γ a w (.refl _) (done listed Γ r p a w hn hall hs hI)⟩
    rw [List.eq_nil_iff_forall_not_mem]
    intro i hi
    obtain ⟨o, ho, hf, _⟩ := ready_spec hn hi
    have hlt : i < ops.size := by have := (List.getElem?_eq_some_iff.1 ho).1; simpa using this
    rw [hall i hlt] at hf; cases hf
  | succ fuel ih =>
    intro listed Γ r p a w hn hl hG hs hI hq
    refine ⟨fun hnil => ?_, fun i hi => ?_⟩
    · refine hq Γ a w (.refl _) (done listed Γ r p a w hn ?_ hs hI)
      intro j
      induction j using Nat.strongRecOn with
      | _ j ihj =>
        intro hj
        cases hf : listed.getD j false with
        | true => rfl
        | false =>
          exfalso
          have ho : ops.toList[j]? = some ops[j] := by simp [hj]
          have : j ∈ Region.ready .any ops listed := ready_of hn ho hf fun e he hb => ihj e.on (h.back j _ ho e he hb) (by have := h.back j _ ho e he hb; omega)
          rw [hnil] at this; cases this
    · obtain ⟨o, ho, hf, hr⟩ := ready_spec hn hi
      have hlt : i < ops.size := by have := (List.getElem?_eq_some_iff.1 ho).1; simpa using this
      have hD : ∀ j, (listed.setIfInBounds i true).getD j false = if j = i then true else listed.getD j false := by
        intro j
        simp only [Array.getD_eq_getD_getElem?]
        by_cases e : j = i
        · subst e; rw [if_pos rfl, Array.getElem?_setIfInBounds_self_of_lt (by omega)]; rfl
        · rw [if_neg e, Array.getElem?_setIfInBounds_ne (by omega)]
      obtain ⟨r', p', k1, k2⟩ := inv_step h hI ho hf hr (D' := fun j => (listed.setIfInBounds i true).getD j false) hD
      have hleft : left (fun j => (listed.setIfInBounds i true).getD j false) ops.size ≤ fuel := by
        have := left_done (D := fun j => listed.getD j false) (D' := fun j => (listed.setIfInBounds i true).getD j false) hf hD (k := ops.size) hlt
        omega
      have := one_sound (Q := Q) (next := wpAnyIn F 0 P .any ops Q fuel (listed.setIfInBounds i true)) hE hG hF hcf hs k1 fun Γ' a' w' he hs' =>
        ih (listed.setIfInBounds i true) Γ' r' p' a' w' (by simp [hn]) hleft (hG.ext he) hs' k2 fun Γ'' a'' w'' he' hs'' => hq Γ'' a'' w'' (he.trans he') hs''
      unfold wpOpIn
      have ho' : ops[i]? = some o := by simpa using ho
      rw [ho']
      exact this

theorem draw_sound {rd : Bool} (hE : EnvOK P E) (hm : P.follows .mixedOrders = true) (hcf : CallOK P E cf) {id : Nat} {ops : Array Oper} {s s' : St} (h : drawA E cf ops.toList s = some s') :
    ACode P E rd (.region id ops true) s (· = .next s') := by
  unfold drawA at h
  split at h
  · rename_i l e hl
    cases hc : (backL 0 ops.toList && freeFrom E ops.toList 0 (rowsA ops.toList l (befL ops.toList []) e)) with
    | false => rw [hc] at h; cases h
    | true =>
      rw [hc] at h
      simp only [cond_true, Option.some.injEq] at h; subst h
      rw [Bool.and_eq_true] at hc
      obtain ⟨hback, hfree⟩ := hc
      obtain ⟨t1, t2, t3⟩ := trace_spec hl
      have hsig : ∀ {i : Nat} {x : St}, (l ++ [e])[i]? = some x → Sig l e i = x := by
        intro i x hx; unfold Sig; rw [hx]
      have hlen : ops.toList.length = ops.size := by simp
      have hbl : (Bits ops.toList).length = ops.toList.length := (bits_spec _).1
      have hT : Tr E cf ops.toList (Sig l e) s := by
        refine ⟨hsig t2, ?_, ?_, ?_⟩
        · intro i o ho
          obtain ⟨s1, s2, k1, k2, k3⟩ := t3 i o ho
          rw [hsig k1, hsig k2]; exact k3
        · intro i j o p b hij ho hp hb
          obtain ⟨c, hc⟩ : ∃ c, (Bits ops.toList)[i]? = some c := ⟨_, List.getElem?_eq_getElem (by rw [hbl]; exact (List.getElem?_eq_some_iff.1 ho).1)⟩
          have r1 := rows_spec (e := e) t1 hbl i o c ho hc
          have r2 := rows_spec (e := e) t1 hbl j p b hp hb
          have := free_spec hfree i j _ _ hij r1 r2
          simpa using this
        · intro i o ho e' he hb
          have := backL_spec hback i o ho e' he hb
          omega
      have hend : Sig l e ops.size = e := by
        apply hsig
        rw [List.getElem?_append_right (by omega)]
        simp [t1]
      intro F Γ a w hF hG hs
      refine wpIn_region_any hm ?_
      have hs' : SR Γ s a { w with drawn := w.drawn + 1 } := ⟨hs.t, hs.nt, hs.d, hs.w.drew⟩
      have hget : ∀ j, (Array.replicate ops.size false).getD j false = false := by
        intro j
        simp only [Array.getD_eq_getD_getElem?, Array.getElem?_replicate]
        split <;> rfl
      refine any_sound hE hF hcf hT ops.size _ Γ s 0 a _ (by simp) ?_ hG hs' ?_ ?_
      · have : ∀ (D : Nat → Bool) k, left D k ≤ k := by
          intro D k
          induction k with
          | zero => simp [left]
          | succ k ih => simp only [left]; split <;> omega
        exact this _ _
      · rw [show (fun j => (Array.replicate ops.size false).getD j false) = fun _ => false from funext hget]
        refine ⟨?_, Nat.zero_le _, ?_, by rw [hT.zero], rfl, ?_⟩
        · intro i o e' hi; cases hi
        · intro j o _ _; simp
        · intro t
          have : ∀ k, TV ops.toList (Sig l e) s (fun _ => false) k t = s.T.get t := by
            intro k
            induction k with
            | zero => rfl
            | succ k ih => simp only [TV]; rw [if_neg (by simp), ih]
          rw [this]
      · intro Γ' a' w' he hs''
        rw [hend] at hs''
        exact ⟨_, rfl, Γ', he.loose, hs''⟩
  · cases h

/-- the parameters of a round -/
theorem setPs_sound {Γ : Ctx} {nt : Nat} : ∀ {ps : List Nat} {xs : List AVal} {T T' : PT AVal} {vs : List Value} {tmps : Array Value}, setPs nt ps xs T = some T' → F2 (VR Γ) xs vs → TR Γ T tmps → nt ≤ tmps.size →
    TR Γ T' ((ps.zip vs).foldl (fun tmps (t, a) => tmps.setIfInBounds t a) tmps) ∧ nt ≤ ((ps.zip vs).foldl (fun tmps (t, a) => tmps.setIfInBounds t a) tmps).size ∧ vs.length = ps.length
  | [], xs, T, T', vs, tmps, h, hv, ht, hn => by
    cases xs <;> simp only [setPs] at h
    · simp only [Option.some.injEq] at h; subst h
      cases hv
      exact ⟨ht, hn, rfl⟩
    · cases h
  | p :: ps, xs, T, T', vs, tmps, h, hv, ht, hn => by
    cases xs <;> simp only [setPs] at h
    · cases h
    · rename_i x xs
      cases hb : Nat.blt p nt with
      | false => rw [hb] at h; cases h
      | true =>
        rw [hb] at h
        simp only [cond_true] at h
        have hlt : p < nt := by
          have := Nat.le_of_ble_eq_true hb
          omega
        cases hv with
        | cons hv hvs =>
          rename_i v vs
          have ht' : TR Γ (T.set p x) (tmps.setIfInBounds p v) := by
            intro i y hy
            simp only [PT.get_set] at hy
            split at hy
            · subst i
              cases hy
              exact ⟨v, by rw [Array.getElem?_setIfInBounds_self_of_lt (by omega)], hv⟩
            · rename_i hne
              obtain ⟨u, hu, hr⟩ := ht i y hy
              exact ⟨u, by rw [Array.getElem?_setIfInBounds_ne (by omega)]; exact hu, hr⟩
          obtain ⟨k1, k2, k3⟩ := setPs_sound h hvs ht' (by simp; exact hn)
          exact ⟨k1, k2, by simp [k3]⟩

theorem loopOf_some {H : AH} {id : Nat} {l : ALoop} (h : loopOf H id = some l) : H.o.get id = some (.loop l) := by
  unfold loopOf at h
  split at h
  · rename_i l' hl; cases h; exact hl
  · cases h

theorem putObj_one {w : World} {b : Nat} {o : Obj} : OneBlock b w (w.putObj b o) :=
  ⟨rfl, rfl, rfl, by simp [World.putObj], fun k hk => World.putObj_heap_other hk⟩

/-- a record is written -/
theorem WR.loop {Γ : Ctx} {H : AH} {w : World} (h : WR Γ H w) {id : Nat} {l l' : ALoop} {r r' : Loop} (hid : H.o.get id = some (.loop l)) (hr : w.heap[Γ.blk id]? = some (.loop r)) (hl : LR Γ l' r') :
    WR Γ ⟨H.o.set id (.loop l'), H.n⟩ (w.putObj (Γ.blk id) (.loop r')) :=
  h.write hid putObj_one ⟨r', World.putObj_heap_same (Array.getElem?_eq_some_iff.1 hr).1, hl⟩

theorem end_sound {Γ : Ctx} {id : Nat} {s : St} {jump : Option Code} {v : AVal} {H' : AH} {w : World} (h : endA id s jump = some (v, H')) (hw : WR Γ s.H w) :
    ∃ v' w', (Instr.endRound (Γ.blk id) jump).run P w = .ok v' w' ∧ VR Γ v v' ∧ WR Γ H' w' := by
  unfold endA at h
  split at h
  · rename_i l hl
    simp only [Option.some.injEq, Prod.mk.injEq] at h; obtain ⟨rfl, rfl⟩ := h
    have hg := loopOf_some hl
    obtain ⟨r, h1, h2⟩ := hw.obj _ _ hg
    refine ⟨_, _, run_endRound jump h1, .bool _, hw.loop hg h1 ⟨?_, rfl, h2.ps, h2.asg, h2.body, h2.nt, h2.t⟩⟩
    cases jump <;> rfl
  · cases h

theorem yield_sound {ex : Bool → Code → St → Option Out} (hex : ∀ rd c s out, ex rd c s = some out → ACode P E rd c s (· = out)) {id : Nat} {args : List AVal} {H : AH} {v : AVal} {H' : AH}
    (h : yieldA ex id args H = some (v, H')) : AYield P E id args H v H' := by
  intro Γ vs w hG hargs hw
  unfold yieldA at h
  split at h
  · rename_i l hl
    split at h
    · rename_i T hT
      split at h
      · rename_i s1 h1
        split at h
        · rename_i k hk
          split at h
          · rename_i hst
            obtain ⟨r, r1, r2⟩ := hw.obj _ _ (loopOf_some hl)
            obtain ⟨q1, q2, q3⟩ := setPs_sound hT hargs r2.t r2.nt
            have hsz : vs.size = r.params.size := by
              rw [← r2.ps] at q3
              simpa using q3
            refine ⟨_, _, _, _, run_yield r1 hsz, ?_⟩
            have hfold : ((r.params.zip vs).foldl (fun tmps (t, a) => tmps.setIfInBounds t a) r.tmps) = ((l.ps.zip vs.toList).foldl (fun tmps (t, a) => tmps.setIfInBounds t a) r.tmps) := by
              rw [← r2.ps, ← Array.foldl_toList, Array.toList_zip]
            rw [hfold]
            have hG1 : GOK P E Γ.hide := hG.reraw _ _
            have hs0 : SR Γ.hide ⟨T, H, l.nt⟩ { tmps := (l.ps.zip vs.toList).foldl (fun tmps (t, a) => tmps.setIfInBounds t a) r.tmps, defers := [] } w :=
              ⟨fun i x hx => let ⟨u, h1, h2⟩ := q1 i x hx; ⟨u, h1, h2.reraw _ _⟩, q2, rfl, hw.hide⟩
            have hF : FOK true (Fence.wide.inRound (Γ.blk id)) := ⟨_, rfl⟩
            refine roundIn_of_wpIn (F := Fence.wide) trivial (wpIn_mono ((r2.asg ▸ hex _ _ _ _ h1) _ Γ.hide _ w hF hG1 hs0) ?_)
            rintro e a1 w1 ⟨o, rfl, Γ1, he1, hs1⟩
            cases e <;> try exact hs1.elim
            have hlow : id < Γ.top := hw.old _ _ (loopOf_some hl)
            have hblk : Γ1.blk id = Γ.blk id := he1.blk id hlow
            obtain ⟨rk, rk1, rk2⟩ := hs1.w.obj _ _ (loopOf_some hk)
            rw [hblk] at rk1
            refine ⟨_, run_beginRound rk1 (rk2.st.trans hst), ?_⟩
            have hw2 : WR Γ1 ⟨s1.H.o.set id (.loop ⟨k.T, k.nt, k.ps, k.asg, k.body, .busy, k.pend⟩), s1.H.n⟩ (w1.putObj (Γ.blk id) (.loop { rk with state := .busy })) := by
              have := hs1.w.loop (l' := ⟨k.T, k.nt, k.ps, k.asg, k.body, .busy, k.pend⟩) (r' := { rk with state := .busy }) (loopOf_some hk) (hblk ▸ rk1) ⟨rfl, rk2.pend, rk2.ps, rk2.asg, rk2.body, rk2.nt, rk2.t⟩
              rw [hblk] at this; exact this
            have hs2 : SR Γ1 ⟨s1.T, ⟨s1.H.o.set id (.loop ⟨k.T, k.nt, k.ps, k.asg, k.body, .busy, k.pend⟩), s1.H.n⟩, s1.nt⟩ a1 (w1.putObj (Γ.blk id) (.loop { rk with state := .busy })) :=
              ⟨hs1.t, hs1.nt, hs1.d, hw2⟩
            -- what is told at a round's end
            have fin : ∀ {s2 : St} {jump : Option Code} {Γ2 : Ctx} {w2 : World}, endA id s2 jump = some (v, H') → ExtL Γ1 Γ2 → WR Γ2 s2.H w2 →
                ∃ v' w', (Instr.endRound (Γ.blk id) jump).run P w2 = .ok v' w' ∧ (fun e w' => ∃ Γ' v', e = Ending.returned v' ∧ Ext Γ Γ' ∧ VR Γ' v v' ∧ WR Γ' H' w') (Ending.returned v') w' := by
              intro s2 jump Γ2 w2 hend he2 hw2
              have he : ExtL Γ.hide Γ2 := he1.trans he2
              have he3 : Ext Γ.hide { Γ2 with raw := Γ2.raw, marks := [] } := ⟨he.N0, he.w0, he.oad, he.top, he.blk, he.base, he.bsz, he.rho, he.raw, rfl, he.env⟩
              have hblk2 : Γ2.blk id = Γ.blk id := he.blk id hlow
              obtain ⟨v', w', e1, e2, e3⟩ := end_sound (P := P) hend hw2
              rw [hblk2] at e1
              have e3' : WR { Γ2 with raw := Γ2.raw, marks := [] } H' w' :=
                ⟨e3.below, e3.n0, e3.top, e3.rho, e3.raw, e3.rr, .nil, (by intro b hb; cases hb), e3.old, e3.own, fun i x hx => (e3.obj i x hx).reraw _ _, e3.inj⟩
              exact ⟨v', w', e1, _, v', rfl, Ext.unhide hw he3, e2.reraw _ _, WR.unhide hw he3 e3'⟩
            split at h
            · rename_i s2 h2
              refine wpIn_mono ((r2.body ▸ hex _ _ _ _ h2) _ Γ1 a1 _ hF (hG1.extL he1) hs2) ?_
              rintro e a2 w2 ⟨o, rfl, Γ2, he2, hs3⟩
              cases e <;> try exact hs3.elim
              exact fin h he2 hs3.w
            · rename_i s2 h2
              refine wpIn_mono ((r2.body ▸ hex _ _ _ _ h2) _ Γ1 a1 _ hF (hG1.extL he1) hs2) ?_
              rintro e a2 w2 ⟨o, rfl, Γ2, he2, hs3⟩
              cases e <;> try exact hs3.elim
              exact fin h he2 hs3.w
            · rename_i i s2 h2
              refine wpIn_mono ((r2.body ▸ hex _ _ _ _ h2) _ Γ1 a1 _ hF (hG1.extL he1) hs2) ?_
              rintro e a2 w2 ⟨o, rfl, Γ2, he2, hs3⟩
              cases e <;> try exact hs3.elim
              obtain ⟨rfl, hs3⟩ := hs3
              exact fin h he2 hs3.w
            · cases h
          · cases h
        · cases h
      · cases h
    · cases h
  · cases h

/-- a mark is laid -/
theorem WR.mark {Γ : Ctx} {H : AH} {w : World} (h : WR Γ H w) : WR { Γ with raw := Γ.raw, marks := w.heap.size :: Γ.marks } H (w.alloc (.deferred (some []))) := by
  have hraw : Γ.raw w.heap.size = none := by
    cases hr : Γ.raw w.heap.size with
    | none => rfl
    | some v => have := (Array.getElem?_eq_some_iff.1 (h.raw _ _ hr)).1; omega
  have hnot : w.heap.size ∉ Γ.marks := fun hm => by have := (Array.getElem?_eq_some_iff.1 (h.marks _ hm).1).1; omega
  refine ⟨h.below.alloc h.n0 _, by simp; exact Nat.le_succ_of_le h.n0, h.top, ?_, ?_, h.rr, List.nodup_cons.2 ⟨hnot, h.marksd⟩, ?_, h.old, h.own, ?_, h.inj⟩
  · intro b o' v hv
    have := h.rho b o' v hv
    rw [World.cell?_alloc_lt]
    · exact this
    · exact World.block_lt_of_cell? _ _ this
  · intro b ob' hv
    have := h.raw b ob' hv
    exact (Below.heap_alloc _ _ _ (Array.getElem?_eq_some_iff.1 this).1).trans this
  · intro b hb
    rcases List.mem_cons.1 hb with rfl | hb
    · exact ⟨World.alloc_heap_new w _, hraw, h.n0⟩
    · obtain ⟨k1, k2, k3⟩ := h.marks b hb
      exact ⟨(Below.heap_alloc _ _ _ (Array.getElem?_eq_some_iff.1 k1).1).trans k1, k2, k3⟩
  · intro id y hy
    have ho := h.obj id y hy
    exact (ho.same (Below.heap_alloc _ _ _ ho.lt)).reraw _ _

/-- the evaluator says the truth of code, and of calls -/
theorem exec_sound (hE : EnvOK P E) (hm : P.follows .mixedOrders = true) (hov : ∀ f g, E.ov f = some g → ∀ args H v H', g args H = some (v, H') → Entered P f ∧ ACalls P E f args H fun x K => x = v ∧ K = H')
    (hnum : ∀ (f : Nat) fn, P.funcs[f]? = some fn → (fn.name == "runtime.NumGoroutine") = false) : ∀ (k : Nat), (∀ rd c s out, exec E k rd c s = some out → ACode P E rd c s (· = out) ∧
      ∀ c0, c = .loop c0 → ∀ (F : Fence) (Γ : Ctx) (a : Act) (w : World), FOK rd F → GOK P E Γ → SR Γ s a w → LoopWp F P c0 (fun e a' w' => ∃ o, o = out ∧ OutR Γ o e a' w') a w) ∧ CallOK P E (callA E (exec E k)) := by
  -- calls, out of code
  have calls : ∀ (ex : Bool → Code → St → Option Out), (∀ rd c s out, ex rd c s = some out → ACode P E rd c s (· = out)) → CallOK P E (callA E ex) := by
    intro ex hex
    refine ⟨fun f args H v H' h => ?_, fun id args H v H' h => ?_⟩
    · unfold callA at h
      simp only [cond_false] at h
      split at h
      · rename_i g hg; exact hov f g hg args H v H' h
      · split at h
        · rename_i fn hfn
          have hf := hE.fn _ _ hfn
          split at h
          · rename_i c hb
            refine ⟨⟨fn, hf, hnum f fn hf, by rw [hb]; rfl⟩, ?_⟩
            cases hle : Nat.ble args.length fn.ntmps with
            | false => rw [hle] at h; cases h
            | true =>
              rw [hle] at h
              simp only [cond_true] at h
              refine acalls_of_code hE hf hb (Nat.le_of_ble_eq_true hle) ?_
              split at h
              · rename_i s hs
                split at h
                · rename_i v0 hv
                  simp only [Option.some.injEq, Prod.mk.injEq] at h; obtain ⟨rfl, rfl⟩ := h
                  intro F Γ a w hF hG hsr
                  refine wpIn_mono (hex _ _ _ _ hs F Γ a w hF hG hsr) ?_
                  rintro e a' w' ⟨out, rfl, ho⟩
                  exact ⟨_, ⟨s, v0, .inl rfl, hv, rfl, rfl⟩, ho⟩
                · cases h
              · rename_i s hs
                split at h
                · rename_i v0 hv
                  simp only [Option.some.injEq, Prod.mk.injEq] at h; obtain ⟨rfl, rfl⟩ := h
                  intro F Γ a w hF hG hsr
                  refine wpIn_mono (hex _ _ _ _ hs F Γ a w hF hG hsr) ?_
                  rintro e a' w' ⟨out, rfl, ho⟩
                  exact ⟨_, ⟨s, v0, .inr rfl, hv, rfl, rfl⟩, ho⟩
                · cases h
              · cases h
          · cases h
        · cases h
    · unfold callA at h
      simp only [cond_true] at h
      exact yield_sound hex h
  intro k
  induction k with
  | zero =>
    refine ⟨fun rd c s out h => ?_, calls _ fun rd c s out h => ?_⟩
    · cases h
    · cases h
  | succ k ih =>
    obtain ⟨ihc, ihcall⟩ := ih
    have main : ∀ rd c s out, exec E (k + 1) rd c s = some out → ACode P E rd c s (· = out) ∧
        ∀ c0, c = .loop c0 → ∀ (F : Fence) (Γ : Ctx) (a : Act) (w : World), FOK rd F → GOK P E Γ → SR Γ s a w → LoopWp F P c0 (fun e a' w' => ∃ o, o = out ∧ OutR Γ o e a' w') a w := by
      intro rd c s out h
      cases c <;> simp only [exec] at h <;> try (cases h; done)
      case skip =>
        simp only [Option.some.injEq] at h; subst h
        exact ⟨fun F Γ a w hF hG hs => wpIn_skip (n := 0) ⟨_, rfl, Γ, .refl _, hs⟩, fun c0 h => by cases h⟩
      case region id ops draw =>
        refine ⟨?_, fun c0 h => by cases h⟩
        cases draw with
        | true =>
          simp only [cond_true] at h
          split at h
          · rename_i s' hs
            simp only [Option.some.injEq] at h; subst h
            exact draw_sound hE hm ihcall hs
          · cases h
        | false =>
          simp only [cond_false] at h
          split at h
          · rename_i s' hs
            simp only [Option.some.injEq] at h; subst h
            exact region_sound hE ihcall hs
          · cases h
      case seq x y =>
        refine ⟨fun F Γ a w hF hG hs => ?_, fun c0 h => by cases h⟩
        split at h
        · rename_i s1 h1
          refine wpIn_seq (wpIn_mono ((ihc _ _ _ _ h1).1 F Γ a w hF hG hs) ?_)
          rintro e a' w' ⟨o, rfl, Γ', he, ho⟩
          cases e <;> try exact ho.elim
          exact wpIn_mono ((ihc _ _ _ _ h).1 F Γ' a' w' hF (hG.extL he) ho) fun e a w ⟨o, h1, h2⟩ => ⟨o, h1, h2.ext he⟩
        · rename_i hne
          refine wpIn_seq (wpIn_mono ((ihc _ _ _ _ h).1 F Γ a w hF hG hs) ?_)
          rintro e a' w' ⟨o, rfl, Γ', he, ho⟩
          cases e <;> first | exact ⟨_, rfl, Γ', he, ho⟩ | skip
          cases o <;> first | exact ho.elim | exact absurd h (hne _)
      case cond x y z =>
        refine ⟨fun F Γ a w hF hG hs => ?_, fun c0 h => by cases h⟩
        split at h
        · rename_i hc
          exact wpIn_cond_true (ev_sound hs hc).bool_inv ((ihc _ _ _ _ h).1 F Γ a w hF hG hs)
        · rename_i hc
          exact wpIn_cond_false (ev_sound hs hc).bool_inv ((ihc _ _ _ _ h).1 F Γ a w hF hG hs)
        · cases h
      case block id x =>
        refine ⟨fun F Γ a w hF hG hs => wpIn_block ?_, fun c0 h => by cases h⟩
        split at h
        · rename_i i s1 h1
          refine wpIn_mono ((ihc _ _ _ _ h1).1 F Γ a w hF hG hs) ?_
          rintro e a' w' ⟨o, rfl, Γ', he, ho⟩
          cases e <;> try exact ho.elim
          rename_i j
          obtain ⟨hij, ho⟩ := ho
          subst hij
          simp only [Exit.inBlock]
          split at h
          · rename_i hid
            simp only [Option.some.injEq] at h; subst h
            rw [if_pos hid]; exact ⟨_, rfl, Γ', he, ho⟩
          · rename_i hid
            simp only [Option.some.injEq] at h; subst h
            rw [if_neg hid]; exact ⟨_, rfl, Γ', he, rfl, ho⟩
        · rename_i hne
          refine wpIn_mono ((ihc _ _ _ _ h).1 F Γ a w hF hG hs) ?_
          rintro e a' w' ⟨o, rfl, Γ', he, ho⟩
          cases e <;> first
            | exact ⟨_, rfl, Γ', he, ho⟩
            | skip
          cases o <;> first | exact ho.elim | exact absurd h (hne _ _)
      case loop x =>
        have hl : ∀ (F : Fence) (Γ : Ctx) (a : Act) (w : World), FOK rd F → GOK P E Γ → SR Γ s a w → LoopWp F P x (fun e a' w' => ∃ o, o = out ∧ OutR Γ o e a' w') a w := by
          intro F Γ a w hF hG hs
          split at h
          · rename_i s1 h1
            refine loop_round (wpIn_mono ((ihc _ _ _ _ h1).1 F Γ a w hF hG hs) ?_)
            rintro e a' w' ⟨o, rfl, Γ', he, ho⟩
            cases e <;> try exact ho.elim
            intro b kk cs k1 k2 k3
            obtain ⟨e, a2, w2, ⟨o, h2, h3⟩, h4⟩ := (ihc _ _ _ _ h).2 x rfl F Γ' a' w' hF (hG.extL he) ho b kk cs k1 k2 k3
            exact ⟨e, a2, w2, ⟨o, h2, h3.ext he⟩, h4⟩
          · rename_i hne
            refine loop_round (wpIn_mono ((ihc _ _ _ _ h).1 F Γ a w hF hG hs) ?_)
            rintro e a' w' ⟨o, rfl, Γ', he, ho⟩
            cases e <;> first | exact ⟨_, rfl, Γ', he, ho⟩ | skip
            cases o <;> first | exact ho.elim | exact absurd h (hne _)
        exact ⟨fun F Γ a w hF hG hs => loop_of (hl F Γ a w hF hG hs), fun c0 h0 => by cases h0; exact hl⟩
      case exit id =>
        simp only [Option.some.injEq] at h; subst h
        exact ⟨fun F Γ a w hF hG hs => wpIn_exit (n := 0) ⟨_, rfl, Γ, .refl _, rfl, hs⟩, fun c0 h => by cases h⟩
      case ret =>
        simp only [Option.some.injEq] at h; subst h
        exact ⟨fun F Γ a w hF hG hs => wpIn_ret (n := 0) ⟨_, rfl, Γ, .refl _, hs⟩, fun c0 h => by cases h⟩
      case rangeFunc g ps asg body =>
        refine ⟨fun F Γ a w hF hG hs => ?_, fun c0 h => by cases h⟩
        cases rd with
        | true => cases h
        | false =>
          cases hF
          simp only [cond_false] at h
          split at h
          · rename_i f caps hg
            split at h
            · rename_i v0 H1 hcall
              split at h
              · rename_i l hl
                obtain ⟨⟨fn, k1, k2, k3⟩, hca⟩ := ihcall.1 _ _ _ _ _ hcall
                have hfun := ev_sound hs hg
                refine wpIn_rangeFunc fun fnid _ => ?_
                cases hfe : a.eval g <;> rw [hfe] at hfun <;> try (cases hfun; done)
                rename_i fn' first captured
                cases hfun
                rename_i hcl hch
                obtain ⟨rec, hrec⟩ : ∃ rec : Loop, rec = { state := .ready, pending := none, fn := fnid, tmps := a.tmps, params := ps, assign := asg, body := body, defers := w.heap.size } := ⟨_, rfl⟩
                have hw1 := hs.w.mark
                have hsz : (w.alloc (.deferred (some []))).heap.size = w.heap.size + 1 := World.size_alloc _ _
                have htop : s.H.n = Γ.top := hs.w.top
                have hw2 := hw1.alloc (x := .loop ⟨s.T, s.nt, ps.toList, asg, body, .ready, none⟩) (ob := .loop rec) (o := 0) (z := 0)
                  ⟨rec, by rw [Ctx.push_blk]; exact World.alloc_heap_new _ _, by subst hrec; exact ⟨rfl, rfl, rfl, rfl, rfl, hs.nt, fun i x hx => let ⟨u, h1, h2⟩ := hs.t i x hx; ⟨u, h1, (h2.reraw _ _).ext (Ext.push _ _ _ _)⟩⟩⟩
                rw [hsz] at hw2
                obtain ⟨Γ2, hΓ2⟩ : ∃ Γ2, Γ2 = ({ Γ with raw := Γ.raw, marks := w.heap.size :: Γ.marks } : Ctx).push (w.heap.size + 1) 0 0 := ⟨_, rfl⟩
                rw [← hΓ2] at hw2
                have he2 : ExtL Γ Γ2 := by
                  subst hΓ2
                  exact Ext.push { Γ with raw := Γ.raw, marks := w.heap.size :: Γ.marks } (w.heap.size + 1) 0 0
                have hid : s.H.n < Γ2.top := by subst hΓ2; simp [Ctx.push, htop]
                have hblk : Γ2.blk s.H.n = w.heap.size + 1 := by subst hΓ2; rw [htop]; exact Ctx.push_blk _ _ _ _
                have hmarks : Γ2.marks = w.heap.size :: Γ.marks := by subst hΓ2; rfl
                have hargs : F2 (VR Γ2) (.yld s.H.n :: caps) ((#[Value.func (.yield (w.heap.size + 1)) #[] #[]] ++ captured).toList) := by
                  simp only [Array.toList_append]
                  refine .cons (hblk ▸ .yld hid) ?_
                  exact F2.of_get (by simpa using hcl) (fun j x v hx hv => (hch j x v hx (by simpa using hv)).extL he2)
                obtain ⟨W, hW⟩ : ∃ W, W = (w.alloc (.deferred (some []))).alloc (.loop rec) := ⟨_, rfl⟩
                rw [← hW] at hw2
                refine ⟨w.heap.size + 1, [{ target := .collected w.heap.size, args := #[] }], W, { target := .fn (.func f) captured, args := #[Value.func (.yield (w.heap.size + 1)) #[] #[]] }, W, f, #[Value.func (.yield (w.heap.size + 1)) #[] #[]] ++ captured, W, by rw [hW, hrec]; exact run_enterLoop_outer _ _ _ _ _, ?_, fun _ _ => trivial, ?_, (fun h => by cases h), ?_⟩
                · have : resolve a.eval (rangeCall g (w.heap.size + 1)) 0 = pure { target := .fn (.func f) captured, args := #[] ++ #[Operand.const (.func (.yield (w.heap.size + 1)) #[] #[])].map a.eval } := by
                    simp only [resolve, hfe]; rfl
                  rw [this]
                  simp only [Sem.run_pure, Array.map, List.map_toArray, List.map_cons, List.map_nil, Array.empty_append]
                  simp [Act.eval]
                · show (callFunc f (#[Value.func (.yield (w.heap.size + 1)) #[] #[]] ++ captured)).run P _ = _
                  unfold callFunc
                  rw [Sem.run_bind, run_program]
                  simp only [Result.andThen_ok]
                  rw [k1]
                  simp only [k2, k3, Bool.false_eq_true, if_false]
                  rfl
                · refine callsIn_wide.2 ((hca Γ2 _ _ (hG.extL he2) hargs hw2).mono ?_)
                  rintro e w' ⟨Γ', v1, v', H0, rfl, ⟨rfl, rfl⟩, h2, h3, h4⟩
                  have hg' := loopOf_some hl
                  obtain ⟨r, r1, r2⟩ := h4.obj _ _ hg'
                  have hblk' : Γ'.blk s.H.n = w.heap.size + 1 := (h2.blk _ hid).trans hblk
                  have r1' := r1
                  rw [hblk'] at r1'
                  have hnb : r.state ≠ .busy := by
                    rw [r2.st]
                    intro e; rw [e] at h; cases h
                  have hw4 : WR Γ' ⟨H0.o.del s.H.n, H0.n⟩ (w'.putObj (w.heap.size + 1) (.loop { r with state := .exhausted })) := by
                    have := (h4.loop (l' := ⟨l.T, l.nt, l.ps, l.asg, l.body, .exhausted, l.pend⟩) (r' := { r with state := .exhausted }) hg' r1 ⟨rfl, r2.pend, r2.ps, r2.asg, r2.body, r2.nt, r2.t⟩).forget s.H.n
                    rw [hblk'] at this
                    refine this.congr rfl fun i => ?_
                    simp only [PT.get_del, PT.get_set]
                    split <;> simp_all
                  have he3 : ExtL Γ Γ' := he2.trans h2.loose
                  have hs4 : SR Γ' ⟨s.T, ⟨H0.o.del s.H.n, H0.n⟩, s.nt⟩ { a with defers := [{ target := .collected w.heap.size, args := #[] }] ++ a.defers } (w'.putObj (w.heap.size + 1) (.loop { r with state := .exhausted })) := by
                    refine ⟨fun i x hx => let ⟨u, h1, h2⟩ := hs.t i x hx; ⟨u, h1, h2.extL he3⟩, hs.nt, ?_, hw4⟩
                    rw [h2.marks, hmarks]
                    simp [hs.d]
                  have hend := run_endLoop (P := P) r1' hnb
                  obtain ⟨W4, hW4⟩ : ∃ W4, W4 = w'.putObj (w.heap.size + 1) (.loop { r with state := .exhausted }) := ⟨_, rfl⟩
                  rw [← hW4] at hend hs4
                  rw [r2.pend] at hend
                  refine ⟨_, W4, hend, ?_⟩
                  have h' : (match l.pend with
                    | none => some (Out.next ⟨s.T, ⟨H0.o.del s.H.n, H0.n⟩, s.nt⟩)
                    | some c => exec E k false c ⟨s.T, ⟨H0.o.del s.H.n, H0.n⟩, s.nt⟩) = some out := by
                    split at h
                    · cases h
                    · exact h
                  cases hp : l.pend with
                  | none =>
                    rw [hp] at h'
                    simp only [Option.some.injEq] at h'; subst h'
                    exact ⟨_, rfl, Γ', he3, hs4⟩
                  | some c =>
                    rw [hp] at h'
                    exact wpIn_mono ((ihc _ _ _ _ h').1 Fence.wide Γ' _ _ rfl (hG.extL he3) hs4) fun e a w ⟨o, h1, h2⟩ => ⟨o, h1, h2.ext he3⟩
              · cases h
            · cases h
          · cases h
    exact ⟨main, calls _ fun rd c s out h => (main rd c s out h).1⟩

end
end Go.Pend

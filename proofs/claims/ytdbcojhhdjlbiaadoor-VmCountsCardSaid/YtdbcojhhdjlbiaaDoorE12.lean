/- A region whose order is drawn: any order that the edges allow ends as the order of the text does. -/
import Derived.Test.YtdbcojhhdjlbiaaDoorE11
namespace Go.Pend
open Go.RowKit (Below)

section
variable {P : Program} {E : Env}

/-! ## edges -/
theorem edgeBits_spec {acc : List Nat} : ∀ {es : List Edge} {m j : Nat}, (edgeBits acc es m).testBit j = true →
    m.testBit j = true ∨ ∃ e ∈ es, Region.binds .any e = true ∧ (e.on = j ∨ (acc.getD e.on 0).testBit j = true)
  | [], m, j, h => .inl h
  | e :: es, m, j, h => by
    simp only [edgeBits] at h
    rcases edgeBits_spec h with h | ⟨e', h1, h2, h3⟩
    · cases hb : Region.binds .any e with
      | false => rw [hb] at h; exact .inl h
      | true =>
        rw [hb] at h
        simp only [cond_true, Nat.testBit_or, Bool.or_eq_true] at h
        rcases h with (h | h) | h
        · exact .inl h
        · rw [Nat.testBit_two_pow] at h
          exact .inr ⟨e, by simp, hb, .inl (by simpa using h)⟩
        · exact .inr ⟨e, by simp, hb, .inr h⟩
    · exact .inr ⟨e', by simp [h1], h2, h3⟩

theorem befL_spec : ∀ (os : List Oper) (acc : List Nat), ∃ r, befL os acc = acc ++ r ∧ r.length = os.length ∧
    ∀ (k : Nat) o, os[k]? = some o → r[k]? = some (edgeBits (acc ++ r.take k) o.after.toList 0)
  | [], acc => ⟨[], by simp [befL], rfl, by simp⟩
  | o :: os, acc => by
    obtain ⟨r, h1, h2, h3⟩ := befL_spec os (acc ++ [edgeBits acc o.after.toList 0])
    refine ⟨edgeBits acc o.after.toList 0 :: r, by simp [befL, h1], by simp [h2], ?_⟩
    intro k p hp
    cases k with
    | zero => simp at hp; subst hp; simp
    | succ k =>
      have := h3 k p (by simpa using hp)
      simp only [List.getElem?_cons_succ, this, List.take_succ_cons]
      simp

def Bits (ops : List Oper) : List Nat := befL ops []

theorem bits_spec (ops : List Oper) : (Bits ops).length = ops.length ∧ ∀ (k : Nat) o, ops[k]? = some o → ∃ b, (Bits ops)[k]? = some b ∧
    ∀ j, b.testBit j = true → ∃ e ∈ o.after.toList, Region.binds .any e = true ∧ (e.on = j ∨ ∃ b', e.on < k ∧ (Bits ops)[e.on]? = some b' ∧ b'.testBit j = true) := by
  obtain ⟨r, h1, h2, h3⟩ := befL_spec ops []
  simp only [List.nil_append] at h1 h3
  unfold Bits
  rw [h1]
  refine ⟨h2, fun k o ho => ⟨_, h3 k o ho, fun j hj => ?_⟩⟩
  rcases edgeBits_spec hj with h | ⟨e, e1, e2, e3 | e3⟩
  · simp at h
  · exact ⟨e, e1, e2, .inl e3⟩
  · refine ⟨e, e1, e2, .inr ?_⟩
    have hlt : e.on < (r.take k).length := by
      apply Nat.lt_of_not_le
      intro hle
      rw [List.getD_eq_getElem?_getD, List.getElem?_eq_none hle] at e3
      simp at e3
    simp only [List.length_take] at hlt
    refine ⟨r[e.on]'(by omega), by omega, List.getElem?_eq_getElem (by omega), ?_⟩
    rw [List.getD_eq_getElem?_getD, List.getElem?_take_of_lt (by omega), List.getElem?_eq_getElem (by omega)] at e3
    exact e3

/-- what is done bears what had to come ahead -/
def Direct (ops : List Oper) (D : Nat → Bool) : Prop := ∀ i o e, D i = true → ops[i]? = some o → e ∈ o.after.toList → Region.binds .any e = true → D e.on = true

theorem direct_bits {ops : List Oper} {D : Nat → Bool} (hD : Direct ops D) : ∀ (i : Nat) o b j, ops[i]? = some o → (Bits ops)[i]? = some b → D i = true → b.testBit j = true → D j = true := by
  intro i
  induction i using Nat.strongRecOn with
  | _ i ih =>
    intro o b j ho hb hi hj
    obtain ⟨b0, h1, h2⟩ := (bits_spec ops).2 i o ho
    rw [hb] at h1; cases h1
    obtain ⟨e, e1, e2, e3 | ⟨b', k1, k2, k3⟩⟩ := h2 j hj
    · rw [← e3]; exact hD i o e hi ho e1 e2
    · have hlt : e.on < ops.length := by
        have := (List.getElem?_eq_some_iff.1 k2).1
        rw [(bits_spec ops).1] at this; exact this
      exact ih e.on k1 _ b' j (List.getElem?_eq_getElem hlt) k2 (hD i o e hi ho e1 e2) k3

theorem ready_bits {ops : List Oper} {D : Nat → Bool} (hD : Direct ops D) {i : Nat} {o : Oper} {b j : Nat} (ho : ops[i]? = some o) (hb : (Bits ops)[i]? = some b)
    (hr : ∀ e ∈ o.after.toList, Region.binds .any e = true → D e.on = true) (hj : b.testBit j = true) : D j = true := by
  obtain ⟨b0, h1, h2⟩ := (bits_spec ops).2 i o ho
  rw [hb] at h1; cases h1
  obtain ⟨e, e1, e2, e3 | ⟨b', k1, k2, k3⟩⟩ := h2 j hj
  · rw [← e3]; exact hr e e1 e2
  · have hlt : e.on < ops.length := by
      have := (List.getElem?_eq_some_iff.1 k2).1
      rw [(bits_spec ops).1] at this; exact this
    exact direct_bits hD e.on _ b' j (List.getElem?_eq_getElem hlt) k2 (hr e e1 e2) k3

theorem backL_spec : ∀ {os : List Oper} {k : Nat}, backL k os = true → ∀ (i : Nat) o, os[i]? = some o → ∀ e ∈ o.after.toList, Region.binds .any e = true → e.on < k + i
  | [], k, _, i, o, h => by simp at h
  | p :: os, k, h, i, o, ho => by
    simp only [backL, Bool.and_eq_true] at h
    intro e he hb
    cases i with
    | zero =>
      simp at ho; subst ho
      have := List.all_eq_true.1 h.1 e he
      rw [hb] at this
      simpa using this
    | succ i =>
      have := backL_spec h.2 i o (by simpa using ho) e he hb
      omega

/-! ## the trace -/
theorem trace_spec {cf : CallF} {ops : List Oper} : ∀ {rest : List Oper} {s : St} {l : List St} {e : St}, traceA E cf ops rest s = some (l, e) →
    l.length = rest.length ∧ (l ++ [e])[0]? = some s ∧ ∀ (i : Nat) o, rest[i]? = some o → ∃ s1 s2, (l ++ [e])[i]? = some s1 ∧ (l ++ [e])[i + 1]? = some s2 ∧ oneA E cf ops o s1 = some s2
  | [], s, l, e, h => by
    simp only [traceA, Option.some.injEq, Prod.mk.injEq] at h; obtain ⟨rfl, rfl⟩ := h
    exact ⟨rfl, rfl, by simp⟩
  | p :: rest, s, l, e, h => by
    simp only [traceA] at h
    split at h
    · rename_i s' hs
      split at h
      · rename_i l' e' hl
        simp only [Option.some.injEq, Prod.mk.injEq] at h; obtain ⟨rfl, rfl⟩ := h
        obtain ⟨h1, h2, h3⟩ := trace_spec hl
        refine ⟨by simp [h1], rfl, ?_⟩
        intro i o ho
        cases i with
        | zero =>
          simp at ho; subst ho
          exact ⟨s, s', rfl, by simpa using h2, hs⟩
        | succ i =>
          obtain ⟨s1, s2, k1, k2, k3⟩ := h3 i o (by simpa using ho)
          exact ⟨s1, s2, by simpa using k1, by simpa using k2, k3⟩
      · cases h
    · cases h

/-- the states, by numbers -/
def Sig (l : List St) (e : St) (i : Nat) : St := match (l ++ [e])[i]? with | some s => s | none => e

theorem rows_spec {e : St} : ∀ {os : List Oper} {l : List St} {bs : List Nat}, l.length = os.length → bs.length = os.length → ∀ (i : Nat) o b, os[i]? = some o → bs[i]? = some b →
    (rowsA os l bs e)[i]? = some ⟨o, Sig l e i, Sig l e (i + 1), b⟩
  | [], _, _, _, _, i, o, b, ho, _ => by simp at ho
  | p :: os, [], _, h, _, _, _, _, _, _ => by simp at h
  | p :: os, s :: l, [], _, h, _, _, _, _, _ => by simp at h
  | p :: os, [s], c :: bs, h1, h2, i, o, b, ho, hb => by
    simp at h1
    subst h1
    cases i with
    | zero => simp at ho hb; subst ho hb; rfl
    | succ i => simp at ho
  | p :: os, s :: t :: l, c :: bs, h1, h2, i, o, b, ho, hb => by
    cases i with
    | zero => simp at ho hb; subst ho hb; rfl
    | succ i =>
      have := rows_spec (e := e) (os := os) (l := t :: l) (bs := bs) (by simpa using h1) (by simpa using h2) i o b (by simpa using ho) (by simpa using hb)
      simp only [rowsA, List.getElem?_cons_succ, this]
      rfl

theorem free_spec {ops : List Oper} : ∀ {rs : List Row} {k : Nat}, freeFrom E ops k rs = true → ∀ (i j : Nat) r q, i < j → rs[i]? = some r → rs[j]? = some q →
    freeA E ops (k + i) r.o r.s r.s' q.b q.o q.s q.s' = true
  | [], _, _, i, j, r, q, _, h, _ => by simp at h
  | x :: rs, k, h, i, j, r, q, hij, hr, hq => by
    simp only [freeFrom, Bool.and_eq_true] at h
    cases i with
    | zero =>
      simp at hr; subst hr
      obtain ⟨j, rfl⟩ : ∃ m, j = m + 1 := ⟨j - 1, by omega⟩
      simp at hq
      exact List.all_eq_true.1 h.1 q (List.mem_of_getElem? hq)
    | succ i =>
      obtain ⟨j, rfl⟩ : ∃ m, j = m + 1 := ⟨j - 1, by omega⟩
      have := free_spec h.2 i j r q (by omega) (by simpa using hr) (by simpa using hq)
      rw [show k + (i + 1) = k + 1 + i by omega]; exact this

/-! ## one operation in another state -/
theorem tmps_mem : ∀ (l : List Operand) (t : Nat), .tmp t ∈ l → t ∈ tmpsOf l := by
  intro l
  induction l with
  | nil => intro t h; simp at h
  | cons x l ih =>
    intro t h
    rcases List.mem_cons.1 h with h' | h'
    · subst h'; simp [tmpsOf]
    · cases x <;> simp only [tmpsOf] <;> first | exact List.mem_cons_of_mem _ (ih t h') | exact ih t h'

theorem ev_of_looks {ops : List Oper} {o : Oper} {s s' : St} (h : ∀ t ∈ looks ops o, s.T.get t = s'.T.get t) : ∀ x ∈ o.op.operands.toList, s.ev x = s'.ev x := by
  intro x hx
  cases x with
  | tmp t => exact h t (by unfold looks; exact List.mem_append_right _ (tmps_mem _ _ hx))
  | _ => rfl

theorem wanted_of_looks {ops : List Oper} {o : Oper} {s s' : St} (h : ∀ t ∈ looks ops o, s.T.get t = s'.T.get t) : wantedA ops o s = wantedA ops o s' := by
  unfold wantedA
  cases hg : o.guard with
  | none => rfl
  | some g =>
    obtain ⟨j, want⟩ := g
    simp only
    cases hp : ops[j]? with
    | none => rfl
    | some p =>
      simp only
      cases hd : p.dst with
      | none => rfl
      | some d =>
        have := h d (by unfold looks; rw [hg]; simp only [hp, hd]; simp)
        simp only [this]

theorem stepA_pure {cf : CallF} {o : Oper} (he : eff o.op = false) (s : St) : stepA E cf o s = opA E o s := by
  unfold stepA
  split
  · rename_i c hc
    split
    · rename_i f hf
      obtain ⟨cl, args, ats⟩ := c
      simp only at hf; subst hf
      rw [hc] at he; cases he
    · rfl
  · rfl

theorem put_spec {s s' : St} {d : Option Nat} {v : AVal} {H : AH} (h : s.put d v H = some s') :
    s'.H = H ∧ s'.nt = s.nt ∧ (∀ t, s'.T.get t = if d = some t then some v else s.T.get t) := by
  unfold St.put at h
  split at h
  · rename_i d
    cases hb : Nat.blt d s.nt with
    | false => rw [hb] at h; cases h
    | true =>
      rw [hb] at h
      simp only [cond_true, Option.some.injEq] at h; subst h
      refine ⟨rfl, rfl, fun t => ?_⟩
      simp only [PT.get_set, Option.some.injEq]
      by_cases ht : t = d
      · subst ht; simp
      · rw [if_neg ht, if_neg (fun e => ht e.symm)]
  · simp only [Option.some.injEq] at h; subst h
    exact ⟨rfl, rfl, fun t => by simp⟩

/-- the same operation where its slots read the same and it gives the same value -/
theorem one_move {cf : CallF} {ops : List Oper} {o : Oper} {s1 s2 r1 : St} (h : oneA E cf ops o s1 = some s2) (hl : ∀ t ∈ looks ops o, r1.T.get t = s1.T.get t) (hn : r1.nt = s1.nt)
    (K : AH) (hs : ∀ v H1, wantedA ops o s1 = some true → stepA E cf o s1 = some (v, H1) → ∃ K', stepA E cf o r1 = some (v, K') ∧ K' = K) (hk : wantedA ops o s1 = some false → r1.H = K) :
    ∃ r2, oneA E cf ops o r1 = some r2 ∧ r2.nt = r1.nt ∧ r2.H = K ∧ ∀ t, r2.T.get t = if o.dst = some t then s2.T.get t else r1.T.get t := by
  have hw := wanted_of_looks (ops := ops) (o := o) hl
  have fin : ∀ v H1, s1.put o.dst v H1 = some s2 → ∃ r2, r1.put o.dst v K = some r2 ∧ r2.nt = r1.nt ∧ r2.H = K ∧ ∀ t, r2.T.get t = if o.dst = some t then s2.T.get t else r1.T.get t := by
    intro v H1 hp
    obtain ⟨p1, p2, p3⟩ := put_spec hp
    have : ∃ r2, r1.put o.dst v K = some r2 := by
      unfold St.put at hp ⊢
      split
      · rename_i d hd
        rw [hd] at hp
        simp only at hp
        rw [hn]
        cases hb : Nat.blt d s1.nt with
        | false => rw [hb] at hp; cases hp
        | true => exact ⟨_, rfl⟩
      · exact ⟨_, rfl⟩
    obtain ⟨r2, hr⟩ := this
    obtain ⟨q1, q2, q3⟩ := put_spec hr
    refine ⟨r2, hr, q2, q1, fun t => ?_⟩
    rw [q3 t, p3 t]
    split <;> rfl
  unfold oneA at h ⊢
  rw [hw]
  split at h
  · rename_i hwt
    split at h
    · rename_i v H1 hst
      obtain ⟨K', k1, k2⟩ := hs v H1 hwt hst
      subst k2
      obtain ⟨r2, f1, f2⟩ := fin v H1 h
      refine ⟨r2, ?_, f2⟩
      simp only [hwt, k1]; exact f1
    · cases h
  · rename_i hwt
    have hK := hk hwt
    obtain ⟨r2, f1, f2⟩ := fin _ _ h
    refine ⟨r2, ?_, f2⟩
    simp only [hwt, hK]; exact f1
  · cases h

theorem one_T {cf : CallF} {ops : List Oper} {o : Oper} {s1 s2 : St} (h : oneA E cf ops o s1 = some s2) : s2.nt = s1.nt ∧ ∀ t, o.dst ≠ some t → s2.T.get t = s1.T.get t := by
  have key : ∀ v H1, s1.put o.dst v H1 = some s2 → s2.nt = s1.nt ∧ ∀ t, o.dst ≠ some t → s2.T.get t = s1.T.get t := by
    intro v H1 hp
    obtain ⟨p1, p2, p3⟩ := put_spec hp
    exact ⟨p2, fun t ht => by rw [p3 t, if_neg ht]⟩
  unfold oneA at h
  split at h
  · split at h
    · exact key _ _ h
    · cases h
  · exact key _ _ h
  · cases h

theorem one_H {cf : CallF} {ops : List Oper} {o : Oper} {s1 s2 : St} (he : eff o.op = false) (h : oneA E cf ops o s1 = some s2) : s2.H = s1.H := by
  unfold oneA at h
  split at h
  · split at h
    · rename_i v H1 hst
      rw [stepA_pure he] at hst
      rw [(put_spec h).1, opA_pure he hst]
    · cases h
  · exact (put_spec h).1
  · cases h

mutual
theorem same_eq : ∀ {a b : AVal}, AVal.same a b = true → a = b := by
  intro a b h
  cases a <;> cases b <;> simp only [AVal.same, Bool.false_eq_true, Bool.and_eq_true] at h
  all_goals first
    | rfl
    | (rw [Nat.eq_of_beq_eq_true h]; done)
    | (rw [Nat.eq_of_beq_eq_true h.1, Nat.eq_of_beq_eq_true h.2]; done)
    | (rw [LawfulBEq.eq_of_beq h]; done)
    | (rw [sames_eq h]; done)
    | (rw [lin_same h]; done)
    | (rw [Nat.eq_of_beq_eq_true h.1, sames_eq h.2]; done)
    | (rw [Nat.eq_of_beq_eq_true h.1, same_eq h.2]; done)
    | (rw [LawfulBEq.eq_of_beq h.1, samess_eq h.2]; done)
    | (obtain ⟨h1, h2⟩ := h; simp only [decide_eq_true_eq] at h1; rw [h1, LawfulBEq.eq_of_beq h2]; done)
    | (obtain ⟨⟨⟨h1, h2⟩, h3⟩, h4⟩ := h; rw [Nat.eq_of_beq_eq_true h1, Nat.eq_of_beq_eq_true h2, Nat.eq_of_beq_eq_true h3, Nat.eq_of_beq_eq_true h4]; done)
    | (rename_i s t
       have h2 : s.data.toList = t.data.toList := LawfulBEq.eq_of_beq h
       have : s = t := by apply ByteArray.ext; exact Array.ext' h2
       rw [this])
theorem sames_eq : ∀ {a b : List AVal}, AVal.sames a b = true → a = b := by
  intro a b h
  match a, b, h with
  | [], [], _ => rfl
  | x :: a, y :: b, h =>
    simp only [AVal.sames, Bool.and_eq_true] at h
    rw [same_eq h.1, sames_eq h.2]
theorem samess_eq : ∀ {a b : List (List AVal)}, AVal.samess a b = true → a = b := by
  intro a b h
  match a, b, h with
  | [], [], _ => rfl
  | x :: a, y :: b, h =>
    simp only [AVal.samess, Bool.and_eq_true] at h
    rw [sames_eq h.1, samess_eq h.2]
end

end
end Go.Pend

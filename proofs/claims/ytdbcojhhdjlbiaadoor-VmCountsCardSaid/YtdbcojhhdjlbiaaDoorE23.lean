/- An operator of two numbers, that looks at them by cases. -/
import Derived.Test.YtdbcojhhdjlbiaaDoorE22
namespace Go.Pend
open Go.RowKit (Below)

def numA : AVal → Option Lin
  | .sym l => some l
  | .int k n => bif isI64 k && IntKind.i64.wrap n == n then some ⟨n, []⟩ else none
  | _ => none

theorem numA_spec {Γ : Ctx} {x : AVal} {a : Lin} {v : Value} (h : numA x = some a) (hx : VR Γ x v) : v = .int .i64 (wr (a.eval Γ.env.v)) := by
  cases x <;> simp only [numA] at h <;> try (cases h; done)
  · rename_i k n
    cases hc : (isI64 k && IntKind.i64.wrap n == n) with
    | false => rw [hc] at h; cases h
    | true =>
      rw [hc] at h
      simp only [cond_true, Option.some.injEq] at h; subst h
      rw [Bool.and_eq_true] at hc
      have := isI64_eq hc.1; subst this
      cases hx
      rw [eval_const _ rfl, show wr (⟨n, []⟩ : Lin).c = n from eq_of_beq hc.2]
  · simp only [Option.some.injEq] at h; subst h
    cases hx; rfl

def z0 : Lin := ⟨0, []⟩
def zMin : Lin := ⟨-9223372036854775808, []⟩
def zNeg : Lin := ⟨-1, []⟩

/-- the cases: the divisor is nothing; the quotient is too great; the rest -/
def cases2 : List (List Fact) :=
  [[.eql (.var 1) z0 true, .mul (.var 0) (.var 1) (.var 4)],
   [.eql (.var 1) z0 false, .eql (.var 0) zMin true, .eql (.var 1) zNeg true, .mul (.var 0) (.var 1) (.var 4)],
   [.eql (.var 1) z0 false, .eql (.var 0) zMin true, .eql (.var 1) zNeg false, .div true (.var 0) (.var 1) (.var 2), .div false (.var 0) (.var 1) (.var 3), .mul (.var 0) (.var 1) (.var 4)],
   [.eql (.var 1) z0 false, .eql (.var 0) zMin false, .div true (.var 0) (.var 1) (.var 2), .div false (.var 0) (.var 1) (.var 3), .mul (.var 0) (.var 1) (.var 4)]]

def vals2 (A B : Int) : Nat → Int
  | 0 => A
  | 1 => B
  | 2 => wr (A.tdiv B)
  | 3 => A.tmod B
  | _ => A * B

theorem eval_var (v : Nat → Int) (n : Nat) : (Lin.var n).eval v = v n := by simp [Lin.var, Lin.eval, evalT]

theorem wr_tmod (A B : Int) (hA : wr A = A) (hB : wr B = B) (h : B ≠ 0) : wr (A.tmod B) = A.tmod B := by
  have range : ∀ n : Int, wr n = n → -9223372036854775808 ≤ n ∧ n < 9223372036854775808 := by
    intro n hn
    rw [wr_def] at hn
    have h1 := Int.emod_nonneg n (show (18446744073709551616 : Int) ≠ 0 by omega)
    have h2 := Int.emod_lt_of_pos n (show (0 : Int) < 18446744073709551616 by omega)
    split at hn <;> omega
  have back : ∀ n : Int, -9223372036854775808 ≤ n → n < 9223372036854775808 → wr n = n := by
    intro n h1 h2
    rw [wr_def]
    rcases (by omega : n < 0 ∨ 0 ≤ n) with hn | hn
    · have : n % 18446744073709551616 = n + 18446744073709551616 := by omega
      rw [this]; split <;> omega
    · have : n % 18446744073709551616 = n := by omega
      rw [this]; split <;> omega
  obtain ⟨a1, a2⟩ := range A hA
  apply back
  · have h1 : (A.tmod B).natAbs ≤ A.natAbs := by rw [Int.natAbs_tmod]; exact Nat.mod_le _ _
    rcases (by omega : A.tmod B < 0 ∨ 0 ≤ A.tmod B) with hn | hn
    · have hneg : A < 0 := by
        rcases (by omega : A < 0 ∨ 0 ≤ A) with h | h
        · exact h
        · have := Int.tmod_nonneg B h; omega
      omega
    · omega
  · have h1 : (A.tmod B).natAbs ≤ A.natAbs := by rw [Int.natAbs_tmod]; exact Nat.mod_le _ _
    rcases (by omega : A.tmod B < 0 ∨ 0 ≤ A.tmod B) with hn | hn
    · omega
    · rcases (by omega : A < 0 ∨ 0 ≤ A) with h | h
      · have : A.tmod B ≤ 0 := by
          have := Int.tmod_nonneg B (show 0 ≤ -A by omega)
          rw [Int.neg_tmod] at this; omega
        omega
      · omega

theorem known2 (A B : Int) (hA : wr A = A) (hB : wr B = B) (rows : Nat → List (List AVal)) : ∃ F ∈ cases2, Known ⟨vals2 A B, rows⟩ F := by
  have m : (Fact.mul (.var 0) (.var 1) (.var 4)).holds ⟨vals2 A B, rows⟩ := by
    simp only [Fact.holds, eval_var, vals2, hA, hB]
  have c0 : ∀ v, wr (z0.eval v) = 0 := by intro v; rw [eval_const _ rfl]; exact wr_zero
  have cm : ∀ v, wr (zMin.eval v) = -9223372036854775808 := by intro v; rw [eval_const _ rfl]; rfl
  have cn : ∀ v, wr (zNeg.eval v) = -1 := by intro v; rw [eval_const _ rfl]; rfl
  by_cases hb : B = 0
  · refine ⟨_, by simp only [cases2]; exact List.mem_cons_self, ?_⟩
    intro f hf
    simp only [List.mem_cons, List.not_mem_nil, or_false] at hf
    rcases hf with rfl | rfl
    · simp only [Fact.holds, eval_var, c0, vals2, hB]; simp [hb]
    · exact m
  · have d1 : (Fact.div true (.var 0) (.var 1) (.var 2)).holds ⟨vals2 A B, rows⟩ := by
      simp only [Fact.holds, eval_var, vals2, hA, hB, if_true]
      exact ⟨hb, (wr_wr _).symm⟩
    have d2 : (Fact.div false (.var 0) (.var 1) (.var 3)).holds ⟨vals2 A B, rows⟩ := by
      simp only [Fact.holds, eval_var, vals2, hA, hB, Bool.false_eq_true, if_false]
      exact ⟨hb, (wr_tmod A B hA hB hb).symm⟩
    have e0 : (Fact.eql (.var 1) z0 false).holds ⟨vals2 A B, rows⟩ := by
      simp only [Fact.holds, eval_var, c0, vals2, hB]; simp [hb]
    by_cases ha : A = -9223372036854775808
    · have e1 : (Fact.eql (.var 0) zMin true).holds ⟨vals2 A B, rows⟩ := by
        simp only [Fact.holds, eval_var, cm, vals2, hA]; simp [ha]
      by_cases hn : B = -1
      · refine ⟨_, by simp only [cases2]; exact List.mem_cons_of_mem _ List.mem_cons_self, ?_⟩
        intro f hf
        simp only [List.mem_cons, List.not_mem_nil, or_false] at hf
        rcases hf with rfl | rfl | rfl | rfl
        · exact e0
        · exact e1
        · simp only [Fact.holds, eval_var, cn, vals2, hB]; simp [hn]
        · exact m
      · refine ⟨_, by simp only [cases2]; exact List.mem_cons_of_mem _ (List.mem_cons_of_mem _ List.mem_cons_self), ?_⟩
        intro f hf
        simp only [List.mem_cons, List.not_mem_nil, or_false] at hf
        rcases hf with rfl | rfl | rfl | rfl | rfl | rfl
        · exact e0
        · exact e1
        · simp only [Fact.holds, eval_var, cn, vals2, hB]; simp [hn]
        · exact d1
        · exact d2
        · exact m
    · refine ⟨_, by simp only [cases2]; exact List.mem_cons_of_mem _ (List.mem_cons_of_mem _ (List.mem_cons_of_mem _ List.mem_cons_self)), ?_⟩
      intro f hf
      simp only [List.mem_cons, List.not_mem_nil, or_false] at hf
      rcases hf with rfl | rfl | rfl | rfl | rfl
      · exact e0
      · simp only [Fact.holds, eval_var, cm, vals2, hA]; simp [ha]
      · exact d1
      · exact d2
      · exact m

section
variable {P : Program}

theorem two_core {EE : SEnv → List Fact → Env} (hf : Fam EE) (hP : ∀ e F, ProgOK P (EE e F)) {K f : Nat} {op : Int} {r : Lin}
    (hb : ∀ e n F, F ∈ cases2 → callA (EE e F) (exec (EE e F) K) false f [.int .i64 op, .sym (.var 0), .sym (.var 1)] ⟨.leaf, n⟩ = some (.tup [.sym r, .bool true], ⟨.leaf, n⟩))
    {e0 : SEnv} {F0 : List Fact} {x y : AVal} {a b t : Lin} (hx : numA x = some a) (hy : numA y = some b)
    (ht : ∀ v : Nat → Int, v 0 = wr (a.eval e0.v) → v 1 = wr (b.eval e0.v) → v 4 = v 0 * v 1 → wr (r.eval v) = wr (t.eval e0.v)) (H : AH) :
    ACalls P (EE e0 F0) f [.int .i64 op, x, y] H fun v K => v = .tup [mkSym t, .bool true] ∧ K = H := by
  intro Γ vs w hG hargs hw
  have he : Γ.env = e0 := hG.env.trans (hf.env e0 F0)
  obtain ⟨A, hA⟩ : ∃ A, A = wr (a.eval e0.v) := ⟨_, rfl⟩
  obtain ⟨B, hB⟩ : ∃ B, B = wr (b.eval e0.v) := ⟨_, rfl⟩
  obtain ⟨v1, v2, v3, hvs, q1, q2, q3⟩ := hargs.three
  have q2' := numA_spec hx q2
  have q3' := numA_spec hy q3
  rw [he, ← hA] at q2'
  rw [he, ← hB] at q3'
  subst q2' q3'
  obtain ⟨F, hF, hK⟩ := known2 A B (by rw [hA]; exact wr_wr _) (by rw [hB]; exact wr_wr _) e0.rows
  obtain ⟨e', he'⟩ : ∃ e' : SEnv, e' = ⟨vals2 A B, e0.rows⟩ := ⟨_, rfl⟩
  rw [← he'] at hK
  have hw1 := hw.hold e'
  have hx1 : ExtK 0 (Γ.re e') (Γ.hold H w e') := by
    refine ⟨rfl, rfl, rfl, Nat.zero_le _, fun _ _ => rfl, fun _ _ => rfl, fun _ _ => rfl, fun _ _ _ h => h, fun b ob hb => ?_, rfl⟩
    simp only [Ctx.hold]
    rw [if_neg]
    · exact hb
    · rintro ⟨id, x, hid, rfl⟩
      have := (hw.own id x hid).2.2
      rw [show Γ.raw (Γ.blk id) = some ob from hb] at this; cases this
  have hG1 : GOK P (EE e' F) (Γ.hold H w e') := hG.re hf hK hx1 rfl
  have hargs1 : F2 (VR (Γ.hold H w e')) [.int .i64 op, .sym (.var 0), .sym (.var 1)] vs.toList := by
    rw [hvs]
    have s0 := VR.sym (Γ := Γ.hold H w e') (.var 0)
    have s1 := VR.sym (Γ := Γ.hold H w e') (.var 1)
    have ev : (Γ.hold H w e').env = e' := rfl
    rw [ev, eval_var, show e'.v 0 = A by rw [he']; rfl, show IntKind.i64.wrap A = A by rw [hA]; exact wr_wr _] at s0
    rw [ev, eval_var, show e'.v 1 = B by rw [he']; rfl, show IntKind.i64.wrap B = B by rw [hB]; exact wr_wr _] at s1
    refine .cons ?_ (.cons s0 (.cons s1 .nil))
    cases q1; exact .int _ _
  refine (((hP e' F).call (hb e' H.n F hF)).2 _ vs w hG1 hargs1 hw1).mono ?_
  rintro ex w' ⟨Γ', v0, v', H', rfl, ⟨rfl, rfl⟩, k2, k3, k4⟩
  obtain ⟨x1, x2⟩ := Ext.unhold hw k2 k4
  refine ⟨_, _, v', H, rfl, ⟨rfl, rfl⟩, x1, ?_, x2⟩
  cases k3
  rename_i us hl hh
  refine .tup (by simpa using hl) fun j y u hy hu => ?_
  match j with
  | 0 =>
    simp at hy; subst hy
    have h0 := hh 0 _ u rfl hu
    cases h0
    have henv : Γ'.env = e' := k2.env
    have hv := ht e'.v (by rw [he', hA]; rfl) (by rw [he', hB]; rfl) (by rw [he']; rfl)
    have := VR.mkSym (Γ := { Γ' with raw := Γ.raw, env := Γ.env }) t
    rw [henv]
    rw [show ({ Γ' with raw := Γ.raw, env := Γ.env } : Ctx).env = Γ.env from rfl, he, ← hv] at this
    rw [he]; exact this
  | 1 =>
    simp at hy; subst hy
    have h1 := hh 1 _ u rfl hu
    cases h1; exact .bool _
  | j + 2 => simp at hy

/-- an operator of two numbers; 'd': of numbers that are known -/
def ovTwo (d : List AVal → AH → Option (AVal × AH)) (add sub mul : Int) (args : List AVal) (H : AH) : Option (AVal × AH) :=
  match args with
  | [.int k op, x, y] => match numA x, numA y with
    | some a, some b => bif isI64 k && !(sameT a.ts [] && sameT b.ts []) then
        (bif op == add then some (.tup [mkSym (a.add b), .bool true], H)
        else bif op == sub then some (.tup [mkSym (a.sub b), .bool true], H)
        else bif op == mul then (match b.ts, a.ts with
          | [], _ => some (.tup [mkSym (a.scale b.c), .bool true], H)
          | _, [] => some (.tup [mkSym (b.scale a.c), .bool true], H)
          | _, _ => none)
        else none)
      else d args H
    | _, _ => d args H
  | _ => d args H

theorem ovTwo_sound {EE : SEnv → List Fact → Env} (hf : Fam EE) (hP : ∀ e F, ProgOK P (EE e F)) {K f : Nat} {add sub mul : Int}
    (hadd : ∀ e n F, F ∈ cases2 → callA (EE e F) (exec (EE e F) K) false f [.int .i64 add, .sym (.var 0), .sym (.var 1)] ⟨.leaf, n⟩ = some (.tup [.sym ((Lin.var 0).add (.var 1)), .bool true], ⟨.leaf, n⟩))
    (hsub : ∀ e n F, F ∈ cases2 → callA (EE e F) (exec (EE e F) K) false f [.int .i64 sub, .sym (.var 0), .sym (.var 1)] ⟨.leaf, n⟩ = some (.tup [.sym ((Lin.var 0).sub (.var 1)), .bool true], ⟨.leaf, n⟩))
    (hmul : ∀ e n F, F ∈ cases2 → callA (EE e F) (exec (EE e F) K) false f [.int .i64 mul, .sym (.var 0), .sym (.var 1)] ⟨.leaf, n⟩ = some (.tup [.sym (.var 4), .bool true], ⟨.leaf, n⟩))
    (hent : Entered P f) {e0 : SEnv} {F0 : List Fact} {d : List AVal → AH → Option (AVal × AH)} (hd : ∀ args H v H', d args H = some (v, H') → Entered P f ∧ ACalls P (EE e0 F0) f args H fun x K => x = v ∧ K = H')
    {args : List AVal} {H : AH} {v : AVal} {H' : AH} (h : ovTwo d add sub mul args H = some (v, H')) : Entered P f ∧ ACalls P (EE e0 F0) f args H fun x K => x = v ∧ K = H' := by
  unfold ovTwo at h
  split at h
  · rename_i k op x y
    split at h
    · rename_i a b ha hb
      cases hc : (isI64 k && !(sameT a.ts [] && sameT b.ts [])) with
      | false => rw [hc] at h; exact hd _ _ _ _ h
      | true =>
        rw [hc] at h
        simp only [cond_true] at h
        rw [Bool.and_eq_true] at hc
        have := isI64_eq hc.1; subst this
        refine ⟨hent, ?_⟩
        cases h1 : (op == add) with
        | true =>
          rw [h1] at h
          simp only [cond_true, Option.some.injEq, Prod.mk.injEq] at h; obtain ⟨rfl, rfl⟩ := h
          have := LawfulBEq.eq_of_beq h1; subst this
          exact two_core hf hP hadd ha hb (fun v q0 q1 q4 => by rw [eval_add, eval_var, eval_var, q0, q1, eval_add]; exact wr_add _ _) H
        | false =>
          rw [h1] at h
          simp only [cond_false] at h
          cases h2 : (op == sub) with
          | true =>
            rw [h2] at h
            simp only [cond_true, Option.some.injEq, Prod.mk.injEq] at h; obtain ⟨rfl, rfl⟩ := h
            have := LawfulBEq.eq_of_beq h2; subst this
            exact two_core hf hP hsub ha hb (fun v q0 q1 q4 => by rw [eval_sub, eval_var, eval_var, q0, q1, eval_sub]; exact wr_sub _ _) H
          | false =>
            rw [h2] at h
            simp only [cond_false] at h
            cases h3 : (op == mul) with
            | true =>
              rw [h3] at h
              have := LawfulBEq.eq_of_beq h3; subst this
              simp only [cond_true] at h
              split at h
              · rename_i hbt
                simp only [Option.some.injEq, Prod.mk.injEq] at h; obtain ⟨rfl, rfl⟩ := h
                exact two_core hf hP hmul ha hb (fun v q0 q1 q4 => by rw [eval_var, q4, q0, q1, eval_scale, ← eval_const (a := b) e0.v hbt, Int.mul_comm (Lin.eval e0.v b)]; exact wr_mul _ _) H
              · rename_i hat _
                simp only [Option.some.injEq, Prod.mk.injEq] at h; obtain ⟨rfl, rfl⟩ := h
                exact two_core hf hP hmul ha hb (fun v q0 q1 q4 => by rw [eval_var, q4, q0, q1, eval_scale, ← eval_const (a := a) e0.v hat]; exact wr_mul _ _) H
              · cases h
            | false => rw [h3] at h; cases h
    · exact hd _ _ _ _ h
  · exact hd _ _ _ _ h

end
end Go.Pend

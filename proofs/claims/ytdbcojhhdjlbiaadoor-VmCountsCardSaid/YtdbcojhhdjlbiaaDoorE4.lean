/- Comparisons, sums, parts, texts: each gives what the model's gives. -/
import Derived.Test.YtdbcojhhdjlbiaaDoorE3
namespace Go.Pend
open Go.RowKit (Below)

section
variable {P : Program} {E : Env} {Γ : Ctx} {H : AH} {w : World}

/-- a pure answer -/
def Gives (P : Program) (Γ : Ctx) (w : World) (s : Sem Value) (x : AVal) : Prop := ∃ v, s.run P w = .ok v w ∧ VR Γ x v

theorem binInt_sound {op : BinOp} {t : Nat} {k : IntKind} {a b : Int} {v : AVal} (hs : isShift op = false) (h : binInt op k a b = some v) :
    Gives P Γ w (Go.binOp op t (.int k a) (.int k b)) v := by
  cases op <;> simp only [isShift, Bool.true_eq_false] at hs <;> simp only [binInt] at h
  all_goals try (split at h <;> try (cases h; done))
  all_goals try (cases h; done)
  all_goals
    simp only [Option.some.injEq] at h; subst h
    first
      | (refine ⟨_, ?_, .int _ _⟩; simp [Go.binOp, Op.intArith, Op.intDiv, Op.intBits, *]; done)
      | (refine ⟨_, ?_, .bool _⟩; simp [Go.binOp, Op.intCmp]; done)

theorem shift_sound {op : BinOp} {t : Nat} {k k' : IntKind} {a b : Int} {v : AVal} (hs : isShift op = true) (h : shiftA op k a b = some v) :
    Gives P Γ w (Go.binOp op t (.int k a) (.int k' b)) v := by
  unfold shiftA at h
  split at h
  · cases h
  · rename_i hb
    cases op <;> simp only [isShift, Bool.false_eq_true] at hs <;> simp only [Option.some.injEq] at h <;> subst h
    all_goals (refine ⟨_, ?_, .int _ _⟩; simp [Go.binOp, Op.shift, hb])

theorem binStr_sound {op : BinOp} {t : Nat} {a b : ByteArray} {v : AVal} (h : binStr op a b = some v) : Gives P Γ w (Go.binOp op t (.string a) (.string b)) v := by
  cases op <;> simp only [binStr] at h
  all_goals try (cases h; done)
  case add =>
    split at h
    · rename_i hl
      simp only [Option.some.injEq] at h; subst h
      refine ⟨.string (a ++ b), ?_, .str _⟩
      have hl' : ¬ (((a.size + b.size : Nat) : Int) > IntKind.i64.max) := by
        rw [size_list, size_list]
        simp only [maxLenA] at hl
        simp only [IntKind.max, IntKind.signed, IntKind.bits]
        omega
      simp only [Go.binOp, Op.stringOp, if_neg hl', Sem.run_pure]
    · cases h
  all_goals
    simp only [Option.some.injEq] at h; subst h
    exact ⟨_, by simp only [Go.binOp, Op.stringOp, ByteArray.toList_eq, Sem.run_pure], .bool _⟩

theorem maxDepth_succ : ∃ n, Op.maxDepth = n + 1 + 1 := ⟨9998, rfl⟩

theorem eq_sound (hE : EnvOK P E) (hG : GOK P E Γ) (hw : WR Γ H w) {t : Nat} {lit : Bool} {x y : AVal} {x' y' : Value} {b : Bool} (hx : VR Γ x x') (hy : VR Γ y y')
    (h : eqA E t lit x y = some b) :
    (Op.equal t x' y').run P w = .ok b w ∧ ((x' = .nilIface ∧ y' = .nilIface) → lit = true ∨ ∃ ms, P.underlying t = some (.interface ms) ∧ ms.isEmpty = true) ∧
      (∀ u v, ¬ (x' = .agg u ∧ y' = .agg v)) := by
  unfold eqA at h
  split at h
  · cases h
  · rename_i ti hti
    obtain ⟨inf, d, z, h1, h2, h3, h4, h5, h6, h7⟩ := mkTy_spec (hE.ty _ _ hti)
    unfold Op.equal
    obtain ⟨n, hn⟩ := maxDepth_succ
    rw [hn]
    split at h
    · rename_i hk
      rw [hk] at h7
      have := tk_bool h7.symm; subst this
      split at h
      · simp only [Option.some.injEq] at h; subst h
        cases hx; cases hy
        exact ⟨by unfold Op.equalIn; rw [Sem.run_bind, rUnd h2]; rfl, by simp, by simp⟩
      · cases h
    · rename_i esz hk
      rw [hk] at h7
      obtain ⟨e, einf, tinf, rfl, g1, g2, g3, g4⟩ := tk_ptr h7.symm
      split at h <;> first | (cases h; done) | skip
      all_goals
        simp only [Option.some.injEq] at h; subst h
        cases hx; cases hy
        exact ⟨by unfold Op.equalIn; rw [Sem.run_bind, rUnd h2]; rfl, by simp, by simp⟩
    · rename_i hk
      rw [hk] at h7
      obtain ⟨e, einf, ez', rfl, g1, g2, g3, g4, g5, g6⟩ := tk_slice h7.symm
      split at h <;> first | (cases h; done) | skip
      all_goals
        simp only [Option.some.injEq] at h; subst h
        cases hx <;> cases hy
      all_goals exact ⟨by unfold Op.equalIn; rw [Sem.run_bind, rUnd h2]; rfl, by simp, by simp⟩
    · rename_i hk
      rw [hk] at h7
      obtain ⟨k, e, einf, ez', rfl, g1, g2, g3, g4⟩ := tk_map h7.symm
      split at h <;> first | (cases h; done) | skip
      all_goals
        simp only [Option.some.injEq] at h; subst h
        cases hx; cases hy
        exact ⟨by unfold Op.equalIn; rw [Sem.run_bind, rUnd h2]; rfl, by simp, by simp⟩
    · rename_i hk
      rw [hk] at h7
      obtain ⟨a, b, c, rfl⟩ := tk_func h7.symm
      split at h <;> first | (cases h; done) | skip
      all_goals
        simp only [Option.some.injEq] at h; subst h
        cases hx; cases hy
        exact ⟨by unfold Op.equalIn; rw [Sem.run_bind, rUnd h2]; rfl, by simp, by simp⟩
    · rename_i m hk
      rw [hk] at h7
      obtain ⟨ms, rfl, hm⟩ := tk_iface h7.symm
      split at h
      · split at h
        · rename_i hl
          simp only [Option.some.injEq] at h; subst h
          cases hx; cases hy
          refine ⟨by unfold Op.equalIn; rw [Sem.run_bind, rUnd h2]; rfl, fun _ => ?_, by simp⟩
          simp only [Bool.or_eq_true] at hl
          rcases hl with hl | hl
          · exact .inl hl
          · exact .inr ⟨ms, h2, by rw [hm] at hl; simpa using hl⟩
        · cases h
      · simp only [Option.some.injEq] at h; subst h
        cases hx; cases hy
        exact ⟨by unfold Op.equalIn; rw [Sem.run_bind, rUnd h2]; rfl, by simp, by simp⟩
      · simp only [Option.some.injEq] at h; subst h
        cases hx; cases hy
        exact ⟨by unfold Op.equalIn; rw [Sem.run_bind, rUnd h2]; rfl, by simp, by simp⟩
      · rename_i a u c v
        split at h
        · rename_i hac
          subst hac
          split at h
          · rename_i j c d hj
            obtain ⟨inf', d', z', k1, k2, k3, k4, k5, k6, k7⟩ := mkTy_spec (hE.ty _ _ hj)
            split at h
            · rename_i sz hk2
              rw [hk2] at k7
              obtain ⟨e, einf, tinf, rfl, g1, g2, g3, g4⟩ := tk_ptr k7.symm
              cases hv : ((E.gl c).isSome && (E.gl d).isSome) with
              | false => simp [hv] at h
              | true =>
                simp only [hv, cond_true, Option.some.injEq] at h; subst h
                simp only [Bool.and_eq_true] at hv
                cases hx; rename_i hu
                cases hy; rename_i hv2
                cases hu; cases hv2
                have hsa := hG.opq c d w hv.1 hv.2 hw.below
                have hsz : einf.size ≠ 0 := by omega
                refine ⟨?_, by simp, by simp⟩
                unfold Op.equalIn
                rw [Sem.run_bind, rUnd h2]
                show (if _ ≠ _ then _ else _ : Sem Bool).run P w = _
                rw [if_neg (by simp), Sem.run_bind, rInfo g3]
                show (if _ then _ else _ : Sem Bool).run P w = _
                rw [if_neg (by simp [g4])]
                unfold Op.equalIn
                rw [Sem.run_bind, rUnd k2]
                show (bind (sizeOf e) _ : Sem Bool).run P w = _
                rw [Sem.run_bind, rSize g1]
                show (if _ then _ else _ : Sem Bool).run P w = _
                rw [if_pos hsz]
                exact hsa
            · cases h
          · cases h
        · rename_i hne
          simp only [Option.some.injEq] at h; subst h
          cases hx; cases hy
          refine ⟨?_, by simp, by simp⟩
          unfold Op.equalIn
          rw [Sem.run_bind, rUnd h2]
          show (if _ ≠ _ then _ else _ : Sem Bool).run P w = _
          rw [if_pos hne]; rfl
      · cases h
    · cases h


theorem VR.int_inv {k : IntKind} {n : Int} {v : Value} (h : VR Γ (.int k n) v) : v = .int k n := by cases h; rfl
theorem VR.str_inv {s : ByteArray} {v : Value} (h : VR Γ (.str s) v) : v = .string s := by cases h; rfl
theorem VR.bool_inv {b : Bool} {v : Value} (h : VR Γ (.bool b) v) : v = .bool b := by cases h; rfl

/-- neither two numbers nor two texts -/
def PlainPair (x y : Value) : Prop :=
  (∀ k a l b, ¬ (x = .int k a ∧ y = .int l b)) ∧ (∀ a b, ¬ (x = .string a ∧ y = .string b)) ∧ (∀ k a l b, ¬ (x = .float k a ∧ y = .float l b)) ∧
    (∀ k a b l c d, ¬ (x = .complex k a b ∧ y = .complex l c d))

theorem binOp_eql {t : Nat} {x y : Value} (h : PlainPair x y) : Go.binOp .eql t x y = (do let b ← Op.equal t x y; pure (.bool b)) := by
  obtain ⟨h1, h2, h3, h4⟩ := h
  cases x <;> cases y <;> first
    | rfl
    | exact absurd ⟨rfl, rfl⟩ (h1 _ _ _ _)
    | exact absurd ⟨rfl, rfl⟩ (h2 _ _)
    | exact absurd ⟨rfl, rfl⟩ (h3 _ _ _ _)
    | exact absurd ⟨rfl, rfl⟩ (h4 _ _ _ _ _ _)

theorem binOp_neq {t : Nat} {x y : Value} (h : PlainPair x y) : Go.binOp .neq t x y = (do let b ← Op.equal t x y; pure (.bool !b)) := by
  obtain ⟨h1, h2, h3, h4⟩ := h
  cases x <;> cases y <;> first
    | rfl
    | exact absurd ⟨rfl, rfl⟩ (h1 _ _ _ _)
    | exact absurd ⟨rfl, rfl⟩ (h2 _ _)
    | exact absurd ⟨rfl, rfl⟩ (h3 _ _ _ _)
    | exact absurd ⟨rfl, rfl⟩ (h4 _ _ _ _ _ _)

theorem VR.not_float {x : AVal} {k : FloatKind} {b : Nat} (h : VR Γ x (.float k b)) : False := by cases h
theorem VR.not_complex {x : AVal} {k : FloatKind} {a b : Nat} (h : VR Γ x (.complex k a b)) : False := by cases h

/-- the guard of '==' lets it by -/
theorem guard_other {op : BinOp} (h1 : op ≠ .eql) (h2 : op ≠ .neq) {t : Nat} {x y : Operand} {x' y' : Value} : (eqGuard op t x y x' y').run P w = .ok () w := by
  cases op <;> first | (exact absurd rfl h1) | (exact absurd rfl h2) | rfl

theorem guard_plain {op : BinOp} {t : Nat} {x y : Operand} {x' y' : Value} (h1 : ¬ (x' = .nilIface ∧ y' = .nilIface)) (h2 : ∀ u v, ¬ (x' = .agg u ∧ y' = .agg v)) :
    (eqGuard op t x y x' y').run P w = .ok () w := by
  by_cases e1 : op = .eql
  · subst e1
    cases x' <;> cases y' <;> first | rfl | exact absurd ⟨rfl, rfl⟩ h1 | exact absurd ⟨rfl, rfl⟩ (h2 _ _)
  · by_cases e2 : op = .neq
    · subst e2
      cases x' <;> cases y' <;> first | rfl | exact absurd ⟨rfl, rfl⟩ h1 | exact absurd ⟨rfl, rfl⟩ (h2 _ _)
    · exact guard_other e1 e2

theorem eqGuardIn_iface {n t : Nat} {ms : Array (String × TypeId)} (h : P.underlying t = some (.interface ms)) (hm : ms.isEmpty = true) :
    (Op.eqGuardIn (n + 1) t .nilIface .nilIface).run P w = .ok false w := by
  unfold Op.eqGuardIn
  rw [Sem.run_bind, rUnd h]
  show (pure !ms.isEmpty : Sem Bool).run P w = _
  rw [hm]; rfl

theorem guard_nil {op : BinOp} {t : Nat} {x y : Operand} (h : (isConstO x || isConstO y) = true ∨ ∃ ms, P.underlying t = some (.interface ms) ∧ ms.isEmpty = true) :
    (eqGuard op t x y .nilIface .nilIface).run P w = .ok () w := by
  obtain ⟨n, hn⟩ := maxDepth_succ
  have key : ∀ {ms : Array (String × TypeId)}, P.underlying t = some (.interface ms) → ms.isEmpty = true →
      (do if ← Op.eqGuardIn Op.maxDepth t .nilIface .nilIface then unsupported (.noEntry "binop/eql: two nil values of an interface type with methods, neither of them the literal nil") : Sem Unit).run P w = .ok () w := by
    intro ms h1 h2
    rw [hn, Sem.run_bind, eqGuardIn_iface h1 h2]; rfl
  by_cases e1 : op = .eql
  · subst e1
    cases x <;> cases y <;> first
      | rfl
      | (rcases h with h | ⟨ms, h1, h2⟩
         · cases h
         · exact key h1 h2)
  · by_cases e2 : op = .neq
    · subst e2
      cases x <;> cases y <;> first
        | rfl
        | (rcases h with h | ⟨ms, h1, h2⟩
           · cases h
           · exact key h1 h2)
    · exact guard_other e1 e2

theorem symBin_sound {F : List Fact} (hk : Known Γ.env F) {op : BinOp} {t : Nat} {a b : Lin} {v : AVal} (h : symBin F op a b = some v) :
    ∃ v', (Go.binOp op t (.int .i64 (wr (a.eval Γ.env.v))) (.int .i64 (wr (b.eval Γ.env.v)))).run P w = .ok v' w ∧ VR Γ v v' := by
  have key : ∀ {v0 : AVal}, isShift op = false → binInt op .i64 (wr (a.eval Γ.env.v)) (wr (b.eval Γ.env.v)) = some v0 → (∀ v', VR Γ v0 v' → VR Γ v v') →
      ∃ v', (Go.binOp op t (.int .i64 (wr (a.eval Γ.env.v))) (.int .i64 (wr (b.eval Γ.env.v)))).run P w = .ok v' w ∧ VR Γ v v' := by
    intro v0 hs h0 hv
    obtain ⟨v', k1, k2⟩ := binInt_sound (P := P) (w := w) (Γ := Γ) (t := t) hs h0
    exact ⟨v', k1, hv v' k2⟩
  have num : ∀ {n : Int} {l : Lin}, IntKind.i64.wrap n = wr (l.eval Γ.env.v) → ∀ v', VR Γ (.int .i64 (IntKind.i64.wrap n)) v' → VR Γ (mkSym l) v' := by
    intro n l hn v' hv
    cases hv
    rw [hn]; exact .mkSym l
  have bo : ∀ {b r : Bool}, b = r → ∀ v', VR Γ (.bool b) v' → VR Γ (.bool r) v' := by
    rintro b _ rfl v' hv; exact hv
  cases op <;> simp only [symBin] at h <;> try (cases h; done)
  case add =>
    simp only [Option.some.injEq] at h; subst h
    exact key rfl rfl (num (by rw [eval_add]; exact wr_add _ _))
  case sub =>
    simp only [Option.some.injEq] at h; subst h
    exact key rfl rfl (num (by rw [eval_sub]; exact wr_sub _ _))
  case mul =>
    split at h
    · rename_i hb
      simp only [Option.some.injEq] at h; subst h
      exact key rfl rfl (num (by rw [eval_scale, eval_const (a := b) _ hb, Int.mul_comm]; exact wr_mul _ _))
    · rename_i ha _
      simp only [Option.some.injEq] at h; subst h
      exact key rfl rfl (num (by rw [eval_scale, eval_const (a := a) _ ha]; have := wr_mul a.c (b.eval Γ.env.v); exact this))
    · split at h
      · rename_i r hr
        simp only [Option.some.injEq] at h; subst h
        have h1 := mulF_spec hk hr
        exact key (v0 := .int .i64 (wr (wr (a.eval Γ.env.v) * wr (b.eval Γ.env.v)))) rfl rfl (fun v' hv => by cases hv; rw [h1]; exact .mkSym r)
      · cases h
  case quo =>
    split at h
    · rename_i r hr
      simp only [Option.some.injEq] at h; subst h
      obtain ⟨h0, h1⟩ := divF_spec hk hr
      rw [if_pos rfl] at h1
      refine key (v0 := .int .i64 (wr (r.eval Γ.env.v))) rfl ?_ (fun v' hv => by cases hv; exact .mkSym r)
      simp only [binInt]
      rw [if_neg h0, ← h1]; rfl
    · cases h
  case rem =>
    split at h
    · rename_i r hr
      simp only [Option.some.injEq] at h; subst h
      obtain ⟨h0, h1⟩ := divF_spec hk hr
      rw [if_neg (by simp)] at h1
      refine key (v0 := .int .i64 (wr (r.eval Γ.env.v))) rfl ?_ (fun v' hv => by cases hv; exact .mkSym r)
      simp only [binInt]
      rw [if_neg h0, h1]
    · cases h
  case eql =>
    cases hq : eqS F a b with
    | none => rw [hq] at h; cases h
    | some r =>
      rw [hq] at h; simp only [boolO, Option.some.injEq] at h; subst h
      exact key rfl rfl (bo (by rw [← eqS_spec hk hq]; by_cases hh : wr (a.eval Γ.env.v) = wr (b.eval Γ.env.v) <;> simp [hh]))
  case neq =>
    cases hq : eqS F a b with
    | none => rw [hq] at h; cases h
    | some r =>
      rw [hq] at h; simp only [notO, Option.some.injEq] at h; subst h
      exact key rfl rfl (bo (by rw [← eqS_spec hk hq]; by_cases hh : wr (a.eval Γ.env.v) = wr (b.eval Γ.env.v) <;> simp [hh]))
  case lss =>
    cases hq : ltF F a b with
    | none => rw [hq] at h; cases h
    | some r =>
      rw [hq] at h; simp only [boolO, Option.some.injEq] at h; subst h
      exact key rfl rfl (bo (ltF_spec hk hq))
  case gtr =>
    cases hq : ltF F b a with
    | none => rw [hq] at h; cases h
    | some r =>
      rw [hq] at h; simp only [boolO, Option.some.injEq] at h; subst h
      exact key rfl rfl (bo (ltF_spec hk hq))
  case leq =>
    cases hq : ltF F b a with
    | none => rw [hq] at h; cases h
    | some r =>
      rw [hq] at h; simp only [notO, Option.some.injEq] at h; subst h
      refine key rfl rfl (bo ?_)
      rw [← ltF_spec hk hq]
      by_cases hh : wr (b.eval Γ.env.v) < wr (a.eval Γ.env.v)
      · simp [hh]
      · simp [hh]; omega
  case geq =>
    cases hq : ltF F a b with
    | none => rw [hq] at h; cases h
    | some r =>
      rw [hq] at h; simp only [notO, Option.some.injEq] at h; subst h
      refine key rfl rfl (bo ?_)
      rw [← ltF_spec hk hq]
      by_cases hh : wr (a.eval Γ.env.v) < wr (b.eval Γ.env.v)
      · simp [hh]
      · simp [hh]; omega

theorem isI64_eq {k : IntKind} (h : isI64 k = true) : k = .i64 := by cases k <;> first | rfl | cases h

theorem binA_sound (hE : EnvOK P E) (hG : GOK P E Γ) (hw : WR Γ H w) {op : BinOp} {t : Nat} {ox oy : Operand} {x y v : AVal} {x' y' : Value} (hx : VR Γ x x') (hy : VR Γ y y')
    (h : binA E op t (isConstO ox || isConstO oy) x y = some v) :
    ∃ v', (do eqGuard op t ox oy x' y'; Go.binOp op t x' y' : Sem Value).run P w = .ok v' w ∧ VR Γ v v' := by
  unfold binA at h
  split at h
  · rename_i k a k' b
    have := hx.int_inv; subst this
    have := hy.int_inv; subst this
    rw [Sem.run_bind, guard_plain (by simp) (by simp)]
    cases hs : isShift op with
    | true => rw [hs] at h; exact shift_sound hs h
    | false =>
      rw [hs] at h
      simp only [cond_false] at h
      split at h
      · rename_i hk; subst hk; exact binInt_sound hs h
      · cases h
  · rename_i a b
    have := hx.str_inv; subst this
    have := hy.str_inv; subst this
    rw [Sem.run_bind, guard_plain (by simp) (by simp)]
    exact binStr_sound h
  · rename_i a b
    cases hx; cases hy
    rw [Sem.run_bind, guard_plain (by simp) (by simp)]
    exact symBin_sound (hG.env ▸ hG.facts) h
  · rename_i a k b
    cases hc : (isI64 k && IntKind.i64.wrap b == b) with
    | false => rw [hc] at h; cases h
    | true =>
      rw [hc] at h
      simp only [cond_true] at h
      rw [Bool.and_eq_true] at hc
      have := isI64_eq hc.1; subst this
      cases hx; cases hy
      rw [Sem.run_bind, guard_plain (by simp) (by simp)]
      have := symBin_sound (P := P) (w := w) (Γ := Γ) (t := t) (hG.env ▸ hG.facts) h
      rw [eval_const (a := ⟨b, []⟩) _ rfl, show wr (⟨b, []⟩ : Lin).c = b from eq_of_beq hc.2] at this
      exact this
  · rename_i k a b
    cases hc : (isI64 k && IntKind.i64.wrap a == a) with
    | false => rw [hc] at h; cases h
    | true =>
      rw [hc] at h
      simp only [cond_true] at h
      rw [Bool.and_eq_true] at hc
      have := isI64_eq hc.1; subst this
      cases hx; cases hy
      rw [Sem.run_bind, guard_plain (by simp) (by simp)]
      have := symBin_sound (P := P) (w := w) (Γ := Γ) (t := t) (hG.env ▸ hG.facts) h
      rw [eval_const (a := ⟨a, []⟩) _ rfl, show wr (⟨a, []⟩ : Lin).c = a from eq_of_beq hc.2] at this
      exact this
  · rename_i hn1 hn2 hn3 hn4 hn5
    have hpp : PlainPair x' y' := by
      refine ⟨?_, ?_, ?_, ?_⟩
      · rintro k a l b ⟨rfl, rfl⟩
        cases hx <;> cases hy
        · exact hn1 _ _ _ _ rfl rfl
        · exact hn5 _ _ _ rfl rfl
        · exact hn4 _ _ _ rfl rfl
        · exact hn3 _ _ rfl rfl
      · rintro a b ⟨rfl, rfl⟩
        cases hx; cases hy; exact hn2 _ _ rfl rfl
      · rintro k a l b ⟨rfl, rfl⟩; exact hx.not_float
      · rintro k a b l c d ⟨rfl, rfl⟩; exact hx.not_complex
    have gd : ∀ {b}, eqA E t (isConstO ox || isConstO oy) x y = some b → (Op.equal t x' y').run P w = .ok b w ∧ ∀ op, (eqGuard op t ox oy x' y').run P w = .ok () w := by
      intro b hb
      obtain ⟨k1, k2, k3⟩ := eq_sound hE hG hw hx hy hb
      refine ⟨k1, fun op => ?_⟩
      by_cases hn : x' = .nilIface ∧ y' = .nilIface
      · obtain ⟨rfl, rfl⟩ := hn
        exact guard_nil (k2 ⟨rfl, rfl⟩)
      · exact guard_plain hn k3
    split at h
    · split at h
      · rename_i b hb
        simp only [Option.some.injEq] at h; subst h
        obtain ⟨k1, k2⟩ := gd hb
        refine ⟨.bool b, ?_, .bool b⟩
        rw [Sem.run_bind, k2, binOp_eql hpp]
        show (bind (Op.equal t x' y') _ : Sem Value).run P w = _
        rw [Sem.run_bind, k1]; rfl
      · cases h
    · split at h
      · rename_i b hb
        simp only [Option.some.injEq] at h; subst h
        obtain ⟨k1, k2⟩ := gd hb
        refine ⟨.bool !b, ?_, .bool _⟩
        rw [Sem.run_bind, k2, binOp_neq hpp]
        show (bind (Op.equal t x' y') _ : Sem Value).run P w = _
        rw [Sem.run_bind, k1]; rfl
      · cases h
    · cases h

theorem unA_sound {op : UnOp} {x v : AVal} {x' : Value} (hx : VR Γ x x') (h : unA op x = some v) : Gives P Γ w (Op.unary op x') v := by
  unfold unA at h
  split at h
  · have := hx.int_inv; subst this
    cases op <;> simp only [Option.some.injEq] at h <;> first | (cases h; done) | skip
    subst h
    exact ⟨_, rfl, .int _ _⟩
  · have := hx.bool_inv; subst this
    cases op <;> simp only [Option.some.injEq] at h <;> first | (cases h; done) | skip
    subst h
    exact ⟨_, rfl, .bool _⟩
  · rename_i l
    cases hx
    cases op <;> simp only [Option.some.injEq] at h <;> first | (cases h; done) | skip
    subst h
    refine ⟨_, rfl, ?_⟩
    have := VR.mkSym (Γ := Γ) (l.scale (-1))
    rw [eval_scale] at this
    have e : IntKind.i64.wrap (0 - IntKind.i64.wrap (l.eval Γ.env.v)) = wr (-1 * l.eval Γ.env.v) := by
      have := wr_sub 0 (l.eval Γ.env.v)
      rw [wr_zero] at this
      rw [show (-1 * l.eval Γ.env.v) = 0 - l.eval Γ.env.v by omega]
      exact this
    rw [e]; exact this
  · cases h

theorem partA_sound {t : Nat} {inf : TypeInfo} {d : TypeDesc} (h1 : P.info? t = some inf) (h2 : P.underlying t = some d) {cs : List AVal} {vs : Array Value} (hF : F2 (VR Γ) cs vs.toList) {off : Nat} {v : AVal}
    (h : partA cs off inf.size (isAggD d) = some v) : Gives P Γ w (part t vs off) v := by
  unfold partA at h
  cases hd : isAggD d with
  | true =>
    simp only [hd, cond_true] at h
    split at h
    · rename_i l hl
      simp only [Option.some.injEq] at h; subst h
      have hle := takeN_le hl
      have hs := takeN_spec hl
      have hlen := hF.length
      simp only [List.length_drop] at hle
      refine ⟨.agg (vs.extract off (off + inf.size)), ?_, .agg ?_ ?_⟩
      · simp [part, rAgg h2, hd, rSize h1]
      · simp only [Array.size_extract, hs.2]
        simp only [Array.length_toList] at hlen
        omega
      · intro j x v hx hv
        have hj : j < inf.size := by
          have := (List.getElem?_eq_some_iff.1 hx).1
          rw [hs.2] at this; exact this
        rw [takeN_get hl hj, List.getElem?_drop] at hx
        refine hF.get (off + j) x v hx ?_
        rw [Array.getElem?_extract] at hv
        split at hv
        · simpa using hv
        · cases hv
    · cases h
  | false =>
    simp only [hd, cond_false] at h
    have hlen := hF.length
    have hlt := (List.getElem?_eq_some_iff.1 h).1
    have hlt2 : off < vs.size := by simp only [Array.length_toList] at hlen; omega
    refine ⟨vs[off], ?_, hF.get off _ _ h (by simp [hlt2])⟩
    simp [part, rAgg h2, hd, hlt2]

theorem VR.agg_inv {cs : List AVal} {v : Value} (h : VR Γ (.agg cs) v) : ∃ vs, v = .agg vs ∧ F2 (VR Γ) cs vs.toList := by
  cases h
  rename_i vs hl hh
  exact ⟨vs, rfl, F2.of_get (by simpa using hl) (fun j x v hx hv => hh j x v hx (by simpa using hv))⟩

theorem VR.tup_inv {cs : List AVal} {v : Value} (h : VR Γ (.tup cs) v) : ∃ vs, v = .tuple vs ∧ F2 (VR Γ) cs vs.toList := by
  cases h
  rename_i vs hl hh
  exact ⟨vs, rfl, F2.of_get (by simpa using hl) (fun j x v hx hv => hh j x v hx (by simpa using hv))⟩

theorem fieldA_sound (hE : EnvOK P E) {t f : Nat} {x v : AVal} {x' : Value} (hx : VR Γ x x') (h : fieldA E t f x = some v) : Gives P Γ w (Instr.field t x' f) v := by
  unfold fieldA at h
  split at h
  · cases h
  · rename_i ti hti
    obtain ⟨inf, d, z, h1, h2, h3, h4, h5, h6, h7⟩ := mkTy_spec (hE.ty _ _ hti)
    split at h
    · rename_i fs c cs hk
      rw [hk] at h7
      obtain ⟨l, rfl, hl, hc⟩ := tk_struct h7.symm
      obtain ⟨vs, rfl, hF⟩ := hx.agg_inv
      split at h
      · rename_i off size agg hf
        obtain ⟨x0, inf0, d0, g1, g2, g3, rfl, rfl, rfl⟩ := fieldsOf_get hl _ _ _ _ hf
        obtain ⟨v', hv, hr⟩ := partA_sound (w := w) g2 g3 hF h
        refine ⟨v', ?_, hr⟩
        have hg : (l[f]? : Option Field) = some x0 := by simpa using g1
        simp [Instr.field, rUnd h2, hg, asAgg, hv]
      · cases h
    · cases h

theorem indexA_sound (hE : EnvOK P E) {t : Nat} {x i v : AVal} {x' i' : Value} (hx : VR Γ x x') (hi : VR Γ i i') (h : indexA E t x i = some v) : Gives P Γ w (Instr.index t x' i') v := by
  unfold indexA at h
  split at h
  · rename_i ti b ik k hti
    obtain ⟨inf, d, z, h1, h2, h3, h4, h5, h6, h7⟩ := mkTy_spec (hE.ty _ _ hti)
    split at h
    · rename_i hk
      rw [hk] at h7
      have := tk_str h7.symm; subst this
      have := hx.str_inv; subst this
      have := hi.int_inv; subst this
      split at h
      · rename_i c hc
        simp only [Option.some.injEq] at h; subst h
        have hb : b[k]? = some c := by
          have := List.getElem?_eq_some_iff.1 hc
          obtain ⟨hlt, hc⟩ := this
          have hlt' : k < b.size := by rw [size_list]; exact hlt
          rw [getElem?_pos b k hlt']
          simp only [Option.some.injEq]
          rw [← hc]; rfl
        refine ⟨.int .u8 c.toNat, ?_, .int _ _⟩
        simp [Instr.index, asIntOf, rUnd h2, Int.ofNat_eq_natCast, hb]
      · cases h
    · cases h
  · cases h

end
end Go.Pend

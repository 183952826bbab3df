/- The operations of the abstract machine against the model's: those that only look. -/
import Derived.Test.YtdbcojhhdjlbiaaDoorE1
namespace Go.Pend
open Go.RowKit (Below)

/-! whole numbers with unknowns -/
def wr (n : Int) : Int := IntKind.i64.wrap n

theorem wr_def (n : Int) : wr n = if n % 18446744073709551616 ≥ 9223372036854775808 then n % 18446744073709551616 - 18446744073709551616 else n % 18446744073709551616 := by
  unfold wr IntKind.wrap
  simp [IntKind.bits, IntKind.signed]

theorem wr_spec (n : Int) : ∃ q : Int, wr n = n + 18446744073709551616 * q := by
  rw [wr_def]
  have := Int.emod_add_mul_ediv n 18446744073709551616
  split
  · exact ⟨-(n / 18446744073709551616) - 1, by omega⟩
  · exact ⟨-(n / 18446744073709551616), by omega⟩

theorem wr_eq {a b q : Int} (h : a = b + 18446744073709551616 * q) : wr a = wr b := by
  rw [wr_def, wr_def, h, Int.add_mul_emod_self_left]

theorem wr_inj {a b : Int} (h : wr a = wr b) : ∃ q : Int, a = b + 18446744073709551616 * q := by
  obtain ⟨p, hp⟩ := wr_spec a
  obtain ⟨q, hq⟩ := wr_spec b
  exact ⟨q - p, by omega⟩

theorem wr_wr (a : Int) : wr (wr a) = wr a := by
  obtain ⟨p, hp⟩ := wr_spec a
  exact wr_eq hp

theorem wr_add (a b : Int) : wr (wr a + wr b) = wr (a + b) := by
  obtain ⟨p, hp⟩ := wr_spec a
  obtain ⟨q, hq⟩ := wr_spec b
  exact wr_eq (q := p + q) (by omega)

theorem wr_sub (a b : Int) : wr (wr a - wr b) = wr (a - b) := by
  obtain ⟨p, hp⟩ := wr_spec a
  obtain ⟨q, hq⟩ := wr_spec b
  exact wr_eq (q := p - q) (by omega)

theorem wr_mul (a b : Int) : wr (wr a * wr b) = wr (a * b) := by
  obtain ⟨p, hp⟩ := wr_spec a
  obtain ⟨q, hq⟩ := wr_spec b
  refine wr_eq (q := a * q + p * b + 18446744073709551616 * (p * q)) ?_
  rw [hp, hq]
  simp only [Int.add_mul, Int.mul_add, Int.mul_assoc, Int.mul_left_comm p, Int.mul_left_comm a, Int.add_assoc]
  omega

theorem wr_zero : wr 0 = 0 := by rw [wr_def]; rfl

theorem wr_eq_iff (a b : Int) : wr a = wr b ↔ wr (a - b) = 0 := by
  constructor
  · intro h
    obtain ⟨q, hq⟩ := wr_inj h
    rw [← wr_zero]
    exact wr_eq (q := q) (by omega)
  · intro h
    rw [← wr_zero] at h
    obtain ⟨q, hq⟩ := wr_inj h
    exact wr_eq (q := q) (by omega)

theorem evalT_ins (ρ : Nat → Int) (v : Nat) (c : Int) : ∀ l, evalT ρ (insT v c l) = c * ρ v + evalT ρ l
  | [] => by
    simp only [insT]
    cases h : (c == 0) with
    | true => have := eq_of_beq h; subst this; simp [evalT]
    | false => simp [evalT]
  | (u, d) :: r => by
    simp only [insT]
    cases h : Nat.beq v u with
    | true =>
      have := Nat.eq_of_beq_eq_true h; subst this
      cases h2 : (c + d == 0) with
      | true =>
        have := eq_of_beq h2
        have e : (c + d) * ρ v = 0 := by rw [this, Int.zero_mul]
        rw [Int.add_mul] at e
        simp only [cond_true, evalT]; omega
      | false => simp only [cond_true, cond_false, evalT, Int.add_mul]; omega
    | false =>
      cases h2 : Nat.blt v u with
      | true =>
        cases h3 : (c == 0) with
        | true => have := eq_of_beq h3; subst this; simp [evalT]
        | false => simp [evalT]
      | false => simp only [cond_false, evalT, evalT_ins ρ v c r]; omega

theorem evalT_add (ρ : Nat → Int) : ∀ l m, evalT ρ (addT l m) = evalT ρ l + evalT ρ m
  | [], m => by simp [addT, evalT]
  | (v, c) :: l, m => by simp only [addT, evalT_ins, evalT, evalT_add ρ l m]; omega

theorem eval_add (ρ : Nat → Int) (a b : Lin) : (a.add b).eval ρ = a.eval ρ + b.eval ρ := by
  simp only [Lin.add, Lin.eval, evalT_add]; omega

theorem evalT_scale (ρ : Nat → Int) (n : Int) : ∀ l, evalT ρ (scaleT n l) = n * evalT ρ l
  | [] => by simp [scaleT, evalT]
  | (v, c) :: l => by simp only [scaleT, evalT, evalT_scale ρ n l, Int.mul_add, Int.mul_assoc]

theorem eval_scale (ρ : Nat → Int) (n : Int) (a : Lin) : (a.scale n).eval ρ = n * a.eval ρ := by
  unfold Lin.scale
  cases h : (n == 0) with
  | true => have := eq_of_beq h; subst this; simp [Lin.eval, evalT]
  | false => simp only [cond_false, Lin.eval, evalT_scale, Int.mul_add]

theorem eval_sub (ρ : Nat → Int) (a b : Lin) : (a.sub b).eval ρ = a.eval ρ - b.eval ρ := by
  simp only [Lin.sub, eval_add, eval_scale]; omega

theorem eval_const (ρ : Nat → Int) {a : Lin} (h : a.ts = []) : a.eval ρ = a.c := by simp [Lin.eval, h, evalT]

theorem sameT_eq : ∀ {l m : List (Nat × Int)}, sameT l m = true → l = m
  | [], [], _ => rfl
  | [], _ :: _, h => by cases h
  | _ :: _, [], h => by cases h
  | (v, c) :: l, (u, d) :: m, h => by
    simp only [sameT, Bool.and_eq_true] at h
    rw [Nat.eq_of_beq_eq_true h.1.1, eq_of_beq h.1.2, sameT_eq h.2]

theorem lin_same {a b : Lin} (h : Lin.same a b = true) : a = b := by
  simp only [Lin.same, Bool.and_eq_true] at h
  cases a; cases b
  simp only at h
  rw [eq_of_beq h.1, sameT_eq h.2]

def ev1 (e : SEnv) : AVal → AVal
  | .sym l => .int .i64 (wr (l.eval e.v))
  | x => x

def Fact.holds (e : SEnv) : Fact → Prop
  | .lss a b r => decide (wr (a.eval e.v) < wr (b.eval e.v)) = r
  | .eql a b r => decide (wr (a.eval e.v) = wr (b.eval e.v)) = r
  | .len a l => ((e.rows a).length : Int) = wr (l.eval e.v)
  | .row a l cs => ∃ j : Nat, wr (l.eval e.v) = (j : Int) ∧ (e.rows a)[j]? = some (cs.map (ev1 e))
  | .mul a b r => wr (wr (a.eval e.v) * wr (b.eval e.v)) = wr (r.eval e.v)
  | .div q a b r => wr (b.eval e.v) ≠ 0 ∧ (if q = true then wr ((wr (a.eval e.v)).tdiv (wr (b.eval e.v))) else (wr (a.eval e.v)).tmod (wr (b.eval e.v))) = wr (r.eval e.v)

def Known (e : SEnv) (F : List Fact) : Prop := ∀ f ∈ F, f.holds e

theorem Known.tail {e : SEnv} {f : Fact} {F : List Fact} (h : Known e (f :: F)) : Known e F := fun g hg => h g (List.mem_cons_of_mem _ hg)

theorem ltF_spec {e : SEnv} : ∀ {F : List Fact} {a b : Lin} {r : Bool}, Known e F → ltF F a b = some r → decide (wr (a.eval e.v) < wr (b.eval e.v)) = r
  | [], a, b, r, _, h => by cases h
  | f :: F, x, y, r, hk, h => by
    cases f with
    | lss a b q =>
      simp only [ltF] at h
      cases hs : (Lin.same a x && Lin.same b y) with
      | true =>
        rw [hs] at h; simp only [cond_true, Option.some.injEq] at h; subst h
        rw [Bool.and_eq_true] at hs
        rw [← lin_same hs.1, ← lin_same hs.2]
        exact hk (.lss a b q) (by simp)
      | false => rw [hs] at h; exact ltF_spec hk.tail h
    | _ => exact ltF_spec hk.tail h

theorem eqF_spec {e : SEnv} : ∀ {F : List Fact} {a b : Lin} {r : Bool}, Known e F → eqF F a b = some r → decide (wr (a.eval e.v) = wr (b.eval e.v)) = r
  | [], a, b, r, _, h => by cases h
  | f :: F, x, y, r, hk, h => by
    cases f with
    | eql a b q =>
      simp only [eqF] at h
      cases hs : (Lin.same a x && Lin.same b y) with
      | true =>
        rw [hs] at h; simp only [cond_true, Option.some.injEq] at h; subst h
        rw [Bool.and_eq_true] at hs
        rw [← lin_same hs.1, ← lin_same hs.2]
        exact hk (.eql a b q) (by simp)
      | false => rw [hs] at h; exact eqF_spec hk.tail h
    | _ => exact eqF_spec hk.tail h

theorem lenF_spec {e : SEnv} : ∀ {F : List Fact} {a : Nat} {l : Lin}, Known e F → lenF F a = some l → ((e.rows a).length : Int) = wr (l.eval e.v)
  | [], a, l, _, h => by cases h
  | f :: F, x, l, hk, h => by
    cases f with
    | len a q =>
      simp only [lenF] at h
      cases hs : Nat.beq a x with
      | true =>
        rw [hs] at h; simp only [cond_true, Option.some.injEq] at h; subst h
        rw [← Nat.eq_of_beq_eq_true hs]
        exact hk (.len a q) (by simp)
      | false => rw [hs] at h; exact lenF_spec hk.tail h
    | _ => exact lenF_spec hk.tail h

theorem rowF_spec {e : SEnv} : ∀ {F : List Fact} {a : Nat} {l : Lin} {cs : List AVal}, Known e F → rowF F a l = some cs → ∃ j : Nat, wr (l.eval e.v) = (j : Int) ∧ (e.rows a)[j]? = some (cs.map (ev1 e))
  | [], a, l, cs, _, h => by cases h
  | f :: F, x, y, cs, hk, h => by
    cases f with
    | row a q ds =>
      simp only [rowF] at h
      cases hs : (Nat.beq a x && Lin.same q y) with
      | true =>
        rw [hs] at h; simp only [cond_true, Option.some.injEq] at h; subst h
        rw [Bool.and_eq_true] at hs
        rw [← Nat.eq_of_beq_eq_true hs.1, ← lin_same hs.2]
        exact hk (.row a q ds) (by simp)
      | false => rw [hs] at h; exact rowF_spec hk.tail h
    | _ => exact rowF_spec hk.tail h

theorem divF_spec {e : SEnv} {q : Bool} : ∀ {F : List Fact} {a b r : Lin}, Known e F → divF q F a b = some r → wr (b.eval e.v) ≠ 0 ∧ (if q = true then wr ((wr (a.eval e.v)).tdiv (wr (b.eval e.v))) else (wr (a.eval e.v)).tmod (wr (b.eval e.v))) = wr (r.eval e.v)
  | [], a, c, r, _, h => by cases h
  | f :: F, x, y, r, hk, h => by
    cases f with
    | div p a b z =>
      simp only [divF] at h
      cases hs : ((p == q) && Lin.same a x && Lin.same b y) with
      | true =>
        rw [hs] at h; simp only [cond_true, Option.some.injEq] at h; subst h
        simp only [Bool.and_eq_true] at hs
        rw [← lin_same hs.1.2, ← lin_same hs.2, ← (eq_of_beq hs.1.1 : p = q)]
        exact hk (.div p a b z) (by simp)
      | false => rw [hs] at h; exact divF_spec hk.tail h
    | _ => exact divF_spec hk.tail h

theorem mulF_spec {e : SEnv} : ∀ {F : List Fact} {a b r : Lin}, Known e F → mulF F a b = some r → wr (wr (a.eval e.v) * wr (b.eval e.v)) = wr (r.eval e.v)
  | [], a, c, r, _, h => by cases h
  | f :: F, x, y, r, hk, h => by
    cases f with
    | mul a b z =>
      simp only [mulF] at h
      cases hs : (Lin.same a x && Lin.same b y) with
      | true =>
        rw [hs] at h; simp only [cond_true, Option.some.injEq] at h; subst h
        simp only [Bool.and_eq_true] at hs
        rw [← lin_same hs.1, ← lin_same hs.2]
        exact hk (.mul a b z) (by simp)
      | false => rw [hs] at h; exact mulF_spec hk.tail h
    | _ => exact mulF_spec hk.tail h

theorem VR.mkSym {Γ : Ctx} (l : Lin) : VR Γ (Go.Pend.mkSym l) (.int .i64 (wr (l.eval Γ.env.v))) := by
  unfold Go.Pend.mkSym
  split
  · rename_i h
    rw [eval_const _ h]; exact .int _ _
  · exact .sym l

theorem eqS_spec {e : SEnv} {F : List Fact} {a b : Lin} {r : Bool} (hk : Known e F) (h : eqS F a b = some r) : decide (wr (a.eval e.v) = wr (b.eval e.v)) = r := by
  unfold eqS at h
  split at h
  · rename_i ht
    simp only [Option.some.injEq] at h; subst h
    have := eval_const e.v ht
    rw [eval_sub] at this
    show _ = (wr (a.sub b).c == 0)
    rw [← this]
    have := wr_eq_iff (a.eval e.v) (b.eval e.v)
    by_cases hh : wr (a.eval e.v) = wr (b.eval e.v)
    · simp [hh, this.1 hh]
    · have h2 : ¬ wr (a.eval e.v - b.eval e.v) = 0 := fun h => hh (this.2 h)
      simp [hh, h2]
  · exact eqF_spec hk h

structure EnvOK (P : Program) (E : Env) : Prop where
  ty : ∀ t i, E.ty t = some i → mkTy P t = some i
  fn : ∀ f fn, E.fn f = some fn → P.funcs[f]? = some fn

structure GOK (P : Program) (E : Env) (Γ : Ctx) : Prop where
  gl0 : ∀ g x, E.gl g = some x → ∃ v, Γ.rho g 0 = some v ∧ ∀ Γ' : Ctx, Γ'.oad = Γ.oad → (∀ b o v, Γ.rho b o = some v → Γ'.rho b o = some v) → VR Γ' x v
  opq : ∀ c d w, (E.gl c).isSome = true → (E.gl d).isSome = true → Below Γ.N0 Γ.w0 w → (sameAddr (Γ.oad c) (Γ.oad d)).run P w = .ok (Nat.beq c d) w
  env : Γ.env = E.env
  facts : Known E.env E.facts

theorem GOK.ext {P : Program} {E : Env} {Γ Γ' : Ctx} (e : Ext Γ Γ') (h : GOK P E Γ) : GOK P E Γ' :=
  ⟨fun g x hx => let ⟨v, h1, h2⟩ := h.gl0 g x hx; ⟨v, e.rho _ _ _ h1, fun Γ'' k1 k2 => h2 Γ'' (k1.trans e.oad) fun b o v hv => k2 b o v (e.rho _ _ _ hv)⟩,
   fun c d w h1 h2 hb => by rw [e.oad]; exact h.opq c d w h1 h2 (by rw [← e.N0, ← e.w0]; exact hb),
   e.env.trans h.env, h.facts⟩

theorem GOK.gl {P : Program} {E : Env} {Γ : Ctx} (h : GOK P E Γ) (g : Nat) (x : AVal) (hx : E.gl g = some x) : ∃ v, Γ.rho g 0 = some v ∧ VR Γ x v :=
  let ⟨v, h1, h2⟩ := h.gl0 g x hx; ⟨v, h1, h2 Γ rfl fun _ _ _ h => h⟩

/-! types -/
theorem mkTy_spec {P : Program} {t : Nat} {i : TyI} (h : mkTy P t = some i) :
    ∃ inf d z, P.info? t = some inf ∧ P.underlying t = some d ∧ inf.zero = some z ∧ ofV z = some i.zv ∧ i.size = inf.size ∧ i.agg = isAggD d ∧ i.k = tkOf P t d := by
  unfold mkTy at h
  split at h
  · rename_i inf d h1 h2
    split at h
    · rename_i z hz
      split at h
      · rename_i zv hzv
        simp only [Option.some.injEq] at h
        subst h
        exact ⟨inf, d, z, h1, h2, hz, hzv, rfl, rfl, rfl⟩
      · cases h
    · cases h
  · cases h

theorem tk_slice {P : Program} {t : Nat} {d : TypeDesc} {esz eby ez ei} (h : tkOf P t d = .slice esz eby ez ei) :
    ∃ e inf z, d = .slice e ∧ P.info? e = some inf ∧ inf.zero = some z ∧ ofSs z.cells.toList = some ez ∧ esz = inf.size ∧ eby = inf.bytes ∧
      ei = (match P.underlying e with | some (.int k) => some k | _ => none) := by
  cases d <;> simp only [tkOf] at h
  all_goals try (first | (cases h; done) | skip)
  all_goals (repeat' split at h)
  all_goals first | (cases h; done) | (injection h with a b c d; exact ⟨_, _, _, rfl, by assumption, by assumption, by simp_all, a.symm, b.symm, by simp_all⟩)

theorem tk_struct {P : Program} {t : Nat} {d : TypeDesc} {fs c} (h : tkOf P t d = .struct fs c) :
    ∃ l, d = .struct l ∧ fieldsOf P l.toList = some fs ∧ c = (if P.stoodInHeld t then none else cmpOf P 0 l.toList) := by
  cases d <;> simp only [tkOf] at h
  all_goals try (first | (cases h; done) | skip)
  all_goals (repeat' split at h)
  all_goals first | (cases h; done) | (injection h with a b; exact ⟨_, rfl, by simp_all, by simp_all⟩)

theorem tk_map {P : Program} {t : Nat} {d : TypeDesc} {kk vz} (h : tkOf P t d = .map kk vz) :
    ∃ k e inf z, d = .map k e ∧ P.info? e = some inf ∧ inf.zero = some z ∧ ofV z = some vz ∧ kk = kkOf P k := by
  cases d <;> simp only [tkOf] at h
  all_goals try (first | (cases h; done) | skip)
  all_goals (repeat' split at h)
  all_goals first | (cases h; done) | (injection h with a b; exact ⟨_, _, _, _, rfl, by assumption, by assumption, by simp_all, a.symm⟩)

theorem tk_ptr {P : Program} {t : Nat} {d : TypeDesc} {s} (h : tkOf P t d = .ptr s) :
    ∃ e inf ti, d = .pointer e ∧ P.info? e = some inf ∧ s = inf.size ∧ P.info? t = some ti ∧ ti.comparable = true := by
  cases d <;> simp only [tkOf] at h
  all_goals try (first | (cases h; done) | skip)
  all_goals (repeat' split at h)
  all_goals first | (cases h; done) | (injection h with a; exact ⟨_, _, _, rfl, by assumption, a.symm, by assumption, by assumption⟩)

theorem tk_iface {P : Program} {t : Nat} {d : TypeDesc} {m} (h : tkOf P t d = .iface m) : ∃ ms, d = .interface ms ∧ m = !ms.isEmpty := by
  cases d <;> simp only [tkOf] at h
  all_goals try (first | (cases h; done) | skip)
  all_goals (repeat' split at h)
  all_goals first | (cases h; done) | (injection h with a; exact ⟨_, rfl, a.symm⟩)

theorem tk_int {P : Program} {t : Nat} {d : TypeDesc} {k} (h : tkOf P t d = .int k) : d = .int k := by
  cases d <;> simp only [tkOf] at h
  all_goals try (first | (cases h; done) | skip)
  all_goals (repeat' split at h)
  all_goals first | (cases h; done) | (injection h with a; rw [a])

theorem tk_str {P : Program} {t : Nat} {d : TypeDesc} (h : tkOf P t d = .str) : d = .string := by
  cases d <;> simp only [tkOf] at h
  all_goals try (first | (cases h; done) | rfl)
  all_goals (repeat' split at h)
  all_goals (cases h; done)

theorem tk_bool {P : Program} {t : Nat} {d : TypeDesc} (h : tkOf P t d = .bool) : d = .bool := by
  cases d <;> simp only [tkOf] at h
  all_goals try (first | (cases h; done) | rfl)
  all_goals (repeat' split at h)
  all_goals (cases h; done)

theorem tk_func {P : Program} {t : Nat} {d : TypeDesc} (h : tkOf P t d = .func) : ∃ a b c, d = .func a b c := by
  cases d <;> simp only [tkOf] at h
  all_goals try (first | (cases h; done) | exact ⟨_, _, _, rfl⟩)
  all_goals (repeat' split at h)
  all_goals (cases h; done)

/-! constants -/
theorem ofS_VR {Γ : Ctx} {v : Value} {x : AVal} (h : ofS v = some x) : VR Γ x v := by
  unfold ofS at h
  split at h <;> first | (cases h; done) | (simp only [Option.some.injEq] at h; subst h; constructor)

theorem ofSs_F2 {Γ : Ctx} : ∀ {vs : List Value} {xs : List AVal}, ofSs vs = some xs → F2 (VR Γ) xs vs
  | [], xs, h => by simp only [ofSs, Option.some.injEq] at h; subst h; exact .nil
  | v :: vs, xs, h => by
    simp only [ofSs] at h
    split at h
    · rename_i a r h1 h2
      simp only [Option.some.injEq] at h; subst h
      exact .cons (ofS_VR h1) (ofSs_F2 h2)
    · cases h

theorem ofV_VR {Γ : Ctx} {v : Value} {x : AVal} (h : ofV v = some x) : VR Γ x v := by
  unfold ofV at h
  split at h
  · split at h
    · rename_i cs l hl
      simp only [Option.some.injEq] at h; subst h
      have := ofSs_F2 (Γ := Γ) hl
      exact .agg (by simpa using this.length) (fun j x v hx hv => this.get j x v hx (by simpa using hv))
    · cases h
  · split at h
    · rename_i cs l hl
      simp only [Option.some.injEq] at h; subst h
      have := ofSs_F2 (Γ := Γ) hl
      exact .tup (by simpa using this.length) (fun j x v hx hv => this.get j x v hx (by simpa using hv))
    · cases h
  · exact ofS_VR h

theorem VR.cells {Γ : Ctx} {x : AVal} {v : Value} (h : VR Γ x v) : F2 (VR Γ) (cellsOf x) v.cells.toList := by
  cases h
  case agg hl hh => exact F2.of_get (by simpa [Value.cells, cellsOf] using hl) (fun j x v hx hv => hh j x v hx (by simpa [Value.cells] using hv))
  all_goals (refine .cons ?_ .nil; constructor <;> assumption)

theorem ev_sound {Γ : Ctx} {s : St} {a : Act} {w : World} (hs : SR Γ s a w) {x : Operand} {v : AVal} (h : s.ev x = some v) : VR Γ v (a.eval x) := by
  cases x with
  | tmp t =>
    obtain ⟨u, hu, hv⟩ := hs.t t v h
    simp only [Act.eval, Array.getD_eq_getD_getElem?, hu, Option.getD_some]
    exact hv
  | const c => exact ofV_VR h
  | global g => simp only [St.ev, Option.some.injEq] at h; subst h; exact .glob g
  | func f =>
    simp only [St.ev, Option.some.injEq] at h; subst h
    exact .fn rfl (fun j x v hx _ => by simp at hx)

theorem evs_sound {Γ : Ctx} {s : St} {a : Act} {w : World} (hs : SR Γ s a w) : ∀ {l : List Operand} {vs : List AVal}, s.evs l = some vs → F2 (VR Γ) vs (l.map a.eval)
  | [], vs, h => by simp only [St.evs, Option.some.injEq] at h; subst h; exact .nil
  | x :: l, vs, h => by
    simp only [St.evs] at h
    split at h
    · rename_i v r h1 h2
      simp only [Option.some.injEq] at h; subst h
      exact .cons (ev_sound hs h1) (evs_sound hs h2)
    · cases h

theorem evParts_sound {Γ : Ctx} {s : St} {a : Act} {w : World} (hs : SR Γ s a w) : ∀ {l : List (Nat × Operand)} {vs : List (Nat × AVal)}, s.evParts l = some vs →
    F2 (fun x v => x.1 = v.1 ∧ VR Γ x.2 v.2) vs (l.map fun (i, x) => (i, a.eval x))
  | [], vs, h => by simp only [St.evParts, Option.some.injEq] at h; subst h; exact .nil
  | (i, x) :: l, vs, h => by
    simp only [St.evParts] at h
    split at h
    · rename_i v r h1 h2
      simp only [Option.some.injEq] at h; subst h
      exact .cons ⟨rfl, ev_sound hs h1⟩ (evParts_sound hs h2)
    · cases h

/-! lists -/
theorem takeN_spec : ∀ {n : Nat} {l r : List AVal}, takeN n l = some r → r = l.take n ∧ r.length = n
  | 0, l, r, h => by simp only [takeN, Option.some.injEq] at h; subst h; simp
  | n + 1, [], r, h => by simp [takeN] at h
  | n + 1, x :: xs, r, h => by
    simp only [takeN] at h
    split at h
    · rename_i r' h'
      simp only [Option.some.injEq] at h; subst h
      obtain ⟨h1, h2⟩ := takeN_spec h'
      exact ⟨by rw [List.take_succ_cons, ← h1], by simp [h2]⟩
    · cases h

theorem takeN_get {n : Nat} {l r : List AVal} (h : takeN n l = some r) {j : Nat} (hj : j < n) : r[j]? = l[j]? := by
  rw [(takeN_spec h).1, List.getElem?_take_of_lt hj]

theorem takeN_le {n : Nat} {l r : List AVal} (h : takeN n l = some r) : n ≤ l.length := by
  have := takeN_spec h
  have h2 : (l.take n).length = n := by rw [← this.1]; exact this.2
  rw [List.length_take] at h2; omega

theorem putCells_spec : ∀ {cs : List AVal} {k : Nat} {vs r : List AVal}, putCells cs k vs = some r →
    r.length = cs.length ∧ k + vs.length ≤ cs.length ∧ ∀ j, r[j]? = if k ≤ j ∧ j < k + vs.length then vs[j - k]? else cs[j]? := by
  intro cs
  induction cs with
  | nil =>
    intro k vs r h
    cases k with
    | zero => cases vs with
      | nil => simp only [putCells, Option.some.injEq] at h; subst h; simp
      | cons v vs => simp [putCells] at h
    | succ k => simp [putCells] at h
  | cons c cs ih =>
    intro k vs r h
    cases k with
    | zero => cases vs with
      | nil => simp only [putCells, Option.some.injEq] at h; subst h; simp
      | cons v vs =>
        simp only [putCells] at h
        split at h
        · rename_i r' h'
          simp only [Option.some.injEq] at h; subst h
          obtain ⟨h1, h2, h3⟩ := ih h'
          refine ⟨by simp [h1], by simp; omega, ?_⟩
          intro j
          cases j with
          | zero => simp
          | succ j =>
            have := h3 j
            simp only [List.getElem?_cons_succ, this, List.length_cons]
            by_cases hj : j < vs.length
            · rw [if_pos (by omega), if_pos (by omega)]; simp
            · rw [if_neg (by omega), if_neg (by omega)]
        · cases h
    | succ k =>
      simp only [putCells] at h
      split at h
      · rename_i r' h'
        simp only [Option.some.injEq] at h; subst h
        obtain ⟨h1, h2, h3⟩ := ih h'
        refine ⟨by simp [h1], by simp; omega, ?_⟩
        intro j
        cases j with
        | zero => simp
        | succ j =>
          have := h3 j
          simp only [List.getElem?_cons_succ, this]
          by_cases hj : k ≤ j ∧ j < k + vs.length
          · rw [if_pos hj, if_pos (by omega)]; congr 1; omega
          · rw [if_neg hj, if_neg (by omega)]
      · cases h

/-! reading cells -/
theorem add_none (b o j : Nat) : (⟨b, o, none⟩ : Addr).add j = ⟨b, o + j, none⟩ := by
  unfold Addr.add; split
  · subst j; rfl
  · rfl

theorem CellsR.cell {Γ : Ctx} {cs : List AVal} {arr : Array Value} {o : Nat} (h : CellsR Γ cs arr o) {w : World} {b : Nat} {T fz} (hb : w.heap[b]? = some (.cells arr T fz)) {j : Nat} {x : AVal}
    (hx : cs[j]? = some x) : ∃ v, w.cell? ⟨b, o + j, none⟩ = some v ∧ VR Γ x v := by
  obtain ⟨v, hv, hr⟩ := h.2 j x hx
  exact ⟨v, by simp [World.cell?, hb, hv], hr⟩

/-- what a list of cells is, in the world -/
theorem ldCells_sound {Γ : Ctx} {H : AH} {w : World} (hw : WR Γ H w) {x : AVal} {v : Value} (hx : VR Γ x v) {n : Nat} {cs : List AVal} (h : ldCells H x n = some cs) :
    ∃ b o vs, v = .pointer (some ⟨b, o, none⟩) ∧ F2 (VR Γ) cs vs ∧ vs.length = n ∧ ∀ (j : Nat) u, vs[j]? = some u → w.cell? ((⟨b, o, none⟩ : Addr).add j) = some u := by
  unfold ldCells at h
  split at h
  · rename_i id off
    cases hx; rename_i hid
    split at h
    · rename_i l hl
      obtain ⟨arr, T, fz, h1, h2, h3, h4⟩ := hw.obj _ _ hl
      have hsp := takeN_spec h
      have hex : ∀ j : Nat, ∃ u : Value, j < n → ∃ y : AVal, cs[j]? = some y ∧ w.cell? ((⟨Γ.blk id, Γ.base id + off, none⟩ : Addr).add j) = some u ∧ VR Γ y u := by
        intro j
        by_cases hj : j < n
        · have hj' : j < cs.length := by rw [hsp.2]; exact hj
          have hg := takeN_get h hj
          rw [List.getElem?_drop, List.getElem?_eq_getElem hj'] at hg
          obtain ⟨u, hu, hr⟩ := h4.cell h1 hg.symm
          refine ⟨u, fun _ => ⟨_, List.getElem?_eq_getElem hj', ?_, hr⟩⟩
          rw [add_none, Nat.add_assoc]; exact hu
        · exact ⟨undef, fun h => absurd h hj⟩
      have hf := fun j => (hex j).choose_spec
      refine ⟨_, _, (List.range n).map (fun j => (hex j).choose), rfl, F2.of_get (by simp [hsp.2]) ?_, by simp, ?_⟩
      · intro j x v hx' hv
        simp only [List.getElem?_map, Option.map_eq_some_iff] at hv
        obtain ⟨i, hi, rfl⟩ := hv
        have hij : i = j ∧ j < n := by
          rw [List.getElem?_eq_some_iff] at hi
          obtain ⟨hlt, hi⟩ := hi
          simp at hlt hi; exact ⟨hi.symm, hlt⟩
        obtain ⟨rfl, hlt⟩ := hij
        obtain ⟨y, hy, _, hr⟩ := hf i hlt
        rw [hx'] at hy; cases hy; exact hr
      · intro j v hv
        simp only [List.getElem?_map, Option.map_eq_some_iff] at hv
        obtain ⟨i, hi, rfl⟩ := hv
        have hij : i = j ∧ j < n := by
          rw [List.getElem?_eq_some_iff] at hi
          obtain ⟨hlt, hi⟩ := hi
          simp at hlt hi; exact ⟨hi.symm, hlt⟩
        obtain ⟨rfl, hlt⟩ := hij
        obtain ⟨y, _, hu, _⟩ := hf i hlt
        exact hu
    · cases h
  · rename_i l
    cases hx; rename_i b o u h1 h2
    have hsp := takeN_spec h
    have hle := takeN_le h
    refine ⟨b, o, (List.range n).map u, rfl, F2.of_get (by simp [hsp.2]) ?_, by simp, ?_⟩
    · intro j x v hx' hv
      simp only [List.getElem?_map, Option.map_eq_some_iff] at hv
      obtain ⟨i, hi, rfl⟩ := hv
      have hij : i = j ∧ j < n := by
        rw [List.getElem?_eq_some_iff] at hi
        obtain ⟨hlt, hi⟩ := hi
        simp at hlt hi; exact ⟨hi.symm, hlt⟩
      obtain ⟨rfl, hlt⟩ := hij
      exact h2 i x (by rw [← takeN_get h hlt]; exact hx')
    · intro j v hv
      simp only [List.getElem?_map, Option.map_eq_some_iff] at hv
      obtain ⟨i, hi, rfl⟩ := hv
      have hij : i = j ∧ j < n := by
        rw [List.getElem?_eq_some_iff] at hi
        obtain ⟨hlt, hi⟩ := hi
        simp at hlt hi; exact ⟨hi.symm, hlt⟩
      obtain ⟨rfl, hlt⟩ := hij
      rw [add_none]
      exact hw.rho _ _ _ (h1 i (by omega))
  · cases h

theorem loadCells_list {P : Program} {w : World} {a : Addr} {vs : List Value} (h : ∀ (j : Nat) u, vs[j]? = some u → w.cell? (a.add j) = some u) :
    (loadCells a vs.length).run P w = .ok vs.toArray w := run_loadCells_list w a vs h

end Go.Pend

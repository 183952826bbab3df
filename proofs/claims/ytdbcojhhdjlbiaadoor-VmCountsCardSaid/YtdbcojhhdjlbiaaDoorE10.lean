/- A step, a region in the order of the text, code, calls: the evaluator is right. -/
import Derived.Test.YtdbcojhhdjlbiaaDoorE9
import Derived.OrdersIn
import Derived.TacticsIn
import Derived.RangeFuncLeaves
import Derived.RangeFuncIn
import Derived.RangeFuncRecord
namespace Go.Pend
open Go.RowKit (Below)

/-- what is known of a call: its answer, what memory is then -/
def ACalls (P : Program) (E : Env) (f : Nat) (args : List AVal) (H : AH) (R : AVal → AH → Prop) : Prop :=
  ∀ (Γ : Ctx) (vs : Array Value) (w : World), GOK P E Γ → F2 (VR Γ) args vs.toList → WR Γ H w →
    Calls P f vs w fun e w' => ∃ Γ' v v' H', e = .returned v' ∧ R v H' ∧ Ext Γ Γ' ∧ VR Γ' v v' ∧ WR Γ' H' w'

/-- functions that the machine enters -/
def Entered (P : Program) (f : Nat) : Prop := ∃ fn, P.funcs[f]? = some fn ∧ (fn.name == "runtime.NumGoroutine") = false ∧ fn.body.isNone = false

/-- a round, asked for by yield -/
def AYield (P : Program) (E : Env) (id : Nat) (args : List AVal) (H : AH) (v : AVal) (H' : AH) : Prop :=
  ∀ (Γ : Ctx) (vs : Array Value) (w : World), GOK P E Γ → F2 (VR Γ) args vs.toList → WR Γ H w →
    ∃ fn tmps asg body, (Instr.yield (Γ.blk id) vs).run P w = .ok (.round (Γ.blk id) fn tmps asg body) w ∧
      RoundIn Fence.wide 0 P (Γ.blk id) fn tmps asg body w fun e w' => ∃ Γ' v', e = .returned v' ∧ Ext Γ Γ' ∧ VR Γ' v v' ∧ WR Γ' H' w'

/-- a table of calls that says the truth -/
def CallOK (P : Program) (E : Env) (cf : CallF) : Prop :=
  (∀ f args H v H', cf false f args H = some (v, H') → Entered P f ∧ ACalls P E f args H fun x K => x = v ∧ K = H') ∧
  (∀ id args H v H', cf true id args H = some (v, H') → AYield P E id args H v H')

/-- the fences that code is walked in: in a round or not -/
def FOK : Bool → Fence → Prop
  | false, F => F = Fence.wide
  | true, F => ∃ l, F = Fence.wide.inRound l

theorem FOK.fn {rd : Bool} {F : Fence} (h : FOK rd F) (f : Nat) : F.fn f := by
  cases rd with
  | false => cases h; trivial
  | true => obtain ⟨l, rfl⟩ := h; trivial

theorem FOK.depth {rd : Bool} {F : Fence} (h : FOK rd F) : F.depth.isSome = true → 1 ≤ 0 := by
  cases rd with
  | false => cases h; intro h; cases h
  | true => obtain ⟨l, rfl⟩ := h; intro h; cases h

theorem FOK.calls {rd : Bool} {F : Fence} (h : FOK rd F) {P : Program} {f : FuncId} {args : Array Value} {w : World} {R : Ending → World → Prop} (k : Calls P f args w R) : CallsIn F 0 P f args w R := by
  cases rd with
  | false => cases h; exact callsIn_wide.2 k
  | true => obtain ⟨l, rfl⟩ := h; exact callsIn_wide.2 k

theorem FOK.rounds {rd : Bool} {F : Fence} (h : FOK rd F) {P : Program} {l : Nat} {f : FuncId} {tmps : Array Value} {asg body : Code} {w : World} {R : Ending → World → Prop}
    (k : RoundIn Fence.wide 0 P l f tmps asg body w R) : RoundIn F 0 P l f tmps asg body w R := by
  cases rd with
  | false => cases h; exact k
  | true => obtain ⟨l, rfl⟩ := h; exact k

theorem FOK.sem {rd : Bool} {F : Fence} (h : FOK rd F) {ρ : Operand → Value} {o : Oper} (hd : ∀ c, o.op ≠ .defer c) : o.semAt F.round ρ = execOp ρ o := by
  cases rd with
  | false => cases h; exact Oper.semAt_none ρ o
  | true => obtain ⟨l, rfl⟩ := h; exact Oper.semAt_some l ρ o hd

/-- as 'Ext', whatever marks there are -/
def ExtL (Γ Γ' : Ctx) : Prop := Ext { Γ with raw := Γ.raw, marks := Γ'.marks } Γ'

theorem Ext.loose {Γ Γ' : Ctx} (h : Ext Γ Γ') : ExtL Γ Γ' :=
  ⟨h.N0, h.w0, h.oad, h.top, h.blk, h.base, h.bsz, h.rho, h.raw, rfl, h.env⟩
theorem ExtL.refl (Γ : Ctx) : ExtL Γ Γ := (Ext.refl Γ).loose
theorem ExtL.trans {a b c : Ctx} (h : ExtL a b) (k : ExtL b c) : ExtL a c :=
  ⟨k.N0.trans h.N0, k.w0.trans h.w0, k.oad.trans h.oad, Nat.le_trans h.top k.top,
    fun i hi => (k.blk i (Nat.lt_of_lt_of_le hi h.top)).trans (h.blk i hi),
    fun i hi => (k.base i (Nat.lt_of_lt_of_le hi h.top)).trans (h.base i hi),
    fun i hi => (k.bsz i (Nat.lt_of_lt_of_le hi h.top)).trans (h.bsz i hi),
    fun b o v hv => k.rho _ _ _ (h.rho _ _ _ hv), fun b o hv => k.raw _ _ (h.raw _ _ hv), rfl, k.env.trans h.env⟩
theorem VR.extL {Γ Γ' : Ctx} (e : ExtL Γ Γ') {x : AVal} {v : Value} (h : VR Γ x v) : VR Γ' x v := (h.reraw _ _).ext e

theorem GOK.reraw {P : Program} {E : Env} {Γ : Ctx} (r : Nat → Option Obj) (m : List Nat) (h : GOK P E Γ) : GOK P E { Γ with raw := r, marks := m } :=
  ⟨fun g x hx => h.gl0 g x hx, h.opq, h.env, h.facts⟩
theorem GOK.extL {P : Program} {E : Env} {Γ Γ' : Ctx} (e : ExtL Γ Γ') (h : GOK P E Γ) : GOK P E Γ' := (h.reraw _ _).ext e

def OutR (Γ : Ctx) (out : Out) (e : Exit) (a : Act) (w : World) : Prop :=
  ∃ Γ', ExtL Γ Γ' ∧ match out, e with
    | .next s, .normal => SR Γ' s a w
    | .exit i s, .exit j => i = j ∧ SR Γ' s a w
    | .ret s, .ret => SR Γ' s a w
    | _, _ => False

/-- what is known of a piece of code -/
def ACode (P : Program) (E : Env) (rd : Bool) (c : Code) (s : St) (R : Out → Prop) : Prop :=
  ∀ (F : Fence) (Γ : Ctx) (a : Act) (w : World), FOK rd F → GOK P E Γ → SR Γ s a w → c.wpIn F 0 P (fun e a' w' => ∃ out, R out ∧ OutR Γ out e a' w') a w

section
variable {P : Program} {E : Env} {Γ : Ctx} {H : AH} {w : World} {F : Fence} {rd : Bool}

theorem sr_put {Γ' : Ctx} {s s' : St} {a : Act} {w w' : World} (hs : SR Γ s a w) (he : Ext Γ Γ') {d : Option Nat} {v : AVal} {v' : Value} {H' : AH} (hv : VR Γ' v v') (hw : WR Γ' H' w') (hp : s.put d v H' = some s') :
    SR Γ' s' (a.put d v') w' := by
  unfold St.put at hp
  split at hp
  · rename_i d
    cases hd : Nat.blt d s.nt with
    | false => rw [hd] at hp; cases hp
    | true =>
      rw [hd] at hp
      simp only [cond_true, Option.some.injEq] at hp; subst hp
      have hlt : d < s.nt := by
        have := Nat.le_of_ble_eq_true hd
        omega
      refine ⟨?_, ?_, by rw [he.marks]; exact hs.d, hw⟩
      · intro i x hx
        simp only [PT.get_set] at hx
        have hn := hs.nt
        simp only [Act.put]
        split at hx
        · subst i
          simp only [Option.some.injEq] at hx; subst hx
          exact ⟨v', by rw [Array.getElem?_setIfInBounds_self_of_lt (by omega)], hv⟩
        · rename_i hne
          obtain ⟨u, hu, hr⟩ := hs.t i x hx
          exact ⟨u, by rw [Array.getElem?_setIfInBounds_ne (by omega)]; exact hu, hr.ext he⟩
      · have hn := hs.nt
        simp only [Act.put, Array.size_setIfInBounds]; exact hn
  · simp only [Option.some.injEq] at hp; subst hp
    exact ⟨fun i x hx => let ⟨u, hu, hr⟩ := hs.t i x hx; ⟨u, hu, hr.ext he⟩, hs.nt, by rw [he.marks]; exact hs.d, hw⟩

theorem wanted_sound {s : St} {a : Act} (hs : SR Γ s a w) {ops : Array Oper} {o : Oper} {b : Bool} (h : wantedA ops.toList o s = some b) : Region.wanted o (yielded ops a.tmps) = b := by
  unfold wantedA at h
  unfold Region.wanted
  split at h
  · simp only [Option.some.injEq] at h; subst h
    rename_i hg
    rw [hg]
  · rename_i j want hg
    rw [hg]
    simp only [yielded]
    split at h
    · rename_i p hp
      have hp' : ops[j]? = some p := by simpa using hp
      rw [hp']
      simp only [Option.bind_some]
      split at h
      · rename_i d hd
        rw [hd]
        simp only [Option.bind_some]
        split at h
        · rename_i c hc
          simp only [Option.some.injEq] at h; subst h
          obtain ⟨u, hu, hr⟩ := hs.t d _ hc
          rw [hu, hr.bool_inv]
          cases c <;> cases want <;> rfl
        · rename_i x hx hne
          simp only [Option.some.injEq] at h; subst h
          obtain ⟨u, hu, hr⟩ := hs.t d _ hne
          rw [hu]
          cases u <;> try rfl
          cases hr
          exact absurd rfl (hx _)
        · cases h
      · rename_i hd
        simp only [Option.some.injEq] at h; subst h
        rw [hd]; rfl
    · rename_i hp
      simp only [Option.some.injEq] at h; subst h
      have hp' : ops[j]? = none := by simpa using hp
      rw [hp']; rfl

theorem opA_no_defer {s : St} {o : Oper} {v : AVal} {H' : AH} (h : opA E o s = some (v, H')) : ∀ c, o.op ≠ .defer c := by
  intro c hc
  unfold opA at h
  rw [hc] at h
  cases h

theorem step_sound (hE : EnvOK P E) (hG : GOK P E Γ) (hF : FOK rd F) {cf : CallF} (hcf : CallOK P E cf) {s : St} {a : Act} (hs : SR Γ s a w) {o : Oper} {v : AVal} {H' : AH} (h : stepA E cf o s = some (v, H'))
    {next : Act → World → Prop} {Q : Exit → Act → World → Prop} (hn : ∀ Γ' v' w', Ext Γ Γ' → VR Γ' v v' → WR Γ' H' w' → next (a.put o.dst v') w') : o.wpIn F 0 P a w next Q := by
  have plain : opA E o s = some (v, H') → o.wpIn F 0 P a w next Q := by
    intro h
    have hd := opA_no_defer h
    obtain ⟨Γ', v', w', h1, h2, h3, h4 | ⟨h4, rfl⟩⟩ := opA_sound hE hG hs h
    · refine ⟨fun f _ => hF.fn f, ?_⟩
      rw [hF.sem hd, h4]; exact hn Γ' v' w' h1 h2 h3
    · refine ⟨fun f _ => hF.fn f, ?_⟩
      rw [hF.sem hd, h4]; exact hn Γ' undef w' h1 h2 h3
  unfold stepA at h
  split at h
  · rename_i c hc
    have hd : ∀ c', o.op ≠ .defer c' := fun c' e => by rw [hc] at e; cases e
    split at h
    · rename_i f hf
      split at h
      · rename_i g caps args hg hargs
        obtain ⟨⟨fn, k1, k2, k3⟩, hcall⟩ := hcf.1 _ _ _ _ _ h
        have hFv := evs_sound hs hargs
        have hfun := ev_sound hs hg
        refine ⟨fun f _ => hF.fn f, ?_⟩
        rw [hF.sem hd]
        obtain ⟨dst, op, ty, pos, aft, gd⟩ := o
        obtain ⟨callee, cargs, ats⟩ := c
        simp only at hc hf hargs hFv
        subst hc hf
        cases hfe : a.eval f <;> rw [hfe] at hfun <;> try (cases hfun; done)
        rename_i fn' first captured
        cases hfun
        rename_i hl hh
        have hcaps : F2 (VR Γ) caps captured.toList := F2.of_get (by simpa using hl) (fun j x v hx hv => hh j x v hx (by simpa using hv))
        have hall : F2 (VR Γ) (args ++ caps) ((#[] ++ cargs.map a.eval) ++ captured).toList := by
          simp only [Array.toList_append, Array.toList_map, List.nil_append]
          exact hFv.append hcaps
        have hrun : (execOp a.eval ⟨dst, .call ⟨.value f, cargs, ats⟩, ty, pos, aft, gd⟩).run P w = .ok (.enter g ((#[] ++ cargs.map a.eval) ++ captured)) w := by
          show (bind (resolve a.eval ⟨.value f, cargs, ats⟩ ty) _ : Sem Next).run P w = _
          have : resolve a.eval ⟨.value f, cargs, ats⟩ ty = pure { target := .fn (.func g) captured, args := #[] ++ cargs.map a.eval } := by
            simp only [resolve, hfe]; rfl
          rw [this]
          show (callFunc g ((#[] ++ cargs.map a.eval) ++ captured)).run P w = _
          unfold callFunc
          rw [Sem.run_bind, run_program]
          simp only [Result.andThen_ok]
          rw [k1]
          simp only [k2, k3, Bool.false_eq_true, if_false]
          rfl
        rw [hrun]
        refine ⟨fun h => absurd (hF.depth h) (by omega), hF.calls ?_⟩
        refine (hcall Γ _ w hG hall hs.w).mono ?_
        rintro e w' ⟨Γ', v0, v', H0, rfl, ⟨rfl, rfl⟩, h2, h3, h4⟩
        exact hn Γ' v' w' h2 h3 h4
      · rename_i id args hg hargs
        have hy := hcf.2 _ _ _ _ _ h
        have hFv := evs_sound hs hargs
        have hfun := ev_sound hs hg
        refine ⟨fun f _ => hF.fn f, ?_⟩
        rw [hF.sem hd]
        obtain ⟨dst, op, ty, pos, aft, gd⟩ := o
        obtain ⟨callee, cargs, ats⟩ := c
        simp only at hc hf hargs hFv
        subst hc hf
        cases hfe : a.eval f <;> rw [hfe] at hfun <;> try (cases hfun; done)
        cases hfun
        rename_i hl
        have hall : F2 (VR Γ) args ((#[] ++ cargs.map a.eval) ++ #[]).toList := by
          simp only [Array.toList_append, Array.toList_map, List.nil_append, List.append_nil]
          exact hFv
        obtain ⟨fn, tmps, asg, body, h1, h2⟩ := hy Γ _ w hG hall hs.w
        have hrun : (execOp a.eval ⟨dst, .call ⟨.value f, cargs, ats⟩, ty, pos, aft, gd⟩).run P w = .ok (.round (Γ.blk id) fn tmps asg body) w := by
          show (bind (resolve a.eval ⟨.value f, cargs, ats⟩ ty) _ : Sem Next).run P w = _
          have : resolve a.eval ⟨.value f, cargs, ats⟩ ty = pure { target := .fn (.yield (Γ.blk id)) #[], args := #[] ++ cargs.map a.eval } := by
            simp only [resolve, hfe]; rfl
          rw [this, ← h1]
          rfl
        rw [hrun]
        refine ⟨fun h => absurd (hF.depth h) (by omega), hF.rounds (h2.mono ?_)⟩
        rintro e w' ⟨Γ', v', rfl, h2, h3, h4⟩
        exact hn Γ' v' w' h2 h3 h4
      · cases h
    · exact plain h
  · exact plain h

/-- one operation, guarded or not, inside a region -/
theorem one_sound (hE : EnvOK P E) (hG : GOK P E Γ) (hF : FOK rd F) {cf : CallF} (hcf : CallOK P E cf) {s s' : St} {a : Act} (hs : SR Γ s a w) {ops : Array Oper} {o : Oper} (h : oneA E cf ops.toList o s = some s')
    {next : Act → World → Prop} {Q : Exit → Act → World → Prop} (hn : ∀ Γ' a' w', Ext Γ Γ' → SR Γ' s' a' w' → next a' w') :
    if Region.wanted o (yielded ops a.tmps) then o.wpIn F 0 P a w next Q else (∀ f, o.about P w a.eval = some f → F.fn f) ∧ next (a.put o.dst undef) w := by
  unfold oneA at h
  split at h
  · rename_i hwt
    rw [wanted_sound hs hwt, if_pos rfl]
    split at h
    · rename_i v H' hst
      exact step_sound hE hG hF hcf hs hst fun Γ' v' w' h1 h2 h3 => hn Γ' _ w' h1 (sr_put hs h1 h2 h3 h)
    · cases h
  · rename_i hwt
    rw [wanted_sound hs hwt, if_neg (by simp)]
    exact ⟨fun f _ => hF.fn f, hn Γ _ w (.refl _) (sr_put hs (.refl _) (.tup rfl (by simp)) hs.w h)⟩
  · cases h

theorem ops_sound (hE : EnvOK P E) (hF : FOK rd F) {cf : CallF} (hcf : CallOK P E cf) {ops : Array Oper} {Q : Exit → Act → World → Prop} : ∀ {rest : List Oper} {Γ : Ctx} {s s' : St} {a : Act} {w : World},
    GOK P E Γ → SR Γ s a w → opsA E cf ops.toList rest s = some s' → (∀ Γ' a' w', Ext Γ Γ' → SR Γ' s' a' w' → Q .normal a' w') → wpListIn F 0 P ops Q rest a w
  | [], Γ, s, s', a, w, _, hs, h, hq => by
    simp only [opsA, Option.some.injEq] at h; subst h
    exact hq Γ a w (.refl _) hs
  | o :: rest, Γ, s, s', a, w, hG, hs, h, hq => by
    simp only [opsA] at h
    split at h
    · rename_i s1 h1
      have := one_sound (Q := Q) (next := wpListIn F 0 P ops Q rest) hE hG hF hcf hs h1 fun Γ' a' w' he hs' =>
        ops_sound hE hF hcf (hG.ext he) hs' h fun Γ'' a'' w'' he' hs'' => hq Γ'' a'' w'' (he.trans he') hs''
      simp only [wpListIn]
      exact this
    · cases h

theorem region_sound (hE : EnvOK P E) {cf : CallF} (hcf : CallOK P E cf) {id : Nat} {ops : Array Oper} {s s' : St} (h : opsA E cf ops.toList ops.toList s = some s') :
    ACode P E rd (.region id ops false) s (· = .next s') := by
  intro F Γ a w hF hG hs
  exact wpIn_region_list (ops_sound hE hF hcf hG hs h fun Γ' a' w' he hs' => ⟨_, rfl, Γ', he.loose, hs'⟩)

/-! results -/
def resF (tmps : Array Value) : ResultVar → Sem Value
  | .tmp t => pure (tmps.getD t undef)
  | .cell a t => do loadVar t (← asAddr (tmps.getD a undef))

theorem results_eq (fn : Func) (tmps : Array Value) : results fn tmps = (do let vs ← fn.results.mapM (resF tmps); pure (if h : vs.size = 1 then vs[0] else .tuple vs)) := by
  have : (fun r => match r with
    | ResultVar.tmp t => (pure (tmps.getD t undef) : Sem Value)
    | .cell a t => do loadVar t (← asAddr (tmps.getD a undef))) = resF tmps := by
    funext r; cases r <;> rfl
  unfold results
  rw [← this]
  rfl

theorem resOne_sound (hE : EnvOK P E) (hG : GOK P E Γ) {s : St} {a : Act} (hs : SR Γ s a w) {r : ResultVar} {v : AVal} (h : resOne E s r = some v) :
    ∃ v', (resF a.tmps r).run P w = .ok v' w ∧ VR Γ v v' := by
  unfold resOne at h
  split at h
  · rename_i t
    obtain ⟨u, hu, hr⟩ := hs.t t v h
    exact ⟨u, by simp [resF, Array.getD_eq_getD_getElem?, hu], hr⟩
  · rename_i t ty
    split at h
    · rename_i p hp
      obtain ⟨u, hu, hr⟩ := hs.t _ _ hp
      obtain ⟨v', k1, k2⟩ := load_sound hE hG hs.w hr h
      refine ⟨v', ?_, k2⟩
      have hg : a.tmps.getD t undef = u := by simp [Array.getD_eq_getD_getElem?, hu]
      simp only [resF, hg]
      rw [← k1]
      cases u with
      | pointer ad =>
        cases ad with
        | some ad => rfl
        | none => simp [Instr.loadAt, Instr.sureAddr] at k1
      | _ => simp [Instr.loadAt, Instr.sureAddr] at k1
    · cases h

theorem resAll_sound (hE : EnvOK P E) (hG : GOK P E Γ) {s : St} {a : Act} (hs : SR Γ s a w) : ∀ {rs : List ResultVar} {l : List AVal}, resAll E s rs = some l →
    ∃ us : List Value, (rs.mapM (resF a.tmps) : Sem (List Value)).run P w = .ok us w ∧ F2 (VR Γ) l us
  | [], l, h => by simp only [resAll, Option.some.injEq] at h; subst h; exact ⟨[], by simp, .nil⟩
  | r :: rs, l, h => by
    simp only [resAll] at h
    split at h
    · rename_i v l' h1 h2
      simp only [Option.some.injEq] at h; subst h
      obtain ⟨v', k1, k2⟩ := resOne_sound hE hG hs h1
      obtain ⟨us, k3, k4⟩ := resAll_sound hE hG hs h2
      exact ⟨v' :: us, by rw [List.mapM_cons]; simp only [Sem.run_bind, k1, k3, Result.andThen_ok, Sem.run_pure], .cons k2 k4⟩
    · cases h

theorem res_sound (hE : EnvOK P E) (hG : GOK P E Γ) {s : St} {a : Act} (hs : SR Γ s a w) {fn : Func} {v : AVal} (h : resA E fn s = some v) : ∃ v', (results fn a.tmps).run P w = .ok v' w ∧ VR Γ v v' := by
  have key : ∀ {l : List AVal}, resAll E s fn.results.toList = some l → ∃ us : List Value, F2 (VR Γ) l us ∧
      (results fn a.tmps).run P w = .ok (if h : us.toArray.size = 1 then us.toArray[0] else .tuple us.toArray) w := by
    intro l hl
    obtain ⟨us, k1, k2⟩ := resAll_sound hE hG hs hl
    refine ⟨us, k2, ?_⟩
    rw [results_eq, Sem.run_bind, Array.mapM_eq_mapM_toList, Sem.run_map, k1]
    rfl
  unfold resA at h
  split at h
  · rename_i v0 hl
    simp only [Option.some.injEq] at h; subst h
    obtain ⟨us, h1, h2⟩ := key hl
    obtain ⟨u, rfl, hu⟩ := h1.one
    exact ⟨u, h2, hu⟩
  · rename_i l hne hl
    simp only [Option.some.injEq] at h; subst h
    obtain ⟨us, h1, h2⟩ := key hl
    have hlen := h1.length
    have hn1 : us.toArray.size ≠ 1 := by
      intro e
      simp only [List.size_toArray] at e
      match l, hlen, hne with
      | [], hlen, _ => simp at hlen; simp [hlen] at e
      | [x], _, hne => exact hne _ rfl
      | x :: y :: r, hlen, _ => simp at hlen; omega
    rw [dif_neg hn1] at h2
    exact ⟨_, h2, .tup (by simpa using hlen) fun j x v hx hv => h1.get j x v hx (by simpa using hv)⟩
  · cases h

theorem sr_enter {args : List AVal} {vs : Array Value} (hargs : F2 (VR Γ) args vs.toList) (hw : WR Γ H w) (hm : Γ.marks = []) {n : Nat} (hn : args.length ≤ n) :
    SR Γ ⟨PT.ofFrom 0 args .leaf, H, n⟩ { tmps := vs ++ Array.replicate (n - vs.size) undef, defers := [] } w := by
  have hl := hargs.length
  simp only [Array.length_toList] at hl
  refine ⟨fun i x hx => ?_, by simp; omega, by simp [hm], hw⟩
  simp only [PT.get_ofFrom] at hx
  split at hx
  · rename_i hi
    simp only [Nat.zero_add, Nat.sub_zero] at hx hi
    have hi' : i < vs.size := by omega
    exact ⟨vs[i], by rw [Array.getElem?_append_left hi']; simp [hi'], hargs.get i x _ hx (by simp [hi'])⟩
  · simp [PT.get_leaf] at hx

/-- a mark is taken up -/
theorem WR.shut {Γ : Ctx} {b : Nat} {ms : List Nat} (h : WR { Γ with raw := Γ.raw, marks := b :: ms } H w) : WR { Γ with raw := Γ.raw, marks := ms } H (w.putObj b (.deferred none)) := by
  obtain ⟨k1, k2, k3⟩ := h.marks b (by simp)
  have hlt : b < w.heap.size := (Array.getElem?_eq_some_iff.1 k1).1
  have hd := List.nodup_cons.1 h.marksd
  have hone : OneBlock b w (w.putObj b (.deferred none)) := ⟨rfl, rfl, rfl, by simp [World.putObj], fun k hk => World.putObj_heap_other hk⟩
  refine ⟨hone.below k3 h.below, by rw [hone.size]; exact h.n0, h.top, ?_, ?_, h.rr, hd.2, ?_, h.old, h.own, ?_, h.inj⟩
  · intro b' o v hv
    have := h.rho b' o v hv
    have hne : b' ≠ b := by
      intro e
      subst e
      simp [World.cell?, k1] at this
    simpa [World.cell?, hone.block b' hne] using this
  · intro b' ob hv
    have hne : b' ≠ b := by
      intro e
      subst e
      have : Γ.raw b' = none := k2
      rw [show Γ.raw b' = some ob from hv] at this; cases this
    exact (hone.block b' hne).trans (h.raw b' ob hv)
  · intro b' hb
    obtain ⟨q1, q2, q3⟩ := h.marks b' (by simp; exact .inr hb)
    exact ⟨(hone.block b' fun e => hd.1 (e ▸ hb)).trans q1, q2, q3⟩
  · intro id x hx
    have := h.obj id x hx
    exact (OR.same this (hone.block _ fun e => this.no_mark (e ▸ k1))).reraw _ _

/-- marks are taken up as a function ends -/
theorem leaves_marks {fn : Func} {tmps : Array Value} {R : Ending → World → Prop} {Γ : Ctx} (hr : ∀ w', WR { Γ with raw := Γ.raw, marks := [] } H w' → ∃ v, (results fn tmps).run P w' = .ok v w' ∧ R (.returned v) w') :
    ∀ (ms : List Nat) (w : World), WR { Γ with raw := Γ.raw, marks := ms } H w → LeavesInM F 0 P fn tmps R (ms.map fun b => { target := .collected b, args := #[] }) .returning w
  | [], w, hw => hr w hw
  | b :: ms, w, hw => ⟨by simp, .inl ⟨b, _, rfl, run_takeDeferred (hw.marks b (by simp)).1, leaves_marks hr ms _ hw.shut⟩⟩

/-- from a function's code to its calls -/
theorem acalls_of_code (hE : EnvOK P E) {f : Nat} {fn : Func} {c : Code} {args : List AVal} {R : AVal → AH → Prop} (hf : P.funcs[f]? = some fn) (hb : fn.body = some c) (hn : args.length ≤ fn.ntmps)
    (h : ACode P E false c ⟨PT.ofFrom 0 args .leaf, H, fn.ntmps⟩ fun out => ∃ s v, (out = .ret s ∨ out = .next s) ∧ resA E fn s = some v ∧ R v s.H) : ACalls P E f args H R := by
  intro Γ vs w hG hargs hw
  have hG1 : GOK P E Γ.hide := hG.reraw _ _
  refine callsIn_wide.1 (callsIn_of_wp_marks (F := Fence.wide) (n := 0) hf hb trivial (wpIn_mono (h _ Γ.hide _ w rfl hG1 (sr_enter (hargs.reraw _ _) hw.hide rfl hn)) ?_))
  have fin : ∀ {s : St} {v : AVal} {Γ2 : Ctx} {a' : Act} {w' : World}, ExtL Γ.hide Γ2 → SR Γ2 s a' w' → resA E fn s = some v → R v s.H →
      LeavesInM Fence.wide 0 P fn a'.tmps (fun e w' => ∃ Γ' v v' H', e = .returned v' ∧ R v H' ∧ Ext Γ Γ' ∧ VR Γ' v v' ∧ WR Γ' H' w') a'.defers .returning w' := by
    intro s v Γ2 a' w' he hs hr hR
    rw [hs.d]
    refine leaves_marks (H := s.H) (Γ := Γ2) (fun w' hw' => ?_) Γ2.marks w' hs.w
    have hs3 : SR { Γ2 with raw := Γ2.raw, marks := [] } s { tmps := a'.tmps, defers := [] } w' :=
      ⟨fun i x hx => let ⟨u, h1, h2⟩ := hs.t i x hx; ⟨u, h1, h2.reraw _ _⟩, hs.nt, rfl, hw'⟩
    have he3 : Ext Γ.hide { Γ2 with raw := Γ2.raw, marks := [] } := ⟨he.N0, he.w0, he.oad, he.top, he.blk, he.base, he.bsz, he.rho, he.raw, rfl, he.env⟩
    obtain ⟨v', k1, k2⟩ := res_sound hE (hG1.ext he3) hs3 hr
    exact ⟨v', k1, _, v, v', s.H, rfl, hR, Ext.unhide hw he3, k2.reraw _ _, WR.unhide hw he3 hw'⟩
  rintro e a' w' ⟨out, ⟨s, v, ho, hr, hR⟩, Γ', he, hout⟩
  rcases ho with rfl | rfl
  · cases e <;> try exact hout.elim
    exact fin he hout hr hR
  · cases e <;> try exact hout.elim
    exact fin he hout hr hR

/-- a loop's body, and the loop behind it -/
def LoopWp (F : Fence) (P : Program) (c : Code) (Q : Exit → Act → World → Prop) (a : Act) (w : World) : Prop :=
  ∀ (b : Frame) (k : List Item) (cs : List Frame), b.roundOf = F.round → F.fn b.fn → F.room (cs.length + 1 + 0) →
    ∃ e a' w', Q e a' w' ∧ ArrivesIn (Machine.fenced P F) P (lone (b.atR a (.code c :: .inLoop c :: k)) cs w) b k cs e a' w'

theorem loop_of {c : Code} {Q : Exit → Act → World → Prop} {a : Act} (h : LoopWp F P c Q a w) : (Code.loop c).wpIn F 0 P Q a w :=
  fun b k cs h1 h2 h3 => let ⟨e, a', w', hq, harr⟩ := h b k cs h1 h2 h3; ⟨e, a', w', hq, .of_steps (.one (fenced_calm h2 h3 rfl) stepR_loop) harr⟩

theorem loop_round {c : Code} {Q : Exit → Act → World → Prop} {a : Act} (h : c.wpIn F 0 P (Exit.then (LoopWp F P c Q) Q) a w) : LoopWp F P c Q a w := by
  intro b k cs h1 h2 h3
  obtain ⟨e, a₁, w₁, hq, harr⟩ := h b (.inLoop c :: k) cs h1 h2 h3
  cases e with
  | normal =>
    obtain ⟨e₂, a₂, w₂, hq₂, harr₂⟩ := hq b k cs h1 h2 h3
    exact ⟨e₂, a₂, w₂, hq₂, .of_steps (StepsIn.trans harr (.one (fenced_calm h2 h3 rfl) stepR_inLoop)) harr₂⟩
  | exit id => exact ⟨_, a₁, w₁, hq, .pass (x := .inLoop c) rfl (fun _ _ => .inl (by simp)) harr⟩
  | goto l => exact ⟨_, a₁, w₁, hq, .pass (x := .inLoop c) rfl (fun _ _ => .inl (by simp)) harr⟩
  | ret => exact ⟨_, a₁, w₁, hq, .pass (x := .inLoop c) rfl (fun _ _ => .inl (by simp)) harr⟩
  | panic ch => exact ⟨_, a₁, w₁, hq, .pass (x := .inLoop c) rfl (fun _ _ => .inl (by simp)) harr⟩
  | outgrown => exact ⟨_, a₁, w₁, hq, .pass (x := .inLoop c) rfl (fun _ _ => .inl (by simp)) harr⟩

theorem OutR.ext {Γ' : Ctx} (he : ExtL Γ Γ') {out : Out} {e : Exit} {a : Act} (h : OutR Γ' out e a w) : OutR Γ out e a w :=
  let ⟨Γ'', h1, h2⟩ := h; ⟨Γ'', he.trans h1, h2⟩

end
end Go.Pend

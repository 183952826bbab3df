/- The environment out of a program; calls by reckoning. -/
import Derived.Test.YtdbcojhhdjlbiaaDoorE13
namespace Go.Pend
open Go.RowKit (Below)

section
variable {P : Program} {E : Env}

theorem mkEnv_ok (P : Program) (gl : Nat → Option AVal) (ov : Nat → Option (List AVal → AH → Option (AVal × AH))) : EnvOK P (mkEnv P gl ov) := by
  refine ⟨fun t i h => ?_, fun f fn h => ?_⟩
  · simp only [mkEnv, tyTab, PT.get_ofFrom] at h
    split at h
    · rename_i j hj
      split at hj
      · rename_i hlt
        simp only [Nat.sub_zero, List.getElem?_map, Option.map_eq_some_iff] at hj
        obtain ⟨k, hk, he⟩ := hj
        rw [List.getElem?_eq_some_iff] at hk
        obtain ⟨hlt', hk⟩ := hk
        simp only [List.getElem_range] at hk
        subst hk
        rw [he]
        simp only [Option.some.injEq] at h
        rw [h]
      · simp [PT.get_leaf] at hj
    · cases h
  · simp only [mkEnv, PT.get_ofFrom] at h
    split at h
    · simpa using h
    · simp [PT.get_leaf] at h

/-- what a program has to be for the evaluator -/
structure ProgOK (P : Program) (E : Env) : Prop where
  env : EnvOK P E
  mixed : P.follows .mixedOrders = true
  num : ∀ (f : Nat) fn, P.funcs[f]? = some fn → (fn.name == "runtime.NumGoroutine") = false
  ov : ∀ f g, E.ov f = some g → ∀ args H v H', g args H = some (v, H') → Entered P f ∧ ACalls P E f args H fun x K => x = v ∧ K = H'

theorem num_of {P : Program} (h : (P.funcs.toList.all fun fn => !(fn.name == "runtime.NumGoroutine")) = true) : ∀ (f : Nat) fn, P.funcs[f]? = some fn → (fn.name == "runtime.NumGoroutine") = false := by
  intro f fn hf
  have := List.all_eq_true.1 h fn (List.mem_of_getElem? (by simpa using hf))
  simpa using this

theorem ProgOK.code (h : ProgOK P E) {k : Nat} {rd : Bool} {c : Code} {s : St} {out : Out} (he : exec E k rd c s = some out) : ACode P E rd c s (· = out) :=
  ((exec_sound h.env h.mixed h.ov h.num k).1 rd c s out he).1

theorem ProgOK.call (h : ProgOK P E) {k f : Nat} {args : List AVal} {H : AH} {v : AVal} {H' : AH} (he : callA E (exec E k) false f args H = some (v, H')) :
    Entered P f ∧ ACalls P E f args H fun x K => x = v ∧ K = H' :=
  (exec_sound h.env h.mixed h.ov h.num k).2.1 f args H v H' he

theorem ACalls.mono {f : Nat} {args : List AVal} {H : AH} {R R' : AVal → AH → Prop} (h : ACalls P E f args H R) (hr : ∀ v K, R v K → R' v K) : ACalls P E f args H R' :=
  fun Γ vs w hG ha hw => (h Γ vs w hG ha hw).mono fun _ _ ⟨Γ', v, v', H', h1, h2, h3⟩ => ⟨Γ', v, v', H', h1, hr _ _ h2, h3⟩

/-! ## what is kept are the names under a bound; the others may be given anew -/
structure ExtK (m : Nat) (Γ Γ' : Ctx) : Prop where
  N0 : Γ'.N0 = Γ.N0
  w0 : Γ'.w0 = Γ.w0
  oad : Γ'.oad = Γ.oad
  top : m ≤ Γ'.top
  blk : ∀ i, i < m → Γ'.blk i = Γ.blk i
  base : ∀ i, i < m → Γ'.base i = Γ.base i
  bsz : ∀ i, i < m → Γ'.bsz i = Γ.bsz i
  rho : ∀ b o v, Γ.rho b o = some v → Γ'.rho b o = some v
  raw : ∀ b ob, Γ.raw b = some ob → Γ'.raw b = some ob
  env : Γ'.env = Γ.env

theorem ExtL.toK {Γ Γ' : Ctx} (h : ExtL Γ Γ') {m : Nat} (hm : m ≤ Γ.top) : ExtK m Γ Γ' :=
  ⟨h.N0, h.w0, h.oad, Nat.le_trans hm h.top, fun i hi => h.blk i (Nat.lt_of_lt_of_le hi hm), fun i hi => h.base i (Nat.lt_of_lt_of_le hi hm), fun i hi => h.bsz i (Nat.lt_of_lt_of_le hi hm), h.rho, h.raw, h.env⟩
theorem ExtK.refl {Γ : Ctx} {m : Nat} (hm : m ≤ Γ.top) : ExtK m Γ Γ := (ExtL.refl Γ).toK hm
theorem ExtK.trans {m : Nat} {a b c : Ctx} (h : ExtK m a b) (k : ExtK m b c) : ExtK m a c :=
  ⟨k.N0.trans h.N0, k.w0.trans h.w0, k.oad.trans h.oad, k.top, fun i hi => (k.blk i hi).trans (h.blk i hi), fun i hi => (k.base i hi).trans (h.base i hi), fun i hi => (k.bsz i hi).trans (h.bsz i hi),
    fun b o v hv => k.rho _ _ _ (h.rho _ _ _ hv), fun b o hv => k.raw _ _ (h.raw _ _ hv), k.env.trans h.env⟩
theorem GOK.extK {m : Nat} {Γ Γ' : Ctx} (e : ExtK m Γ Γ') (h : GOK P E Γ) : GOK P E Γ' :=
  ⟨fun g x hx => let ⟨v, h1, h2⟩ := h.gl0 g x hx; ⟨v, e.rho _ _ _ h1, fun Γ'' k1 k2 => h2 Γ'' (k1.trans e.oad) fun b o v hv => k2 b o v (e.rho _ _ _ hv)⟩,
   fun c d w h1 h2 hb => by rw [e.oad]; exact h.opq c d w h1 h2 (by rw [← e.N0, ← e.w0]; exact hb),
   e.env.trans h.env, h.facts⟩

def OutK (m : Nat) (Γ : Ctx) (out : Out) (e : Exit) (a : Act) (w : World) : Prop :=
  ∃ Γ', ExtK m Γ Γ' ∧ match out, e with
    | .next s, .normal => SR Γ' s a w
    | .exit i s, .exit j => i = j ∧ SR Γ' s a w
    | .ret s, .ret => SR Γ' s a w
    | _, _ => False

theorem OutK.ext {m : Nat} {Γ Γ' : Ctx} (he : ExtK m Γ Γ') {out : Out} {e : Exit} {a : Act} {w : World} (h : OutK m Γ' out e a w) : OutK m Γ out e a w :=
  let ⟨Γ'', h1, h2⟩ := h; ⟨Γ'', he.trans h1, h2⟩

theorem OutR.toK {m : Nat} {Γ : Ctx} (hm : m ≤ Γ.top) {out : Out} {e : Exit} {a : Act} {w : World} (h : OutR Γ out e a w) : OutK m Γ out e a w :=
  let ⟨Γ', h1, h2⟩ := h; ⟨Γ', h1.toK hm, h2⟩

/-- what is known of a piece of code, where the names under 'm' are kept -/
def ACodeK (P : Program) (E : Env) (rd : Bool) (m : Nat) (c : Code) (s : St) (R : Out → Prop) : Prop :=
  ∀ (F : Fence) (Γ : Ctx) (a : Act) (w : World), FOK rd F → GOK P E Γ → SR Γ s a w → c.wpIn F 0 P (fun e a' w' => ∃ out, R out ∧ OutK m Γ out e a' w') a w

theorem ACode.toK {rd : Bool} {m : Nat} {c : Code} {s : St} {R : Out → Prop} (h : ACode P E rd c s R) (hm : m ≤ s.H.n) : ACodeK P E rd m c s R :=
  fun F Γ a w hF hG hs => wpIn_mono (h F Γ a w hF hG hs) fun _ _ _ ⟨o, h1, h2⟩ => ⟨o, h1, h2.toK (hs.w.top ▸ hm)⟩

theorem ACodeK.mono {rd : Bool} {m : Nat} {c : Code} {s : St} {R R' : Out → Prop} (h : ACodeK P E rd m c s R) (hr : ∀ o, R o → R' o) : ACodeK P E rd m c s R' :=
  fun F Γ a w hF hG hs => wpIn_mono (h F Γ a w hF hG hs) fun _ _ _ ⟨o, h1, h2⟩ => ⟨o, hr o h1, h2⟩

/-! code, piece by piece -/
theorem acode_seq {rd : Bool} {m : Nat} {x y : Code} {s : St} {R : Out → Prop} (h : ACodeK P E rd m x s fun o => match o with | .next s' => ACodeK P E rd m y s' R | o => R o) : ACodeK P E rd m (.seq x y) s R := by
  intro F Γ a w hF hG hs
  refine wpIn_seq (wpIn_mono (h F Γ a w hF hG hs) ?_)
  rintro e a' w' ⟨o, hR, Γ', he, ho⟩
  cases o with
  | next s' =>
    cases e <;> try exact ho.elim
    exact wpIn_mono (hR F Γ' a' w' hF (hG.extK he) ho) fun e a w ⟨o, h1, h2⟩ => ⟨o, h1, h2.ext he⟩
  | exit i s' => cases e <;> first | exact ho.elim | exact ⟨_, hR, Γ', he, ho⟩
  | ret s' => cases e <;> first | exact ho.elim | exact ⟨_, hR, Γ', he, ho⟩

theorem acode_cond {rd : Bool} {m : Nat} {c : Operand} {x y : Code} {s : St} {b : Bool} {R : Out → Prop} (hc : s.ev c = some (.bool b)) (ht : b = true → ACodeK P E rd m x s R) (hf : b = false → ACodeK P E rd m y s R) : ACodeK P E rd m (.cond c x y) s R := by
  intro F Γ a w hF hG hs
  cases b with
  | true => exact wpIn_cond_true (ev_sound hs hc).bool_inv (ht rfl F Γ a w hF hG hs)
  | false => exact wpIn_cond_false (ev_sound hs hc).bool_inv (hf rfl F Γ a w hF hG hs)

theorem acode_block {rd : Bool} {m : Nat} {id : Nat} {x : Code} {s : St} {R : Out → Prop} (h : ACodeK P E rd m x s fun o => match o with | .exit i s' => if i = id then R (.next s') else R (.exit i s') | o => R o) :
    ACodeK P E rd m (.block id x) s R := by
  intro F Γ a w hF hG hs
  refine wpIn_block (wpIn_mono (h F Γ a w hF hG hs) ?_)
  rintro e a' w' ⟨o, hR, Γ', he, ho⟩
  cases o with
  | next s' => cases e <;> first | exact ho.elim | exact ⟨_, hR, Γ', he, ho⟩
  | ret s' => cases e <;> first | exact ho.elim | exact ⟨_, hR, Γ', he, ho⟩
  | exit i s' =>
    cases e <;> try exact ho.elim
    rename_i j
    obtain ⟨hij, ho⟩ := ho
    subst hij
    simp only [Exit.inBlock]
    split
    · rename_i hid
      simp only [hid, if_true] at hR
      exact ⟨_, hR, Γ', he, ho⟩
    · rename_i hid
      simp only [hid, if_false] at hR
      exact ⟨_, hR, Γ', he, rfl, ho⟩

/-- a loop, with what holds at its head, and a number that falls -/
theorem acode_loop {rd : Bool} {m : Nat} {c : Code} {s : St} {R : Out → Prop} (I : St → Nat → Prop) (n : Nat) (h0 : I s n)
    (h : ∀ s n, I s n → ACodeK P E rd m c s fun o => match o with | .next s' => ∃ m, m < n ∧ I s' m | o => R o) : ACodeK P E rd m (.loop c) s R := by
  have key : ∀ n s, I s n → ∀ (F : Fence) (Γ : Ctx) (a : Act) (w : World), FOK rd F → GOK P E Γ → SR Γ s a w → LoopWp F P c (fun e a' w' => ∃ o, R o ∧ OutK m Γ o e a' w') a w := by
    intro n
    induction n using Nat.strongRecOn with
    | _ n ih =>
      intro s hI F Γ a w hF hG hs
      refine loop_round (wpIn_mono (h s n hI F Γ a w hF hG hs) ?_)
      rintro e a' w' ⟨o, hR, Γ', he, ho⟩
      cases o with
      | next s' =>
        cases e <;> try exact ho.elim
        obtain ⟨m, hm, hI'⟩ := hR
        intro b kk cs k1 k2 k3
        obtain ⟨e, a2, w2, ⟨o, h2, h3⟩, h4⟩ := ih m hm s' hI' F Γ' a' w' hF (hG.extK he) ho b kk cs k1 k2 k3
        exact ⟨e, a2, w2, ⟨o, h2, h3.ext he⟩, h4⟩
      | exit i s' => cases e <;> first | exact ho.elim | exact ⟨_, hR, Γ', he, ho⟩
      | ret s' => cases e <;> first | exact ho.elim | exact ⟨_, hR, Γ', he, ho⟩
  exact fun F Γ a w hF hG hs => loop_of (key n s h0 F Γ a w hF hG hs)

theorem acode_exit {rd : Bool} {m : Nat} {id : Nat} {s : St} {R : Out → Prop} (hm : m ≤ s.H.n) (h : R (.exit id s)) : ACodeK P E rd m (.exit id) s R :=
  fun F Γ a w hF hG hs => wpIn_exit (n := 0) ⟨_, h, Γ, .refl (hs.w.top ▸ hm), rfl, hs⟩

theorem acode_ret {rd : Bool} {m : Nat} {s : St} {R : Out → Prop} (hm : m ≤ s.H.n) (h : R (.ret s)) : ACodeK P E rd m .ret s R :=
  fun F Γ a w hF hG hs => wpIn_ret (n := 0) ⟨_, h, Γ, .refl (hs.w.top ▸ hm), hs⟩

theorem acode_skip {rd : Bool} {m : Nat} {s : St} {R : Out → Prop} (hm : m ≤ s.H.n) (h : R (.next s)) : ACodeK P E rd m .skip s R :=
  fun F Γ a w hF hG hs => wpIn_skip (n := 0) ⟨_, h, Γ, .refl (hs.w.top ▸ hm), hs⟩

/-- a piece of code by reckoning -/
theorem ProgOK.run (h : ProgOK P E) {k : Nat} {rd : Bool} {m : Nat} {c : Code} {s : St} {out : Out} {R : Out → Prop} (he : exec E k rd c s = some out) (hm : m ≤ s.H.n) (hR : R out) : ACodeK P E rd m c s R :=
  ((h.code he).toK hm).mono fun _ e => e ▸ hR

/-- from a function's code to its calls -/
theorem acalls_of_codeK (hE : EnvOK P E) {f : Nat} {fn : Func} {c : Code} {args : List AVal} {H : AH} {R : AVal → AH → Prop} (hf : P.funcs[f]? = some fn) (hb : fn.body = some c) (hn : args.length ≤ fn.ntmps)
    (h : ACodeK P E false H.n c ⟨PT.ofFrom 0 args .leaf, H, fn.ntmps⟩ fun out => ∃ s v, (out = .ret s ∨ out = .next s) ∧ resA E fn s = some v ∧ R v s.H) : ACalls P E f args H R := by
  intro Γ vs w hG hargs hw
  have hG1 : GOK P E Γ.hide := hG.reraw _ _
  refine callsIn_wide.1 (callsIn_of_wp_marks (F := Fence.wide) (n := 0) hf hb trivial (wpIn_mono (h _ Γ.hide _ w rfl hG1 (sr_enter (hargs.reraw _ _) hw.hide rfl hn)) ?_))
  have fin : ∀ {s : St} {v : AVal} {Γ2 : Ctx} {a' : Act} {w' : World}, ExtK H.n Γ.hide Γ2 → SR Γ2 s a' w' → resA E fn s = some v → R v s.H →
      LeavesInM Fence.wide 0 P fn a'.tmps (fun e w' => ∃ Γ' v v' H', e = .returned v' ∧ R v H' ∧ Ext Γ Γ' ∧ VR Γ' v v' ∧ WR Γ' H' w') a'.defers .returning w' := by
    intro s v Γ2 a' w' he hs hr hR
    rw [hs.d]
    refine leaves_marks (H := s.H) (Γ := Γ2) (fun w' hw' => ?_) Γ2.marks w' hs.w
    have hs3 : SR { Γ2 with raw := Γ2.raw, marks := [] } s { tmps := a'.tmps, defers := [] } w' :=
      ⟨fun i x hx => let ⟨u, h1, h2⟩ := hs.t i x hx; ⟨u, h1, h2.reraw _ _⟩, hs.nt, rfl, hw'⟩
    have ht := hw.top
    have he3 : Ext Γ.hide { Γ2 with raw := Γ2.raw, marks := [] } :=
      ⟨he.N0, he.w0, he.oad, ht ▸ he.top, fun i hi => he.blk i (by rw [ht]; exact hi), fun i hi => he.base i (by rw [ht]; exact hi), fun i hi => he.bsz i (by rw [ht]; exact hi), he.rho, he.raw, rfl, he.env⟩
    obtain ⟨v', k1, k2⟩ := res_sound hE (hG1.ext he3) hs3 hr
    exact ⟨v', k1, _, v, v', s.H, rfl, hR, Ext.unhide hw he3, k2.reraw _ _, WR.unhide hw he3 hw'⟩
  rintro e a' w' ⟨out, ⟨s, v, ho, hr, hR⟩, Γ', he, hout⟩
  rcases ho with rfl | rfl
  · cases e <;> try exact hout.elim
    exact fin he hout hr hR
  · cases e <;> try exact hout.elim
    exact fin he hout hr hR

end

end Go.Pend

/- Loops whose unknowns change from round to round. -/
import Derived.Test.YtdbcojhhdjlbiaaDoorE20
namespace Go.Pend
open Go.RowKit (Below)

/-! ## what hangs on no unknowns but these -/
def usesT (vs : List Nat) : List (Nat × Int) → Bool
  | [] => true
  | (v, _) :: l => vs.any (Nat.beq v) && usesT vs l

mutual
def AVal.uses (vs : List Nat) : AVal → Bool
  | .sym l => usesT vs l.ts
  | .rop cs => AVal.usess vs cs
  | .fn _ cs => AVal.usess vs cs
  | .ifc _ v => AVal.uses vs v
  | .agg cs => AVal.usess vs cs
  | .tup cs => AVal.usess vs cs
  | .ro _ _ => false
  | _ => true
def AVal.usess (vs : List Nat) : List AVal → Bool
  | [] => true
  | x :: r => AVal.uses vs x && AVal.usess vs r
end

theorem usess_get {vs : List Nat} : ∀ {l : List AVal}, AVal.usess vs l = true → ∀ (j : Nat) x, l[j]? = some x → x.uses vs = true
  | [], _, j, x, h => by simp at h
  | y :: l, hl, j, x, h => by
    simp only [AVal.usess, Bool.and_eq_true] at hl
    cases j with
    | zero => simp at h; subst h; exact hl.1
    | succ j => exact usess_get hl.2 j x (by simpa using h)

/-- two that agree on some unknowns -/
structure Agree (vs : List Nat) (e e' : SEnv) : Prop where
  v : ∀ u, u ∈ vs → e'.v u = e.v u
  rows : e'.rows = e.rows

theorem usesT_eval {vs : List Nat} {e e' : SEnv} (h : Agree vs e e') : ∀ {l : List (Nat × Int)}, usesT vs l = true → evalT e'.v l = evalT e.v l
  | [], _ => rfl
  | (v, c) :: l, hl => by
    simp only [usesT, Bool.and_eq_true] at hl
    obtain ⟨u, hu, he⟩ := List.any_eq_true.1 hl.1
    have := Nat.eq_of_beq_eq_true he
    subst this
    simp only [evalT, usesT_eval h hl.2, h.v v hu]

theorem VR.fresh {Γ : Ctx} {vs : List Nat} {e : SEnv} (ha : Agree vs Γ.env e) {x : AVal} {v : Value} (h : VR Γ x v) : x.uses vs = true → VR (Γ.re e) x v := by
  induction h with
  | bool b => exact fun _ => .bool b
  | int k n => exact fun _ => .int k n
  | str s => exact fun _ => .str s
  | pnil => exact fun _ => .pnil
  | ptr h => exact fun _ => .ptr (Γ := Γ.re e) h
  | rop u h1 _ ih => exact fun hl => .rop u h1 fun j x hx => ih j x hx (usess_get hl j x hx)
  | glob g => exact fun _ => .glob g
  | opq n => exact fun _ => .opq (Γ := Γ.re e) n
  | nosNil => exact fun _ => .nosNil
  | nosSome a => exact fun _ => .nosSome a
  | slc h hc hf => exact fun _ => .slc (Γ := Γ.re e) h hc hf
  | slc0 a => exact fun _ => .slc0 a
  | roNil => intro h; cases h
  | ro u hl hc hs hz h1 _ ih => intro h; cases h
  | mnil => exact fun _ => .mnil
  | map h => exact fun _ => .map (Γ := Γ.re e) h
  | fnil => exact fun _ => .fnil
  | fn hl _ ih => exact fun hw => .fn hl fun j x v hx hv => ih j x v hx hv (usess_get hw j x hx)
  | inil => exact fun _ => .inil
  | ifc _ ih => exact fun hw => .ifc (ih hw)
  | agg hl _ ih => exact fun hw => .agg hl fun j x v hx hv => ih j x v hx hv (usess_get hw j x hx)
  | tup hl _ ih => exact fun hw => .tup hl fun j x v hx hv => ih j x v hx hv (usess_get hw j x hx)
  | yld h => exact fun _ => .yld (Γ := Γ.re e) h
  | sym l =>
    intro hw
    have : l.eval Γ.env.v = l.eval e.v := by simp only [Lin.eval, usesT_eval ha hw]
    rw [this]; exact .sym (Γ := Γ.re e) l
  | arrNil h => intro _; exact .arrNil (Γ := Γ.re e) (by show e.rows _ = _; rw [ha.rows]; exact h)
  | arr hl hc hs hz h1 =>
    intro _
    have hr : (Γ.re e).env.rows = Γ.env.rows := ha.rows
    exact .arr (Γ := Γ.re e) (by rw [hr]; exact hl) hc (by rw [hr]; exact hs) (by rw [hr]; exact hz) (by rw [hr]; exact h1)

def AObj.uses (vs : List Nat) : AObj → Bool
  | .cells cs => AVal.usess vs cs
  | .map es => es.all fun e => e.1.uses vs && e.2.uses vs
  | .loop _ => false

theorem OR.fresh {Γ : Ctx} {vs : List Nat} {e : SEnv} (ha : Agree vs Γ.env e) {id : Nat} {x : AObj} {w : World} (h : OR Γ id x w) (hl : x.uses vs = true) : OR (Γ.re e) id x w := by
  cases x with
  | cells cs =>
    obtain ⟨arr, T, fz, h1, h2, h3, h4⟩ := h
    exact ⟨arr, T, fz, h1, h2, h3, h4.1, fun j x hx => let ⟨v, hv, hr⟩ := h4.2 j x hx; ⟨v, hv, hr.fresh ha (usess_get hl j x hx)⟩⟩
  | map es =>
    obtain ⟨ent, clk, h1, h2, h3, h4⟩ := h
    refine ⟨ent, clk, h1, ?_, h3, h4⟩
    refine F2.of_get h2.length fun j x e hx he => ?_
    have := h2.get j x e hx he
    have hb := List.all_eq_true.1 hl x (List.mem_of_getElem? hx)
    rw [Bool.and_eq_true] at hb
    exact ⟨this.1.fresh ha hb.1, this.2.fresh ha hb.2⟩
  | loop l => cases hl

def SD.uses (vs : List Nat) (d : SD) : Bool := d.T.all (fun p => p.2.uses vs) && d.O.all (fun p => p.2.uses vs)

theorem SR.fresh {Γ : Ctx} {vs : List Nat} {e : SEnv} (ha : Agree vs Γ.env e) {d : SD} {a : Act} {w : World} (h : SR Γ d.st a w) (hl : d.uses vs = true) : SR (Γ.re e) d.st a w := by
  simp only [SD.uses, Bool.and_eq_true] at hl
  have ht : ∀ i x, (mkT d.T).get i = some x → x.uses vs = true := fun i x hx => List.all_eq_true.1 hl.1 _ (mkT_get hx)
  have ho : ∀ i x, (mkT d.O).get i = some x → x.uses vs = true := fun i x hx => List.all_eq_true.1 hl.2 _ (mkT_get hx)
  exact ⟨fun i x hx => let ⟨v, h1, h2⟩ := h.t i x hx; ⟨v, h1, h2.fresh ha (ht i x hx)⟩, h.nt, h.d,
    ⟨h.w.below, h.w.n0, h.w.top, h.w.rho, h.w.raw, h.w.rr, h.w.marksd, h.w.marks, h.w.old, h.w.own, fun i x hx => (h.w.obj i x hx).fresh ha (ho i x hx), h.w.inj⟩⟩

/-- from a state to one that is written down, under other unknowns -/
structure To (m : Nat) (e e' : SEnv) (s : St) (d : SD) : Prop where
  to : ∃ σ ks L vs, keepsB m 0 L = true ∧ cutRe σ ks L s d = true ∧ d.uses vs = true ∧ Agree vs (e.sub σ) e'

theorem SR.to {m : Nat} {Γ0 Γ : Ctx} {e e' : SEnv} {s : St} {d : SD} {a : Act} {w : World} (h : SR Γ s a w) (hk : ExtK m Γ0 Γ) (he : Γ.env = e) (ht : To m e e' s d) :
    ∃ Γ', SR Γ' d.st a w ∧ ExtK m (Γ0.re e') Γ' ∧ Γ'.env = e' := by
  obtain ⟨σ, ks, L, vs, k1, k2, k3, k4⟩ := ht.to
  obtain ⟨s', q1, q2⟩ := cutRe_spec k2
  have h1 := h.ren q1
  have h2 := h1.re q2
  have h3 := SR.fresh (Γ := (Γ.ren L).re ((Γ.ren L).env.sub σ)) (e := e') (vs := vs) (by show Agree vs (Γ.env.sub σ) e'; rw [he]; exact k4) h2 k3
  have hk2 := hk.ren (keeps_of k1)
  exact ⟨_, h3, ⟨hk2.N0, hk2.w0, hk2.oad, hk2.top, hk2.blk, hk2.base, hk2.bsz, hk2.rho, hk2.raw, rfl⟩, rfl⟩

inductive OutTo (m : Nat) (e e' : SEnv) : Out → Out → Prop where
  | next {s d} (h : To m e e' s d) : OutTo m e e' (.next s) (.next d.st)
  | exit {i s d} (h : To m e e' s d) : OutTo m e e' (.exit i s) (.exit i d.st)
  | ret {s d} (h : To m e e' s d) : OutTo m e e' (.ret s) (.ret d.st)

section
variable {P : Program}

/-- a family of environments that differ in the unknowns, and in what is known of them -/
structure Fam (EE : SEnv → List Fact → Env) : Prop where
  gl : ∀ e F e' F', (EE e F).gl = (EE e' F').gl
  env : ∀ e F, (EE e F).env = e
  facts : ∀ e F, (EE e F).facts = F

theorem GOK.re {EE : SEnv → List Fact → Env} (hf : Fam EE) {e e' : SEnv} {F F' : List Fact} {Γ : Ctx} (h : GOK P (EE e F) Γ) (hk : Known e' F') {Γ' : Ctx} (hx : ExtK 0 (Γ.re e') Γ') (he : Γ'.env = e') : GOK P (EE e' F') Γ' :=
  ⟨fun g x hg => by
      obtain ⟨v, h1, h2⟩ := h.gl0 g x (by rw [hf.gl e F e' F']; exact hg)
      exact ⟨v, hx.rho _ _ _ h1, fun Γ'' k1 k2 => h2 Γ'' (k1.trans hx.oad) fun b o v hv => k2 b o v (hx.rho _ _ _ hv)⟩,
   fun c d w h1 h2 hb => by
      rw [hx.oad]
      exact h.opq c d w (by rw [hf.gl e F e' F']; exact h1) (by rw [hf.gl e F e' F']; exact h2) (by
        have q1 : Γ'.N0 = Γ.N0 := hx.N0
        have q2 : Γ'.w0 = Γ.w0 := hx.w0
        rw [q1, q2] at hb; exact hb),
   he.trans (hf.env e' F').symm, by rw [hf.env, hf.facts]; exact hk⟩

theorem ExtK.zero {m : Nat} {Γ Γ' : Ctx} (h : ExtK m Γ Γ') : ExtK 0 Γ Γ' := h.mono (Nat.zero_le _)
theorem ExtK.unre {m : Nat} {Γ0 Γ : Ctx} {e : SEnv} (h : ExtK m (Γ0.re e) Γ) (e0 : SEnv) (he : Γ0.env = e0) : ExtK m Γ0 (Γ.re e0) :=
  ⟨h.N0, h.w0, h.oad, h.top, h.blk, h.base, h.bsz, h.rho, h.raw, he.symm⟩
theorem ExtK.re {m : Nat} {Γ0 Γ : Ctx} (h : ExtK m Γ0 Γ) (e : SEnv) : ExtK m (Γ0.re e) (Γ.re e) :=
  ⟨h.N0, h.w0, h.oad, h.top, h.blk, h.base, h.bsz, h.rho, h.raw, rfl⟩

/-- other unknowns ahead of code, the first ones again behind it -/
theorem ACodeK.other {EE : SEnv → List Fact → Env} (hf : Fam EE) {rd : Bool} {m : Nat} {c : Code} {s : St} {d : SD} {e e' : SEnv} {F F' : List Fact} {R : Out → Prop} (ht : To m e e' s d) (hk : Known e' F') (hm : m ≤ s.H.n)
    (h : ACodeK P (EE e' F') rd m c d.st fun o => ∃ o', OutTo m e' e o o' ∧ R o') : ACodeK P (EE e F) rd m c s R := by
  intro Fe Γ a w hF hG hs
  have he : Γ.env = e := hG.env.trans (hf.env e F)
  have hm0 : m ≤ Γ.top := hs.w.top ▸ hm
  obtain ⟨Γ1, q1, q2, q3⟩ := SR.to hs (ExtK.refl hm0) he ht
  have hG1 : GOK P (EE e' F') Γ1 := hG.re hf hk q2.zero q3
  refine wpIn_mono (h Fe Γ1 a w hF hG1 q1) ?_
  rintro ex a' w' ⟨o, ⟨o', ho, hR⟩, Γ2, hx, hout⟩
  have henv2 : Γ2.env = e' := hx.env.trans q3
  have back : ∀ {s2 : St} {d2 : SD}, To m e' e s2 d2 → SR Γ2 s2 a' w' → ∃ Γ3, ExtK m Γ Γ3 ∧ SR Γ3 d2.st a' w' := by
    intro s2 d2 ht2 hs2
    obtain ⟨Γ3, r1, r2, r3⟩ := SR.to hs2 (ExtK.refl hx.top) henv2 ht2
    refine ⟨Γ3, ?_, r1⟩
    have : ExtK m (Γ.re e') Γ2 := q2.trans hx
    have h3 := this.re e
    have h4 : ExtK m (Γ.re e) Γ3 := ExtK.trans (b := Γ2.re e) h3 r2
    exact ⟨h4.N0, h4.w0, h4.oad, h4.top, h4.blk, h4.base, h4.bsz, h4.rho, h4.raw, h4.env.trans he.symm⟩
  cases ho with
  | next ht2 => cases ex <;> first | exact hout.elim | (obtain ⟨Γ3, r1, r2⟩ := back ht2 hout; exact ⟨_, hR, Γ3, r1, r2⟩)
  | exit ht2 => cases ex <;> first | exact hout.elim | (obtain ⟨Γ3, r1, r2⟩ := back ht2 hout.2; exact ⟨_, hR, Γ3, r1, hout.1, r2⟩)
  | ret ht2 => cases ex <;> first | exact hout.elim | (obtain ⟨Γ3, r1, r2⟩ := back ht2 hout; exact ⟨_, hR, Γ3, r1, r2⟩)

/-- a loop: at its head a state that is written down, unknowns, what is known of them, a number that falls -/
theorem acode_loopE {EE : SEnv → List Fact → Env} (hf : Fam EE) {rd : Bool} {m : Nat} {c : Code} {R : Out → Prop} (I : SEnv → List Fact → SD → Nat → Prop) {e0 : SEnv}
    (h : ∀ e F d n, I e F d n → Known e F ∧ m ≤ d.n ∧ ACodeK P (EE e F) rd m c d.st fun o => match o with
      | .next s' => ∃ e' F' d' n', n' < n ∧ To m e e' s' d' ∧ I e' F' d' n'
      | o => ∃ o', OutTo m e e0 o o' ∧ R o') : ∀ {F0 d0 n0}, I e0 F0 d0 n0 → ACodeK P (EE e0 F0) rd m (.loop c) d0.st R := by
  have key : ∀ n e F d, I e F d n → ∀ (Fe : Fence) (Γ0 Γ : Ctx) (a : Act) (w : World), FOK rd Fe → Γ0.env = e0 → ExtK m (Γ0.re e) Γ → GOK P (EE e F) Γ → SR Γ d.st a w →
      LoopWp Fe P c (fun ex a' w' => ∃ o, R o ∧ OutK m Γ0 o ex a' w') a w := by
    intro n
    induction n using Nat.strongRecOn with
    | _ n ih =>
      intro e F d hI Fe Γ0 Γ a w hF h0 hx hG hs
      obtain ⟨hk, hm, hc⟩ := h e F d n hI
      have he : Γ.env = e := hG.env.trans (hf.env e F)
      refine loop_round (wpIn_mono (hc Fe Γ a w hF hG hs) ?_)
      rintro ex a' w' ⟨o, hR, Γ2, hx2, hout⟩
      have henv2 : Γ2.env = e := hx2.env.trans he
      have hx3 : ExtK m (Γ0.re e) Γ2 := hx.trans hx2
      have fin : ∀ {s2 : St} {d2 : SD}, To m e e0 s2 d2 → SR Γ2 s2 a' w' → ∃ Γ3, ExtK m Γ0 Γ3 ∧ SR Γ3 d2.st a' w' := by
        intro s2 d2 ht2 hs2
        obtain ⟨Γ3, r1, r2, r3⟩ := SR.to hs2 (ExtK.refl hx2.top) henv2 ht2
        have h3 := hx3.re e0
        have h4 : ExtK m (Γ0.re e0) Γ3 := ExtK.trans (b := Γ2.re e0) h3 r2
        exact ⟨Γ3, ⟨h4.N0, h4.w0, h4.oad, h4.top, h4.blk, h4.base, h4.bsz, h4.rho, h4.raw, h4.env.trans h0.symm⟩, r1⟩
      cases o with
      | next s' =>
        cases ex <;> try exact hout.elim
        obtain ⟨e', F', d', n', hlt, hto, hI'⟩ := hR
        obtain ⟨Γ3, r1, r2, r3⟩ := SR.to hout (ExtK.refl hx2.top) henv2 hto
        have hk' := (h e' F' d' n' hI').1
        have hG3 : GOK P (EE e' F') Γ3 := (hG.extK hx2).re hf hk' r2.zero r3
        have h4 : ExtK m (Γ0.re e') Γ3 := ExtK.trans (b := Γ2.re e') (hx3.re e') r2
        exact ih n' hlt e' F' d' hI' Fe Γ0 Γ3 a' w' hF h0 h4 hG3 r1
      | exit i s' =>
        cases ex <;> try exact hout.elim
        obtain ⟨o', ho, hR'⟩ := hR
        cases ho with
        | exit ht2 => obtain ⟨Γ3, r1, r2⟩ := fin ht2 hout.2; exact ⟨_, hR', Γ3, r1, hout.1, r2⟩
      | ret s' =>
        cases ex <;> try exact hout.elim
        obtain ⟨o', ho, hR'⟩ := hR
        cases ho with
        | ret ht2 => obtain ⟨Γ3, r1, r2⟩ := fin ht2 hout; exact ⟨_, hR', Γ3, r1, r2⟩
  intro F0 d0 n0 hI Fe Γ a w hF hG hs
  have he : Γ.env = e0 := hG.env.trans (hf.env e0 F0)
  have hm := (h e0 F0 d0 n0 hI).2.1
  have hx : ExtK m (Γ.re e0) Γ := ⟨rfl, rfl, rfl, by have := hs.w.top; rw [← this]; exact hm, fun _ _ => rfl, fun _ _ => rfl, fun _ _ => rfl, fun _ _ _ h => h, fun _ _ h => h, he⟩
  exact loop_of (key n0 e0 F0 d0 hI Fe Γ Γ a w hF he hx hG hs)

end

theorem fam1 (P : Program) (gl : Nat → Option AVal) (fs : List Nat) (K : Nat) : Fam (env1 P gl fs K) := ⟨fun _ _ _ _ => rfl, fun _ _ => rfl, fun _ _ => rfl⟩

end Go.Pend

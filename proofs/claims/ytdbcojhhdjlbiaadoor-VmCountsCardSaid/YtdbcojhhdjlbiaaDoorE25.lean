/- A row of statements by reckoning; from state to state. -/
import Derived.Test.YtdbcojhhdjlbiaaDoorE24
namespace Go.Pend
open Go.RowKit (Below)

def dropC : Nat → Code → Code
  | 0, c => c
  | n + 1, .seq _ b => dropC n b
  | _ + 1, _ => .skip

/-- so many statements of a row, each ends at its end -/
def runSp (E : Env) (k : Nat) (rd : Bool) : Nat → Code → St → Option St
  | 0, _, s => some s
  | n + 1, .seq a b, s => match exec E k rd a s with
    | some (.next s') => runSp E k rd n b s'
    | _ => none
  | _ + 1, _, _ => none

section
variable {P : Program} {E : Env}

theorem ProgOK.then (h : ProgOK P E) {k : Nat} {rd : Bool} {m : Nat} {a b : Code} {s s1 : St} {R : Out → Prop} (he : exec E k rd a s = some (.next s1)) (hm : m ≤ s.H.n) (hb : m ≤ s1.H.n → ACodeK P E rd m b s1 R) :
    ACodeK P E rd m (.seq a b) s R := by
  intro F Γ ac w hF hG hs
  refine wpIn_seq (wpIn_mono (h.code he F Γ ac w hF hG hs) ?_)
  rintro e a' w' ⟨o, rfl, Γ', hx, ho⟩
  cases e <;> try exact ho.elim
  have hs' : SR Γ' s1 a' w' := ho
  have h1 := hs.w.top
  have h2 := hs'.w.top
  have h3 : Γ.top ≤ Γ'.top := hx.top
  have hxk : ExtK m Γ Γ' := hx.toK (by omega)
  exact wpIn_mono (hb (by omega) F Γ' a' w' hF (hG.extK hxk) hs') fun e a w ⟨o, q1, q2⟩ => ⟨o, q1, q2.ext hxk⟩

theorem ProgOK.spine (h : ProgOK P E) {k : Nat} {rd : Bool} {m : Nat} {R : Out → Prop} : ∀ {n : Nat} {c : Code} {s s' : St}, runSp E k rd n c s = some s' → m ≤ s.H.n → (m ≤ s'.H.n → ACodeK P E rd m (dropC n c) s' R) → ACodeK P E rd m c s R
  | 0, c, s, s', hr, hm, hb => by
    simp only [runSp, Option.some.injEq] at hr; subst hr
    exact hb hm
  | n + 1, c, s, s', hr, hm, hb => by
    cases c <;> simp only [runSp] at hr <;> try (cases hr; done)
    rename_i a b
    split at hr
    · rename_i s1 h1
      exact h.then h1 hm fun hm1 => ProgOK.spine h hr hm1 hb
    · cases hr

theorem sub_nil (e : SEnv) (vs : List Nat) : Agree vs (e.sub []) e := ⟨fun u _ => by simp [SEnv.sub, getL, eval_var], rfl⟩

/-- a state may be cut down ahead of code, and more, or other things, be known -/
theorem ACodeK.cutTo {EE : SEnv → List Fact → Env} (hf : Fam EE) {rd : Bool} {m : Nat} {c : Code} {s : St} {d : SD} {e : SEnv} {F F' : List Fact} {R : Out → Prop} (ht : To m e e s d) (hk : Known e F') (hm : m ≤ s.H.n)
    (h : ACodeK P (EE e F') rd m c d.st R) : ACodeK P (EE e F) rd m c s R := by
  intro Fe Γ a w hF hG hs
  have he : Γ.env = e := hG.env.trans (hf.env e F)
  have hm0 : m ≤ Γ.top := hs.w.top ▸ hm
  obtain ⟨Γ1, q1, q2, q3⟩ := SR.to hs (ExtK.refl hm0) he ht
  have hG1 : GOK P (EE e F') Γ1 := hG.re hf hk q2.zero q3
  have q4 : ExtK m Γ Γ1 := ⟨q2.N0, q2.w0, q2.oad, q2.top, q2.blk, q2.base, q2.bsz, q2.rho, q2.raw, q3.trans he.symm⟩
  exact wpIn_mono (h Fe Γ1 a w hF hG1 q1) fun e a w ⟨o, h1, h2⟩ => ⟨o, h1, h2.ext q4⟩

/-- a row of statements, and its end cut down to what is written down -/
def stageB (E : Env) (k : Nat) (rd : Bool) (n : Nat) (c : Code) (s : St) (m : Nat) (ks L vs : List Nat) (d : SD) : Bool :=
  match runSp E k rd n c s with
  | some s' => keepsB m 0 L && cutRe [] ks L s' d && d.uses vs
  | none => false

theorem stage {EE : SEnv → List Fact → Env} (hf : Fam EE) {rd : Bool} {k m n : Nat} {c : Code} {s : St} {d : SD} {e : SEnv} {F F' : List Fact} {ks L vs : List Nat} {R : Out → Prop} (hP : ProgOK P (EE e F))
    (hb : stageB (EE e F) k rd n c s m ks L vs d = true) (hk : Known e F') (hm : m ≤ s.H.n) (h : ACodeK P (EE e F') rd m (dropC n c) d.st R) : ACodeK P (EE e F) rd m c s R := by
  unfold stageB at hb
  split at hb
  · rename_i s' hs
    simp only [Bool.and_eq_true] at hb
    exact hP.spine hs hm fun hm1 => ACodeK.cutTo hf ⟨[], ks, L, vs, hb.1.1, hb.1.2, hb.2, sub_nil e vs⟩ hk hm1 h
  · cases hb

end
end Go.Pend

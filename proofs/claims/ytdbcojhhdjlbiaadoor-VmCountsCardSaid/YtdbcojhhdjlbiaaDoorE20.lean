/- Environments, one over the other. -/
import Derived.Test.YtdbcojhhdjlbiaaDoorE19
namespace Go.Pend
open Go.RowKit (Below)

theorem GOK.change {P : Program} {E E' : Env} {Γ : Ctx} (h : E'.gl = E.gl) (he : E'.env = E.env) (hf : ∀ f ∈ E'.facts, f ∈ E.facts) (hG : GOK P E Γ) : GOK P E' Γ :=
  ⟨fun g x hx => hG.gl0 g x (by rw [← h]; exact hx), fun c d w h1 h2 => hG.opq c d w (by rw [← h]; exact h1) (by rw [← h]; exact h2), hG.env.trans he.symm, fun f hf' => he ▸ hG.facts f (hf f hf')⟩

theorem ACalls.env {P : Program} {E E' : Env} {f : Nat} {args : List AVal} {H : AH} {R : AVal → AH → Prop} (h : ACalls P E f args H R) (h1 : E.gl = E'.gl) (h2 : E.env = E'.env) (h3 : ∀ f ∈ E.facts, f ∈ E'.facts) : ACalls P E' f args H R :=
  fun Γ vs w hG => h Γ vs w (hG.change h1 h2 h3)

/-- the plain environment -/
def env0 (P : Program) (gl : Nat → Option AVal) (e : SEnv) : Env := { mkEnv P gl fun _ => none with env := e, facts := [] }

theorem env0_ok {P : Program} (gl : Nat → Option AVal) (e : SEnv) (hm : P.follows .mixedOrders = true) (hn : (P.funcs.toList.all fun fn => !(fn.name == "runtime.NumGoroutine")) = true) : ProgOK P (env0 P gl e) :=
  ⟨⟨(mkEnv_ok P gl fun _ => none).ty, (mkEnv_ok P gl fun _ => none).fn⟩, hm, num_of hn, fun f g h => by cases h⟩

/-- .. with functions whose maps are gone through in every order, and what is known -/
def env1 (P : Program) (gl : Nat → Option AVal) (fs : List Nat) (K : Nat) (e : SEnv) (F : List Fact) : Env :=
  { mkEnv P gl (fun f => bif fs.any (Nat.beq f) then some (ovN (env0 P gl e) K f) else none) with env := e, facts := F }

theorem env1_ok {P : Program} (gl : Nat → Option AVal) (fs : List Nat) (K : Nat) (e : SEnv) (F : List Fact) (hm : P.follows .mixedOrders = true) (hn : (P.funcs.toList.all fun fn => !(fn.name == "runtime.NumGoroutine")) = true) : ProgOK P (env1 P gl fs K e F) := by
  refine ⟨⟨(mkEnv_ok P gl fun _ => none).ty, (mkEnv_ok P gl fun _ => none).fn⟩, hm, num_of hn, fun f g h args H v H' hg => ?_⟩
  simp only [env1, mkEnv] at h
  cases hb : fs.any (Nat.beq f) with
  | false => rw [hb] at h; cases h
  | true =>
    rw [hb] at h
    simp only [cond_true, Option.some.injEq] at h; subst h
    obtain ⟨h1, h2⟩ := ovN_sound (env0_ok gl e hm hn) hg
    exact ⟨h1, h2.env rfl rfl (fun f hf => by cases hf)⟩

/-! ## the unknowns are named anew -/
def Lin.var (v : Nat) : Lin := ⟨0, [(v, 1)]⟩
def getL (v : Nat) : List (Nat × Lin) → Lin
  | [] => .var v
  | (u, l) :: r => bif Nat.beq u v then l else getL v r

def substT (σ : List (Nat × Lin)) : List (Nat × Int) → Lin
  | [] => ⟨0, []⟩
  | (v, c) :: l => ((getL v σ).scale c).add (substT σ l)
def Lin.subst (σ : List (Nat × Lin)) (l : Lin) : Lin := (⟨l.c, []⟩ : Lin).add (substT σ l.ts)

/-- what the unknowns are, after 'σ' -/
def SEnv.sub (e : SEnv) (σ : List (Nat × Lin)) : SEnv := ⟨fun v => (getL v σ).eval e.v, e.rows⟩

theorem eval_substT (e : SEnv) (σ : List (Nat × Lin)) : ∀ l, (substT σ l).eval e.v = evalT (e.sub σ).v l
  | [] => rfl
  | (v, c) :: l => by simp only [substT, eval_add, eval_scale, eval_substT e σ l, evalT, SEnv.sub]

theorem eval_subst (e : SEnv) (σ : List (Nat × Lin)) (l : Lin) : (l.subst σ).eval e.v = l.eval (e.sub σ).v := by
  simp only [Lin.subst, eval_add, eval_substT]
  simp only [Lin.eval, evalT]; omega

mutual
def AVal.reB (σ : List (Nat × Lin)) : AVal → AVal → Bool
  | .sym l, .sym m => Lin.same (m.subst σ) l
  | .int k n, .sym m => isI64 k && sameT (m.subst σ).ts [] && (IntKind.i64.wrap (m.subst σ).c == n)
  | .agg a, .agg b => AVal.reBs σ a b
  | .tup a, .tup b => AVal.reBs σ a b
  | .rop a, .rop b => AVal.reBs σ a b
  | .fn a b, .fn c d => Nat.beq a c && AVal.reBs σ b d
  | .ifc a b, .ifc c d => Nat.beq a c && AVal.reB σ b d
  | .arr a, .arr b => Nat.beq a b
  | .bool a, .bool b => a == b
  | .int k a, .int l b => decide (k = l) && (a == b)
  | .str a, .str b => a.data.toList == b.data.toList
  | .pnil, .pnil => true
  | .ptr i o, .ptr j q => Nat.beq i j && Nat.beq o q
  | .glob a, .glob b => Nat.beq a b
  | .opq a, .opq b => Nat.beq a b
  | .nos a, .nos b => a == b
  | .slc a b c d, .slc e f g h => Nat.beq a e && Nat.beq b f && Nat.beq c g && Nat.beq d h
  | .mnil, .mnil => true
  | .map a, .map b => Nat.beq a b
  | .fnil, .fnil => true
  | .inil, .inil => true
  | _, _ => false
def AVal.reBs (σ : List (Nat × Lin)) : List AVal → List AVal → Bool
  | [], [] => true
  | a :: x, b :: y => AVal.reB σ a b && AVal.reBs σ x y
  | _, _ => false
end

theorem reBs_get {σ : List (Nat × Lin)} : ∀ {l m : List AVal}, AVal.reBs σ l m = true → m.length = l.length ∧ ∀ (j : Nat) y, m[j]? = some y → ∃ x, l[j]? = some x ∧ x.reB σ y = true
  | [], [], _ => by simp
  | [], _ :: _, h => by cases h
  | _ :: _, [], h => by cases h
  | a :: l, b :: m, h => by
    simp only [AVal.reBs, Bool.and_eq_true] at h
    obtain ⟨k1, k2⟩ := reBs_get h.2
    refine ⟨by simp [k1], fun j y hy => ?_⟩
    cases j with
    | zero => simp at hy; subst hy; exact ⟨a, by simp, h.1⟩
    | succ j => simpa using k2 j y (by simpa using hy)

def Ctx.re (Γ : Ctx) (e : SEnv) : Ctx := { Γ with raw := Γ.raw, env := e }

theorem VR.re {Γ : Ctx} {σ : List (Nat × Lin)} {x : AVal} {v : Value} (h : VR Γ x v) : ∀ {y}, x.reB σ y = true → VR (Γ.re (Γ.env.sub σ)) y v := by
  induction h with
  | bool b =>
    intro y hy
    cases y <;> simp only [AVal.reB, Bool.false_eq_true] at hy
    rw [← LawfulBEq.eq_of_beq hy]; exact .bool _
  | int k n =>
    intro y hy
    cases y <;> simp only [AVal.reB, Bool.false_eq_true, Bool.and_eq_true] at hy
    · simp only [decide_eq_true_eq] at hy
      rw [← hy.1, ← LawfulBEq.eq_of_beq hy.2]; exact .int _ _
    · rename_i m
      have hk := isI64_eq hy.1.1
      have hc := eval_const Γ.env.v (sameT_eq hy.1.2)
      rw [eval_subst] at hc
      have hn : wr (m.subst σ).c = n := LawfulBEq.eq_of_beq hy.2
      have := VR.sym (Γ := Γ.re (Γ.env.sub σ)) m
      rw [show (Γ.re (Γ.env.sub σ)).env.v = (Γ.env.sub σ).v from rfl, hc] at this
      subst hk
      rw [← hn]; exact this
  | str s =>
    intro y hy
    cases y <;> simp only [AVal.reB, Bool.false_eq_true] at hy
    rename_i t
    have h2 : s.data.toList = t.data.toList := LawfulBEq.eq_of_beq hy
    have : s = t := by apply ByteArray.ext; exact Array.ext' h2
    subst this; exact .str _
  | pnil => intro y hy; cases y <;> simp only [AVal.reB, Bool.false_eq_true] at hy; exact .pnil
  | ptr h =>
    intro y hy
    cases y <;> simp only [AVal.reB, Bool.false_eq_true, Bool.and_eq_true] at hy
    rw [← Nat.eq_of_beq_eq_true hy.1, ← Nat.eq_of_beq_eq_true hy.2]
    exact .ptr (Γ := Γ.re (Γ.env.sub σ)) h
  | rop u h1 _ ih =>
    intro y hy
    cases y <;> simp only [AVal.reB, Bool.false_eq_true] at hy
    obtain ⟨k1, k2⟩ := reBs_get hy
    exact .rop u (fun j hj => h1 j (by omega)) fun j y hy => let ⟨x, hx, hr⟩ := k2 j y hy; ih j x hx hr
  | glob g => intro y hy; cases y <;> simp only [AVal.reB, Bool.false_eq_true] at hy; rw [← Nat.eq_of_beq_eq_true hy]; exact .glob g
  | opq n => intro y hy; cases y <;> simp only [AVal.reB, Bool.false_eq_true] at hy; rw [← Nat.eq_of_beq_eq_true hy]; exact .opq (Γ := Γ.re (Γ.env.sub σ)) n
  | nosNil => intro y hy; cases y <;> simp only [AVal.reB, Bool.false_eq_true] at hy; rw [← LawfulBEq.eq_of_beq hy]; exact .nosNil
  | nosSome a => intro y hy; cases y <;> simp only [AVal.reB, Bool.false_eq_true] at hy; rw [← LawfulBEq.eq_of_beq hy]; exact .nosSome a
  | slc h hc hf =>
    intro y hy
    cases y <;> simp only [AVal.reB, Bool.false_eq_true, Bool.and_eq_true] at hy
    rw [← Nat.eq_of_beq_eq_true hy.1.1.1, ← Nat.eq_of_beq_eq_true hy.1.1.2, ← Nat.eq_of_beq_eq_true hy.1.2, ← Nat.eq_of_beq_eq_true hy.2]
    exact .slc (Γ := Γ.re (Γ.env.sub σ)) h hc hf
  | slc0 a =>
    intro y hy
    cases y <;> simp only [AVal.reB, Bool.false_eq_true, Bool.and_eq_true] at hy
    rw [← Nat.eq_of_beq_eq_true hy.1.2]
    exact .slc0 a
  | roNil => intro y hy; cases y <;> simp only [AVal.reB, Bool.false_eq_true] at hy
  | ro u hl hc hs hz h1 _ ih => intro y hy; cases y <;> simp only [AVal.reB, Bool.false_eq_true] at hy
  | mnil => intro y hy; cases y <;> simp only [AVal.reB, Bool.false_eq_true] at hy; exact .mnil
  | map h =>
    intro y hy
    cases y <;> simp only [AVal.reB, Bool.false_eq_true] at hy
    rw [← Nat.eq_of_beq_eq_true hy]; exact .map (Γ := Γ.re (Γ.env.sub σ)) h
  | fnil => intro y hy; cases y <;> simp only [AVal.reB, Bool.false_eq_true] at hy; exact .fnil
  | fn hl _ ih =>
    intro y hy
    cases y <;> simp only [AVal.reB, Bool.false_eq_true, Bool.and_eq_true] at hy
    obtain ⟨k1, k2⟩ := reBs_get hy.2
    rw [← Nat.eq_of_beq_eq_true hy.1]
    exact .fn (by omega) fun j y v hy hv => let ⟨x, hx, hr⟩ := k2 j y hy; ih j x v hx hv hr
  | inil => intro y hy; cases y <;> simp only [AVal.reB, Bool.false_eq_true] at hy; exact .inil
  | ifc _ ih =>
    intro y hy
    cases y <;> simp only [AVal.reB, Bool.false_eq_true, Bool.and_eq_true] at hy
    rw [← Nat.eq_of_beq_eq_true hy.1]; exact .ifc (ih hy.2)
  | agg hl _ ih =>
    intro y hy
    cases y <;> simp only [AVal.reB, Bool.false_eq_true] at hy
    obtain ⟨k1, k2⟩ := reBs_get hy
    exact .agg (by omega) fun j y v hy hv => let ⟨x, hx, hr⟩ := k2 j y hy; ih j x v hx hv hr
  | tup hl _ ih =>
    intro y hy
    cases y <;> simp only [AVal.reB, Bool.false_eq_true] at hy
    obtain ⟨k1, k2⟩ := reBs_get hy
    exact .tup (by omega) fun j y v hy hv => let ⟨x, hx, hr⟩ := k2 j y hy; ih j x v hx hv hr
  | yld h => intro y hy; cases y <;> simp only [AVal.reB, Bool.false_eq_true] at hy
  | sym l =>
    intro y hy
    cases y <;> simp only [AVal.reB, Bool.false_eq_true] at hy
    rename_i m
    have := lin_same hy
    rw [← this, eval_subst]; exact .sym (Γ := Γ.re (Γ.env.sub σ)) m
  | arrNil h =>
    intro y hy
    cases y <;> simp only [AVal.reB, Bool.false_eq_true] at hy
    rw [← Nat.eq_of_beq_eq_true hy]; exact .arrNil (Γ := Γ.re (Γ.env.sub σ)) h
  | arr hl hc hs hz h1 =>
    intro y hy
    cases y <;> simp only [AVal.reB, Bool.false_eq_true] at hy
    rw [← Nat.eq_of_beq_eq_true hy]; exact .arr (Γ := Γ.re (Γ.env.sub σ)) hl hc hs hz h1

/-! states whose unknowns are named anew -/
def rePairs (σ : List (Nat × Lin)) : List (AVal × AVal) → List (AVal × AVal) → Bool
  | [], [] => true
  | a :: x, b :: y => AVal.reB σ a.1 b.1 && AVal.reB σ a.2 b.2 && rePairs σ x y
  | _, _ => false

def AObj.reB (σ : List (Nat × Lin)) : AObj → AObj → Bool
  | .cells a, .cells b => AVal.reBs σ a b
  | .map a, .map b => rePairs σ a b
  | _, _ => false

theorem rePairs_f2 {Γ : Ctx} {σ : List (Nat × Lin)} : ∀ {l m : List (AVal × AVal)} {es : List MapEntry}, rePairs σ l m = true → F2 (fun (x : AVal × AVal) (e : MapEntry) => VR Γ x.1 e.key ∧ VR Γ x.2 e.val) l es →
    F2 (fun (x : AVal × AVal) (e : MapEntry) => VR (Γ.re (Γ.env.sub σ)) x.1 e.key ∧ VR (Γ.re (Γ.env.sub σ)) x.2 e.val) m es
  | [], [], es, _, hf => by cases hf; exact .nil
  | [], _ :: _, _, h, _ => by cases h
  | _ :: _, [], _, h, _ => by cases h
  | a :: l, b :: m, es, h, hf => by
    simp only [rePairs, Bool.and_eq_true] at h
    cases hf with
    | cons hh ht => exact .cons ⟨hh.1.re h.1.1, hh.2.re h.1.2⟩ (rePairs_f2 h.2 ht)

theorem OR.re {Γ : Ctx} {σ : List (Nat × Lin)} {id : Nat} {x y : AObj} {w : World} (h : OR Γ id x w) (hb : x.reB σ y = true) : OR (Γ.re (Γ.env.sub σ)) id y w := by
  cases x <;> cases y <;> simp only [AObj.reB, Bool.false_eq_true] at hb
  · obtain ⟨k1, k2⟩ := reBs_get hb
    obtain ⟨arr, T, fz, h1, h2, h3, h4⟩ := h
    refine ⟨arr, T, fz, h1, h2, h3, by have := h4.1; simp only [Ctx.re]; omega, fun i y hy => ?_⟩
    obtain ⟨x, hx, hr⟩ := k2 i y hy
    obtain ⟨v, hv, hvr⟩ := h4.2 i x hx
    exact ⟨v, hv, hvr.re hr⟩
  · obtain ⟨ent, clk, h1, h2, h3, h4⟩ := h
    exact ⟨ent, clk, h1, rePairs_f2 hb h2, h3, h4⟩

/-- 's'' is 's' with less known, its unknowns named anew -/
structure Re (σ : List (Nat × Lin)) (s s' : St) : Prop where
  T : ∀ i y, s'.T.get i = some y → ∃ x, s.T.get i = some x ∧ x.reB σ y = true
  H : ∀ i y, s'.H.o.get i = some y → ∃ x, s.H.o.get i = some x ∧ x.reB σ y = true
  n : s'.H.n = s.H.n
  nt : s'.nt ≤ s.nt

theorem WR.re {Γ : Ctx} {H H' : AH} {w : World} {σ : List (Nat × Lin)} (h : WR Γ H w) (hH : ∀ i y, H'.o.get i = some y → ∃ x, H.o.get i = some x ∧ x.reB σ y = true) (hn : H'.n = H.n) : WR (Γ.re (Γ.env.sub σ)) H' w := by
  refine ⟨h.below, h.n0, hn.trans h.top, h.rho, h.raw, h.rr, h.marksd, h.marks, ?_, ?_, ?_, ?_⟩
  · intro i y hy; obtain ⟨x, hx, _⟩ := hH i y hy; exact h.old i x hx
  · intro i y hy; obtain ⟨x, hx, _⟩ := hH i y hy; exact h.own i x hx
  · intro i y hy; obtain ⟨x, hx, hr⟩ := hH i y hy; exact (h.obj i x hx).re hr
  · intro i j y z hy hz
    obtain ⟨x, hx, _⟩ := hH i y hy
    obtain ⟨x', hx', _⟩ := hH j z hz
    exact h.inj i j x x' hx hx'

theorem SR.re {Γ : Ctx} {s s' : St} {a : Act} {w : World} {σ : List (Nat × Lin)} (h : SR Γ s a w) (hr : Re σ s s') : SR (Γ.re (Γ.env.sub σ)) s' a w :=
  ⟨fun i y hy => let ⟨x, h1, h2⟩ := hr.T i y hy; let ⟨v, h3, h4⟩ := h.t i x h1; ⟨v, h3, h4.re h2⟩, Nat.le_trans hr.nt h.nt, h.d, h.w.re hr.H hr.n⟩

/-- the check -/
def reT (σ : List (Nat × Lin)) (t : PT AVal) : List (Nat × AVal) → Bool
  | [] => true
  | (k, y) :: r => (match t.get k with | some x => x.reB σ y | none => false) && reT σ t r
def reH (σ : List (Nat × Lin)) (t : PT AObj) : List (Nat × AObj) → Bool
  | [] => true
  | (k, y) :: r => (match t.get k with | some x => x.reB σ y | none => false) && reH σ t r

/-- a state out of lists -/
def mkT {α : Type} : List (Nat × α) → PT α
  | [] => .leaf
  | (k, x) :: r => (mkT r).set k x

theorem mkT_get {α : Type} : ∀ {l : List (Nat × α)} {i : Nat} {x : α}, (mkT l).get i = some x → (i, x) ∈ l
  | [], i, x, h => by simp [mkT, PT.get_leaf] at h
  | (k, y) :: r, i, x, h => by
    simp only [mkT, PT.get_set] at h
    split at h
    · subst i; cases h; simp
    · simp [mkT_get h]

theorem reT_spec {σ : List (Nat × Lin)} {t : PT AVal} : ∀ {l : List (Nat × AVal)}, reT σ t l = true → ∀ i y, (i, y) ∈ l → ∃ x, t.get i = some x ∧ x.reB σ y = true
  | [], _, i, y, h => by cases h
  | (k, z) :: r, h, i, y, hm => by
    simp only [reT, Bool.and_eq_true] at h
    rcases List.mem_cons.1 hm with e | hm
    · cases e
      have h1 := h.1
      split at h1
      · rename_i x hx; exact ⟨x, hx, h1⟩
      · cases h1
    · exact reT_spec h.2 i y hm

theorem reH_spec {σ : List (Nat × Lin)} {t : PT AObj} : ∀ {l : List (Nat × AObj)}, reH σ t l = true → ∀ i y, (i, y) ∈ l → ∃ x, t.get i = some x ∧ x.reB σ y = true
  | [], _, i, y, h => by cases h
  | (k, z) :: r, h, i, y, hm => by
    simp only [reH, Bool.and_eq_true] at h
    rcases List.mem_cons.1 hm with e | hm
    · cases e
      have h1 := h.1
      split at h1
      · rename_i x hx; exact ⟨x, hx, h1⟩
      · cases h1
    · exact reH_spec h.2 i y hm

/-- a state that is written down -/
structure SD where
  T : List (Nat × AVal)
  O : List (Nat × AObj)
  n : Nat
  nt : Nat

def SD.st (d : SD) : St := ⟨mkT d.T, ⟨mkT d.O, d.n⟩, d.nt⟩

/-- a state, cut down to 'ks', 'L', is 'd' after 'σ' -/
def cutRe (σ : List (Nat × Lin)) (ks L : List Nat) (s : St) (d : SD) : Bool :=
  match s.cut ks L with
  | some s' => reT σ s'.T d.T && reH σ s'.H.o d.O && Nat.beq d.n s'.H.n && Nat.ble d.nt s'.nt
  | none => false

theorem cutRe_spec {σ : List (Nat × Lin)} {ks L : List Nat} {s : St} {d : SD} (h : cutRe σ ks L s d = true) : ∃ s', Ren L s s' ∧ Re σ s' d.st := by
  unfold cutRe at h
  split at h
  · rename_i s' hs
    simp only [Bool.and_eq_true] at h
    obtain ⟨⟨⟨h1, h2⟩, h3⟩, h4⟩ := h
    exact ⟨s', cut_ren hs, ⟨fun i y hy => reT_spec h1 i y (mkT_get hy), fun i y hy => reH_spec h2 i y (mkT_get hy), Nat.eq_of_beq_eq_true h3, Nat.le_of_ble_eq_true h4⟩⟩
  · cases h

end Go.Pend

/- All operations together; a step; a region in the order of the text. -/
import Derived.Test.YtdbcojhhdjlbiaaDoorE8
namespace Go.Pend
open Go.RowKit (Below)

section
variable {P : Program} {E : Env} {Γ : Ctx} {H : AH} {w : World}

/-- what an operation comes to -/
def OpRes (P : Program) (Γ : Ctx) (w : World) (n : Sem Next) (v : AVal) (H' : AH) : Prop :=
  ∃ Γ' v' w', Ext Γ Γ' ∧ VR Γ' v v' ∧ WR Γ' H' w' ∧ (n.run P w = .ok (.value v') w' ∨ (n.run P w = .ok .skip w' ∧ v' = undef))

theorem Makes.res {s : Sem Value} {v : AVal} {H' : AH} (h : Makes P Γ w s v H') : OpRes P Γ w (do pure (.value (← s))) v H' := by
  obtain ⟨Γ', v', w', h1, h2, h3, h4⟩ := h
  exact ⟨Γ', v', w', h2, h3, h4, .inl (by simp [h1])⟩

theorem Gives.res {s : Sem Value} {v : AVal} (hw : WR Γ H w) (h : Gives P Γ w s v) : OpRes P Γ w (do pure (.value (← s))) v H := (h.makes hw).res

theorem opres_pure {v : AVal} {v' : Value} (hw : WR Γ H w) (h : VR Γ v v') : OpRes P Γ w (pure (.value v')) v H := ⟨Γ, v', w, .refl _, h, hw, .inl rfl⟩

theorem opres_skip {s : Sem Unit} {H' : AH} {w' : World} (hw : WR Γ H' w') (h : s.run P w = .ok () w') : OpRes P Γ w (do s; pure Next.skip) (.tup []) H' :=
  ⟨Γ, undef, w', .refl _, .tup rfl (by simp), hw, .inr ⟨by simp [h], rfl⟩⟩

theorem lift_some {o : Option AVal} {v : AVal} {H' : AH} (h : lift H o = some (v, H')) : o = some v ∧ H' = H := by
  unfold lift at h
  split at h
  · simp only [Option.some.injEq, Prod.mk.injEq] at h; obtain ⟨rfl, rfl⟩ := h; exact ⟨rfl, rfl⟩
  · cases h

theorem liftH_some {o : Option AH} {v : AVal} {H' : AH} (h : liftH o = some (v, H')) : o = some H' ∧ v = .tup [] := by
  unfold liftH at h
  split at h
  · simp only [Option.some.injEq, Prod.mk.injEq] at h; obtain ⟨rfl, rfl⟩ := h; exact ⟨rfl, rfl⟩
  · cases h

theorem F2.two {x y : AVal} {vs : List Value} (h : F2 (VR Γ) [x, y] vs) : ∃ a b, vs = [a, b] ∧ VR Γ x a ∧ VR Γ y b := by
  cases h with
  | cons h1 t => cases t with
    | cons h2 t => cases t; exact ⟨_, _, rfl, h1, h2⟩
theorem F2.one {x : AVal} {vs : List Value} (h : F2 (VR Γ) [x] vs) : ∃ a, vs = [a] ∧ VR Γ x a := by
  cases h with
  | cons h1 t => cases t; exact ⟨_, rfl, h1⟩
theorem F2.three {x y z : AVal} {vs : List Value} (h : F2 (VR Γ) [x, y, z] vs) : ∃ a b c, vs = [a, b, c] ∧ VR Γ x a ∧ VR Γ y b ∧ VR Γ z c := by
  cases h with
  | cons h1 t => cases t with
    | cons h2 t => cases t with
      | cons h3 t => cases t; exact ⟨_, _, _, rfl, h1, h2, h3⟩

theorem arr_of {α : Type} {a : Array α} {l : List α} (h : a.toList = l) : a = l.toArray := by rw [← h]

theorem builtin_sound (hE : EnvOK P E) (hG : GOK P E Γ) (hw : WR Γ H w) {b : Builtin} {ts : Array Nat} {xs : List AVal} {vs : Array Value} {consts : Array Bool} {ty : Nat} {v : AVal} {H' : AH} (hx : F2 (VR Γ) xs vs.toList)
    (h : builtinA E b ts.toList xs H = some (v, H')) : OpRes P Γ w (builtin b ts ty consts vs) v H' := by
  unfold builtinA at h
  split at h
  · rename_i t tl a0 hts
    obtain ⟨a, ha, hr⟩ := hx.one
    have := arr_of ha; subst this
    have := arr_of hts; subst this
    split at h
    · rename_i ti hti
      obtain ⟨inf, dd, z, h1, h2, h3, h4, h5, h6, h7⟩ := mkTy_spec (hE.ty _ _ hti)
      split at h
      · rename_i hk
        rw [hk] at h7
        obtain ⟨e, einf, ez', rfl, g1, g2, g3, g4, g5, g6⟩ := tk_slice h7.symm
        split at h
        · rename_i l hl
          simp only [Option.some.injEq, Prod.mk.injEq] at h; obtain ⟨rfl, rfl⟩ := h
          have hlen := lenF_spec hG.facts hl
          rw [← hG.env] at hlen
          have hv := VR.mkSym (Γ := Γ) l
          rw [← hlen] at hv
          refine Gives.res hw ⟨_, ?_, hv⟩
          show (Builtin.len_ _ ty #[a]).run P w = _
          unfold Builtin.len_
          show (bind (underlying t) _ : Sem Value).run P w = _
          rw [Sem.run_bind, rUnd h2]
          cases hr
          case arrNil hn => rw [hn]; rfl
          case arr q1 q2 q3 q4 q5 => rw [← q2]; rfl
        · cases h
      · cases h
    · cases h
  · rename_i t tl x hts
    obtain ⟨a, ha, hr⟩ := hx.one
    have := arr_of ha; subst this
    have := arr_of hts; subst this
    split at h
    · rename_i ti hti
      split at h
      · rename_i n hn
        simp only [Option.some.injEq, Prod.mk.injEq] at h; obtain ⟨rfl, rfl⟩ := h
        exact Gives.res hw ⟨_, len_sound hE hw hti hr hn, .int _ _⟩
      · cases h
    · cases h
  · rename_i t u tl s x hts
    obtain ⟨a, b, ha, hr, hr2⟩ := hx.two
    have := arr_of ha; subst this
    have := arr_of hts; subst this
    exact (append_sound hE hw hr hr2 h).res
  · rename_i x y
    obtain ⟨a, b, ha, hr, hr2⟩ := hx.two
    have := arr_of ha; subst this
    split at h
    · rename_i v0 hv
      simp only [Option.some.injEq, Prod.mk.injEq] at h; obtain ⟨rfl, rfl⟩ := h
      obtain ⟨v', k1, k2⟩ := max2_sound (P := P) (w := w) hr hr2 hv
      exact Gives.res hw ⟨v', by simp [Builtin.max_, k1], k2⟩
    · cases h
  · rename_i x y z
    obtain ⟨a, b, c, ha, hr, hr2, hr3⟩ := hx.three
    have := arr_of ha; subst this
    split at h
    · rename_i v0 hv
      split at h
      · rename_i v1 hv1
        simp only [Option.some.injEq, Prod.mk.injEq] at h; obtain ⟨rfl, rfl⟩ := h
        obtain ⟨v', k1, k2⟩ := max2_sound (P := P) (w := w) hr hr2 hv
        obtain ⟨v'', k3, k4⟩ := max2_sound (P := P) (w := w) k2 hr3 hv1
        exact Gives.res hw ⟨v'', by simp [Builtin.max_, k1, k3], k4⟩
      · cases h
    · cases h
  · rename_i x y
    obtain ⟨a, b, ha, hr, hr2⟩ := hx.two
    have := arr_of ha; subst this
    split at h
    · rename_i v0 hv
      simp only [Option.some.injEq, Prod.mk.injEq] at h; obtain ⟨rfl, rfl⟩ := h
      obtain ⟨v', k1, k2⟩ := min2_sound (P := P) (w := w) hr hr2 hv
      exact Gives.res hw ⟨v', by simp [Builtin.min_, k1], k2⟩
    · cases h
  · rename_i t tl d s hts
    obtain ⟨a, b, ha, hr, hr2⟩ := hx.two
    have := arr_of ha; subst this
    have := arr_of hts; subst this
    exact (copy_sound hE hw hr hr2 h).res
  · rename_i t tl d hts
    obtain ⟨a, ha, hr⟩ := hx.one
    have := arr_of ha; subst this
    have := arr_of hts; subst this
    exact (clear_sound hE hw hr h).res
  · cases h

theorem opt_sound {s : St} {a : Act} (hs : SR Γ s a w) (o : Option Operand) {x : Option AVal}
    (h : (match o with | none => some none | some y => match s.ev y with | some a => some (some a) | none => none) = some x) : VRo Γ x (o.map a.eval) := by
  cases o with
  | none => simp only [Option.some.injEq] at h; subst h; trivial
  | some y =>
    simp only at h
    split at h
    · rename_i v hv
      simp only [Option.some.injEq] at h; subst h
      exact ev_sound hs hv
    · cases h

theorem opA_sound (hE : EnvOK P E) (hG : GOK P E Γ) {s : St} {a : Act} (hs : SR Γ s a w) {o : Oper} {v : AVal} {H' : AH} (h : opA E o s = some (v, H')) :
    OpRes P Γ w (execOp a.eval o) v H' := by
  obtain ⟨dst, op, ty, pos, aft, gd⟩ := o
  have hw := hs.w
  cases op <;> simp only [opA] at h <;> try (cases h; done)
  case move x =>
    obtain ⟨hh, rfl⟩ := lift_some h; replace h := hh
    exact opres_pure hw (ev_sound hs h)
  case assign x =>
    obtain ⟨hh, rfl⟩ := lift_some h; replace h := hh
    exact opres_pure hw (ev_sound hs h)
  case pick c x y =>
    split at h
    · rename_i hc
      obtain ⟨hh, rfl⟩ := lift_some h; replace h := hh
      have := (ev_sound hs hc).bool_inv
      show OpRes P Γ w (do pure (.value (if ← asBool (a.eval c) then a.eval x else a.eval y))) v s.H
      rw [this]
      exact opres_pure hw (ev_sound hs h)
    · rename_i hc
      obtain ⟨hh, rfl⟩ := lift_some h; replace h := hh
      have := (ev_sound hs hc).bool_inv
      show OpRes P Γ w (do pure (.value (if ← asBool (a.eval c) then a.eval x else a.eval y))) v s.H
      rw [this]
      exact opres_pure hw (ev_sound hs h)
    · cases h
  case alloc t =>
    split at h
    · rename_i i hi
      simp only [Option.some.injEq, Prod.mk.injEq] at h; obtain ⟨rfl, rfl⟩ := h
      exact (alloc_sound hE hw hi).res
    · cases h
  case box t x =>
    split at h
    · rename_i y hy
      simp only [Option.some.injEq, Prod.mk.injEq] at h; obtain ⟨rfl, rfl⟩ := h
      exact (box_sound hw (ev_sound hs hy)).res
    · cases h
  case build t ps =>
    split at h
    · rename_i l hl
      obtain ⟨hh, rfl⟩ := lift_some h; replace h := hh
      have := evParts_sound hs hl
      exact Gives.res hw (build_sound hE (by simpa using this) h)
    · cases h
  case buildSlice t n ps =>
    split at h
    · rename_i l hl
      have := evParts_sound hs hl
      exact (buildSlice_sound hE hw (by simpa using this) h).res
    · cases h
  case load t x =>
    split at h
    · rename_i y hy
      obtain ⟨hh, rfl⟩ := lift_some h; replace h := hh
      exact Gives.res hw (load_sound hE hG hw (ev_sound hs hy) h)
    · cases h
  case store t x y =>
    split at h
    · rename_i x1 y1 hx hy
      obtain ⟨hh, rfl⟩ := liftH_some h; replace h := hh
      obtain ⟨w', k1, k2⟩ := store_sound (P := P) hE hw (ev_sound hs hx) (ev_sound hs hy) h
      exact opres_skip k2 k1
    · cases h
  case nilCheck x =>
    have key : ∀ {y}, s.ev x = some y → (match a.eval x with
        | .pointer none | .nilIface | .nilFunc => runtimePanic .nilDeref
        | .func (.method name) first captured =>
          match (first[0]? : Option Value) with
          | some .nilIface => runtimePanic .nilDeref
          | some (.iface t w) => do
            if (← nilAhead ((← program).types.size + Made.depth) t w name) != some false then
              unsupported (.noEntry "op/nilCheck.the method's receiver behind this interface value is a nil pointer, or cannot be seen to be none, and the arguments act or may panic (ledger 612)")
            pure (.value (.func (.method name) first captured))
          | _ => pure (.value (.func (.method name) first captured))
        | x => pure (.value x) : Sem Next) = pure (.value (a.eval x)) → VR Γ y (a.eval x) → OpRes P Γ w (execOp a.eval ⟨dst, .nilCheck x, ty, pos, aft, gd⟩) y s.H := by
      intro y _ he hr
      show OpRes P Γ w (match a.eval x with
        | .pointer none | .nilIface | .nilFunc => runtimePanic .nilDeref
        | .func (.method name) first captured =>
          match (first[0]? : Option Value) with
          | some .nilIface => runtimePanic .nilDeref
          | some (.iface t w) => do
            if (← nilAhead ((← program).types.size + Made.depth) t w name) != some false then
              unsupported (.noEntry "op/nilCheck.the method's receiver behind this interface value is a nil pointer, or cannot be seen to be none, and the arguments act or may panic (ledger 612)")
            pure (.value (.func (.method name) first captured))
          | _ => pure (.value (.func (.method name) first captured))
        | x => pure (.value x)) y s.H
      rw [he]
      exact opres_pure hw hr
    split at h
    all_goals try (cases h; done)
    all_goals
      rename_i hy
      simp only [Option.some.injEq, Prod.mk.injEq] at h; obtain ⟨rfl, rfl⟩ := h
      have hr := ev_sound hs hy
      refine key hy ?_ hr
      generalize a.eval x = z at hr
      cases hr
      rfl
  case binOp op t x y t2 =>
    split at h
    · rename_i x1 y1 hx hy
      obtain ⟨hh, rfl⟩ := lift_some h; replace h := hh
      exact Gives.res hw (binA_sound hE hG hw (ev_sound hs hx) (ev_sound hs hy) h)
    · cases h
  case unOp op t x =>
    split at h
    · rename_i x1 hx
      obtain ⟨hh, rfl⟩ := lift_some h; replace h := hh
      exact Gives.res hw (unA_sound (ev_sound hs hx) h)
    · cases h
  case convert src d x =>
    split at h
    · rename_i x1 hx
      exact (conv_sound hE hw (ev_sound hs hx) h).res
    · cases h
  case makeInterface t x =>
    split at h
    · rename_i x1 ti hx hti
      split at h
      · cases h
      · cases h
      · rename_i hn1 hn2
        simp only [Option.some.injEq, Prod.mk.injEq] at h; obtain ⟨rfl, rfl⟩ := h
        exact Gives.res hw ⟨_, makeInterface_sound hE hti hn1, .ifc (ev_sound hs hx)⟩
    · cases h
  case makeFunc fn first caps =>
    cases fn <;> simp only [opA] at h <;> try (cases h; done)
    rename_i f
    split at h
    · rename_i l hl hc
      simp only [Option.some.injEq, Prod.mk.injEq] at h; obtain ⟨rfl, rfl⟩ := h
      have hF := evs_sound hs hc
      have : first = #[] := arr_of hl
      subst this
      refine Gives.res hw ⟨.func (.func f) #[] (caps.map a.eval), by simp [Instr.makeFunc], .fn (by simpa using hF.length) fun j x v hx hv => hF.get j x v hx (by simpa using hv)⟩
    · cases h
  case makeMap t r =>
    cases r <;> simp only [opA] at h <;> try (cases h; done)
    simp only [Option.some.injEq, Prod.mk.injEq] at h; obtain ⟨rfl, rfl⟩ := h
    exact (makeMap_sound hw).res
  case makeSlice t l c =>
    split at h
    · rename_i x1 y1 hx hy
      exact (makeSlice_sound hE hw (ev_sound hs hx) (ev_sound hs hy) h).res
    · cases h
  case slice t x lo hi mx =>
    split at h
    · rename_i x1 lo1 hi1 mx1 hx hlo hhi hmx
      obtain ⟨hh, rfl⟩ := lift_some h; replace h := hh
      exact Gives.res hw (slice_sound hE (ev_sound hs hx) (opt_sound hs lo hlo) (opt_sound hs hi hhi) (opt_sound hs mx hmx) h)
    · cases h
  case fieldAddr t x f =>
    split at h
    · rename_i x1 hx
      obtain ⟨hh, rfl⟩ := lift_some h; replace h := hh
      exact Gives.res hw (fieldAddr_sound hE (ev_sound hs hx) h)
    · cases h
  case field t x f =>
    split at h
    · rename_i x1 hx
      obtain ⟨hh, rfl⟩ := lift_some h; replace h := hh
      exact Gives.res hw (fieldA_sound hE (ev_sound hs hx) h)
    · cases h
  case indexAddr t x i =>
    split at h
    · rename_i x1 i1 hx hi
      obtain ⟨hh, rfl⟩ := lift_some h; replace h := hh
      exact Gives.res hw (indexAddr_sound hE hG (ev_sound hs hx) (ev_sound hs hi) h)
    · cases h
  case index t x i =>
    split at h
    · rename_i x1 i1 hx hi
      obtain ⟨hh, rfl⟩ := lift_some h; replace h := hh
      exact Gives.res hw (indexA_sound hE (ev_sound hs hx) (ev_sound hs hi) h)
    · cases h
  case lookup t m k ok =>
    split at h
    · rename_i x1 i1 hx hi
      obtain ⟨hh, rfl⟩ := lift_some h; replace h := hh
      exact Gives.res hw (lookup_sound hE hw (ev_sound hs hx) (ev_sound hs hi) h)
    · cases h
  case mapUpdate t m k y =>
    split at h
    · rename_i x1 i1 y1 hx hi hy
      obtain ⟨hh, rfl⟩ := liftH_some h; replace h := hh
      obtain ⟨w', k1, k2⟩ := update_sound (P := P) hE hw (ev_sound hs hx) (ev_sound hs hi) (ev_sound hs hy) h
      exact opres_skip k2 k1
    · cases h
  case insert t m k y =>
    split at h
    · rename_i x1 i1 y1 hx hi hy
      obtain ⟨hh, rfl⟩ := liftH_some h; replace h := hh
      obtain ⟨w', k1, k2⟩ := update_sound (P := P) hE hw (ev_sound hs hx) (ev_sound hs hi) (ev_sound hs hy) h
      exact opres_skip k2 k1
    · cases h
  case typeAssert x xt t ok =>
    split at h
    · rename_i x1 hx
      obtain ⟨hh, rfl⟩ := lift_some h; replace h := hh
      exact Gives.res hw (assert_sound hE (ev_sound hs hx) h)
    · cases h
  case extract x i =>
    split at h
    · rename_i vs hx
      obtain ⟨hh, rfl⟩ := lift_some h; replace h := hh
      obtain ⟨us, hu, hF⟩ := (ev_sound hs hx).tup_inv
      have hl := hF.length
      simp only [Array.length_toList] at hl
      have hi := (List.getElem?_eq_some_iff.1 h).1
      have hi' : i < us.size := by omega
      refine Gives.res hw ⟨us[i], ?_, hF.get i _ _ h (by simp [hi'])⟩
      rw [hu]; simp [Instr.extract, hi']
    · cases h
  case call c =>
    split at h
    · rename_i b hb
      split at h
      · rename_i xs hxs
        have hF := evs_sound hs hxs
        have := builtin_sound (P := P) (ts := c.argTypes) (vs := c.args.map a.eval) (consts := c.args.map fun | .const _ => true | _ => false) (ty := ty) hE hG hw (by simpa using hF) h
        obtain ⟨callee, args, ats⟩ := c
        simp only at hb
        subst hb
        exact this
      · cases h
    · cases h

end
end Go.Pend

/- The first context: nothing is known but the world as it is. -/
import Derived.Test.YtdbcojhhdjlbiaaDoorE25
namespace Go.Pend
open Go.RowKit (Below)

/-- of a world, as a call begins -/
def ctx0 (W : World) (e : SEnv) : Ctx :=
  { N0 := W.heap.size, w0 := W, top := 0, blk := fun _ => 0, base := fun _ => 0, bsz := fun _ => 0, rho := fun b o => W.cell? ⟨b, o, none⟩, oad := fun _ => ⟨0, 0, none⟩, raw := fun _ => none, marks := [], env := e }

theorem wr0 (W : World) (e : SEnv) : WR (ctx0 W e) ⟨.leaf, 0⟩ W :=
  ⟨Below.refl _ _, Nat.le_refl _, rfl, fun _ _ _ h => h, (by intro b ob h; cases h), (by intro b ob h; cases h), .nil, (by intro b h; cases h), (by intro i x h; cases h), (by intro i x h; cases h), (by intro i x h; cases h), (by intro i j x y h; cases h)⟩

theorem gok0 {P : Program} {E : Env} (W : World) (h : ∀ g, E.gl g = none) (hf : E.facts = []) : GOK P E (ctx0 W E.env) :=
  ⟨(by intro g x hx; rw [h] at hx; cases hx), (by intro c d w hc; rw [h] at hc; cases hc), rfl, (by rw [hf]; intro f hf; cases hf)⟩

/-- from a call of the abstract machine to the model's, where the answer is 'true' -/
theorem calls_true {P : Program} {E : Env} {f : Nat} {args : List AVal} {vs : Array Value} {W : World} (hg : ∀ g, E.gl g = none) (hf : E.facts = []) (h : ACalls P E f args ⟨.leaf, 0⟩ fun v _ => v = .bool true)
    (ha : F2 (VR (ctx0 W E.env)) args vs.toList) : Calls P f vs W fun e w' => e = .returned (.bool true) ∧ Below W.heap.size W w' := by
  refine (h _ vs W (gok0 W hg hf) ha (wr0 W E.env)).mono ?_
  rintro e w' ⟨Γ', v, v', H', rfl, rfl, h1, h2, h3⟩
  cases h2
  refine ⟨rfl, ?_⟩
  have := h3.below
  rw [show Γ'.N0 = W.heap.size from h1.N0, show Γ'.w0 = W from h1.w0] at this
  exact this

end Go.Pend

/- A function of numbers alone, of numbers that are not known: its answer by cases. -/
import Derived.Test.YtdbcojhhdjlbiaaDoorE21
namespace Go.Pend
open Go.RowKit (Below)

/-- all objects are held as they are -/
noncomputable def Ctx.hold (Γ : Ctx) (H : AH) (w : World) (e : SEnv) : Ctx :=
  open Classical in { Γ with raw := fun b => if ∃ id x, H.o.get id = some x ∧ Γ.blk id = b then w.heap[b]? else Γ.raw b, env := e }

theorem WR.hold {Γ : Ctx} {H : AH} {w : World} (h : WR Γ H w) (e : SEnv) : WR (Γ.hold H w e) ⟨.leaf, H.n⟩ w := by
  have hrr : ∀ b ob, (Γ.hold H w e).raw b = some ob → ∀ o, (Γ.hold H w e).rho b o = none := by
    intro b ob hb o
    simp only [Ctx.hold] at hb
    show Γ.rho b o = none
    split at hb
    · rename_i hex
      obtain ⟨id, x, hx, rfl⟩ := hex
      exact (h.own id x hx).2.1 o
    · exact h.rr b ob hb o
  refine ⟨h.below, h.n0, h.top, h.rho, ?_, hrr, h.marksd, ?_, fun i x hx => by simp [PT.get_leaf] at hx, fun i x hx => by simp [PT.get_leaf] at hx, fun i x hx => by simp [PT.get_leaf] at hx, fun i j x y hx => by simp [PT.get_leaf] at hx⟩
  · intro b ob hb
    simp only [Ctx.hold] at hb
    split at hb
    · exact hb
    · exact h.raw b ob hb
  · intro b hb
    obtain ⟨k1, k2, k3⟩ := h.marks b hb
    refine ⟨k1, ?_, k3⟩
    simp only [Ctx.hold]
    rw [if_neg]
    · exact k2
    · rintro ⟨id, x, hx, rfl⟩
      exact (h.obj id x hx).no_mark k1

theorem Ext.unhold {Γ Γ' : Ctx} {H : AH} {w w' : World} (h : WR Γ H w) {e : SEnv} (hx : Ext (Γ.hold H w e) Γ') (h' : WR Γ' ⟨.leaf, H.n⟩ w') :
    Ext Γ { Γ' with raw := Γ.raw, env := Γ.env } ∧ WR { Γ' with raw := Γ.raw, env := Γ.env } H w' := by
  have hext : Ext Γ { Γ' with raw := Γ.raw, env := Γ.env } := ⟨hx.N0, hx.w0, hx.oad, hx.top, hx.blk, hx.base, hx.bsz, hx.rho, fun _ _ h => h, hx.marks, rfl⟩
  have hsame : ∀ id x, H.o.get id = some x → w'.heap[Γ.blk id]? = w.heap[Γ.blk id]? := by
    intro id x hid
    obtain ⟨ob, hob⟩ : ∃ ob, w.heap[Γ.blk id]? = some ob := ⟨_, Array.getElem?_eq_getElem (h.obj id x hid).lt⟩
    rw [hob]
    refine h'.raw _ _ (hx.raw _ _ ?_)
    simp only [Ctx.hold]
    rw [if_pos ⟨id, x, hid, rfl⟩]; exact hob
  have htop : Γ'.top = Γ.top := by have := h'.top; have := h.top; simp only at *; omega
  have hblk : ∀ id x, H.o.get id = some x → Γ'.blk id = Γ.blk id := fun id x hid => hx.blk id (h.old id x hid)
  refine ⟨hext, h'.below, h'.n0, by show H.n = Γ'.top; rw [htop]; exact h.top, h'.rho, ?_, ?_, ?_, ?_, ?_, ?_, ?_, ?_⟩
  · intro b ob hb
    by_cases hex : ∃ id x, H.o.get id = some x ∧ Γ.blk id = b
    · obtain ⟨id, x, hid, rfl⟩ := hex
      have := (h.own id x hid).2.2
      rw [show Γ.raw (Γ.blk id) = some ob from hb] at this; cases this
    · refine h'.raw b ob (hx.raw b ob ?_)
      simp only [Ctx.hold]
      rw [if_neg hex]; exact hb
  · intro b ob hb o
    by_cases hex : ∃ id x, H.o.get id = some x ∧ Γ.blk id = b
    · obtain ⟨id, x, hid, rfl⟩ := hex
      have := (h.own id x hid).2.2
      rw [show Γ.raw (Γ.blk id) = some ob from hb] at this; cases this
    · refine h'.rr b ob (hx.raw b ob ?_) o
      simp only [Ctx.hold]
      rw [if_neg hex]; exact hb
  · show Γ'.marks.Nodup
    exact h'.marksd
  · intro b hb
    have hb' : b ∈ Γ.marks := by have := hx.marks; rw [← show Γ'.marks = Γ.marks from this]; exact hb
    obtain ⟨k1, k2, k3⟩ := h'.marks b hb
    exact ⟨k1, (h.marks b hb').2.1, k3⟩
  · intro i x hi
    show i < Γ'.top
    rw [htop]; exact h.old i x hi
  · intro i x hi
    obtain ⟨k1, k2, k3⟩ := h.own i x hi
    refine ⟨?_, ?_, ?_⟩
    · show Γ'.N0 ≤ Γ'.blk i
      rw [hblk i x hi, show Γ'.N0 = Γ.N0 from hx.N0]; exact k1
    · intro o
      show Γ'.rho (Γ'.blk i) o = none
      rw [hblk i x hi]
      obtain ⟨ob, hob⟩ : ∃ ob, w.heap[Γ.blk i]? = some ob := ⟨_, Array.getElem?_eq_getElem (h.obj i x hi).lt⟩
      refine h'.rr _ ob (hx.raw _ _ ?_) o
      simp only [Ctx.hold]
      rw [if_pos ⟨i, x, hi, rfl⟩]; exact hob
    · show Γ.raw (Γ'.blk i) = none
      rw [hblk i x hi]; exact k3
  · intro i x hi
    have := (h.obj i x hi).same (hsame i x hi)
    exact OR.ext hext (h.old i x hi) this
  · intro i j x y hi hj hb
    have hb' : Γ.blk i = Γ.blk j := by
      have : Γ'.blk i = Γ'.blk j := hb
      rw [hblk i x hi, hblk j y hj] at this; exact this
    exact h.inj i j x y hi hj hb'

end Go.Pend

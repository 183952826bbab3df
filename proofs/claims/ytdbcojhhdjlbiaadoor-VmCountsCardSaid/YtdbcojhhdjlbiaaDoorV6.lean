/- VmCounts: what comes in, as the walk takes it. -/
import Derived.Test.YtdbcojhhdjlbiaaDoorV5
import Derived.Test.YtdbcojhhdjlbiaaDoorE26
import Derived.WalkKit
import Derived.ProofKit
namespace Go.Proofs.YtdbcojhhdjlbiaaDoor
open Go.Pend Go.ChangeShapes Go.WideShapes Go.RowKit

theorem cell_at {W : World} {a : Addr} {i : Nat} {v : Value} (h : W.cell? (a.add i) = some v) : W.cell? ⟨a.block, a.off + i, none⟩ = some v ∧ (i = 0 → a.spot = none) := by
  unfold Addr.add at h
  split at h
  · rename_i hi
    subst hi
    have hs : a.spot = none := by
      unfold World.cell? at h
      split at h
      · split at h
        · cases h
        · rename_i hn
          cases hsp : a.spot with
          | none => rfl
          | some s => rw [hsp] at hn; simp at hn
      · cases h
    refine ⟨?_, fun _ => hs⟩
    obtain ⟨b, o, s⟩ := a
    simp only at hs; subst hs
    exact h
  · rename_i hi
    exact ⟨h, fun e => absurd e hi⟩

theorem vr_row {W : World} {e : SEnv} {aid : Nat} {a : Addr} {len cap : Nat} (xs : List AVal) (hr : e.rows aid = xs.map fun x => [x]) (hl : xs.length = len) (hc : len ≤ cap)
    (hcell : ∀ (i : Nat) x, xs[i]? = some x → ∃ v, litV x = some v ∧ W.cell? (a.add i) = some v) : VR (ctx0 W e) (.arr aid) (.slice (some a) len cap) := by
  have hrows : (ctx0 W e).env.rows aid = xs.map fun x => [x] := hr
  refine .arr (sz := 1) (by rw [hrows, List.length_map]; exact hl.symm) hc ?_ ?_ ?_
  · intro hne
    rw [hrows] at hne
    have : xs[0]? ≠ none := by
      cases xs with
      | nil => simp at hne
      | cons x r => simp
    obtain ⟨x, hx⟩ := Option.ne_none_iff_exists'.1 this
    obtain ⟨v, _, k⟩ := hcell 0 x hx
    exact (cell_at k).2 rfl
  · intro i r hi
    rw [hrows, List.getElem?_map, Option.map_eq_some_iff] at hi
    obtain ⟨x, _, rfl⟩ := hi
    rfl
  · intro i r j y hi hj
    rw [hrows, List.getElem?_map, Option.map_eq_some_iff] at hi
    obtain ⟨x, hx, rfl⟩ := hi
    cases j with
    | succ j => simp at hj
    | zero =>
      simp at hj; subst hj
      obtain ⟨v, k1, k2⟩ := hcell i x hx
      refine ⟨v, k1, ?_⟩
      show W.cell? ⟨a.block, a.off + i * 1 + 0, none⟩ = some v
      rw [Nat.mul_one, Nat.add_zero]; exact (cell_at k2).1

theorem open_bools {P : Program} {H : Type} {enc : TypeId × Value → H} {w : World} {base : Nat} {spare : Nat → Bool} {held : Bool} {t e : TypeId} {fuel : Nat} {cs : List Value} {x : DataW H × List MemPlace} (ht : P.underlying t = some (.slice e)) (he : P.underlying e = some .bool) (hc : P.cellsOf e = 1)
    (h : DataW.trod enc P w base spare held fuel t cs = some x) :
    cs = [.slice none 0 0] ∨ ∃ (a : Addr) (len cap : Nat) (bs : List Bool), cs = [.slice (some a) len cap] ∧ len ≤ cap ∧ cap ≤ maxLen ∧ bs.length = len ∧ ∀ i, i < len → w.cell? (a.add i) = some (.bool (bs.getD i false)) := by
  rcases DataW.trod_slice ht h with ⟨h0, _⟩ | ⟨a, len, cap, elems, rest, n, _, rfl, rfl, hb, hl, hm, hlen, hel, hsp, hns⟩
  · exact .inl h0
  · right
    have each : ∀ i, i < len → ∃ b, w.cell? (a.add i) = some (.bool b) := by
      intro i hi
      obtain ⟨y, hy⟩ : ∃ y, elems[i]? = some y := ⟨_, List.getElem?_eq_getElem (by omega)⟩
      have := hel i hi
      rw [hy, hc, Nat.mul_one, Option.bind_eq_some_iff] at this
      obtain ⟨cs', hcs, hy'⟩ := this
      obtain ⟨b, rfl, _⟩ := DataW.trod_bool he hy'
      exact ⟨b, cell_of_cells?_one hcs⟩
    refine ⟨a, len, cap, (List.range len).map fun i => match w.cell? (a.add i) with | some (.bool b) => b | _ => false, rfl, hl, hm, by simp, fun i hi => ?_⟩
    obtain ⟨b, hb⟩ := each i hi
    rw [List.getD_eq_getElem?_getD, List.getElem?_map, List.getElem?_range hi]
    simp [hb]

end Go.Proofs.YtdbcojhhdjlbiaaDoor

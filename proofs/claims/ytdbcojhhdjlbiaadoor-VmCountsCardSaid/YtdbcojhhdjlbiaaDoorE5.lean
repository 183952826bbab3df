/- What is built, and what is made anew: structs, rows, boxes. -/
import Derived.Test.YtdbcojhhdjlbiaaDoorE4
namespace Go.Pend
open Go.RowKit (Below)

section
variable {P : Program} {E : Env} {Γ : Ctx} {H : AH} {w : World}

/-! lists laid over lists -/
theorem foldl_zip_get : ∀ (l : List Value) (k off : Nat) (cs : Array Value), off + k + l.length ≤ cs.size →
    ((l.zipIdx k).foldl (fun cs (x : Value × Nat) => cs.setIfInBounds (off + x.2) x.1) cs).size = cs.size ∧
    ∀ j, ((l.zipIdx k).foldl (fun cs (x : Value × Nat) => cs.setIfInBounds (off + x.2) x.1) cs)[j]? = if off + k ≤ j ∧ j < off + k + l.length then l[j - (off + k)]? else cs[j]?
  | [], k, off, cs, _ => by
    refine ⟨rfl, fun j => ?_⟩
    simp only [List.zipIdx_nil, List.foldl_nil, List.length_nil]
    rw [if_neg (by omega)]
  | v :: l, k, off, cs, h => by
    simp only [List.length_cons] at h
    simp only [List.zipIdx_cons, List.foldl_cons]
    obtain ⟨h1, h2⟩ := foldl_zip_get l (k + 1) off (cs.setIfInBounds (off + k) v) (by simp; omega)
    refine ⟨by rw [h1]; simp, fun j => ?_⟩
    rw [h2 j]
    simp only [List.length_cons]
    by_cases hj : off + (k + 1) ≤ j ∧ j < off + (k + 1) + l.length
    · rw [if_pos hj, if_pos (by omega)]
      obtain ⟨d, rfl⟩ : ∃ d, j = off + k + 1 + d := ⟨j - (off + k + 1), by omega⟩
      rw [show off + k + 1 + d - (off + (k + 1)) = d by omega, show off + k + 1 + d - (off + k) = d + 1 by omega]; simp
    · rw [if_neg hj]
      by_cases hj2 : j = off + k
      · subst hj2
        rw [if_pos (by omega), Nat.sub_self, Array.getElem?_setIfInBounds_self_of_lt (by omega)]
        rfl
      · rw [if_neg (by omega)]
        rw [Array.getElem?_setIfInBounds_ne (by omega)]

theorem putCells_F2 {cs vs r : List AVal} {k : Nat} {arr ws : Array Value} (hF : F2 (VR Γ) cs arr.toList) (hv : F2 (VR Γ) vs ws.toList) (h : putCells cs k vs = some r) :
    k + ws.size ≤ arr.size ∧ F2 (VR Γ) r (ws.zipIdx.foldl (fun cs (x : Value × Nat) => cs.setIfInBounds (k + x.2) x.1) arr).toList := by
  obtain ⟨h1, h2, h3⟩ := putCells_spec h
  have e1 := hF.length
  have e2 := hv.length
  simp only [Array.length_toList] at e1 e2
  have hle : k + ws.size ≤ arr.size := by omega
  refine ⟨hle, ?_⟩
  rw [← Array.foldl_toList, Array.toList_zipIdx]
  obtain ⟨g1, g2⟩ := foldl_zip_get ws.toList 0 k arr (by simpa using hle)
  refine F2.of_get (by simp only [Array.length_toList, g1, h1]; omega) fun j x v hx hv' => ?_
  simp only [Array.getElem?_toList] at hv'
  rw [g2 j] at hv'
  rw [h3 j] at hx
  simp only [Nat.add_zero, Array.length_toList] at hv'
  by_cases hj : k ≤ j ∧ j < k + ws.size
  · rw [if_pos hj] at hv'
    rw [if_pos (by omega)] at hx
    exact hv.get _ _ _ hx hv'
  · rw [if_neg hj] at hv'
    rw [if_neg (by omega)] at hx
    exact hF.get _ _ _ hx (by simpa using hv')

theorem fillA_sound {place : Nat → Option (Nat × Nat)} : ∀ {ps : List (Nat × AVal)} {qs : List (Nat × Value)} {cs r : List AVal} {arr : Array Value},
    F2 (fun x v => x.1 = v.1 ∧ VR Γ x.2 v.2) ps qs → F2 (VR Γ) cs arr.toList → fillA place cs ps = some r → ∃ res, Instr.fill place arr qs = some res ∧ F2 (VR Γ) r res.toList := by
  intro ps qs cs r arr hp
  induction hp generalizing cs arr with
  | nil =>
    intro hF h
    simp only [fillA, Option.some.injEq] at h; subst h
    exact ⟨arr, rfl, hF⟩
  | @cons a b l m hr _ ih =>
    obtain ⟨i, x⟩ := a
    obtain ⟨i', v⟩ := b
    obtain ⟨h1, h2⟩ := hr
    simp only at h1 h2
    subst h1
    intro hF h
    simp only [fillA] at h
    split at h
    · rename_i off size hpl
      split at h
      · rename_i hlen
        split at h
        · rename_i cs' hcs
          have hc := h2.cells
          obtain ⟨g1, g2⟩ := putCells_F2 hF hc hcs
          have hsz : v.cells.size = size := by have := hc.length; simp only [Array.length_toList] at this; omega
          obtain ⟨res, hres, hFr⟩ := ih g2 h
          refine ⟨res, ?_, hFr⟩
          simp only [Instr.fill, hpl]
          rw [if_neg (by simp [hsz]; omega)]
          exact hres
        · cases h
      · cases h
    · cases h

theorem places_list : ∀ {l : List Field} {fs : List (Nat × Nat × Bool)}, fieldsOf P l = some fs → l.mapM (fun f => (P.info? f.type).map fun i => (f.offset, i.size)) = some (fs.map fun x => (x.1, x.2.1))
  | [], fs, h => by simp only [fieldsOf, Option.some.injEq] at h; subst h; rfl
  | f :: l, fs, h => by
    simp only [fieldsOf] at h
    split at h
    · rename_i i d r h1 h2 h3
      simp only [Option.some.injEq] at h; subst h
      simp [List.mapM_cons, h1, places_list h3]
    · cases h

theorem build_sound (hE : EnvOK P E) {t : Nat} {ps : List (Nat × AVal)} {qs : Array (Nat × Value)} {v : AVal} (hp : F2 (fun x v => x.1 = v.1 ∧ VR Γ x.2 v.2) ps qs.toList)
    (h : buildA E t ps = some v) : Gives P Γ w (Instr.build t qs) v := by
  unfold buildA at h
  split at h
  · cases h
  · rename_i ti hti
    obtain ⟨inf, d, z, h1, h2, h3, h4, h5, h6, h7⟩ := mkTy_spec (hE.ty _ _ hti)
    split at h
    · rename_i fs c hk
      rw [hk] at h7
      obtain ⟨l, rfl, hl, hc⟩ := tk_struct h7.symm
      split at h
      · rename_i cs hcs
        simp only [Option.some.injEq] at h; subst h
        have hz := (ofV_VR (Γ := Γ) h4).cells
        obtain ⟨res, hres, hF⟩ := fillA_sound hp hz hcs
        refine ⟨.agg res, ?_, .agg (by simpa using hF.length) (fun j x v hx hv => hF.get j x v hx (by simpa using hv))⟩
        have hpl : (l.mapM (fun f => do pure (f.offset, ← sizeOf f.type)) : Sem (Array (Nat × Nat))).run P w = .ok (fs.map fun x => (x.1, x.2.1)).toArray w := by
          rw [Array.mapM_eq_mapM_toList]
          have e : (fun f : Field => (do pure (f.offset, ← sizeOf f.type) : Sem (Nat × Nat))) = fun f => Prod.mk f.offset <$> sizeOf f.type := rfl
          rw [e, Sem.run_map, run_places w l.toList _ (places_list hl)]
          rfl
        have hplace : (fun i : Nat => (fs.map fun x => (x.1, x.2.1)).toArray[i]?) = placeOf fs := by
          funext i
          simp only [List.getElem?_toArray, List.getElem?_map, placeOf]
          cases fs[i]? with
          | none => rfl
          | some x => rfl
        unfold Instr.build
        rw [Sem.run_bind, rZero h1 h3]
        show (bind (underlying t) _ : Sem Value).run P w = _
        rw [Sem.run_bind, rUnd h2]
        show (bind (l.mapM _) _ : Sem Value).run P w = _
        rw [Sem.run_bind, hpl]
        simp only [Result.andThen_ok]
        rw [hplace, hres]
        rfl
      · cases h
    · cases h

theorem repl_get (z : List AVal) (hz : 0 < z.length) : ∀ (n j : Nat), (repl z n)[j]? = if j < n * z.length then z[j % z.length]? else none
  | 0, j => by simp [repl]
  | n + 1, j => by
    have e2 : (n + 1) * z.length = n * z.length + z.length := by rw [Nat.add_mul, Nat.one_mul]
    simp only [repl, List.getElem?_append]
    by_cases hj : j < z.length
    · rw [if_pos hj, if_pos (by omega), Nat.mod_eq_of_lt hj]
    · rw [if_neg hj, repl_get z hz n]
      have e : (j - z.length) % z.length = j % z.length := (Nat.mod_eq_sub_mod (by omega)).symm
      by_cases hlt : j < (n + 1) * z.length
      · rw [if_pos (by omega), if_pos hlt, e]
      · rw [if_neg (by omega), if_neg hlt]

theorem repl_length (z : List AVal) : ∀ n, (repl z n).length = n * z.length
  | 0 => by simp [repl]
  | n + 1 => by simp [repl, repl_length z n, Nat.add_mul]; omega

/-- zero cells, over and over -/
theorem zeros_F2 {ez : List AVal} {zs : Array Value} (hz : F2 (VR Γ) ez zs.toList) (n m : Nat) (hnm : n ≤ m) :
    CellsR Γ (repl ez n) ((Array.range (m * zs.size)).map fun i => zs[i % zs.size]!) 0 := by
  have hlen := hz.length
  simp only [Array.length_toList] at hlen
  have hle : n * ez.length ≤ m * zs.size := by rw [hlen]; exact Nat.mul_le_mul_right _ hnm
  refine ⟨by simp [repl_length]; exact hle, ?_⟩
  intro j x hx
  by_cases h0 : 0 < ez.length
  · rw [repl_get ez h0] at hx
    split at hx
    · rename_i hj
      have hmod : j % zs.size < zs.size := Nat.mod_lt _ (by omega)
      refine ⟨zs[j % zs.size]!, ?_, ?_⟩
      · rw [Nat.zero_add, Array.getElem?_map, Array.getElem?_range, if_pos (by omega)]; rfl
      · refine hz.get (j % zs.size) x _ (by rw [hlen]; exact hx) ?_
        rw [Array.getElem?_toList, getElem!_pos zs _ hmod]
        simp [hmod]
    · cases hx
  · have : ez = [] := by cases ez with | nil => rfl | cons a b => simp at h0
    subst this
    exfalso
    have : ∀ k, repl ([] : List AVal) k = [] := by intro k; induction k with | zero => rfl | succ k ih => simp [repl, ih]
    rw [this] at hx; simp at hx

/-- a new row of cells in the world, a new object in the abstract heap -/
theorem new_sound (hw : WR Γ H w) {cs : List AVal} {arr : Array Value} {T : TypeId} (hc : CellsR Γ cs arr 0) :
    WR (Γ.push w.heap.size 0 arr.size) (H.new (.cells cs)) (w.alloc (.cells arr T)) ∧ H.n = Γ.top := by
  refine ⟨hw.alloc ⟨arr, T, (0, 0), ?_, ?_, ?_, ?_⟩, hw.top⟩
  · rw [Ctx.push_blk]; show (w.heap.push _)[w.heap.size]? = _; simp
  · intro o _; simp
  · rw [Ctx.push_bsz]
  · rw [Ctx.push_base]; exact hc.ext (Ext.push Γ _ _ _)

theorem F2.cellsR {cs : List AVal} {arr : Array Value} (h : F2 (VR Γ) cs arr.toList) : CellsR Γ cs arr 0 := by
  have hl := h.length
  simp only [Array.length_toList] at hl
  refine ⟨by omega, fun j x hx => ?_⟩
  have hj := (List.getElem?_eq_some_iff.1 hx).1
  exact ⟨arr[j], by simp, h.get j x _ hx (by simp)⟩

/-- an answer that may have made something -/
def Makes (P : Program) (Γ : Ctx) (w : World) (s : Sem Value) (x : AVal) (H' : AH) : Prop :=
  ∃ Γ' v w', s.run P w = .ok v w' ∧ Ext Γ Γ' ∧ VR Γ' x v ∧ WR Γ' H' w'

theorem Gives.makes {s : Sem Value} {x : AVal} (hw : WR Γ H w) (h : Gives P Γ w s x) : Makes P Γ w s x H :=
  let ⟨v, h1, h2⟩ := h; ⟨Γ, v, w, h1, .refl _, h2, hw⟩

theorem push_ptr (b o z : Nat) : VR (Γ.push b o z) (.ptr Γ.top 0) (.pointer (some ⟨b, o, none⟩)) := by
  have := VR.ptr (Γ := Γ.push b o z) (id := Γ.top) (off := 0) (show Γ.top < Γ.top + 1 by omega)
  rwa [Ctx.push_blk, Ctx.push_base] at this

theorem push_slc (b o z len cap sz : Nat) (h1 : len ≤ cap) (h2 : o + cap * sz ≤ z) : VR (Γ.push b o z) (.slc Γ.top 0 len sz) (.slice (some ⟨b, o, none⟩) len cap) := by
  have := VR.slc (Γ := Γ.push b o z) (id := Γ.top) (off := 0) (len := len) (cap := cap) (sz := sz) (show Γ.top < Γ.top + 1 by omega) h1
    (by rw [Ctx.push_base, Ctx.push_bsz]; omega)
  rwa [Ctx.push_blk, Ctx.push_base] at this

theorem box_sound (hw : WR Γ H w) {t : Nat} {x : AVal} {x' : Value} (hx : VR Γ x x') : Makes P Γ w (Instr.box t x') (.ptr H.n 0) (H.new (.cells (cellsOf x))) := by
  obtain ⟨h1, h2⟩ := new_sound hw (T := t) hx.cells.cellsR
  exact ⟨_, _, _, rfl, Ext.push Γ _ _ _, by rw [h2]; exact push_ptr _ _ _, h1⟩

theorem alloc_sound (hE : EnvOK P E) (hw : WR Γ H w) {t : Nat} {ti : TyI} (hti : E.ty t = some ti) :
    Makes P Γ w (Instr.alloc t true (.tuple #[])) (.ptr H.n 0) (H.new (.cells (cellsOf ti.zv))) := by
  obtain ⟨inf, d, z, h1, h2, h3, h4, h5, h6, h7⟩ := mkTy_spec (hE.ty _ _ hti)
  obtain ⟨Γ', v, w', k1, k2, k3, k4⟩ := box_sound (P := P) hw (t := t) (ofV_VR (Γ := Γ) h4)
  refine ⟨Γ', v, w', ?_, k2, k3, k4⟩
  rw [← k1]
  simp [Instr.alloc, Instr.box, rZero h1 h3]

theorem buildSlice_sound (hE : EnvOK P E) (hw : WR Γ H w) {t len : Nat} {ps : List (Nat × AVal)} {qs : Array (Nat × Value)} {v : AVal} {H' : AH}
    (hp : F2 (fun x v => x.1 = v.1 ∧ VR Γ x.2 v.2) ps qs.toList) (h : buildSliceA E t len ps H = some (v, H')) : Makes P Γ w (Instr.buildSlice t len qs) v H' := by
  unfold buildSliceA at h
  split at h
  · cases h
  · rename_i ti hti
    obtain ⟨inf, d, z, h1, h2, h3, h4, h5, h6, h7⟩ := mkTy_spec (hE.ty _ _ hti)
    split at h
    · rename_i esz eby ez ei hk
      rw [hk] at h7
      obtain ⟨e, einf, ez', rfl, g1, g2, g3, g4, g5, g6⟩ := tk_slice h7.symm
      split at h
      · rename_i hcond
        obtain ⟨hez, hsz⟩ := hcond
        split at h
        · rename_i cs hcs
          simp only [Option.some.injEq, Prod.mk.injEq] at h
          obtain ⟨rfl, rfl⟩ := h
          have hz := ofSs_F2 (Γ := Γ) g3
          have hzl := hz.length
          simp only [Array.length_toList] at hzl
          have hzs : ez'.cells.size = esz := by omega
          -- the zero cells of the model
          let zs : Array Value := if len * einf.size = 0 then #[] else ez'.cells
          have hz2 : F2 (VR Γ) (repl ez len) ((Array.range (len * einf.size)).map (zs[· % zs.size]!)).toList := by
            by_cases h0 : len * einf.size = 0
            · have : repl ez len = [] := List.eq_nil_of_length_eq_zero (by rw [repl_length, hez, g4]; exact h0)
              rw [this, h0]; simp; exact .nil
            · have hzz : zs = ez'.cells := if_neg h0
              rw [hzz]
              have hc := zeros_F2 hz len len (Nat.le_refl _)
              rw [hzs] at hc
              refine F2.of_get (by simp [repl_length, hez, g4]) fun j x v hx hv => ?_
              obtain ⟨u, hu, hr⟩ := hc.2 j x hx
              simp only [Nat.zero_add] at hu
              rw [hzs, ← g4] at hv
              rw [Array.getElem?_toList, hu] at hv
              cases hv; exact hr
          obtain ⟨res, hres, hF⟩ := fillA_sound hp hz2 hcs
          obtain ⟨k1, k2⟩ := new_sound hw (T := e) hF.cellsR
          have hrl : res.size = len * esz := by
            have e1 := hF.length
            simp only [Array.length_toList] at e1
            have : ∀ {ps : List (Nat × AVal)} {cs r : List AVal} {pl}, fillA pl cs ps = some r → r.length = cs.length := by
              intro ps
              induction ps with
              | nil => intro cs r pl h; simp only [fillA, Option.some.injEq] at h; rw [h]
              | cons p ps ih =>
                intro cs r pl h
                obtain ⟨i, x⟩ := p
                simp only [fillA] at h
                split at h
                · split at h
                  · split at h
                    · rename_i hc; rw [ih h, (putCells_spec hc).1]
                    · cases h
                  · cases h
                · cases h
            rw [e1, this hcs, repl_length, hez]
          refine ⟨_, .slice (some ⟨w.heap.size, 0, none⟩) len len, w.alloc (.cells res e), ?_, Ext.push Γ _ _ _, by rw [k2]; exact push_slc _ _ _ _ _ _ (Nat.le_refl _) (by omega), k1⟩
          have hnt : ¬ (len * einf.size > 2 ^ 24) := by rw [← g4]; omega
          unfold Instr.buildSlice
          rw [Sem.run_bind, rUnd h2]
          show (bind (sizeOf e) _ : Sem Value).run P w = _
          rw [Sem.run_bind, rSize g1]
          simp only [Result.andThen_ok]
          rw [if_neg hnt]
          have hpl : (fun i => some (i * einf.size, einf.size)) = (fun i => some (i * esz, esz)) := by rw [g4]
          by_cases h0 : len * einf.size = 0
          · have hzz : zs = #[] := if_pos h0
            rw [hzz] at hres
            rw [if_pos h0, hpl]
            show (match Instr.fill (fun i => some (i * esz, esz)) ((Array.range (len * einf.size)).map ((#[] : Array Value)[· % (#[] : Array Value).size]!)) qs.toList with
              | some cells => _ | _ => _ : Sem Value).run P w = _
            rw [hres]; rfl
          · have hzz : zs = ez'.cells := if_neg h0
            rw [hzz] at hres
            rw [if_neg h0, hpl]
            show (bind (zeroValue e) _ : Sem Value).run P w = _
            rw [Sem.run_bind, rZero g1 g2]
            show (match Instr.fill (fun i => some (i * esz, esz)) ((Array.range (len * einf.size)).map (ez'.cells[· % ez'.cells.size]!)) qs.toList with
              | some cells => _ | _ => _ : Sem Value).run P w = _
            rw [hres]; rfl
        · cases h
      · cases h
    · cases h

end
end Go.Pend

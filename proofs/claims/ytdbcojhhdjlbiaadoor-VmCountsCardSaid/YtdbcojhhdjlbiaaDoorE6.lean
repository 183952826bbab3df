/- What writes: stores, copy, clear, append, make, texts to bytes and back. -/
import Derived.Test.YtdbcojhhdjlbiaaDoorE5
namespace Go.Pend
open Go.RowKit (Below)

section
variable {P : Program} {E : Env} {Γ : Ctx} {H : AH} {w : World}

theorem OneBlock.refl (b : Nat) (w : World) : OneBlock b w w := ⟨rfl, rfl, rfl, rfl, fun _ _ => rfl⟩
theorem OneBlock.trans {b : Nat} {u v w : World} (h : OneBlock b u v) (k : OneBlock b v w) : OneBlock b u w :=
  ⟨k.os.trans h.os, k.tape.trans h.tape, k.output.trans h.output, k.size.trans h.size, fun i hi => (k.block i hi).trans (h.block i hi)⟩

theorem OneBlock.setCell (w : World) (a : Addr) (v : Value) : OneBlock a.block w (w.setCell a v) :=
  ⟨rfl, rfl, rfl, by simp [World.setCell], fun k hk => Below.heap_setCell _ _ _ _ hk⟩

theorem OneBlock.setObj (w : World) (b : Nat) (o : Obj) : OneBlock b w { w with heap := w.heap.setIfInBounds b o } :=
  ⟨rfl, rfl, rfl, by simp, fun k hk => by simp only []; rw [Array.getElem?_setIfInBounds_ne (by omega)]⟩

theorem heap_setCell {w : World} {b o : Nat} {cur : Array Value} {T fz} {v : Value} (h : w.heap[b]? = some (.cells cur T fz)) :
    (w.setCell ⟨b, o, none⟩ v).heap[b]? = some (.cells (cur.setIfInBounds o v) T fz) := by
  simp [World.setCell, Array.getElem?_modify, h]

theorem VR.one {x : AVal} {v : Value} (h : VR Γ x v) (hs : scal x = true) : v.oneCell' = true := by
  cases h <;> first | rfl | (simp [scal] at hs)

theorem storeCells_run {b : Nat} {T : TypeId} {fz : Nat × Nat} : ∀ (vs : List Value) (i o : Nat) (cur : Array Value) (w : World), w.heap[b]? = some (.cells cur T fz) →
    (∀ k, k < cur.size → ¬ (fz.1 ≤ k ∧ k < fz.2)) → o + i + vs.length ≤ cur.size → (∀ v ∈ vs, v.oneCell' = true) →
    ∃ w' cur', (storeCells ⟨b, o, none⟩ vs i).run P w = .ok () w' ∧ w'.heap[b]? = some (.cells cur' T fz) ∧ OneBlock b w w' ∧ cur'.size = cur.size ∧
      ∀ j, cur'[j]? = if o + i ≤ j ∧ j < o + i + vs.length then vs[j - (o + i)]? else cur[j]?
  | [], i, o, cur, w, h, _, _, _ => by
    refine ⟨w, cur, rfl, h, .refl _ _, rfl, fun j => ?_⟩
    simp only [List.length_nil]; rw [if_neg (by omega)]
  | v :: vs, i, o, cur, w, h, hf, hl, h1 => by
    simp only [List.length_cons] at hl
    have hv : v.oneCell' = true := h1 v (by simp)
    have hlt : o + i < cur.size := by omega
    have hc : w.cell? ⟨b, o + i, none⟩ = some cur[o + i] := by simp [World.cell?, h, hlt]
    have hz : w.frozen? ⟨b, o + i, none⟩ = false := by
      obtain ⟨f1, f2⟩ := fz
      have := hf (o + i) hlt
      simp only [World.frozen?, h]
      simp only at this
      simpa using this
    have hst : (store ((⟨b, o, none⟩ : Addr).add i) v).run P w = .ok () (w.setCell ⟨b, o + i, none⟩ v) := by
      rw [add_none, run_store P w _ v _ hv, hc]
      simp [hz]
    obtain ⟨w', cur', k1, k2, k3, k4, k5⟩ := storeCells_run vs (i + 1) o (cur.setIfInBounds (o + i) v) (w.setCell ⟨b, o + i, none⟩ v) (heap_setCell h)
      (fun k hk => hf k (by simpa using hk)) (by simp; omega) (fun u hu => h1 u (by simp [hu]))
    refine ⟨w', cur', ?_, k2, (OneBlock.setCell w ⟨b, o + i, none⟩ v).trans k3, by rw [k4]; simp, fun j => ?_⟩
    · simp only [storeCells, Sem.run_bind, hst, Result.andThen_ok]
      exact k1
    · rw [k5 j]
      simp only [List.length_cons]
      by_cases hj : o + (i + 1) ≤ j ∧ j < o + (i + 1) + vs.length
      · rw [if_pos hj, if_pos (by omega)]
        obtain ⟨d, rfl⟩ : ∃ d, j = o + i + 1 + d := ⟨j - (o + i + 1), by omega⟩
        rw [show o + i + 1 + d - (o + (i + 1)) = d by omega, show o + i + 1 + d - (o + i) = d + 1 by omega]; simp
      · rw [if_neg hj]
        by_cases hj2 : j = o + i
        · subst hj2
          rw [if_pos (by omega), Nat.sub_self, Array.getElem?_setIfInBounds_self_of_lt (by omega)]
          rfl
        · rw [if_neg (by omega), Array.getElem?_setIfInBounds_ne (by omega)]

/-- cells laid into an object, in the world and in the abstract heap -/
theorem put_sound (hw : WR Γ H w) {id off : Nat} {cs vs cs' : List AVal} (hid : H.o.get id = some (.cells cs)) (hp : putCells cs off vs = some cs') (hs : vs.all scal = true)
    {us : List Value} (hu : F2 (VR Γ) vs us) :
    ∃ w', (storeCells ⟨Γ.blk id, Γ.base id + off, none⟩ us).run P w = .ok () w' ∧ WR Γ ⟨H.o.set id (.cells cs'), H.n⟩ w' := by
  obtain ⟨arr, T, fz, h1, h2, h3, h4⟩ := hw.obj _ _ hid
  obtain ⟨p1, p2, p3⟩ := putCells_spec hp
  have hl := hu.length
  have hone : ∀ v ∈ us, v.oneCell' = true := by
    intro v hv
    obtain ⟨j, hj⟩ := List.getElem?_of_mem hv
    have hjl := (List.getElem?_eq_some_iff.1 hj).1
    have hx := List.getElem?_eq_getElem (l := vs) (i := j) (by omega)
    exact (hu.get j _ _ hx hj).one (List.all_eq_true.1 hs _ (List.mem_of_getElem? hx))
  obtain ⟨w', cur', k1, k2, k3, k4, k5⟩ := storeCells_run (P := P) us 0 (Γ.base id + off) arr w h1 h2 (by have := h4.1; omega) hone
  refine ⟨w', k1, hw.write hid k3 ⟨cur', T, fz, k2, fun k hk => h2 k (by omega), by rw [k4]; exact h3, by rw [p1, k4]; exact h4.1, ?_⟩⟩
  intro j x hx
  rw [p3 j] at hx
  have hk := k5 (Γ.base id + j)
  simp only [Nat.add_zero] at hk
  by_cases hj : off ≤ j ∧ j < off + vs.length
  · rw [if_pos hj] at hx
    rw [if_pos (by omega)] at hk
    have hjl : j - off < us.length := by omega
    refine ⟨us[j - off], ?_, hu.get _ _ _ hx (by simp [hjl])⟩
    rw [hk, show Γ.base id + j - (Γ.base id + off) = j - off by omega]; simp [hjl]
  · rw [if_neg hj] at hx
    rw [if_neg (by omega)] at hk
    obtain ⟨v, hv, hr⟩ := h4.2 j x hx
    exact ⟨v, hk.trans hv, hr⟩

theorem store_sound (hE : EnvOK P E) (hw : WR Γ H w) {t : Nat} {a v : AVal} {a' v' : Value} {H' : AH} (ha : VR Γ a a') (hv : VR Γ v v') (h : storeA E t a v H = some H') :
    ∃ w', (Instr.storeAt t a' v').run P w = .ok () w' ∧ WR Γ H' w' := by
  unfold storeA at h
  split at h
  · rename_i ti hti
    obtain ⟨inf, d, z, h1, h2, h3, h4, h5, h6, h7⟩ := mkTy_spec (hE.ty _ _ hti)
    split at h
    · rename_i hc
      obtain ⟨c1, c2⟩ := hc
      split at h
      · rename_i id off
        split at h
        · rename_i cs hcs
          split at h
          · rename_i cs' hp
            simp only [Option.some.injEq] at h; subst h
            cases ha
            have hF := hv.cells
            obtain ⟨w', k1, k2⟩ := put_sound (P := P) hw hcs hp c2 hF
            refine ⟨w', ?_, k2⟩
            have hsz : v'.cells.size = inf.size := by have := hF.length; simp only [Array.length_toList] at this; omega
            simp only [Instr.storeAt, Instr.sureAddr, storeVar]
            show (bind (sizeOf t) _ : Sem Unit).run P w = _
            rw [Sem.run_bind, rSize h1]
            simp only [Result.andThen_ok]
            rw [if_neg (by simp [hsz])]
            exact k1
          · cases h
        · cases h
      · cases h
    · cases h
  · cases h

/-! what a slice, or a text, holds -/
theorem flat_get {sz : Nat} : ∀ {es : List (List AVal)}, (∀ (i : Nat) (r : List AVal), es[i]? = some r → r.length = sz) → 0 < sz → ∀ k : Nat, es.flatten[k]? = (es[k / sz]?).bind (·[k % sz]?)
  | [], _, _, k => by simp
  | e :: es, h, hz, k => by
    have he : e.length = sz := h 0 e rfl
    rw [List.flatten_cons, List.getElem?_append]
    by_cases hk : k < sz
    · rw [if_pos (by omega), Nat.div_eq_of_lt hk, Nat.mod_eq_of_lt hk]; simp
    · rw [if_neg (by omega), he, flat_get (fun i r hi => h (i + 1) r (by simpa using hi)) hz (k - sz)]
      obtain ⟨d, rfl⟩ : ∃ d, k = d + sz := ⟨k - sz, by omega⟩
      rw [Nat.add_sub_cancel, Nat.add_div_right _ hz, Nat.add_mod_right]
      simp

theorem flat_len {sz : Nat} : ∀ {es : List (List AVal)}, (∀ (i : Nat) (r : List AVal), es[i]? = some r → r.length = sz) → es.flatten.length = es.length * sz
  | [], _ => by simp
  | e :: es, h => by
    have he : e.length = sz := h 0 e rfl
    rw [List.flatten_cons, List.length_append, he, flat_len (fun i r hi => h (i + 1) r (by simpa using hi)), List.length_cons, Nat.add_mul]; omega

theorem len_val {x : AVal} {x' : Value} {sz n : Nat} {cs : List AVal} (hx : VR Γ x x') (h : slCells H sz x = some (cs, n)) : (Builtin.lenOf x').run P w = .ok n w := by
  unfold slCells at h
  split at h
  · simp only [Option.some.injEq, Prod.mk.injEq] at h; obtain ⟨rfl, rfl⟩ := h
    cases hx <;> rfl
  · split at h
    · split at h
      · simp only [Option.some.injEq, Prod.mk.injEq] at h; obtain ⟨rfl, rfl⟩ := h
        cases hx <;> rfl
      · cases h
    · cases h
  · split at h
    · simp only [Option.some.injEq, Prod.mk.injEq] at h; obtain ⟨rfl, rfl⟩ := h
      cases hx
      · rfl
      · rename_i a len cap sz' u hc hl hs hz h1 h2; rw [← hl]; rfl
    · cases h
  · split at h
    · simp only [Option.some.injEq, Prod.mk.injEq] at h; obtain ⟨rfl, rfl⟩ := h
      cases hx
      simp [Builtin.lenOf]
    · cases h
  · cases h

theorem bytes_take (s : ByteArray) (n : Nat) (h : n ≤ s.data.toList.length) : ((s.extract 0 n).data.map fun b => Value.int .u8 (b.toNat : Int)).toList = (s.data.toList.take n).map fun b => Value.int .u8 (b.toNat : Int) := by
  rw [Array.toList_map, ByteArray.data_extract, Array.toList_extract]
  simp [List.extract_eq_take_drop]

/-- the first m elements' cells -/
theorem slCells_first (hw : WR Γ H w) {x : AVal} {x' : Value} {sz n m : Nat} {cs : List AVal} (hx : VR Γ x x') (h : slCells H sz x = some (cs, n)) (hm : m ≤ n) :
    ∃ us : List Value, (Builtin.firstCells sz m x').run P w = .ok us.toArray w ∧ F2 (VR Γ) (cs.take (m * sz)) us ∧ us.length = m * sz := by
  unfold slCells at h
  split at h
  · simp only [Option.some.injEq, Prod.mk.injEq] at h; obtain ⟨rfl, rfl⟩ := h
    have : m = 0 := by omega
    subst this
    refine ⟨[], ?_, by simp; exact .nil, by simp⟩
    cases hx
    · rfl
    · simp [Builtin.firstCells, loadCells, loadCellsFrom]
  · rename_i id off len ssz
    split at h
    · rename_i l hl
      split at h
      · rename_i r hr
        simp only [Option.some.injEq, Prod.mk.injEq] at h; obtain ⟨rfl, rfl⟩ := h
        cases hx
        case slc cap hid hc hf =>
          have hms : m * sz ≤ len * sz := Nat.mul_le_mul_right _ hm
          have hle := takeN_le hr
          have hld : ldCells H (.ptr id off) (m * sz) = some (r.take (m * sz)) := by
            simp only [ldCells, hl]
            have : ∀ (n : Nat) (l : List AVal), n ≤ l.length → takeN n l = some (l.take n) := by
              intro n
              induction n with
              | zero => intro l _; simp [takeN]
              | succ n ih =>
                intro l hl
                cases l with
                | nil => simp at hl
                | cons y ys => simp only [takeN, ih ys (by simpa using hl), List.take_succ_cons]
            rw [this _ _ (by omega), (takeN_spec hr).1, List.take_take, Nat.min_eq_left hms]
          obtain ⟨b, o, vs, h1, h2, h3, h4⟩ := ldCells_sound hw (VR.ptr hid) hld
          simp only [Value.pointer.injEq, Option.some.injEq, Addr.mk.injEq, and_true] at h1
          obtain ⟨rfl, rfl⟩ := h1
          refine ⟨vs, ?_, h2, h3⟩
          rw [Builtin.firstCells, ← h3]
          exact loadCells_list h4
        case slc0 a =>
          have : m = 0 := by omega
          subst this
          exact ⟨[], by simp [Builtin.firstCells, loadCells, loadCellsFrom], by simp; exact .nil, by simp⟩
      · cases h
    · cases h
  · rename_i isn es
    split at h
    · rename_i hrow
      simp only [Option.some.injEq, Prod.mk.injEq] at h; obtain ⟨rfl, rfl⟩ := h
      cases hx
      case roNil =>
        simp at hm
        subst hm
        exact ⟨[], by rfl, by simp; exact .nil, by simp⟩
      case ro a len cap sz' u hc hl hs hz h1 h2 =>
        by_cases h0 : m * sz = 0
        · refine ⟨[], ?_, by rw [h0]; simp; exact .nil, by simp [h0]⟩
          simp [Builtin.firstCells, loadCells, h0, loadCellsFrom]
        · have hmz : 0 < m ∧ 0 < sz := by
            constructor <;> (apply Nat.pos_of_ne_zero; intro e; subst e; simp at h0)
          have hne : es ≠ [] := by intro e; subst e; simp at hm; omega
          have hrs := rowsOf_spec hrow
          have hsz : sz' = sz := by
            have hlt : 0 < es.length := List.length_pos_iff.2 hne
            rw [← hz 0 _ (List.getElem?_eq_getElem hlt), hrs 0 _ (List.getElem?_eq_getElem hlt)]
          subst hsz
          have hsp := hs hne
          obtain ⟨ab, ao, as⟩ := a
          simp only at hsp; subst hsp
          have hdiv : ∀ j, j < m * sz' → j / sz' < es.length ∧ j % sz' < sz' := by
            intro j hj
            refine ⟨?_, Nat.mod_lt _ hmz.2⟩
            have := (Nat.div_lt_iff_lt_mul hmz.2).2 hj
            omega
          refine ⟨(List.range (m * sz')).map (fun j => u (j / sz') (j % sz')), ?_, F2.of_get ?_ ?_, by simp⟩
          · rw [Builtin.firstCells]
            refine run_loadCells w _ _ (fun j => u (j / sz') (j % sz')) ?_
            intro j hj
            obtain ⟨d1, d2⟩ := hdiv j hj
            have := hw.rho _ _ _ (h1 (j / sz') (j % sz') d1 d2)
            rw [add_none]
            rw [← this]
            congr 2
            have := Nat.div_add_mod j sz'
            rw [Nat.mul_comm] at this
            simp only
            omega
          · rw [List.length_map, List.length_range, List.length_take, flat_len hrs]
            have := Nat.mul_le_mul_right sz' hm
            omega
          · intro j x v hx hv
            rw [List.getElem?_take] at hx
            split at hx
            · rename_i hj
              simp only [List.getElem?_map, List.getElem?_range hj, Option.map_some, Option.some.injEq] at hv
              subst hv
              rw [flat_get hrs hmz.2] at hx
              simp only [Option.bind_eq_some_iff] at hx
              obtain ⟨r, hr, hx⟩ := hx
              exact h2 _ r _ x hr hx
            · cases hx
    · cases h
  · rename_i s
    split at h
    · rename_i hsz
      subst hsz
      simp only [Option.some.injEq, Prod.mk.injEq] at h; obtain ⟨rfl, rfl⟩ := h
      cases hx
      refine ⟨(s.data.toList.take m).map fun b => .int .u8 (b.toNat : Int), ?_, ?_, ?_⟩
      · simp only [Builtin.firstCells, Sem.run_pure]
        congr 1
        apply Array.ext'
        rw [bytes_take s m hm]
      · rw [Nat.mul_one, ← List.map_take]
        refine F2.of_get (by simp) fun j x v hx hv => ?_
        simp only [List.getElem?_map, Option.map_eq_some_iff] at hx hv
        obtain ⟨a, ha, rfl⟩ := hx
        obtain ⟨b, hb, rfl⟩ := hv
        rw [ha] at hb; cases hb
        exact .int _ _
      · simp only [List.length_map, List.length_take]; omega
    · cases h
  · cases h


theorem F2.append' {xs ys : List AVal} {us vs : List Value} (h : F2 (VR Γ) xs us) (k : F2 (VR Γ) ys vs) : F2 (VR Γ) (xs ++ ys) (us ++ vs) := h.append k

theorem F2.all_one {vs : List AVal} {us : List Value} (hu : F2 (VR Γ) vs us) (hs : vs.all scal = true) : ∀ v ∈ us, v.oneCell' = true := by
  intro v hv
  obtain ⟨j, hj⟩ := List.getElem?_of_mem hv
  have hl := hu.length
  have hjl := (List.getElem?_eq_some_iff.1 hj).1
  have hx := List.getElem?_eq_getElem (l := vs) (i := j) (by omega)
  exact (hu.get j _ _ hx hj).one (List.all_eq_true.1 hs _ (List.mem_of_getElem? hx))

theorem slCells_len {x : AVal} {sz n : Nat} {cs : List AVal} (h : slCells H sz x = some (cs, n)) : cs.length = n * sz := by
  unfold slCells at h
  split at h
  · simp only [Option.some.injEq, Prod.mk.injEq] at h; obtain ⟨rfl, rfl⟩ := h; simp
  · split at h
    · split at h
      · rename_i r hr
        simp only [Option.some.injEq, Prod.mk.injEq] at h; obtain ⟨rfl, rfl⟩ := h
        exact (takeN_spec hr).2
      · cases h
    · cases h
  · split at h
    · rename_i hrow
      simp only [Option.some.injEq, Prod.mk.injEq] at h; obtain ⟨rfl, rfl⟩ := h
      exact flat_len (rowsOf_spec hrow)
    · cases h
  · split at h
    · rename_i hsz; subst hsz
      simp only [Option.some.injEq, Prod.mk.injEq] at h; obtain ⟨rfl, rfl⟩ := h; simp
    · cases h
  · cases h

theorem slCells_all (hw : WR Γ H w) {x : AVal} {x' : Value} {sz n : Nat} {cs : List AVal} (hx : VR Γ x x') (h : slCells H sz x = some (cs, n)) :
    ∃ us : List Value, (Builtin.firstCells sz n x').run P w = .ok us.toArray w ∧ F2 (VR Γ) cs us ∧ us.length = n * sz := by
  obtain ⟨us, h1, h2, h3⟩ := slCells_first (P := P) hw hx h (Nat.le_refl n)
  refine ⟨us, h1, ?_, h3⟩
  rwa [List.take_of_length_le (by rw [slCells_len h]; exact Nat.le_refl _)] at h2

/-- cells stored where there is a place -/
def storeOpt (base : Option Addr) (vs : List Value) : Sem Unit :=
  match base with
  | some a => storeCells a vs
  | none => pure ()

theorem copy_sound (hE : EnvOK P E) (hw : WR Γ H w) {t : Nat} {d s v : AVal} {d' s' : Value} {H' : AH} {ts : List Nat} {ty : Nat} (hd : VR Γ d d') (hs : VR Γ s s')
    (h : copyA E t d s H = some (v, H')) : Makes P Γ w (Builtin.copy_ (t :: ts).toArray ty #[d', s']) v H' := by
  unfold copyA at h
  split at h
  · cases h
  · rename_i ti hti
    obtain ⟨inf, dd, z, h1, h2, h3, h4, h5, h6, h7⟩ := mkTy_spec (hE.ty _ _ hti)
    split at h
    · rename_i esz eby ez ei hk
      rw [hk] at h7
      obtain ⟨e, einf, ez', rfl, g1, g2, g3, g4, g5, g6⟩ := tk_slice h7.symm
      split at h
      · rename_i cs n hcs
        cases hsc : cs.all scal with
        | false => rw [hsc] at h; cases h
        | true =>
          rw [hsc] at h
          simp only [cond_true] at h
          have run : ∀ (base : Option Addr) (dLen cap : Nat) (us : List Value), (Builtin.firstCells esz (min n dLen) s').run P w = .ok us.toArray w →
              (Builtin.copy_ (t :: ts).toArray ty #[.slice base dLen cap, s']).run P w =
                ((storeOpt base us).run P w).andThen fun _ w' => .ok (.int .i64 (min n dLen : Nat)) w' := by
            intro base dLen cap us hf
            unfold Builtin.copy_
            show (bind (underlying t) _ : Sem Value).run P w = _
            rw [Sem.run_bind, rUnd h2]
            show (bind (Builtin.lenOf s') _ : Sem Value).run P w = _
            rw [Sem.run_bind, len_val hs hcs]
            show (bind (sizeOf e) _ : Sem Value).run P w = _
            rw [Sem.run_bind, rSize g1]
            show (bind (Builtin.firstCells einf.size (Nat.min n dLen) s') _ : Sem Value).run P w = _
            rw [← g4, Sem.run_bind, show Nat.min n dLen = min n dLen from rfl, hf]
            cases base with
            | none => rfl
            | some a =>
              show (bind (storeCells a us.toArray.toList) _ : Sem Value).run P w = _
              rw [Sem.run_bind]
              rfl
          split at h
          · simp only [Option.some.injEq, Prod.mk.injEq] at h; obtain ⟨rfl, rfl⟩ := h
            obtain ⟨us, k1, k2, k3⟩ := slCells_first (P := P) hw hs hcs (m := min n 0) (by omega)
            have hus : us = [] := by apply List.eq_nil_of_length_eq_zero; rw [k3]; simp
            subst hus
            cases hd
            · refine ⟨Γ, _, w, ?_, .refl _, .int _ _, hw⟩
              rw [run none 0 0 _ k1]; simp [storeOpt]
            · refine ⟨Γ, _, w, ?_, .refl _, .int _ _, hw⟩
              rw [run (some _) 0 0 _ k1]; simp [storeOpt, storeCells]
          · rename_i id off len ssz
            split at h
            · rename_i old hold
              split at h
              · rename_i new hnew
                simp only [Option.some.injEq, Prod.mk.injEq] at h; obtain ⟨rfl, rfl⟩ := h
                obtain ⟨us, k1, k2, k3⟩ := slCells_first (P := P) hw hs hcs (m := min n len) (by omega)
                have hall : (cs.take (min n len * esz)).all scal = true := by
                  rw [List.all_eq_true] at hsc ⊢
                  exact fun x hx => hsc x (List.mem_of_mem_take hx)
                cases hd
                case slc cap hid hc hf =>
                  obtain ⟨w', m1, m2⟩ := put_sound (P := P) hw hold hnew hall k2
                  refine ⟨Γ, _, w', ?_, .refl _, .int _ _, m2⟩
                  rw [run (some _) len cap us k1]
                  show ((storeCells _ us).run P w).andThen _ = _
                  rw [m1]; rfl
                case slc0 a =>
                  have hus : us = [] := by apply List.eq_nil_of_length_eq_zero; rw [k3]; simp
                  subst hus
                  have hnn : new = old := by
                    have : cs.take (min n 0 * esz) = [] := by simp
                    rw [this] at hnew
                    obtain ⟨q1, q2, q3⟩ := putCells_spec hnew
                    apply List.ext_getElem?
                    intro j
                    rw [q3 j]
                    simp only [List.length_nil]
                    rw [if_neg (by omega)]
                  subst hnn
                  have hsame : WR Γ ⟨H.o.set id (.cells new), H.n⟩ w := hw.write hold (.refl _ _) (hw.obj _ _ hold)
                  refine ⟨Γ, _, w, ?_, .refl _, .int _ _, hsame⟩
                  rw [run (some a) 0 0 [] k1]; simp [storeOpt, storeCells]
              · cases h
            · cases h
          · cases h
      · cases h
    · cases h

/-! append -/
theorem run_growth {need cap by_ : Nat} (hc : cap < need) (hr : roomA need by_ = true) : ¬ (Builtin.nextslicecap need cap * by_ > 2 ^ 48) ∧ ¬ ((need : Int) > IntKind.i64.max) := by
  unfold roomA at hr
  have hr' := Nat.le_of_ble_eq_true hr
  have h1 : need * by_ ≤ (need + 1000) * (by_ + 1) := Nat.mul_le_mul (by omega) (by omega)
  have h2 : need + 1000 ≤ (need + 1000) * (by_ + 1) := Nat.le_mul_of_pos_right _ (by omega)
  have e40 : (2 : Nat) ^ 40 = 1099511627776 := by rfl
  rw [e40] at hr'
  have hb : need * by_ ≤ 140737488355328 := Nat.le_trans h1 (Nat.le_trans hr' (by decide))
  have hn : need + 1000 ≤ 1099511627776 := Nat.le_trans h2 hr'
  have hg := growslice_fits hc hb
  clear h1 h2 hr' hr hb
  refine ⟨?_, ?_⟩
  · rw [show (2 : Nat) ^ 48 = 281474976710656 by rfl]; omega
  · have e2 : IntKind.i64.max = 9223372036854775807 := by rfl
    rw [e2]; omega

theorem zeroCells_eq (zs : Array Value) (n : Nat) : Builtin.zeroCells zs n = (Array.range (n * zs.size)).map fun i => zs[i % zs.size]! := rfl

/-- what follows a row of cells does not matter -/
theorem CellsR.more {cs : List AVal} {arr more : Array Value} (h : F2 (VR Γ) cs arr.toList) : CellsR Γ cs (arr ++ more) 0 := by
  have hl := h.length
  simp only [Array.length_toList] at hl
  refine ⟨by simp; omega, fun j x hx => ?_⟩
  have hj := (List.getElem?_eq_some_iff.1 hx).1
  refine ⟨arr[j], ?_, h.get j x _ hx (by simp)⟩
  rw [Nat.zero_add, Array.getElem?_append_left (by omega)]; simp

theorem run_append_fit {t u ty e : Nat} {ts : List Nat} {i : TypeInfo} {du : TypeDesc} (ht : P.underlying t = some (.slice e)) (hu : P.underlying u = some du) (hni : (∃ e', du = .slice e') ∨ du = .string)
    (hi : P.info? e = some i) {x : Value} {n sLen sCap : Nat} {base : Option Addr} {us : List Value} (hx : (Builtin.lenOf x).run P w = .ok n w) (hf : (Builtin.firstCells i.size n x).run P w = .ok us.toArray w)
    (hfit : sLen + n ≤ sCap) :
    (Builtin.append_ (t :: u :: ts).toArray ty #[.slice base sLen sCap, x]).run P w =
      ((storeOpt (base.map (·.add (sLen * i.size))) us).run P w).andThen fun _ w' => .ok (.slice base (sLen + n) sCap) w' := by
  rcases hni with ⟨e', rfl⟩ | rfl
  all_goals
    cases base <;>
      simp [Builtin.append_, run_underlying ht, run_underlying hu, sizeOf, typeInfo, hi, hx, hf, hfit, storeOpt]

theorem run_append_more {t u ty e : Nat} {ts : List Nat} {i : TypeInfo} {z : Value} {du : TypeDesc} (ht : P.underlying t = some (.slice e)) (hu : P.underlying u = some du) (hni : (∃ e', du = .slice e') ∨ du = .string)
    (hi : P.info? e = some i) (hz : i.zero = some z) {x : Value} {n sLen sCap : Nat} {base : Option Addr} {us os : List Value} (hx : (Builtin.lenOf x).run P w = .ok n w)
    (hf : (Builtin.firstCells i.size n x).run P w.drew = .ok us.toArray w.drew) (ho : (Builtin.firstCells i.size sLen (.slice base sLen sCap)).run P w.drew = .ok os.toArray w.drew)
    (hfit : sCap < sLen + n) (hroom : roomA (sLen + n) i.bytes = true) :
    (Builtin.append_ (t :: u :: ts).toArray ty #[.slice base sLen sCap, x]).run P w =
      .ok (.slice (some ⟨w.heap.size, 0, none⟩) (sLen + n) (grownCap w (sLen + n) sCap e))
        (w.drew.alloc (.cells (os.toArray ++ us.toArray ++ Builtin.zeroCells z.cells (grownCap w (sLen + n) sCap e - (sLen + n))) e)) := by
  obtain ⟨r1, r2⟩ := run_growth hfit hroom
  have hn : ¬ (sLen + n ≤ sCap) := by omega
  have h63' : ¬ (9223372036854775807 < ((sLen : Int) + (n : Int))) := by
    have : IntKind.i64.max = 9223372036854775807 := by rfl
    rw [this] at r2; omega
  have h48' : ¬ (281474976710656 < Builtin.nextslicecap (sLen + n) sCap * i.bytes) := by omega
  rcases hni with ⟨e', rfl⟩ | rfl
  all_goals
    simp [Builtin.append_, run_underlying ht, run_underlying hu, sizeOf, typeInfo, zeroValue, hi, hz, hx, hn, h63', h48', Question.forced, hf, ho, newRow, grownCap]
  all_goals rw [show ∀ z : Array Value, os.toArray ++ (us.toArray ++ z) = (os ++ us).toArray ++ z from fun z => by apply Array.ext'; simp]

theorem grownCap_ge (w : World) (need old e : Nat) : need ≤ grownCap w need old e := by
  unfold grownCap Question.cut; exact Nat.le_add_right _ _

/-- a new row with what is left over behind it -/
theorem grown_sound (hw : WR Γ H w) {cs : List AVal} {us : List Value} {more : Array Value} {e len cap sz : Nat} (hF : F2 (VR Γ) cs us) (h1 : len ≤ cap) (h2 : (us.toArray ++ more).size = cap * sz) :
    ∃ Γ', Ext Γ Γ' ∧ VR Γ' (.slc H.n 0 len sz) (.slice (some ⟨w.heap.size, 0, none⟩) len cap) ∧ WR Γ' (H.new (.cells cs)) (w.alloc (.cells (us.toArray ++ more) e)) := by
  obtain ⟨k1, k2⟩ := new_sound hw (T := e) (CellsR.more (more := more) (arr := us.toArray) (by simpa using hF))
  refine ⟨_, Ext.push Γ _ _ _, ?_, k1⟩
  rw [k2]
  exact push_slc _ _ _ _ _ _ h1 (by omega)

theorem F2.take {xs : List AVal} {us : List Value} (h : F2 (VR Γ) xs us) (n : Nat) : F2 (VR Γ) (xs.take n) (us.take n) := by
  have hl := h.length
  refine F2.of_get (by simp [hl]) fun j x v hx hv => ?_
  rw [List.getElem?_take] at hx hv
  split at hx
  · rename_i hj
    rw [if_pos hj] at hv
    exact h.get _ _ _ hx hv
  · cases hx

set_option maxRecDepth 10000 in
theorem append_sound (hE : EnvOK P E) (hw : WR Γ H w) {t u : Nat} {s x v : AVal} {s' x' : Value} {H' : AH} {ts : List Nat} {ty : Nat} (hs : VR Γ s s') (hx : VR Γ x x')
    (h : appendA E t u s x H = some (v, H')) : Makes P Γ w (Builtin.append_ (t :: u :: ts).toArray ty #[s', x']) v H' := by
  unfold appendA at h
  split at h
  · rename_i ti ui hti hui
    obtain ⟨inf, dd, z, h1, h2, h3, h4, h5, h6, h7⟩ := mkTy_spec (hE.ty _ _ hti)
    obtain ⟨inf', dd', z', h1', h2', h3', h4', h5', h6', h7'⟩ := mkTy_spec (hE.ty _ _ hui)
    split at h
    · rename_i esz eby ez ei hk
      rw [hk] at h7
      obtain ⟨e, einf, ez', rfl, g1, g2, g3, g4, g5, g6⟩ := tk_slice h7.symm
      split at h
      · cases h
      · rename_i hni
        have hint : (∃ e', dd' = .slice e') ∨ dd' = .string := by
          split at hni
          · rename_i hq; rw [hq] at h7'; obtain ⟨e', _, _, rfl, _⟩ := tk_slice h7'.symm; exact .inl ⟨e', rfl⟩
          · rename_i hq; rw [hq] at h7'; exact .inr (tk_str h7'.symm)
          · cases hni
        split at h
        · rename_i new n hnew
          have hz := ofSs_F2 (Γ := Γ) g3
          have hzl := hz.length
          simp only [Array.length_toList] at hzl
          have hlx : (Builtin.lenOf x').run P w = .ok n w := len_val hx hnew
          obtain ⟨us, f1, f2, f3⟩ := slCells_all (P := P) hw hx hnew
          obtain ⟨us1, f1', f2', f3'⟩ := slCells_all (P := P) hw.drew hx hnew
          rw [g4] at f1 f1'
          have hzc : 0 < n → 0 < esz → ez'.cells.size = esz → True := fun _ _ _ => trivial
          -- a base without room
          have fresh : ∀ a, s' = .slice a 0 0 → n ≠ 0 → roomA n eby = true → ez.length = esz → Makes P Γ w (Builtin.append_ (t :: u :: ts).toArray ty #[s', x']) (.slc H.n 0 n esz) (H.new (.cells new)) := by
            intro a ha hn hr hez
            subst ha
            have ho : (Builtin.firstCells einf.size 0 (.slice a 0 0)).run P w.drew = .ok ([] : List Value).toArray w.drew := by
              cases a <;> simp [Builtin.firstCells, loadCells, loadCellsFrom]
            have hrun := run_append_more (w := w) (ts := ts) (ty := ty) h2 h2' hint g1 g2 hlx f1' ho (base := a) (sLen := 0) (sCap := 0) (by omega) (by rw [Nat.zero_add, ← g5]; exact hr)
            rw [Nat.zero_add] at hrun
            have hcap : n ≤ grownCap w n 0 e := grownCap_ge _ _ _ _
            have hsz : (us1.toArray ++ Builtin.zeroCells ez'.cells (grownCap w n 0 e - n)).size = grownCap w n 0 e * esz := by
              rw [Array.size_append, size_zeroCells]
              simp only [List.size_toArray, f3']
              rw [show ez'.cells.size = esz by omega, ← Nat.add_mul, Nat.add_sub_of_le hcap]
            obtain ⟨Γ', k1, k2, k3⟩ := grown_sound (e := e) hw.drew f2' hcap hsz
            refine ⟨Γ', _, _, hrun, k1, k2, ?_⟩
            simpa using k3
          split at h
          · rename_i b
            split at h
            · rename_i hn0
              subst hn0
              simp only [Option.some.injEq, Prod.mk.injEq] at h; obtain ⟨rfl, rfl⟩ := h
              have hus : us = [] := List.eq_nil_of_length_eq_zero (by rw [f3, Nat.zero_mul])
              subst hus
              cases hs
              · refine ⟨Γ, .slice none 0 0, w, ?_, .refl _, .nosNil, hw⟩
                rw [run_append_fit h2 h2' hint g1 hlx f1 (by omega)]; simp [storeOpt]
              · rename_i a
                refine ⟨Γ, .slice (some a) 0 0, w, ?_, .refl _, .nosSome a, hw⟩
                rw [run_append_fit h2 h2' hint g1 hlx f1 (by omega)]; simp [storeOpt, storeCells]
            · rename_i hn0
              cases hr : (roomA n eby && decide (ez.length = esz)) with
              | false => rw [hr] at h; cases h
              | true =>
                rw [hr] at h
                simp only [Bool.and_eq_true, decide_eq_true_eq] at hr
                simp only [cond_true, Option.some.injEq, Prod.mk.injEq] at h; obtain ⟨rfl, rfl⟩ := h
                cases hs
                · exact fresh _ rfl hn0 hr.1 hr.2
                · exact fresh _ rfl hn0 hr.1 hr.2
          · split at h
            · rename_i hn0
              subst hn0
              simp only [Option.some.injEq, Prod.mk.injEq] at h; obtain ⟨rfl, rfl⟩ := h
              have hus : us = [] := List.eq_nil_of_length_eq_zero (by rw [f3, Nat.zero_mul])
              subst hus
              cases hs
              refine ⟨Γ, .slice none 0 0, w, ?_, .refl _, .nosNil, hw⟩
              rw [run_append_fit h2 h2' hint g1 hlx f1 (by omega)]; simp [storeOpt]
            · rename_i hn0
              cases hr : (roomA n eby && decide (ez.length = esz)) with
              | false => rw [hr] at h; cases h
              | true =>
                rw [hr] at h
                simp only [Bool.and_eq_true, decide_eq_true_eq] at hr
                simp only [cond_true, Option.some.injEq, Prod.mk.injEq] at h; obtain ⟨rfl, rfl⟩ := h
                cases hs
                exact fresh _ rfl hn0 hr.1 hr.2
          · rename_i id off len sz
            split at h
            · rename_i hsz
              subst hsz
              split at h
              · rename_i cs hcs
                split at h
                · rename_i old hold
                  cases hr : (roomA (len + n) eby && decide (ez.length = sz) && new.all scal) with
                  | false => rw [hr] at h; cases h
                  | true =>
                    rw [hr] at h
                    simp only [Bool.and_eq_true, decide_eq_true_eq] at hr
                    obtain ⟨⟨hr, hez⟩, hsc⟩ := hr
                    simp only [cond_true, Option.some.injEq, Prod.mk.injEq] at h; obtain ⟨rfl, rfl⟩ := h
                    obtain ⟨arr, T, fz, o1, o2, o3, o4⟩ := hw.obj _ _ hcs
                    have hid := hw.old _ _ hcs
                    have hol := takeN_le hold
                    have hos := takeN_spec hold
                    simp only [List.length_drop] at hol
                    -- the elder cells, read
                    have hslo : slCells H sz (.slc id off len sz) = some (old, len) := by simp only [slCells, hcs, hold]
                    cases hs
                    case slc cap hid' hc hf =>
                      by_cases hfit : len + n ≤ cap
                      · -- in place
                        have hrun := run_append_fit (w := w) (ts := ts) (ty := ty) h2 h2' hint g1 hlx f1 (base := some ⟨Γ.blk id, Γ.base id + off, none⟩) (sLen := len) hfit
                        rw [Option.map_some, add_none, ← g4] at hrun
                        have hcapz : len * sz + n * sz ≤ cap * sz := by rw [← Nat.add_mul]; exact Nat.mul_le_mul_right _ hfit
                        obtain ⟨w', cur', s1, s2, s3, s4, s5⟩ := storeCells_run (P := P) us 0 (Γ.base id + off + len * sz) arr w o1 o2 (by rw [f3]; omega) (f2.all_one hsc)
                        refine ⟨Γ.push (Γ.blk id) (Γ.base id + off) (Γ.bsz id), .slice (some ⟨Γ.blk id, Γ.base id + off, none⟩) (len + n) cap, w', ?_, Ext.push Γ _ _ _, ?_, ?_⟩
                        · rw [hrun]
                          show ((storeCells _ us).run P w).andThen _ = _
                          rw [s1]; rfl
                        · rw [hw.top]
                          exact push_slc _ _ _ _ _ _ hfit (by omega)
                        · refine hw.renew hcs s3 ⟨cur', T, fz, by rw [Ctx.push_blk]; exact s2, fun k hk => o2 k (by omega), by rw [Ctx.push_bsz, s4]; exact o3, ?_⟩
                          rw [Ctx.push_base]
                          have hnl := slCells_len hnew
                          have o4' := o4.1
                          refine ⟨by rw [List.length_append, hos.2, hnl, s4]; omega, ?_⟩
                          intro j y hy
                          have hj := s5 (Γ.base id + off + j)
                          rw [List.getElem?_append] at hy
                          by_cases hjl : j < old.length
                          · rw [if_pos hjl] at hy
                            rw [if_neg (by omega)] at hj
                            have hjo : j < len * sz := by rw [hos.2] at hjl; exact hjl
                            rw [takeN_get hold hjo, List.getElem?_drop] at hy
                            obtain ⟨v, hv, hvr⟩ := o4.2 _ _ hy
                            refine ⟨v, ?_, hvr.ext (Ext.push Γ _ _ _)⟩
                            rw [hj, ← hv]; congr 1; omega
                          · rw [if_neg hjl] at hy
                            have hjn : j - old.length < new.length := (List.getElem?_eq_some_iff.1 hy).1
                            rw [if_pos (by rw [f3]; omega)] at hj
                            rw [show Γ.base id + off + j - (Γ.base id + off + len * sz + 0) = j - old.length by omega] at hj
                            have hju : j - old.length < us.length := by omega
                            refine ⟨us[j - old.length], ?_, (f2.get _ _ _ hy (by simp [hju])).ext (Ext.push Γ _ _ _)⟩
                            rw [hj]; simp [hju]
                      · -- a new row
                        obtain ⟨os, q1, q2, q3⟩ := slCells_all (P := P) hw.drew (VR.slc hid' hc hf) hslo
                        rw [g4] at q1
                        have hrun := run_append_more (w := w) (ts := ts) (ty := ty) h2 h2' hint g1 g2 hlx f1' q1 (by omega) (by rw [← g5]; exact hr)
                        have hcap : len + n ≤ grownCap w (len + n) cap e := grownCap_ge _ _ _ _
                        have hsz2 : ((os ++ us1).toArray ++ Builtin.zeroCells ez'.cells (grownCap w (len + n) cap e - (len + n))).size = grownCap w (len + n) cap e * sz := by
                          rw [Array.size_append, size_zeroCells]
                          simp only [List.size_toArray, List.length_append, f3', q3]
                          rw [show ez'.cells.size = sz by omega, ← Nat.add_mul, ← Nat.add_mul, Nat.add_sub_of_le hcap]
                        obtain ⟨Γ', k1, k2, k3⟩ := grown_sound (e := e) (hw.drew.forget id) (q2.append f2') hcap hsz2
                        rw [show (os ++ us1).toArray = os.toArray ++ us1.toArray by apply Array.ext'; simp] at k3
                        exact ⟨Γ', _, _, hrun, k1, k2, k3⟩
                    case slc0 a =>
                      by_cases hfit : n = 0
                      · subst hfit
                        have hus : us = [] := List.eq_nil_of_length_eq_zero (by rw [f3, Nat.zero_mul])
                        subst hus
                        have hrun := run_append_fit (w := w) (ts := ts) (ty := ty) h2 h2' hint g1 hlx f1 (base := some a) (sLen := 0) (sCap := 0) (by omega)
                        have hold0 : old = [] := List.eq_nil_of_length_eq_zero (by rw [hos.2, Nat.zero_mul])
                        have hnew0 : new = [] := List.eq_nil_of_length_eq_zero (by rw [slCells_len hnew, Nat.zero_mul])
                        subst hold0 hnew0
                        refine ⟨Γ.push (Γ.blk id) (Γ.base id) (Γ.bsz id), .slice (some a) 0 0, w, ?_, Ext.push Γ _ _ _, .slc0 a, ?_⟩
                        · rw [hrun]; simp [storeOpt, storeCells]
                        · refine hw.renew hcs (.refl _ _) ⟨arr, T, fz, by rw [Ctx.push_blk]; exact o1, o2, by rw [Ctx.push_bsz]; exact o3, ?_⟩
                          rw [Ctx.push_base]
                          refine ⟨?_, by simp⟩
                          have := o4.1
                          simp; omega
                      · have ho : (Builtin.firstCells einf.size 0 (.slice (some a) 0 0)).run P w.drew = .ok ([] : List Value).toArray w.drew := by
                          simp [Builtin.firstCells, loadCells, loadCellsFrom]
                        have hrun := run_append_more (w := w) (ts := ts) (ty := ty) h2 h2' hint g1 g2 hlx f1' ho (base := some a) (sLen := 0) (sCap := 0) (by omega) (by rw [← g5]; exact hr)
                        have hcap : 0 + n ≤ grownCap w (0 + n) 0 e := grownCap_ge _ _ _ _
                        have hold0 : old = [] := List.eq_nil_of_length_eq_zero (by rw [hos.2, Nat.zero_mul])
                        subst hold0
                        have hsz2 : (us1.toArray ++ Builtin.zeroCells ez'.cells (grownCap w (0 + n) 0 e - (0 + n))).size = grownCap w (0 + n) 0 e * sz := by
                          rw [Array.size_append, size_zeroCells]
                          simp only [List.size_toArray, f3']
                          rw [show ez'.cells.size = sz by omega, ← Nat.add_mul]; congr 1; have := Nat.add_sub_of_le hcap; omega
                        obtain ⟨Γ', k1, k2, k3⟩ := grown_sound (e := e) (hw.drew.forget id) f2' hcap hsz2
                        rw [show us1.toArray = ([] : List Value).toArray ++ us1.toArray by apply Array.ext'; simp] at k3
                        exact ⟨Γ', _, _, hrun, k1, k2, k3⟩
                · cases h
              · cases h
            · cases h
          · cases h
        · cases h
    · cases h
  · cases h

end
end Go.Pend

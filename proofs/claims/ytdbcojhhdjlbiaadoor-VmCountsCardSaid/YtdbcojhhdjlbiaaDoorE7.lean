/- The other operations: clear, make, texts and bytes, maps, assertions. -/
import Derived.Test.YtdbcojhhdjlbiaaDoorE6
import Derived.Laws.BytesString
namespace Go.Pend
open Go.RowKit (Below)

section
variable {P : Program} {E : Env} {Γ : Ctx} {H : AH} {w : World}

theorem zeros_exact {ez : List AVal} {zs : Array Value} (hz : F2 (VR Γ) ez zs.toList) (n : Nat) : F2 (VR Γ) (repl ez n) (Builtin.zeroCells zs n).toList := by
  have hl := hz.length
  simp only [Array.length_toList] at hl
  have hc := zeros_F2 hz n n (Nat.le_refl _)
  refine F2.of_get ?_ fun j x v hx hv => ?_
  · rw [Array.length_toList, size_zeroCells, repl_length, hl]
  · obtain ⟨u, hu, hr⟩ := hc.2 j x hx
    rw [Nat.zero_add] at hu
    rw [Array.getElem?_toList, zeroCells_eq, hu] at hv
    cases hv; exact hr

theorem putCells_nil {cs r : List AVal} {k : Nat} (h : putCells cs k [] = some r) : r = cs := by
  obtain ⟨q1, q2, q3⟩ := putCells_spec h
  apply List.ext_getElem?
  intro j
  rw [q3 j]
  simp only [List.length_nil]
  rw [if_neg (by omega)]

theorem repl_scal {ez : List AVal} (h : ez.all scal = true) : ∀ n, (repl ez n).all scal = true
  | 0 => rfl
  | n + 1 => by simp only [repl, List.all_append, h, repl_scal h n, Bool.and_self]

theorem clear_sound (hE : EnvOK P E) (hw : WR Γ H w) {t : Nat} {d v : AVal} {d' : Value} {H' : AH} {ts : List Nat} {ty : Nat} (hd : VR Γ d d')
    (h : clearA E t d H = some (v, H')) : Makes P Γ w (Builtin.clear_ (t :: ts).toArray ty #[d']) v H' := by
  unfold clearA at h
  split at h
  · cases h
  · rename_i ti hti
    obtain ⟨inf, dd, z, h1, h2, h3, h4, h5, h6, h7⟩ := mkTy_spec (hE.ty _ _ hti)
    split at h
    · rename_i esz eby ez ei hk
      rw [hk] at h7
      obtain ⟨e, einf, ez', rfl, g1, g2, g3, g4, g5, g6⟩ := tk_slice h7.symm
      have empty : ∀ a c, (Builtin.clear_ (t :: ts).toArray ty #[.slice a 0 c]).run P w = .ok (.tuple #[]) w := by
        intro a c
        unfold Builtin.clear_
        show (bind (underlying t) _ : Sem Value).run P w = _
        rw [Sem.run_bind, rUnd h2]
        cases a <;> rfl
      split at h
      · simp only [Option.some.injEq, Prod.mk.injEq] at h; obtain ⟨rfl, rfl⟩ := h
        refine ⟨Γ, .tuple #[], w, ?_, .refl _, .tup rfl (by simp), hw⟩
        cases hd <;> exact empty _ _
      · rename_i id off len ssz
        split at h
        · rename_i hcond
          obtain ⟨c1, c2, c3⟩ := hcond
          split at h
          · rename_i old hold
            split at h
            · rename_i new hnew
              simp only [Option.some.injEq, Prod.mk.injEq] at h; obtain ⟨rfl, rfl⟩ := h
              have hz := ofSs_F2 (Γ := Γ) g3
              by_cases h0 : len = 0
              · subst h0
                have := putCells_nil (show putCells old off [] = some new from hnew)
                subst this
                refine ⟨Γ, .tuple #[], w, ?_, .refl _, .tup rfl (by simp), hw.write hold (.refl _ _) (hw.obj _ _ hold)⟩
                cases hd <;> exact empty _ _
              · cases hd
                case slc cap hid hc hf =>
                  obtain ⟨w', s1, s2⟩ := put_sound (P := P) hw hold hnew (repl_scal c2 len) (zeros_exact hz len)
                  refine ⟨Γ, .tuple #[], w', ?_, .refl _, .tup rfl (by simp), s2⟩
                  unfold Builtin.clear_
                  show (bind (underlying t) _ : Sem Value).run P w = _
                  rw [Sem.run_bind, rUnd h2]
                  obtain ⟨l, rfl⟩ : ∃ l, len = l + 1 := ⟨len - 1, by omega⟩
                  show (bind (zeroValue e) _ : Sem Value).run P w = _
                  rw [Sem.run_bind, rZero g1 g2]
                  show (bind (storeCells _ (Builtin.zeroCells ez'.cells (l + 1)).toList) _ : Sem Value).run P w = _
                  rw [Sem.run_bind, s1]
                  rfl
                case slc0 a => exact absurd rfl h0
            · cases h
          · cases h
        · cases h
      · cases h
    · cases h

theorem bytesOfCells_spec : ∀ {cs : List AVal} {l : List UInt8}, bytesOfCells cs = some l → ∃ ns : List Int, cs = ns.map (fun n => .int .u8 n) ∧ l = ns.map fun n => UInt8.ofNat n.toNat
  | [], l, h => by simp only [bytesOfCells, Option.some.injEq] at h; subst h; exact ⟨[], rfl, rfl⟩
  | x :: r, l, h => by
    unfold bytesOfCells at h
    split at h
    · cases ‹_ = []›
    · rename_i n r' heq
      cases heq
      split at h
      · rename_i l' hl
        simp only [Option.some.injEq] at h; subst h
        obtain ⟨ns, h1, h2⟩ := bytesOfCells_spec hl
        exact ⟨n :: ns, by rw [h1]; rfl, by rw [h2]; rfl⟩
      · cases h
    · cases h

theorem WR.congr {H' : AH} (h : WR Γ H w) (hn : H'.n = H.n) (hg : ∀ i, H'.o.get i = H.o.get i) : WR Γ H' w :=
  ⟨h.below, h.n0, hn.trans h.top, h.rho, h.raw, h.rr, h.marksd, h.marks, fun i x hx => h.old i x (hg i ▸ hx), fun i x hx => h.own i x (hg i ▸ hx), fun i x hx => h.obj i x (hg i ▸ hx),
    fun i j x y hx hy => h.inj i j x y (hg i ▸ hx) (hg j ▸ hy)⟩

theorem WR.touch {w' : World} (h : WR Γ H w) {id : Nat} {x : AObj} (hid : H.o.get id = some x) (hw : OneBlock (Γ.blk id) w w') (hy : OR Γ id x w') : WR Γ H w' := by
  refine (h.write hid hw hy).congr rfl fun i => ?_
  rw [PT.get_set]
  split
  · subst i; exact hid
  · rfl

theorem OneBlock.freeze (w : World) (a : Addr) (n : Nat) : OneBlock a.block w (w.freeze a n) := by
  unfold World.freeze
  split
  · exact .refl _ _
  · exact ⟨rfl, rfl, rfl, by simp, fun k hk => by simp only [Array.getElem?_modify]; rw [if_neg (by omega)]⟩

theorem ints_F2 {ns : List Int} {us : List Value} (h : F2 (VR Γ) (ns.map fun n => .int .u8 n) us) : us = ns.map (Value.int .u8) := by
  induction ns generalizing us with
  | nil => cases h; rfl
  | cons n ns ih =>
    cases h with
    | cons h t => rw [h.int_inv, ih t]; rfl

theorem foldl_push : ∀ (ns : List Int) (s : ByteArray), ns.foldl (fun r n => r.push (UInt8.ofNat n.toNat)) s = ⟨s.data ++ (ns.map fun n => UInt8.ofNat n.toNat).toArray⟩
  | [], s => by simp
  | n :: ns, s => by
    rw [List.foldl_cons, foldl_push ns]
    apply ByteArray.ext
    apply Array.ext'
    simp [ByteArray.push]

theorem conv_sound (hE : EnvOK P E) (hw : WR Γ H w) {src dst : Nat} {x v : AVal} {x' : Value} {H' : AH} (hx : VR Γ x x') (h : convA E src dst x H = some (v, H')) :
    Makes P Γ w (Go.convert src dst x') v H' := by
  unfold convA at h
  split at h
  · rename_i si di hsi hdi
    obtain ⟨inf, ds, z, h1, h2, h3, h4, h5, h6, h7⟩ := mkTy_spec (hE.ty _ _ hsi)
    obtain ⟨inf', dd, z', h1', h2', h3', h4', h5', h6', h7'⟩ := mkTy_spec (hE.ty _ _ hdi)
    split at h
    · rename_i k k0 n hk
      rw [hk] at h7'
      have := tk_int h7'.symm; subst this
      have := hx.int_inv; subst this
      simp only [Option.some.injEq, Prod.mk.injEq] at h; obtain ⟨rfl, rfl⟩ := h
      refine ⟨Γ, .int k (k.wrap n), w, ?_, .refl _, .int _ _, hw⟩
      unfold Go.convert
      rw [Sem.run_bind, rUnd h2]
      show (bind (underlying dst) _ : Sem Value).run P w = _
      rw [Sem.run_bind, rUnd h2']
      cases ds <;> rfl
    · rename_i k l hk
      cases hc : isI64 k with
      | false => rw [hc] at h; cases h
      | true =>
        rw [hc] at h
        have := isI64_eq hc; subst this
        rw [hk] at h7'
        have := tk_int h7'.symm; subst this
        cases hx
        simp only [cond_true, Option.some.injEq, Prod.mk.injEq] at h; obtain ⟨rfl, rfl⟩ := h
        refine ⟨Γ, .int .i64 (wr (wr (l.eval Γ.env.v))), w, ?_, .refl _, by rw [wr_wr]; exact .sym l, hw⟩
        unfold Go.convert
        rw [Sem.run_bind, rUnd h2]
        show (bind (underlying dst) _ : Sem Value).run P w = _
        rw [Sem.run_bind, rUnd h2']
        cases ds <;> rfl
    · rename_i s hk
      rw [hk] at h7'
      have := tk_str h7'.symm; subst this
      have := hx.str_inv; subst this
      simp only [Option.some.injEq, Prod.mk.injEq] at h; obtain ⟨rfl, rfl⟩ := h
      refine ⟨Γ, .string s, w, ?_, .refl _, .str _, hw⟩
      unfold Go.convert
      rw [Sem.run_bind, rUnd h2]
      show (bind (underlying dst) _ : Sem Value).run P w = _
      rw [Sem.run_bind, rUnd h2']
      cases ds <;> rfl
    · rename_i esz eby ez s hk
      rw [hk] at h7'
      obtain ⟨e, einf, ez', rfl, g1, g2, g3, g4, g5, g6⟩ := tk_slice h7'.symm
      have := hx.str_inv; subst this
      simp only [Option.some.injEq, Prod.mk.injEq] at h; obtain ⟨rfl, rfl⟩ := h
      have hue : P.underlying e = some (.int .u8) := by
        cases hu : P.underlying e with
        | none => rw [hu] at g6; cases g6
        | some d =>
          rw [hu] at g6
          cases d <;> first | (cases g6; done) | (simp only [Option.some.injEq] at g6; rw [← g6])
      let cap := (Question.appendCap s.size 0 e).cut (w.tape w.drawn (.appendCap s.size 0 e))
      have hcap : s.size ≤ cap := Nat.le_add_right _ _
      let elems : Array Value := s.data.map fun b => .int .u8 b.toNat
      let arr : Array Value := elems ++ Array.replicate (cap - s.size) (.int .u8 0)
      have hF : F2 (VR Γ) (s.data.toList.map fun b => AVal.int .u8 (b.toNat : Int)) elems.toList := by
        refine F2.of_get (by simp [elems]) fun j x v hx hv => ?_
        simp only [elems, Array.toList_map, List.getElem?_map, Option.map_eq_some_iff] at hx hv
        obtain ⟨a, ha, rfl⟩ := hx
        obtain ⟨b, hb, rfl⟩ := hv
        rw [ha] at hb; cases hb
        exact .int _ _
      obtain ⟨k1, k2⟩ := new_sound (w := w.drew) hw.drew (T := e) (CellsR.more (more := Array.replicate (cap - s.size) (.int .u8 0)) hF)
      have hsz : arr.size = cap := by
        have : s.data.size = s.size := rfl
        simp [arr, elems, this]; omega
      have hget : (H.new (.cells (s.data.toList.map fun b => AVal.int .u8 (b.toNat : Int)))).o.get Γ.top = some (.cells (s.data.toList.map fun b => AVal.int .u8 (b.toNat : Int))) := by
        simp only [AH.new, PT.get_set, k2, if_true]
      let w1 := w.drew.alloc (.cells arr e)
      let w2 := w1.freeze { block := w.heap.size, off := cap } 1
      have hb1 : w1.heap[w.heap.size]? = some (.cells arr e (0, 0)) := by show (w.heap.push _)[w.heap.size]? = _; simp
      have hb2 : w2.heap[w.heap.size]? = some (.cells arr e (cap, cap + 1)) := by
        show (w1.freeze _ 1).heap[_]? = _
        unfold World.freeze
        rw [if_neg (by omega)]
        simp [Array.getElem?_modify, hb1]
      have hob : OneBlock ((Γ.push w.drew.heap.size 0 arr.size).blk Γ.top) w1 w2 := by
        rw [Ctx.push_blk]
        exact OneBlock.freeze w1 { block := w.heap.size, off := cap } 1
      have hO := k1.touch hget hob ⟨arr, e, (cap, cap + 1), by rw [Ctx.push_blk]; exact hb2, fun o ho => by simp only []; omega, by rw [Ctx.push_bsz], by
        rw [Ctx.push_base]; exact (CellsR.more (more := Array.replicate (cap - s.size) (.int .u8 0)) hF).ext (Ext.push Γ _ _ _)⟩
      refine ⟨_, .slice (some ⟨w.heap.size, 0, none⟩) s.size cap, w2, ?_, Ext.push Γ w.drew.heap.size 0 arr.size, ?_, hO⟩
      · unfold Go.convert
        rw [Sem.run_bind, rUnd h2]
        show (bind (underlying dst) _ : Sem Value).run P w = _
        rw [Sem.run_bind, rUnd h2']
        have hgo : (Go.convert src dst (.string s)).run P w = (Conv.stringToBytes e s).run P w := by
          unfold Go.convert
          rw [Sem.run_bind, rUnd h2]
          show (bind (underlying dst) _ : Sem Value).run P w = _
          rw [Sem.run_bind, rUnd h2']
          cases ds
          all_goals
            show (bind (underlying e) _ : Sem Value).run P w = _
            rw [Sem.run_bind, rUnd hue]; rfl
        have : (Conv.stringToBytes e s).run P w = .ok (.slice (some ⟨w.heap.size, 0, none⟩) s.size cap) w2 := by
          unfold Conv.stringToBytes
          rw [Sem.run_bind, run_choose]
          simp only [Question.forced, Bool.false_eq_true, if_false, Result.andThen_ok]
          show (bind (newRow e arr) _ : Sem Value).run P w.drew = _
          rw [Sem.run_bind]
          show (bind (markStringish ⟨w.heap.size, 0, none⟩) _ : Sem Value).run P w1 = _
          have hm : (markStringish ⟨w.heap.size, 0, none⟩).run P w1 = .ok () w2 := by
            unfold markStringish
            rw [Sem.run_bind, run_shape]
            have : w1.shape? w.heap.size = some (e, cap) := by simp [World.shape?, hb1, hsz]
            simp only [this, Result.andThen_ok, run_freeze]
            rfl
          rw [Sem.run_bind, hm]; rfl
        rw [← this, ← hgo]
        unfold Go.convert
        rw [Sem.run_bind, rUnd h2]
        show _ = (bind (underlying dst) _ : Sem Value).run P w
        rw [Sem.run_bind, rUnd h2']
      · rw [k2, size_list]
        exact push_slc _ _ _ _ _ _ (by rw [← size_list]; exact hcap) (by rw [hsz]; omega)
    · rename_i hk hneg
      rw [hk] at h7'
      have := tk_str h7'.symm; subst this
      split at h
      · rename_i esz eby ez hk2
        rw [hk2] at h7
        obtain ⟨e, einf, ez', rfl, g1, g2, g3, g4, g5, g6⟩ := tk_slice h7.symm
        have hue : P.underlying e = some (.int .u8) := by
          cases hu : P.underlying e with
          | none => rw [hu] at g6; cases g6
          | some d =>
            rw [hu] at g6
            cases d <;> first | (cases g6; done) | (simp only [Option.some.injEq] at g6; rw [← g6])
        split at h
        · cases h
        · rename_i hns
          split at h
          · rename_i cs n hcs
            split at h
            · rename_i l hl
              simp only [Option.some.injEq, Prod.mk.injEq] at h; obtain ⟨rfl, rfl⟩ := h
              obtain ⟨ns, e1, e2⟩ := bytesOfCells_spec hl
              obtain ⟨us, f1, f2, f3⟩ := slCells_all (P := P) hw hx hcs
              rw [e1] at f2
              have hus := ints_F2 f2
              have go : ∀ a len cap, x' = .slice a len cap → (Go.convert src dst x').run P w = (Conv.bytesToString x').run P w := by
                intro a len cap hxx
                subst hxx
                unfold Go.convert
                rw [Sem.run_bind, rUnd h2]
                show (bind (underlying dst) _ : Sem Value).run P w = _
                rw [Sem.run_bind, rUnd h2']
                show (bind (underlying e) _ : Sem Value).run P w = _
                rw [Sem.run_bind, rUnd hue]
                rfl
              have some_ : ∀ a len cap, x' = .slice (some a) len cap → len = n → (Go.convert src dst x').run P w = .ok (.string ⟨l.toArray⟩) w := by
                intro a len cap hxx hlen
                rw [go _ _ _ hxx]
                subst hxx hlen
                rw [Builtin.firstCells, Nat.mul_one, hus] at f1
                rw [run_bytesToString w a len cap ns f1, foldl_push, e2]
                simp
              have none_ : x' = .slice none 0 0 → n = 0 → (Go.convert src dst x').run P w = .ok (.string ⟨l.toArray⟩) w := by
                intro hxx hn
                rw [go _ _ _ hxx]
                subst hxx hn
                have : ns = [] := by
                  have := slCells_len hcs
                  rw [e1] at this
                  simpa using this
                subst this
                rw [e2]; rfl
              refine ⟨Γ, _, w, ?_, .refl _, .str _, hw⟩
              unfold slCells at hcs
              split at hcs
              · simp only [Option.some.injEq, Prod.mk.injEq] at hcs
                cases hx
                · exact none_ rfl hcs.2.symm
                · exact some_ _ _ _ rfl hcs.2
              · split at hcs
                · split at hcs
                  · simp only [Option.some.injEq, Prod.mk.injEq] at hcs
                    cases hx
                    · exact some_ _ _ _ rfl hcs.2
                    · exact some_ _ _ _ rfl hcs.2
                  · cases hcs
                · cases hcs
              · split at hcs
                · simp only [Option.some.injEq, Prod.mk.injEq] at hcs
                  cases hx
                  · exact none_ rfl hcs.2.symm
                  · rename_i a len cap sz' u hc hl hs hz h1 h2
                    exact some_ _ _ _ rfl (hl.trans hcs.2)
                · cases hcs
              · exact absurd rfl (hns _)
              · cases hcs
            · cases h
          · cases h
      · cases h
    · cases h
  · cases h

end
end Go.Pend

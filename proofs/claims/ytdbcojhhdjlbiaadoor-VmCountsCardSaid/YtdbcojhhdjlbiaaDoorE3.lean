/- The operations that only look: each gives what the model's gives. -/
import Derived.Test.YtdbcojhhdjlbiaaDoorE2
import Derived.ChangeKeysEq
namespace Go.Pend
open Go.RowKit (Below)

section
variable {P : Program} {E : Env} {Γ : Ctx} {H : AH} {w : World}

theorem rUnd {t : Nat} {d : TypeDesc} (h : P.underlying t = some d) : (underlying t).run P w = .ok d w := run_underlying h w
theorem rInfo {t : Nat} {i : TypeInfo} (h : P.info? t = some i) : (typeInfo t).run P w = .ok i w := by
  simp [typeInfo, h]
theorem rSize {t : Nat} {i : TypeInfo} (h : P.info? t = some i) : (sizeOf t).run P w = .ok i.size w := by
  simp [sizeOf, typeInfo, h]
theorem rZero {t : Nat} {i : TypeInfo} {z : Value} (h : P.info? t = some i) (hz : i.zero = some z) : (zeroValue t).run P w = .ok z w := by
  simp [zeroValue, typeInfo, h, hz]
theorem rAgg {t : Nat} {d : TypeDesc} (h : P.underlying t = some d) : (isAgg t).run P w = .ok (isAggD d) w := by
  simp only [isAgg, Sem.run_bind, rUnd h, Result.andThen]
  cases d <;> rfl

theorem load_sound (hE : EnvOK P E) (hG : GOK P E Γ) (hw : WR Γ H w) {t : Nat} {x v : AVal} {x' : Value} (hx : VR Γ x x') (h : loadA E t x H = some v) :
    ∃ v', (Instr.loadAt t x').run P w = .ok v' w ∧ VR Γ v v' := by
  have key : ∀ (hx0 : ∀ g, x ≠ .glob g), (match E.ty t with
      | some i => bif i.agg then (match ldCells H x i.size with | some cs => some (AVal.agg cs) | none => none)
        else match ldCells H x 1 with | some [v] => some v | _ => none
      | none => none) = some v → ∃ v', (Instr.loadAt t x').run P w = .ok v' w ∧ VR Γ v v' := by
    intro _ h
    split at h
    · rename_i i hi
      obtain ⟨inf, d, z, h1, h2, h3, h4, h5, h6, h7⟩ := mkTy_spec (hE.ty _ _ hi)
      cases hagg : i.agg with
      | true =>
        simp only [hagg, cond_true] at h
        split at h
        · rename_i cs hcs
          simp only [Option.some.injEq] at h; subst h
          obtain ⟨b, o, vs, rfl, hF, hl, hc⟩ := ldCells_sound hw hx hcs
          refine ⟨.agg vs.toArray, ?_, .agg (by simpa using hF.length) (fun j x v hx hv => hF.get j x v hx (by simpa using hv))⟩
          have hd : isAggD d = true := by rw [← h6]; exact hagg
          have hln : inf.size = vs.length := by rw [hl, h5]
          simp only [Instr.loadAt, Instr.sureAddr, loadVar, Sem.run_bind, rAgg h2, hd, Result.andThen, Sem.run_pure, if_true, rSize h1, hln, loadCells_list hc]
        · cases h
      | false =>
        simp only [hagg, cond_false] at h
        split at h
        · rename_i u hcs
          simp only [Option.some.injEq] at h; subst h
          obtain ⟨b, o, vs, rfl, hF, hl, hc⟩ := ldCells_sound hw hx hcs
          cases hF with
          | cons hr ht =>
            rename_i v' m
            have := hc 0 v' rfl
            refine ⟨v', ?_, hr⟩
            have hd : isAggD d = false := by rw [← h6]; exact hagg
            rw [show ((⟨b, o, none⟩ : Addr).add 0) = ⟨b, o, none⟩ from rfl] at this
            simp [Instr.loadAt, Instr.sureAddr, loadVar, rAgg h2, hd, this]
        · cases h
    · cases h
  cases x
  case glob g =>
    simp only [loadA] at h
    split at h
    · rename_i i hi
      obtain ⟨inf, d, z, h1, h2, h3, h4, h5, h6, h7⟩ := mkTy_spec (hE.ty _ _ hi)
      cases hagg : i.agg with
      | true => simp [hagg] at h
      | false =>
        simp only [hagg, cond_false] at h
        obtain ⟨v', hv, hr⟩ := hG.gl g v h
        cases hx
        refine ⟨v', ?_, hr⟩
        have hd : isAggD d = false := by rw [← h6]; exact hagg
        have := hw.rho _ _ _ hv
        simp [Instr.loadAt, Instr.sureAddr, loadVar, rAgg h2, hd, this]
    · cases h
  all_goals exact key (by intro g; simp) h

theorem fieldsOf_get : ∀ {l : List Field} {fs : List (Nat × Nat × Bool)}, fieldsOf P l = some fs → ∀ (f : Nat) (o s : Nat) (b : Bool), fs[f]? = some (o, s, b) →
    ∃ x inf d, l[f]? = some x ∧ P.info? x.type = some inf ∧ P.underlying x.type = some d ∧ o = x.offset ∧ s = inf.size ∧ b = isAggD d
  | [], fs, h => by intro f o s b hf; simp only [fieldsOf, Option.some.injEq] at h; subst h; simp at hf
  | x :: l, fs, h => by
    intro f o s b hf
    simp only [fieldsOf] at h
    split at h
    · rename_i i d r h1 h2 h3
      simp only [Option.some.injEq] at h; subst h
      cases f with
      | zero =>
        simp only [List.getElem?_cons_zero, Option.some.injEq, Prod.mk.injEq] at hf
        exact ⟨x, i, d, rfl, h1, h2, hf.1.symm, hf.2.1.symm, hf.2.2.symm⟩
      | succ f => exact fieldsOf_get h3 f o s b (by simpa using hf)
    · cases h

theorem fieldsOf_len : ∀ {l : List Field} {fs : List (Nat × Nat × Bool)}, fieldsOf P l = some fs → fs.length = l.length
  | [], fs, h => by simp only [fieldsOf, Option.some.injEq] at h; subst h; rfl
  | x :: l, fs, h => by
    simp only [fieldsOf] at h
    split at h
    · rename_i i d r h1 h2 h3
      simp only [Option.some.injEq] at h; subst h
      simp [fieldsOf_len h3]
    · cases h

theorem fieldAddr_sound (hE : EnvOK P E) {t f : Nat} {x v : AVal} {x' : Value} (hx : VR Γ x x') (h : fieldAddrA E t f x = some v) :
    ∃ v', (Instr.fieldAt t x' f).run P w = .ok v' w ∧ VR Γ v v' := by
  unfold fieldAddrA at h
  split at h
  · cases h
  · rename_i ti hti
    obtain ⟨inf, d, z, h1, h2, h3, h4, h5, h6, h7⟩ := mkTy_spec (hE.ty _ _ hti)
    split at h
    · rename_i fs c hk
      rw [hk] at h7
      obtain ⟨l, rfl, hl, hc⟩ := tk_struct h7.symm
      split at h
      · rename_i off s b hf
        obtain ⟨x0, inf0, d0, g1, g2, g3, g4, g5, g6⟩ := fieldsOf_get hl _ _ _ _ hf
        cases hs : Nat.beq s 0 with
        | true => simp [hs] at h
        | false =>
          simp only [hs, cond_false] at h
          have hs0 : inf0.size ≠ 0 := by rw [← g5]; intro e; rw [e] at hs; cases hs
          have hg : (l[f]? : Option Field) = some x0 := by simpa using g1
          have run : ∀ b o, (Instr.fieldAt t (.pointer (some ⟨b, o, none⟩)) f).run P w = .ok (.pointer (some ⟨b, o + off, none⟩)) w := by
            intro b o
            simp [Instr.fieldAt, Instr.sureAddr, fieldPlace, rUnd h2, hg, rSize g2, hs0, add_none, g4]
          split at h
          · simp only [Option.some.injEq] at h; subst h
            cases hx
            rename_i hid
            exact ⟨_, run _ _, by rw [Nat.add_assoc]; exact .ptr hid⟩
          · simp only [Option.some.injEq] at h; subst h
            cases hx
            rename_i b o u h1 h2
            refine ⟨_, run _ _, .rop (fun j => u (off + j)) ?_ ?_⟩
            · intro j hj
              rw [Nat.add_assoc]; exact h1 _ (by simp at hj; omega)
            · intro j x hx
              exact h2 _ _ (by simpa using hx)
          · cases h
      · cases h
    · cases h

theorem rowsOf_spec {sz : Nat} : ∀ {es : List (List AVal)}, rowsOf sz es = true → ∀ (i : Nat) (r : List AVal), es[i]? = some r → r.length = sz
  | [], _, i, r, hi => by simp at hi
  | e :: es, h, i, r, hi => by
    simp only [rowsOf, Bool.and_eq_true] at h
    cases i with
    | zero => simp only [List.getElem?_cons_zero, Option.some.injEq] at hi; subst hi; exact Nat.eq_of_beq_eq_true h.1
    | succ i => exact rowsOf_spec h.2 i r (by simpa using hi)

theorem indexAddrB_sound (hE : EnvOK P E) {t : Nat} {x i v : AVal} {x' i' : Value} (hx : VR Γ x x') (hi : VR Γ i i') (h : indexAddrB E t x i = some v) :
    ∃ v', (Instr.indexAt t x' i').run P w = .ok v' w ∧ VR Γ v v' := by
  unfold indexAddrB at h
  split at h
  · rename_i ti ik k hti
    obtain ⟨inf, d, z, h1, h2, h3, h4, h5, h6, h7⟩ := mkTy_spec (hE.ty _ _ hti)
    cases hi
    split at h
    · rename_i esz eby ez ei hk
      rw [hk] at h7
      obtain ⟨e, einf, ez', rfl, g1, g2, g3, g4, g5, g6⟩ := tk_slice h7.symm
      split at h
      · rename_i id off len sz
        split at h
        · rename_i hlt
          simp only [Option.some.injEq] at h; subst h
          cases hx
          case slc hid hc hf =>
            refine ⟨_, ?_, .ptr hid⟩
            have hlt' : (0 : Int) ≤ (k : Int) ∧ (k : Int) < (len : Int) := by omega
            simp [Instr.indexAt, asIntOf, rUnd h2, rSize g1, hlt', add_none, g4, Nat.add_assoc, Int.ofNat_eq_natCast, hlt]
          case slc0 => omega
        · cases h
      · rename_i isn es
        split at h
        · rename_i cs hcs
          split at h
          · rename_i hrow
            simp only [Option.some.injEq] at h; subst h
            cases hx
            case roNil => simp at hcs
            case ro a len cap sz u hl hc hs hz h1' h2' =>
              have hlt : k < es.length := (List.getElem?_eq_some_iff.1 hcs).1
              have hne : es ≠ [] := by intro e; subst e; simp at hlt
              have hsz : sz = esz := by rw [← hz _ _ hcs, rowsOf_spec hrow _ _ hcs]
              subst hsz
              have hlt' : (0 : Int) ≤ (k : Int) ∧ (k : Int) < (len : Int) := by omega
              have hsp := hs hne
              obtain ⟨ab, ao, as⟩ := a
              simp only at hsp; subst hsp
              refine ⟨.pointer (some ⟨ab, ao + k * sz, none⟩), ?_, .rop (fun j => u k j) ?_ ?_⟩
              · have hlt3 : k < len := by omega
                simp [Instr.indexAt, asIntOf, rUnd h2, rSize g1, add_none, ← g4, Int.ofNat_eq_natCast, hlt3]
              · intro j hj
                rw [hz _ _ hcs] at hj
                exact h1' k j hlt hj
              · intro j x hx
                exact h2' k cs j x hcs hx
          · cases h
        · cases h
      · cases h
    · cases h
  · cases h

theorem lit_ev1 {x : AVal} {v : Value} (h : litV (ev1 Γ.env x) = some v) : VR Γ x v := by
  cases x <;> simp only [ev1, litV, Option.some.injEq] at h <;> first | (cases h; done) | skip
  · subst h; exact .bool _
  · subst h; exact .int _ _
  · subst h; exact .str _
  · subst h; exact .sym _

theorem arrIndex_sound (hE : EnvOK P E) (hG : GOK P E Γ) {t a : Nat} {i v : AVal} {x' i' : Value} (hx : VR Γ (.arr a) x') (hi : VR Γ i i') (h : arrIndexA E t a i = some v) :
    ∃ v', (Instr.indexAt t x' i').run P w = .ok v' w ∧ VR Γ v v' := by
  unfold arrIndexA at h
  split at h
  · rename_i ti hti
    obtain ⟨inf, d, z, h1, h2, h3, h4, h5, h6, h7⟩ := mkTy_spec (hE.ty _ _ hti)
    split at h
    · rename_i esz eby ez ei hk
      rw [hk] at h7
      obtain ⟨e, einf, ez', rfl, g1, g2, g3, g4, g5, g6⟩ := tk_slice h7.symm
      split at h
      · rename_i cs hcs
        have hrow : ∃ j : Nat, i' = .int .i64 (j : Int) ∧ (Γ.env.rows a)[j]? = some (cs.map (ev1 Γ.env)) := by
          rw [hG.env]
          split at hcs
          · rename_i l
            obtain ⟨j, k1, k2⟩ := rowF_spec hG.facts hcs
            cases hi
            rw [hG.env]
            exact ⟨j, by rw [← k1]; rfl, k2⟩
          · rename_i k n
            cases hb : (isI64 k && IntKind.i64.wrap n == n) with
            | false => rw [hb] at hcs; cases hcs
            | true =>
              rw [hb] at hcs
              simp only [cond_true] at hcs
              rw [Bool.and_eq_true] at hb
              obtain ⟨j, k1, k2⟩ := rowF_spec hG.facts hcs
              cases hi
              have hkk : k = .i64 := by
                have := hb.1
                cases k <;> first | rfl | cases this
              subst hkk
              have hn : wr n = n := eq_of_beq hb.2
              rw [eval_const _ rfl] at k1
              exact ⟨j, by rw [← k1]; simp only [hn], k2⟩
          · cases hcs
        obtain ⟨j, rfl, hj⟩ := hrow
        cases hb : Nat.beq cs.length esz with
        | false => rw [hb] at h; cases h
        | true =>
          rw [hb] at h
          simp only [cond_true, Option.some.injEq] at h; subst h
          have hlen := Nat.eq_of_beq_eq_true hb
          cases hx
          case arrNil hn => rw [hn] at hj; simp at hj
          case arr ad len cap sz hl hc hs hz hr =>
            have hlt : j < (Γ.env.rows a).length := (List.getElem?_eq_some_iff.1 hj).1
            have hne : Γ.env.rows a ≠ [] := by intro e; rw [e] at hlt; simp at hlt
            have hsz : sz = esz := by rw [← hz _ _ hj, List.length_map, hlen]
            subst hsz
            have hsp := hs hne
            obtain ⟨ab, ao, as⟩ := ad
            simp only at hsp hr; subst hsp
            refine ⟨.pointer (some ⟨ab, ao + j * sz, none⟩), ?_, .rop (fun q => (Γ.rho ab (ao + j * sz + q)).getD undef) ?_ ?_⟩
            · have hlt3 : j < len := by omega
              simp [Instr.indexAt, asIntOf, rUnd h2, rSize g1, add_none, ← g4, Int.ofNat_eq_natCast, hlt3]
            · intro q hq
              obtain ⟨v, k1, k2⟩ := hr j _ q (ev1 Γ.env cs[q]) hj (by simp [hq])
              simp [k2]
            · intro q x hx
              obtain ⟨v, k1, k2⟩ := hr j _ q (ev1 Γ.env x) hj (by simp [hx])
              simp only [k2, Option.getD_some]
              exact lit_ev1 k1
      · cases h
    · cases h
  · cases h

theorem indexAddr_sound (hE : EnvOK P E) (hG : GOK P E Γ) {t : Nat} {x i v : AVal} {x' i' : Value} (hx : VR Γ x x') (hi : VR Γ i i') (h : indexAddrA E t x i = some v) :
    ∃ v', (Instr.indexAt t x' i').run P w = .ok v' w ∧ VR Γ v v' := by
  unfold indexAddrA at h
  split at h
  · exact arrIndex_sound hE hG hx hi h
  · exact indexAddrB_sound hE hx hi h

theorem boundA_spec {d : Nat} {o : Option AVal} {n : Nat} (h : boundA d o = some n) :
    (o = none ∧ n = d) ∨ ∃ k, o = some (.int k (n : Int)) := by
  unfold boundA at h
  split at h
  · simp only [Option.some.injEq] at h; exact .inl ⟨rfl, h.symm⟩
  · rename_i k i
    split at h
    · simp only [Option.some.injEq] at h; subst h; exact .inr ⟨_, rfl⟩
    · cases h
  · cases h

/-- an optional bound, in the world -/
def VRo (Γ : Ctx) : Option AVal → Option Value → Prop
  | none, none => True
  | some x, some v => VR Γ x v
  | _, _ => False

theorem rBound {k : IntKind} {n y : Nat} (h : n ≤ y) (code : BoundsCode) : (Instr.sliceBound (.int k (n : Int)) y code).run P w = .ok n w := by
  simp [Instr.sliceBound, asIntOf, h]

theorem VRo_int {k : IntKind} {n : Int} {o : Option Value} (h : VRo Γ (some (.int k n)) o) : o = some (.int k n) := by
  cases o with
  | none => exact h.elim
  | some v => simp only [VRo] at h; cases h; rfl

theorem VRo_none {o : Option Value} (h : VRo Γ none o) : o = none := by
  cases o with
  | none => rfl
  | some v => exact h.elim

/-- the three bounds of a slice expression -/
theorem rBounds {isSlice : Bool} {len cap dh l hh : Nat} {lo hi mx : Option AVal} {lo' hi' mx' : Option Value} (hlo : VRo Γ lo lo') (hhi : VRo Γ hi hi') (hmx : VRo Γ mx mx')
    (bl : boundA 0 lo = some l) (bh : boundA dh hi = some hh) (hd : hi = none → dh = len) (m : Nat) (bm : (mx = none ∧ m = cap) ∨ ((∃ k, mx = some (.int k (m : Int))) ∧ hi ≠ none))
    (h1 : l ≤ hh) (h2 : hh ≤ m) (h3 : m ≤ cap) (h4 : mx = none → hi ≠ none → hh ≤ cap) :
    (Instr.sliceBounds isSlice len cap lo' hi' mx').run P w = .ok (l, hh, m) w := by
  unfold Instr.sliceBounds
  rcases bm with ⟨rfl, rfl⟩ | ⟨⟨k, rfl⟩, hne⟩
  · have := VRo_none hmx; subst this
    rcases boundA_spec bh with ⟨rfl, rfl⟩ | ⟨k2, rfl⟩
    · have := VRo_none hhi; subst this
      rcases boundA_spec bl with ⟨rfl, rfl⟩ | ⟨k3, rfl⟩
      · have := VRo_none hlo; subst this
        simp [hd rfl]
      · have := VRo_int hlo; subst this
        have hd' := hd rfl; subst hd'
        simp [rBound h1]
    · have := VRo_int hhi; subst this
      have h4' := h4 rfl (by simp)
      rcases boundA_spec bl with ⟨rfl, rfl⟩ | ⟨k3, rfl⟩
      · have := VRo_none hlo; subst this
        simp [rBound h4']
      · have := VRo_int hlo; subst this
        simp [rBound h4', rBound h1]
  · have := VRo_int hmx; subst this
    rcases boundA_spec bh with ⟨rfl, rfl⟩ | ⟨k2, rfl⟩
    · exact absurd rfl hne
    · have := VRo_int hhi; subst this
      rcases boundA_spec bl with ⟨rfl, rfl⟩ | ⟨k3, rfl⟩
      · have := VRo_none hlo; subst this
        simp [rBound h3, rBound h2]
      · have := VRo_int hlo; subst this
        simp [rBound h3, rBound h2, rBound h1]

theorem size_list (s : ByteArray) : s.size = s.data.toList.length := by simp

theorem bytes_ext (s : ByteArray) (l h : Nat) : s.extract l h = ⟨((s.data.toList.drop l).take (h - l)).toArray⟩ := by
  apply ByteArray.ext
  apply Array.ext'
  rw [ByteArray.data_extract, Array.toList_extract]

theorem slice_sound (hE : EnvOK P E) {t : Nat} {x v : AVal} {x' : Value} {lo hi mx : Option AVal} {lo' hi' mx' : Option Value} (hx : VR Γ x x')
    (hlo : VRo Γ lo lo') (hhi : VRo Γ hi hi') (hmx : VRo Γ mx mx') (h : sliceA E t x lo hi mx = some v) :
    ∃ v', (Instr.sliceAt t x' lo' hi' mx').run P w = .ok v' w ∧ VR Γ v v' := by
  unfold sliceA at h
  split at h
  · cases h
  · rename_i ti hti
    obtain ⟨inf, d, z, h1, h2, h3, h4, h5, h6, h7⟩ := mkTy_spec (hE.ty _ _ hti)
    split at h
    · rename_i hk
      rw [hk] at h7
      have := tk_str h7.symm; subst this
      split at h
      · rename_i s
        have := VRo_none hmx; subst this
        cases hx
        split at h
        · rename_i l hh bl bh
          split at h
          · rename_i hle
            simp only [Option.some.injEq] at h; subst h
            refine ⟨.string (s.extract l hh), ?_, by rw [bytes_ext]; exact .str _⟩
            have := rBounds (P := P) (w := w) (isSlice := false) (len := s.size) (cap := s.size) hlo hhi (mx := none) (mx' := none) trivial bl bh (fun _ => (size_list s).symm) s.size (.inl ⟨rfl, rfl⟩) hle.1
              (by rw [size_list]; exact hle.2) (Nat.le_refl _) (fun _ _ => by rw [size_list]; exact hle.2)
            simp [Instr.sliceAt, Instr.slice, rUnd h2, this]
          · cases h
        · cases h
      · cases h
    · rename_i esz eby ez ei hk
      rw [hk] at h7
      obtain ⟨e, einf, ez', rfl, g1, g2, g3, g4, g5, g6⟩ := tk_slice h7.symm
      have run : ∀ (a : Option Addr) (len cap l hh m : Nat), (Instr.sliceBounds true len cap lo' hi' mx').run P w = .ok (l, hh, m) w →
          (Instr.sliceAt t (.slice a len cap) lo' hi' mx').run P w = .ok (.slice (if m = l then a else a.map (·.add (l * esz))) (hh - l) (m - l)) w := by
        intro a len cap l hh m hb
        simp [Instr.sliceAt, Instr.slice, rUnd h2, hb, rSize g1, g4]
      have three : ∀ (a : Option Addr) (len cap l hh m : Nat), len ≤ cap → boundA 0 lo = some l → boundA len hi = some hh → boundA 0 mx = some m → mx ≠ none → hi.isSome = true → l = hh → hh = m → m ≤ len →
          (Instr.sliceAt t (.slice a len cap) lo' hi' mx').run P w = .ok (.slice a 0 0) w := by
        intro a len cap l hh m hc bl bh bm hne his e1 e2 hle
        have hmm : ∃ k, mx = some (.int k (m : Int)) := by
          rcases boundA_spec bm with ⟨rfl, _⟩ | hk
          · exact absurd rfl hne
          · exact hk
        have := rBounds (P := P) (w := w) (isSlice := true) (len := len) (cap := cap) hlo hhi hmx bl bh (fun _ => rfl) m (.inr ⟨hmm, by intro e; rw [e] at his; cases his⟩) (by omega) (by omega) (by omega) (fun e => absurd e hne)
        rw [run a len cap l hh m this, if_pos (by omega)]
        simp only [show hh - l = 0 by omega, show m - l = 0 by omega]
      have two : ∀ (a : Option Addr) (len cap l hh : Nat), len ≤ cap → boundA 0 lo = some l → boundA len hi = some hh → mx = none → l ≤ hh → hh ≤ len →
          (Instr.sliceAt t (.slice a len cap) lo' hi' mx').run P w = .ok (.slice (if cap = l then a else a.map (·.add (l * esz))) (hh - l) (cap - l)) w := by
        intro a len cap l hh hc bl bh hne e1 e2
        exact run a len cap l hh cap (rBounds (P := P) (w := w) (isSlice := true) (len := len) (cap := cap) hlo hhi hmx bl bh (fun _ => rfl) cap (.inl ⟨hne, rfl⟩) (by omega) (by omega) (by omega) (fun _ _ => by omega))
      split at h
      · rename_i b
        split at h
        · rename_i bl bh bm
          cases hq : (mx.isNone || hi.isSome) with
          | false => simp [hq] at h
          | true =>
            simp only [hq, cond_true, Option.some.injEq] at h; subst h
            have hcase : ∀ a, x' = .slice a 0 0 → (Instr.sliceAt t x' lo' hi' mx').run P w = .ok x' w := by
              intro a ha; subst ha
              by_cases hn : mx = none
              · rw [two a 0 0 0 0 (Nat.le_refl _) bl bh hn (Nat.le_refl _) (Nat.le_refl _)]; simp
              · exact three a 0 0 0 0 0 (Nat.le_refl _) bl bh bm hn (by cases mx with | none => exact absurd rfl hn | some m => simpa using hq) rfl rfl (Nat.le_refl _)
            refine ⟨x', ?_, hx⟩
            cases hx
            · exact hcase _ rfl
            · exact hcase _ rfl
        · cases h
      · rename_i id off len sz
        split at h
        · rename_i l hh bl bh
          split at h
          · split at h
            · rename_i hcond
              obtain ⟨c1, c2, rfl⟩ := hcond
              simp only [Option.some.injEq] at h; subst h
              cases hx
              case slc cap hid hc hf =>
                refine ⟨_, two _ len cap l hh hc bl bh rfl c1 c2, ?_⟩
                by_cases hcl : cap = l
                · rw [if_pos hcl]
                  rw [show hh - l = 0 by omega, show cap - l = 0 by omega]
                  exact .slc0 _
                · rw [if_neg hcl, Option.map_some, add_none, Nat.add_assoc]
                  refine .slc hid (by omega) ?_
                  have : l * sz + (cap - l) * sz = cap * sz := by rw [← Nat.add_mul]; congr 1; omega
                  omega
              case slc0 a =>
                have hl0 : l = 0 := by omega
                have hh0 : hh = 0 := by omega
                subst hl0 hh0
                refine ⟨_, two _ 0 0 0 0 (Nat.le_refl _) bl bh rfl c1 c2, ?_⟩
                simp
                exact .slc0 _
            · cases h
          · rename_i m0
            split at h
            · rename_i m bm
              split at h
              · rename_i hcond
                obtain ⟨c1, c2, c3, c4⟩ := hcond
                simp only [Option.some.injEq] at h; subst h
                cases hx
                case slc cap hid hc hf => exact ⟨_, three _ len cap l hh m hc bl bh bm (by simp) c4 c1 c2 c3, .nosSome _⟩
                case slc0 a => exact ⟨_, three _ 0 0 l hh m (Nat.le_refl _) bl bh bm (by simp) c4 c1 c2 c3, .nosSome _⟩
              · cases h
            · cases h
        · cases h
      · rename_i b es
        split at h
        · rename_i l hh bl bh
          split at h
          · split at h
            · rename_i hcond
              obtain ⟨c1, c2, c3⟩ := hcond
              simp only [Option.some.injEq] at h; subst h
              cases hx
              case roNil =>
                simp at c2; subst c2
                have hl0 : l = 0 := by omega
                subst hl0
                refine ⟨_, two none 0 0 0 0 (Nat.le_refl _) bl bh rfl c1 (Nat.le_refl _), ?_⟩
                simp
                exact .roNil
              case ro a len cap sz u hc hl hs hz k1 k2 =>
                subst hl
                refine ⟨_, two (some a) es.length cap l hh hc bl bh rfl c1 c2, ?_⟩
                by_cases hcl : cap = l
                · have : hh = l := by omega
                  subst this
                  rw [if_pos hcl]
                  simp only [Nat.sub_self, List.take_zero]
                  exact .ro (sz := 0) (fun _ _ => undef) rfl (Nat.zero_le _) (fun h => absurd rfl h) (by simp) (by simp) (by simp)
                · rw [if_neg hcl, Option.map_some]
                  by_cases hsame : hh = l
                  · subst hsame
                    simp only [Nat.sub_self, List.take_zero]
                    exact .ro (sz := 0) (fun _ _ => undef) rfl (Nat.zero_le _) (fun h => absurd rfl h) (by simp) (by simp) (by simp)
                  · have hne : es ≠ [] := by intro e; subst e; simp at c2; omega
                    have hsz : sz = esz := by
                      have hlt : l < es.length := by omega
                      rw [← hz l _ (List.getElem?_eq_getElem hlt), rowsOf_spec c3 l _ (List.getElem?_eq_getElem hlt)]
                    subst hsz
                    have hsp := hs hne
                    obtain ⟨ab, ao, as⟩ := a
                    simp only at hsp; subst hsp
                    rw [add_none]
                    refine .ro (sz := sz) (fun i j => u (l + i) j) (by simp; omega) (by simp; omega) (fun _ => rfl) ?_ ?_ ?_
                    · intro i r hr
                      rw [List.getElem?_take] at hr
                      split at hr
                      · exact hz (l + i) r (by simpa using hr)
                      · cases hr
                    · intro i j hi hj
                      have := k1 (l + i) j (by simp at hi; omega) hj
                      simp only at this ⊢
                      rw [← this]; congr 1; rw [Nat.add_mul]; omega
                    · intro i r j x hr hx
                      rw [List.getElem?_take] at hr
                      split at hr
                      · exact k2 (l + i) r j x (by simpa using hr) hx
                      · cases hr
            · cases h
          · rename_i m0
            split at h
            · rename_i m bm
              split at h
              · rename_i hcond
                obtain ⟨c1, c2, c3, c4⟩ := hcond
                simp only [Option.some.injEq] at h; subst h
                cases hx
                case roNil => exact ⟨_, three none 0 0 l hh m (Nat.le_refl _) bl bh bm (by simp) c4 c1 c2 c3, .nosNil⟩
                case ro a len cap sz u hc hl hs hz k1 k2 => subst hl; exact ⟨_, three (some a) es.length cap l hh m hc bl bh bm (by simp) c4 c1 c2 c3, .nosSome _⟩
              · cases h
            · cases h
        · cases h
      · cases h
    · cases h

end
end Go.Pend

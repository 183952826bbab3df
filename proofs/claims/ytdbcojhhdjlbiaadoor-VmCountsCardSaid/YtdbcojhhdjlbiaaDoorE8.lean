/- Maps, make, len, assertions; then all operations together. -/
import Derived.Test.YtdbcojhhdjlbiaaDoorE7
import Derived.IntWalk
namespace Go.Pend
open Go.RowKit (Below)

section
variable {P : Program} {E : Env} {Γ : Ctx} {H : AH} {w : World}

theorem makeSlice_sound (hE : EnvOK P E) (hw : WR Γ H w) {t : Nat} {l c v : AVal} {l' c' : Value} {H' : AH} (hl : VR Γ l l') (hc : VR Γ c c')
    (h : makeSliceA E t l c H = some (v, H')) : Makes P Γ w (Instr.makeSlice t l' c') v H' := by
  unfold makeSliceA at h
  split at h
  · rename_i ti l c hti
    obtain ⟨inf, dd, z, h1, h2, h3, h4, h5, h6, h7⟩ := mkTy_spec (hE.ty _ _ hti)
    split at h
    · rename_i esz eby ez ei hk
      rw [hk] at h7
      obtain ⟨e, einf, ez', rfl, g1, g2, g3, g4, g5, g6⟩ := tk_slice h7.symm
      split at h
      · rename_i hcond
        obtain ⟨c1, c2⟩ := hcond
        cases hr : roomA c eby with
        | false => rw [hr] at h; cases h
        | true =>
          rw [hr] at h
          simp only [cond_true, Option.some.injEq, Prod.mk.injEq] at h; obtain ⟨rfl, rfl⟩ := h
          have := hl.int_inv; subst this
          have := hc.int_inv; subst this
          have hz := ofSs_F2 (Γ := Γ) g3
          have hzl := hz.length
          simp only [Array.length_toList] at hzl
          have hb : c * eby ≤ 1099511627776 ∧ c ≤ 1099511627776 := by
            unfold roomA at hr
            have hr' := Nat.le_of_ble_eq_true hr
            rw [show (2 : Nat) ^ 40 = 1099511627776 by rfl] at hr'
            have a1 : c * eby ≤ (c + 1000) * (eby + 1) := Nat.mul_le_mul (by omega) (by omega)
            have a2 : c + 1000 ≤ (c + 1000) * (eby + 1) := Nat.le_mul_of_pos_right _ (by omega)
            exact ⟨Nat.le_trans a1 hr', by omega⟩
          have wr : ∀ n : Nat, n ≤ 1099511627776 → IntKind.i64.wrap (n : Int) = n := by
            intro n hn
            exact IntWalk.i64_in _ (by omega)
          let n := c * einf.size
          let zs : Array Value := if n = 0 then #[] else ez'.cells
          let arr : Array Value := (Array.range n).map (zs[· % zs.size]!)
          have hC : CellsR Γ (repl ez l) arr 0 := by
            by_cases h0 : n = 0
            · have hll : repl ez l = [] := by
                apply List.eq_nil_of_length_eq_zero
                rw [repl_length, c2, g4]
                have : l * einf.size ≤ c * einf.size := Nat.mul_le_mul_right _ c1
                have h0' : c * einf.size = 0 := h0
                omega
              rw [hll]
              exact ⟨by simp, by simp⟩
            · have hzz : zs = ez'.cells := if_neg h0
              have := zeros_F2 hz l c c1
              have hs : ez'.cells.size = einf.size := by omega
              simp only [arr, hzz]
              rw [hs] at this ⊢
              exact this
          have hsz : arr.size = c * esz := by simp [arr, n, g4]
          obtain ⟨k1, k2⟩ := new_sound hw (T := e) hC
          refine ⟨_, .slice (some ⟨w.heap.size, 0, none⟩) l c, w.alloc (.cells arr e), ?_, Ext.push Γ _ _ _, by rw [k2]; exact push_slc _ _ _ _ _ _ c1 (by omega), k1⟩
          have b1 : ¬ ((einf.bytes : Int) * (c : Int) > 2 ^ 48) := by
            rw [show ((2 : Int) ^ 48) = 281474976710656 by rfl, ← g5, ← Int.natCast_mul, Nat.mul_comm]; omega
          have b2 : ¬ ((c : Int) < 0) := by omega
          have b3 : ¬ ((l : Int) < 0) := by omega
          have b4 : ¬ ((l : Int) > (c : Int)) := by omega
          unfold Instr.makeSlice
          rw [Sem.run_bind, rUnd h2]
          show (bind (asInt (.int .i64 (l : Int))) _ : Sem Value).run P w = _
          rw [Sem.run_bind]
          show (bind (asInt (.int .i64 (c : Int))) _ : Sem Value).run P w = _
          rw [Sem.run_bind]
          show (bind (typeInfo e) _ : Sem Value).run P w = _
          rw [Sem.run_bind, rInfo g1]
          simp only [Result.andThen_ok, wr l (by omega), wr c hb.2, b1, b2, b3, b4, decide_false, Bool.or_self, Bool.false_eq_true, if_false, Sem.run_bind, run_askRoom, Int.toNat_natCast, rSize g1]
          by_cases h0 : c * einf.size = 0
          · have hzz : zs = #[] := if_pos h0
            simp only [h0, if_true, Sem.run_bind, Sem.run_pure, Result.andThen_ok, newRow, run_newObj]
            simp only [arr, hzz, n, h0]
            rfl
          · have hzz : zs = ez'.cells := if_neg h0
            simp only [h0, if_false, Sem.run_bind, rZero g1 g2, Sem.run_pure, Result.andThen_ok, newRow, run_newObj]
            simp only [arr, hzz, n]
            rfl
      · cases h
    · cases h
  · cases h

theorem makeMap_sound (hw : WR Γ H w) {t : Nat} : Makes P Γ w (Instr.makeMap t none) (.map H.n) (H.new (.map [])) := by
  have k := hw.alloc (x := .map []) (ob := .map #[] 0) (o := 0) (z := 0) ⟨#[], 0, by rw [Ctx.push_blk]; show (w.heap.push _)[w.heap.size]? = _; simp, .nil, by simp, by simp⟩
  refine ⟨_, .map (some w.heap.size), _, rfl, Ext.push Γ _ _ _, ?_, k⟩
  rw [hw.top]
  have := VR.map (Γ := Γ.push w.heap.size 0 0) (id := Γ.top) (show Γ.top < Γ.top + 1 by omega)
  rwa [Ctx.push_blk] at this

theorem len_sound (hE : EnvOK P E) (hw : WR Γ H w) {t : Nat} {ti : TyI} (hti : E.ty t = some ti) {x : AVal} {x' : Value} {n : Nat} (hx : VR Γ x x') (h : lenA ti.k H x = some n) {ts : List Nat} {ty : Nat} :
    (Builtin.len_ (t :: ts).toArray ty #[x']).run P w = .ok (.int .i64 n) w := by
  obtain ⟨inf, dd, z, h1, h2, h3, h4, h5, h6, h7⟩ := mkTy_spec (hE.ty _ _ hti)
  unfold Builtin.len_
  show (bind (underlying t) _ : Sem Value).run P w = _
  rw [Sem.run_bind, rUnd h2]
  unfold lenA at h
  split at h
  · rename_i hk
    rw [hk] at h7
    have := tk_str h7.symm; subst this
    split at h
    · simp only [Option.some.injEq] at h; subst h
      cases hx
      show Result.ok (goInt _) w = _
      rw [size_list]; rfl
    · cases h
  · rename_i hk
    rw [hk] at h7
    obtain ⟨e, einf, ez', rfl, g1, g2, g3, g4, g5, g6⟩ := tk_slice h7.symm
    split at h
    · simp only [Option.some.injEq] at h; subst h
      cases hx <;> rfl
    · simp only [Option.some.injEq] at h; subst h
      cases hx <;> rfl
    · simp only [Option.some.injEq] at h; subst h
      cases hx
      · rfl
      · rename_i a len cap sz' u hc hl hs hz h1 h2; rw [← hl]; rfl
    · cases h
  · rename_i hk
    rw [hk] at h7
    obtain ⟨k, e, einf, ez', rfl, g1, g2, g3, g4⟩ := tk_map h7.symm
    split at h
    · simp only [Option.some.injEq] at h; subst h
      cases hx; rfl
    · rename_i id
      split at h
      · rename_i es hes
        simp only [Option.some.injEq] at h; subst h
        cases hx
        obtain ⟨ent, clk, o1, o2, o3⟩ := hw.obj _ _ hes
        have hl := o2.length
        simp only [Array.length_toList] at hl
        show (bind (getObj (Γ.blk id)) _ : Sem Value).run P w = _
        rw [Sem.run_bind]
        have : (getObj (Γ.blk id)).run P w = .ok (.map ent clk) w := by simp [getObj, Sem.run, o1]
        rw [this]
        show Result.ok (goInt _) w = _
        rw [hl]; rfl
      · cases h
    · cases h
  · cases h

/-! maps -/
theorem rObj {b : Nat} {o : Obj} (h : w.heap[b]? = some o) (hc : ∀ c e f, o ≠ .cells c e f) : (getObj b).run P w = .ok o w := by
  cases o <;> first | (exact absurd rfl (hc _ _ _)) | simp [getObj, Sem.run, h]

theorem rSetObj {b : Nat} {o o' : Obj} (h : w.heap[b]? = some o) (hc : ∀ c e f, o ≠ .cells c e f) : (setObj b o').run P w = .ok () { w with heap := w.heap.setIfInBounds b o' } := by
  cases o <;> first | (exact absurd rfl (hc _ _ _)) | simp [setObj, Sem.run, h]

/-- a key's kind, in the model's words -/
def KD : KK → TypeDesc → Prop
  | .int k, d => d = .int k
  | .bool, d => d = .bool
  | .str, d => d = .string

theorem kkOf_spec {t : Nat} {kk : KK} (h : kkOf P t = some kk) : ∃ d, P.underlying t = some d ∧ KD kk d := by
  unfold kkOf at h
  split at h
  all_goals first | (cases h; done) | (simp only [Option.some.injEq] at h; subst h; exact ⟨_, by assumption, rfl⟩)

theorem checkKey_ok {t : Nat} {kk : KK} {d : TypeDesc} (hu : P.underlying t = some d) (hd : KD kk d) {k : AVal} {k' : Value} (hk : VR Γ k k') (hf : keyFits kk k = true) (b : Bool) (n : Nat) :
    (Instr.checkKey b (n + 1) t k').run P w = .ok () w := by
  cases kk <;> cases k <;> simp only [keyFits, Bool.false_eq_true] at hf
  all_goals
    cases hk
    cases hd
    unfold Instr.checkKey
    rw [Sem.run_bind, rUnd hu]; rfl

theorem beq_bytes (a b : ByteArray) : (a == b) = (a.data.toList == b.data.toList) := by
  have : (a == b) = (a.data == b.data) := rfl
  rw [this]
  cases a; cases b
  simp [Array.beq_toList]

theorem sameKey_now {kk : KK} {d : TypeDesc} (hd : KD kk d) {x y : AVal} {x' y' : Value} (hx : VR Γ x x') (hy : VR Γ y y') (hf : keyFits kk x = true) {b : Bool} (h : sameKey x y = some b) :
    Instr.sameNow d x' y' = some b ∧ (b = true → ∀ n, Instr.sameBits n y' x' = true) := by
  cases kk <;> cases x <;> simp only [keyFits, Bool.false_eq_true] at hf <;> cases y <;> simp only [sameKey] at h <;> try (cases h; done)
  all_goals
    have hd' := hd
    simp only [KD] at hd'
    subst hd'
    cases hx
    cases hy
  · split at h
    · rename_i hk
      subst hk
      simp only [Option.some.injEq] at h
      subst h
      refine ⟨by simp [Instr.sameNow], fun hb n => ?_⟩
      have := LawfulBEq.eq_of_beq hb
      subst this
      cases n <;> simp [Instr.sameBits]
    · cases h
  · simp only [Option.some.injEq] at h
    subst h
    refine ⟨by simp [Instr.sameNow], fun hb n => ?_⟩
    have := LawfulBEq.eq_of_beq hb
    subst this
    cases n <;> simp [Instr.sameBits]
  · rename_i s t
    simp only [Option.some.injEq] at h
    subst h
    refine ⟨by simp only [Instr.sameNow, beq_bytes], fun hb n => ?_⟩
    have h2 : s.data.toList = t.data.toList := LawfulBEq.eq_of_beq hb
    have : s = t := by apply ByteArray.ext; exact Array.ext' h2
    subst this
    cases n <;> simp [Instr.sameBits, beq_bytes]

abbrev EntR (Γ : Ctx) : AVal × AVal → MapEntry → Prop := fun x e => VR Γ x.1 e.key ∧ VR Γ x.2 e.val

theorem findKey_now {kk : KK} {d : TypeDesc} (hd : KD kk d) {k : AVal} {k' : Value} (hk : VR Γ k k') (hf : keyFits kk k = true) :
    ∀ {es : List (AVal × AVal)} {ent : List MapEntry} {r : Option AVal} {i : Nat}, F2 (EntR Γ) es ent → findKey k es = some r →
      match r with
      | none => Instr.findNow d k' ent i = some none
      | some v => ∃ j e, Instr.findNow d k' ent i = some (some (i + j, e.val)) ∧ ent[j]? = some e ∧ VR Γ v e.val := by
  intro es ent r i hF
  induction hF generalizing r i with
  | nil => intro h; simp only [findKey, Option.some.injEq] at h; subst h; rfl
  | @cons a e l m hr _ ih =>
    intro h
    obtain ⟨a1, a2⟩ := a
    simp only [findKey] at h
    split at h
    · rename_i hs
      simp only [Option.some.injEq] at h; subst h
      obtain ⟨s1, _⟩ := sameKey_now hd hk hr.1 hf hs
      exact ⟨0, e, by simp only [Instr.findNow, s1, Nat.add_zero], rfl, hr.2⟩
    · rename_i hs
      obtain ⟨s1, _⟩ := sameKey_now hd hk hr.1 hf hs
      have := ih (i := i + 1) h
      cases r with
      | none => simp only [Instr.findNow, s1]; exact this
      | some v =>
        obtain ⟨j, e', k1, k2, k3⟩ := this
        refine ⟨j + 1, e', ?_, by simpa using k2, k3⟩
        simp only [Instr.findNow, s1, k1]
        congr 3; omega
    · cases h

theorem rFindKey {t : Nat} {d : TypeDesc} (hu : P.underlying t = some d) {k : Value} {es : List MapEntry} {r : Option (Nat × Value)} (h : Instr.findNow d k es 0 = some r) :
    (Instr.findKey t k es).run P w = .ok r w := by
  unfold Instr.findKey
  rw [Sem.run_bind, rUnd hu]
  simp only [Result.andThen_ok, h]
  rfl

theorem lookup_sound (hE : EnvOK P E) (hw : WR Γ H w) {t : Nat} {m k v : AVal} {m' k' : Value} {ok : Bool} (hm : VR Γ m m') (hk : VR Γ k k') (h : lookupA E t m k ok H = some v) :
    Gives P Γ w (Instr.lookup t m' k' ok) v := by
  unfold lookupA at h
  split at h
  · cases h
  · rename_i ti hti
    obtain ⟨inf, dd, z, h1, h2, h3, h4, h5, h6, h7⟩ := mkTy_spec (hE.ty _ _ hti)
    split at h
    · rename_i kk vz hkk
      rw [hkk] at h7
      obtain ⟨kt, e, einf, ez', rfl, g1, g2, g3, g4⟩ := tk_map h7.symm
      obtain ⟨d, hu, hd⟩ := kkOf_spec g4.symm
      cases hf : keyFits kk k with
      | false => rw [hf] at h; cases h
      | true =>
        rw [hf] at h
        simp only [cond_true] at h
        split at h
        · rename_i es hes
          have go : ∀ (ent : Array MapEntry) (r : Option AVal) (x : AVal), F2 (EntR Γ) es ent.toList → findKey k es = some r → some x = (match r with
                | some v => some (bif ok then .tup [v, .bool true] else v)
                | none => some (bif ok then .tup [vz, .bool false] else vz)) →
              (∀ q, (Instr.findKey kt k' ent.toList).run P w = .ok q w → ∀ p : Value × Bool, p = (match q with | some (_, v) => (v, true) | none => (ez', false)) →
                (Instr.lookup t m' k' ok).run P w = .ok (if ok = true then .tuple #[p.1, .bool p.2] else p.1) w) → Gives P Γ w (Instr.lookup t m' k' ok) x := by
            intro ent r x hF hr hx hgo
            have := findKey_now hd hk hf (i := 0) hF hr
            have two : ∀ (y : AVal) (y' : Value) (b : Bool), VR Γ y y' → VR Γ (bif ok then .tup [y, .bool b] else y) (if ok = true then .tuple #[y', .bool b] else y') := by
              intro y y' b hy
              cases ok with
              | false => exact hy
              | true =>
                refine .tup rfl fun j x v hx hv => ?_
                match j with
                | 0 => simp at hx hv; subst hx hv; exact hy
                | 1 => simp at hx hv; subst hx hv; exact .bool _
                | j + 2 => simp at hx
            cases r with
            | none =>
              simp only [Option.some.injEq] at hx; subst hx
              exact ⟨_, hgo none (rFindKey hu this) _ rfl, two _ _ _ (ofV_VR g3)⟩
            | some v =>
              simp only [Option.some.injEq] at hx; subst hx
              obtain ⟨j, e', k1, k2, k3⟩ := this
              exact ⟨_, hgo _ (rFindKey hu k1) _ rfl, two _ _ _ k3⟩
          have hck : ∀ b, (Instr.checkKey b 10000 kt k').run P w = .ok () w := fun b => checkKey_ok (w := w) hu hd hk hf b 9999
          split at hes
          · simp only [Option.some.injEq] at hes; subst hes
            cases hm
            simp only [findKey, Option.some.injEq] at h
            refine go #[] none v .nil rfl (by rw [← h]) ?_
            intro q hq p hp
            have hck' := hck true
            cases q with
            | none => subst hp; cases ok <;> simp [Instr.lookup, rUnd h2, hck', hq, rZero g1 g2]
            | some y => subst hp; cases ok <;> simp [Instr.lookup, rUnd h2, hck', hq]
          · rename_i id
            split at hes
            · rename_i es' hes'
              simp only [Option.some.injEq] at hes; subst hes
              cases hm
              obtain ⟨ent, clk, o1, o2, o3⟩ := hw.obj _ _ hes'
              have hob := rObj (P := P) o1 (by simp)
              split at h
              · rename_i v0 hv0
                refine go ent (some v0) v o2 hv0 (by rw [← h]) ?_
                intro q hq p hp
                have hck' := hck ent.isEmpty
                simp only [Array.isEmpty] at hck'
                cases q with
                | none => subst hp; cases ok <;> simp [Instr.lookup, rUnd h2, hck, hob, hq, rZero g1 g2]
                | some y => subst hp; cases ok <;> simp [Instr.lookup, rUnd h2, hck, hob, hq]
              · rename_i hv0
                refine go ent none v o2 hv0 (by rw [← h]) ?_
                intro q hq p hp
                cases q with
                | none => subst hp; cases ok <;> simp [Instr.lookup, rUnd h2, hck, hob, hq, rZero g1 g2]
                | some y => subst hp; cases ok <;> simp [Instr.lookup, rUnd h2, hck, hob, hq]
              · cases h
            · cases hes
          · cases hes
        · cases h
    · cases h

theorem setKey_now {kk : KK} {d : TypeDesc} (hd : KD kk d) {k v : AVal} {k' : Value} (hk : VR Γ k k') (hf : keyFits kk k = true) :
    ∀ {es es' : List (AVal × AVal)} {ent : List MapEntry} {i : Nat}, F2 (EntR Γ) es ent → setKey k v es = some es' →
      (Instr.findNow d k' ent i = some none ∧ es' = es ++ [(k, v)]) ∨
      ∃ j e, Instr.findNow d k' ent i = some (some (i + j, e.val)) ∧ ent[j]? = some e ∧ es' = es.set j (k, v) ∧ ∀ n, Instr.sameBits n e.key k' = true := by
  intro es es' ent i hF
  induction hF generalizing es' i with
  | nil => intro h; simp only [setKey, Option.some.injEq] at h; subst h; exact .inl ⟨rfl, rfl⟩
  | @cons a e l m hr _ ih =>
    intro h
    obtain ⟨a1, a2⟩ := a
    simp only [setKey] at h
    split at h
    · rename_i hs
      simp only [Option.some.injEq] at h; subst h
      obtain ⟨s1, s2⟩ := sameKey_now hd hk hr.1 hf hs
      exact .inr ⟨0, e, by simp only [Instr.findNow, s1, Nat.add_zero], rfl, rfl, s2 rfl⟩
    · rename_i hs
      obtain ⟨s1, _⟩ := sameKey_now hd hk hr.1 hf hs
      split at h
      · rename_i r hr'
        simp only [Option.some.injEq] at h; subst h
        rcases ih (i := i + 1) hr' with ⟨k1, k2⟩ | ⟨j, e', k1, k2, k3, k4⟩
        · exact .inl ⟨by simp only [Instr.findNow, s1]; exact k1, by rw [k2]; rfl⟩
        · refine .inr ⟨j + 1, e', ?_, by simpa using k2, by rw [k3]; rfl, k4⟩
          simp only [Instr.findNow, s1, k1]
          congr 3; omega
      · cases h
    · cases h

theorem update_sound (hE : EnvOK P E) (hw : WR Γ H w) {t : Nat} {m k v : AVal} {m' k' v' : Value} {H' : AH} (hm : VR Γ m m') (hk : VR Γ k k') (hv : VR Γ v v') (h : updateA E t m k v H = some H') :
    ∃ w', (Instr.mapUpdate t m' k' v').run P w = .ok () w' ∧ WR Γ H' w' := by
  unfold updateA at h
  split at h
  · cases h
  · rename_i ti hti
    obtain ⟨inf, dd, z, h1, h2, h3, h4, h5, h6, h7⟩ := mkTy_spec (hE.ty _ _ hti)
    split at h
    · rename_i kk vz hkk
      rw [hkk] at h7
      obtain ⟨kt, e, einf, ez', rfl, g1, g2, g3, g4⟩ := tk_map h7.symm
      obtain ⟨d, hu, hd⟩ := kkOf_spec g4.symm
      cases hf : keyFits kk k with
      | false => rw [hf] at h; cases h
      | true =>
        rw [hf] at h
        simp only [cond_true] at h
        split at h
        · rename_i id
          split at h
          · rename_i es hes
            split at h
            · rename_i es' hset
              simp only [Option.some.injEq] at h; subst h
              cases hm
              obtain ⟨ent, clk, o1, o2, o3, o4⟩ := hw.obj _ _ hes
              have hob := rObj (P := P) o1 (by simp)
              have hck : (Instr.checkKey false 10000 kt k').run P w = .ok () w := checkKey_ok (w := w) hu hd hk hf false 9999
              have hblt : Γ.blk id < w.heap.size := (Array.getElem?_eq_some_iff.1 o1).1
              rcases setKey_now (v := v) hd hk hf (i := 0) o2 hset with ⟨k1, k2⟩ | ⟨j, e', k1, k2, k3, k4⟩
              · refine ⟨{ w with heap := w.heap.setIfInBounds (Γ.blk id) (.map (ent.push { key := k', val := v', born := clk }) (clk + 1)) }, ?_,
                  hw.write hes (OneBlock.setObj w _ _) ⟨ent.push { key := k', val := v', born := clk }, clk + 1, ?_, ?_, ?_, ?_⟩⟩
                · simp [Instr.mapUpdate, rUnd h2, hob, hck, rFindKey hu k1, rSetObj o1]
                · simp [hblt]
                · rw [k2, Array.toList_push]
                  exact o2.append (.cons ⟨hk, hv⟩ .nil)
                · intro x hx
                  rcases Array.mem_push.1 hx with hx | rfl
                  · have := o3 x hx; omega
                  · simp
                · rw [Array.toList_push, List.map_append, List.nodup_append]
                  refine ⟨o4, by simp, ?_⟩
                  intro a ha b hb
                  simp only [List.map_cons, List.map_nil, List.mem_singleton] at hb
                  obtain ⟨x, hx, rfl⟩ := List.mem_map.1 ha
                  have := o3 x (by simpa using hx)
                  omega
              · rw [Nat.zero_add] at k1
                have hej : ent[j]? = some e' := by simpa using k2
                have hstay : (Instr.keyThatStays e'.key k').run P w = .ok k' w := by
                  simp [Instr.keyThatStays, k4]
                let f : MapEntry → MapEntry := fun e => { e with key := k', val := v' }
                refine ⟨{ w with heap := w.heap.setIfInBounds (Γ.blk id) (.map (ent.modify j f) clk) }, ?_,
                  hw.write hes (OneBlock.setObj w _ _) ⟨ent.modify j f, clk, ?_, ?_, ?_, ?_⟩⟩
                · simp [Instr.mapUpdate, rUnd h2, hob, hck, rFindKey hu k1, rSetObj o1, hej, hstay, f]
                · simp [hblt]
                · rw [k3]
                  have hl := o2.length
                  refine F2.of_get (by simpa using hl) fun i x y hx hy => ?_
                  rw [Array.getElem?_toList, Array.getElem?_modify] at hy
                  rw [List.getElem?_set] at hx
                  by_cases hij : j = i
                  · subst hij
                    rw [if_pos rfl] at hx hy
                    split at hx
                    · simp only [Option.some.injEq] at hx; subst hx
                      rw [hej] at hy
                      simp only [Option.map_some, Option.some.injEq] at hy; subst hy
                      exact ⟨hk, hv⟩
                    · cases hx
                  · rw [if_neg hij] at hx hy
                    exact o2.get i x y hx (by simpa using hy)
                · intro x hx
                  obtain ⟨i, hi⟩ := Array.getElem?_of_mem hx
                  rw [Array.getElem?_modify] at hi
                  split at hi
                  · rename_i hij; subst hij
                    rw [hej] at hi
                    simp only [Option.map_some, Option.some.injEq] at hi; subst hi
                    exact o3 e' (Array.mem_of_getElem? hej)
                  · exact o3 x (Array.mem_of_getElem? hi)
                · have : (ent.modify j f).toList.map (·.born) = ent.toList.map (·.born) := by
                    apply List.ext_getElem?
                    intro i
                    rw [List.getElem?_map, List.getElem?_map, Array.getElem?_toList, Array.getElem?_toList, Array.getElem?_modify]
                    split
                    · rename_i hij; subst hij
                      rw [hej]; rfl
                    · rfl
                  rw [this]; exact o4
            · cases h
          · cases h
        · cases h
    · cases h

theorem assert_sound (hE : EnvOK P E) {t xt : Nat} {x v : AVal} {x' : Value} {ok : Bool} (hx : VR Γ x x') (h : assertA E t x ok = some v) : Gives P Γ w (Instr.typeAssert x' xt t ok) v := by
  unfold assertA at h
  split at h
  · cases h
  · rename_i ti hti
    obtain ⟨inf, dd, z, h1, h2, h3, h4, h5, h6, h7⟩ := mkTy_spec (hE.ty _ _ hti)
    split at h
    · cases h
    · cases h
    · rename_i hn1 hn2
      have hni : ∀ ms, dd ≠ .interface ms := by
        intro ms hd; subst hd; exact hn1 _ (by rw [h7]; rfl)
      have fails : ok = true → ∀ y, (y = .nilIface ∨ ∃ u v, y = .iface u v ∧ u ≠ t) → (Instr.typeAssert y xt t ok).run P w = .ok (.tuple #[z, .bool false]) w := by
        intro hok y hy
        subst hok
        unfold Instr.typeAssert
        rcases hy with rfl | ⟨u, v, rfl, hne⟩
        · simp only [Sem.run_bind, rUnd h2, Result.andThen_ok]
          cases dd <;> first | (exact absurd rfl (hni _)) | simp [rZero h1 h3]
        · simp only [Sem.run_bind, rUnd h2, Result.andThen_ok]
          cases dd <;> first | (exact absurd rfl (hni _)) | simp [rZero h1 h3, hne]
      have two : ∀ (y : AVal) (y' : Value) (b : Bool), VR Γ y y' → VR Γ (.tup [y, .bool b]) (.tuple #[y', .bool b]) := by
        intro y y' b hy
        refine .tup rfl fun j x v hx hv => ?_
        match j with
        | 0 => simp at hx hv; subst hx hv; exact hy
        | 1 => simp at hx hv; subst hx hv; exact .bool _
        | j + 2 => simp at hx
      split at h
      · cases hok : ok with
        | false => rw [hok] at h; cases h
        | true =>
          rw [hok] at h
          simp only [cond_true, Option.some.injEq] at h; subst h
          cases hx
          subst hok
          exact ⟨_, fails rfl _ (.inl rfl), two _ _ _ (ofV_VR h4)⟩
      · rename_i u y
        split at h
        · rename_i hut
          subst hut
          simp only [Option.some.injEq] at h; subst h
          cases hx; rename_i y' hy
          refine ⟨if ok = true then .tuple #[y', .bool true] else y', ?_, ?_⟩
          · unfold Instr.typeAssert
            simp only [Sem.run_bind, rUnd h2, Result.andThen_ok]
            cases dd <;> first | (exact absurd rfl (hni _)) | (cases ok <;> simp)
          · cases ok with
            | false => exact hy
            | true => exact two _ _ _ hy
        · rename_i hut
          cases hok : ok with
          | false => rw [hok] at h; cases h
          | true =>
            rw [hok] at h
            simp only [cond_true, Option.some.injEq] at h; subst h
            cases hx
            subst hok
            exact ⟨_, fails rfl _ (.inr ⟨_, _, rfl, hut⟩), two _ _ _ (ofV_VR h4)⟩
      · cases h

theorem makeInterface_sound (hE : EnvOK P E) {t : Nat} {ti : TyI} (hti : E.ty t = some ti) (h1 : ∀ m, ti.k ≠ .iface m) {x' : Value} : (Instr.makeInterface t x').run P w = .ok (.iface t x') w := by
  obtain ⟨inf, dd, z, g1, h2, h3, h4, h5, h6, h7⟩ := mkTy_spec (hE.ty _ _ hti)
  have hni : ∀ ms, dd ≠ .interface ms := by
    intro ms hd; subst hd; exact h1 _ (by rw [h7]; rfl)
  unfold Instr.makeInterface
  rw [Sem.run_bind, rUnd h2]
  cases dd <;> first | (exact absurd rfl (hni _)) | rfl

theorem max2_sound {x y v : AVal} {x' y' : Value} (hx : VR Γ x x') (hy : VR Γ y y') (h : max2A true x y = some v) : Gives P Γ w (Builtin.max2 x' y') v := by
  unfold max2A at h
  split at h
  · have := hx.int_inv; subst this
    have := hy.int_inv; subst this
    simp only [Option.some.injEq] at h; subst h
    exact ⟨_, rfl, .int _ _⟩
  · cases h

theorem min2_sound {x y v : AVal} {x' y' : Value} (hx : VR Γ x x') (hy : VR Γ y y') (h : max2A false x y = some v) : Gives P Γ w (Builtin.min2 x' y') v := by
  unfold max2A at h
  split at h
  · have := hx.int_inv; subst this
    have := hy.int_inv; subst this
    simp only [Option.some.injEq] at h; subst h
    exact ⟨_, rfl, .int _ _⟩
  · cases h

end
end Go.Pend

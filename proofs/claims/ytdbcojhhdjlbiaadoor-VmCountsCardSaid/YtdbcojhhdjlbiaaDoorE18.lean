/- A range over a map, whole. -/
import Derived.Test.YtdbcojhhdjlbiaaDoorE17
namespace Go.Pend
open Go.RowKit (Below)

section
variable {P : Program} {E : Env}

theorem ops_sound_app {rd : Bool} {F : Fence} (hE : EnvOK P E) (hF : FOK rd F) {cf : CallF} (hcf : CallOK P E cf) {ops : Array Oper} {Q : Exit → Act → World → Prop} {r2 : List Oper} : ∀ {rest : List Oper} {Γ : Ctx} {s s' : St} {a : Act} {w : World},
    GOK P E Γ → SR Γ s a w → opsA E cf ops.toList rest s = some s' → (∀ Γ' a' w', Ext Γ Γ' → SR Γ' s' a' w' → wpListIn F 0 P ops Q r2 a' w') → wpListIn F 0 P ops Q (rest ++ r2) a w
  | [], Γ, s, s', a, w, _, hs, h, hq => by
    simp only [opsA, Option.some.injEq] at h; subst h
    exact hq Γ a w (.refl _) hs
  | o :: rest, Γ, s, s', a, w, hG, hs, h, hq => by
    simp only [opsA] at h
    split at h
    · rename_i s1 h1
      have := one_sound (Q := Q) (next := wpListIn F 0 P ops Q (rest ++ r2)) hE hG hF hcf hs h1 fun Γ' a' w' he hs' =>
        ops_sound_app hE hF hcf (hG.ext he) hs' h fun Γ'' a'' w'' he' hs'' => hq Γ'' a'' w'' (he.trans he') hs''
      simp only [List.cons_append, wpListIn]
      exact this
    · cases h

theorem ExtK.mono {m M : Nat} {Γ Γ' : Ctx} (h : ExtK M Γ Γ') (hm : m ≤ M) : ExtK m Γ Γ' :=
  ⟨h.N0, h.w0, h.oad, Nat.le_trans hm h.top, fun i hi => h.blk i (Nat.lt_of_lt_of_le hi hm), fun i hi => h.base i (Nat.lt_of_lt_of_le hi hm), fun i hi => h.bsz i (Nat.lt_of_lt_of_le hi hm), h.rho, h.raw, h.env⟩

/-- a name more, of no object -/
theorem WR.name {Γ : Ctx} {H : AH} {w : World} (h : WR Γ H w) (b o z : Nat) : WR (Γ.push b o z) ⟨H.o, H.n + 1⟩ w := by
  have e := Ext.push Γ b o z
  refine ⟨h.below, h.n0, by simp [h.top, Ctx.push], h.rho, h.raw, h.rr, h.marksd, h.marks, fun i x hx => Nat.lt_succ_of_lt (h.old i x hx), ?_, fun i x hx => OR.ext e (h.old i x hx) (h.obj i x hx), ?_⟩
  · intro i x hx
    rw [e.blk _ (h.old i x hx)]; exact h.own i x hx
  · intro i j x y hi hj hb
    rw [e.blk _ (h.old i x hi), e.blk _ (h.old j y hj)] at hb
    exact h.inj i j x y hi hj hb

theorem acode_maprange {rd : Bool} (hE : EnvOK P E) {k : Nat} (hcf : CallOK P E (callA E (exec E k))) {m M i0 i1 i2 out nxt tn tm tp it t ka va mid : Nat} {x : Operand} {nx ex en ro : Oper} {pre rest : List Oper} {code : Code} {R : Out → Prop} {s s1 : St} {es : List (AVal × AVal)}
    (I : List (AVal × AVal) → St → Prop)
    (h0 : ro.op = .range t x) (h0g : ro.guard = none) (h0d : ro.dst = some it) (hu : P.underlying t = some (.map ka va))
    (hpre : opsA E (callA E (exec E k)) (pre ++ [ro]) pre s = some s1) (hx : s1.ev x = some (.map mid)) (hmid : s1.H.o.get mid = some (.map es)) (hlow : es.all (fun x => x.1.low M && x.2.low M) = true) (hm0 : m ≤ s.H.n) (hm1 : m ≤ M) (hM : s1.H.n < M) (hM' : M ≤ s1.H.n + 1) (hit : it < s1.nt)
    (hI0 : I es ⟨s1.T.set it (.ptr s1.H.n 0), ⟨s1.H.o.del mid, s1.H.n + 1⟩, s1.nt⟩)
    (h1 : nx.op = .next (.tmp it) false) (h1g : nx.guard = none) (h1d : nx.dst = some tn)
    (h2 : ex.op = .extract (.tmp tn) 0) (h2g : ex.guard = none) (h2d : ex.dst = some tm)
    (h3 : en.op = .entry (.tmp it)) (h3g : en.guard = none) (h3d : en.dst = some tp) (hne : tn ≠ it ∧ tm ≠ it)
    (hI : ∀ rem s, I rem s → s.T.get it = some (.ptr s1.H.n 0) ∧ M ≤ s.H.n ∧ tn < s.nt ∧ tm < s.nt ∧ tp < s.nt)
    (hstep : ∀ rem s, I rem s → ∀ i x v, rem[i]? = some (x, v) → ∃ s2, opsA E (callA E (exec E k)) (en :: rest) rest ⟨((s.T.set tn (.tup [.bool true, x, v])).set tm (.bool true)).set tp (.tup [x, v]), s.H, s.nt⟩ = some s2 ∧
      ACodeK P E rd M code s2 fun o => match o with | .next s' => I (rem.eraseIdx i) s' | .exit j s' => if j = nxt then I (rem.eraseIdx i) s' else if j = out then R (.next s') else R (.exit j s') | .ret s' => R (.ret s'))
    (hend : ∀ s, I [] s → R (.next ⟨(s.T.set tn (.tup [.bool false])).set tm (.bool false), s.H, s.nt⟩)) :
    ACodeK P E rd m (.seq (.region i0 (pre ++ [ro]).toArray false) (.block out (.loop (.seq (.region i1 #[nx, ex] false) (.seq (.cond (.tmp tm) .skip (.exit out)) (.block nxt (.seq (.region i2 (en :: rest).toArray false) code))))))) s R := by
  intro F Γ a w hF hG hs
  refine wpIn_seq (wpIn_region_list ?_)
  show wpListIn F 0 P (pre ++ [ro]).toArray _ (pre ++ [ro]) a w
  refine ops_sound_app (ops := (pre ++ [ro]).toArray) hE hF hcf hG hs hpre fun Γ1 a1 w1 he1 hs1 => ?_
  obtain ⟨ent, clk, e1, e2, e3, e4⟩ := hs1.w.obj _ _ hmid
  have hmap := ev_sound hs1 hx
  obtain ⟨u, hux⟩ : ∃ u, a1.eval x = u := ⟨_, rfl⟩
  rw [hux] at hmap
  have hueq : u = .map (some (Γ1.blk mid)) := by cases hmap; rfl
  subst hueq
  have hrun : (execOp a1.eval ro).run P w1 = .ok (.value (.pointer (some ⟨w1.heap.size, 0, none⟩))) (w1.alloc (.mapIter (some (Γ1.blk mid)) clk #[] clk)) := by
    have hr := run_range_map hu e1
    obtain ⟨dst, op, ty, pos, aft, gd⟩ := ro
    simp only at h0
    subst h0
    show (bind (Instr.range t (a1.eval x)) _ : Sem Next).run P w1 = _
    rw [Sem.run_bind, hux, hr]
    rfl
  refine wpList_value hF h0g (fun c e => by rw [h0] at e; cases e) hrun ?_
  rw [h0d]
  obtain ⟨mb, hmb⟩ : ∃ mb, mb = Γ1.blk mid := ⟨_, rfl⟩
  obtain ⟨r, hr⟩ : ∃ r, r = w1.heap.size := ⟨_, rfl⟩
  have hmlt : mb < r := by subst hmb hr; exact (Array.getElem?_eq_some_iff.1 e1).1
  have hraw_r : Γ1.raw r = none := by
    cases hc : Γ1.raw r with
    | none => rfl
    | some v => have := (Array.getElem?_eq_some_iff.1 (hs1.w.raw _ _ hc)).1; omega
  have hown := hs1.w.own _ _ hmid
  have hw2 := (hs1.w.toRaw hmid e1).newRaw (.mapIter (some (Γ1.blk mid)) clk #[] clk)
  rw [← hmb, ← hr] at hw2
  rw [← hmb] at hown e1
  rw [← hmb, ← hr]
  have hw2 := hw2.name r 0 0
  have htop1 : s1.H.n = Γ1.top := hs1.w.top
  obtain ⟨Γ2, hΓ2⟩ : ∃ Γ2, Γ2 = ((Γ1.setRaw mb (some (.map ent clk))).setRaw r (some (.mapIter (some mb) clk #[] clk))).push r 0 0 := ⟨_, rfl⟩
  rw [← hΓ2] at hw2
  have hblk2 : Γ2.blk s1.H.n = r ∧ Γ2.base s1.H.n = 0 := by
    subst hΓ2; rw [htop1]; exact ⟨Ctx.push_blk _ _ _ _, Ctx.push_base _ _ _ _⟩
  have htop2 : Γ2.top = s1.H.n + 1 := by subst hΓ2; rw [htop1]; rfl
  have hvr2 : ∀ {x v}, VR Γ1 x v → VR Γ2 x v := fun q => by subst hΓ2; exact q.setRaw.setRaw.ext (Ext.push _ _ _ _)
  have hs2 : SR Γ2 ⟨s1.T.set it (.ptr s1.H.n 0), ⟨s1.H.o.del mid, s1.H.n + 1⟩, s1.nt⟩ (a1.put (some it) (.pointer (some ⟨r, 0, none⟩))) (w1.alloc (.mapIter (some mb) clk #[] clk)) := by
    have hb : SR Γ2 ⟨s1.T, ⟨s1.H.o.del mid, s1.H.n + 1⟩, s1.nt⟩ a1 (w1.alloc (.mapIter (some mb) clk #[] clk)) := by
      refine ⟨fun i x hx => let ⟨v, q1, q2⟩ := hs1.t i x hx; ⟨v, q1, hvr2 q2⟩, hs1.nt, ?_, hw2⟩
      subst hΓ2; exact hs1.d
    have := VR.ptr (Γ := Γ2) (id := s1.H.n) (off := 0) (by omega)
    rw [hblk2.1, hblk2.2] at this
    exact sr_set hb hit this
  obtain ⟨Γ1', hΓ1'⟩ : ∃ Γ1', Γ1' = Γ1.push r 0 0 := ⟨_, rfl⟩
  have hc : ItC M Γ1' Γ2 mb r ent clk #[] es s1.H.n := by
    refine ⟨?_, ?_, ?_, by subst hΓ1'; exact hraw_r, by subst hΓ1'; exact hown.2.2, ?_, by omega, ?_, hlow, hM, hblk2⟩
    · subst hΓ2 hΓ1'
      refine ⟨rfl, rfl, rfl, by simp [Ctx.push, Ctx.setRaw]; omega, fun _ _ => rfl, fun _ _ => rfl, fun _ _ => rfl, fun _ _ _ h => h, fun b ob hb => ?_, rfl⟩
      have hb' : Γ1.raw b = some ob := hb
      show (if b = r then some _ else if b = mb then some _ else Γ1.raw b) = some ob
      rw [if_neg (fun e => by rw [e, hraw_r] at hb'; cases hb'), if_neg (fun e => by rw [e, hown.2.2] at hb'; cases hb')]
      exact hb'
    · subst hΓ2
      show (if mb = r then some _ else if mb = mb then some _ else Γ1.raw mb) = _
      rw [if_neg (by omega), if_pos rfl]
    · subst hΓ2
      show (if r = r then some _ else _) = _
      rw [if_pos rfl]
    · have := hs1.w.n0
      have hN : Γ2.N0 = Γ1.N0 := by subst hΓ2; rfl
      rw [hN]; omega
    · have : leftOf ent #[] = ent.toList := by
        unfold leftOf
        rw [List.filter_eq_self]
        intro e _; simp
      rw [this]
      exact e2.imp fun _ _ q => ⟨hvr2 q.1, hvr2 q.2⟩
  have hG2 : GOK P E Γ2 := by subst hΓ2; exact (hG.ext he1).setRaw.setRaw.ext (Ext.push _ _ _ _)
  have heK : ExtK m Γ Γ1' := (he1.loose.toK (hs.w.top ▸ hm0)).trans (by
    subst hΓ1'
    have hmt : m ≤ Γ1.top := by have := he1.top; have := hs.w.top; omega
    exact (Ext.push Γ1 r 0 0).loose.toK hmt)
  refine wpIn_block (loop_of ?_)
  have hl := acode_maploop (R := fun o => match o with | .exit j s' => if j = out then R (.next s') else R (.exit j s') | o => R o) hF hE hcf (i1 := i1) (i2 := i2) (out := out) (nxt := nxt) I h1 h1g h1d h2 h2g h2d h3 h3g h3d hne hI
    (fun rem s hi i x v hx => by
      obtain ⟨s2, q1, q2⟩ := hstep rem s hi i x v hx
      refine ⟨s2, q1, q2.mono fun o ho => ?_⟩
      cases o <;> exact ho)
    (fun s hi => by simp only [if_true]; exact hend s hi) e3 e4 es.length es _ #[] Γ2 _ _ rfl hI0 hG2 hs2 hc
  intro b kk cs k1 k2 k3
  obtain ⟨e, a', w', ⟨o, hR, Γ', he, hout⟩, harr⟩ := hl b kk cs k1 k2 k3
  refine ⟨e, a', w', ?_, harr⟩
  have he' := heK.trans (he.mono hm1)
  cases o with
  | next s' => cases e <;> first | exact hout.elim | exact ⟨_, hR, Γ', he', hout⟩
  | ret s' => cases e <;> first | exact hout.elim | exact ⟨_, hR, Γ', he', hout⟩
  | exit j s' =>
    cases e <;> try exact hout.elim
    obtain ⟨rfl, hout⟩ := hout
    simp only [Exit.inBlock]
    simp only at hR
    split
    · rename_i hj
      rw [if_pos hj] at hR
      exact ⟨_, hR, Γ', he', hout⟩
    · rename_i hj
      rw [if_neg hj] at hR
      exact ⟨_, hR, Γ', he', rfl, hout⟩

end
end Go.Pend

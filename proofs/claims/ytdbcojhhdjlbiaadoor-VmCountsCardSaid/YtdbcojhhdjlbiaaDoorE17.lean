/- The loop of a range over a map, with what holds at its head of the entries that are left. -/
import Derived.Test.YtdbcojhhdjlbiaaDoorE16
namespace Go.Pend
open Go.RowKit (Below)

theorem F2.eraseIdx {α β : Type} {R : α → β → Prop} {l : List α} {m : List β} (h : F2 R l m) : ∀ i, F2 R (l.eraseIdx i) (m.eraseIdx i) := by
  induction h with
  | nil => intro i; exact .nil
  | cons hh ht ih =>
    intro i
    cases i with
    | zero => exact ht
    | succ i => exact .cons hh (ih i)

theorem erase_filter : ∀ {l : List MapEntry} (i : Nat) (e : MapEntry), (l.map (·.born)).Nodup → l[i]? = some e → l.filter (fun x => !(x.born == e.born)) = l.eraseIdx i
  | [], i, e, _, h => by simp at h
  | x :: l, i, e, hd, h => by
    simp only [List.map_cons, List.nodup_cons] at hd
    cases i with
    | zero =>
      simp at h; subst h
      simp only [List.eraseIdx_cons_zero, List.filter_cons, beq_self_eq_true, Bool.not_true, Bool.false_eq_true, if_false]
      rw [List.filter_eq_self]
      intro y hy
      have : y.born ≠ x.born := fun e => hd.1 (e ▸ List.mem_map_of_mem hy)
      simpa using this
    | succ i =>
      have h' : l[i]? = some e := by simpa using h
      have hne : (x.born == e.born) = false := by
        simp only [beq_eq_false_iff_ne]
        intro hh
        exact hd.1 (hh ▸ List.mem_map_of_mem (List.mem_of_getElem? h'))
      simp only [List.eraseIdx_cons_succ, List.filter_cons, hne, Bool.not_false, if_true]
      rw [erase_filter i e hd.2 h']

def leftOf (ent : Array MapEntry) (seen : Array Nat) : List MapEntry := ent.toList.filter fun e => !seen.contains e.born

theorem leftOf_push {ent : Array MapEntry} {seen : Array Nat} (hd : (ent.toList.map (·.born)).Nodup) {i : Nat} {e : MapEntry} (h : (leftOf ent seen)[i]? = some e) :
    leftOf ent (seen.push e.born) = (leftOf ent seen).eraseIdx i := by
  have hd' : ((leftOf ent seen).map (·.born)).Nodup := hd.sublist (List.Sublist.map _ List.filter_sublist)
  rw [← erase_filter i e hd' h]
  unfold leftOf
  rw [List.filter_filter]
  congr 1
  funext x
  simp only [Array.contains_push]
  cases seen.contains x.born <;> cases (x.born == e.born) <;> rfl

/-- a range under way -/
structure ItC (m : Nat) (Γ0 Γ : Ctx) (mb r : Nat) (ent : Array MapEntry) (clk : Nat) (seen : Array Nat) (rem : List (AVal × AVal)) (iid : Nat) : Prop where
  ext : ExtK m Γ0 Γ
  map : Γ.raw mb = some (.map ent clk)
  it : Γ.raw r = some (.mapIter (some mb) clk seen clk)
  r0 : Γ0.raw r = none
  m0 : Γ0.raw mb = none
  n0 : Γ.N0 ≤ r
  ne : mb ≠ r
  left : F2 (fun (x : AVal × AVal) (e : MapEntry) => VR Γ x.1 e.key ∧ VR Γ x.2 e.val) rem (leftOf ent seen)
  low : rem.all (fun x => x.1.low m && x.2.low m) = true
  ib : iid < m
  rb : Γ.blk iid = r ∧ Γ.base iid = 0

theorem ItC.body {m : Nat} {Γ0 Γ Γ' : Ctx} {mb r : Nat} {ent : Array MapEntry} {clk : Nat} {seen : Array Nat} {rem : List (AVal × AVal)} {iid : Nat} (h : ItC m Γ0 Γ mb r ent clk seen rem iid) (he : ExtK m Γ Γ') :
    ItC m Γ0 Γ' mb r ent clk seen rem iid := by
  refine ⟨h.ext.trans he, he.raw _ _ h.map, he.raw _ _ h.it, h.r0, h.m0, by rw [he.N0]; exact h.n0, h.ne, ?_, h.low, h.ib, by rw [he.blk _ h.ib, he.base _ h.ib]; exact h.rb⟩
  refine F2.of_get h.left.length fun j x e hx hee => ?_
  have hl := List.all_eq_true.1 h.low x (List.mem_of_getElem? hx)
  rw [Bool.and_eq_true] at hl
  have := h.left.get j x e hx hee
  exact ⟨this.1.extK he hl.1, this.2.extK he hl.2⟩

theorem ItC.free {m : Nat} {Γ0 Γ : Ctx} {mb r : Nat} {ent : Array MapEntry} {clk : Nat} {seen : Array Nat} {rem : List (AVal × AVal)} {iid : Nat} (h : ItC m Γ0 Γ mb r ent clk seen rem iid) {H : AH} {w : World} (hw : WR Γ H w) : Free Γ r := by
  have hr := hw.raw _ _ h.it
  refine ⟨h.n0, fun o => ?_, fun hm => ?_⟩
  · cases hc : Γ.rho r o with
    | none => rfl
    | some v =>
      have := hw.rho _ _ _ hc
      simp [World.cell?, hr] at this
  · have := (hw.marks _ hm).2.1
    rw [h.it] at this; cases this

theorem ItC.step {m : Nat} {Γ0 Γ : Ctx} {mb r : Nat} {ent : Array MapEntry} {clk : Nat} {seen : Array Nat} {rem : List (AVal × AVal)} {iid : Nat} (h : ItC m Γ0 Γ mb r ent clk seen rem iid)
    (hd : (ent.toList.map (·.born)).Nodup) {i : Nat} {e : MapEntry} (he : (leftOf ent seen)[i]? = some e) :
    ItC m Γ0 (Γ.setRaw r (some (.mapIter (some mb) clk (seen.push e.born) clk))) mb r ent clk (seen.push e.born) (rem.eraseIdx i) iid := by
  have hext : ExtK m Γ0 (Γ.setRaw r (some (.mapIter (some mb) clk (seen.push e.born) clk))) := by
    refine ⟨h.ext.N0, h.ext.w0, h.ext.oad, h.ext.top, h.ext.blk, h.ext.base, h.ext.bsz, h.ext.rho, fun b ob hb => ?_, h.ext.env⟩
    simp only [Ctx.setRaw]
    rw [if_neg (fun e => by rw [e, h.r0] at hb; cases hb)]
    exact h.ext.raw b ob hb
  refine ⟨hext, ?_, ?_, h.r0, h.m0, h.n0, h.ne, ?_, ?_, h.ib, h.rb⟩
  · simp only [Ctx.setRaw]; rw [if_neg h.ne]; exact h.map
  · simp [Ctx.setRaw]
  · rw [leftOf_push hd he]
    exact (h.left.eraseIdx i).imp fun _ _ k => ⟨k.1.setRaw, k.2.setRaw⟩
  · rw [List.all_eq_true]
    intro x hx
    exact List.all_eq_true.1 h.low x (List.mem_of_mem_eraseIdx hx)

theorem ItC.done {m : Nat} {Γ0 Γ : Ctx} {mb r : Nat} {ent : Array MapEntry} {clk : Nat} {seen : Array Nat} {rem : List (AVal × AVal)} {iid : Nat} (h : ItC m Γ0 Γ mb r ent clk seen rem iid) :
    ExtK m Γ0 ((Γ.setRaw r none).setRaw mb none) := by
  refine ⟨h.ext.N0, h.ext.w0, h.ext.oad, h.ext.top, h.ext.blk, h.ext.base, h.ext.bsz, h.ext.rho, fun b ob hb => ?_, h.ext.env⟩
  simp only [Ctx.setRaw]
  rw [if_neg (fun e => by rw [e, h.m0] at hb; cases hb), if_neg (fun e => by rw [e, h.r0] at hb; cases hb)]
  exact h.ext.raw b ob hb

theorem SR.drop {Γ : Ctx} {s : St} {a : Act} {w : World} (h : SR Γ s a w) (b : Nat) : SR (Γ.setRaw b none) s a w :=
  ⟨fun i x hx => let ⟨v, h1, h2⟩ := h.t i x hx; ⟨v, h1, h2.setRaw⟩, h.nt, h.d, h.w.dropRaw b⟩

section
variable {P : Program} {E : Env}

theorem sr_set {Γ : Ctx} {s : St} {a : Act} {w : World} (h : SR Γ s a w) {d : Nat} {x : AVal} {v : Value} (hd : d < s.nt) (hv : VR Γ x v) : SR Γ ⟨s.T.set d x, s.H, s.nt⟩ (a.put (some d) v) w := by
  have hp : s.put (some d) x s.H = some ⟨s.T.set d x, s.H, s.nt⟩ := by
    have : Nat.blt d s.nt = true := Nat.ble_eq_true_of_le hd
    simp [St.put, this]
  exact sr_put h (.refl _) hv h.w hp

theorem ev_tmp {s : St} {t : Nat} {x : AVal} (h : s.T.get t = some x) : s.ev (.tmp t) = some x := h

theorem SR.bool_at {Γ : Ctx} {s : St} {a : Act} {w : World} (hs : SR Γ s a w) {t : Nat} {b : Bool} (h : s.T.get t = some (.bool b)) : a.eval (.tmp t) = .bool b := (ev_sound hs (ev_tmp h)).bool_inv

theorem extract0 {o : Oper} {s : St} {tn : Nat} {x : AVal} {l : List AVal} (h : o.op = .extract (.tmp tn) 0) (ht : s.T.get tn = some (.tup (x :: l))) : opA E o s = some (x, s.H) := by
  unfold opA
  rw [h]
  simp [St.ev, ht, lift]

/-- one operation without a guard, the last of a region -/
theorem ops_one {cf : CallF} {ops : List Oper} {o : Oper} {s : St} {v : AVal} {H : AH} {d : Nat} (hg : o.guard = none) (hd : o.dst = some d) (hn : d < s.nt) (hc : ∀ c, o.op ≠ .call c) (h : opA E o s = some (v, H)) :
    opsA E cf ops [o] s = some ⟨s.T.set d v, H, s.nt⟩ := by
  have hs : stepA E cf o s = some (v, H) := by
    unfold stepA
    split
    · rename_i c hcc; exact absurd hcc (hc c)
    · exact h
  have : Nat.blt d s.nt = true := Nat.ble_eq_true_of_le hn
  simp [opsA, oneA, wantedA, hg, hs, hd, St.put, this]

theorem SR.drew {Γ : Ctx} {s : St} {a : Act} {w w1 : World} (h : SR Γ s a w) (hw : w1 = w ∨ w1 = { w with drawn := w.drawn + 1 }) : SR Γ s a w1 := by
  rcases hw with rfl | rfl
  · exact h
  · exact ⟨h.t, h.nt, h.d, h.w.drew⟩

theorem wpList_value {rd : Bool} {F : Fence} (hF : FOK rd F) {ops : Array Oper} {o : Oper} {rest : List Oper} {Q : Exit → Act → World → Prop} {a : Act} {w w' : World} {v : Value} (hg : o.guard = none) (hd : ∀ c, o.op ≠ .defer c)
    (hr : (execOp a.eval o).run P w = .ok (.value v) w') (h : wpListIn F 0 P ops Q rest (a.put o.dst v) w') : wpListIn F 0 P ops Q (o :: rest) a w := by
  have hw : Region.wanted o (yielded ops a.tmps) = true := by simp [Region.wanted, hg]
  simp only [wpListIn, hw, if_true]
  refine ⟨fun f _ => hF.fn f, ?_⟩
  rw [hF.sem hd, hr]
  exact h

/-- the loop of a range over a map -/
theorem acode_maploop {rd : Bool} {F : Fence} (hF : FOK rd F) (hE : EnvOK P E) {k : Nat} (hcf : CallOK P E (callA E (exec E k))) {m i1 i2 out nxt tn tm tp it : Nat} {nx ex en : Oper} {rest : List Oper} {code : Code} {R : Out → Prop}
    (I : List (AVal × AVal) → St → Prop) {iid : Nat}
    (h1 : nx.op = .next (.tmp it) false) (h1g : nx.guard = none) (h1d : nx.dst = some tn)
    (h2 : ex.op = .extract (.tmp tn) 0) (h2g : ex.guard = none) (h2d : ex.dst = some tm)
    (h3 : en.op = .entry (.tmp it)) (h3g : en.guard = none) (h3d : en.dst = some tp) (hne : tn ≠ it ∧ tm ≠ it)
    (hI : ∀ rem s, I rem s → s.T.get it = some (.ptr iid 0) ∧ m ≤ s.H.n ∧ tn < s.nt ∧ tm < s.nt ∧ tp < s.nt)
    (hstep : ∀ rem s, I rem s → ∀ i x v, rem[i]? = some (x, v) → ∃ s2, opsA E (callA E (exec E k)) (en :: rest) rest ⟨((s.T.set tn (.tup [.bool true, x, v])).set tm (.bool true)).set tp (.tup [x, v]), s.H, s.nt⟩ = some s2 ∧
      ACodeK P E rd m code s2 fun o => match o with | .next s' => I (rem.eraseIdx i) s' | .exit j s' => if j = nxt then I (rem.eraseIdx i) s' else R (.exit j s') | .ret s' => R (.ret s'))
    (hend : ∀ s, I [] s → R (.exit out ⟨(s.T.set tn (.tup [.bool false])).set tm (.bool false), s.H, s.nt⟩))
    {Γ0 : Ctx} {mb r : Nat} {ent : Array MapEntry} {clk : Nat} (hlt : ∀ e ∈ ent, e.born < clk) (hd : (ent.toList.map (·.born)).Nodup) :
    ∀ (n : Nat) (rem : List (AVal × AVal)) (s : St) (seen : Array Nat) (Γ : Ctx) (a : Act) (w : World), rem.length = n → I rem s → GOK P E Γ → SR Γ s a w → ItC m Γ0 Γ mb r ent clk seen rem iid →
      LoopWp F P (.seq (.region i1 #[nx, ex] false) (.seq (.cond (.tmp tm) .skip (.exit out)) (.block nxt (.seq (.region i2 (en :: rest).toArray false) code)))) (fun e a' w' => ∃ o, R o ∧ OutK m Γ0 o e a' w') a w := by
  intro n
  induction n using Nat.strongRecOn with
  | _ n ih =>
    intro rem s seen Γ a w hn hi hG hs hc
    obtain ⟨hit, hm, ht1, ht2, ht3⟩ := hI rem s hi
    have hev := ev_sound hs (ev_tmp hit)
    obtain ⟨p, hp⟩ : ∃ p, a.eval (.tmp it) = p := ⟨_, rfl⟩
    rw [hp] at hev
    have hpe : p = .pointer (some ⟨r, 0, none⟩) := by
      have hrb := hc.rb
      cases hev
      rw [hrb.1, hrb.2]
    subst hpe
    have hdn : ∀ c, nx.op ≠ .defer c := fun c e => by rw [h1] at e; cases e
    have hwn : Region.wanted nx (yielded #[nx, ex] a.tmps) = true := by simp [Region.wanted, h1g]
    have hrun : ∀ {w' : World} {v : Value}, (Instr.next (.pointer (some ⟨r, 0, none⟩)) false nx.type).run P w = .ok v w' → (execOp a.eval nx).run P w = .ok (.value v) w' := by
      intro w' v hv
      obtain ⟨dst, op, ty, pos, aft, gd⟩ := nx
      simp only at h1
      subst h1
      show (bind (Instr.next (a.eval (.tmp it)) false ty) _ : Sem Next).run P w = _
      rw [Sem.run_bind, hp, hv]
      rfl
    -- what becomes of a way out
    have leave : ∀ {Γ1 : Ctx} {seen' : Array Nat} {rem' : List (AVal × AVal)} {o : Out} {e : Exit} {a' : Act} {w' : World}, ItC m Γ0 Γ1 mb r ent clk seen' rem' iid → OutK m Γ1 o e a' w' → OutK m Γ0 o e a' w' := by
      rintro Γ1 seen' rem' o e a' w' hc1 ⟨Γ2, k1, k2⟩
      refine ⟨_, (hc1.body k1).done, ?_⟩
      cases o <;> cases e <;> first | exact k2.elim | exact (SR.drop (SR.drop k2 r) mb) | exact ⟨k2.1, SR.drop (SR.drop k2.2 r) mb⟩
    refine loop_round (wpIn_seq (wpIn_region_list ?_))
    show wpListIn F 0 P #[nx, ex] _ [nx, ex] a w
    obtain ⟨w1, hw1, ⟨hleft, hnext⟩ | ⟨i, e, hie, hnext⟩⟩ := run_next_map (P := P) (ty := nx.type) (hs.w.raw _ _ hc.it) (hs.w.raw _ _ hc.map) hlt
    · -- all have been met
      refine wpList_value hF h1g hdn (hrun hnext) ?_
      rw [h1d]
      have hrem : rem = [] := by
        have := hc.left.length
        unfold leftOf at this
        rw [hleft] at this
        exact List.eq_nil_of_length_eq_zero this.symm
      subst hrem
      have hs1 := sr_set (hs.drew hw1) ht1 (VR.tup (Γ := Γ) (cs := [.bool false]) (vs := #[.bool false]) rfl (by
        intro j x v hx hv
        cases j with
        | zero => simp at hx hv; subst hx hv; exact .bool _
        | succ j => simp at hx))
      have hops : opsA E (callA E (exec E k)) (#[nx, ex] : Array Oper).toList [ex] ⟨s.T.set tn (.tup [.bool false]), s.H, s.nt⟩ = some ⟨(s.T.set tn (.tup [.bool false])).set tm (.bool false), s.H, s.nt⟩ :=
        ops_one h2g h2d ht2 (fun c e => by rw [h2] at e; cases e) (extract0 (l := []) h2 (by simp [PT.get_set]))
      refine ops_sound hE hF hcf hG hs1 hops fun Γ' a' w' he hs' => ?_
      have hb : a'.eval (.tmp tm) = .bool false := hs'.bool_at (by simp [PT.get_set])
      refine wpIn_seq (wpIn_cond_false hb (wpIn_exit (n := 0) ?_))
      have heK : ExtK m Γ Γ' := he.loose.toK (hs.w.top ▸ hm)
      exact ⟨_, hend s hi, leave hc ⟨Γ', heK, rfl, hs'⟩⟩
    · -- one more
      refine wpList_value hF h1g hdn (hrun hnext) ?_
      rw [h1d]
      obtain ⟨⟨x, v⟩, hx⟩ : ∃ y, rem[i]? = some y := by
        have hl := hc.left.length
        have := (List.getElem?_eq_some_iff.1 hie).1
        exact ⟨rem[i]'(by unfold leftOf at hl; omega), List.getElem?_eq_getElem _⟩
      have hie' : (leftOf ent seen)[i]? = some e := hie
      obtain ⟨hk1, hk2⟩ := hc.left.get i _ _ hx hie'
      have hee : e ∈ ent := by
        have := List.mem_of_getElem? hie
        simp at this; exact this.1
      obtain ⟨s2, hrest, hcode⟩ := hstep rem s hi i x v hx
      have hc2 := hc.step hd hie'
      obtain ⟨Γ2, hΓ2⟩ : ∃ Γ2, Γ2 = Γ.setRaw r (some (.mapIter (some mb) clk (seen.push e.born) clk)) := ⟨_, rfl⟩
      have hG2 : GOK P E Γ2 := hΓ2 ▸ hG.setRaw
      have hs0 := hs.drew hw1
      have hs2 : SR Γ2 s a (w1.putObj r (.mapIter (some mb) clk (seen.push e.born) clk)) := by
        subst hΓ2
        exact ⟨fun i x hx => let ⟨v, q1, q2⟩ := hs0.t i x hx; ⟨v, q1, q2.setRaw⟩, hs0.nt, hs0.d, hs0.w.setRaw hc.it (hc.free hs0.w)⟩
      rw [← hΓ2] at hc2
      have hkv : ∀ {Γ' : Ctx}, ExtK m Γ2 Γ' → VR Γ' x e.key ∧ VR Γ' v e.val := by
        intro Γ' he
        have hl := List.all_eq_true.1 hc.low _ (List.mem_of_getElem? hx)
        rw [Bool.and_eq_true] at hl
        subst hΓ2
        exact ⟨(hk1.setRaw).extK he hl.1, (hk2.setRaw).extK he hl.2⟩
      have hm2 : m ≤ Γ2.top := by subst hΓ2; exact hs.w.top ▸ hm
      have hkv2 := hkv (ExtK.refl hm2)
      have hs3 := sr_set hs2 ht1 (VR.tup (Γ := Γ2) (cs := [.bool true, x, v]) (vs := #[.bool true, e.key, e.val]) rfl (by
        intro j y u hy hu
        match j with
        | 0 => simp at hy hu; subst hy hu; exact .bool _
        | 1 => simp at hy hu; subst hy hu; exact hkv2.1
        | 2 => simp at hy hu; subst hy hu; exact hkv2.2
        | j + 3 => simp at hy))
      have hops : opsA E (callA E (exec E k)) (#[nx, ex] : Array Oper).toList [ex] ⟨s.T.set tn (.tup [.bool true, x, v]), s.H, s.nt⟩ = some ⟨(s.T.set tn (.tup [.bool true, x, v])).set tm (.bool true), s.H, s.nt⟩ :=
        ops_one h2g h2d ht2 (fun c e => by rw [h2] at e; cases e) (extract0 (l := [x, v]) h2 (by simp [PT.get_set]))
      refine ops_sound hE hF hcf hG2 hs3 hops fun Γ3 a3 w3 he3 hs4 => ?_
      have hb : a3.eval (.tmp tm) = .bool true := hs4.bool_at (by simp [PT.get_set])
      have heK3 : ExtK m Γ2 Γ3 := he3.loose.toK hm2
      have hc3 := hc2.body heK3
      refine wpIn_seq (wpIn_cond_true hb (wpIn_skip (n := 0) ?_))
      refine wpIn_block (wpIn_seq (wpIn_region_list ?_))
      show wpListIn F 0 P (en :: rest).toArray _ (en :: rest) a3 w3
      have hit3 : (((s.T.set tn (.tup [.bool true, x, v])).set tm (.bool true))).get it = some (.ptr iid 0) := by
        simp only [PT.get_set]
        rw [if_neg (Ne.symm hne.2), if_neg (Ne.symm hne.1)]; exact hit
      have hev3 := ev_sound hs4 (ev_tmp hit3)
      obtain ⟨p3, hp3⟩ : ∃ p, a3.eval (.tmp it) = p := ⟨_, rfl⟩
      rw [hp3] at hev3
      have hpe3 : p3 = .pointer (some ⟨r, 0, none⟩) := by
        have hrb := hc3.rb
        cases hev3
        rw [hrb.1, hrb.2]
      subst hpe3
      have hrun3 : (execOp a3.eval en).run P w3 = .ok (.value (.tuple #[e.key, e.val])) w3 := by
        have hentry := run_entry_map (P := P) (hs4.w.raw _ _ hc3.it) (hs4.w.raw _ _ hc3.map) hee hd
        obtain ⟨dst, op, ty, pos, aft, gd⟩ := en
        simp only at h3
        subst h3
        show (bind (Instr.entry (a3.eval (.tmp it))) _ : Sem Next).run P w3 = _
        rw [Sem.run_bind, hp3, hentry]
        rfl
      refine wpList_value hF h3g (fun c e => by rw [h3] at e; cases e) hrun3 ?_
      rw [h3d]
      have hkv3 := hkv heK3
      have hs5 := sr_set hs4 ht3 (VR.tup (Γ := Γ3) (cs := [x, v]) (vs := #[e.key, e.val]) rfl (by
        intro j y u hy hu
        match j with
        | 0 => simp at hy hu; subst hy hu; exact hkv3.1
        | 1 => simp at hy hu; subst hy hu; exact hkv3.2
        | j + 2 => simp at hy))
      have hG3 : GOK P E Γ3 := hG2.ext he3
      refine ops_sound (ops := (en :: rest).toArray) hE hF hcf hG3 hs5 hrest fun Γ4 a4 w4 he4 hs6 => ?_
      have hm3 : m ≤ Γ3.top := heK3.top
      have heK4 : ExtK m Γ3 Γ4 := he4.loose.toK hm3
      have hc4 := hc3.body heK4
      have hG4 : GOK P E Γ4 := hG3.ext he4
      refine wpIn_mono (hcode F Γ4 a4 w4 hF hG4 hs6) ?_
      have again : ∀ {s' : St} {Γ5 : Ctx} {a5 : Act} {w5 : World}, I (rem.eraseIdx i) s' → ExtK m Γ4 Γ5 → SR Γ5 s' a5 w5 →
          LoopWp F P (.seq (.region i1 #[nx, ex] false) (.seq (.cond (.tmp tm) .skip (.exit out)) (.block nxt (.seq (.region i2 (en :: rest).toArray false) code)))) (fun e a' w' => ∃ o, R o ∧ OutK m Γ0 o e a' w') a5 w5 := by
        intro s' Γ5 a5 w5 hi' he5 hs7
        have hlen : (rem.eraseIdx i).length < n := by
          have := (List.getElem?_eq_some_iff.1 hx).1
          rw [List.length_eraseIdx]; split <;> omega
        exact ih _ hlen _ s' _ Γ5 a5 w5 rfl hi' (hG4.extK he5) hs7 (hc4.body he5)
      rintro e5 a5 w5 ⟨o, hR, hout⟩
      cases o with
      | next s' =>
        obtain ⟨Γ5, q1, q2⟩ := hout
        cases e5 <;> try exact q2.elim
        exact again hR q1 q2
      | ret s' =>
        have hout' := hout
        obtain ⟨Γ5, q1, q2⟩ := hout
        cases e5 <;> try exact q2.elim
        exact ⟨_, hR, leave hc4 hout'⟩
      | exit j s' =>
        have hout' := hout
        obtain ⟨Γ5, q1, q2⟩ := hout
        cases e5 <;> try exact q2.elim
        obtain ⟨rfl, q2⟩ := q2
        simp only [Exit.inBlock]
        simp only at hR
        split
        · rename_i hj
          rw [if_pos hj] at hR
          exact again hR q1 q2
        · rename_i hj
          rw [if_neg hj] at hR
          exact ⟨_, hR, leave hc4 hout'⟩

end
end Go.Pend

/- A range over a map: in whatever order. -/
import Derived.Test.YtdbcojhhdjlbiaaDoorE15
namespace Go.Pend
open Go.RowKit (Below)

/-! what has no names from a bound on -/
mutual
def AVal.low (n : Nat) : AVal → Bool
  | .ptr id _ => Nat.blt id n
  | .slc id _ _ _ => Nat.blt id n
  | .rop cs => AVal.lows n cs
  | .ro _ es => AVal.lowss n es
  | .map id => Nat.blt id n
  | .fn _ caps => AVal.lows n caps
  | .ifc _ v => AVal.low n v
  | .agg cs => AVal.lows n cs
  | .tup cs => AVal.lows n cs
  | .yld id => Nat.blt id n
  | _ => true
def AVal.lows (n : Nat) : List AVal → Bool
  | [] => true
  | x :: r => AVal.low n x && AVal.lows n r
def AVal.lowss (n : Nat) : List (List AVal) → Bool
  | [] => true
  | x :: r => AVal.lows n x && AVal.lowss n r
end

theorem lows_get {n : Nat} : ∀ {l : List AVal}, AVal.lows n l = true → ∀ (j : Nat) x, l[j]? = some x → x.low n = true
  | [], _, j, x, h => by simp at h
  | y :: l, hl, j, x, h => by
    simp only [AVal.lows, Bool.and_eq_true] at hl
    cases j with
    | zero => simp at h; subst h; exact hl.1
    | succ j => exact lows_get hl.2 j x (by simpa using h)

theorem lowss_get {n : Nat} : ∀ {l : List (List AVal)}, AVal.lowss n l = true → ∀ (j : Nat) x, l[j]? = some x → AVal.lows n x = true
  | [], _, j, x, h => by simp at h
  | y :: l, hl, j, x, h => by
    simp only [AVal.lowss, Bool.and_eq_true] at hl
    cases j with
    | zero => simp at h; subst h; exact hl.1
    | succ j => exact lowss_get hl.2 j x (by simpa using h)

theorem blt_lt {a b : Nat} (h : Nat.blt a b = true) : a < b := by
  have := Nat.le_of_ble_eq_true h
  omega

theorem VR.extK {m : Nat} {Γ Γ' : Ctx} (e : ExtK m Γ Γ') {x : AVal} {v : Value} (h : VR Γ x v) : x.low m = true → VR Γ' x v := by
  induction h with
  | bool b => exact fun _ => .bool b
  | int k n => exact fun _ => .int k n
  | str s => exact fun _ => .str s
  | pnil => exact fun _ => .pnil
  | ptr h => intro hl; have hi := blt_lt hl; rw [← e.blk _ hi, ← e.base _ hi]; exact .ptr (Nat.lt_of_lt_of_le hi e.top)
  | rop u h1 _ ih => exact fun hl => .rop u (fun j hj => e.rho _ _ _ (h1 j hj)) fun j x hx => ih j x hx (lows_get hl j x hx)
  | glob g => exact fun _ => .glob g
  | opq n => intro _; rw [← e.oad]; exact .opq n
  | nosNil => exact fun _ => .nosNil
  | nosSome a => exact fun _ => .nosSome a
  | slc h hc hf =>
    intro hl
    have hi := blt_lt hl
    rw [← e.base _ hi, ← e.bsz _ hi] at hf
    rw [← e.blk _ hi, ← e.base _ hi]
    exact .slc (Nat.lt_of_lt_of_le hi e.top) hc hf
  | slc0 a => exact fun _ => .slc0 a
  | roNil => exact fun _ => .roNil
  | ro u hl hc hs hz h1 _ ih => exact fun hw => .ro u hl hc hs hz (fun i j hi hj => e.rho _ _ _ (h1 i j hi hj)) fun i r j x hr hx => ih i r j x hr hx (lows_get (lowss_get hw i r hr) j x hx)
  | mnil => exact fun _ => .mnil
  | map h => intro hl; have hi := blt_lt hl; rw [← e.blk _ hi]; exact .map (Nat.lt_of_lt_of_le hi e.top)
  | fnil => exact fun _ => .fnil
  | fn hl _ ih => exact fun hw => .fn hl fun j x v hx hv => ih j x v hx hv (lows_get hw j x hx)
  | inil => exact fun _ => .inil
  | ifc _ ih => exact fun hw => .ifc (ih hw)
  | agg hl _ ih => exact fun hw => .agg hl fun j x v hx hv => ih j x v hx hv (lows_get hw j x hx)
  | tup hl _ ih => exact fun hw => .tup hl fun j x v hx hv => ih j x v hx hv (lows_get hw j x hx)
  | yld h => intro hl; have hi := blt_lt hl; rw [← e.blk _ hi]; exact .yld (Nat.lt_of_lt_of_le hi e.top)
  | sym l => intro _; rw [← e.env]; exact .sym l
  | arrNil h => intro _; exact .arrNil (by rw [e.env]; exact h)
  | arr hl hc hs hz h1 => intro _; exact .arr (by rw [e.env]; exact hl) hc (by rw [e.env]; exact hs) (by rw [e.env]; exact hz) (fun i r j x hr hx => by rw [e.env] at hr; obtain ⟨v, k1, k2⟩ := h1 i r j x hr hx; exact ⟨v, k1, e.rho _ _ _ k2⟩)

/-! blocks that are held as they are -/
def Ctx.setRaw (Γ : Ctx) (b : Nat) (ob : Option Obj) : Ctx := { Γ with raw := fun k => if k = b then ob else Γ.raw k, marks := Γ.marks }

theorem VR.setRaw {Γ : Ctx} {b : Nat} {ob : Option Obj} {x : AVal} {v : Value} (h : VR Γ x v) : VR (Γ.setRaw b ob) x v := h.reraw _ _
theorem GOK.setRaw {P : Program} {E : Env} {Γ : Ctx} {b : Nat} {ob : Option Obj} (h : GOK P E Γ) : GOK P E (Γ.setRaw b ob) := h.reraw _ _

/-- of a block that no name is of -/
def Free (Γ : Ctx) (b : Nat) : Prop := Γ.N0 ≤ b ∧ (∀ o, Γ.rho b o = none) ∧ b ∉ Γ.marks

theorem WR.dropRaw {Γ : Ctx} {H : AH} {w : World} (h : WR Γ H w) (b : Nat) : WR (Γ.setRaw b none) H w := by
  have hrr : ∀ k ob, (Γ.setRaw b none).raw k = some ob → ∀ o, (Γ.setRaw b none).rho k o = none := by
    intro k ob hk o
    simp only [Ctx.setRaw] at hk
    split at hk
    · cases hk
    · exact h.rr k ob hk o
  refine ⟨h.below, h.n0, h.top, h.rho, ?_, hrr, h.marksd, ?_, h.old, ?_, fun id x hx => (h.obj id x hx).reraw _ _, h.inj⟩
  · intro k ob hk
    simp only [Ctx.setRaw] at hk
    split at hk
    · cases hk
    · exact h.raw k ob hk
  · intro k hk
    obtain ⟨k1, k2, k3⟩ := h.marks k hk
    refine ⟨k1, ?_, k3⟩
    simp only [Ctx.setRaw]
    split
    · rfl
    · exact k2
  · intro id x hx
    obtain ⟨k1, k2, k3⟩ := h.own id x hx
    refine ⟨k1, k2, ?_⟩
    simp only [Ctx.setRaw]
    split
    · rfl
    · exact k3

theorem WR.newRaw {Γ : Ctx} {H : AH} {w : World} (h : WR Γ H w) (ob : Obj) : WR (Γ.setRaw w.heap.size (some ob)) H (w.alloc ob) := by
  have hrr : ∀ k ob', (Γ.setRaw w.heap.size (some ob)).raw k = some ob' → ∀ o, (Γ.setRaw w.heap.size (some ob)).rho k o = none := by
    intro k ob' hk o
    simp only [Ctx.setRaw] at hk
    show Γ.rho k o = none
    split at hk
    · subst k
      cases hc : Γ.rho w.heap.size o with
      | none => rfl
      | some v => have := World.block_lt_of_cell? _ _ (h.rho _ _ _ hc); simp at this
    · exact h.rr k ob' hk o
  refine ⟨h.below.alloc h.n0 _, by simp; exact Nat.le_succ_of_le h.n0, h.top, ?_, ?_, hrr, h.marksd, ?_, h.old, ?_, ?_, h.inj⟩
  · intro b o' v hv
    have := h.rho b o' v hv
    rw [World.cell?_alloc_lt]
    · exact this
    · exact World.block_lt_of_cell? _ _ this
  · intro k ob' hk
    simp only [Ctx.setRaw] at hk
    split at hk
    · cases hk; subst k; exact World.alloc_heap_new w _
    · have := h.raw k ob' hk
      exact (Below.heap_alloc _ _ _ (Array.getElem?_eq_some_iff.1 this).1).trans this
  · intro k hk
    obtain ⟨k1, k2, k3⟩ := h.marks k hk
    have hlt := (Array.getElem?_eq_some_iff.1 k1).1
    refine ⟨(Below.heap_alloc _ _ _ hlt).trans k1, ?_, k3⟩
    simp only [Ctx.setRaw]
    rw [if_neg (by omega)]; exact k2
  · intro id x hx
    obtain ⟨k1, k2, k3⟩ := h.own id x hx
    refine ⟨k1, k2, ?_⟩
    have := (h.obj id x hx).lt
    simp only [Ctx.setRaw]
    rw [if_neg (by omega)]; exact k3
  · intro id x hx
    have ho := h.obj id x hx
    exact (ho.same (Below.heap_alloc _ _ _ ho.lt)).reraw _ _

theorem WR.setRaw {Γ : Ctx} {H : AH} {w : World} (h : WR Γ H w) {b : Nat} {ob ob' : Obj} (hr : Γ.raw b = some ob) (hf : Free Γ b) : WR (Γ.setRaw b (some ob')) H (w.putObj b ob') := by
  have hlt : b < w.heap.size := (Array.getElem?_eq_some_iff.1 (h.raw b ob hr)).1
  have hone : OneBlock b w (w.putObj b ob') := putObj_one
  have hrr : ∀ k ob2, (Γ.setRaw b (some ob')).raw k = some ob2 → ∀ o, (Γ.setRaw b (some ob')).rho k o = none := by
    intro k ob2 hk o
    simp only [Ctx.setRaw] at hk
    show Γ.rho k o = none
    split at hk
    · subst k; exact hf.2.1 o
    · exact h.rr k ob2 hk o
  refine ⟨hone.below hf.1 h.below, by rw [hone.size]; exact h.n0, h.top, ?_, ?_, hrr, h.marksd, ?_, h.old, ?_, ?_, h.inj⟩
  · intro k o v hv
    have hne : k ≠ b := fun e => by have := hf.2.1 o; rw [← e] at this; rw [show Γ.rho k o = some v from hv] at this; cases this
    have := h.rho k o v hv
    simpa [World.cell?, hone.block k hne] using this
  · intro k ob2 hk
    simp only [Ctx.setRaw] at hk
    split at hk
    · cases hk; subst k; exact World.putObj_heap_same hlt
    · rename_i hne; exact (hone.block k hne).trans (h.raw k ob2 hk)
  · intro k hk
    obtain ⟨k1, k2, k3⟩ := h.marks k hk
    have hne : k ≠ b := fun e => hf.2.2 (e ▸ hk)
    refine ⟨(hone.block k hne).trans k1, ?_, k3⟩
    simp only [Ctx.setRaw]
    rw [if_neg hne]; exact k2
  · intro id x hx
    obtain ⟨k1, k2, k3⟩ := h.own id x hx
    refine ⟨k1, k2, ?_⟩
    have hne : Γ.blk id ≠ b := fun e => by rw [e, hr] at k3; cases k3
    simp only [Ctx.setRaw]
    rw [if_neg hne]; exact k3
  · intro id x hx
    obtain ⟨k1, k2, k3⟩ := h.own id x hx
    have hne : Γ.blk id ≠ b := fun e => by rw [e, hr] at k3; cases k3
    exact ((h.obj id x hx).same (hone.block _ hne)).reraw _ _

/-- an object is held as it is -/
theorem WR.toRaw {Γ : Ctx} {H : AH} {w : World} (h : WR Γ H w) {id : Nat} {x : AObj} {ob : Obj} (hid : H.o.get id = some x) (hb : w.heap[Γ.blk id]? = some ob) :
    WR (Γ.setRaw (Γ.blk id) (some ob)) ⟨H.o.del id, H.n⟩ w := by
  have hg := h.forget id
  have hrr : ∀ k ob2, (Γ.setRaw (Γ.blk id) (some ob)).raw k = some ob2 → ∀ o, (Γ.setRaw (Γ.blk id) (some ob)).rho k o = none := by
    intro k ob2 hk o
    simp only [Ctx.setRaw] at hk
    show Γ.rho k o = none
    split at hk
    · subst k; exact (h.own id x hid).2.1 o
    · exact h.rr k ob2 hk o
  refine ⟨h.below, h.n0, h.top, h.rho, ?_, hrr, h.marksd, ?_, hg.old, ?_, fun i y hy => (hg.obj i y hy).reraw _ _, hg.inj⟩
  · intro k ob' hk
    simp only [Ctx.setRaw] at hk
    split at hk
    · cases hk; subst k; exact hb
    · exact h.raw k ob' hk
  · intro k hk
    obtain ⟨k1, k2, k3⟩ := h.marks k hk
    refine ⟨k1, ?_, k3⟩
    simp only [Ctx.setRaw]
    rw [if_neg (fun e => (h.obj id x hid).no_mark (e ▸ k1))]; exact k2
  · intro i y hy
    obtain ⟨k1, k2, k3⟩ := hg.own i y hy
    refine ⟨k1, k2, ?_⟩
    simp only [PT.get_del] at hy
    split at hy
    · cases hy
    · rename_i hne
      have : Γ.blk i ≠ Γ.blk id := fun e => hne (h.inj i id _ _ hy hid e)
      simp only [Ctx.setRaw]
      rw [if_neg this]; exact k3

/-- what was held is an object again -/
theorem WR.ofRaw {Γ : Ctx} {H : AH} {w : World} (h : WR Γ H w) {id : Nat} {x : AObj} {ob : Obj} (hr : Γ.raw (Γ.blk id) = some ob) (hf : Free Γ (Γ.blk id)) (hid : id < Γ.top) (hx : OR Γ id x w) :
    WR (Γ.setRaw (Γ.blk id) none) ⟨H.o.set id x, H.n⟩ w := by
  have hd := h.dropRaw (Γ.blk id)
  have hne : ∀ i y, H.o.get i = some y → Γ.blk i ≠ Γ.blk id := fun i y hy e => by
    have := (h.own i y hy).2.2
    rw [e, hr] at this; cases this
  refine ⟨hd.below, hd.n0, hd.top, hd.rho, hd.raw, hd.rr, hd.marksd, hd.marks, ?_, ?_, ?_, ?_⟩
  · intro i y hy
    simp only [PT.get_set] at hy
    split at hy
    · subst i; exact hid
    · exact h.old i y hy
  · intro i y hy
    simp only [PT.get_set] at hy
    split at hy
    · subst i
      refine ⟨hf.1, hf.2.1, ?_⟩
      simp [Ctx.setRaw]
    · exact hd.own i y hy
  · intro i y hy
    simp only [PT.get_set] at hy
    split at hy
    · subst i; cases hy; exact hx.reraw _ _
    · exact hd.obj i y hy
  · intro i j y z hi hj hb
    simp only [PT.get_set] at hi hj
    split at hi <;> split at hj
    · omega
    · subst i; exact absurd hb.symm (hne j _ hj)
    · subst j; exact absurd hb (hne i _ hi)
    · exact h.inj i j _ _ hi hj hb

/-! the model's own steps -/
section
variable {P : Program} {w : World}

theorem run_getObj_map {r : Nat} {es : Array MapEntry} {clk : Nat} (h : w.heap[r]? = some (.map es clk)) : (getObj r).run P w = .ok (.map es clk) w := by simp [getObj, Sem.run, h]
theorem run_getObj_iter {r clk last : Nat} {m : Option Nat} {seen : Array Nat} (h : w.heap[r]? = some (.mapIter m clk seen last)) : (getObj r).run P w = .ok (.mapIter m clk seen last) w := by simp [getObj, Sem.run, h]
theorem run_setObj_iter {r clk last : Nat} {m : Option Nat} {seen : Array Nat} (o : Obj) (h : w.heap[r]? = some (.mapIter m clk seen last)) : (setObj r o).run P w = .ok () (w.putObj r o) := by simp [setObj, Sem.run, h, World.putObj]

theorem run_range_map {t a b mb : Nat} {ent : Array MapEntry} {clk : Nat} (hu : P.underlying t = some (.map a b)) (h : w.heap[mb]? = some (.map ent clk)) :
    (Instr.range t (.map (some mb))).run P w = .ok (.pointer (some ⟨w.heap.size, 0, none⟩)) (w.alloc (.mapIter (some mb) clk #[] clk)) := by
  unfold Instr.range
  have hru : (underlying t).run P w = .ok (.map a b) w := by simp [underlying, Sem.run_bind, run_program, Result.andThen_ok, hu]
  simp only [Sem.run_bind, hru, Result.andThen_ok, run_getObj_map h, Sem.run_pure, run_newObj_alloc]

theorem run_choose_next (n : Nat) (hn : 0 < n) : ∃ i w1, (w1 = w ∨ w1 = { w with drawn := w.drawn + 1 }) ∧ i < n ∧ (choose (.mapNext n)).run P w = .ok i w1 := by
  by_cases h1 : n ≤ 1
  · refine ⟨0, w, .inl rfl, hn, ?_⟩
    simp [choose, Sem.run, Question.forced, h1]
  · refine ⟨w.tape w.drawn (.mapNext n) % n, _, .inr rfl, Nat.mod_lt _ hn, ?_⟩
    simp [choose, Sem.run, Question.forced, h1, Question.cut]

theorem run_next_map {r mb clk : Nat} {ent : Array MapEntry} {seen : Array Nat} {ty : Nat} (h : w.heap[r]? = some (.mapIter (some mb) clk seen clk)) (hm : w.heap[mb]? = some (.map ent clk))
    (hlt : ∀ e ∈ ent, e.born < clk) :
    ∃ w1, (w1 = w ∨ w1 = { w with drawn := w.drawn + 1 }) ∧
      (((ent.toList.filter fun e => !seen.contains e.born) = [] ∧ (Instr.next (.pointer (some ⟨r, 0, none⟩)) false ty).run P w = .ok (.tuple #[.bool false]) w1) ∨
       ∃ (i : Nat) (e : MapEntry), (ent.toList.filter fun e => !seen.contains e.born)[i]? = some e ∧
        (Instr.next (.pointer (some ⟨r, 0, none⟩)) false ty).run P w = .ok (.tuple #[.bool true, e.key, e.val]) (w1.putObj r (.mapIter (some mb) clk (seen.push e.born) clk))) := by
  have hno : (!seen.isEmpty && !ent.isEmpty && ent.all (fun x => decide (x.born ≥ clk))) = false := by
    cases he : ent.isEmpty with
    | true => simp
    | false =>
      have hpos : 0 < ent.size := by
        rcases Nat.eq_zero_or_pos ent.size with h0 | h0
        · simp [Array.isEmpty, h0] at he
        · exact h0
      have : ent.all (fun x => decide (x.born ≥ clk)) = false := by
        rw [Array.all_eq_false]
        refine ⟨0, hpos, ?_⟩
        have := hlt ent[0] (by simp)
        simp; omega
      simp [this]
  have hold : ((ent.filter fun e => !seen.contains e.born).filter (fun e => decide (e.born < clk))) = ent.filter fun e => !seen.contains e.born := by
    rw [Array.filter_eq_self]
    intro e he
    have := hlt e (by simp at he; exact he.1)
    simpa using this
  have hnew : ((ent.filter fun e => !seen.contains e.born).filter (fun e => decide (e.born ≥ clk))) = #[] := by
    rw [Array.filter_eq_empty_iff]
    intro e he
    have := hlt e (by simp at he; exact he.1)
    simp; omega
  obtain ⟨left, hleft⟩ : ∃ left, left = ent.filter fun e => !seen.contains e.born := ⟨_, rfl⟩
  rw [← hleft] at hold hnew
  have hl : left.toList = ent.toList.filter fun e => !seen.contains e.born := by rw [hleft]; simp
  rw [← hl]
  obtain ⟨c, hc⟩ : ∃ c, c = ((if left.isEmpty then (#[none] : Array (Option MapEntry)) else #[]) ++ (left ++ #[]).map some) := ⟨_, rfl⟩
  have hbody : (Instr.next (.pointer (some ⟨r, 0, none⟩)) false ty).run P w =
      ((do
        match c[← choose (.mapNext c.size)]? with
        | some (some e) =>
          setObj r (.mapIter (some mb) clk (seen.push e.born) clk)
          pure (.tuple #[.bool true, e.key, e.val])
        | some none => pure (.tuple #[.bool false])
        | none => stuck "Next: no such candidate" : Sem Value)).run P w := by
    subst hc
    unfold Instr.next
    simp only [Sem.run_bind, run_getObj_iter h, run_getObj_map hm, Result.andThen_ok, hno, Bool.false_eq_true, if_false, ← hleft, hold, hnew, Sem.run_pure]
    rfl
  rw [hbody]
  clear hbody
  cases hempty : left.isEmpty with
  | true =>
    have hnil : left = #[] := by simpa [Array.isEmpty] using hempty
    obtain ⟨i, w1, k1, k2, k3⟩ := run_choose_next (P := P) (w := w) 1 (by omega)
    refine ⟨w1, k1, .inl ⟨by simp [hnil], ?_⟩⟩
    subst hnil
    have hi : i = 0 := by omega
    subst hi
    have hs : c = #[none] := by rw [hc]; simp
    rw [hs]
    simp only [Sem.run_bind]
    rw [show (#[none] : Array (Option MapEntry)).size = 1 from rfl, k3]
    simp
  | false =>
    have hpos : 0 < left.size := by
      rcases Nat.eq_zero_or_pos left.size with h0 | h0
      · simp [Array.isEmpty, h0] at hempty
      · exact h0
    obtain ⟨i, w1, k1, k2, k3⟩ := run_choose_next (P := P) (w := w) left.size hpos
    refine ⟨w1, k1, .inr ⟨i, left[i], by simp, ?_⟩⟩
    have hs : c = left.map some := by rw [hc, hempty]; simp
    rw [hs]
    simp only [Sem.run_bind]
    rw [show (left.map some).size = left.size by simp, k3]
    have hh : w1.heap[r]? = some (.mapIter (some mb) clk seen clk) := by rcases k1 with rfl | rfl <;> exact h
    simp [Array.getElem?_map, k2, Sem.run_bind, run_setObj_iter _ hh, Result.andThen_ok]

theorem find_born {es : List MapEntry} {e : MapEntry} (he : e ∈ es) (hd : (es.map (·.born)).Nodup) : es.find? (fun x => x.born == e.born) = some e := by
  induction es with
  | nil => cases he
  | cons x es ih =>
    simp only [List.map_cons, List.nodup_cons] at hd
    rcases List.mem_cons.1 he with rfl | he
    · simp
    · have hne : (x.born == e.born) = false := by
        simp only [beq_eq_false_iff_ne]
        intro h
        exact hd.1 (h ▸ List.mem_map_of_mem he)
      simp only [List.find?_cons, hne]
      exact ih he hd.2

theorem run_entry_map {r mb clk : Nat} {ent : Array MapEntry} {seen : Array Nat} {e : MapEntry} (h : w.heap[r]? = some (.mapIter (some mb) clk (seen.push e.born) clk)) (hm : w.heap[mb]? = some (.map ent clk))
    (he : e ∈ ent) (hd : (ent.toList.map (·.born)).Nodup) :
    (Instr.entry (.pointer (some ⟨r, 0, none⟩))).run P w = .ok (.tuple #[e.key, e.val]) w := by
  have hf : ent.find? (fun x => x.born == e.born) = some e := by
    rw [← Array.find?_toList]; exact find_born (by simpa using he) hd
  unfold Instr.entry
  simp only [Sem.run_bind, run_getObj_iter h, run_getObj_map hm, Result.andThen_ok, Array.back?_push, Sem.run_pure]
  simp [hf]

end
end Go.Pend

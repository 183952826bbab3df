/- How the abstract machine stands to the model's world: the relation, and what keeps it. -/
import Derived.Test.YtdbcojhhdjlbiaaDoorE0
import Derived.WalkKit
import Derived.Orders
namespace Go.Pend
open Go.RowKit (Below)

/-! tries -/
namespace PT
variable {α : Type}

theorem get_leaf (k : Nat) : (PT.leaf : PT α).get k = none := rfl

theorem get_putF : ∀ (f : Nat) (t : PT α) (k : Nat) (x : Option α) (j : Nat), k < f → (putF f t k x).get j = if j = k then x else t.get j := by
  intro f
  induction f with
  | zero => intro t k x j h; omega
  | succ f ih =>
    intro t k x j h
    cases t with
    | leaf =>
      cases k with
      | zero => cases j with
        | zero => simp [putF, get]
        | succ j => simp only [putF, get]; split <;> simp_all
      | succ k =>
        simp only [putF]
        by_cases hk : k % 2 = 0
        · simp only [hk, cond_true, show Nat.beq 0 0 = true from rfl]
          cases j with
          | zero => simp [get]
          | succ j =>
            simp only [get]
            by_cases hj : j % 2 = 0
            · simp only [hj, show Nat.beq 0 0 = true from rfl, cond_true, ih _ _ _ _ (show k / 2 < f by omega), get_leaf]
              have : (j / 2 = k / 2) ↔ (j + 1 = k + 1) := by omega
              simp only [this]
            · have : Nat.beq (j % 2) 0 = false := by have : j % 2 = 1 := by omega
                                                     rw [this]; rfl
              simp only [this, cond_false]
              rw [if_neg (by omega)]
        · have hkk : Nat.beq (k % 2) 0 = false := by have : k % 2 = 1 := by omega
                                                     rw [this]; rfl
          simp only [hkk, cond_false]
          cases j with
          | zero => simp [get]
          | succ j =>
            simp only [get]
            by_cases hj : j % 2 = 0
            · simp only [hj, show Nat.beq 0 0 = true from rfl, cond_true]
              rw [if_neg (by omega)]
            · have : Nat.beq (j % 2) 0 = false := by have : j % 2 = 1 := by omega
                                                     rw [this]; rfl
              simp only [this, cond_false, ih _ _ _ _ (show k / 2 < f by omega), get_leaf]
              have : (j / 2 = k / 2) ↔ (j + 1 = k + 1) := by omega
              simp only [this]
    | node l v r =>
      cases k with
      | zero => cases j with
        | zero => simp [putF, get]
        | succ j => simp only [putF, get]; rw [if_neg (by omega)]
      | succ k =>
        simp only [putF]
        by_cases hk : k % 2 = 0
        · simp only [hk, show Nat.beq 0 0 = true from rfl, cond_true]
          cases j with
          | zero => simp [get]
          | succ j =>
            simp only [get]
            by_cases hj : j % 2 = 0
            · simp only [hj, show Nat.beq 0 0 = true from rfl, cond_true, ih _ _ _ _ (show k / 2 < f by omega)]
              have : (j / 2 = k / 2) ↔ (j + 1 = k + 1) := by omega
              simp only [this]
            · have : Nat.beq (j % 2) 0 = false := by have : j % 2 = 1 := by omega
                                                     rw [this]; rfl
              simp only [this, cond_false]
              rw [if_neg (by omega)]
        · have hkk : Nat.beq (k % 2) 0 = false := by have : k % 2 = 1 := by omega
                                                     rw [this]; rfl
          simp only [hkk, cond_false]
          cases j with
          | zero => simp [get]
          | succ j =>
            simp only [get]
            by_cases hj : j % 2 = 0
            · simp only [hj, show Nat.beq 0 0 = true from rfl, cond_true]
              rw [if_neg (by omega)]
            · have : Nat.beq (j % 2) 0 = false := by have : j % 2 = 1 := by omega
                                                     rw [this]; rfl
              simp only [this, cond_false, ih _ _ _ _ (show k / 2 < f by omega)]
              have : (j / 2 = k / 2) ↔ (j + 1 = k + 1) := by omega
              simp only [this]

theorem get_set (t : PT α) (k : Nat) (x : α) (j : Nat) : (t.set k x).get j = if j = k then some x else t.get j := get_putF _ _ _ _ _ (Nat.lt_succ_self k)
theorem get_del (t : PT α) (k j : Nat) : (t.del k).get j = if j = k then none else t.get j := get_putF _ _ _ _ _ (Nat.lt_succ_self k)

theorem get_ofFrom : ∀ (l : List α) (i : Nat) (t : PT α) (j : Nat), (ofFrom i l t).get j = if i ≤ j ∧ j < i + l.length then l[j - i]? else t.get j := by
  intro l
  induction l with
  | nil => intro i t j; simp only [ofFrom, List.length_nil]; rw [if_neg (by omega)]
  | cons x xs ih =>
    intro i t j
    simp only [ofFrom, ih, get_set, List.length_cons]
    by_cases h : j = i
    · subst h; rw [if_neg (by omega), if_pos rfl, if_pos (by omega)]; simp
    · by_cases h2 : i ≤ j ∧ j < i + (xs.length + 1)
      · rw [if_pos h2, if_pos (by omega)]
        obtain ⟨d, rfl⟩ : ∃ d, j = i + 1 + d := ⟨j - i - 1, by omega⟩
        rw [show i + 1 + d - (i + 1) = d by omega, show i + 1 + d - i = d + 1 by omega]; simp
      · rw [if_neg h2, if_neg (by omega), if_neg h]
end PT

/-! ghost state -/
structure Ctx where
  N0 : Nat
  w0 : World
  top : Nat
  blk : Nat → Nat
  base : Nat → Nat
  bsz : Nat → Nat
  rho : Nat → Nat → Option Value
  oad : Nat → Addr
  raw : Nat → Option Obj
  marks : List Nat
  env : SEnv

/-- a value of one cell, as it lies there -/
def litV : AVal → Option Value
  | .bool b => some (.bool b)
  | .int k n => some (.int k n)
  | .str s => some (.string s)
  | _ => none

/-- one by one -/
inductive F2 {α β : Type} (R : α → β → Prop) : List α → List β → Prop where
  | nil : F2 R [] []
  | cons {a b l m} (h : R a b) (t : F2 R l m) : F2 R (a :: l) (b :: m)

theorem F2.imp {α β : Type} {R S : α → β → Prop} (h : ∀ a b, R a b → S a b) {l : List α} {m : List β} (k : F2 R l m) : F2 S l m := by
  induction k with
  | nil => exact .nil
  | cons h' _ ih => exact .cons (h _ _ h') ih

theorem F2.length {α β : Type} {R : α → β → Prop} {l : List α} {m : List β} (k : F2 R l m) : m.length = l.length := by
  induction k with
  | nil => rfl
  | cons _ _ ih => simp [ih]

theorem F2.get {α β : Type} {R : α → β → Prop} {l : List α} {m : List β} (k : F2 R l m) : ∀ (j : Nat) x v, l[j]? = some x → m[j]? = some v → R x v := by
  induction k with
  | nil => intro j x v h; simp at h
  | cons h _ ih =>
    intro j x v h1 h2
    cases j with
    | zero => simp at h1 h2; subst h1 h2; exact h
    | succ j => exact ih j x v (by simpa using h1) (by simpa using h2)

theorem F2.of_get {α β : Type} {R : α → β → Prop} : ∀ {l : List α} {m : List β}, m.length = l.length → (∀ (j : Nat) x v, l[j]? = some x → m[j]? = some v → R x v) → F2 R l m
  | [], [], _, _ => .nil
  | [], _ :: _, h, _ => by simp at h
  | _ :: _, [], h, _ => by simp at h
  | a :: l, b :: m, h, k => .cons (k 0 a b rfl rfl) (F2.of_get (by simpa using h) fun j x v h1 h2 => k (j + 1) x v (by simpa using h1) (by simpa using h2))

theorem F2.append {α β : Type} {R : α → β → Prop} {l l' : List α} {m m' : List β} (h : F2 R l m) (k : F2 R l' m') : F2 R (l ++ l') (m ++ m') := by
  induction h with
  | nil => exact k
  | cons h _ ih => exact .cons h ih

inductive VR (Γ : Ctx) : AVal → Value → Prop where
  | bool (b) : VR Γ (.bool b) (.bool b)
  | int (k n) : VR Γ (.int k n) (.int k n)
  | str (s) : VR Γ (.str s) (.string s)
  | pnil : VR Γ .pnil (.pointer none)
  | ptr {id off} (h : id < Γ.top) : VR Γ (.ptr id off) (.pointer (some ⟨Γ.blk id, Γ.base id + off, none⟩))
  | rop {cs : List AVal} {b o : Nat} (u : Nat → Value) (h1 : ∀ j, j < cs.length → Γ.rho b (o + j) = some (u j)) (h2 : ∀ j x, cs[j]? = some x → VR Γ x (u j)) :
      VR Γ (.rop cs) (.pointer (some ⟨b, o, none⟩))
  | glob (g) : VR Γ (.glob g) (.pointer (some ⟨g, 0, none⟩))
  | opq (n) : VR Γ (.opq n) (.pointer (some (Γ.oad n)))
  | nosNil : VR Γ (.nos true) (.slice none 0 0)
  | nosSome (a) : VR Γ (.nos false) (.slice (some a) 0 0)
  | slc {id off len sz cap} (h : id < Γ.top) (hc : len ≤ cap) (hf : Γ.base id + off + cap * sz ≤ Γ.bsz id) :
      VR Γ (.slc id off len sz) (.slice (some ⟨Γ.blk id, Γ.base id + off, none⟩) len cap)
  | slc0 {id off sz} (a) : VR Γ (.slc id off 0 sz) (.slice (some a) 0 0)
  | roNil : VR Γ (.ro true []) (.slice none 0 0)
  | ro {es : List (List AVal)} {a : Addr} {len cap sz : Nat} (u : Nat → Nat → Value) (hl : len = es.length) (hc : len ≤ cap) (hs : es ≠ [] → a.spot = none)
      (hz : ∀ (i : Nat) (r : List AVal), es[i]? = some r → r.length = sz)
      (h1 : ∀ i j, i < es.length → j < sz → Γ.rho a.block (a.off + i * sz + j) = some (u i j))
      (h2 : ∀ (i : Nat) (r : List AVal) (j : Nat) (x : AVal), es[i]? = some r → r[j]? = some x → VR Γ x (u i j)) : VR Γ (.ro false es) (.slice (some a) len cap)
  | mnil : VR Γ .mnil (.map none)
  | map {id} (h : id < Γ.top) : VR Γ (.map id) (.map (some (Γ.blk id)))
  | fnil : VR Γ .fnil .nilFunc
  | fn {f} {caps : List AVal} {vs : Array Value} (hl : vs.size = caps.length) (h : ∀ (j : Nat) x v, caps[j]? = some x → vs[j]? = some v → VR Γ x v) : VR Γ (.fn f caps) (.func (.func f) #[] vs)
  | inil : VR Γ .inil .nilIface
  | ifc {t x v} (h : VR Γ x v) : VR Γ (.ifc t x) (.iface t v)
  | agg {cs : List AVal} {vs : Array Value} (hl : vs.size = cs.length) (h : ∀ (j : Nat) x v, cs[j]? = some x → vs[j]? = some v → VR Γ x v) : VR Γ (.agg cs) (.agg vs)
  | tup {cs : List AVal} {vs : Array Value} (hl : vs.size = cs.length) (h : ∀ (j : Nat) x v, cs[j]? = some x → vs[j]? = some v → VR Γ x v) : VR Γ (.tup cs) (.tuple vs)
  | yld {id} (h : id < Γ.top) : VR Γ (.yld id) (.func (.yield (Γ.blk id)) #[] #[])
  | sym (l) : VR Γ (.sym l) (.int .i64 (IntKind.i64.wrap (l.eval Γ.env.v)))
  | arrNil {a} (h : Γ.env.rows a = []) : VR Γ (.arr a) (.slice none 0 0)
  | arr {a : Nat} {ad : Addr} {len cap sz : Nat} (hl : len = (Γ.env.rows a).length) (hc : len ≤ cap) (hs : Γ.env.rows a ≠ [] → ad.spot = none)
      (hz : ∀ (i : Nat) (r : List AVal), (Γ.env.rows a)[i]? = some r → r.length = sz)
      (h1 : ∀ (i : Nat) (r : List AVal) (j : Nat) (x : AVal), (Γ.env.rows a)[i]? = some r → r[j]? = some x → ∃ v, litV x = some v ∧ Γ.rho ad.block (ad.off + i * sz + j) = some v) :
      VR Γ (.arr a) (.slice (some ad) len cap)

/-- values, one by one -/
def VRs (Γ : Ctx) (xs : List AVal) (vs : List Value) : Prop := F2 (VR Γ) xs vs

structure Ext (Γ Γ' : Ctx) : Prop where
  N0 : Γ'.N0 = Γ.N0
  w0 : Γ'.w0 = Γ.w0
  oad : Γ'.oad = Γ.oad
  top : Γ.top ≤ Γ'.top
  blk : ∀ i, i < Γ.top → Γ'.blk i = Γ.blk i
  base : ∀ i, i < Γ.top → Γ'.base i = Γ.base i
  bsz : ∀ i, i < Γ.top → Γ'.bsz i = Γ.bsz i
  rho : ∀ b o v, Γ.rho b o = some v → Γ'.rho b o = some v
  raw : ∀ b ob, Γ.raw b = some ob → Γ'.raw b = some ob
  marks : Γ'.marks = Γ.marks
  env : Γ'.env = Γ.env

theorem Ext.refl (Γ : Ctx) : Ext Γ Γ := ⟨rfl, rfl, rfl, Nat.le_refl _, fun _ _ => rfl, fun _ _ => rfl, fun _ _ => rfl, fun _ _ _ h => h, fun _ _ h => h, rfl, rfl⟩
theorem Ext.trans {a b c : Ctx} (h : Ext a b) (k : Ext b c) : Ext a c :=
  ⟨k.N0.trans h.N0, k.w0.trans h.w0, k.oad.trans h.oad, Nat.le_trans h.top k.top,
    fun i hi => (k.blk i (Nat.lt_of_lt_of_le hi h.top)).trans (h.blk i hi),
    fun i hi => (k.base i (Nat.lt_of_lt_of_le hi h.top)).trans (h.base i hi),
    fun i hi => (k.bsz i (Nat.lt_of_lt_of_le hi h.top)).trans (h.bsz i hi),
    fun b o v hv => k.rho _ _ _ (h.rho _ _ _ hv), fun b o hv => k.raw _ _ (h.raw _ _ hv), k.marks.trans h.marks, k.env.trans h.env⟩

theorem VR.ext {Γ Γ' : Ctx} (e : Ext Γ Γ') {x : AVal} {v : Value} (h : VR Γ x v) : VR Γ' x v := by
  induction h with
  | bool b => exact .bool b
  | int k n => exact .int k n
  | str s => exact .str s
  | pnil => exact .pnil
  | ptr h => rw [← e.blk _ h, ← e.base _ h]; exact .ptr (Nat.lt_of_lt_of_le h e.top)
  | rop u h1 _ ih => exact .rop u (fun j hj => e.rho _ _ _ (h1 j hj)) ih
  | glob g => exact .glob g
  | opq n => rw [← e.oad]; exact .opq n
  | nosNil => exact .nosNil
  | nosSome a => exact .nosSome a
  | slc h hc hf =>
    rw [← e.base _ h, ← e.bsz _ h] at hf
    rw [← e.blk _ h, ← e.base _ h]
    exact .slc (Nat.lt_of_lt_of_le h e.top) hc hf
  | slc0 a => exact .slc0 a
  | roNil => exact .roNil
  | ro u hl hc hs hz h1 _ ih => exact .ro u hl hc hs hz (fun i j hi hj => e.rho _ _ _ (h1 i j hi hj)) ih
  | mnil => exact .mnil
  | map h => rw [← e.blk _ h]; exact .map (Nat.lt_of_lt_of_le h e.top)
  | fnil => exact .fnil
  | fn hl _ ih => exact .fn hl ih
  | inil => exact .inil
  | ifc _ ih => exact .ifc ih
  | agg hl _ ih => exact .agg hl ih
  | tup hl _ ih => exact .tup hl ih
  | yld h => rw [← e.blk _ h]; exact .yld (Nat.lt_of_lt_of_le h e.top)
  | sym l => rw [← e.env]; exact .sym l
  | arrNil h => exact .arrNil (by rw [e.env]; exact h)
  | arr hl hc hs hz h1 => exact .arr (by rw [e.env]; exact hl) hc (by rw [e.env]; exact hs) (by rw [e.env]; exact hz) (fun i r j x hr hx => by rw [e.env] at hr; obtain ⟨v, k1, k2⟩ := h1 i r j x hr hx; exact ⟨v, k1, e.rho _ _ _ k2⟩)

theorem VRs.ext {Γ Γ' : Ctx} (e : Ext Γ Γ') {xs : List AVal} {vs : List Value} (h : VRs Γ xs vs) : VRs Γ' xs vs := by
  unfold VRs at *
  induction h with
  | nil => exact .nil
  | cons h _ ih => exact .cons (h.ext e) ih

/-- cells of an array from a place on -/
def CellsR (Γ : Ctx) (cs : List AVal) (arr : Array Value) (o : Nat) : Prop :=
  o + cs.length ≤ arr.size ∧ ∀ j x, cs[j]? = some x → ∃ v, arr[o + j]? = some v ∧ VR Γ x v

/-- slots -/
def TR (Γ : Ctx) (T : PT AVal) (tmps : Array Value) : Prop := ∀ i x, T.get i = some x → ∃ v, tmps[i]? = some v ∧ VR Γ x v

theorem TR.ext {Γ Γ' : Ctx} (e : Ext Γ Γ') {T : PT AVal} {tmps : Array Value} (h : TR Γ T tmps) : TR Γ' T tmps :=
  fun i x hx => let ⟨v, hv, hr⟩ := h i x hx; ⟨v, hv, hr.ext e⟩

/-- the record of a range over a function -/
structure LR (Γ : Ctx) (l : ALoop) (r : Loop) : Prop where
  st : r.state = l.st
  pend : r.pending = l.pend
  ps : r.params.toList = l.ps
  asg : r.assign = l.asg
  body : r.body = l.body
  nt : l.nt ≤ r.tmps.size
  t : TR Γ l.T r.tmps

def OR (Γ : Ctx) (id : Nat) : AObj → World → Prop
  | .cells cs, w => ∃ arr T fz, w.heap[Γ.blk id]? = some (.cells arr T fz) ∧ (∀ o, o < arr.size → ¬ (fz.1 ≤ o ∧ o < fz.2)) ∧ arr.size = Γ.bsz id ∧ CellsR Γ cs arr (Γ.base id)
  | .map es, w => ∃ ent clk, w.heap[Γ.blk id]? = some (.map ent clk) ∧ F2 (fun (x : AVal × AVal) (e : MapEntry) => VR Γ x.1 e.key ∧ VR Γ x.2 e.val) es ent.toList ∧
      (∀ e ∈ ent, e.born < clk) ∧ (ent.toList.map (·.born)).Nodup
  | .loop l, w => ∃ r, w.heap[Γ.blk id]? = some (.loop r) ∧ LR Γ l r

structure WR (Γ : Ctx) (H : AH) (w : World) : Prop where
  below : Below Γ.N0 Γ.w0 w
  n0 : Γ.N0 ≤ w.heap.size
  top : H.n = Γ.top
  rho : ∀ b o v, Γ.rho b o = some v → w.cell? ⟨b, o, none⟩ = some v
  raw : ∀ b ob, Γ.raw b = some ob → w.heap[b]? = some ob
  rr : ∀ b ob, Γ.raw b = some ob → ∀ o, Γ.rho b o = none
  marksd : Γ.marks.Nodup
  marks : ∀ b, b ∈ Γ.marks → w.heap[b]? = some (.deferred (some [])) ∧ Γ.raw b = none ∧ Γ.N0 ≤ b
  old : ∀ id x, H.o.get id = some x → id < Γ.top
  own : ∀ id x, H.o.get id = some x → Γ.N0 ≤ Γ.blk id ∧ (∀ o, Γ.rho (Γ.blk id) o = none) ∧ Γ.raw (Γ.blk id) = none
  obj : ∀ id x, H.o.get id = some x → OR Γ id x w
  inj : ∀ i j x y, H.o.get i = some x → H.o.get j = some y → Γ.blk i = Γ.blk j → i = j

structure SR (Γ : Ctx) (s : St) (a : Act) (w : World) : Prop where
  t : ∀ i x, s.T.get i = some x → ∃ v, a.tmps[i]? = some v ∧ VR Γ x v
  nt : s.nt ≤ a.tmps.size
  d : a.defers = Γ.marks.map fun b => { target := .collected b, args := #[] }
  w : WR Γ s.H w

theorem CellsR.ext {Γ Γ' : Ctx} (e : Ext Γ Γ') {cs : List AVal} {arr : Array Value} {o : Nat} (h : CellsR Γ cs arr o) : CellsR Γ' cs arr o :=
  ⟨h.1, fun j x hx => let ⟨v, hv, hr⟩ := h.2 j x hx; ⟨v, hv, hr.ext e⟩⟩

theorem OR.ext {Γ Γ' : Ctx} (e : Ext Γ Γ') {id : Nat} (hid : id < Γ.top) {x : AObj} {w : World} (h : OR Γ id x w) : OR Γ' id x w := by
  cases x with
  | cells cs =>
    obtain ⟨arr, T, fz, h1, h2, h3, h4⟩ := h
    exact ⟨arr, T, fz, by rw [e.blk _ hid]; exact h1, h2, by rw [e.bsz _ hid]; exact h3, by rw [e.base _ hid]; exact h4.ext e⟩
  | map es =>
    obtain ⟨ent, clk, h1, h2, h3, h4⟩ := h
    exact ⟨ent, clk, by rw [e.blk _ hid]; exact h1, h2.imp (fun _ _ h => ⟨h.1.ext e, h.2.ext e⟩), h3, h4⟩
  | loop l =>
    obtain ⟨r, h1, h2⟩ := h
    exact ⟨r, by rw [e.blk _ hid]; exact h1, h2.st, h2.pend, h2.ps, h2.asg, h2.body, h2.nt, h2.t.ext e⟩

/-- an object reads the same where its block does -/
theorem OR.same {Γ : Ctx} {id : Nat} {x : AObj} {w w' : World} (h : OR Γ id x w) (hb : w'.heap[Γ.blk id]? = w.heap[Γ.blk id]?) : OR Γ id x w' := by
  cases x with
  | cells cs => obtain ⟨arr, T, fz, h1, h2⟩ := h; exact ⟨arr, T, fz, hb.trans h1, h2⟩
  | map es => obtain ⟨ent, clk, h1, h2⟩ := h; exact ⟨ent, clk, hb.trans h1, h2⟩
  | loop l => obtain ⟨r, h1, h2⟩ := h; exact ⟨r, hb.trans h1, h2⟩

theorem OR.lt {Γ : Ctx} {id : Nat} {x : AObj} {w : World} (h : OR Γ id x w) : Γ.blk id < w.heap.size := by
  cases x with
  | cells cs => obtain ⟨arr, T, fz, h1, _⟩ := h; exact (Array.getElem?_eq_some_iff.1 h1).1
  | map es => obtain ⟨ent, clk, h1, _⟩ := h; exact (Array.getElem?_eq_some_iff.1 h1).1
  | loop l => obtain ⟨r, h1, _⟩ := h; exact (Array.getElem?_eq_some_iff.1 h1).1

theorem OR.no_mark {Γ : Ctx} {id : Nat} {x : AObj} {w : World} (h : OR Γ id x w) {ds : Option (List Deferred)} (hd : w.heap[Γ.blk id]? = some (.deferred ds)) : False := by
  cases x with
  | cells cs => obtain ⟨arr, T, fz, h1, _⟩ := h; rw [hd] at h1; cases h1
  | map es => obtain ⟨ent, clk, h1, _⟩ := h; rw [hd] at h1; cases h1
  | loop l => obtain ⟨r, h1, _⟩ := h; rw [hd] at h1; cases h1

theorem WR.drew {Γ : Ctx} {H : AH} {w : World} (h : WR Γ H w) : WR Γ H { w with drawn := w.drawn + 1 } :=
  ⟨h.below.drew, h.n0, h.top, h.rho, h.raw, h.rr, h.marksd, h.marks, h.old, h.own, fun id x hx => (h.obj id x hx).same rfl, h.inj⟩

/-- a new name, for a block -/
def Ctx.push (Γ : Ctx) (b o z : Nat) : Ctx :=
  { Γ with top := Γ.top + 1, blk := fun i => if i = Γ.top then b else Γ.blk i, base := fun i => if i = Γ.top then o else Γ.base i, bsz := fun i => if i = Γ.top then z else Γ.bsz i }

theorem Ext.push (Γ : Ctx) (b o z : Nat) : Ext Γ (Γ.push b o z) :=
  ⟨rfl, rfl, rfl, Nat.le_succ _, fun i hi => by simp [Ctx.push]; omega, fun i hi => by simp [Ctx.push]; omega, fun i hi => by simp [Ctx.push]; omega, fun _ _ _ h => h, fun _ _ h => h, rfl, rfl⟩

theorem Ctx.push_blk (Γ : Ctx) (b o z : Nat) : (Γ.push b o z).blk Γ.top = b := by simp [Ctx.push]
theorem Ctx.push_base (Γ : Ctx) (b o z : Nat) : (Γ.push b o z).base Γ.top = o := by simp [Ctx.push]
theorem Ctx.push_bsz (Γ : Ctx) (b o z : Nat) : (Γ.push b o z).bsz Γ.top = z := by simp [Ctx.push]

/-- a new block -/
theorem WR.alloc {Γ : Ctx} {H : AH} {w : World} (h : WR Γ H w) {x : AObj} {ob : Obj} {o z : Nat}
    (hx : OR (Γ.push w.heap.size o z) Γ.top x (w.alloc ob)) : WR (Γ.push w.heap.size o z) (H.new x) (w.alloc ob) := by
  have e := Ext.push Γ w.heap.size o z
  have hrho : ∀ o', Γ.rho w.heap.size o' = none := by
    intro o'
    cases hr : Γ.rho w.heap.size o' with
    | none => rfl
    | some v => have := World.block_lt_of_cell? _ _ (h.rho _ _ _ hr); simp at this
  have hraw : Γ.raw w.heap.size = none := by
    cases hr : Γ.raw w.heap.size with
    | none => rfl
    | some v => have := (Array.getElem?_eq_some_iff.1 (h.raw _ _ hr)).1; omega
  refine ⟨(h.below.alloc h.n0 ob : Below Γ.N0 Γ.w0 _), by simp; exact Nat.le_succ_of_le h.n0, by simp [AH.new, h.top, Ctx.push], ?_, ?_, h.rr, h.marksd, ?_, ?_, ?_, ?_, ?_⟩
  · intro b o' v hv
    have := h.rho b o' v hv
    rw [World.cell?_alloc_lt]
    · exact this
    · exact World.block_lt_of_cell? _ _ this
  · intro b ob' hv
    have := h.raw b ob' hv
    exact (Below.heap_alloc _ _ _ (Array.getElem?_eq_some_iff.1 this).1).trans this
  · intro b hb
    obtain ⟨k1, k2, k3⟩ := h.marks b hb
    exact ⟨(Below.heap_alloc _ _ _ (Array.getElem?_eq_some_iff.1 k1).1).trans k1, k2, k3⟩
  · intro id y hy
    simp only [AH.new, PT.get_set, h.top] at hy
    show id < Γ.top + 1
    split at hy
    · omega
    · have := h.old id y hy; omega
  · intro id y hy
    simp only [AH.new, PT.get_set, h.top] at hy
    split at hy
    · subst id; rw [Ctx.push_blk]; exact ⟨h.n0, hrho, hraw⟩
    · have hl := h.old id y hy
      rw [e.blk _ hl]; exact h.own id y hy
  · intro id y hy
    simp only [AH.new, PT.get_set, h.top] at hy
    split at hy
    · subst id; cases hy; exact hx
    · have hl := h.old id y hy
      have ho := h.obj id y hy
      refine OR.ext e hl (ho.same ?_)
      exact Below.heap_alloc _ _ _ ho.lt
  · intro i j y z' hi hj hb
    simp only [AH.new, PT.get_set, h.top] at hi hj
    split at hi <;> split at hj
    · omega
    · subst i
      have hl := h.old j _ hj
      rw [Ctx.push_blk, e.blk _ hl] at hb
      have := (h.obj j _ hj).lt; omega
    · subst j
      have hl := h.old i _ hi
      rw [Ctx.push_blk, e.blk _ hl] at hb
      have := (h.obj i _ hi).lt; omega
    · have hl := h.old i _ hi
      have hl' := h.old j _ hj
      rw [e.blk _ hl, e.blk _ hl'] at hb
      exact h.inj i j _ _ hi hj hb

/-- a world that parts from another in one block alone -/
structure OneBlock (b : Nat) (w w' : World) : Prop where
  os : w'.os = w.os
  tape : w'.tape = w.tape
  output : w'.output = w.output
  size : w'.heap.size = w.heap.size
  block : ∀ k, k ≠ b → w'.heap[k]? = w.heap[k]?

theorem OneBlock.below {b N : Nat} {w0 w w' : World} (h : OneBlock b w w') (hb : N ≤ b) (k : Below N w0 w) : Below N w0 w' :=
  k.trans ⟨h.os, h.tape, h.output, Nat.le_of_eq h.size.symm, fun i hi => h.block i (by omega)⟩

/-- an object is written -/
theorem WR.write {Γ : Ctx} {H : AH} {w w' : World} (h : WR Γ H w) {id : Nat} {x y : AObj} (hid : H.o.get id = some x) (hw : OneBlock (Γ.blk id) w w')
    (hy : OR Γ id y w') : WR Γ ⟨H.o.set id y, H.n⟩ w' := by
  have hl := h.old id x hid
  refine ⟨hw.below (h.own id x hid).1 h.below, by rw [hw.size]; exact h.n0, h.top, ?_, ?_, h.rr, h.marksd, ?_, ?_, ?_, ?_, ?_⟩
  · intro b o v hv
    have hne : b ≠ Γ.blk id := fun e => by have := (h.own id x hid).2.1 o; rw [← e, hv] at this; cases this
    have := h.rho b o v hv
    simpa [World.cell?, hw.block b hne] using this
  · intro b ob hv
    have hne : b ≠ Γ.blk id := fun e => by have := (h.own id x hid).2.2; rw [← e, hv] at this; cases this
    exact (hw.block b hne).trans (h.raw b ob hv)
  · intro b hb
    obtain ⟨k1, k2, k3⟩ := h.marks b hb
    exact ⟨(hw.block b fun e => (h.obj id x hid).no_mark (e ▸ k1)).trans k1, k2, k3⟩
  · intro i z hz
    simp only [PT.get_set] at hz
    split at hz
    · omega
    · exact h.old i z hz
  · intro i z hz
    simp only [PT.get_set] at hz
    split at hz
    · subst i; exact h.own id x hid
    · exact h.own i z hz
  · intro i z hz
    simp only [PT.get_set] at hz
    split at hz
    · subst i; cases hz; exact hy
    · rename_i hne
      exact (h.obj i z hz).same (hw.block _ fun e => hne (h.inj i id _ _ hz hid e))
  · intro i j z z' hi hj hb
    simp only [PT.get_set] at hi hj
    split at hi <;> split at hj
    · omega
    · subst i; exact h.inj id j _ _ hid hj hb
    · subst j; exact h.inj i id _ _ hi hid hb
    · exact h.inj i j _ _ hi hj hb

/-- an object goes, another of its block takes its place under a new name -/
theorem WR.renew {Γ : Ctx} {H : AH} {w w' : World} (h : WR Γ H w) {id : Nat} {x y : AObj} {o z : Nat} (hid : H.o.get id = some x) (hw : OneBlock (Γ.blk id) w w')
    (hy : OR (Γ.push (Γ.blk id) o z) Γ.top y w') : WR (Γ.push (Γ.blk id) o z) ⟨(H.o.del id).set H.n y, H.n + 1⟩ w' := by
  have e := Ext.push Γ (Γ.blk id) o z
  have hl := h.old id x hid
  refine ⟨hw.below (h.own id x hid).1 h.below, by rw [hw.size]; exact h.n0, by simp [h.top, Ctx.push], ?_, ?_, h.rr, h.marksd, ?_, ?_, ?_, ?_, ?_⟩
  · intro b o v hv
    have hne : b ≠ Γ.blk id := fun e => by have := (h.own id x hid).2.1 o; rw [← e] at this; rw [show Γ.rho b o = some v from hv] at this; cases this
    have := h.rho b o v hv
    simpa [World.cell?, hw.block b hne] using this
  · intro b ob hv
    have hne : b ≠ Γ.blk id := fun e => by have := (h.own id x hid).2.2; rw [← e] at this; rw [show Γ.raw b = some ob from hv] at this; cases this
    exact (hw.block b hne).trans (h.raw b ob hv)
  · intro b hb
    obtain ⟨k1, k2, k3⟩ := h.marks b hb
    exact ⟨(hw.block b fun e => (h.obj id x hid).no_mark (e ▸ k1)).trans k1, k2, k3⟩
  · intro i z hz
    simp only [PT.get_set, PT.get_del, h.top] at hz
    show i < Γ.top + 1
    split at hz
    · omega
    · split at hz
      · cases hz
      · have := h.old i z hz; omega
  · intro i z hz
    simp only [PT.get_set, PT.get_del, h.top] at hz
    split at hz
    · subst i; rw [Ctx.push_blk]; exact h.own id x hid
    · split at hz
      · cases hz
      · rw [e.blk _ (h.old i z hz)]; exact h.own i z hz
  · intro i z hz
    simp only [PT.get_set, PT.get_del, h.top] at hz
    split at hz
    · subst i; cases hz; exact hy
    · split at hz
      · cases hz
      · rename_i hne
        exact OR.ext e (h.old i z hz) ((h.obj i z hz).same (hw.block _ fun e => hne (h.inj i id _ _ hz hid e)))
  · intro i j z z' hi hj hb
    simp only [PT.get_set, PT.get_del, h.top] at hi hj
    split at hi <;> split at hj
    · omega
    · subst i
      split at hj
      · cases hj
      · rename_i hne
        rw [Ctx.push_blk, e.blk _ (h.old j _ hj)] at hb
        exact absurd (h.inj id j _ _ hid hj hb).symm hne
    · subst j
      split at hi
      · cases hi
      · rename_i hne
        rw [Ctx.push_blk, e.blk _ (h.old i _ hi)] at hb
        exact absurd (h.inj i id _ _ hi hid hb) hne
    · split at hi <;> split at hj
      all_goals first | cases hi | cases hj | skip
      rw [e.blk _ (h.old i _ hi), e.blk _ (h.old j _ hj)] at hb
      exact h.inj i j _ _ hi hj hb

/-- an object goes; a new block takes its place -/
theorem WR.forget {Γ : Ctx} {H : AH} {w : World} (h : WR Γ H w) (id : Nat) : WR Γ ⟨H.o.del id, H.n⟩ w := by
  have k : ∀ i z, (H.o.del id).get i = some z → H.o.get i = some z := by
    intro i z hz
    simp only [PT.get_del] at hz
    split at hz
    · cases hz
    · exact hz
  exact ⟨h.below, h.n0, h.top, h.rho, h.raw, h.rr, h.marksd, h.marks, fun i z hz => h.old i z (k i z hz), fun i z hz => h.own i z (k i z hz), fun i z hz => h.obj i z (k i z hz),
    fun i j z z' hi hj => h.inj i j z z' (k i z hi) (k j z' hj)⟩

/-! marks: what a function's frame bears is hidden from what it calls -/
theorem VR.reraw {Γ : Ctx} (r : Nat → Option Obj) (m : List Nat) {x : AVal} {v : Value} (h : VR Γ x v) : VR { Γ with raw := r, marks := m } x v := by
  induction h with
  | bool b => exact .bool b
  | int k n => exact .int k n
  | str s => exact .str s
  | pnil => exact .pnil
  | ptr h => exact .ptr (Γ := { Γ with raw := r, marks := m }) h
  | rop u h1 _ ih => exact .rop u h1 ih
  | glob g => exact .glob g
  | opq n => exact .opq (Γ := { Γ with raw := r, marks := m }) n
  | nosNil => exact .nosNil
  | nosSome a => exact .nosSome a
  | slc h hc hf => exact .slc (Γ := { Γ with raw := r, marks := m }) h hc hf
  | slc0 a => exact .slc0 a
  | roNil => exact .roNil
  | ro u hl hc hs hz h1 _ ih => exact .ro u hl hc hs hz h1 ih
  | mnil => exact .mnil
  | map h => exact .map (Γ := { Γ with raw := r, marks := m }) h
  | fnil => exact .fnil
  | fn hl _ ih => exact .fn hl ih
  | inil => exact .inil
  | ifc _ ih => exact .ifc ih
  | agg hl _ ih => exact .agg hl ih
  | tup hl _ ih => exact .tup hl ih
  | yld h => exact .yld (Γ := { Γ with raw := r, marks := m }) h
  | sym l => exact .sym (Γ := { Γ with raw := r, marks := m }) l
  | arrNil h => exact .arrNil (Γ := { Γ with raw := r, marks := m }) h
  | arr hl hc hs hz h1 => exact .arr (Γ := { Γ with raw := r, marks := m }) hl hc hs hz h1

theorem OR.reraw {Γ : Ctx} (r : Nat → Option Obj) (m : List Nat) {id : Nat} {x : AObj} {w : World} (h : OR Γ id x w) : OR { Γ with raw := r, marks := m } id x w := by
  cases x with
  | cells cs =>
    obtain ⟨arr, T, fz, h1, h2, h3, h4⟩ := h
    exact ⟨arr, T, fz, h1, h2, h3, h4.1, fun j x hx => let ⟨v, hv, hr⟩ := h4.2 j x hx; ⟨v, hv, hr.reraw r m⟩⟩
  | map es =>
    obtain ⟨ent, clk, h1, h2, h3, h4⟩ := h
    exact ⟨ent, clk, h1, h2.imp (fun _ _ h => ⟨h.1.reraw r m, h.2.reraw r m⟩), h3, h4⟩
  | loop l =>
    obtain ⟨r', h1, h2⟩ := h
    exact ⟨r', h1, h2.st, h2.pend, h2.ps, h2.asg, h2.body, h2.nt, fun i x hx => let ⟨v, hv, hr⟩ := h2.t i x hx; ⟨v, hv, hr.reraw r m⟩⟩

def Ctx.hide (Γ : Ctx) : Ctx := { Γ with raw := fun b => if b ∈ Γ.marks then some (.deferred (some [])) else Γ.raw b, marks := [] }
def Ctx.unhide (Γ' Γ : Ctx) : Ctx := { Γ' with raw := fun b => if b ∈ Γ.marks then none else Γ'.raw b, marks := Γ.marks }

theorem WR.hide {Γ : Ctx} {H : AH} {w : World} (h : WR Γ H w) : WR Γ.hide H w := by
  have hrr : ∀ b ob, Γ.hide.raw b = some ob → ∀ o, Γ.hide.rho b o = none := by
    intro b ob hb o
    simp only [Ctx.hide] at hb
    show Γ.rho b o = none
    split at hb
    · rename_i hm
      cases hc : Γ.rho b o with
      | none => rfl
      | some v =>
        have := h.rho _ _ _ hc
        simp [World.cell?, (h.marks b hm).1] at this
    · exact h.rr b ob hb o
  refine ⟨h.below, h.n0, h.top, h.rho, ?_, hrr, .nil, (by intro b hb; cases hb), h.old, ?_, fun id x hx => (h.obj id x hx).reraw _ _, h.inj⟩
  · intro b ob hb
    simp only [Ctx.hide] at hb
    split at hb
    · rename_i hm; cases hb; exact (h.marks b hm).1
    · exact h.raw b ob hb
  · intro id x hx
    obtain ⟨h1, h2, h3⟩ := h.own id x hx
    refine ⟨h1, h2, ?_⟩
    show (if Γ.blk id ∈ Γ.marks then some (Obj.deferred (some [])) else Γ.raw (Γ.blk id)) = none
    rw [if_neg (fun hm => (h.obj id x hx).no_mark (h.marks _ hm).1)]; exact h3

theorem Ext.unhide {Γ Γ' : Ctx} {H : AH} {w : World} (hw : WR Γ H w) (he : Ext Γ.hide Γ') : Ext Γ (Γ'.unhide Γ) := by
  refine ⟨he.N0, he.w0, he.oad, he.top, he.blk, he.base, he.bsz, he.rho, ?_, rfl, he.env⟩
  intro b ob hb
  show (if b ∈ Γ.marks then none else Γ'.raw b) = some ob
  have hn : ¬ b ∈ Γ.marks := fun hm => by have := (hw.marks b hm).2.1; rw [hb] at this; cases this
  rw [if_neg hn]
  refine he.raw b ob ?_
  show (if b ∈ Γ.marks then some (Obj.deferred (some [])) else Γ.raw b) = some ob
  rw [if_neg hn]; exact hb

theorem WR.unhide {Γ Γ' : Ctx} {H H' : AH} {w w' : World} (hw : WR Γ H w) (he : Ext Γ.hide Γ') (h : WR Γ' H' w') : WR (Γ'.unhide Γ) H' w' := by
  have hrr : ∀ b ob, (Γ'.unhide Γ).raw b = some ob → ∀ o, (Γ'.unhide Γ).rho b o = none := by
    intro b ob hb o
    simp only [Ctx.unhide] at hb
    split at hb
    · cases hb
    · exact h.rr b ob hb o
  refine ⟨h.below, h.n0, h.top, h.rho, ?_, hrr, hw.marksd, ?_, h.old, ?_, fun id x hx => (h.obj id x hx).reraw _ _, h.inj⟩
  · intro b ob hb
    simp only [Ctx.unhide] at hb
    split at hb
    · cases hb
    · exact h.raw b ob hb
  · intro b hb
    have hb' : b ∈ Γ.marks := hb
    refine ⟨h.raw b _ (he.raw b _ ?_), ?_, ?_⟩
    · show (if b ∈ Γ.marks then some (Obj.deferred (some [])) else Γ.raw b) = _
      rw [if_pos hb']
    · show (if b ∈ Γ.marks then none else Γ'.raw b) = none
      rw [if_pos hb']
    · have := (hw.marks b hb').2.2
      show Γ'.N0 ≤ b
      rw [he.N0]; exact this
  · intro id x hx
    obtain ⟨h1, h2, h3⟩ := h.own id x hx
    refine ⟨h1, h2, ?_⟩
    show (if Γ'.blk id ∈ Γ.marks then none else Γ'.raw (Γ'.blk id)) = none
    split
    · rfl
    · exact h3

theorem F2.reraw {Γ : Ctx} (r : Nat → Option Obj) (m : List Nat) {xs : List AVal} {vs : List Value} (h : F2 (VR Γ) xs vs) : F2 (VR { Γ with raw := r, marks := m }) xs vs :=
  h.imp fun _ _ h => h.reraw r m

end Go.Pend

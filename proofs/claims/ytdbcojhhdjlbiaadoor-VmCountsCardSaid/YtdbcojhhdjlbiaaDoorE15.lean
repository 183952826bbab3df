/- Names given anew: a state is cut down to the slots and objects that live, these get new names. -/
import Derived.Test.YtdbcojhhdjlbiaaDoorE14
namespace Go.Pend
open Go.RowKit (Below)

/-- a name's place in a list of names -/
def idx (id : Nat) : List Nat → Option Nat
  | [] => none
  | x :: r => bif Nat.beq x id then some 0 else match idx id r with | some j => some (j + 1) | none => none

theorem idx_get {id : Nat} : ∀ {L : List Nat} {j : Nat}, idx id L = some j → L[j]? = some id
  | [], j, h => by cases h
  | x :: r, j, h => by
    simp only [idx] at h
    cases hb : Nat.beq x id with
    | true =>
      rw [hb] at h
      simp only [cond_true, Option.some.injEq] at h; subst h
      simpa using Nat.eq_of_beq_eq_true hb
    | false =>
      rw [hb] at h
      simp only [cond_false] at h
      split at h
      · rename_i k hk
        simp only [Option.some.injEq] at h; subst h
        simpa using idx_get hk
      · cases h

mutual
def AVal.ren (L : List Nat) : AVal → Option AVal
  | .ptr id off => match idx id L with | some j => some (.ptr j off) | none => none
  | .slc id off len sz => match idx id L with | some j => some (.slc j off len sz) | none => none
  | .map id => match idx id L with | some j => some (.map j) | none => none
  | .yld _ => none
  | .rop cs => match AVal.rens L cs with | some cs => some (.rop cs) | none => none
  | .ro b es => match AVal.renss L es with | some es => some (.ro b es) | none => none
  | .fn f cs => match AVal.rens L cs with | some cs => some (.fn f cs) | none => none
  | .ifc t v => match AVal.ren L v with | some v => some (.ifc t v) | none => none
  | .agg cs => match AVal.rens L cs with | some cs => some (.agg cs) | none => none
  | .tup cs => match AVal.rens L cs with | some cs => some (.tup cs) | none => none
  | x => some x
def AVal.rens (L : List Nat) : List AVal → Option (List AVal)
  | [] => some []
  | x :: r => match AVal.ren L x, AVal.rens L r with | some x, some r => some (x :: r) | _, _ => none
def AVal.renss (L : List Nat) : List (List AVal) → Option (List (List AVal))
  | [] => some []
  | x :: r => match AVal.rens L x, AVal.renss L r with | some x, some r => some (x :: r) | _, _ => none
end

theorem rens_get {L : List Nat} : ∀ {l l' : List AVal}, AVal.rens L l = some l' → l'.length = l.length ∧ ∀ (j : Nat) x', l'[j]? = some x' → ∃ x, l[j]? = some x ∧ x.ren L = some x'
  | [], l', h => by simp only [AVal.rens, Option.some.injEq] at h; subst h; simp
  | y :: l, l', h => by
    simp only [AVal.rens] at h
    split at h
    · rename_i y' r' h1 h2
      simp only [Option.some.injEq] at h; subst h
      obtain ⟨k1, k2⟩ := rens_get h2
      refine ⟨by simp [k1], fun j x' hx => ?_⟩
      cases j with
      | zero => simp at hx; subst hx; exact ⟨y, by simp, h1⟩
      | succ j => simpa using k2 j x' (by simpa using hx)
    · cases h

theorem renss_get {L : List Nat} : ∀ {l l' : List (List AVal)}, AVal.renss L l = some l' → l'.length = l.length ∧ ∀ (j : Nat) x', l'[j]? = some x' → ∃ x, l[j]? = some x ∧ AVal.rens L x = some x'
  | [], l', h => by simp only [AVal.renss, Option.some.injEq] at h; subst h; simp
  | y :: l, l', h => by
    simp only [AVal.renss] at h
    split at h
    · rename_i y' r' h1 h2
      simp only [Option.some.injEq] at h; subst h
      obtain ⟨k1, k2⟩ := renss_get h2
      refine ⟨by simp [k1], fun j x' hx => ?_⟩
      cases j with
      | zero => simp at hx; subst hx; exact ⟨y, by simp, h1⟩
      | succ j => simpa using k2 j x' (by simpa using hx)
    · cases h

def Ctx.ren (Γ : Ctx) (L : List Nat) : Ctx :=
  { Γ with raw := Γ.raw, top := L.length, blk := fun j => Γ.blk (L.getD j 0), base := fun j => Γ.base (L.getD j 0), bsz := fun j => Γ.bsz (L.getD j 0) }

theorem idx_lt {id : Nat} {L : List Nat} {j : Nat} (h : idx id L = some j) : j < L.length := (List.getElem?_eq_some_iff.1 (idx_get h)).1
theorem idx_getD {id : Nat} {L : List Nat} {j : Nat} (h : idx id L = some j) : L.getD j 0 = id := by
  rw [List.getD_eq_getElem?_getD, idx_get h]; rfl

theorem VR.ren {Γ : Ctx} {L : List Nat} {x : AVal} {v : Value} (h : VR Γ x v) : ∀ {x'}, x.ren L = some x' → VR (Γ.ren L) x' v := by
  induction h with
  | bool b => intro x' hx; simp only [AVal.ren, Option.some.injEq] at hx; subst hx; exact .bool b
  | int k n => intro x' hx; simp only [AVal.ren, Option.some.injEq] at hx; subst hx; exact .int k n
  | str s => intro x' hx; simp only [AVal.ren, Option.some.injEq] at hx; subst hx; exact .str s
  | pnil => intro x' hx; simp only [AVal.ren, Option.some.injEq] at hx; subst hx; exact .pnil
  | @ptr id off h =>
    intro x' hx
    simp only [AVal.ren] at hx
    split at hx
    · rename_i j hj
      cases hx
      have := VR.ptr (Γ := Γ.ren L) (id := j) (off := off) (idx_lt hj)
      simp only [Ctx.ren, idx_getD hj] at this
      exact this
    · cases hx
  | rop u h1 _ ih =>
    intro x' hx
    simp only [AVal.ren] at hx
    split at hx
    · rename_i cs' hcs
      cases hx
      obtain ⟨k1, k2⟩ := rens_get hcs
      exact .rop u (fun j hj => h1 j (by omega)) fun j x hx => let ⟨y, hy, hr⟩ := k2 j x hx; ih j y hy hr
    · cases hx
  | glob g => intro x' hx; simp only [AVal.ren, Option.some.injEq] at hx; subst hx; exact .glob g
  | opq n => intro x' hx; simp only [AVal.ren, Option.some.injEq] at hx; subst hx; exact .opq (Γ := Γ.ren L) n
  | nosNil => intro x' hx; simp only [AVal.ren, Option.some.injEq] at hx; subst hx; exact .nosNil
  | nosSome a => intro x' hx; simp only [AVal.ren, Option.some.injEq] at hx; subst hx; exact .nosSome a
  | slc h hc hf =>
    intro x' hx
    simp only [AVal.ren] at hx
    split at hx
    · rename_i j hj
      cases hx
      have := VR.slc (Γ := Γ.ren L) (id := j) (idx_lt hj) hc (by simp only [Ctx.ren, idx_getD hj]; exact hf)
      simp only [Ctx.ren, idx_getD hj] at this
      exact this
    · cases hx
  | slc0 a =>
    intro x' hx
    simp only [AVal.ren] at hx
    split at hx
    · cases hx; exact .slc0 a
    · cases hx
  | roNil => intro x' hx; simp only [AVal.ren, AVal.renss, Option.some.injEq] at hx; subst hx; exact .roNil
  | ro u hl hc hs hz h1 _ ih =>
    intro x' hx
    simp only [AVal.ren] at hx
    split at hx
    · rename_i es' hes
      cases hx
      obtain ⟨k1, k2⟩ := renss_get hes
      refine .ro u (by omega) hc (fun hne => hs fun e => hne ?_) ?_ (fun i j hi hj => h1 i j (by omega) hj) ?_
      · rw [e] at k1; exact List.eq_nil_of_length_eq_zero k1
      · intro i r' hr'
        obtain ⟨r, hr, q⟩ := k2 i r' hr'
        rw [(rens_get q).1]; exact hz i r hr
      · intro i r' j x' hr' hx'
        obtain ⟨r, hr, q⟩ := k2 i r' hr'
        obtain ⟨y, hy, q'⟩ := (rens_get q).2 j x' hx'
        exact ih i r j y hr hy q'
    · cases hx
  | mnil => intro x' hx; simp only [AVal.ren, Option.some.injEq] at hx; subst hx; exact .mnil
  | map h =>
    intro x' hx
    simp only [AVal.ren] at hx
    split at hx
    · rename_i j hj
      cases hx
      have := VR.map (Γ := Γ.ren L) (id := j) (idx_lt hj)
      simp only [Ctx.ren, idx_getD hj] at this
      exact this
    · cases hx
  | fnil => intro x' hx; simp only [AVal.ren, Option.some.injEq] at hx; subst hx; exact .fnil
  | fn hl _ ih =>
    intro x' hx
    simp only [AVal.ren] at hx
    split at hx
    · rename_i cs' hcs
      cases hx
      obtain ⟨k1, k2⟩ := rens_get hcs
      exact .fn (by omega) fun j x v hx hv => let ⟨y, hy, hr⟩ := k2 j x hx; ih j y v hy hv hr
    · cases hx
  | inil => intro x' hx; simp only [AVal.ren, Option.some.injEq] at hx; subst hx; exact .inil
  | ifc _ ih =>
    intro x' hx
    simp only [AVal.ren] at hx
    split at hx
    · rename_i y hy
      cases hx; exact .ifc (ih hy)
    · cases hx
  | agg hl _ ih =>
    intro x' hx
    simp only [AVal.ren] at hx
    split at hx
    · rename_i cs' hcs
      cases hx
      obtain ⟨k1, k2⟩ := rens_get hcs
      exact .agg (by omega) fun j x v hx hv => let ⟨y, hy, hr⟩ := k2 j x hx; ih j y v hy hv hr
    · cases hx
  | tup hl _ ih =>
    intro x' hx
    simp only [AVal.ren] at hx
    split at hx
    · rename_i cs' hcs
      cases hx
      obtain ⟨k1, k2⟩ := rens_get hcs
      exact .tup (by omega) fun j x v hx hv => let ⟨y, hy, hr⟩ := k2 j x hx; ih j y v hy hv hr
    · cases hx
  | yld h => intro x' hx; cases hx
  | sym l => intro x' hx; simp only [AVal.ren, Option.some.injEq] at hx; subst hx; exact .sym (Γ := Γ.ren L) l
  | arrNil h => intro x' hx; simp only [AVal.ren, Option.some.injEq] at hx; subst hx; exact .arrNil (Γ := Γ.ren L) h
  | arr hl hc hs hz h1 => intro x' hx; simp only [AVal.ren, Option.some.injEq] at hx; subst hx; exact .arr (Γ := Γ.ren L) hl hc hs hz h1

def renPairs (L : List Nat) : List (AVal × AVal) → Option (List (AVal × AVal))
  | [] => some []
  | (k, v) :: r => match k.ren L, v.ren L, renPairs L r with | some k, some v, some r => some ((k, v) :: r) | _, _, _ => none

theorem renPairs_f2 {Γ : Ctx} {L : List Nat} : ∀ {l l' : List (AVal × AVal)} {es : List MapEntry}, renPairs L l = some l' → F2 (fun (x : AVal × AVal) (e : MapEntry) => VR Γ x.1 e.key ∧ VR Γ x.2 e.val) l es →
    F2 (fun (x : AVal × AVal) (e : MapEntry) => VR (Γ.ren L) x.1 e.key ∧ VR (Γ.ren L) x.2 e.val) l' es
  | [], l', es, h, hf => by simp only [renPairs, Option.some.injEq] at h; subst h; cases hf; exact .nil
  | (k, v) :: r, l', es, h, hf => by
    simp only [renPairs] at h
    split at h
    · rename_i k' v' r' h1 h2 h3
      simp only [Option.some.injEq] at h; subst h
      cases hf with
      | cons hh ht => exact .cons ⟨hh.1.ren h1, hh.2.ren h2⟩ (renPairs_f2 h3 ht)
    · cases h

def AObj.ren (L : List Nat) : AObj → Option AObj
  | .cells cs => match AVal.rens L cs with | some cs => some (.cells cs) | none => none
  | .map es => match renPairs L es with | some es => some (.map es) | none => none
  | .loop _ => none

theorem OR.ren {Γ : Ctx} {L : List Nat} {j : Nat} {x x' : AObj} {w : World} (h : OR Γ (L.getD j 0) x w) (hx : x.ren L = some x') : OR (Γ.ren L) j x' w := by
  cases x with
  | cells cs =>
    simp only [AObj.ren] at hx
    split at hx
    · rename_i cs' hcs
      cases hx
      obtain ⟨k1, k2⟩ := rens_get hcs
      obtain ⟨arr, T, fz, h1, h2, h3, h4⟩ := h
      refine ⟨arr, T, fz, h1, h2, h3, by have := h4.1; simp only [Ctx.ren]; omega, fun i x hx => ?_⟩
      obtain ⟨y, hy, hr⟩ := k2 i x hx
      obtain ⟨v, hv, hvr⟩ := h4.2 i y hy
      exact ⟨v, hv, hvr.ren hr⟩
    · cases hx
  | map es =>
    simp only [AObj.ren] at hx
    split at hx
    · rename_i es' hes
      cases hx
      obtain ⟨ent, clk, h1, h2, h3, h4⟩ := h
      exact ⟨ent, clk, h1, renPairs_f2 hes h2, h3, h4⟩
    · cases hx
  | loop l => cases hx

/-- 's'' is 's' with less known, its names given anew: 'L' has the old ones -/
structure Ren (L : List Nat) (s s' : St) : Prop where
  T : ∀ i x', s'.T.get i = some x' → ∃ x, s.T.get i = some x ∧ x.ren L = some x'
  H : ∀ j x', s'.H.o.get j = some x' → j < L.length ∧ ∃ x, s.H.o.get (L.getD j 0) = some x ∧ x.ren L = some x'
  top : s'.H.n = L.length
  nd : L.Nodup
  nt : s'.nt ≤ s.nt

theorem WR.ren {Γ : Ctx} {H H' : AH} {w : World} {L : List Nat} (h : WR Γ H w) (hH : ∀ j x', H'.o.get j = some x' → j < L.length ∧ ∃ x, H.o.get (L.getD j 0) = some x ∧ x.ren L = some x') (hn : H'.n = L.length) (hd : L.Nodup) :
    WR (Γ.ren L) H' w := by
  refine ⟨h.below, h.n0, hn, h.rho, h.raw, h.rr, h.marksd, h.marks, fun j x' hx => (hH j x' hx).1, ?_, ?_, ?_⟩
  · intro j x' hx
    obtain ⟨_, x, h1, _⟩ := hH j x' hx
    exact h.own _ x h1
  · intro j x' hx
    obtain ⟨_, x, h1, h2⟩ := hH j x' hx
    exact (h.obj _ x h1).ren h2
  · intro i j x y hx hy hb
    obtain ⟨hi, x1, h1, _⟩ := hH i x hx
    obtain ⟨hj, y1, h2, _⟩ := hH j y hy
    have := h.inj _ _ _ _ h1 h2 hb
    simp only [List.getD_eq_getElem?_getD, List.getElem?_eq_getElem hi, List.getElem?_eq_getElem hj, Option.getD_some] at this
    exact (List.getElem_inj hd).1 this

theorem SR.ren {Γ : Ctx} {s s' : St} {a : Act} {w : World} {L : List Nat} (h : SR Γ s a w) (hl : Ren L s s') : SR (Γ.ren L) s' a w :=
  ⟨fun i x' hx => let ⟨x, h1, h2⟩ := hl.T i x' hx; let ⟨v, h3, h4⟩ := h.t i x h1; ⟨v, h3, h4.ren h2⟩, Nat.le_trans hl.nt h.nt, h.d, h.w.ren hl.H hl.top hl.nd⟩

/-- the first names stay -/
def Keeps (m : Nat) (L : List Nat) : Prop := m ≤ L.length ∧ ∀ j, j < m → L.getD j 0 = j

theorem ExtK.ren {m : Nat} {L : List Nat} {Γ Γ' : Ctx} (h : ExtK m Γ Γ') (hm : Keeps m L) : ExtK m Γ (Γ'.ren L) :=
  ⟨h.N0, h.w0, h.oad, hm.1, fun i hi => by show Γ'.blk (L.getD i 0) = _; rw [hm.2 i hi]; exact h.blk i hi, fun i hi => by show Γ'.base (L.getD i 0) = _; rw [hm.2 i hi]; exact h.base i hi,
    fun i hi => by show Γ'.bsz (L.getD i 0) = _; rw [hm.2 i hi]; exact h.bsz i hi, h.rho, h.raw, h.env⟩

inductive OutRen (L : List Nat) : Out → Out → Prop where
  | next {s s'} (h : Ren L s s') : OutRen L (.next s) (.next s')
  | exit {i s s'} (h : Ren L s s') : OutRen L (.exit i s) (.exit i s')
  | ret {s s'} (h : Ren L s s') : OutRen L (.ret s) (.ret s')

theorem OutK.ren {m : Nat} {L : List Nat} {Γ : Ctx} {out out' : Out} {e : Exit} {a : Act} {w : World} (h : OutK m Γ out e a w) (hm : Keeps m L) (hl : OutRen L out out') : OutK m Γ out' e a w := by
  obtain ⟨Γ', h1, h2⟩ := h
  refine ⟨Γ'.ren L, h1.ren hm, ?_⟩
  cases hl with
  | next hl => cases e <;> first | exact h2.elim | exact SR.ren h2 hl
  | exit hl => cases e <;> first | exact h2.elim | exact ⟨h2.1, SR.ren h2.2 hl⟩
  | ret hl => cases e <;> first | exact h2.elim | exact SR.ren h2 hl

def pickT (t : PT AVal) (L : List Nat) : List Nat → Option (PT AVal)
  | [] => some .leaf
  | k :: ks => match t.get k with
    | some x => match x.ren L, pickT t L ks with | some x, some r => some (r.set k x) | _, _ => none
    | none => pickT t L ks

theorem pickT_get {t : PT AVal} {L : List Nat} : ∀ {ks : List Nat} {t' : PT AVal} {i : Nat} {x' : AVal}, pickT t L ks = some t' → t'.get i = some x' → ∃ x, t.get i = some x ∧ x.ren L = some x'
  | [], t', i, x', h, hx => by simp only [pickT, Option.some.injEq] at h; subst h; simp [PT.get_leaf] at hx
  | k :: ks, t', i, x', h, hx => by
    simp only [pickT] at h
    split at h
    · rename_i y hy
      split at h
      · rename_i y' r h1 h2
        simp only [Option.some.injEq] at h; subst h
        simp only [PT.get_set] at hx
        split at hx
        · subst i; cases hx; exact ⟨y, hy, h1⟩
        · exact pickT_get h2 hx
      · cases h
    · exact pickT_get h hx

def pickH (o : PT AObj) (L : List Nat) : Nat → List Nat → Option (PT AObj)
  | _, [] => some .leaf
  | j, id :: r => match o.get id with
    | some x => match x.ren L, pickH o L (j + 1) r with | some x, some r => some (r.set j x) | _, _ => none
    | none => pickH o L (j + 1) r

theorem pickH_get {o : PT AObj} {L : List Nat} : ∀ {r : List Nat} {j : Nat} {o' : PT AObj} {i : Nat} {x' : AObj}, pickH o L j r = some o' → o'.get i = some x' →
    j ≤ i ∧ ∃ id x, r[i - j]? = some id ∧ o.get id = some x ∧ x.ren L = some x'
  | [], j, o', i, x', h, hx => by simp only [pickH, Option.some.injEq] at h; subst h; simp [PT.get_leaf] at hx
  | id :: r, j, o', i, x', h, hx => by
    have tail : ∀ {o'' : PT AObj}, pickH o L (j + 1) r = some o'' → o''.get i = some x' → j ≤ i ∧ ∃ id' x, (id :: r)[i - j]? = some id' ∧ o.get id' = some x ∧ x.ren L = some x' := by
      intro o'' h2 hx2
      obtain ⟨k1, id', x, k2, k3⟩ := pickH_get h2 hx2
      refine ⟨by omega, id', x, ?_, k3⟩
      rw [show i - j = (i - (j + 1)) + 1 by omega]
      simpa using k2
    simp only [pickH] at h
    split at h
    · rename_i y hy
      split at h
      · rename_i y' r' h1 h2
        simp only [Option.some.injEq] at h; subst h
        simp only [PT.get_set] at hx
        split at hx
        · subst i; cases hx; exact ⟨Nat.le_refl _, id, y, by simp, hy, h1⟩
        · exact tail h2 hx
      · cases h
    · exact tail h hx

def ndB : List Nat → Bool
  | [] => true
  | x :: r => (r.all fun y => !Nat.beq x y) && ndB r

theorem ndB_spec : ∀ {L : List Nat}, ndB L = true → L.Nodup
  | [], _ => .nil
  | x :: r, h => by
    simp only [ndB, Bool.and_eq_true] at h
    refine List.nodup_cons.2 ⟨fun hm => ?_, ndB_spec h.2⟩
    have := List.all_eq_true.1 h.1 x hm
    simp at this

/-- the slots and objects that are named, and no others -/
def St.cut (ks L : List Nat) (s : St) : Option St :=
  bif ndB L then match pickT s.T L ks, pickH s.H.o L 0 L with
    | some T, some o => some ⟨T, ⟨o, L.length⟩, s.nt⟩
    | _, _ => none
  else none

theorem cut_ren {ks L : List Nat} {s s' : St} (h : s.cut ks L = some s') : Ren L s s' := by
  unfold St.cut at h
  cases hc : ndB L with
  | false => rw [hc] at h; cases h
  | true =>
    rw [hc] at h
    simp only [cond_true] at h
    split at h
    · rename_i T o h1 h2
      simp only [Option.some.injEq] at h; subst h
      refine ⟨fun i x' hx => pickT_get h1 hx, fun j x' hx => ?_, rfl, ndB_spec hc, Nat.le_refl _⟩
      obtain ⟨_, id, x, k2, k3, k4⟩ := pickH_get h2 hx
      simp only [Nat.sub_zero] at k2
      refine ⟨(List.getElem?_eq_some_iff.1 k2).1, x, ?_, k4⟩
      rw [List.getD_eq_getElem?_getD, k2]; exact k3
    · cases h

def Out.cut (ks L : List Nat) : Out → Option Out
  | .next s => match s.cut ks L with | some s => some (.next s) | none => none
  | .exit i s => match s.cut ks L with | some s => some (.exit i s) | none => none
  | .ret s => match s.cut ks L with | some s => some (.ret s) | none => none

theorem out_cut_ren {ks L : List Nat} {o o' : Out} (h : o.cut ks L = some o') : OutRen L o o' := by
  cases o <;> simp only [Out.cut] at h <;> split at h <;> cases h
  · exact .next (cut_ren (by assumption))
  · exact .exit (cut_ren (by assumption))
  · exact .ret (cut_ren (by assumption))

def keepsB : Nat → Nat → List Nat → Bool
  | 0, _, _ => true
  | m + 1, j, x :: r => Nat.beq x j && keepsB m (j + 1) r
  | _ + 1, _, [] => false

theorem keepsB_spec : ∀ {m j : Nat} {L : List Nat}, keepsB m j L = true → m ≤ L.length ∧ ∀ i, i < m → L.getD i 0 = j + i
  | 0, j, L, _ => ⟨Nat.zero_le _, fun i hi => by omega⟩
  | m + 1, j, [], h => by cases h
  | m + 1, j, x :: r, h => by
    simp only [keepsB, Bool.and_eq_true] at h
    obtain ⟨k1, k2⟩ := keepsB_spec h.2
    refine ⟨by simp; omega, fun i hi => ?_⟩
    cases i with
    | zero => simpa using Nat.eq_of_beq_eq_true h.1
    | succ i =>
      have := k2 i (by omega)
      simp only [List.getD_cons_succ, this]; omega

theorem keeps_of {m : Nat} {L : List Nat} (h : keepsB m 0 L = true) : Keeps m L := by
  obtain ⟨k1, k2⟩ := keepsB_spec h
  exact ⟨k1, fun j hj => by rw [k2 j hj]; omega⟩

section
variable {P : Program} {E : Env}

theorem ACodeK.ren {rd : Bool} {m : Nat} {c : Code} {s : St} {R R' : Out → Prop} (h : ACodeK P E rd m c s R) (hr : ∀ o, R o → ∃ L o', Keeps m L ∧ OutRen L o o' ∧ R' o') : ACodeK P E rd m c s R' :=
  fun F Γ a w hF hG hs => wpIn_mono (h F Γ a w hF hG hs) fun _ _ _ ⟨o, h1, h2⟩ => let ⟨L, o', h3, h4, h5⟩ := hr o h1; ⟨o', h5, h2.ren h3 h4⟩

/-- a state may be cut down ahead of code -/
theorem ACodeK.from {rd : Bool} {m : Nat} {c : Code} {s s' : St} {R : Out → Prop} {L : List Nat} (h : ACodeK P E rd m c s' R) (hL : Ren L s s') (hk : Keeps m L) (hm : m ≤ s.H.n) : ACodeK P E rd m c s R := by
  intro F Γ a w hF hG hs
  have he : ExtK m Γ (Γ.ren L) := (ExtK.refl (hs.w.top ▸ hm)).ren hk
  exact wpIn_mono (h F (Γ.ren L) a w hF (hG.extK he) (hs.ren hL)) fun e a w ⟨o, h1, h2⟩ => ⟨o, h1, h2.ext he⟩

/-- a piece of code by reckoning, cut down -/
def runCut (E : Env) (k : Nat) (rd : Bool) (c : Code) (s : St) (m : Nat) (ks L : List Nat) : Option Out :=
  match exec E k rd c s with
  | some o => bif Nat.ble m s.H.n && keepsB m 0 L then o.cut ks L else none
  | none => none

theorem ProgOK.runCut (h : ProgOK P E) {k : Nat} {rd : Bool} {m : Nat} {c : Code} {s : St} {ks L : List Nat} {out : Out} {R : Out → Prop} (he : runCut E k rd c s m ks L = some out) (hR : R out) : ACodeK P E rd m c s R := by
  unfold Go.Pend.runCut at he
  split at he
  · rename_i o ho
    cases hb : (Nat.ble m s.H.n && keepsB m 0 L) with
    | false => rw [hb] at he; cases he
    | true =>
      rw [hb] at he
      rw [Bool.and_eq_true] at hb
      simp only [cond_true] at he
      exact ((h.code ho).toK (Nat.le_of_ble_eq_true hb.1)).ren fun _ e => ⟨L, out, keeps_of hb.2, by subst e; exact out_cut_ren he, hR⟩
  · cases he

/-- a call by reckoning, cut down -/
def callCut (E : Env) (k f : Nat) (args : List AVal) (H : AH) (L : List Nat) : Option (AVal × AH) :=
  match callA E (exec E k) false f args H with
  | some (v, H') => bif keepsB H.n 0 L then match v.ren L, (⟨.leaf, H', 0⟩ : St).cut [] L with | some v, some s => some (v, s.H) | _, _ => none else none
  | none => none

theorem ACalls.ren {f : Nat} {args : List AVal} {H : AH} {R R' : AVal → AH → Prop} (h : ACalls P E f args H R)
    (hr : ∀ v K, R v K → ∃ L v' K' T T' nt, Keeps H.n L ∧ v.ren L = some v' ∧ Ren L ⟨T, K, nt⟩ ⟨T', K', nt⟩ ∧ R' v' K') : ACalls P E f args H R' := by
  intro Γ vs w hG hargs hw
  refine (h Γ vs w hG hargs hw).mono ?_
  rintro e w' ⟨Γ', v, v', H', rfl, q1, q2, q3, q4⟩
  obtain ⟨L, x', K', T, T', nt, k1, k2, k3, k4⟩ := hr _ _ q1
  refine ⟨Γ'.ren L, _, v', _, rfl, k4, ?_, q3.ren k2, q4.ren k3.H k3.top k3.nd⟩
  rw [hw.top] at k1
  exact ⟨q2.N0, q2.w0, q2.oad, k1.1, fun i hi => by show Γ'.blk (L.getD i 0) = _; rw [k1.2 i hi]; exact q2.blk i hi, fun i hi => by show Γ'.base (L.getD i 0) = _; rw [k1.2 i hi]; exact q2.base i hi,
    fun i hi => by show Γ'.bsz (L.getD i 0) = _; rw [k1.2 i hi]; exact q2.bsz i hi, q2.rho, q2.raw, q2.marks, q2.env⟩

theorem ProgOK.callCut (h : ProgOK P E) {k f : Nat} {args : List AVal} {H : AH} {L : List Nat} {v : AVal} {H' : AH} (he : callCut E k f args H L = some (v, H')) :
    Entered P f ∧ ACalls P E f args H fun x K => x = v ∧ K = H' := by
  unfold Go.Pend.callCut at he
  split at he
  · rename_i v0 H0 h0
    obtain ⟨h1, h2⟩ := h.call h0
    refine ⟨h1, ?_⟩
    cases hb : keepsB H.n 0 L with
    | false => rw [hb] at he; cases he
    | true =>
      rw [hb] at he
      simp only [cond_true] at he
      split at he
      · rename_i v1 s hv hs
        simp only [Option.some.injEq, Prod.mk.injEq] at he; obtain ⟨rfl, rfl⟩ := he
        refine h2.ren ?_
        rintro _ _ ⟨rfl, rfl⟩
        have hr := cut_ren hs
        exact ⟨L, _, s.H, .leaf, s.T, 0, keeps_of hb, hv, ⟨hr.T, hr.H, hr.top, hr.nd, Nat.le_refl _⟩, rfl, rfl⟩
      · cases he
  · cases he

end
end Go.Pend

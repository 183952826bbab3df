/- Code that ranges over maps, by reckoning: every order is gone through; a function of which each gives the same. -/
import Derived.Test.YtdbcojhhdjlbiaaDoorE18
namespace Go.Pend
open Go.RowKit (Below)

/-- the last of a list, what is ahead of it -/
def unsnoc {α : Type} : List α → Option (List α × α)
  | [] => none
  | [x] => some ([], x)
  | x :: r => match unsnoc r with | some (l, y) => some (x :: l, y) | none => none

theorem unsnoc_eq {α : Type} : ∀ {l : List α} {p : List α × α}, unsnoc l = some p → l = p.1 ++ [p.2]
  | [], p, h => by cases h
  | [x], p, h => by simp only [unsnoc, Option.some.injEq] at h; subst h; rfl
  | x :: y :: r, p, h => by
    simp only [unsnoc] at h
    split at h
    · rename_i l z hz
      simp only [Option.some.injEq] at h; subst h
      simp [unsnoc_eq hz]
    · cases h

/-- one entry of those that are left, the i-th ones -/
def someA (step : AVal × AVal → St → Option Out) (nxt out : Nat) (more : List (AVal × AVal) → St → Option (List Out)) (rem : List (AVal × AVal)) (s : St) : Nat → Option (List Out)
  | 0 => some []
  | i + 1 => match rem[i]? with
    | some e => match (match step e s with
        | some (.next s') => more (rem.eraseIdx i) s'
        | some (.exit j s') => if j = nxt then more (rem.eraseIdx i) s' else if j = out then some [.next s'] else some [.exit j s']
        | some (.ret s') => some [.ret s']
        | none => none), someA step nxt out more rem s i with
      | some l, some r => some (l ++ r)
      | _, _ => none
    | none => none

/-- all ways to go through what is left -/
def allA (step : AVal × AVal → St → Option Out) (nxt out : Nat) (fin : St → St) : Nat → List (AVal × AVal) → St → Option (List Out)
  | 0, _, _ => none
  | f + 1, rem, s => match rem with
    | [] => some [.next (fin s)]
    | _ :: _ => someA step nxt out (allA step nxt out fin f) rem s rem.length

theorem someA_get {step : AVal × AVal → St → Option Out} {nxt out : Nat} {more : List (AVal × AVal) → St → Option (List Out)} {rem : List (AVal × AVal)} {s : St} : ∀ {n : Nat} {l : List Out}, someA step nxt out more rem s n = some l → ∀ i, i < n →
    ∃ e o, rem[i]? = some e ∧ step e s = some o ∧ match o with
      | .next s' => ∃ l', more (rem.eraseIdx i) s' = some l' ∧ ∀ o ∈ l', o ∈ l
      | .exit j s' => if j = nxt then ∃ l', more (rem.eraseIdx i) s' = some l' ∧ ∀ o ∈ l', o ∈ l else if j = out then Out.next s' ∈ l else Out.exit j s' ∈ l
      | .ret s' => Out.ret s' ∈ l
  | 0, l, h, i, hi => by omega
  | n + 1, l, h, i, hi => by
    simp only [someA] at h
    split at h
    · rename_i e he
      split at h
      · rename_i l1 l2 h1 h2
        simp only [Option.some.injEq] at h; subst h
        by_cases hin : i = n
        · subst hin
          split at h1
          · rename_i s' hs
            exact ⟨e, _, he, hs, l1, h1, fun o ho => by simp [ho]⟩
          · rename_i j s' hs
            refine ⟨e, _, he, hs, ?_⟩
            simp only
            split at h1
            · rename_i hj; rw [if_pos hj]; exact ⟨l1, h1, fun o ho => by simp [ho]⟩
            · rename_i hj; rw [if_neg hj]
              split at h1
              · rename_i hk; rw [if_pos hk]; simp only [Option.some.injEq] at h1; subst h1; simp
              · rename_i hk; rw [if_neg hk]; simp only [Option.some.injEq] at h1; subst h1; simp
          · rename_i s' hs
            simp only [Option.some.injEq] at h1; subst h1
            exact ⟨e, _, he, hs, by simp⟩
          · cases h1
        · obtain ⟨e', o, k1, k2, k3⟩ := someA_get h2 i (by omega)
          refine ⟨e', o, k1, k2, ?_⟩
          cases o with
          | next s' => obtain ⟨l', q1, q2⟩ := k3; exact ⟨l', q1, fun o ho => by simp [q2 o ho]⟩
          | exit j s' =>
            simp only at k3 ⊢
            split
            · rename_i hj; rw [if_pos hj] at k3; obtain ⟨l', q1, q2⟩ := k3; exact ⟨l', q1, fun o ho => by simp [q2 o ho]⟩
            · rename_i hj; rw [if_neg hj] at k3
              split
              · rename_i hk; rw [if_pos hk] at k3; simp [k3]
              · rename_i hk; rw [if_neg hk] at k3; simp [k3]
          | ret s' => simp only at k3 ⊢; simp [k3]
      · cases h
    · cases h

/-- a range over a map: what it is made of -/
structure RangeC where
  i0 : Nat
  pre : List Oper
  ro : Oper
  t : Nat
  x : Operand
  it : Nat
  out : Nat
  i1 : Nat
  nx : Oper
  ex : Oper
  tn : Nat
  tm : Nat
  nxt : Nat
  i2 : Nat
  en : Oper
  tp : Nat
  rest : List Oper
  code : Code

def RangeC.toCode (c : RangeC) : Code :=
  .seq (.region c.i0 (c.pre ++ [c.ro]).toArray false) (.block c.out (.loop (.seq (.region c.i1 #[c.nx, c.ex] false) (.seq (.cond (.tmp c.tm) .skip (.exit c.out)) (.block c.nxt (.seq (.region c.i2 (c.en :: c.rest).toArray false) c.code))))))

def dstIs (o : Oper) (d : Nat) : Bool := match o.dst with | some e => Nat.beq e d | none => false
def isNext (o : Oper) (it : Nat) : Bool := match o.op with | .next (.tmp t) false => Nat.beq t it | _ => false
def isExtract (o : Oper) (tn : Nat) : Bool := match o.op with | .extract (.tmp t) 0 => Nat.beq t tn | _ => false
def isEntry (o : Oper) (it : Nat) : Bool := match o.op with | .entry (.tmp t) => Nat.beq t it | _ => false
def isRange (o : Oper) (t : Nat) : Bool := match o.op with | .range u _ => Nat.beq u t | _ => false

def rangeC : Code → Option RangeC
  | .seq (.region i0 ops0 false) (.block out (.loop (.seq (.region i1 ops1 false) (.seq (.cond (.tmp tm) .skip (.exit out')) (.block nxt (.seq (.region i2 ops2 false) code)))))) =>
    match unsnoc ops0.toList, ops1.toList, ops2.toList with
    | some (pre, ro), [nx, ex], en :: rest =>
      match ro.op, ro.dst, nx.dst, en.dst with
      | .range t x, some it, some tn, some tp =>
        bif ro.guard.isNone && nx.guard.isNone && ex.guard.isNone && en.guard.isNone && isNext nx it && isExtract ex tn && isEntry en it && dstIs ex tm && Nat.beq out out' && !Nat.beq tn it && !Nat.beq tm it
        then some ⟨i0, pre, ro, t, x, it, out, i1, nx, ex, tn, tm, nxt, i2, en, tp, rest, code⟩ else none
      | _, _, _, _ => none
    | _, _, _ => none
  | _ => none

structure RangeOK (c : RangeC) : Prop where
  h0 : c.ro.op = .range c.t c.x
  h0g : c.ro.guard = none
  h0d : c.ro.dst = some c.it
  h1 : c.nx.op = .next (.tmp c.it) false
  h1g : c.nx.guard = none
  h1d : c.nx.dst = some c.tn
  h2 : c.ex.op = .extract (.tmp c.tn) 0
  h2g : c.ex.guard = none
  h2d : c.ex.dst = some c.tm
  h3 : c.en.op = .entry (.tmp c.it)
  h3g : c.en.guard = none
  h3d : c.en.dst = some c.tp
  hne : c.tn ≠ c.it ∧ c.tm ≠ c.it

theorem beq_ne {a b : Nat} (h : (!Nat.beq a b) = true) : a ≠ b := by
  intro e
  subst e
  simp at h

theorem isNext_spec {o : Oper} {it : Nat} (h : isNext o it = true) : o.op = .next (.tmp it) false := by
  unfold isNext at h
  split at h
  · rename_i t ht; rw [ht, Nat.eq_of_beq_eq_true h]
  · cases h
theorem isExtract_spec {o : Oper} {it : Nat} (h : isExtract o it = true) : o.op = .extract (.tmp it) 0 := by
  unfold isExtract at h
  split at h
  · rename_i t ht; rw [ht, Nat.eq_of_beq_eq_true h]
  · cases h
theorem isEntry_spec {o : Oper} {it : Nat} (h : isEntry o it = true) : o.op = .entry (.tmp it) := by
  unfold isEntry at h
  split at h
  · rename_i t ht; rw [ht, Nat.eq_of_beq_eq_true h]
  · cases h
theorem dstIs_spec {o : Oper} {d : Nat} (h : dstIs o d = true) : o.dst = some d := by
  unfold dstIs at h
  split at h
  · rename_i t ht; rw [ht, Nat.eq_of_beq_eq_true h]
  · cases h

theorem rangeC_spec {c : Code} {r : RangeC} (h : rangeC c = some r) : c = r.toCode ∧ RangeOK r := by
  unfold rangeC at h
  split at h
  · rename_i i0 ops0 out i1 ops1 tm out' nxt i2 ops2 code
    split at h
    · rename_i pre ro nx ex en rest h0 h1 h2
      split at h
      · rename_i t x it tn tp k1 k2 k3 k4
        cases hc : (ro.guard.isNone && nx.guard.isNone && ex.guard.isNone && en.guard.isNone && isNext nx it && isExtract ex tn && isEntry en it && dstIs ex tm && Nat.beq out out' && !Nat.beq tn it && !Nat.beq tm it) with
        | false => rw [hc] at h; cases h
        | true =>
          rw [hc] at h
          simp only [cond_true, Option.some.injEq] at h; subst h
          simp only [Bool.and_eq_true] at hc
          obtain ⟨⟨⟨⟨⟨⟨⟨⟨⟨⟨q1, q2⟩, q3⟩, q4⟩, q5⟩, q6⟩, q7⟩, q8⟩, q9⟩, q10⟩, q11⟩ := hc
          have e0 := unsnoc_eq h0
          have hout := Nat.eq_of_beq_eq_true q9
          subst hout
          refine ⟨?_, ⟨k1, by simpa using q1, k2, isNext_spec q5, by simpa using q2, k3, isExtract_spec q6, by simpa using q3, dstIs_spec q8, isEntry_spec q7, by simpa using q4, k4, beq_ne q10, beq_ne q11⟩⟩
          have a0 : ops0 = (pre ++ [ro]).toArray := by apply Array.ext'; simpa using e0
          have a1 : ops1 = #[nx, ex] := by apply Array.ext'; simpa using h1
          have a2 : ops2 = (en :: rest).toArray := by apply Array.ext'; simpa using h2
          subst a0 a1 a2
          rfl
      · cases h
    · cases h
  · cases h

/-- a round's work -/
def stepN (E : Env) (k M : Nat) (c : RangeC) (e : AVal × AVal) (s : St) : Option Out :=
  match opsA E (callA E (exec E k)) (c.en :: c.rest) c.rest ⟨((s.T.set c.tn (.tup [.bool true, e.1, e.2])).set c.tm (.bool true)).set c.tp (.tup [e.1, e.2]), s.H, s.nt⟩ with
  | some s2 => bif Nat.ble M s2.H.n then exec E k false c.code s2 else none
  | none => none

def finN (c : RangeC) (s : St) : St := ⟨(s.T.set c.tn (.tup [.bool false])).set c.tm (.bool false), s.H, s.nt⟩

def isMapK : TK → Bool
  | .map .. => true
  | _ => false

def stillIt (it n nt : Nat) (s : St) : Bool := (match s.T.get it with | some (.ptr i 0) => Nat.beq i n | _ => false) && Nat.blt n s.H.n && Nat.beq s.nt nt

/-- .. which leaves the iterator where it is -/
def stepI (E : Env) (k : Nat) (c : RangeC) (n nt : Nat) (e : AVal × AVal) (s : St) : Option Out :=
  match stepN E k (n + 1) c e s with
  | some (.next s') => bif stillIt c.it n nt s' then some (.next s') else none
  | some (.exit j s') => bif stillIt c.it n nt s' then some (.exit j s') else none
  | some (.ret s') => some (.ret s')
  | none => none

theorem stillIt_spec {it n nt : Nat} {s : St} (h : stillIt it n nt s = true) : s.T.get it = some (.ptr n 0) ∧ n < s.H.n ∧ s.nt = nt := by
  unfold stillIt at h
  simp only [Bool.and_eq_true] at h
  obtain ⟨⟨h1, h2⟩, h3⟩ := h
  refine ⟨?_, blt_lt h2, Nat.eq_of_beq_eq_true h3⟩
  split at h1
  · rename_i i hi; rw [hi, Nat.eq_of_beq_eq_true h1]
  · cases h1

theorem stepI_spec {E : Env} {k : Nat} {c : RangeC} {n nt : Nat} {e : AVal × AVal} {s : St} {o : Out} (h : stepI E k c n nt e s = some o) :
    stepN E k (n + 1) c e s = some o ∧ match o with | .next s' => stillIt c.it n nt s' = true | .exit _ s' => stillIt c.it n nt s' = true | .ret _ => True := by
  unfold stepI at h
  split at h
  · rename_i s' hs
    cases hb : stillIt c.it n nt s' with
    | false => rw [hb] at h; cases h
    | true => rw [hb] at h; cases h; exact ⟨hs, hb⟩
  · rename_i j s' hs
    cases hb : stillIt c.it n nt s' with
    | false => rw [hb] at h; cases h
    | true => rw [hb] at h; cases h; exact ⟨hs, hb⟩
  · rename_i s' hs
    cases h; exact ⟨hs, trivial⟩
  · cases h

/-- a range over a map: all ways -/
def rangeN (E : Env) (k : Nat) (c : RangeC) (s : St) : Option (List Out) :=
  match opsA E (callA E (exec E k)) (c.pre ++ [c.ro]) c.pre s with
  | some s1 => match s1.ev c.x with
    | some (.map mid) => match s1.H.o.get mid, E.ty c.t with
      | some (.map es), some i =>
        bif isMapK i.k && (es.all fun x => x.1.low (s1.H.n + 1) && x.2.low (s1.H.n + 1)) && Nat.ble s.H.n s1.H.n && Nat.blt c.it s1.nt && Nat.blt c.tn s1.nt && Nat.blt c.tm s1.nt && Nat.blt c.tp s1.nt
        then allA (stepI E k c s1.H.n s1.nt) c.nxt c.out (finN c) (es.length + 1) es ⟨s1.T.set c.it (.ptr s1.H.n 0), ⟨s1.H.o.del mid, s1.H.n + 1⟩, s1.nt⟩
        else none
      | _, _ => none
    | _ => none
  | none => none

/-- code that may range over maps, at its spine: all ways -/
def execN (E : Env) (K m : Nat) : Nat → Code → St → Option (List Out)
  | 0, _, _ => none
  | k + 1, c, s => match rangeC c with
    | some r => rangeN E K r s
    | none => match c with
      | .seq a b => match execN E K m k a s with
        | some l => joinN m (execN E K m k b) l
        | none => none
      | c => match exec E K false c s with | some o => some [o] | none => none
where
  joinN (m : Nat) (f : St → Option (List Out)) : List Out → Option (List Out)
    | [] => some []
    | .next s :: r => match (bif Nat.ble m s.H.n then f s else none), joinN m f r with | some l, some k => some (l ++ k) | _, _ => none
    | o :: r => match joinN m f r with | some k => some (o :: k) | none => none

section
variable {P : Program} {E : Env}

theorem joinN_get {n : Nat} {f : St → Option (List Out)} : ∀ {l m : List Out}, execN.joinN n f l = some m → ∀ o ∈ l, match o with | .next s => n ≤ s.H.n ∧ ∃ l', f s = some l' ∧ ∀ o ∈ l', o ∈ m | o => o ∈ m
  | [], m, h, o, ho => by cases ho
  | .next s :: r, m, h, o, ho => by
    simp only [execN.joinN] at h
    split at h
    · rename_i l1 l2 h1 h2
      simp only [Option.some.injEq] at h; subst h
      rcases List.mem_cons.1 ho with rfl | ho
      · cases hb : Nat.ble n s.H.n with
        | false => rw [hb] at h1; cases h1
        | true =>
          rw [hb] at h1
          exact ⟨Nat.le_of_ble_eq_true hb, l1, h1, fun o ho => by simp [ho]⟩
      · have := joinN_get h2 o ho
        cases o with
        | next s' => obtain ⟨q0, l', q1, q2⟩ := this; exact ⟨q0, l', q1, fun o ho => by simp [q2 o ho]⟩
        | exit i s' => simp only at this ⊢; simp [this]
        | ret s' => simp only at this ⊢; simp [this]
    · cases h
  | .exit i s :: r, m, h, o, ho => by
    simp only [execN.joinN] at h
    split at h
    · rename_i l2 h2
      simp only [Option.some.injEq] at h; subst h
      rcases List.mem_cons.1 ho with rfl | ho
      · simp
      · have := joinN_get h2 o ho
        cases o with
        | next s' => obtain ⟨q0, l', q1, q2⟩ := this; exact ⟨q0, l', q1, fun o ho => by simp [q2 o ho]⟩
        | exit i s' => simp only at this ⊢; simp [this]
        | ret s' => simp only at this ⊢; simp [this]
    · cases h
  | .ret s :: r, m, h, o, ho => by
    simp only [execN.joinN] at h
    split at h
    · rename_i l2 h2
      simp only [Option.some.injEq] at h; subst h
      rcases List.mem_cons.1 ho with rfl | ho
      · simp
      · have := joinN_get h2 o ho
        cases o with
        | next s' => obtain ⟨q0, l', q1, q2⟩ := this; exact ⟨q0, l', q1, fun o ho => by simp [q2 o ho]⟩
        | exit i s' => simp only at this ⊢; simp [this]
        | ret s' => simp only at this ⊢; simp [this]
    · cases h

theorem isMapK_spec (hE : EnvOK P E) {t : Nat} {i : TyI} (h : E.ty t = some i) (hk : isMapK i.k = true) : ∃ a b, P.underlying t = some (.map a b) := by
  obtain ⟨inf, d, z, h1, h2, h3, h4, h5, h6, h7⟩ := mkTy_spec (hE.ty _ _ h)
  rw [h7] at hk
  cases d with
  | map a b => exact ⟨a, b, h2⟩
  | _ => exfalso; revert hk; simp only [tkOf]; (repeat' split) <;> simp [isMapK]

theorem rangeN_sound (h : ProgOK P E) {k m : Nat} {c : RangeC} (hc : RangeOK c) {s : St} {l : List Out} (hl : rangeN E k c s = some l) (hm : m ≤ s.H.n) :
    ACodeK P E false m c.toCode s (· ∈ l) := by
  unfold rangeN at hl
  split at hl
  · rename_i s1 h1
    split at hl
    · rename_i mid hx
      split at hl
      · rename_i es i hes hty
        cases hb : (isMapK i.k && (es.all fun x => x.1.low (s1.H.n + 1) && x.2.low (s1.H.n + 1)) && Nat.ble s.H.n s1.H.n && Nat.blt c.it s1.nt && Nat.blt c.tn s1.nt && Nat.blt c.tm s1.nt && Nat.blt c.tp s1.nt) with
        | false => rw [hb] at hl; cases hl
        | true =>
          rw [hb] at hl
          simp only [cond_true] at hl
          simp only [Bool.and_eq_true] at hb
          obtain ⟨⟨⟨⟨⟨⟨b1, b2⟩, b3⟩, b4⟩, b5⟩, b6⟩, b7⟩ := hb
          obtain ⟨ka, va, hu⟩ := isMapK_spec h.env hty b1
          have hcf := (exec_sound h.env h.mixed h.ov h.num k).2
          have hle := Nat.le_of_ble_eq_true b3
          refine acode_maprange (M := s1.H.n + 1) h.env hcf
            (fun rem s' => (∃ f l', allA (stepI E k c s1.H.n s1.nt) c.nxt c.out (finN c) f rem s' = some l' ∧ ∀ o ∈ l', o ∈ l) ∧ s'.T.get c.it = some (.ptr s1.H.n 0) ∧ s1.H.n < s'.H.n ∧ s'.nt = s1.nt)
            hc.h0 hc.h0g hc.h0d hu h1 hx hes b2 hm (by omega) (by omega) (by omega) (blt_lt b4)
            ⟨⟨_, l, hl, fun _ h => h⟩, by simp [PT.get_set], by simp, rfl⟩ hc.h1 hc.h1g hc.h1d hc.h2 hc.h2g hc.h2d hc.h3 hc.h3g hc.h3d hc.hne ?_ ?_ ?_
          · rintro rem s' ⟨_, k1, k2, k3⟩
            rw [k3]
            exact ⟨k1, k2, blt_lt b5, blt_lt b6, blt_lt b7⟩
          · rintro rem s' ⟨⟨f, l', q1, q2⟩, k1, k2, k3⟩ j x v hj
            have hlt := (List.getElem?_eq_some_iff.1 hj).1
            cases f with
            | zero => cases q1
            | succ f =>
              cases rem with
              | nil => simp at hlt
              | cons y rem =>
                simp only [allA] at q1
                obtain ⟨e, o, r1, r2, r3⟩ := someA_get q1 j hlt
                rw [hj] at r1; cases r1
                obtain ⟨t1, t2⟩ := stepI_spec r2
                unfold stepN at t1
                split at t1
                · rename_i s2 hs2
                  cases hbl : Nat.ble (s1.H.n + 1) s2.H.n with
                  | false => rw [hbl] at t1; cases t1
                  | true =>
                    rw [hbl] at t1
                    simp only [cond_true] at t1
                    refine ⟨s2, hs2, ((h.code t1).toK (Nat.le_of_ble_eq_true hbl)).mono fun o' ho' => ?_⟩
                    subst ho'
                    cases o' with
                    | next s3 =>
                      obtain ⟨l3, u1, u2⟩ := r3
                      exact ⟨⟨f, l3, u1, fun o ho => q2 o (u2 o ho)⟩, stillIt_spec t2⟩
                    | exit jj s3 =>
                      simp only at r3 ⊢
                      split
                      · rename_i hjj
                        rw [if_pos hjj] at r3
                        obtain ⟨l3, u1, u2⟩ := r3
                        exact ⟨⟨f, l3, u1, fun o ho => q2 o (u2 o ho)⟩, stillIt_spec t2⟩
                      · rename_i hjj
                        rw [if_neg hjj] at r3
                        split
                        · rename_i hk; rw [if_pos hk] at r3; exact q2 _ r3
                        · rename_i hk; rw [if_neg hk] at r3; exact q2 _ r3
                    | ret s3 => exact q2 _ r3
                · cases t1
          · rintro s' ⟨⟨f, l', q1, q2⟩, k1, k2, k3⟩
            cases f with
            | zero => cases q1
            | succ f =>
              simp only [allA, Option.some.injEq] at q1; subst q1
              exact q2 _ (by simp [finN])
      · cases hl
    · cases hl
  · cases hl

theorem execN_sound (h : ProgOK P E) {K m : Nat} : ∀ {k : Nat} {c : Code} {s : St} {l : List Out}, execN E K m k c s = some l → m ≤ s.H.n → ACodeK P E false m c s (· ∈ l) := by
  intro k
  induction k with
  | zero => intro c s l hl; cases hl
  | succ k ih =>
    intro c s l hl hm
    simp only [execN] at hl
    split at hl
    · rename_i r hr
      obtain ⟨rfl, hok⟩ := rangeC_spec hr
      exact rangeN_sound h hok hl hm
    · split at hl
      · rename_i a b
        split at hl
        · rename_i l1 h1
          refine acode_seq ((ih h1 hm).mono fun o ho => ?_)
          have := joinN_get hl o ho
          cases o with
          | next s' =>
            obtain ⟨q0, l', q1, q2⟩ := this
            exact (ih q1 q0).mono fun o ho => q2 o ho
          | exit i s' => exact this
          | ret s' => exact this
        · cases hl
      · split at hl
        · rename_i o ho
          simp only [Option.some.injEq] at hl; subst hl
          exact ((h.code ho).toK hm).mono fun _ e => by subst e; simp
        · cases hl

/-! the function whole: what lives is named anew, all ways have to give the same -/
mutual
def AVal.ids : AVal → List Nat
  | .ptr id _ => [id]
  | .slc id _ _ _ => [id]
  | .map id => [id]
  | .yld id => [id]
  | .rop cs => AVal.idss cs
  | .ro _ es => AVal.idsss es
  | .fn _ cs => AVal.idss cs
  | .ifc _ v => AVal.ids v
  | .agg cs => AVal.idss cs
  | .tup cs => AVal.idss cs
  | _ => []
def AVal.idss : List AVal → List Nat
  | [] => []
  | x :: r => AVal.ids x ++ AVal.idss r
def AVal.idsss : List (List AVal) → List Nat
  | [] => []
  | x :: r => AVal.idss x ++ AVal.idsss r
end

def AObj.ids : AObj → List Nat
  | .cells cs => AVal.idss cs
  | .map es => es.flatMap fun e => e.1.ids ++ e.2.ids
  | .loop _ => []

/-- what lives: names in the order they are met -/
def gcA (o : PT AObj) : Nat → List Nat → List Nat → List Nat
  | 0, _, acc => acc
  | _ + 1, [], acc => acc
  | f + 1, i :: todo, acc => bif acc.any (Nat.beq i) then gcA o f todo acc else gcA o f ((match o.get i with | some x => x.ids | none => []) ++ todo) (acc ++ [i])

def upTo : Nat → List Nat → List Nat
  | 0, acc => acc
  | n + 1, acc => upTo n (n :: acc)

def renList (o : PT AObj) (L : List Nat) : List Nat → Option (List (Option AObj))
  | [] => some []
  | id :: r => match o.get id with
    | some x => match x.ren L, renList o L r with | some x, some r => some (some x :: r) | _, _ => none
    | none => match renList o L r with | some r => some (none :: r) | none => none

theorem renList_get {o : PT AObj} {L : List Nat} : ∀ {r : List Nat} {l : List (Option AObj)}, renList o L r = some l → l.length = r.length ∧ ∀ (j : Nat) x', l[j]? = some (some x') → ∃ id x, r[j]? = some id ∧ o.get id = some x ∧ x.ren L = some x'
  | [], l, h => by simp only [renList, Option.some.injEq] at h; subst h; simp
  | id :: r, l, h => by
    simp only [renList] at h
    split at h
    · rename_i y hy
      split at h
      · rename_i y' r' h1 h2
        simp only [Option.some.injEq] at h; subst h
        obtain ⟨k1, k2⟩ := renList_get h2
        refine ⟨by simp [k1], fun j x' hx => ?_⟩
        cases j with
        | zero => simp at hx; subst hx; exact ⟨id, y, by simp, hy, h1⟩
        | succ j => simpa using k2 j x' (by simpa using hx)
      · cases h
    · split at h
      · rename_i r' h2
        simp only [Option.some.injEq] at h; subst h
        obtain ⟨k1, k2⟩ := renList_get h2
        refine ⟨by simp [k1], fun j x' hx => ?_⟩
        cases j with
        | zero => simp at hx
        | succ j => simpa using k2 j x' (by simpa using hx)
      · cases h

def buildO : Nat → List (Option AObj) → PT AObj
  | _, [] => .leaf
  | j, some x :: r => (buildO (j + 1) r).set j x
  | j, none :: r => buildO (j + 1) r

theorem buildO_get : ∀ {l : List (Option AObj)} {j i : Nat} {x : AObj}, (buildO j l).get i = some x → j ≤ i ∧ l[i - j]? = some (some x)
  | [], j, i, x, h => by simp [buildO, PT.get_leaf] at h
  | none :: r, j, i, x, h => by
    simp only [buildO] at h
    obtain ⟨k1, k2⟩ := buildO_get h
    refine ⟨by omega, ?_⟩
    rw [show i - j = (i - (j + 1)) + 1 by omega]; simpa using k2
  | some y :: r, j, i, x, h => by
    simp only [buildO, PT.get_set] at h
    split at h
    · subst i; cases h; simp
    · obtain ⟨k1, k2⟩ := buildO_get h
      refine ⟨by omega, ?_⟩
      rw [show i - j = (i - (j + 1)) + 1 by omega]; simpa using k2

/-- a function's outcome, named anew -/
def canonA (E : Env) (fn : Func) (n : Nat) (o : Out) : Option (AVal × List (Option AObj)) :=
  match (match o with | .ret s => some s | .next s => some s | .exit _ _ => none) with
  | some s => match resA E fn s with
    | some v =>
      let L := gcA s.H.o (100 * s.H.n + 1000) ((upTo n []).flatMap (fun i => match s.H.o.get i with | some x => x.ids | none => []) ++ v.ids) (upTo n [])
      bif ndB L && keepsB n 0 L then match v.ren L, renList s.H.o L L with | some v, some l => some (v, l) | _, _ => none else none
    | none => none
  | none => none

def sameO : List (Option AObj) → List (Option AObj) → Bool
  | [], [] => true
  | none :: a, none :: b => sameO a b
  | some (.cells x) :: a, some (.cells y) :: b => AVal.sames x y && sameO a b
  | some (.map x) :: a, some (.map y) :: b => AVal.sames (x.flatMap fun e => [e.1, e.2]) (y.flatMap fun e => [e.1, e.2]) && sameO a b
  | _, _ => false

theorem flat_eq : ∀ {x y : List (AVal × AVal)}, (x.flatMap fun e => [e.1, e.2]) = (y.flatMap fun e => [e.1, e.2]) → x = y
  | [], [], _ => rfl
  | [], _ :: _, h => by simp at h
  | _ :: _, [], h => by simp at h
  | (a, b) :: x, (c, d) :: y, h => by
    simp only [List.flatMap_cons, List.cons_append, List.nil_append, List.cons.injEq] at h
    obtain ⟨rfl, rfl, h⟩ := h
    rw [flat_eq h]

theorem sameO_eq : ∀ {a b : List (Option AObj)}, sameO a b = true → a = b
  | [], [], _ => rfl
  | [], _ :: _, h => by cases h
  | none :: a, b, h => by
    cases b with
    | nil => cases h
    | cons y b =>
      cases y with
      | none => rw [sameO_eq (a := a) (b := b) h]
      | some y => cases h
  | some (.cells x) :: a, b, h => by
    cases b with
    | nil => cases h
    | cons y b =>
      cases y with
      | none => cases h
      | some y =>
        cases y <;> simp only [sameO, Bool.false_eq_true, Bool.and_eq_true] at h
        rw [sames_eq h.1, sameO_eq h.2]
  | some (.map x) :: a, b, h => by
    cases b with
    | nil => cases h
    | cons y b =>
      cases y with
      | none => cases h
      | some y =>
        cases y <;> simp only [sameO, Bool.false_eq_true, Bool.and_eq_true] at h
        rw [flat_eq (sames_eq h.1), sameO_eq h.2]
  | some (.loop x) :: a, b, h => by cases b <;> cases h

def allSame (E : Env) (fn : Func) (n : Nat) (p : AVal × List (Option AObj)) : List Out → Bool
  | [] => true
  | o :: r => (match canonA E fn n o with | some q => AVal.same q.1 p.1 && sameO q.2 p.2 | none => false) && allSame E fn n p r

/-- a function, its maps gone through in every order -/
def ovN (E : Env) (K : Nat) (f : Nat) : List AVal → AH → Option (AVal × AH) := fun args H =>
  match E.fn f with
  | some fn => match fn.body with
    | some c => match (bif Nat.ble args.length fn.ntmps then execN E K H.n K c ⟨PT.ofFrom 0 args .leaf, H, fn.ntmps⟩ else none) with
      | some (o :: l) => match canonA E fn H.n o with
        | some p => bif allSame E fn H.n p l then some (p.1, ⟨buildO 0 p.2, p.2.length⟩) else none
        | none => none
      | _ => none
    | none => none
  | none => none

theorem canonA_spec {fn : Func} {n : Nat} {o : Out} {p : AVal × List (Option AObj)} (h : canonA E fn n o = some p) :
    ∃ s v L, (o = .ret s ∨ o = .next s) ∧ resA E fn s = some v ∧ Keeps n L ∧ v.ren L = some p.1 ∧ ∀ T nt, Ren L ⟨T, s.H, nt⟩ ⟨.leaf, ⟨buildO 0 p.2, p.2.length⟩, nt⟩ := by
  unfold canonA at h
  split at h
  · rename_i s hs
    split at h
    · rename_i v hv
      obtain ⟨L, hL⟩ : ∃ L, L = gcA s.H.o (100 * s.H.n + 1000) ((upTo n []).flatMap (fun i => match s.H.o.get i with | some x => x.ids | none => []) ++ v.ids) (upTo n []) := ⟨_, rfl⟩
      simp only [← hL] at h
      cases hb : (ndB L && keepsB n 0 L) with
      | false => rw [hb] at h; cases h
      | true =>
        rw [hb] at h
        simp only [cond_true] at h
        rw [Bool.and_eq_true] at hb
        split at h
        · rename_i v' l h1 h2
          simp only [Option.some.injEq] at h; subst h
          obtain ⟨k1, k2⟩ := renList_get h2
          refine ⟨s, v, L, ?_, hv, keeps_of hb.2, h1, fun T nt => ⟨fun i x hx => by simp [PT.get_leaf] at hx, fun j x' hx => ?_, k1, ndB_spec hb.1, Nat.le_refl _⟩⟩
          · cases o <;> simp at hs
            · subst hs; exact .inr rfl
            · subst hs; exact .inl rfl
          · obtain ⟨q1, q2⟩ := buildO_get hx
            simp only [Nat.sub_zero] at q2
            obtain ⟨id, x, r1, r2, r3⟩ := k2 j x' q2
            refine ⟨(List.getElem?_eq_some_iff.1 r1).1, x, ?_, r3⟩
            rw [List.getD_eq_getElem?_getD, r1]; exact r2
        · cases h
    · cases h
  · cases h

theorem allSame_spec {fn : Func} {n : Nat} {p : AVal × List (Option AObj)} : ∀ {l : List Out}, allSame E fn n p l = true → ∀ o ∈ l, canonA E fn n o = some p
  | [], _, o, ho => by cases ho
  | q :: l, h, o, ho => by
    simp only [allSame, Bool.and_eq_true] at h
    rcases List.mem_cons.1 ho with rfl | ho
    · have h1 := h.1
      split at h1
      · rename_i r hr
        rw [Bool.and_eq_true] at h1
        rw [hr]
        have := same_eq h1.1
        have := sameO_eq h1.2
        cases r; cases p; simp_all
      · cases h1
    · exact allSame_spec h.2 o ho

theorem ovN_sound (h : ProgOK P E) {K f : Nat} {args : List AVal} {H : AH} {v : AVal} {H' : AH} (ho : ovN E K f args H = some (v, H')) :
    Entered P f ∧ ACalls P E f args H fun x K => x = v ∧ K = H' := by
  unfold ovN at ho
  split at ho
  · rename_i fn hfn
    have hf := h.env.fn _ _ hfn
    split at ho
    · rename_i c hb
      refine ⟨⟨fn, hf, h.num f fn hf, by rw [hb]; rfl⟩, ?_⟩
      split at ho
      · rename_i o l hl
        split at ho
        · rename_i p hp
          cases hs : allSame E fn H.n p l with
          | false => rw [hs] at ho; cases ho
          | true =>
            rw [hs] at ho
            simp only [cond_true, Option.some.injEq, Prod.mk.injEq] at ho; obtain ⟨rfl, rfl⟩ := ho
            cases hle : Nat.ble args.length fn.ntmps with
            | false => rw [hle] at hl; cases hl
            | true =>
              rw [hle] at hl
              simp only [cond_true] at hl
              have hall : ∀ o' ∈ o :: l, canonA E fn H.n o' = some p := by
                intro o' ho'
                rcases List.mem_cons.1 ho' with rfl | ho'
                · exact hp
                · exact allSame_spec hs o' ho'
              have hcode := execN_sound h hl (Nat.le_refl _)
              have := acalls_of_codeK (R := fun x K => ∃ L, Keeps H.n L ∧ x.ren L = some p.1 ∧ ∀ T nt, Ren L ⟨T, K, nt⟩ ⟨.leaf, ⟨buildO 0 p.2, p.2.length⟩, nt⟩) h.env hf hb (Nat.le_of_ble_eq_true hle) (hcode.mono fun o' ho' => by
                obtain ⟨s, v, L, q1, q2, q3, q4, q5⟩ := canonA_spec (hall o' ho')
                exact ⟨s, v, q1, q2, L, q3, q4, q5⟩)
              refine this.ren ?_
              rintro x K ⟨L, q1, q2, q3⟩
              exact ⟨L, _, _, .leaf, .leaf, 0, q1, q2, q3 .leaf 0, rfl, rfl⟩
        · cases ho
      · cases ho
    · cases ho
  · cases ho

end
end Go.Pend

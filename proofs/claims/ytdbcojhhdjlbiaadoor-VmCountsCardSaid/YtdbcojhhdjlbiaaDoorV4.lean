/- VmCounts: its loop, whatever comes. -/
import Derived.Test.YtdbcojhhdjlbiaaDoorV1
namespace Go.Proofs.YtdbcojhhdjlbiaaDoor
open Go.Pend

/-- what came in: numbers, truths -/
structure In where
  n : Int
  xs : List Int
  bs : List Bool
  hx : xs.length < 9223372036854775808
  hb : bs.length < 9223372036854775808
  hxs : ∀ x ∈ xs, wr x = x

def In.rows (q : In) : Nat → List (List AVal)
  | 0 => q.xs.map fun x => [.int .i64 x]
  | 1 => q.bs.map fun b => [.bool b]
  | _ => []

/-- the unknowns at the loop's head -/
structure At (q : In) (e : SEnv) (i : Nat) : Prop where
  rows : e.rows = q.rows
  v1 : e.v 1 = q.xs.length
  v2 : e.v 2 = q.bs.length
  v3 : e.v 3 = i
  le : i ≤ q.xs.length
  v10 : ∀ x, q.xs[i]? = some x → e.v 10 = x

theorem wr_small {n : Nat} (h : n < 9223372036854775808) : wr (n : Int) = n := by
  rw [wr_def]
  have : (n : Int) % 18446744073709551616 = n := by omega
  rw [this]; split <;> omega

theorem lens_known {q : In} {e : SEnv} (hr : e.rows = q.rows) (h1 : e.v 1 = q.xs.length) (h2 : e.v 2 = q.bs.length) : Known e lens := by
  intro f hf
  simp only [lens, List.mem_cons, List.not_mem_nil, or_false] at hf
  rcases hf with rfl | rfl
  · simp only [Fact.holds, eval_var, hr, h1, wr_small q.hx, In.rows, List.length_map]
  · simp only [Fact.holds, eval_var, hr, h2, wr_small q.hb, In.rows, List.length_map]

/-- what is known at the loop's head -/
inductive Case (q : In) (i : Nat) : List Fact → Prop where
  | out (h : i = q.xs.length) : Case q i Fout
  | no (h : i < q.xs.length) (h2 : ¬ i < q.bs.length) : Case q i Fno
  | made (b : Bool) (h : i < q.xs.length) (h2 : q.bs[i]? = some b) : Case q i (Fmade b)

theorem case_any (q : In) (i : Nat) (h : i ≤ q.xs.length) : ∃ F, Case q i F := by
  by_cases h1 : i = q.xs.length
  · exact ⟨_, .out h1⟩
  · by_cases h2 : i < q.bs.length
    · exact ⟨_, .made (q.bs[i]) (by omega) (List.getElem?_eq_getElem h2)⟩
    · exact ⟨_, .no (by omega) h2⟩

theorem case_known {q : In} {e : SEnv} {i : Nat} (h : At q e i) {F : List Fact} (hc : Case q i F) : Known e F := by
  have hl := lens_known h.rows h.v1 h.v2
  have hi : i < 9223372036854775808 := by have := q.hx; have := h.le; omega
  have w3 : wr (e.v 3) = i := by rw [h.v3]; exact wr_small hi
  have w1 : wr (e.v 1) = q.xs.length := by rw [h.v1]; exact wr_small q.hx
  have w2 : wr (e.v 2) = q.bs.length := by rw [h.v2]; exact wr_small q.hb
  have l0 := hl (.len 0 (.var 1)) (by simp [lens])
  have l1 := hl (.len 1 (.var 2)) (by simp [lens])
  have row0 : i < q.xs.length → (Fact.row 0 (.var 3) [.sym (.var 10)]).holds e := by
    intro hlt
    refine ⟨i, by rw [eval_var]; exact w3, ?_⟩
    have hx : q.xs[i]? = some q.xs[i] := List.getElem?_eq_getElem hlt
    rw [h.rows]
    simp only [In.rows, List.getElem?_map, hx, Option.map_some, List.map_cons, List.map_nil, ev1, eval_var, h.v10 _ hx]
    rw [q.hxs _ (List.getElem_mem hlt)]
  intro f hf
  cases hc with
  | out he =>
    simp only [Fout, List.mem_cons, List.not_mem_nil, or_false] at hf
    rcases hf with rfl | rfl | rfl
    · exact l0
    · exact l1
    · simp only [Fact.holds, eval_var, w3, w1]; simp; omega
  | no hlt h2 =>
    simp only [Fno, List.mem_cons, List.not_mem_nil, or_false] at hf
    rcases hf with rfl | rfl | rfl | rfl | rfl
    · exact l0
    · exact l1
    · simp only [Fact.holds, eval_var, w3, w1]; simp; omega
    · exact row0 hlt
    · simp only [Fact.holds, eval_var, w3, w2]; simp; omega
  | made b hlt h2 =>
    have hlt2 : i < q.bs.length := (List.getElem?_eq_some_iff.1 h2).1
    simp only [Fmade, List.mem_cons, List.not_mem_nil, or_false] at hf
    rcases hf with rfl | rfl | rfl | rfl | rfl | rfl
    · exact l0
    · exact l1
    · simp only [Fact.holds, eval_var, w3, w1]; simp; omega
    · exact row0 hlt
    · simp only [Fact.holds, eval_var, w3, w2]; simp; omega
    · refine ⟨i, by rw [eval_var]; exact w3, ?_⟩
      rw [h.rows]
      simp only [In.rows, List.getElem?_map, h2, Option.map_some, List.map_cons, List.map_nil, ev1]

theorem goes_spec {e e' : SEnv} {F : List Fact} {d : SD} {σ : List (Nat × Lin)} {ks L vs : List Nat} (h : goes (EE e F) d σ ks L vs = true) (ha : Agree vs (e.sub σ) e') :
    ∃ s, exec (EE e F) KK false loop3 d.st = some (.next s) ∧ To 0 e e' s d := by
  unfold goes at h
  split at h
  · rename_i s hs
    rw [Bool.and_eq_true] at h
    exact ⟨s, hs, ⟨σ, ks, L, vs, rfl, h.1, h.2, ha⟩⟩
  · cases h

theorem ends_spec {e e' : SEnv} {F : List Fact} {d : SD} (h : ends (EE e F) d 0 = true) (hr : e'.rows = e.rows) :
    ∃ s, exec (EE e F) KK false loop3 d.st = some (.exit 2 s) ∧ To 0 e e' s dEnd := by
  unfold ends at h
  split at h
  · rename_i s hs
    exact ⟨s, hs, ⟨[], [], [], [], rfl, h, rfl, ⟨(by intro u hu; cases hu), hr⟩⟩⟩
  · cases h

/-- the next round's unknowns -/
def nextE (q : In) (e : SEnv) (σ : List (Nat × Lin)) (i : Nat) : SEnv :=
  ⟨fun v => if v = 10 then q.xs.getD (i + 1) 0 else (e.sub σ).v v, e.rows⟩

theorem at_next {q : In} {e : SEnv} {i : Nat} (h : At q e i) (hlt : i < q.xs.length) {σ : List (Nat × Lin)} (s1 : getL 1 σ = .var 1) (s2 : getL 2 σ = .var 2) (s3 : getL 3 σ = ⟨1, [(3, 1)]⟩) : At q (nextE q e σ i) (i + 1) := by
  refine ⟨h.rows, ?_, ?_, ?_, hlt, ?_⟩
  · simp only [nextE, SEnv.sub, s1, eval_var]; simp [h.v1]
  · simp only [nextE, SEnv.sub, s2, eval_var]; simp [h.v2]
  · simp only [nextE, SEnv.sub, s3, Lin.eval, evalT]
    simp [h.v3]; omega
  · intro x hx
    simp [nextE, hx]

theorem agree_next {q : In} {e : SEnv} {σ : List (Nat × Lin)} {i : Nat} {vs : List Nat} (h : 10 ∉ vs) : Agree vs (e.sub σ) (nextE q e σ i) :=
  ⟨(by intro u hu; simp only [nextE]; rw [if_neg (fun (he : u = 10) => h (he ▸ hu))]), rfl⟩

/-- the loop -/
theorem loop_any (q : In) {n : Nat} {d : SD} {ks L vs : List Nat} (h0 : ∀ e, ends (EE e Fout) d 0 = true) (h1 : ∀ e, goes (EE e Fno) d (sub3 n false) ks L vs = true)
    (h2 : ∀ e, goes (EE e (Fmade false)) d (sub3 n false) ks L vs = true) (h3 : ∀ e, goes (EE e (Fmade true)) d (sub3 n true) ks L vs = true) (hv : 10 ∉ vs)
    (s1 : ∀ b, getL 1 (sub3 n b) = .var 1) (s2 : ∀ b, getL 2 (sub3 n b) = .var 2) {e0 : SEnv} {F0 : List Fact} (ha : At q e0 0) (hc : Case q 0 F0) :
    ACodeK Tryd.prog (EE e0 F0) false 0 (.loop loop3) d.st (· = .exit 2 dEnd.st) := by
  refine acode_loopE famE (fun e F d' k => d' = d ∧ ∃ i, At q e i ∧ Case q i F ∧ k = q.xs.length - i) (e0 := e0) ?_ ⟨rfl, 0, ha, hc, rfl⟩
  rintro e F d' k ⟨rfl, i, hat, hcase, rfl⟩
  refine ⟨case_known hat hcase, Nat.zero_le _, ?_⟩
  have next : ∀ {F : List Fact} {b : Bool}, (∀ e, goes (EE e F) d' (sub3 n b) ks L vs = true) → i < q.xs.length → ACodeK Tryd.prog (EE e F) false 0 loop3 d'.st fun o => match o with
      | .next s' => ∃ e' F' d'' n', n' < q.xs.length - i ∧ To 0 e e' s' d'' ∧ (d'' = d' ∧ ∃ i, At q e' i ∧ Case q i F' ∧ n' = q.xs.length - i)
      | o => ∃ o', OutTo 0 e e0 o o' ∧ o' = .exit 2 dEnd.st := by
    intro F b hg hlt
    obtain ⟨s, hs, hto⟩ := goes_spec (e' := nextE q e (sub3 n b) i) (hg e) (agree_next hv)
    have hat' := at_next hat hlt (s1 b) (s2 b) (show getL 3 (sub3 n b) = ⟨1, [(3, 1)]⟩ from rfl)
    obtain ⟨F', hF'⟩ := case_any q (i + 1) hlt
    exact (okE e F).run hs (Nat.zero_le _) ⟨_, F', d', _, by omega, hto, rfl, i + 1, hat', hF', rfl⟩
  cases hcase with
  | out h =>
    obtain ⟨s, hs, hto⟩ := ends_spec (e' := e0) (h0 e) (by rw [ha.rows, hat.rows])
    exact (okE e _).run hs (Nat.zero_le _) ⟨_, .exit hto, rfl⟩
  | no h h' => exact next h1 h
  | made b h h' =>
    cases b with
    | false => exact next h2 h
    | true => exact next h3 h

end Go.Proofs.YtdbcojhhdjlbiaaDoor

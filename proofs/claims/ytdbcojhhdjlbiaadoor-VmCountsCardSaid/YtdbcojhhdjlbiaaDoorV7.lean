/- VmCounts answers true for every input, and each argument reads behind the call as it read before. Conditions: the row's own: the listed package variables start as the program's text lays them (the card ties them). -/
import Derived.Test.YtdbcojhhdjlbiaaDoorV6
import Derived.Test.YtdbcojhhdjlbiaaDoorCards
import Derived.Test.YtdbcojhhdjlbiaaDoorTie
import Derived.OpenShut
import Derived.Carry
import Derived.LaidMore
import Derived.Deep.DeepHandedRow
namespace Go.Proofs.YtdbcojhhdjlbiaaDoor
open Go.Pend Go.ChangeShapes Go.WideShapes Go.ChangeAt Go.RowKit

theorem own : ownKnob Tryd.prog.godebug = none := by kernel_rfl
theorem laidOut : laidOutB Tryd.prog = true := by kernel_rfl
theorem cells2 : Tryd.prog.cellsOf 2 = 1 := by kernel_rfl
theorem cells4 : Tryd.prog.cellsOf 4 = 1 := by kernel_rfl

theorem wf_wr {n : Int} (h : (Lit.int .i64 n).wf = true) : wr n = n := by
  have hb : -9223372036854775808 ≤ n ∧ n ≤ 9223372036854775807 := by
    simpa [Lit.wf, IntKind.min, IntKind.max, IntKind.signed, IntKind.bits] using h
  rw [wr_def]
  rcases (by omega : n < 0 ∨ 0 ≤ n) with hn | hn
  · have : n % 18446744073709551616 = n + 18446744073709551616 := by omega
    rw [this]; split <;> omega
  · have : n % 18446744073709551616 = n := by omega
    rw [this]; split <;> omega

/-- the call, at the values that came in -/
theorem run_any (W : World) (n : Int) (hn : wr n = n) (va vb : Value) (q : In) (ha : ∀ e : SEnv, e.rows = q.rows → VR (ctx0 W e) (.arr 0) va) (hb : ∀ e : SEnv, e.rows = q.rows → VR (ctx0 W e) (.arr 1) vb) :
    Calls Tryd.prog 3 #[.int .i64 n, va, vb] W fun e w' => e = .returned (.bool true) ∧ Below W.heap.size W w' := by
  obtain ⟨e, he⟩ : ∃ e : SEnv, e = ⟨fun v => match v with | 0 => n | 1 => q.xs.length | 2 => q.bs.length | _ => 0, q.rows⟩ := ⟨_, rfl⟩
  have hr : e.rows = q.rows := by rw [he]
  have hc := counts_calls q (e := e) hr (by subst he; rfl) (by subst he; rfl)
  refine calls_true (E := EE e []) (fun _ => rfl) rfl hc ?_
  have henv : (EE e []).env = e := rfl
  rw [henv]
  refine .cons ?_ (.cons (ha e hr) (.cons (hb e hr) .nil))
  have := VR.sym (Γ := ctx0 W e) (.var 0)
  rw [eval_var, show (ctx0 W e).env.v 0 = n by subst he; rfl] at this
  rw [show IntKind.i64.wrap n = n from hn] at this
  exact this

set_option maxRecDepth 100000 in
theorem contract (H : Type) (enc : TypeId × Value → H) (W : World) (base : Nat) (args : Array Value) (ds gs : List (DataW H)) (before : List MemPlace)
    (hval : ∀ (j : Nat) t v, Tryd.f3.params[j]? = some t → args[j]? = some v → Value.okWide Tryd.prog W .any base t v)
    (hW : DataW.Whole enc Tryd.prog Tryd.f3.params.toList Rows.vmCountsSpec.vars false W args.toList ds gs before) :
    Calls Tryd.prog 3 args W fun e W' => ∃ v, e = .returned v ∧ Rows.vmCountsSpec.post enc Tryd.prog Tryd.f3 false true false false W args v W' := by
  have hW' := hW
  obtain ⟨p, q, hA0, hV, rfl, hfz, hnd⟩ := hW
  have hA : DataW.TrodAll enc Tryd.prog W 0 (fun _ => true) true Tryd.f3.params.toList args.toList ds p := hA0
  rw [Tryd.params3] at hA hval
  obtain ⟨v0, v1, v2, d0, d1, d2, p0, p1, p2, rfl, rfl, rfl, h0, h1, h2⟩ := trodAll_three hA
  obtain ⟨rfl, rfl⟩ := trodVars_none hV
  have h0k := h0
  have h1k := h1
  have h2k := h2
  obtain ⟨n, rfl, rfl, rfl, wn⟩ := open_int Tryd.underlying3 (hval 0 3 v0 rfl rfl) h0
  obtain ⟨a1, l1, c1, rfl⟩ := okWide_slice Tryd.underlying22 (hval 1 22 v1 rfl rfl)
  obtain ⟨a2, l2, c2, rfl⟩ := okWide_slice Tryd.underlying23 (hval 2 23 v2 rfl rfl)
  obtain ⟨fu1, hf1⟩ := h1
  obtain ⟨fu2, hf2⟩ := h2
  have hxs : ∃ xs : List Int, xs.length < 9223372036854775808 ∧ (∀ x ∈ xs, wr x = x) ∧ ∀ e : SEnv, e.rows 0 = (xs.map fun x => AVal.int .i64 x).map (fun x => [x]) → VR (ctx0 W e) (.arr 0) (.slice a1 l1 c1) := by
    rcases open_ints Tryd.underlying22 Tryd.underlying2 cells2 hf1 with ⟨hcs, hx⟩ | ⟨a, len', cap', zs, hcs, _, hl, hm, hz, hx, hcell, hwz⟩
    · simp [Value.cells] at hcs
      obtain ⟨rfl, rfl, rfl⟩ := hcs
      exact ⟨[], by simp, by simp, fun e he => .arrNil he⟩
    · simp [Value.cells] at hcs
      obtain ⟨rfl, rfl, rfl⟩ := hcs
      simp only [if_true] at hz
      have hmax : maxLen = 9223372036854775807 := rfl
      refine ⟨zs.take l1, by rw [List.length_take]; omega, fun x hx => wf_wr (hwz x (List.mem_of_mem_take hx)), fun e he => ?_⟩
      refine vr_row _ he (by simp; omega) hl fun i x hx => ?_
      rw [List.getElem?_map, Option.map_eq_some_iff] at hx
      obtain ⟨z, hz', rfl⟩ := hx
      have hi : i < l1 := by have := (List.getElem?_eq_some_iff.1 hz').1; simp at this; omega
      rw [List.getElem?_take_of_lt hi] at hz'
      refine ⟨.int .i64 z, rfl, ?_⟩
      have := hcell i (by omega)
      rw [List.getD_eq_getElem?_getD, hz'] at this
      exact this
  have hbs : ∃ bs : List Bool, bs.length < 9223372036854775808 ∧ ∀ e : SEnv, e.rows 1 = (bs.map fun x => AVal.bool x).map (fun x => [x]) → VR (ctx0 W e) (.arr 1) (.slice a2 l2 c2) := by
    rcases open_bools Tryd.underlying23 Tryd.underlying4 cells4 hf2 with hcs | ⟨a, len', cap', bs, hcs, hl, hm, hz, hcell⟩
    · simp [Value.cells] at hcs
      obtain ⟨rfl, rfl, rfl⟩ := hcs
      exact ⟨[], by simp, fun e he => .arrNil he⟩
    · simp [Value.cells] at hcs
      obtain ⟨rfl, rfl, rfl⟩ := hcs
      have hmax : maxLen = 9223372036854775807 := rfl
      refine ⟨bs, by omega, fun e he => ?_⟩
      refine vr_row _ he (by simp; omega) hl fun i x hx => ?_
      rw [List.getElem?_map, Option.map_eq_some_iff] at hx
      obtain ⟨z, hz', rfl⟩ := hx
      have hi : i < l2 := by have := (List.getElem?_eq_some_iff.1 hz').1; omega
      refine ⟨.bool z, rfl, ?_⟩
      have := hcell i hi
      rw [List.getD_eq_getElem?_getD, hz'] at this
      exact this
  obtain ⟨xs, x1, x2, x3⟩ := hxs
  obtain ⟨bs, b1, b3⟩ := hbs
  clear hA0
  have hlt : ∀ x ∈ p1 ++ p2, x.block < W.heap.size := fun x hx => hW'.lt x (by simp at hx ⊢; exact hx)
  refine (run_any W n (wf_wr wn) _ _ ⟨n, xs, bs, x1, b1, x2⟩ (fun e he => x3 e (by rw [he]; simp [In.rows])) (fun e he => b3 e (by rw [he]; simp [In.rows]))).mono ?_
  rintro ex W' ⟨rfl, hB⟩
  refine ⟨_, rfl, _, _, _, [], [] ++ (p1 ++ (p2 ++ [])), [], hW', ?_, ?_, rfl, hB.frame _, fun h => by cases h⟩
  · exact trodAll_cons_mk (shut_bool Tryd.underlying4 _) trodAll_mk0
  · have r1 := Below.trod laidOut (by kernel_rfl) (of_decide_eq_true (by kernel_rfl)) h1k hB (fun x hx => hlt x (by simp [hx]))
    have r2 := Below.trod laidOut (by kernel_rfl) (of_decide_eq_true (by kernel_rfl)) h2k hB (fun x hx => hlt x (by simp [hx]))
    have := trodAll_cons_mk (shut_int (enc := enc) (w := W') (base := 0) (spare := fun b => decide (b < W.heap.size)) (held := true) Tryd.underlying3 wn) (trodAll_cons_mk r1 (trodAll_cons_mk r2 trodAll_mk0))
    rw [Tryd.params3]
    exact this

/-- a world for the witness: the door's own -/
theorem met (os : Os) (args : Array Value) : laidMetH Tryd.prog Rows.vmCountsRow.laid ((World.doorLaid Tryd.prog 2000 os).forCall (fun _ _ => 0) ⟨#[], args, []⟩).memory :=
  laidMetH_of_parts3 (fuel := 8) (laidMet_of_run' 8 (by kernel_rfl) (by kernel_rfl)) (by kernel_rfl) (by kernel_rfl)

end Go.Proofs.YtdbcojhhdjlbiaaDoor

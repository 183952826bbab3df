/- The environment with an operator of two numbers beside. -/
import Derived.Test.YtdbcojhhdjlbiaaDoorE23
namespace Go.Pend

def env2 (P : Program) (gl : Nat → Option AVal) (fs : List Nat) (K two : Nat) (add sub mul : Int) (e : SEnv) (F : List Fact) : Env :=
  { mkEnv P gl (fun f => bif Nat.beq f two then some (ovTwo (fun args H => callA (env0 P gl e) (exec (env0 P gl e) K) false two args H) add sub mul)
      else bif fs.any (Nat.beq f) then some (ovN (env0 P gl e) K f) else none) with env := e, facts := F }

theorem fam2 (P : Program) (gl : Nat → Option AVal) (fs : List Nat) (K two : Nat) (add sub mul : Int) : Fam (env2 P gl fs K two add sub mul) := ⟨fun _ _ _ _ => rfl, fun _ _ => rfl, fun _ _ => rfl⟩

theorem env2_ok {P : Program} (gl : Nat → Option AVal) (fs : List Nat) (K two : Nat) (add sub mul : Int) (hm : P.follows .mixedOrders = true) (hn : (P.funcs.toList.all fun fn => !(fn.name == "runtime.NumGoroutine")) = true)
    (hent : Entered P two)
    (hadd : ∀ e n F, F ∈ cases2 → callA (env1 P gl [] K e F) (exec (env1 P gl [] K e F) K) false two [.int .i64 add, .sym (.var 0), .sym (.var 1)] ⟨.leaf, n⟩ = some (.tup [.sym ((Lin.var 0).add (.var 1)), .bool true], ⟨.leaf, n⟩))
    (hsub : ∀ e n F, F ∈ cases2 → callA (env1 P gl [] K e F) (exec (env1 P gl [] K e F) K) false two [.int .i64 sub, .sym (.var 0), .sym (.var 1)] ⟨.leaf, n⟩ = some (.tup [.sym ((Lin.var 0).sub (.var 1)), .bool true], ⟨.leaf, n⟩))
    (hmul : ∀ e n F, F ∈ cases2 → callA (env1 P gl [] K e F) (exec (env1 P gl [] K e F) K) false two [.int .i64 mul, .sym (.var 0), .sym (.var 1)] ⟨.leaf, n⟩ = some (.tup [.sym (.var 4), .bool true], ⟨.leaf, n⟩))
    (e : SEnv) (F : List Fact) : ProgOK P (env2 P gl fs K two add sub mul e F) := by
  refine ⟨⟨(mkEnv_ok P gl fun _ => none).ty, (mkEnv_ok P gl fun _ => none).fn⟩, hm, num_of hn, fun f g h args H v H' hg => ?_⟩
  simp only [env2, mkEnv] at h
  cases hb : Nat.beq f two with
  | true =>
    rw [hb] at h
    simp only [cond_true, Option.some.injEq] at h; subst h
    have := Nat.eq_of_beq_eq_true hb; subst this
    obtain ⟨h1, h2⟩ := ovTwo_sound (EE := env1 P gl [] K) (K := K) (f := f) (e0 := e) (F0 := []) (fam1 P gl [] K) (fun e F => env1_ok gl [] K e F hm hn) hadd hsub hmul hent
      (fun args H v H' hd => by
        obtain ⟨k1, k2⟩ := (env0_ok gl e hm hn).call hd
        exact ⟨k1, k2.env rfl rfl (fun f hf => by cases hf)⟩) hg
    exact ⟨h1, h2.env rfl rfl (fun f hf => by cases hf)⟩
  | false =>
    rw [hb] at h
    simp only [cond_false] at h
    cases hc : fs.any (Nat.beq f) with
    | false => rw [hc] at h; cases h
    | true =>
      rw [hc] at h
      simp only [cond_true, Option.some.injEq] at h; subst h
      obtain ⟨h1, h2⟩ := ovN_sound (env0_ok gl e hm hn) hg
      exact ⟨h1, h2.env rfl rfl (fun f hf => by cases hf)⟩

end Go.Pend

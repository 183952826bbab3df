/- VmCounts: the environment. -/
import Derived.Test.YtdbcojhhdjlbiaaDoorE25
import Derived.Test.YtdbcojhhdjlbiaaDoorProg
import Derived.KernelRfl
namespace Go.Proofs.YtdbcojhhdjlbiaaDoor
open Go.Pend

def KK : Nat := 100000
def noG : Nat → Option AVal := fun _ => none
theorem mixed : Tryd.prog.follows .mixedOrders = true := by kernel_rfl
theorem named : (Tryd.prog.funcs.toList.all fun fn => !(fn.name == "runtime.NumGoroutine")) = true := by kernel_rfl
theorem ent32 : Entered Tryd.prog 32 := ⟨_, Tryd.func32, by kernel_rfl, by kernel_rfl⟩

theorem add32 : ∀ e n F, F ∈ cases2 → callA (env1 Tryd.prog noG [] KK e F) (exec (env1 Tryd.prog noG [] KK e F) KK) false 32 [.int .i64 6, .sym (.var 0), .sym (.var 1)] ⟨.leaf, n⟩ = some (.tup [.sym ((Lin.var 0).add (.var 1)), .bool true], ⟨.leaf, n⟩) := by
  intro e n F hF
  simp only [cases2, List.mem_cons, List.not_mem_nil, or_false] at hF
  rcases hF with rfl | rfl | rfl | rfl <;> kernel_rfl
theorem sub32 : ∀ e n F, F ∈ cases2 → callA (env1 Tryd.prog noG [] KK e F) (exec (env1 Tryd.prog noG [] KK e F) KK) false 32 [.int .i64 7, .sym (.var 0), .sym (.var 1)] ⟨.leaf, n⟩ = some (.tup [.sym ((Lin.var 0).sub (.var 1)), .bool true], ⟨.leaf, n⟩) := by
  intro e n F hF
  simp only [cases2, List.mem_cons, List.not_mem_nil, or_false] at hF
  rcases hF with rfl | rfl | rfl | rfl <;> kernel_rfl
theorem mul32 : ∀ e n F, F ∈ cases2 → callA (env1 Tryd.prog noG [] KK e F) (exec (env1 Tryd.prog noG [] KK e F) KK) false 32 [.int .i64 8, .sym (.var 0), .sym (.var 1)] ⟨.leaf, n⟩ = some (.tup [.sym (.var 4), .bool true], ⟨.leaf, n⟩) := by
  intro e n F hF
  simp only [cases2, List.mem_cons, List.not_mem_nil, or_false] at hF
  rcases hF with rfl | rfl | rfl | rfl <;> kernel_rfl

/-- the environment: maps are ranged over in lay.Uses; mean.Two -/
noncomputable def EE : SEnv → List Fact → Env := env2 Tryd.prog noG [22] KK 32 6 7 8
theorem famE : Fam EE := fam2 _ _ _ _ _ _ _ _
theorem okE (e : SEnv) (F : List Fact) : ProgOK Tryd.prog (EE e F) := env2_ok noG [22] KK 32 6 7 8 mixed named ent32 add32 sub32 mul32 e F

end Go.Proofs.YtdbcojhhdjlbiaaDoor

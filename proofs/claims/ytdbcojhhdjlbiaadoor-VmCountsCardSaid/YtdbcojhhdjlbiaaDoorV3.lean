/- VmCounts: the way to its loop, by the kernel. -/
import Derived.Test.YtdbcojhhdjlbiaaDoorV1
namespace Go.Proofs.YtdbcojhhdjlbiaaDoor
open Go.Pend

noncomputable def start : St := ⟨PT.ofFrom 0 [.sym (.var 0), .arr 0, .arr 1] .leaf, ⟨.leaf, 0⟩, Tryd.f3.ntmps⟩
noncomputable def retTrue (E : Env) (c : Code) (s : St) : Bool := match exec E KK false c s with
  | some (.ret s) => match s.T.get 6 with | some (.bool b) => b | _ => false
  | _ => false
def Fz (z : Int) : List Fact := [.div false (.var 0) ⟨6, []⟩ ⟨z, []⟩]
def FA : List Fact := [.len 0 (.var 1), .lss ⟨20, []⟩ (.var 1) true]
def FB : List Fact := [.len 0 (.var 1), .len 1 (.var 2), .lss ⟨20, []⟩ (.var 1) false, .lss ⟨20, []⟩ (.var 2) true]
def sub0 (n : Nat) : List (Nat × Lin) := (3, ⟨0, []⟩) :: (List.range n).map fun j => (20 + j, ⟨0, []⟩)
/-- the loop's head is come to -/
noncomputable def heads (E : Env) (n : Nat) (s : St) (ks L vs : List Nat) (d : SD) : Bool :=
  match dropC 11 body3 with
  | .seq (.seq a _) _ => match exec E KK false a s with
    | some (.next s') => cutRe (sub0 n) ks L s' d && d.uses vs
    | _ => false
  | _ => false

theorem st1 (e : SEnv) : stageB (EE e []) KK false 3 body3 start 0 [0, 1, 2, 7] [] [0] d1 = true := by kernel_rfl
theorem tooA (e : SEnv) (n : Int) : retTrue (EE e FA) (dropC 4 body3) (d2 n).st = true := by kernel_rfl
theorem tooB (e : SEnv) (n : Int) : retTrue (EE e FB) (dropC 4 body3) (d2 n).st = true := by kernel_rfl
theorem last (e : SEnv) (F : List Fact) : retTrue (EE e F) (dropC 12 body3) dEnd.st = true := by kernel_rfl
theorem st2_m5 (e : SEnv) : stageB (EE e (Fz (-5))) KK false 1 (dropC 3 body3) d1.st 0 [0, 1, 2, 7] [] [] (d2 2) = true := by kernel_rfl
theorem st2_m4 (e : SEnv) : stageB (EE e (Fz (-4))) KK false 1 (dropC 3 body3) d1.st 0 [0, 1, 2, 7] [] [] (d2 3) = true := by kernel_rfl
theorem st2_m3 (e : SEnv) : stageB (EE e (Fz (-3))) KK false 1 (dropC 3 body3) d1.st 0 [0, 1, 2, 7] [] [] (d2 4) = true := by kernel_rfl
theorem st2_m2 (e : SEnv) : stageB (EE e (Fz (-2))) KK false 1 (dropC 3 body3) d1.st 0 [0, 1, 2, 7] [] [] (d2 5) = true := by kernel_rfl
theorem st2_m1 (e : SEnv) : stageB (EE e (Fz (-1))) KK false 1 (dropC 3 body3) d1.st 0 [0, 1, 2, 7] [] [] (d2 6) = true := by kernel_rfl
theorem st2_p0 (e : SEnv) : stageB (EE e (Fz (0))) KK false 1 (dropC 3 body3) d1.st 0 [0, 1, 2, 7] [] [] (d2 1) = true := by kernel_rfl
theorem st2_p1 (e : SEnv) : stageB (EE e (Fz (1))) KK false 1 (dropC 3 body3) d1.st 0 [0, 1, 2, 7] [] [] (d2 2) = true := by kernel_rfl
theorem st2_p2 (e : SEnv) : stageB (EE e (Fz (2))) KK false 1 (dropC 3 body3) d1.st 0 [0, 1, 2, 7] [] [] (d2 3) = true := by kernel_rfl
theorem st2_p3 (e : SEnv) : stageB (EE e (Fz (3))) KK false 1 (dropC 3 body3) d1.st 0 [0, 1, 2, 7] [] [] (d2 4) = true := by kernel_rfl
theorem st2_p4 (e : SEnv) : stageB (EE e (Fz (4))) KK false 1 (dropC 3 body3) d1.st 0 [0, 1, 2, 7] [] [] (d2 5) = true := by kernel_rfl
theorem st2_p5 (e : SEnv) : stageB (EE e (Fz (5))) KK false 1 (dropC 3 body3) d1.st 0 [0, 1, 2, 7] [] [] (d2 6) = true := by kernel_rfl
theorem st3_1 (e : SEnv) : stageB (EE e F3) KK false 7 (dropC 4 body3) (d2 1).st 0 [0, 1, 2, 10, 12] d3_1L [] d3_1 = true := by kernel_rfl
theorem head_1 (e : SEnv) : heads (EE e F3) 1 d3_1.st [0, 1, 2, 10, 12, 13] [0, 1, 2, 3, 4, 5, 6, 7, 8, 9, 10, 11, 12, 13, 14, 15, 16] [3, 20] h3_1 = true := by kernel_rfl
theorem st3_2 (e : SEnv) : stageB (EE e F3) KK false 7 (dropC 4 body3) (d2 2).st 0 [0, 1, 2, 10, 12] d3_2L [] d3_2 = true := by kernel_rfl
theorem head_2 (e : SEnv) : heads (EE e F3) 2 d3_2.st [0, 1, 2, 10, 12, 13] [0, 1, 2, 3, 4, 5, 6, 7, 8, 9, 10, 11, 12, 13, 14, 15, 16, 17] [3, 20, 21] h3_2 = true := by kernel_rfl
theorem st3_3 (e : SEnv) : stageB (EE e F3) KK false 7 (dropC 4 body3) (d2 3).st 0 [0, 1, 2, 10, 12] d3_3L [] d3_3 = true := by kernel_rfl
theorem head_3 (e : SEnv) : heads (EE e F3) 3 d3_3.st [0, 1, 2, 10, 12, 13] [0, 1, 2, 3, 4, 5, 6, 7, 8, 9, 10, 11, 12, 13, 14, 15, 16, 17, 18] [3, 20, 21, 22] h3_3 = true := by kernel_rfl
theorem st3_4 (e : SEnv) : stageB (EE e F3) KK false 7 (dropC 4 body3) (d2 4).st 0 [0, 1, 2, 10, 12] d3_4L [] d3_4 = true := by kernel_rfl
theorem head_4 (e : SEnv) : heads (EE e F3) 4 d3_4.st [0, 1, 2, 10, 12, 13] [0, 1, 2, 3, 4, 5, 6, 7, 8, 9, 10, 11, 12, 13, 14, 15, 16, 17, 18, 19] [3, 20, 21, 22, 23] h3_4 = true := by kernel_rfl
theorem st3_5 (e : SEnv) : stageB (EE e F3) KK false 7 (dropC 4 body3) (d2 5).st 0 [0, 1, 2, 10, 12] d3_5L [] d3_5 = true := by kernel_rfl
theorem head_5 (e : SEnv) : heads (EE e F3) 5 d3_5.st [0, 1, 2, 10, 12, 13] [0, 1, 2, 3, 4, 5, 6, 7, 8, 9, 10, 11, 12, 13, 14, 15, 16, 17, 18, 19, 20] [3, 20, 21, 22, 23, 24] h3_5 = true := by kernel_rfl
theorem st3_6 (e : SEnv) : stageB (EE e F3) KK false 7 (dropC 4 body3) (d2 6).st 0 [0, 1, 2, 10, 12] d3_6L [] d3_6 = true := by kernel_rfl
theorem head_6 (e : SEnv) : heads (EE e F3) 6 d3_6.st [0, 1, 2, 10, 12, 13] [0, 1, 2, 3, 4, 5, 6, 7, 8, 9, 10, 11, 12, 13, 14, 15, 16, 17, 18, 19, 20, 21] [3, 20, 21, 22, 23, 24, 25] h3_6 = true := by kernel_rfl

end Go.Proofs.YtdbcojhhdjlbiaaDoor

/- VmCounts: the call, whatever comes in. -/
import Derived.Test.YtdbcojhhdjlbiaaDoorV2
import Derived.Test.YtdbcojhhdjlbiaaDoorV3
import Derived.Test.YtdbcojhhdjlbiaaDoorV4
namespace Go.Proofs.YtdbcojhhdjlbiaaDoor
open Go.Pend

def RT (o : Out) : Prop := ∃ s, o = .ret s ∧ s.T.get 6 = some (.bool true)

theorem retTrue_spec {e : SEnv} {F : List Fact} {c : Code} {s : St} (h : retTrue (EE e F) c s = true) : ACodeK Tryd.prog (EE e F) false 0 c s RT := by
  unfold retTrue at h
  split at h
  · rename_i s' hs
    split at h
    · rename_i b hb
      subst h
      exact (okE e F).run hs (Nat.zero_le _) ⟨s', rfl, hb⟩
    · cases h
  · cases h

noncomputable def rA : Code := match dropC 11 body3 with | .seq (.seq a _) _ => a | _ => .skip
theorem shape11 : dropC 11 body3 = .seq (.seq rA (.block 2 (.loop loop3))) (dropC 12 body3) := by kernel_rfl
theorem drop47 : dropC 7 (dropC 4 body3) = dropC 11 body3 := by kernel_rfl
theorem drop31 : dropC 1 (dropC 3 body3) = dropC 4 body3 := by kernel_rfl

theorem after2 (q : In) {e : SEnv} (hr : e.rows = q.rows) (v1 : e.v 1 = q.xs.length) (v2 : e.v 2 = q.bs.length) {n : Nat} {d3 h3 : SD} {L3 ks L vs ks' L' : List Nat}
    (hst3 : ∀ e, stageB (EE e F3) KK false 7 (dropC 4 body3) (d2 n).st 0 [0, 1, 2, 10, 12] L3 [] d3 = true) (hhead : ∀ e, heads (EE e F3) n d3.st ks' L' vs h3 = true)
    (c0 : ∀ e, ends (EE e Fout) h3 0 = true) (c1 : ∀ e, goes (EE e Fno) h3 (sub3 n false) ks L vs = true)
    (c2 : ∀ e, goes (EE e (Fmade false)) h3 (sub3 n false) ks L vs = true) (c3 : ∀ e, goes (EE e (Fmade true)) h3 (sub3 n true) ks L vs = true) (hv : 10 ∉ vs)
    (s1 : ∀ b, getL 1 (sub3 n b) = .var 1) (s2 : ∀ b, getL 2 (sub3 n b) = .var 2) (z1 : getL 1 (sub0 n) = .var 1) (z2 : getL 2 (sub0 n) = .var 2) :
    ∃ F', Known e F' ∧ ACodeK Tryd.prog (EE e F') false 0 (dropC 4 body3) (d2 n).st RT := by
  have hl := lens_known hr v1 v2
  have l0 := hl (.len 0 (.var 1)) (by simp [lens])
  have l1 := hl (.len 1 (.var 2)) (by simp [lens])
  have w1 : wr (e.v 1) = q.xs.length := by rw [v1]; exact wr_small q.hx
  have w2 : wr (e.v 2) = q.bs.length := by rw [v2]; exact wr_small q.hb
  have w20 : wr ((⟨20, []⟩ : Lin).eval e.v) = 20 := by rw [eval_const _ rfl]; exact wr_small (n := 20) (by omega)
  by_cases hA : 20 < q.xs.length
  · refine ⟨FA, ?_, retTrue_spec (tooA e n)⟩
    intro f hf
    simp only [FA, List.mem_cons, List.not_mem_nil, or_false] at hf
    rcases hf with rfl | rfl
    · exact l0
    · simp only [Fact.holds, eval_var, w20, w1]; simp; omega
  · have k1 : (Fact.lss ⟨20, []⟩ (.var 1) false).holds e := by simp only [Fact.holds, eval_var, w20, w1]; simp; omega
    by_cases hB : 20 < q.bs.length
    · refine ⟨FB, ?_, retTrue_spec (tooB e n)⟩
      intro f hf
      simp only [FB, List.mem_cons, List.not_mem_nil, or_false] at hf
      rcases hf with rfl | rfl | rfl | rfl
      · exact l0
      · exact l1
      · exact k1
      · simp only [Fact.holds, eval_var, w20, w2]; simp; omega
    · have k2 : (Fact.lss ⟨20, []⟩ (.var 2) false).holds e := by simp only [Fact.holds, eval_var, w20, w2]; simp; omega
      have hk : Known e F3 := by
        intro f hf
        simp only [F3, List.mem_cons, List.not_mem_nil, or_false] at hf
        rcases hf with rfl | rfl | rfl | rfl
        · exact l0
        · exact l1
        · exact k1
        · exact k2
      refine ⟨F3, hk, stage famE (okE e F3) (hst3 e) hk (Nat.zero_le _) ?_⟩
      rw [drop47, shape11]
      refine acode_seq ?_
      have hh := hhead e
      unfold heads at hh
      rw [shape11] at hh
      simp only at hh
      split at hh
      · rename_i s' hs
        rw [Bool.and_eq_true] at hh
        refine (okE e F3).then hs (Nat.zero_le _) fun _ => ?_
        obtain ⟨e', he'⟩ : ∃ e' : SEnv, e' = ⟨fun v => if v = 10 then q.xs.getD 0 0 else (e.sub (sub0 n)).v v, e.rows⟩ := ⟨_, rfl⟩
        have hat : At q e' 0 := by
          subst he'
          refine ⟨hr, ?_, ?_, ?_, Nat.zero_le _, ?_⟩
          · simp only [SEnv.sub, z1, eval_var]; simp [v1]
          · simp only [SEnv.sub, z2, eval_var]; simp [v2]
          · have z3 : getL 3 (sub0 n) = ⟨0, []⟩ := rfl
            simp only [SEnv.sub, z3, Lin.eval, evalT]; simp
          · intro x hx
            simp [hx]
        obtain ⟨F0, hF0⟩ := case_any q 0 (Nat.zero_le _)
        have hto : To 0 e e' s' h3 := ⟨sub0 n, ks', L', vs, rfl, hh.1, hh.2, ⟨(by intro u hu; subst he'; simp only; rw [if_neg (fun (h : u = 10) => hv (h ▸ hu))]), by subst he'; rfl⟩⟩
        refine ACodeK.other famE hto (case_known hat hF0) (Nat.zero_le _) ?_
        refine acode_block ((loop_any q c0 c1 c2 c3 hv s1 s2 hat hF0).mono ?_)
        rintro _ rfl
        simp only [if_true]
        refine ⟨_, .next (d := dEnd) ⟨[], [], [], [], rfl, rfl, rfl, ⟨(by intro u hu; cases hu), by subst he'; rfl⟩⟩, ?_⟩
        exact retTrue_spec (last e F3)
      · cases hh

theorem res3 {E : Env} {s : St} {v : AVal} (h : s.T.get 6 = some v) : resA E Tryd.f3 s = some v := by
  have hr : Tryd.f3.results.toList = [.tmp 6] := by kernel_rfl
  simp [resA, hr, resAll, resOne, h]

theorem known_z {e : SEnv} {z : Int} (h : (wr (e.v 0)).tmod 6 = z) (hz : -6 < z ∧ z < 6) : Known e (Fz z) := by
  intro f hf
  simp only [Fz, List.mem_cons, List.not_mem_nil, or_false] at hf
  subst hf
  have w6 : wr ((⟨6, []⟩ : Lin).eval e.v) = 6 := by rw [eval_const _ rfl]; exact wr_small (n := 6) (by omega)
  have wz : wr ((⟨z, []⟩ : Lin).eval e.v) = z := by
    rw [eval_const _ rfl]
    show wr z = z
    rw [wr_def]
    split <;> omega
  refine ⟨by rw [w6]; omega, ?_⟩
  rw [if_neg (by simp), w6, wz, eval_var]; exact h

theorem tmod6 (n : Int) : -6 < n.tmod 6 ∧ n.tmod 6 < 6 := by
  have h := Int.natAbs_tmod n 6
  have : (n.tmod 6).natAbs < 6 := by rw [h]; exact Nat.mod_lt _ (by decide)
  omega

theorem counts_calls (q : In) {e : SEnv} (hr : e.rows = q.rows) (v1 : e.v 1 = q.xs.length) (v2 : e.v 2 = q.bs.length) :
    ACalls Tryd.prog (EE e []) 3 [.sym (.var 0), .arr 0, .arr 1] ⟨.leaf, 0⟩ fun v _ => v = .bool true := by
  have hb : Tryd.f3.body = some body3 := by kernel_rfl
  refine acalls_of_codeK (okE e []).env Tryd.func3 hb (by rw [Tryd.ntmps3]; decide) ?_
  show ACodeK Tryd.prog (EE e []) false 0 body3 start _
  have hz := tmod6 (wr (e.v 0))
  obtain ⟨z, hzz⟩ : ∃ z, (wr (e.v 0)).tmod 6 = z := ⟨_, rfl⟩
  rw [hzz] at hz
  have hkz := known_z hzz hz
  refine (stage famE (F' := Fz z) (okE e []) (st1 e) hkz (Nat.zero_le _) (R := RT) ?_).mono ?_
  · have go : ∀ {n : Nat}, stageB (EE e (Fz z)) KK false 1 (dropC 3 body3) d1.st 0 [0, 1, 2, 7] [] [] (d2 n) = true → (∃ F', Known e F' ∧ ACodeK Tryd.prog (EE e F') false 0 (dropC 4 body3) (d2 n).st RT) →
        ACodeK Tryd.prog (EE e (Fz z)) false 0 (dropC 3 body3) d1.st RT := by
      rintro n hs ⟨F', hk, h⟩
      refine stage famE (okE e (Fz z)) hs hk (Nat.zero_le _) ?_
      rw [drop31]; exact h
    have a1 := after2 q hr v1 v2 (n := 1) st3_1 head_1 ends_1 no_1 made_1 anew_1 (by decide) (fun b => by cases b <;> rfl) (fun b => by cases b <;> rfl) rfl rfl
    have a2 := after2 q hr v1 v2 (n := 2) st3_2 head_2 ends_2 no_2 made_2 anew_2 (by decide) (fun b => by cases b <;> rfl) (fun b => by cases b <;> rfl) rfl rfl
    have a3 := after2 q hr v1 v2 (n := 3) st3_3 head_3 ends_3 no_3 made_3 anew_3 (by decide) (fun b => by cases b <;> rfl) (fun b => by cases b <;> rfl) rfl rfl
    have a4 := after2 q hr v1 v2 (n := 4) st3_4 head_4 ends_4 no_4 made_4 anew_4 (by decide) (fun b => by cases b <;> rfl) (fun b => by cases b <;> rfl) rfl rfl
    have a5 := after2 q hr v1 v2 (n := 5) st3_5 head_5 ends_5 no_5 made_5 anew_5 (by decide) (fun b => by cases b <;> rfl) (fun b => by cases b <;> rfl) rfl rfl
    have a6 := after2 q hr v1 v2 (n := 6) st3_6 head_6 ends_6 no_6 made_6 anew_6 (by decide) (fun b => by cases b <;> rfl) (fun b => by cases b <;> rfl) rfl rfl
    have hcase : z = -5 ∨ z = -4 ∨ z = -3 ∨ z = -2 ∨ z = -1 ∨ z = 0 ∨ z = 1 ∨ z = 2 ∨ z = 3 ∨ z = 4 ∨ z = 5 := by omega
    rcases hcase with rfl | rfl | rfl | rfl | rfl | rfl | rfl | rfl | rfl | rfl | rfl
    · exact go (st2_m5 e) a2
    · exact go (st2_m4 e) a3
    · exact go (st2_m3 e) a4
    · exact go (st2_m2 e) a5
    · exact go (st2_m1 e) a6
    · exact go (st2_p0 e) a1
    · exact go (st2_p1 e) a2
    · exact go (st2_p2 e) a3
    · exact go (st2_p3 e) a4
    · exact go (st2_p4 e) a5
    · exact go (st2_p5 e) a6
  · rintro o ⟨s, rfl, h6⟩
    exact ⟨s, .bool true, .inl rfl, res3 h6, rfl⟩

end Go.Proofs.YtdbcojhhdjlbiaaDoor

/- VmCounts: a round of its loop, by the kernel (gen.py). -/
import Derived.Test.YtdbcojhhdjlbiaaDoorV1
namespace Go.Proofs.YtdbcojhhdjlbiaaDoor
open Go.Pend
theorem ends_1 (e : SEnv) : ends (EE e Fout) h3_1 0 = true := by kernel_rfl
theorem no_1 (e : SEnv) : goes (EE e Fno) h3_1 (sub3 1 false) [0, 1, 2, 10, 12, 13] [0, 1, 2, 3, 4, 5, 6, 7, 8, 9, 10, 11, 12, 13, 14, 15, 16] [3, 20] = true := by kernel_rfl
theorem made_1 (e : SEnv) : goes (EE e (Fmade false)) h3_1 (sub3 1 false) [0, 1, 2, 10, 12, 13] [0, 1, 2, 3, 4, 5, 6, 7, 8, 9, 10, 11, 12, 13, 14, 15, 16] [3, 20] = true := by kernel_rfl
theorem anew_1 (e : SEnv) : goes (EE e (Fmade true)) h3_1 (sub3 1 true) [0, 1, 2, 10, 12, 13] [0, 1, 2, 3, 4, 5, 6, 7, 8, 9, 10, 11, 12, 13, 14, 15, 16] [3, 20] = true := by kernel_rfl
theorem ends_2 (e : SEnv) : ends (EE e Fout) h3_2 0 = true := by kernel_rfl
theorem no_2 (e : SEnv) : goes (EE e Fno) h3_2 (sub3 2 false) [0, 1, 2, 10, 12, 13] [0, 1, 2, 3, 4, 5, 6, 7, 8, 9, 10, 11, 12, 13, 14, 15, 16, 17] [3, 20, 21] = true := by kernel_rfl
theorem made_2 (e : SEnv) : goes (EE e (Fmade false)) h3_2 (sub3 2 false) [0, 1, 2, 10, 12, 13] [0, 1, 2, 3, 4, 5, 6, 7, 8, 9, 10, 11, 12, 13, 14, 15, 16, 17] [3, 20, 21] = true := by kernel_rfl
theorem anew_2 (e : SEnv) : goes (EE e (Fmade true)) h3_2 (sub3 2 true) [0, 1, 2, 10, 12, 13] [0, 1, 2, 3, 4, 5, 6, 7, 8, 9, 10, 11, 12, 13, 14, 15, 16, 17] [3, 20, 21] = true := by kernel_rfl
theorem ends_3 (e : SEnv) : ends (EE e Fout) h3_3 0 = true := by kernel_rfl
theorem no_3 (e : SEnv) : goes (EE e Fno) h3_3 (sub3 3 false) [0, 1, 2, 10, 12, 13] [0, 1, 2, 3, 4, 5, 6, 7, 8, 9, 10, 11, 12, 13, 14, 15, 16, 17, 18] [3, 20, 21, 22] = true := by kernel_rfl
theorem made_3 (e : SEnv) : goes (EE e (Fmade false)) h3_3 (sub3 3 false) [0, 1, 2, 10, 12, 13] [0, 1, 2, 3, 4, 5, 6, 7, 8, 9, 10, 11, 12, 13, 14, 15, 16, 17, 18] [3, 20, 21, 22] = true := by kernel_rfl
theorem anew_3 (e : SEnv) : goes (EE e (Fmade true)) h3_3 (sub3 3 true) [0, 1, 2, 10, 12, 13] [0, 1, 2, 3, 4, 5, 6, 7, 8, 9, 10, 11, 12, 13, 14, 15, 16, 17, 18] [3, 20, 21, 22] = true := by kernel_rfl
theorem ends_4 (e : SEnv) : ends (EE e Fout) h3_4 0 = true := by kernel_rfl
theorem no_4 (e : SEnv) : goes (EE e Fno) h3_4 (sub3 4 false) [0, 1, 2, 10, 12, 13] [0, 1, 2, 3, 4, 5, 6, 7, 8, 9, 10, 11, 12, 13, 14, 15, 16, 17, 18, 19] [3, 20, 21, 22, 23] = true := by kernel_rfl
theorem made_4 (e : SEnv) : goes (EE e (Fmade false)) h3_4 (sub3 4 false) [0, 1, 2, 10, 12, 13] [0, 1, 2, 3, 4, 5, 6, 7, 8, 9, 10, 11, 12, 13, 14, 15, 16, 17, 18, 19] [3, 20, 21, 22, 23] = true := by kernel_rfl
theorem anew_4 (e : SEnv) : goes (EE e (Fmade true)) h3_4 (sub3 4 true) [0, 1, 2, 10, 12, 13] [0, 1, 2, 3, 4, 5, 6, 7, 8, 9, 10, 11, 12, 13, 14, 15, 16, 17, 18, 19] [3, 20, 21, 22, 23] = true := by kernel_rfl
theorem ends_5 (e : SEnv) : ends (EE e Fout) h3_5 0 = true := by kernel_rfl
theorem no_5 (e : SEnv) : goes (EE e Fno) h3_5 (sub3 5 false) [0, 1, 2, 10, 12, 13] [0, 1, 2, 3, 4, 5, 6, 7, 8, 9, 10, 11, 12, 13, 14, 15, 16, 17, 18, 19, 20] [3, 20, 21, 22, 23, 24] = true := by kernel_rfl
theorem made_5 (e : SEnv) : goes (EE e (Fmade false)) h3_5 (sub3 5 false) [0, 1, 2, 10, 12, 13] [0, 1, 2, 3, 4, 5, 6, 7, 8, 9, 10, 11, 12, 13, 14, 15, 16, 17, 18, 19, 20] [3, 20, 21, 22, 23, 24] = true := by kernel_rfl
theorem anew_5 (e : SEnv) : goes (EE e (Fmade true)) h3_5 (sub3 5 true) [0, 1, 2, 10, 12, 13] [0, 1, 2, 3, 4, 5, 6, 7, 8, 9, 10, 11, 12, 13, 14, 15, 16, 17, 18, 19, 20] [3, 20, 21, 22, 23, 24] = true := by kernel_rfl
theorem ends_6 (e : SEnv) : ends (EE e Fout) h3_6 0 = true := by kernel_rfl
theorem no_6 (e : SEnv) : goes (EE e Fno) h3_6 (sub3 6 false) [0, 1, 2, 10, 12, 13] [0, 1, 2, 3, 4, 5, 6, 7, 8, 9, 10, 11, 12, 13, 14, 15, 16, 17, 18, 19, 20, 21] [3, 20, 21, 22, 23, 24, 25] = true := by kernel_rfl
theorem made_6 (e : SEnv) : goes (EE e (Fmade false)) h3_6 (sub3 6 false) [0, 1, 2, 10, 12, 13] [0, 1, 2, 3, 4, 5, 6, 7, 8, 9, 10, 11, 12, 13, 14, 15, 16, 17, 18, 19, 20, 21] [3, 20, 21, 22, 23, 24, 25] = true := by kernel_rfl
theorem anew_6 (e : SEnv) : goes (EE e (Fmade true)) h3_6 (sub3 6 true) [0, 1, 2, 10, 12, 13] [0, 1, 2, 3, 4, 5, 6, 7, 8, 9, 10, 11, 12, 13, 14, 15, 16, 17, 18, 19, 20, 21] [3, 20, 21, 22, 23, 24, 25] = true := by kernel_rfl

end Go.Proofs.YtdbcojhhdjlbiaaDoor

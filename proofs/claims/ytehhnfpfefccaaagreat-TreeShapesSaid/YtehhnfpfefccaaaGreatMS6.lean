/- Lemmas and walks: R10, R11, R12, R13, KD. -/
import Derived.Test.YtehhnfpfefccaaaGreatMS5
import Derived.Test.YtehhnfpfefccaaaGreatMS3
import Derived.Laws.Entries
/- Lists that lie apart: none of them. -/

set_option linter.unusedVariables false
set_option linter.unusedSimpArgs false
set_option maxRecDepth 100000
set_option maxHeartbeats 8000000
namespace Go.Proofs.YtehhnfpfefccaaaGreat
open Go Go.RowKit HL
theorem flatLimbs0 : CSpec Tryz.prog 50 [.one (.sl 0 none 0 0)] [] [] fun o L => o = .ret (vb true) ∧ L = [] := by
  refine k_enter Tryz.func50 rfl rfl (h := fun w0 => ?_)
  refine c_seq ?_
  refine c_region ?_
  refine l_rd r_assign ?_
  refine l_nil ?_
  refine x_then ?_
  refine c_seq ?_
  refine c_seq ?_
  refine c_region ?_
  refine l_rd r_assign ?_
  refine l_nil ?_
  refine x_then ?_
  refine c_block ?_
  refine c_loop0 3 [0, 5, 6, 7, 8, 9, 10, 11, 12, 13, 14, 15, 41, 42, 43, 44, 45, 46, 47, 48, 49, 50, 51, 52, 53, 54, 55, 56, 57, 58, 59, 60, 61, 62, 63, 64, 65, 66, 67, 68, 69, 70, 71, 72, 73, 74, 75, 76, 77, 78, 79, 80, 81, 82, 83, 84, 85, 86, 87, 88, 89, 90, 91, 92, 93, 94, 95, 96, 97, 98, 99, 100, 101, 102, 103, 104, 105, 106, 107, 108, 109, 110, 111, 112, 113, 114, 115, 116, 117, 118, 119, 120, 121, 122, 123, 124, 125, 126, 127, 128, 129, 130, 131, 132, 133, 134, 135, 136, 137, 138, 139, 140, 141, 142, 143, 144, 145, 146, 147, 148, 149, 150, 151, 152, 153, 154, 155, 156, 157, 158, 159, 160, 161, 162, 163, 164, 165, 166, 167, 168, 169, 170, 171, 172, 173, 174, 175, 176, 177, 178, 179, 180, 181, 182, 183, 184, 185, 186, 187, 188, 189, 190, 191, 192, 193, 194, 195, 196, 197, 198, 199] (h := ?_)
  refine c_seq ?_
  refine c_seq ?_
  refine c_region ?_
  refine l_rd r_move ?_
  refine l_rd r_move ?_
  refine l_rd r_len ?_
  refine l_rd r_lss ?_
  refine l_nil ?_
  refine x_then ?_
  refine c_false rfl ?_
  refine c_exit ?_
  refine x_thenE (x_thenE (x_inE (x_then ?_)))
  refine c_seq ?_
  refine c_region ?_
  refine l_rd r_move ?_
  refine l_rd r_len ?_
  refine l_do d_make0 (fun g43 => ?_)
  refine l_rd r_assign ?_
  refine l_nil ?_
  refine x_then ?_
  refine c_seq ?_
  refine c_seq ?_
  refine c_region ?_
  refine l_rd r_assign ?_
  refine l_nil ?_
  refine x_then ?_
  refine c_block ?_
  refine c_loop0 6 [0, 3, 4, 5, 9, 10, 11, 12, 13, 14, 15, 16, 17, 18, 19, 20, 21, 22, 23, 24, 25, 26, 27, 28, 29, 30, 31, 32, 33, 34, 35, 36, 37, 38, 39, 40, 41, 42, 43, 75, 76, 77, 78, 79, 80, 81, 82, 83, 84, 85, 86, 87, 88, 89, 90, 91, 92, 93, 94, 95, 96, 97, 98, 99, 100, 101, 102, 103, 104, 105, 106, 107, 108, 109, 110, 111, 112, 113, 114, 115, 116, 117, 118, 119, 120, 121, 122, 123, 124, 125, 126, 127, 128, 129, 130, 131, 132, 133, 134, 135, 136, 137, 138, 139, 140, 141, 142, 143, 144, 145, 146, 147, 148, 149, 150, 151, 152, 153, 154, 155, 156, 157, 158, 159, 160, 161, 162, 163, 164, 165, 166, 167, 168, 169, 170, 171, 172, 173, 174, 175, 176, 177, 178, 179, 180, 181, 182, 183, 184, 185, 186, 187, 188, 189, 190, 191, 192, 193, 194, 195, 196, 197, 198, 199] (h := ?_)
  refine c_seq ?_
  refine c_seq ?_
  refine c_region ?_
  refine l_rd r_move ?_
  refine l_rd r_move ?_
  refine l_rd r_len ?_
  refine l_rd r_lss ?_
  refine l_nil ?_
  refine x_then ?_
  refine c_false rfl ?_
  refine c_exit ?_
  refine x_thenE (x_thenE (x_inE (x_then ?_)))
  refine c_seq ?_
  refine c_seq ?_
  refine c_region ?_
  refine l_rd r_assign ?_
  refine l_nil ?_
  refine x_then ?_
  refine c_block ?_
  refine c_loop0 9 [0, 3, 4, 5, 6, 7, 8, 11, 12, 13, 14, 15, 16, 17, 18, 19, 20, 21, 22, 23, 24, 25, 26, 27, 28, 29, 30, 31, 32, 33, 34, 35, 36, 37, 38, 39, 40, 41, 42, 43, 44, 45, 46, 47, 48, 49, 50, 51, 52, 53, 54, 55, 56, 57, 58, 59, 60, 61, 62, 63, 64, 65, 66, 67, 68, 69, 70, 71, 72, 73, 74, 127, 128, 129, 130, 131, 132, 133, 134, 135, 136, 137, 138, 139, 140, 141, 142, 143, 144, 145, 146, 147, 148, 149, 150, 151, 152, 153, 154, 155, 156, 157, 158, 159, 160, 161, 162, 163, 164, 165, 166, 167, 168, 169, 170, 171, 172, 173, 174, 175, 176, 177, 178, 179, 180, 181, 182, 183, 184, 185, 186, 187, 188, 189, 190, 191, 192, 193, 194, 195, 196, 197, 198, 199] (h := ?_)
  refine c_seq ?_
  refine c_seq ?_
  refine c_region ?_
  refine l_rd r_move ?_
  refine l_rd r_move ?_
  refine l_rd r_len ?_
  refine l_rd r_lss ?_
  refine l_nil ?_
  refine x_then ?_
  refine c_false rfl ?_
  refine c_exit ?_
  refine x_thenE (x_thenE (x_inE (x_then ?_)))
  refine c_seq ?_
  refine c_seq ?_
  refine c_region ?_
  refine l_rd r_assign ?_
  refine l_nil ?_
  refine x_then ?_
  refine c_block ?_
  refine c_loop0 11 [0, 3, 4, 5, 6, 7, 8, 9, 10, 14, 15, 16, 17, 18, 19, 20, 21, 22, 23, 24, 25, 26, 27, 28, 29, 30, 31, 32, 33, 34, 35, 36, 37, 38, 39, 40, 41, 42, 43, 44, 45, 46, 47, 48, 49, 50, 51, 52, 53, 54, 55, 56, 57, 58, 59, 60, 61, 62, 63, 64, 65, 66, 67, 68, 69, 70, 71, 72, 73, 74, 75, 76, 77, 78, 79, 80, 81, 82, 83, 84, 85, 86, 87, 88, 89, 90, 91, 92, 93, 94, 95, 96, 97, 98, 99, 100, 101, 102, 103, 104, 105, 106, 107, 108, 109, 110, 111, 112, 113, 114, 115, 116, 117, 118, 119, 120, 121, 122, 123, 124, 125, 126, 157, 158, 159, 160, 161, 162, 163, 164, 165, 166, 167, 168, 169, 170, 171, 172, 173, 174, 175, 176, 177, 178, 179, 180, 181, 182, 183, 184, 185, 186, 187, 188, 189, 190, 191, 192, 193, 194, 195, 196, 197, 198, 199] (h := ?_)
  refine c_seq ?_
  refine c_seq ?_
  refine c_region ?_
  refine l_rd r_move ?_
  refine l_rd r_move ?_
  refine l_rd r_len ?_
  refine l_rd r_lss ?_
  refine l_nil ?_
  refine x_then ?_
  refine c_false rfl ?_
  refine c_exit ?_
  refine x_thenE (x_thenE (x_inE (x_then ?_)))
  refine c_seq ?_
  refine c_seq ?_
  refine c_region ?_
  refine l_rd r_assign ?_
  refine l_nil ?_
  refine x_then ?_
  refine c_block ?_
  refine c_loop0 14 [0, 3, 4, 5, 6, 7, 8, 9, 10, 11, 12, 13, 16, 17, 18, 19, 20, 21, 22, 23, 24, 25, 26, 27, 28, 29, 30, 31, 32, 33, 34, 35, 36, 37, 38, 39, 40, 41, 42, 43, 44, 45, 46, 47, 48, 49, 50, 51, 52, 53, 54, 55, 56, 57, 58, 59, 60, 61, 62, 63, 64, 65, 66, 67, 68, 69, 70, 71, 72, 73, 74, 75, 76, 77, 78, 79, 80, 81, 82, 83, 84, 85, 86, 87, 88, 89, 90, 91, 92, 93, 94, 95, 96, 97, 98, 99, 100, 101, 102, 103, 104, 105, 106, 107, 108, 109, 110, 111, 112, 113, 114, 115, 116, 117, 118, 119, 120, 121, 122, 123, 124, 125, 126, 127, 128, 129, 130, 131, 132, 133, 134, 135, 136, 137, 138, 139, 140, 141, 142, 143, 144, 145, 146, 147, 148, 149, 150, 151, 152, 153, 154, 155, 156] (h := ?_)
  refine c_seq ?_
  refine c_seq ?_
  refine c_region ?_
  refine l_rd r_move ?_
  refine l_rd r_move ?_
  refine l_rd r_len ?_
  refine l_rd r_lss ?_
  refine l_nil ?_
  refine x_then ?_
  refine c_false rfl ?_
  refine c_exit ?_
  refine x_thenE (x_thenE (x_inE (x_then ?_)))
  refine c_seq ?_
  refine c_region ?_
  refine l_rd r_assign ?_
  refine l_nil ?_
  refine x_then ?_
  refine c_ret ?_
  refine k_ret [] _ (.cons (.tmp rfl) .nil) (h := ?_)
  exact ⟨rfl, rfl⟩
theorem flatWords0 : CSpec Tryz.prog 51 [.one (.sl 0 none 0 0)] [] [] fun o L => o = .ret (vb true) ∧ L = [] := by
  refine k_enter Tryz.func51 rfl rfl (h := fun w0 => ?_)
  refine c_seq ?_
  refine c_region ?_
  refine l_rd r_assign ?_
  refine l_nil ?_
  refine x_then ?_
  refine c_seq ?_
  refine c_seq ?_
  refine c_region ?_
  refine l_rd r_assign ?_
  refine l_nil ?_
  refine x_then ?_
  refine c_block ?_
  refine c_loop0 3 [0, 5, 6, 7, 8, 9, 10, 11, 12, 13, 14, 15, 41, 42, 43, 44, 45, 46, 47, 48, 49, 50, 51, 52, 53, 54, 55, 56, 57, 58, 59, 60, 61, 62, 63, 64, 65, 66, 67, 68, 69, 70, 71, 72, 73, 74, 75, 76, 77, 78, 79, 80, 81, 82, 83, 84, 85, 86, 87, 88, 89, 90, 91, 92, 93, 94, 95, 96, 97, 98, 99, 100, 101, 102, 103, 104, 105, 106, 107, 108, 109, 110, 111, 112, 113, 114, 115, 116, 117, 118, 119, 120, 121, 122, 123, 124, 125, 126, 127, 128, 129, 130, 131, 132, 133, 134, 135, 136, 137, 138, 139, 140, 141, 142, 143, 144, 145, 146, 147, 148, 149, 150, 151, 152, 153, 154, 155, 156, 157, 158, 159, 160, 161, 162, 163, 164, 165, 166, 167, 168, 169, 170, 171, 172, 173, 174, 175, 176, 177, 178, 179, 180, 181, 182, 183, 184, 185, 186, 187, 188, 189, 190, 191, 192, 193, 194, 195, 196, 197, 198, 199] (h := ?_)
  refine c_seq ?_
  refine c_seq ?_
  refine c_region ?_
  refine l_rd r_move ?_
  refine l_rd r_move ?_
  refine l_rd r_len ?_
  refine l_rd r_lss ?_
  refine l_nil ?_
  refine x_then ?_
  refine c_false rfl ?_
  refine c_exit ?_
  refine x_thenE (x_thenE (x_inE (x_then ?_)))
  refine c_seq ?_
  refine c_region ?_
  refine l_rd r_move ?_
  refine l_rd r_len ?_
  refine l_do d_make0 (fun g43 => ?_)
  refine l_rd r_assign ?_
  refine l_nil ?_
  refine x_then ?_
  refine c_seq ?_
  refine c_seq ?_
  refine c_region ?_
  refine l_rd r_assign ?_
  refine l_nil ?_
  refine x_then ?_
  refine c_block ?_
  refine c_loop0 6 [0, 3, 4, 5, 9, 10, 11, 12, 13, 14, 15, 16, 17, 18, 19, 20, 21, 22, 23, 24, 25, 26, 27, 28, 29, 30, 31, 32, 33, 34, 35, 36, 37, 38, 39, 40, 41, 42, 43, 75, 76, 77, 78, 79, 80, 81, 82, 83, 84, 85, 86, 87, 88, 89, 90, 91, 92, 93, 94, 95, 96, 97, 98, 99, 100, 101, 102, 103, 104, 105, 106, 107, 108, 109, 110, 111, 112, 113, 114, 115, 116, 117, 118, 119, 120, 121, 122, 123, 124, 125, 126, 127, 128, 129, 130, 131, 132, 133, 134, 135, 136, 137, 138, 139, 140, 141, 142, 143, 144, 145, 146, 147, 148, 149, 150, 151, 152, 153, 154, 155, 156, 157, 158, 159, 160, 161, 162, 163, 164, 165, 166, 167, 168, 169, 170, 171, 172, 173, 174, 175, 176, 177, 178, 179, 180, 181, 182, 183, 184, 185, 186, 187, 188, 189, 190, 191, 192, 193, 194, 195, 196, 197, 198, 199] (h := ?_)
  refine c_seq ?_
  refine c_seq ?_
  refine c_region ?_
  refine l_rd r_move ?_
  refine l_rd r_move ?_
  refine l_rd r_len ?_
  refine l_rd r_lss ?_
  refine l_nil ?_
  refine x_then ?_
  refine c_false rfl ?_
  refine c_exit ?_
  refine x_thenE (x_thenE (x_inE (x_then ?_)))
  refine c_seq ?_
  refine c_seq ?_
  refine c_region ?_
  refine l_rd r_assign ?_
  refine l_nil ?_
  refine x_then ?_
  refine c_block ?_
  refine c_loop0 9 [0, 3, 4, 5, 6, 7, 8, 11, 12, 13, 14, 15, 16, 17, 18, 19, 20, 21, 22, 23, 24, 25, 26, 27, 28, 29, 30, 31, 32, 33, 34, 35, 36, 37, 38, 39, 40, 41, 42, 43, 44, 45, 46, 47, 48, 49, 50, 51, 52, 53, 54, 55, 56, 57, 58, 59, 60, 61, 62, 63, 64, 65, 66, 67, 68, 69, 70, 71, 72, 73, 74, 127, 128, 129, 130, 131, 132, 133, 134, 135, 136, 137, 138, 139, 140, 141, 142, 143, 144, 145, 146, 147, 148, 149, 150, 151, 152, 153, 154, 155, 156, 157, 158, 159, 160, 161, 162, 163, 164, 165, 166, 167, 168, 169, 170, 171, 172, 173, 174, 175, 176, 177, 178, 179, 180, 181, 182, 183, 184, 185, 186, 187, 188, 189, 190, 191, 192, 193, 194, 195, 196, 197, 198, 199] (h := ?_)
  refine c_seq ?_
  refine c_seq ?_
  refine c_region ?_
  refine l_rd r_move ?_
  refine l_rd r_move ?_
  refine l_rd r_len ?_
  refine l_rd r_lss ?_
  refine l_nil ?_
  refine x_then ?_
  refine c_false rfl ?_
  refine c_exit ?_
  refine x_thenE (x_thenE (x_inE (x_then ?_)))
  refine c_seq ?_
  refine c_seq ?_
  refine c_region ?_
  refine l_rd r_assign ?_
  refine l_nil ?_
  refine x_then ?_
  refine c_block ?_
  refine c_loop0 11 [0, 3, 4, 5, 6, 7, 8, 9, 10, 14, 15, 16, 17, 18, 19, 20, 21, 22, 23, 24, 25, 26, 27, 28, 29, 30, 31, 32, 33, 34, 35, 36, 37, 38, 39, 40, 41, 42, 43, 44, 45, 46, 47, 48, 49, 50, 51, 52, 53, 54, 55, 56, 57, 58, 59, 60, 61, 62, 63, 64, 65, 66, 67, 68, 69, 70, 71, 72, 73, 74, 75, 76, 77, 78, 79, 80, 81, 82, 83, 84, 85, 86, 87, 88, 89, 90, 91, 92, 93, 94, 95, 96, 97, 98, 99, 100, 101, 102, 103, 104, 105, 106, 107, 108, 109, 110, 111, 112, 113, 114, 115, 116, 117, 118, 119, 120, 121, 122, 123, 124, 125, 126, 157, 158, 159, 160, 161, 162, 163, 164, 165, 166, 167, 168, 169, 170, 171, 172, 173, 174, 175, 176, 177, 178, 179, 180, 181, 182, 183, 184, 185, 186, 187, 188, 189, 190, 191, 192, 193, 194, 195, 196, 197, 198, 199] (h := ?_)
  refine c_seq ?_
  refine c_seq ?_
  refine c_region ?_
  refine l_rd r_move ?_
  refine l_rd r_move ?_
  refine l_rd r_len ?_
  refine l_rd r_lss ?_
  refine l_nil ?_
  refine x_then ?_
  refine c_false rfl ?_
  refine c_exit ?_
  refine x_thenE (x_thenE (x_inE (x_then ?_)))
  refine c_seq ?_
  refine c_seq ?_
  refine c_region ?_
  refine l_rd r_assign ?_
  refine l_nil ?_
  refine x_then ?_
  refine c_block ?_
  refine c_loop0 14 [0, 3, 4, 5, 6, 7, 8, 9, 10, 11, 12, 13, 16, 17, 18, 19, 20, 21, 22, 23, 24, 25, 26, 27, 28, 29, 30, 31, 32, 33, 34, 35, 36, 37, 38, 39, 40, 41, 42, 43, 44, 45, 46, 47, 48, 49, 50, 51, 52, 53, 54, 55, 56, 57, 58, 59, 60, 61, 62, 63, 64, 65, 66, 67, 68, 69, 70, 71, 72, 73, 74, 75, 76, 77, 78, 79, 80, 81, 82, 83, 84, 85, 86, 87, 88, 89, 90, 91, 92, 93, 94, 95, 96, 97, 98, 99, 100, 101, 102, 103, 104, 105, 106, 107, 108, 109, 110, 111, 112, 113, 114, 115, 116, 117, 118, 119, 120, 121, 122, 123, 124, 125, 126, 127, 128, 129, 130, 131, 132, 133, 134, 135, 136, 137, 138, 139, 140, 141, 142, 143, 144, 145, 146, 147, 148, 149, 150, 151, 152, 153, 154, 155, 156] (h := ?_)
  refine c_seq ?_
  refine c_seq ?_
  refine c_region ?_
  refine l_rd r_move ?_
  refine l_rd r_move ?_
  refine l_rd r_len ?_
  refine l_rd r_lss ?_
  refine l_nil ?_
  refine x_then ?_
  refine c_false rfl ?_
  refine c_exit ?_
  refine x_thenE (x_thenE (x_inE (x_then ?_)))
  refine c_seq ?_
  refine c_region ?_
  refine l_rd r_assign ?_
  refine l_nil ?_
  refine x_then ?_
  refine c_ret ?_
  refine k_ret [] _ (.cons (.tmp rfl) .nil) (h := ?_)
  exact ⟨rfl, rfl⟩
theorem flatInts0 : CSpec Tryz.prog 52 [.one (.sl 0 none 0 0)] [] [] fun o L => o = .ret (vb true) ∧ L = [] := by
  refine k_enter Tryz.func52 rfl rfl (h := fun w0 => ?_)
  refine c_seq ?_
  refine c_region ?_
  refine l_rd r_assign ?_
  refine l_nil ?_
  refine x_then ?_
  refine c_seq ?_
  refine c_seq ?_
  refine c_region ?_
  refine l_rd r_assign ?_
  refine l_nil ?_
  refine x_then ?_
  refine c_block ?_
  refine c_loop0 3 [0, 5, 6, 7, 8, 9, 10, 11, 12, 13, 14, 15, 40, 41, 42, 43, 44, 45, 46, 47, 48, 49, 50, 51, 52, 53, 54, 55, 56, 57, 58, 59, 60, 61, 62, 63, 64, 65, 66, 67, 68, 69, 70, 71, 72, 73, 74, 75, 76, 77, 78, 79, 80, 81, 82, 83, 84, 85, 86, 87, 88, 89, 90, 91, 92, 93, 94, 95, 96, 97, 98, 99, 100, 101, 102, 103, 104, 105, 106, 107, 108, 109, 110, 111, 112, 113, 114, 115, 116, 117, 118, 119, 120, 121, 122, 123, 124, 125, 126, 127, 128, 129, 130, 131, 132, 133, 134, 135, 136, 137, 138, 139, 140, 141, 142, 143, 144, 145, 146, 147, 148, 149, 150, 151, 152, 153, 154, 155, 156, 157, 158, 159, 160, 161, 162, 163, 164, 165, 166, 167, 168, 169, 170, 171, 172, 173, 174, 175, 176, 177, 178, 179, 180, 181, 182, 183, 184, 185, 186, 187, 188, 189, 190, 191, 192] (h := ?_)
  refine c_seq ?_
  refine c_seq ?_
  refine c_region ?_
  refine l_rd r_move ?_
  refine l_rd r_move ?_
  refine l_rd r_len ?_
  refine l_rd r_lss ?_
  refine l_nil ?_
  refine x_then ?_
  refine c_false rfl ?_
  refine c_exit ?_
  refine x_thenE (x_thenE (x_inE (x_then ?_)))
  refine c_seq ?_
  refine c_region ?_
  refine l_rd r_move ?_
  refine l_rd r_len ?_
  refine l_do d_make0 (fun g42 => ?_)
  refine l_rd r_assign ?_
  refine l_nil ?_
  refine x_then ?_
  refine c_seq ?_
  refine c_seq ?_
  refine c_region ?_
  refine l_rd r_assign ?_
  refine l_nil ?_
  refine x_then ?_
  refine c_block ?_
  refine c_loop0 6 [0, 3, 4, 5, 9, 10, 11, 12, 13, 14, 15, 16, 17, 18, 19, 20, 21, 22, 23, 24, 25, 26, 27, 28, 29, 30, 31, 32, 33, 34, 35, 36, 37, 38, 39, 40, 41, 42, 73, 74, 75, 76, 77, 78, 79, 80, 81, 82, 83, 84, 85, 86, 87, 88, 89, 90, 91, 92, 93, 94, 95, 96, 97, 98, 99, 100, 101, 102, 103, 104, 105, 106, 107, 108, 109, 110, 111, 112, 113, 114, 115, 116, 117, 118, 119, 120, 121, 122, 123, 124, 125, 126, 127, 128, 129, 130, 131, 132, 133, 134, 135, 136, 137, 138, 139, 140, 141, 142, 143, 144, 145, 146, 147, 148, 149, 150, 151, 152, 153, 154, 155, 156, 157, 158, 159, 160, 161, 162, 163, 164, 165, 166, 167, 168, 169, 170, 171, 172, 173, 174, 175, 176, 177, 178, 179, 180, 181, 182, 183, 184, 185, 186, 187, 188, 189, 190, 191, 192] (h := ?_)
  refine c_seq ?_
  refine c_seq ?_
  refine c_region ?_
  refine l_rd r_move ?_
  refine l_rd r_move ?_
  refine l_rd r_len ?_
  refine l_rd r_lss ?_
  refine l_nil ?_
  refine x_then ?_
  refine c_false rfl ?_
  refine c_exit ?_
  refine x_thenE (x_thenE (x_inE (x_then ?_)))
  refine c_seq ?_
  refine c_seq ?_
  refine c_region ?_
  refine l_rd r_assign ?_
  refine l_nil ?_
  refine x_then ?_
  refine c_block ?_
  refine c_loop0 9 [0, 3, 4, 5, 6, 7, 8, 11, 12, 13, 14, 15, 16, 17, 18, 19, 20, 21, 22, 23, 24, 25, 26, 27, 28, 29, 30, 31, 32, 33, 34, 35, 36, 37, 38, 39, 40, 41, 42, 43, 44, 45, 46, 47, 48, 49, 50, 51, 52, 53, 54, 55, 56, 57, 58, 59, 60, 61, 62, 63, 64, 65, 66, 67, 68, 69, 70, 71, 72, 123, 124, 125, 126, 127, 128, 129, 130, 131, 132, 133, 134, 135, 136, 137, 138, 139, 140, 141, 142, 143, 144, 145, 146, 147, 148, 149, 150, 151, 152, 153, 154, 155, 156, 157, 158, 159, 160, 161, 162, 163, 164, 165, 166, 167, 168, 169, 170, 171, 172, 173, 174, 175, 176, 177, 178, 179, 180, 181, 182, 183, 184, 185, 186, 187, 188, 189, 190, 191, 192] (h := ?_)
  refine c_seq ?_
  refine c_seq ?_
  refine c_region ?_
  refine l_rd r_move ?_
  refine l_rd r_move ?_
  refine l_rd r_len ?_
  refine l_rd r_lss ?_
  refine l_nil ?_
  refine x_then ?_
  refine c_false rfl ?_
  refine c_exit ?_
  refine x_thenE (x_thenE (x_inE (x_then ?_)))
  refine c_seq ?_
  refine c_seq ?_
  refine c_region ?_
  refine l_rd r_assign ?_
  refine l_nil ?_
  refine x_then ?_
  refine c_block ?_
  refine c_loop0 11 [0, 3, 4, 5, 6, 7, 8, 9, 10, 14, 15, 16, 17, 18, 19, 20, 21, 22, 23, 24, 25, 26, 27, 28, 29, 30, 31, 32, 33, 34, 35, 36, 37, 38, 39, 40, 41, 42, 43, 44, 45, 46, 47, 48, 49, 50, 51, 52, 53, 54, 55, 56, 57, 58, 59, 60, 61, 62, 63, 64, 65, 66, 67, 68, 69, 70, 71, 72, 73, 74, 75, 76, 77, 78, 79, 80, 81, 82, 83, 84, 85, 86, 87, 88, 89, 90, 91, 92, 93, 94, 95, 96, 97, 98, 99, 100, 101, 102, 103, 104, 105, 106, 107, 108, 109, 110, 111, 112, 113, 114, 115, 116, 117, 118, 119, 120, 121, 122, 152, 153, 154, 155, 156, 157, 158, 159, 160, 161, 162, 163, 164, 165, 166, 167, 168, 169, 170, 171, 172, 173, 174, 175, 176, 177, 178, 179, 180, 181, 182, 183, 184, 185, 186, 187, 188, 189, 190, 191, 192] (h := ?_)
  refine c_seq ?_
  refine c_seq ?_
  refine c_region ?_
  refine l_rd r_move ?_
  refine l_rd r_move ?_
  refine l_rd r_len ?_
  refine l_rd r_lss ?_
  refine l_nil ?_
  refine x_then ?_
  refine c_false rfl ?_
  refine c_exit ?_
  refine x_thenE (x_thenE (x_inE (x_then ?_)))
  refine c_seq ?_
  refine c_seq ?_
  refine c_region ?_
  refine l_rd r_assign ?_
  refine l_nil ?_
  refine x_then ?_
  refine c_block ?_
  refine c_loop0 14 [0, 3, 4, 5, 6, 7, 8, 9, 10, 11, 12, 13, 16, 17, 18, 19, 20, 21, 22, 23, 24, 25, 26, 27, 28, 29, 30, 31, 32, 33, 34, 35, 36, 37, 38, 39, 40, 41, 42, 43, 44, 45, 46, 47, 48, 49, 50, 51, 52, 53, 54, 55, 56, 57, 58, 59, 60, 61, 62, 63, 64, 65, 66, 67, 68, 69, 70, 71, 72, 73, 74, 75, 76, 77, 78, 79, 80, 81, 82, 83, 84, 85, 86, 87, 88, 89, 90, 91, 92, 93, 94, 95, 96, 97, 98, 99, 100, 101, 102, 103, 104, 105, 106, 107, 108, 109, 110, 111, 112, 113, 114, 115, 116, 117, 118, 119, 120, 121, 122, 123, 124, 125, 126, 127, 128, 129, 130, 131, 132, 133, 134, 135, 136, 137, 138, 139, 140, 141, 142, 143, 144, 145, 146, 147, 148, 149, 150, 151] (h := ?_)
  refine c_seq ?_
  refine c_seq ?_
  refine c_region ?_
  refine l_rd r_move ?_
  refine l_rd r_move ?_
  refine l_rd r_len ?_
  refine l_rd r_lss ?_
  refine l_nil ?_
  refine x_then ?_
  refine c_false rfl ?_
  refine c_exit ?_
  refine x_thenE (x_thenE (x_inE (x_then ?_)))
  refine c_seq ?_
  refine c_region ?_
  refine l_rd r_assign ?_
  refine l_nil ?_
  refine x_then ?_
  refine c_ret ?_
  refine k_ret [] _ (.cons (.tmp rfl) .nil) (h := ?_)
  exact ⟨rfl, rfl⟩
theorem flatLongs0 : CSpec Tryz.prog 53 [.one (.sl 0 none 0 0)] [] [] fun o L => o = .ret (vb true) ∧ L = [] := by
  refine k_enter Tryz.func53 rfl rfl (h := fun w0 => ?_)
  refine c_seq ?_
  refine c_region ?_
  refine l_rd r_assign ?_
  refine l_nil ?_
  refine x_then ?_
  refine c_seq ?_
  refine c_seq ?_
  refine c_region ?_
  refine l_rd r_assign ?_
  refine l_nil ?_
  refine x_then ?_
  refine c_block ?_
  refine c_loop0 3 [0, 5, 6, 7, 8, 9, 10, 11, 12, 13, 14, 15, 40, 41, 42, 43, 44, 45, 46, 47, 48, 49, 50, 51, 52, 53, 54, 55, 56, 57, 58, 59, 60, 61, 62, 63, 64, 65, 66, 67, 68, 69, 70, 71, 72, 73, 74, 75, 76, 77, 78, 79, 80, 81, 82, 83, 84, 85, 86, 87, 88, 89, 90, 91, 92, 93, 94, 95, 96, 97, 98, 99, 100, 101, 102, 103, 104, 105, 106, 107, 108, 109, 110, 111, 112, 113, 114, 115, 116, 117, 118, 119, 120, 121, 122, 123, 124, 125, 126, 127, 128, 129, 130, 131, 132, 133, 134, 135, 136, 137, 138, 139, 140, 141, 142, 143, 144, 145, 146, 147, 148, 149, 150, 151, 152, 153, 154, 155, 156, 157, 158, 159, 160, 161, 162, 163, 164, 165, 166, 167, 168, 169, 170, 171, 172, 173, 174, 175, 176, 177, 178, 179, 180, 181, 182, 183, 184, 185, 186, 187, 188, 189, 190, 191, 192] (h := ?_)
  refine c_seq ?_
  refine c_seq ?_
  refine c_region ?_
  refine l_rd r_move ?_
  refine l_rd r_move ?_
  refine l_rd r_len ?_
  refine l_rd r_lss ?_
  refine l_nil ?_
  refine x_then ?_
  refine c_false rfl ?_
  refine c_exit ?_
  refine x_thenE (x_thenE (x_inE (x_then ?_)))
  refine c_seq ?_
  refine c_region ?_
  refine l_rd r_move ?_
  refine l_rd r_len ?_
  refine l_do d_make0 (fun g42 => ?_)
  refine l_rd r_assign ?_
  refine l_nil ?_
  refine x_then ?_
  refine c_seq ?_
  refine c_seq ?_
  refine c_region ?_
  refine l_rd r_assign ?_
  refine l_nil ?_
  refine x_then ?_
  refine c_block ?_
  refine c_loop0 6 [0, 3, 4, 5, 9, 10, 11, 12, 13, 14, 15, 16, 17, 18, 19, 20, 21, 22, 23, 24, 25, 26, 27, 28, 29, 30, 31, 32, 33, 34, 35, 36, 37, 38, 39, 40, 41, 42, 73, 74, 75, 76, 77, 78, 79, 80, 81, 82, 83, 84, 85, 86, 87, 88, 89, 90, 91, 92, 93, 94, 95, 96, 97, 98, 99, 100, 101, 102, 103, 104, 105, 106, 107, 108, 109, 110, 111, 112, 113, 114, 115, 116, 117, 118, 119, 120, 121, 122, 123, 124, 125, 126, 127, 128, 129, 130, 131, 132, 133, 134, 135, 136, 137, 138, 139, 140, 141, 142, 143, 144, 145, 146, 147, 148, 149, 150, 151, 152, 153, 154, 155, 156, 157, 158, 159, 160, 161, 162, 163, 164, 165, 166, 167, 168, 169, 170, 171, 172, 173, 174, 175, 176, 177, 178, 179, 180, 181, 182, 183, 184, 185, 186, 187, 188, 189, 190, 191, 192] (h := ?_)
  refine c_seq ?_
  refine c_seq ?_
  refine c_region ?_
  refine l_rd r_move ?_
  refine l_rd r_move ?_
  refine l_rd r_len ?_
  refine l_rd r_lss ?_
  refine l_nil ?_
  refine x_then ?_
  refine c_false rfl ?_
  refine c_exit ?_
  refine x_thenE (x_thenE (x_inE (x_then ?_)))
  refine c_seq ?_
  refine c_seq ?_
  refine c_region ?_
  refine l_rd r_assign ?_
  refine l_nil ?_
  refine x_then ?_
  refine c_block ?_
  refine c_loop0 9 [0, 3, 4, 5, 6, 7, 8, 11, 12, 13, 14, 15, 16, 17, 18, 19, 20, 21, 22, 23, 24, 25, 26, 27, 28, 29, 30, 31, 32, 33, 34, 35, 36, 37, 38, 39, 40, 41, 42, 43, 44, 45, 46, 47, 48, 49, 50, 51, 52, 53, 54, 55, 56, 57, 58, 59, 60, 61, 62, 63, 64, 65, 66, 67, 68, 69, 70, 71, 72, 123, 124, 125, 126, 127, 128, 129, 130, 131, 132, 133, 134, 135, 136, 137, 138, 139, 140, 141, 142, 143, 144, 145, 146, 147, 148, 149, 150, 151, 152, 153, 154, 155, 156, 157, 158, 159, 160, 161, 162, 163, 164, 165, 166, 167, 168, 169, 170, 171, 172, 173, 174, 175, 176, 177, 178, 179, 180, 181, 182, 183, 184, 185, 186, 187, 188, 189, 190, 191, 192] (h := ?_)
  refine c_seq ?_
  refine c_seq ?_
  refine c_region ?_
  refine l_rd r_move ?_
  refine l_rd r_move ?_
  refine l_rd r_len ?_
  refine l_rd r_lss ?_
  refine l_nil ?_
  refine x_then ?_
  refine c_false rfl ?_
  refine c_exit ?_
  refine x_thenE (x_thenE (x_inE (x_then ?_)))
  refine c_seq ?_
  refine c_seq ?_
  refine c_region ?_
  refine l_rd r_assign ?_
  refine l_nil ?_
  refine x_then ?_
  refine c_block ?_
  refine c_loop0 11 [0, 3, 4, 5, 6, 7, 8, 9, 10, 14, 15, 16, 17, 18, 19, 20, 21, 22, 23, 24, 25, 26, 27, 28, 29, 30, 31, 32, 33, 34, 35, 36, 37, 38, 39, 40, 41, 42, 43, 44, 45, 46, 47, 48, 49, 50, 51, 52, 53, 54, 55, 56, 57, 58, 59, 60, 61, 62, 63, 64, 65, 66, 67, 68, 69, 70, 71, 72, 73, 74, 75, 76, 77, 78, 79, 80, 81, 82, 83, 84, 85, 86, 87, 88, 89, 90, 91, 92, 93, 94, 95, 96, 97, 98, 99, 100, 101, 102, 103, 104, 105, 106, 107, 108, 109, 110, 111, 112, 113, 114, 115, 116, 117, 118, 119, 120, 121, 122, 152, 153, 154, 155, 156, 157, 158, 159, 160, 161, 162, 163, 164, 165, 166, 167, 168, 169, 170, 171, 172, 173, 174, 175, 176, 177, 178, 179, 180, 181, 182, 183, 184, 185, 186, 187, 188, 189, 190, 191, 192] (h := ?_)
  refine c_seq ?_
  refine c_seq ?_
  refine c_region ?_
  refine l_rd r_move ?_
  refine l_rd r_move ?_
  refine l_rd r_len ?_
  refine l_rd r_lss ?_
  refine l_nil ?_
  refine x_then ?_
  refine c_false rfl ?_
  refine c_exit ?_
  refine x_thenE (x_thenE (x_inE (x_then ?_)))
  refine c_seq ?_
  refine c_seq ?_
  refine c_region ?_
  refine l_rd r_assign ?_
  refine l_nil ?_
  refine x_then ?_
  refine c_block ?_
  refine c_loop0 14 [0, 3, 4, 5, 6, 7, 8, 9, 10, 11, 12, 13, 16, 17, 18, 19, 20, 21, 22, 23, 24, 25, 26, 27, 28, 29, 30, 31, 32, 33, 34, 35, 36, 37, 38, 39, 40, 41, 42, 43, 44, 45, 46, 47, 48, 49, 50, 51, 52, 53, 54, 55, 56, 57, 58, 59, 60, 61, 62, 63, 64, 65, 66, 67, 68, 69, 70, 71, 72, 73, 74, 75, 76, 77, 78, 79, 80, 81, 82, 83, 84, 85, 86, 87, 88, 89, 90, 91, 92, 93, 94, 95, 96, 97, 98, 99, 100, 101, 102, 103, 104, 105, 106, 107, 108, 109, 110, 111, 112, 113, 114, 115, 116, 117, 118, 119, 120, 121, 122, 123, 124, 125, 126, 127, 128, 129, 130, 131, 132, 133, 134, 135, 136, 137, 138, 139, 140, 141, 142, 143, 144, 145, 146, 147, 148, 149, 150, 151] (h := ?_)
  refine c_seq ?_
  refine c_seq ?_
  refine c_region ?_
  refine l_rd r_move ?_
  refine l_rd r_move ?_
  refine l_rd r_len ?_
  refine l_rd r_lss ?_
  refine l_nil ?_
  refine x_then ?_
  refine c_false rfl ?_
  refine c_exit ?_
  refine x_thenE (x_thenE (x_inE (x_then ?_)))
  refine c_seq ?_
  refine c_region ?_
  refine l_rd r_assign ?_
  refine l_nil ?_
  refine x_then ?_
  refine c_ret ?_
  refine k_ret [] _ (.cons (.tmp rfl) .nil) (h := ?_)
  exact ⟨rfl, rfl⟩
theorem flatTexts0 : CSpec Tryz.prog 54 [.one (.sl 0 none 0 0)] [] [] fun o L => o = .ret (vb true) ∧ L = [] := by
  refine k_enter Tryz.func54 rfl rfl (h := fun w0 => ?_)
  refine c_seq ?_
  refine c_region ?_
  refine l_rd r_assign ?_
  refine l_nil ?_
  refine x_then ?_
  refine c_seq ?_
  refine c_seq ?_
  refine c_region ?_
  refine l_rd r_assign ?_
  refine l_nil ?_
  refine x_then ?_
  refine c_block ?_
  refine c_loop0 3 [0, 5, 6, 7, 8, 9, 10, 11, 12, 13, 14, 15, 40, 41, 42, 43, 44, 45, 46, 47, 48, 49, 50, 51, 52, 53, 54, 55, 56, 57, 58, 59, 60, 61, 62, 63, 64, 65, 66, 67, 68, 69, 70, 71, 72, 73, 74, 75, 76, 77, 78, 79, 80, 81, 82, 83, 84, 85, 86, 87, 88, 89, 90, 91, 92, 93, 94, 95, 96, 97, 98, 99, 100, 101, 102, 103, 104, 105, 106, 107, 108, 109, 110, 111, 112, 113, 114, 115, 116, 117, 118, 119, 120, 121, 122, 123, 124, 125, 126, 127, 128, 129, 130, 131, 132, 133, 134, 135, 136, 137, 138, 139, 140, 141, 142, 143, 144, 145, 146, 147, 148, 149, 150, 151, 152, 153, 154, 155, 156, 157, 158, 159, 160, 161, 162, 163, 164, 165, 166, 167, 168, 169, 170, 171, 172, 173, 174, 175, 176, 177, 178, 179, 180, 181, 182, 183, 184, 185, 186, 187, 188, 189, 190, 191, 192] (h := ?_)
  refine c_seq ?_
  refine c_seq ?_
  refine c_region ?_
  refine l_rd r_move ?_
  refine l_rd r_move ?_
  refine l_rd r_len ?_
  refine l_rd r_lss ?_
  refine l_nil ?_
  refine x_then ?_
  refine c_false rfl ?_
  refine c_exit ?_
  refine x_thenE (x_thenE (x_inE (x_then ?_)))
  refine c_seq ?_
  refine c_region ?_
  refine l_rd r_move ?_
  refine l_rd r_len ?_
  refine l_do d_make0 (fun g42 => ?_)
  refine l_rd r_assign ?_
  refine l_nil ?_
  refine x_then ?_
  refine c_seq ?_
  refine c_seq ?_
  refine c_region ?_
  refine l_rd r_assign ?_
  refine l_nil ?_
  refine x_then ?_
  refine c_block ?_
  refine c_loop0 6 [0, 3, 4, 5, 9, 10, 11, 12, 13, 14, 15, 16, 17, 18, 19, 20, 21, 22, 23, 24, 25, 26, 27, 28, 29, 30, 31, 32, 33, 34, 35, 36, 37, 38, 39, 40, 41, 42, 73, 74, 75, 76, 77, 78, 79, 80, 81, 82, 83, 84, 85, 86, 87, 88, 89, 90, 91, 92, 93, 94, 95, 96, 97, 98, 99, 100, 101, 102, 103, 104, 105, 106, 107, 108, 109, 110, 111, 112, 113, 114, 115, 116, 117, 118, 119, 120, 121, 122, 123, 124, 125, 126, 127, 128, 129, 130, 131, 132, 133, 134, 135, 136, 137, 138, 139, 140, 141, 142, 143, 144, 145, 146, 147, 148, 149, 150, 151, 152, 153, 154, 155, 156, 157, 158, 159, 160, 161, 162, 163, 164, 165, 166, 167, 168, 169, 170, 171, 172, 173, 174, 175, 176, 177, 178, 179, 180, 181, 182, 183, 184, 185, 186, 187, 188, 189, 190, 191, 192] (h := ?_)
  refine c_seq ?_
  refine c_seq ?_
  refine c_region ?_
  refine l_rd r_move ?_
  refine l_rd r_move ?_
  refine l_rd r_len ?_
  refine l_rd r_lss ?_
  refine l_nil ?_
  refine x_then ?_
  refine c_false rfl ?_
  refine c_exit ?_
  refine x_thenE (x_thenE (x_inE (x_then ?_)))
  refine c_seq ?_
  refine c_seq ?_
  refine c_region ?_
  refine l_rd r_assign ?_
  refine l_nil ?_
  refine x_then ?_
  refine c_block ?_
  refine c_loop0 9 [0, 3, 4, 5, 6, 7, 8, 11, 12, 13, 14, 15, 16, 17, 18, 19, 20, 21, 22, 23, 24, 25, 26, 27, 28, 29, 30, 31, 32, 33, 34, 35, 36, 37, 38, 39, 40, 41, 42, 43, 44, 45, 46, 47, 48, 49, 50, 51, 52, 53, 54, 55, 56, 57, 58, 59, 60, 61, 62, 63, 64, 65, 66, 67, 68, 69, 70, 71, 72, 123, 124, 125, 126, 127, 128, 129, 130, 131, 132, 133, 134, 135, 136, 137, 138, 139, 140, 141, 142, 143, 144, 145, 146, 147, 148, 149, 150, 151, 152, 153, 154, 155, 156, 157, 158, 159, 160, 161, 162, 163, 164, 165, 166, 167, 168, 169, 170, 171, 172, 173, 174, 175, 176, 177, 178, 179, 180, 181, 182, 183, 184, 185, 186, 187, 188, 189, 190, 191, 192] (h := ?_)
  refine c_seq ?_
  refine c_seq ?_
  refine c_region ?_
  refine l_rd r_move ?_
  refine l_rd r_move ?_
  refine l_rd r_len ?_
  refine l_rd r_lss ?_
  refine l_nil ?_
  refine x_then ?_
  refine c_false rfl ?_
  refine c_exit ?_
  refine x_thenE (x_thenE (x_inE (x_then ?_)))
  refine c_seq ?_
  refine c_seq ?_
  refine c_region ?_
  refine l_rd r_assign ?_
  refine l_nil ?_
  refine x_then ?_
  refine c_block ?_
  refine c_loop0 11 [0, 3, 4, 5, 6, 7, 8, 9, 10, 14, 15, 16, 17, 18, 19, 20, 21, 22, 23, 24, 25, 26, 27, 28, 29, 30, 31, 32, 33, 34, 35, 36, 37, 38, 39, 40, 41, 42, 43, 44, 45, 46, 47, 48, 49, 50, 51, 52, 53, 54, 55, 56, 57, 58, 59, 60, 61, 62, 63, 64, 65, 66, 67, 68, 69, 70, 71, 72, 73, 74, 75, 76, 77, 78, 79, 80, 81, 82, 83, 84, 85, 86, 87, 88, 89, 90, 91, 92, 93, 94, 95, 96, 97, 98, 99, 100, 101, 102, 103, 104, 105, 106, 107, 108, 109, 110, 111, 112, 113, 114, 115, 116, 117, 118, 119, 120, 121, 122, 152, 153, 154, 155, 156, 157, 158, 159, 160, 161, 162, 163, 164, 165, 166, 167, 168, 169, 170, 171, 172, 173, 174, 175, 176, 177, 178, 179, 180, 181, 182, 183, 184, 185, 186, 187, 188, 189, 190, 191, 192] (h := ?_)
  refine c_seq ?_
  refine c_seq ?_
  refine c_region ?_
  refine l_rd r_move ?_
  refine l_rd r_move ?_
  refine l_rd r_len ?_
  refine l_rd r_lss ?_
  refine l_nil ?_
  refine x_then ?_
  refine c_false rfl ?_
  refine c_exit ?_
  refine x_thenE (x_thenE (x_inE (x_then ?_)))
  refine c_seq ?_
  refine c_seq ?_
  refine c_region ?_
  refine l_rd r_assign ?_
  refine l_nil ?_
  refine x_then ?_
  refine c_block ?_
  refine c_loop0 14 [0, 3, 4, 5, 6, 7, 8, 9, 10, 11, 12, 13, 16, 17, 18, 19, 20, 21, 22, 23, 24, 25, 26, 27, 28, 29, 30, 31, 32, 33, 34, 35, 36, 37, 38, 39, 40, 41, 42, 43, 44, 45, 46, 47, 48, 49, 50, 51, 52, 53, 54, 55, 56, 57, 58, 59, 60, 61, 62, 63, 64, 65, 66, 67, 68, 69, 70, 71, 72, 73, 74, 75, 76, 77, 78, 79, 80, 81, 82, 83, 84, 85, 86, 87, 88, 89, 90, 91, 92, 93, 94, 95, 96, 97, 98, 99, 100, 101, 102, 103, 104, 105, 106, 107, 108, 109, 110, 111, 112, 113, 114, 115, 116, 117, 118, 119, 120, 121, 122, 123, 124, 125, 126, 127, 128, 129, 130, 131, 132, 133, 134, 135, 136, 137, 138, 139, 140, 141, 142, 143, 144, 145, 146, 147, 148, 149, 150, 151] (h := ?_)
  refine c_seq ?_
  refine c_seq ?_
  refine c_region ?_
  refine l_rd r_move ?_
  refine l_rd r_move ?_
  refine l_rd r_len ?_
  refine l_rd r_lss ?_
  refine l_nil ?_
  refine x_then ?_
  refine c_false rfl ?_
  refine c_exit ?_
  refine x_thenE (x_thenE (x_inE (x_then ?_)))
  refine c_seq ?_
  refine c_region ?_
  refine l_rd r_assign ?_
  refine l_nil ?_
  refine x_then ?_
  refine c_ret ?_
  refine k_ret [] _ (.cons (.tmp rfl) .nil) (h := ?_)
  exact ⟨rfl, rfl⟩
theorem flatBytes0 : CSpec Tryz.prog 55 [.one (.sl 0 none 0 0)] [] [] fun o L => o = .ret (vb true) ∧ L = [] := by
  refine k_enter Tryz.func55 rfl rfl (h := fun w0 => ?_)
  refine c_seq ?_
  refine c_region ?_
  refine l_rd r_assign ?_
  refine l_nil ?_
  refine x_then ?_
  refine c_seq ?_
  refine c_seq ?_
  refine c_region ?_
  refine l_rd r_assign ?_
  refine l_nil ?_
  refine x_then ?_
  refine c_block ?_
  refine c_loop0 3 [0, 5, 6, 7, 8, 9, 10, 11, 12, 13, 14, 15, 40, 41, 42, 43, 44, 45, 46, 47, 48, 49, 50, 51, 52, 53, 54, 55, 56, 57, 58, 59, 60, 61, 62, 63, 64, 65, 66, 67, 68, 69, 70, 71, 72, 73, 74, 75, 76, 77, 78, 79, 80, 81, 82, 83, 84, 85, 86, 87, 88, 89, 90, 91, 92, 93, 94, 95, 96, 97, 98, 99, 100, 101, 102, 103, 104, 105, 106, 107, 108, 109, 110, 111, 112, 113, 114, 115, 116, 117, 118, 119, 120, 121, 122, 123, 124, 125, 126, 127, 128, 129, 130, 131, 132, 133, 134, 135, 136, 137, 138, 139, 140, 141, 142, 143, 144, 145, 146, 147, 148, 149, 150, 151, 152, 153, 154, 155, 156, 157, 158, 159, 160, 161, 162, 163, 164, 165, 166, 167, 168, 169, 170, 171, 172, 173, 174, 175, 176, 177, 178, 179, 180, 181, 182, 183, 184, 185, 186, 187, 188, 189, 190, 191, 192] (h := ?_)
  refine c_seq ?_
  refine c_seq ?_
  refine c_region ?_
  refine l_rd r_move ?_
  refine l_rd r_move ?_
  refine l_rd r_len ?_
  refine l_rd r_lss ?_
  refine l_nil ?_
  refine x_then ?_
  refine c_false rfl ?_
  refine c_exit ?_
  refine x_thenE (x_thenE (x_inE (x_then ?_)))
  refine c_seq ?_
  refine c_region ?_
  refine l_rd r_move ?_
  refine l_rd r_len ?_
  refine l_do d_make0 (fun g42 => ?_)
  refine l_rd r_assign ?_
  refine l_nil ?_
  refine x_then ?_
  refine c_seq ?_
  refine c_seq ?_
  refine c_region ?_
  refine l_rd r_assign ?_
  refine l_nil ?_
  refine x_then ?_
  refine c_block ?_
  refine c_loop0 6 [0, 3, 4, 5, 9, 10, 11, 12, 13, 14, 15, 16, 17, 18, 19, 20, 21, 22, 23, 24, 25, 26, 27, 28, 29, 30, 31, 32, 33, 34, 35, 36, 37, 38, 39, 40, 41, 42, 73, 74, 75, 76, 77, 78, 79, 80, 81, 82, 83, 84, 85, 86, 87, 88, 89, 90, 91, 92, 93, 94, 95, 96, 97, 98, 99, 100, 101, 102, 103, 104, 105, 106, 107, 108, 109, 110, 111, 112, 113, 114, 115, 116, 117, 118, 119, 120, 121, 122, 123, 124, 125, 126, 127, 128, 129, 130, 131, 132, 133, 134, 135, 136, 137, 138, 139, 140, 141, 142, 143, 144, 145, 146, 147, 148, 149, 150, 151, 152, 153, 154, 155, 156, 157, 158, 159, 160, 161, 162, 163, 164, 165, 166, 167, 168, 169, 170, 171, 172, 173, 174, 175, 176, 177, 178, 179, 180, 181, 182, 183, 184, 185, 186, 187, 188, 189, 190, 191, 192] (h := ?_)
  refine c_seq ?_
  refine c_seq ?_
  refine c_region ?_
  refine l_rd r_move ?_
  refine l_rd r_move ?_
  refine l_rd r_len ?_
  refine l_rd r_lss ?_
  refine l_nil ?_
  refine x_then ?_
  refine c_false rfl ?_
  refine c_exit ?_
  refine x_thenE (x_thenE (x_inE (x_then ?_)))
  refine c_seq ?_
  refine c_seq ?_
  refine c_region ?_
  refine l_rd r_assign ?_
  refine l_nil ?_
  refine x_then ?_
  refine c_block ?_
  refine c_loop0 9 [0, 3, 4, 5, 6, 7, 8, 11, 12, 13, 14, 15, 16, 17, 18, 19, 20, 21, 22, 23, 24, 25, 26, 27, 28, 29, 30, 31, 32, 33, 34, 35, 36, 37, 38, 39, 40, 41, 42, 43, 44, 45, 46, 47, 48, 49, 50, 51, 52, 53, 54, 55, 56, 57, 58, 59, 60, 61, 62, 63, 64, 65, 66, 67, 68, 69, 70, 71, 72, 123, 124, 125, 126, 127, 128, 129, 130, 131, 132, 133, 134, 135, 136, 137, 138, 139, 140, 141, 142, 143, 144, 145, 146, 147, 148, 149, 150, 151, 152, 153, 154, 155, 156, 157, 158, 159, 160, 161, 162, 163, 164, 165, 166, 167, 168, 169, 170, 171, 172, 173, 174, 175, 176, 177, 178, 179, 180, 181, 182, 183, 184, 185, 186, 187, 188, 189, 190, 191, 192] (h := ?_)
  refine c_seq ?_
  refine c_seq ?_
  refine c_region ?_
  refine l_rd r_move ?_
  refine l_rd r_move ?_
  refine l_rd r_len ?_
  refine l_rd r_lss ?_
  refine l_nil ?_
  refine x_then ?_
  refine c_false rfl ?_
  refine c_exit ?_
  refine x_thenE (x_thenE (x_inE (x_then ?_)))
  refine c_seq ?_
  refine c_seq ?_
  refine c_region ?_
  refine l_rd r_assign ?_
  refine l_nil ?_
  refine x_then ?_
  refine c_block ?_
  refine c_loop0 11 [0, 3, 4, 5, 6, 7, 8, 9, 10, 14, 15, 16, 17, 18, 19, 20, 21, 22, 23, 24, 25, 26, 27, 28, 29, 30, 31, 32, 33, 34, 35, 36, 37, 38, 39, 40, 41, 42, 43, 44, 45, 46, 47, 48, 49, 50, 51, 52, 53, 54, 55, 56, 57, 58, 59, 60, 61, 62, 63, 64, 65, 66, 67, 68, 69, 70, 71, 72, 73, 74, 75, 76, 77, 78, 79, 80, 81, 82, 83, 84, 85, 86, 87, 88, 89, 90, 91, 92, 93, 94, 95, 96, 97, 98, 99, 100, 101, 102, 103, 104, 105, 106, 107, 108, 109, 110, 111, 112, 113, 114, 115, 116, 117, 118, 119, 120, 121, 122, 152, 153, 154, 155, 156, 157, 158, 159, 160, 161, 162, 163, 164, 165, 166, 167, 168, 169, 170, 171, 172, 173, 174, 175, 176, 177, 178, 179, 180, 181, 182, 183, 184, 185, 186, 187, 188, 189, 190, 191, 192] (h := ?_)
  refine c_seq ?_
  refine c_seq ?_
  refine c_region ?_
  refine l_rd r_move ?_
  refine l_rd r_move ?_
  refine l_rd r_len ?_
  refine l_rd r_lss ?_
  refine l_nil ?_
  refine x_then ?_
  refine c_false rfl ?_
  refine c_exit ?_
  refine x_thenE (x_thenE (x_inE (x_then ?_)))
  refine c_seq ?_
  refine c_seq ?_
  refine c_region ?_
  refine l_rd r_assign ?_
  refine l_nil ?_
  refine x_then ?_
  refine c_block ?_
  refine c_loop0 14 [0, 3, 4, 5, 6, 7, 8, 9, 10, 11, 12, 13, 16, 17, 18, 19, 20, 21, 22, 23, 24, 25, 26, 27, 28, 29, 30, 31, 32, 33, 34, 35, 36, 37, 38, 39, 40, 41, 42, 43, 44, 45, 46, 47, 48, 49, 50, 51, 52, 53, 54, 55, 56, 57, 58, 59, 60, 61, 62, 63, 64, 65, 66, 67, 68, 69, 70, 71, 72, 73, 74, 75, 76, 77, 78, 79, 80, 81, 82, 83, 84, 85, 86, 87, 88, 89, 90, 91, 92, 93, 94, 95, 96, 97, 98, 99, 100, 101, 102, 103, 104, 105, 106, 107, 108, 109, 110, 111, 112, 113, 114, 115, 116, 117, 118, 119, 120, 121, 122, 123, 124, 125, 126, 127, 128, 129, 130, 131, 132, 133, 134, 135, 136, 137, 138, 139, 140, 141, 142, 143, 144, 145, 146, 147, 148, 149, 150, 151] (h := ?_)
  refine c_seq ?_
  refine c_seq ?_
  refine c_region ?_
  refine l_rd r_move ?_
  refine l_rd r_move ?_
  refine l_rd r_len ?_
  refine l_rd r_lss ?_
  refine l_nil ?_
  refine x_then ?_
  refine c_false rfl ?_
  refine c_exit ?_
  refine x_thenE (x_thenE (x_inE (x_then ?_)))
  refine c_seq ?_
  refine c_region ?_
  refine l_rd r_assign ?_
  refine l_nil ?_
  refine x_then ?_
  refine c_ret ?_
  refine k_ret [] _ (.cons (.tmp rfl) .nil) (h := ?_)
  exact ⟨rfl, rfl⟩
theorem flatTruths0 : CSpec Tryz.prog 56 [.one (.sl 0 none 0 0)] [] [] fun o L => o = .ret (vb true) ∧ L = [] := by
  refine k_enter Tryz.func56 rfl rfl (h := fun w0 => ?_)
  refine c_seq ?_
  refine c_region ?_
  refine l_rd r_assign ?_
  refine l_nil ?_
  refine x_then ?_
  refine c_seq ?_
  refine c_seq ?_
  refine c_region ?_
  refine l_rd r_assign ?_
  refine l_nil ?_
  refine x_then ?_
  refine c_block ?_
  refine c_loop0 3 [0, 5, 6, 7, 8, 9, 10, 11, 12, 13, 14, 15, 42, 43, 44, 45, 46, 47, 48, 49, 50, 51, 52, 53, 54, 55, 56, 57, 58, 59, 60, 61, 62, 63, 64, 65, 66, 67, 68, 69, 70, 71, 72, 73, 74, 75, 76, 77, 78, 79, 80, 81, 82, 83, 84, 85, 86, 87, 88, 89, 90, 91, 92, 93, 94, 95, 96, 97, 98, 99, 100, 101, 102, 103, 104, 105, 106, 107, 108, 109, 110, 111, 112, 113, 114, 115, 116, 117, 118, 119, 120, 121, 122, 123, 124, 125, 126, 127, 128, 129, 130, 131, 132, 133, 134, 135, 136, 137, 138, 139, 140, 141, 142, 143, 144, 145, 146, 147, 148, 149, 150, 151, 152, 153, 154, 155, 156, 157, 158, 159, 160, 161, 162, 163, 164, 165, 166, 167, 168, 169, 170, 171, 172, 173, 174, 175, 176, 177, 178, 179, 180, 181, 182, 183, 184, 185, 186, 187, 188, 189, 190, 191, 192, 193, 194, 195, 196, 197, 198, 199, 200, 201, 202, 203, 204, 205, 206] (h := ?_)
  refine c_seq ?_
  refine c_seq ?_
  refine c_region ?_
  refine l_rd r_move ?_
  refine l_rd r_move ?_
  refine l_rd r_len ?_
  refine l_rd r_lss ?_
  refine l_nil ?_
  refine x_then ?_
  refine c_false rfl ?_
  refine c_exit ?_
  refine x_thenE (x_thenE (x_inE (x_then ?_)))
  refine c_seq ?_
  refine c_region ?_
  refine l_rd r_move ?_
  refine l_rd r_len ?_
  refine l_do d_make0 (fun g44 => ?_)
  refine l_rd r_assign ?_
  refine l_nil ?_
  refine x_then ?_
  refine c_seq ?_
  refine c_seq ?_
  refine c_region ?_
  refine l_rd r_assign ?_
  refine l_nil ?_
  refine x_then ?_
  refine c_block ?_
  refine c_loop0 6 [0, 3, 4, 5, 9, 10, 11, 12, 13, 14, 15, 16, 17, 18, 19, 20, 21, 22, 23, 24, 25, 26, 27, 28, 29, 30, 31, 32, 33, 34, 35, 36, 37, 38, 39, 40, 41, 42, 43, 44, 77, 78, 79, 80, 81, 82, 83, 84, 85, 86, 87, 88, 89, 90, 91, 92, 93, 94, 95, 96, 97, 98, 99, 100, 101, 102, 103, 104, 105, 106, 107, 108, 109, 110, 111, 112, 113, 114, 115, 116, 117, 118, 119, 120, 121, 122, 123, 124, 125, 126, 127, 128, 129, 130, 131, 132, 133, 134, 135, 136, 137, 138, 139, 140, 141, 142, 143, 144, 145, 146, 147, 148, 149, 150, 151, 152, 153, 154, 155, 156, 157, 158, 159, 160, 161, 162, 163, 164, 165, 166, 167, 168, 169, 170, 171, 172, 173, 174, 175, 176, 177, 178, 179, 180, 181, 182, 183, 184, 185, 186, 187, 188, 189, 190, 191, 192, 193, 194, 195, 196, 197, 198, 199, 200, 201, 202, 203, 204, 205, 206] (h := ?_)
  refine c_seq ?_
  refine c_seq ?_
  refine c_region ?_
  refine l_rd r_move ?_
  refine l_rd r_move ?_
  refine l_rd r_len ?_
  refine l_rd r_lss ?_
  refine l_nil ?_
  refine x_then ?_
  refine c_false rfl ?_
  refine c_exit ?_
  refine x_thenE (x_thenE (x_inE (x_then ?_)))
  refine c_seq ?_
  refine c_seq ?_
  refine c_region ?_
  refine l_rd r_assign ?_
  refine l_nil ?_
  refine x_then ?_
  refine c_block ?_
  refine c_loop0 9 [0, 3, 4, 5, 6, 7, 8, 11, 12, 13, 14, 15, 16, 17, 18, 19, 20, 21, 22, 23, 24, 25, 26, 27, 28, 29, 30, 31, 32, 33, 34, 35, 36, 37, 38, 39, 40, 41, 42, 43, 44, 45, 46, 47, 48, 49, 50, 51, 52, 53, 54, 55, 56, 57, 58, 59, 60, 61, 62, 63, 64, 65, 66, 67, 68, 69, 70, 71, 72, 73, 74, 75, 76, 131, 132, 133, 134, 135, 136, 137, 138, 139, 140, 141, 142, 143, 144, 145, 146, 147, 148, 149, 150, 151, 152, 153, 154, 155, 156, 157, 158, 159, 160, 161, 162, 163, 164, 165, 166, 167, 168, 169, 170, 171, 172, 173, 174, 175, 176, 177, 178, 179, 180, 181, 182, 183, 184, 185, 186, 187, 188, 189, 190, 191, 192, 193, 194, 195, 196, 197, 198, 199, 200, 201, 202, 203, 204, 205, 206] (h := ?_)
  refine c_seq ?_
  refine c_seq ?_
  refine c_region ?_
  refine l_rd r_move ?_
  refine l_rd r_move ?_
  refine l_rd r_len ?_
  refine l_rd r_lss ?_
  refine l_nil ?_
  refine x_then ?_
  refine c_false rfl ?_
  refine c_exit ?_
  refine x_thenE (x_thenE (x_inE (x_then ?_)))
  refine c_seq ?_
  refine c_seq ?_
  refine c_region ?_
  refine l_rd r_assign ?_
  refine l_nil ?_
  refine x_then ?_
  refine c_block ?_
  refine c_loop0 11 [0, 3, 4, 5, 6, 7, 8, 9, 10, 14, 15, 16, 17, 18, 19, 20, 21, 22, 23, 24, 25, 26, 27, 28, 29, 30, 31, 32, 33, 34, 35, 36, 37, 38, 39, 40, 41, 42, 43, 44, 45, 46, 47, 48, 49, 50, 51, 52, 53, 54, 55, 56, 57, 58, 59, 60, 61, 62, 63, 64, 65, 66, 67, 68, 69, 70, 71, 72, 73, 74, 75, 76, 77, 78, 79, 80, 81, 82, 83, 84, 85, 86, 87, 88, 89, 90, 91, 92, 93, 94, 95, 96, 97, 98, 99, 100, 101, 102, 103, 104, 105, 106, 107, 108, 109, 110, 111, 112, 113, 114, 115, 116, 117, 118, 119, 120, 121, 122, 123, 124, 125, 126, 127, 128, 129, 130, 162, 163, 164, 165, 166, 167, 168, 169, 170, 171, 172, 173, 174, 175, 176, 177, 178, 179, 180, 181, 182, 183, 184, 185, 186, 187, 188, 189, 190, 191, 192, 193, 194, 195, 196, 197, 198, 199, 200, 201, 202, 203, 204, 205, 206] (h := ?_)
  refine c_seq ?_
  refine c_seq ?_
  refine c_region ?_
  refine l_rd r_move ?_
  refine l_rd r_move ?_
  refine l_rd r_len ?_
  refine l_rd r_lss ?_
  refine l_nil ?_
  refine x_then ?_
  refine c_false rfl ?_
  refine c_exit ?_
  refine x_thenE (x_thenE (x_inE (x_then ?_)))
  refine c_seq ?_
  refine c_seq ?_
  refine c_region ?_
  refine l_rd r_assign ?_
  refine l_nil ?_
  refine x_then ?_
  refine c_block ?_
  refine c_loop0 14 [0, 3, 4, 5, 6, 7, 8, 9, 10, 11, 12, 13, 16, 17, 18, 19, 20, 21, 22, 23, 24, 25, 26, 27, 28, 29, 30, 31, 32, 33, 34, 35, 36, 37, 38, 39, 40, 41, 42, 43, 44, 45, 46, 47, 48, 49, 50, 51, 52, 53, 54, 55, 56, 57, 58, 59, 60, 61, 62, 63, 64, 65, 66, 67, 68, 69, 70, 71, 72, 73, 74, 75, 76, 77, 78, 79, 80, 81, 82, 83, 84, 85, 86, 87, 88, 89, 90, 91, 92, 93, 94, 95, 96, 97, 98, 99, 100, 101, 102, 103, 104, 105, 106, 107, 108, 109, 110, 111, 112, 113, 114, 115, 116, 117, 118, 119, 120, 121, 122, 123, 124, 125, 126, 127, 128, 129, 130, 131, 132, 133, 134, 135, 136, 137, 138, 139, 140, 141, 142, 143, 144, 145, 146, 147, 148, 149, 150, 151, 152, 153, 154, 155, 156, 157, 158, 159, 160, 161] (h := ?_)
  refine c_seq ?_
  refine c_seq ?_
  refine c_region ?_
  refine l_rd r_move ?_
  refine l_rd r_move ?_
  refine l_rd r_len ?_
  refine l_rd r_lss ?_
  refine l_nil ?_
  refine x_then ?_
  refine c_false rfl ?_
  refine c_exit ?_
  refine x_thenE (x_thenE (x_inE (x_then ?_)))
  refine c_seq ?_
  refine c_region ?_
  refine l_rd r_assign ?_
  refine l_nil ?_
  refine x_then ?_
  refine c_ret ?_
  refine k_ret [] _ (.cons (.tmp rfl) .nil) (h := ?_)
  exact ⟨rfl, rfl⟩
theorem flatNodes0 : CSpec Tryz.prog 58 [.one (.sl 0 none 0 0)] [] [] fun o L => o = .ret (vb true) ∧ L = [] := by
  refine k_enter Tryz.func58 rfl rfl (h := fun w0 => ?_)
  refine c_seq ?_
  refine c_region ?_
  refine l_rd r_assign ?_
  refine l_nil ?_
  refine x_then ?_
  refine c_seq ?_
  refine c_seq ?_
  refine c_region ?_
  refine l_rd r_assign ?_
  refine l_nil ?_
  refine x_then ?_
  refine c_block ?_
  refine c_loop0 3 [0, 5, 6, 7, 8, 9, 10, 11, 12, 13, 14, 15, 40, 41, 42, 43, 44, 45, 46, 47, 48, 49, 50, 51, 52, 53, 54, 55, 56, 57, 58, 59, 60, 61, 62, 63, 64, 65, 66, 67, 68, 69, 70, 71, 72, 73, 74, 75, 76, 77, 78, 79, 80, 81, 82, 83, 84, 85, 86, 87, 88, 89, 90, 91, 92, 93, 94, 95, 96, 97, 98, 99, 100, 101, 102, 103, 104, 105, 106, 107, 108, 109, 110, 111, 112, 113, 114, 115, 116, 117, 118, 119, 120, 121, 122, 123, 124, 125, 126, 127, 128, 129, 130, 131, 132, 133, 134, 135, 136, 137, 138, 139, 140, 141, 142, 143, 144, 145, 146, 147, 148, 149, 150, 151, 152, 153, 154, 155, 156, 157, 158, 159, 160, 161, 162, 163, 164, 165, 166, 167, 168, 169, 170, 171, 172, 173, 174, 175, 176, 177, 178, 179, 180, 181, 182, 183, 184, 185, 186, 187, 188, 189, 190, 191, 192] (h := ?_)
  refine c_seq ?_
  refine c_seq ?_
  refine c_region ?_
  refine l_rd r_move ?_
  refine l_rd r_move ?_
  refine l_rd r_len ?_
  refine l_rd r_lss ?_
  refine l_nil ?_
  refine x_then ?_
  refine c_false rfl ?_
  refine c_exit ?_
  refine x_thenE (x_thenE (x_inE (x_then ?_)))
  refine c_seq ?_
  refine c_region ?_
  refine l_rd r_move ?_
  refine l_rd r_len ?_
  refine l_do d_make0 (fun g42 => ?_)
  refine l_rd r_assign ?_
  refine l_nil ?_
  refine x_then ?_
  refine c_seq ?_
  refine c_seq ?_
  refine c_region ?_
  refine l_rd r_assign ?_
  refine l_nil ?_
  refine x_then ?_
  refine c_block ?_
  refine c_loop0 6 [0, 3, 4, 5, 9, 10, 11, 12, 13, 14, 15, 16, 17, 18, 19, 20, 21, 22, 23, 24, 25, 26, 27, 28, 29, 30, 31, 32, 33, 34, 35, 36, 37, 38, 39, 40, 41, 42, 73, 74, 75, 76, 77, 78, 79, 80, 81, 82, 83, 84, 85, 86, 87, 88, 89, 90, 91, 92, 93, 94, 95, 96, 97, 98, 99, 100, 101, 102, 103, 104, 105, 106, 107, 108, 109, 110, 111, 112, 113, 114, 115, 116, 117, 118, 119, 120, 121, 122, 123, 124, 125, 126, 127, 128, 129, 130, 131, 132, 133, 134, 135, 136, 137, 138, 139, 140, 141, 142, 143, 144, 145, 146, 147, 148, 149, 150, 151, 152, 153, 154, 155, 156, 157, 158, 159, 160, 161, 162, 163, 164, 165, 166, 167, 168, 169, 170, 171, 172, 173, 174, 175, 176, 177, 178, 179, 180, 181, 182, 183, 184, 185, 186, 187, 188, 189, 190, 191, 192] (h := ?_)
  refine c_seq ?_
  refine c_seq ?_
  refine c_region ?_
  refine l_rd r_move ?_
  refine l_rd r_move ?_
  refine l_rd r_len ?_
  refine l_rd r_lss ?_
  refine l_nil ?_
  refine x_then ?_
  refine c_false rfl ?_
  refine c_exit ?_
  refine x_thenE (x_thenE (x_inE (x_then ?_)))
  refine c_seq ?_
  refine c_seq ?_
  refine c_region ?_
  refine l_rd r_assign ?_
  refine l_nil ?_
  refine x_then ?_
  refine c_block ?_
  refine c_loop0 9 [0, 3, 4, 5, 6, 7, 8, 11, 12, 13, 14, 15, 16, 17, 18, 19, 20, 21, 22, 23, 24, 25, 26, 27, 28, 29, 30, 31, 32, 33, 34, 35, 36, 37, 38, 39, 40, 41, 42, 43, 44, 45, 46, 47, 48, 49, 50, 51, 52, 53, 54, 55, 56, 57, 58, 59, 60, 61, 62, 63, 64, 65, 66, 67, 68, 69, 70, 71, 72, 123, 124, 125, 126, 127, 128, 129, 130, 131, 132, 133, 134, 135, 136, 137, 138, 139, 140, 141, 142, 143, 144, 145, 146, 147, 148, 149, 150, 151, 152, 153, 154, 155, 156, 157, 158, 159, 160, 161, 162, 163, 164, 165, 166, 167, 168, 169, 170, 171, 172, 173, 174, 175, 176, 177, 178, 179, 180, 181, 182, 183, 184, 185, 186, 187, 188, 189, 190, 191, 192] (h := ?_)
  refine c_seq ?_
  refine c_seq ?_
  refine c_region ?_
  refine l_rd r_move ?_
  refine l_rd r_move ?_
  refine l_rd r_len ?_
  refine l_rd r_lss ?_
  refine l_nil ?_
  refine x_then ?_
  refine c_false rfl ?_
  refine c_exit ?_
  refine x_thenE (x_thenE (x_inE (x_then ?_)))
  refine c_seq ?_
  refine c_seq ?_
  refine c_region ?_
  refine l_rd r_assign ?_
  refine l_nil ?_
  refine x_then ?_
  refine c_block ?_
  refine c_loop0 11 [0, 3, 4, 5, 6, 7, 8, 9, 10, 14, 15, 16, 17, 18, 19, 20, 21, 22, 23, 24, 25, 26, 27, 28, 29, 30, 31, 32, 33, 34, 35, 36, 37, 38, 39, 40, 41, 42, 43, 44, 45, 46, 47, 48, 49, 50, 51, 52, 53, 54, 55, 56, 57, 58, 59, 60, 61, 62, 63, 64, 65, 66, 67, 68, 69, 70, 71, 72, 73, 74, 75, 76, 77, 78, 79, 80, 81, 82, 83, 84, 85, 86, 87, 88, 89, 90, 91, 92, 93, 94, 95, 96, 97, 98, 99, 100, 101, 102, 103, 104, 105, 106, 107, 108, 109, 110, 111, 112, 113, 114, 115, 116, 117, 118, 119, 120, 121, 122, 152, 153, 154, 155, 156, 157, 158, 159, 160, 161, 162, 163, 164, 165, 166, 167, 168, 169, 170, 171, 172, 173, 174, 175, 176, 177, 178, 179, 180, 181, 182, 183, 184, 185, 186, 187, 188, 189, 190, 191, 192] (h := ?_)
  refine c_seq ?_
  refine c_seq ?_
  refine c_region ?_
  refine l_rd r_move ?_
  refine l_rd r_move ?_
  refine l_rd r_len ?_
  refine l_rd r_lss ?_
  refine l_nil ?_
  refine x_then ?_
  refine c_false rfl ?_
  refine c_exit ?_
  refine x_thenE (x_thenE (x_inE (x_then ?_)))
  refine c_seq ?_
  refine c_seq ?_
  refine c_region ?_
  refine l_rd r_assign ?_
  refine l_nil ?_
  refine x_then ?_
  refine c_block ?_
  refine c_loop0 14 [0, 3, 4, 5, 6, 7, 8, 9, 10, 11, 12, 13, 16, 17, 18, 19, 20, 21, 22, 23, 24, 25, 26, 27, 28, 29, 30, 31, 32, 33, 34, 35, 36, 37, 38, 39, 40, 41, 42, 43, 44, 45, 46, 47, 48, 49, 50, 51, 52, 53, 54, 55, 56, 57, 58, 59, 60, 61, 62, 63, 64, 65, 66, 67, 68, 69, 70, 71, 72, 73, 74, 75, 76, 77, 78, 79, 80, 81, 82, 83, 84, 85, 86, 87, 88, 89, 90, 91, 92, 93, 94, 95, 96, 97, 98, 99, 100, 101, 102, 103, 104, 105, 106, 107, 108, 109, 110, 111, 112, 113, 114, 115, 116, 117, 118, 119, 120, 121, 122, 123, 124, 125, 126, 127, 128, 129, 130, 131, 132, 133, 134, 135, 136, 137, 138, 139, 140, 141, 142, 143, 144, 145, 146, 147, 148, 149, 150, 151] (h := ?_)
  refine c_seq ?_
  refine c_seq ?_
  refine c_region ?_
  refine l_rd r_move ?_
  refine l_rd r_move ?_
  refine l_rd r_len ?_
  refine l_rd r_lss ?_
  refine l_nil ?_
  refine x_then ?_
  refine c_false rfl ?_
  refine c_exit ?_
  refine x_thenE (x_thenE (x_inE (x_then ?_)))
  refine c_seq ?_
  refine c_region ?_
  refine l_rd r_assign ?_
  refine l_nil ?_
  refine x_then ?_
  refine c_ret ?_
  refine k_ret [] _ (.cons (.tmp rfl) .nil) (h := ?_)
  exact ⟨rfl, rfl⟩
theorem flatTerms0 : CSpec Tryz.prog 59 [.one (.sl 0 none 0 0)] [] [] fun o L => o = .ret (vb true) ∧ L = [] := by
  refine k_enter Tryz.func59 rfl rfl (h := fun w0 => ?_)
  refine c_seq ?_
  refine c_region ?_
  refine l_rd r_assign ?_
  refine l_nil ?_
  refine x_then ?_
  refine c_seq ?_
  refine c_seq ?_
  refine c_region ?_
  refine l_rd r_assign ?_
  refine l_nil ?_
  refine x_then ?_
  refine c_block ?_
  refine c_loop0 3 [0, 5, 6, 7, 8, 9, 10, 11, 12, 13, 14, 15, 40, 41, 42, 43, 44, 45, 46, 47, 48, 49, 50, 51, 52, 53, 54, 55, 56, 57, 58, 59, 60, 61, 62, 63, 64, 65, 66, 67, 68, 69, 70, 71, 72, 73, 74, 75, 76, 77, 78, 79, 80, 81, 82, 83, 84, 85, 86, 87, 88, 89, 90, 91, 92, 93, 94, 95, 96, 97, 98, 99, 100, 101, 102, 103, 104, 105, 106, 107, 108, 109, 110, 111, 112, 113, 114, 115, 116, 117, 118, 119, 120, 121, 122, 123, 124, 125, 126, 127, 128, 129, 130, 131, 132, 133, 134, 135, 136, 137, 138, 139, 140, 141, 142, 143, 144, 145, 146, 147, 148, 149, 150, 151, 152, 153, 154, 155, 156, 157, 158, 159, 160, 161, 162, 163, 164, 165, 166, 167, 168, 169, 170, 171, 172, 173, 174, 175, 176, 177, 178, 179, 180, 181, 182, 183, 184, 185, 186, 187, 188, 189, 190, 191, 192] (h := ?_)
  refine c_seq ?_
  refine c_seq ?_
  refine c_region ?_
  refine l_rd r_move ?_
  refine l_rd r_move ?_
  refine l_rd r_len ?_
  refine l_rd r_lss ?_
  refine l_nil ?_
  refine x_then ?_
  refine c_false rfl ?_
  refine c_exit ?_
  refine x_thenE (x_thenE (x_inE (x_then ?_)))
  refine c_seq ?_
  refine c_region ?_
  refine l_rd r_move ?_
  refine l_rd r_len ?_
  refine l_do d_make0 (fun g42 => ?_)
  refine l_rd r_assign ?_
  refine l_nil ?_
  refine x_then ?_
  refine c_seq ?_
  refine c_seq ?_
  refine c_region ?_
  refine l_rd r_assign ?_
  refine l_nil ?_
  refine x_then ?_
  refine c_block ?_
  refine c_loop0 6 [0, 3, 4, 5, 9, 10, 11, 12, 13, 14, 15, 16, 17, 18, 19, 20, 21, 22, 23, 24, 25, 26, 27, 28, 29, 30, 31, 32, 33, 34, 35, 36, 37, 38, 39, 40, 41, 42, 73, 74, 75, 76, 77, 78, 79, 80, 81, 82, 83, 84, 85, 86, 87, 88, 89, 90, 91, 92, 93, 94, 95, 96, 97, 98, 99, 100, 101, 102, 103, 104, 105, 106, 107, 108, 109, 110, 111, 112, 113, 114, 115, 116, 117, 118, 119, 120, 121, 122, 123, 124, 125, 126, 127, 128, 129, 130, 131, 132, 133, 134, 135, 136, 137, 138, 139, 140, 141, 142, 143, 144, 145, 146, 147, 148, 149, 150, 151, 152, 153, 154, 155, 156, 157, 158, 159, 160, 161, 162, 163, 164, 165, 166, 167, 168, 169, 170, 171, 172, 173, 174, 175, 176, 177, 178, 179, 180, 181, 182, 183, 184, 185, 186, 187, 188, 189, 190, 191, 192] (h := ?_)
  refine c_seq ?_
  refine c_seq ?_
  refine c_region ?_
  refine l_rd r_move ?_
  refine l_rd r_move ?_
  refine l_rd r_len ?_
  refine l_rd r_lss ?_
  refine l_nil ?_
  refine x_then ?_
  refine c_false rfl ?_
  refine c_exit ?_
  refine x_thenE (x_thenE (x_inE (x_then ?_)))
  refine c_seq ?_
  refine c_seq ?_
  refine c_region ?_
  refine l_rd r_assign ?_
  refine l_nil ?_
  refine x_then ?_
  refine c_block ?_
  refine c_loop0 9 [0, 3, 4, 5, 6, 7, 8, 11, 12, 13, 14, 15, 16, 17, 18, 19, 20, 21, 22, 23, 24, 25, 26, 27, 28, 29, 30, 31, 32, 33, 34, 35, 36, 37, 38, 39, 40, 41, 42, 43, 44, 45, 46, 47, 48, 49, 50, 51, 52, 53, 54, 55, 56, 57, 58, 59, 60, 61, 62, 63, 64, 65, 66, 67, 68, 69, 70, 71, 72, 123, 124, 125, 126, 127, 128, 129, 130, 131, 132, 133, 134, 135, 136, 137, 138, 139, 140, 141, 142, 143, 144, 145, 146, 147, 148, 149, 150, 151, 152, 153, 154, 155, 156, 157, 158, 159, 160, 161, 162, 163, 164, 165, 166, 167, 168, 169, 170, 171, 172, 173, 174, 175, 176, 177, 178, 179, 180, 181, 182, 183, 184, 185, 186, 187, 188, 189, 190, 191, 192] (h := ?_)
  refine c_seq ?_
  refine c_seq ?_
  refine c_region ?_
  refine l_rd r_move ?_
  refine l_rd r_move ?_
  refine l_rd r_len ?_
  refine l_rd r_lss ?_
  refine l_nil ?_
  refine x_then ?_
  refine c_false rfl ?_
  refine c_exit ?_
  refine x_thenE (x_thenE (x_inE (x_then ?_)))
  refine c_seq ?_
  refine c_seq ?_
  refine c_region ?_
  refine l_rd r_assign ?_
  refine l_nil ?_
  refine x_then ?_
  refine c_block ?_
  refine c_loop0 11 [0, 3, 4, 5, 6, 7, 8, 9, 10, 14, 15, 16, 17, 18, 19, 20, 21, 22, 23, 24, 25, 26, 27, 28, 29, 30, 31, 32, 33, 34, 35, 36, 37, 38, 39, 40, 41, 42, 43, 44, 45, 46, 47, 48, 49, 50, 51, 52, 53, 54, 55, 56, 57, 58, 59, 60, 61, 62, 63, 64, 65, 66, 67, 68, 69, 70, 71, 72, 73, 74, 75, 76, 77, 78, 79, 80, 81, 82, 83, 84, 85, 86, 87, 88, 89, 90, 91, 92, 93, 94, 95, 96, 97, 98, 99, 100, 101, 102, 103, 104, 105, 106, 107, 108, 109, 110, 111, 112, 113, 114, 115, 116, 117, 118, 119, 120, 121, 122, 152, 153, 154, 155, 156, 157, 158, 159, 160, 161, 162, 163, 164, 165, 166, 167, 168, 169, 170, 171, 172, 173, 174, 175, 176, 177, 178, 179, 180, 181, 182, 183, 184, 185, 186, 187, 188, 189, 190, 191, 192] (h := ?_)
  refine c_seq ?_
  refine c_seq ?_
  refine c_region ?_
  refine l_rd r_move ?_
  refine l_rd r_move ?_
  refine l_rd r_len ?_
  refine l_rd r_lss ?_
  refine l_nil ?_
  refine x_then ?_
  refine c_false rfl ?_
  refine c_exit ?_
  refine x_thenE (x_thenE (x_inE (x_then ?_)))
  refine c_seq ?_
  refine c_seq ?_
  refine c_region ?_
  refine l_rd r_assign ?_
  refine l_nil ?_
  refine x_then ?_
  refine c_block ?_
  refine c_loop0 14 [0, 3, 4, 5, 6, 7, 8, 9, 10, 11, 12, 13, 16, 17, 18, 19, 20, 21, 22, 23, 24, 25, 26, 27, 28, 29, 30, 31, 32, 33, 34, 35, 36, 37, 38, 39, 40, 41, 42, 43, 44, 45, 46, 47, 48, 49, 50, 51, 52, 53, 54, 55, 56, 57, 58, 59, 60, 61, 62, 63, 64, 65, 66, 67, 68, 69, 70, 71, 72, 73, 74, 75, 76, 77, 78, 79, 80, 81, 82, 83, 84, 85, 86, 87, 88, 89, 90, 91, 92, 93, 94, 95, 96, 97, 98, 99, 100, 101, 102, 103, 104, 105, 106, 107, 108, 109, 110, 111, 112, 113, 114, 115, 116, 117, 118, 119, 120, 121, 122, 123, 124, 125, 126, 127, 128, 129, 130, 131, 132, 133, 134, 135, 136, 137, 138, 139, 140, 141, 142, 143, 144, 145, 146, 147, 148, 149, 150, 151] (h := ?_)
  refine c_seq ?_
  refine c_seq ?_
  refine c_region ?_
  refine l_rd r_move ?_
  refine l_rd r_move ?_
  refine l_rd r_len ?_
  refine l_rd r_lss ?_
  refine l_nil ?_
  refine x_then ?_
  refine c_false rfl ?_
  refine c_exit ?_
  refine x_thenE (x_thenE (x_inE (x_then ?_)))
  refine c_seq ?_
  refine c_region ?_
  refine l_rd r_assign ?_
  refine l_nil ?_
  refine x_then ?_
  refine c_ret ?_
  refine k_ret [] _ (.cons (.tmp rfl) .nil) (h := ?_)
  exact ⟨rfl, rfl⟩
theorem flatAssets0 : CSpec Tryz.prog 60 [.one (.sl 0 none 0 0)] [] [] fun o L => o = .ret (vb true) ∧ L = [] := by
  refine k_enter Tryz.func60 rfl rfl (h := fun w0 => ?_)
  refine c_seq ?_
  refine c_region ?_
  refine l_rd r_assign ?_
  refine l_nil ?_
  refine x_then ?_
  refine c_seq ?_
  refine c_seq ?_
  refine c_region ?_
  refine l_rd r_assign ?_
  refine l_nil ?_
  refine x_then ?_
  refine c_block ?_
  refine c_loop0 3 [0, 5, 6, 7, 8, 9, 10, 11, 12, 13, 14, 15, 40, 41, 42, 43, 44, 45, 46, 47, 48, 49, 50, 51, 52, 53, 54, 55, 56, 57, 58, 59, 60, 61, 62, 63, 64, 65, 66, 67, 68, 69, 70, 71, 72, 73, 74, 75, 76, 77, 78, 79, 80, 81, 82, 83, 84, 85, 86, 87, 88, 89, 90, 91, 92, 93, 94, 95, 96, 97, 98, 99, 100, 101, 102, 103, 104, 105, 106, 107, 108, 109, 110, 111, 112, 113, 114, 115, 116, 117, 118, 119, 120, 121, 122, 123, 124, 125, 126, 127, 128, 129, 130, 131, 132, 133, 134, 135, 136, 137, 138, 139, 140, 141, 142, 143, 144, 145, 146, 147, 148, 149, 150, 151, 152, 153, 154, 155, 156, 157, 158, 159, 160, 161, 162, 163, 164, 165, 166, 167, 168, 169, 170, 171, 172, 173, 174, 175, 176, 177, 178, 179, 180, 181, 182, 183, 184, 185, 186, 187, 188, 189, 190, 191, 192] (h := ?_)
  refine c_seq ?_
  refine c_seq ?_
  refine c_region ?_
  refine l_rd r_move ?_
  refine l_rd r_move ?_
  refine l_rd r_len ?_
  refine l_rd r_lss ?_
  refine l_nil ?_
  refine x_then ?_
  refine c_false rfl ?_
  refine c_exit ?_
  refine x_thenE (x_thenE (x_inE (x_then ?_)))
  refine c_seq ?_
  refine c_region ?_
  refine l_rd r_move ?_
  refine l_rd r_len ?_
  refine l_do d_make0 (fun g42 => ?_)
  refine l_rd r_assign ?_
  refine l_nil ?_
  refine x_then ?_
  refine c_seq ?_
  refine c_seq ?_
  refine c_region ?_
  refine l_rd r_assign ?_
  refine l_nil ?_
  refine x_then ?_
  refine c_block ?_
  refine c_loop0 6 [0, 3, 4, 5, 9, 10, 11, 12, 13, 14, 15, 16, 17, 18, 19, 20, 21, 22, 23, 24, 25, 26, 27, 28, 29, 30, 31, 32, 33, 34, 35, 36, 37, 38, 39, 40, 41, 42, 73, 74, 75, 76, 77, 78, 79, 80, 81, 82, 83, 84, 85, 86, 87, 88, 89, 90, 91, 92, 93, 94, 95, 96, 97, 98, 99, 100, 101, 102, 103, 104, 105, 106, 107, 108, 109, 110, 111, 112, 113, 114, 115, 116, 117, 118, 119, 120, 121, 122, 123, 124, 125, 126, 127, 128, 129, 130, 131, 132, 133, 134, 135, 136, 137, 138, 139, 140, 141, 142, 143, 144, 145, 146, 147, 148, 149, 150, 151, 152, 153, 154, 155, 156, 157, 158, 159, 160, 161, 162, 163, 164, 165, 166, 167, 168, 169, 170, 171, 172, 173, 174, 175, 176, 177, 178, 179, 180, 181, 182, 183, 184, 185, 186, 187, 188, 189, 190, 191, 192] (h := ?_)
  refine c_seq ?_
  refine c_seq ?_
  refine c_region ?_
  refine l_rd r_move ?_
  refine l_rd r_move ?_
  refine l_rd r_len ?_
  refine l_rd r_lss ?_
  refine l_nil ?_
  refine x_then ?_
  refine c_false rfl ?_
  refine c_exit ?_
  refine x_thenE (x_thenE (x_inE (x_then ?_)))
  refine c_seq ?_
  refine c_seq ?_
  refine c_region ?_
  refine l_rd r_assign ?_
  refine l_nil ?_
  refine x_then ?_
  refine c_block ?_
  refine c_loop0 9 [0, 3, 4, 5, 6, 7, 8, 11, 12, 13, 14, 15, 16, 17, 18, 19, 20, 21, 22, 23, 24, 25, 26, 27, 28, 29, 30, 31, 32, 33, 34, 35, 36, 37, 38, 39, 40, 41, 42, 43, 44, 45, 46, 47, 48, 49, 50, 51, 52, 53, 54, 55, 56, 57, 58, 59, 60, 61, 62, 63, 64, 65, 66, 67, 68, 69, 70, 71, 72, 123, 124, 125, 126, 127, 128, 129, 130, 131, 132, 133, 134, 135, 136, 137, 138, 139, 140, 141, 142, 143, 144, 145, 146, 147, 148, 149, 150, 151, 152, 153, 154, 155, 156, 157, 158, 159, 160, 161, 162, 163, 164, 165, 166, 167, 168, 169, 170, 171, 172, 173, 174, 175, 176, 177, 178, 179, 180, 181, 182, 183, 184, 185, 186, 187, 188, 189, 190, 191, 192] (h := ?_)
  refine c_seq ?_
  refine c_seq ?_
  refine c_region ?_
  refine l_rd r_move ?_
  refine l_rd r_move ?_
  refine l_rd r_len ?_
  refine l_rd r_lss ?_
  refine l_nil ?_
  refine x_then ?_
  refine c_false rfl ?_
  refine c_exit ?_
  refine x_thenE (x_thenE (x_inE (x_then ?_)))
  refine c_seq ?_
  refine c_seq ?_
  refine c_region ?_
  refine l_rd r_assign ?_
  refine l_nil ?_
  refine x_then ?_
  refine c_block ?_
  refine c_loop0 11 [0, 3, 4, 5, 6, 7, 8, 9, 10, 14, 15, 16, 17, 18, 19, 20, 21, 22, 23, 24, 25, 26, 27, 28, 29, 30, 31, 32, 33, 34, 35, 36, 37, 38, 39, 40, 41, 42, 43, 44, 45, 46, 47, 48, 49, 50, 51, 52, 53, 54, 55, 56, 57, 58, 59, 60, 61, 62, 63, 64, 65, 66, 67, 68, 69, 70, 71, 72, 73, 74, 75, 76, 77, 78, 79, 80, 81, 82, 83, 84, 85, 86, 87, 88, 89, 90, 91, 92, 93, 94, 95, 96, 97, 98, 99, 100, 101, 102, 103, 104, 105, 106, 107, 108, 109, 110, 111, 112, 113, 114, 115, 116, 117, 118, 119, 120, 121, 122, 152, 153, 154, 155, 156, 157, 158, 159, 160, 161, 162, 163, 164, 165, 166, 167, 168, 169, 170, 171, 172, 173, 174, 175, 176, 177, 178, 179, 180, 181, 182, 183, 184, 185, 186, 187, 188, 189, 190, 191, 192] (h := ?_)
  refine c_seq ?_
  refine c_seq ?_
  refine c_region ?_
  refine l_rd r_move ?_
  refine l_rd r_move ?_
  refine l_rd r_len ?_
  refine l_rd r_lss ?_
  refine l_nil ?_
  refine x_then ?_
  refine c_false rfl ?_
  refine c_exit ?_
  refine x_thenE (x_thenE (x_inE (x_then ?_)))
  refine c_seq ?_
  refine c_seq ?_
  refine c_region ?_
  refine l_rd r_assign ?_
  refine l_nil ?_
  refine x_then ?_
  refine c_block ?_
  refine c_loop0 14 [0, 3, 4, 5, 6, 7, 8, 9, 10, 11, 12, 13, 16, 17, 18, 19, 20, 21, 22, 23, 24, 25, 26, 27, 28, 29, 30, 31, 32, 33, 34, 35, 36, 37, 38, 39, 40, 41, 42, 43, 44, 45, 46, 47, 48, 49, 50, 51, 52, 53, 54, 55, 56, 57, 58, 59, 60, 61, 62, 63, 64, 65, 66, 67, 68, 69, 70, 71, 72, 73, 74, 75, 76, 77, 78, 79, 80, 81, 82, 83, 84, 85, 86, 87, 88, 89, 90, 91, 92, 93, 94, 95, 96, 97, 98, 99, 100, 101, 102, 103, 104, 105, 106, 107, 108, 109, 110, 111, 112, 113, 114, 115, 116, 117, 118, 119, 120, 121, 122, 123, 124, 125, 126, 127, 128, 129, 130, 131, 132, 133, 134, 135, 136, 137, 138, 139, 140, 141, 142, 143, 144, 145, 146, 147, 148, 149, 150, 151] (h := ?_)
  refine c_seq ?_
  refine c_seq ?_
  refine c_region ?_
  refine l_rd r_move ?_
  refine l_rd r_move ?_
  refine l_rd r_len ?_
  refine l_rd r_lss ?_
  refine l_nil ?_
  refine x_then ?_
  refine c_false rfl ?_
  refine c_exit ?_
  refine x_thenE (x_thenE (x_inE (x_then ?_)))
  refine c_seq ?_
  refine c_region ?_
  refine l_rd r_assign ?_
  refine l_nil ?_
  refine x_then ?_
  refine c_ret ?_
  refine k_ret [] _ (.cons (.tmp rfl) .nil) (h := ?_)
  exact ⟨rfl, rfl⟩
theorem flatValues0 : CSpec Tryz.prog 61 [.one (.sl 0 none 0 0)] [] [] fun o L => o = .ret (vb true) ∧ L = [] := by
  refine k_enter Tryz.func61 rfl rfl (h := fun w0 => ?_)
  refine c_seq ?_
  refine c_region ?_
  refine l_rd r_assign ?_
  refine l_nil ?_
  refine x_then ?_
  refine c_seq ?_
  refine c_seq ?_
  refine c_region ?_
  refine l_rd r_assign ?_
  refine l_nil ?_
  refine x_then ?_
  refine c_block ?_
  refine c_loop0 3 [0, 5, 6, 7, 8, 9, 10, 11, 12, 13, 14, 15, 40, 41, 42, 43, 44, 45, 46, 47, 48, 49, 50, 51, 52, 53, 54, 55, 56, 57, 58, 59, 60, 61, 62, 63, 64, 65, 66, 67, 68, 69, 70, 71, 72, 73, 74, 75, 76, 77, 78, 79, 80, 81, 82, 83, 84, 85, 86, 87, 88, 89, 90, 91, 92, 93, 94, 95, 96, 97, 98, 99, 100, 101, 102, 103, 104, 105, 106, 107, 108, 109, 110, 111, 112, 113, 114, 115, 116, 117, 118, 119, 120, 121, 122, 123, 124, 125, 126, 127, 128, 129, 130, 131, 132, 133, 134, 135, 136, 137, 138, 139, 140, 141, 142, 143, 144, 145, 146, 147, 148, 149, 150, 151, 152, 153, 154, 155, 156, 157, 158, 159, 160, 161, 162, 163, 164, 165, 166, 167, 168, 169, 170, 171, 172, 173, 174, 175, 176, 177, 178, 179, 180, 181, 182, 183, 184, 185, 186, 187, 188, 189, 190, 191, 192] (h := ?_)
  refine c_seq ?_
  refine c_seq ?_
  refine c_region ?_
  refine l_rd r_move ?_
  refine l_rd r_move ?_
  refine l_rd r_len ?_
  refine l_rd r_lss ?_
  refine l_nil ?_
  refine x_then ?_
  refine c_false rfl ?_
  refine c_exit ?_
  refine x_thenE (x_thenE (x_inE (x_then ?_)))
  refine c_seq ?_
  refine c_region ?_
  refine l_rd r_move ?_
  refine l_rd r_len ?_
  refine l_do d_make0 (fun g42 => ?_)
  refine l_rd r_assign ?_
  refine l_nil ?_
  refine x_then ?_
  refine c_seq ?_
  refine c_seq ?_
  refine c_region ?_
  refine l_rd r_assign ?_
  refine l_nil ?_
  refine x_then ?_
  refine c_block ?_
  refine c_loop0 6 [0, 3, 4, 5, 9, 10, 11, 12, 13, 14, 15, 16, 17, 18, 19, 20, 21, 22, 23, 24, 25, 26, 27, 28, 29, 30, 31, 32, 33, 34, 35, 36, 37, 38, 39, 40, 41, 42, 73, 74, 75, 76, 77, 78, 79, 80, 81, 82, 83, 84, 85, 86, 87, 88, 89, 90, 91, 92, 93, 94, 95, 96, 97, 98, 99, 100, 101, 102, 103, 104, 105, 106, 107, 108, 109, 110, 111, 112, 113, 114, 115, 116, 117, 118, 119, 120, 121, 122, 123, 124, 125, 126, 127, 128, 129, 130, 131, 132, 133, 134, 135, 136, 137, 138, 139, 140, 141, 142, 143, 144, 145, 146, 147, 148, 149, 150, 151, 152, 153, 154, 155, 156, 157, 158, 159, 160, 161, 162, 163, 164, 165, 166, 167, 168, 169, 170, 171, 172, 173, 174, 175, 176, 177, 178, 179, 180, 181, 182, 183, 184, 185, 186, 187, 188, 189, 190, 191, 192] (h := ?_)
  refine c_seq ?_
  refine c_seq ?_
  refine c_region ?_
  refine l_rd r_move ?_
  refine l_rd r_move ?_
  refine l_rd r_len ?_
  refine l_rd r_lss ?_
  refine l_nil ?_
  refine x_then ?_
  refine c_false rfl ?_
  refine c_exit ?_
  refine x_thenE (x_thenE (x_inE (x_then ?_)))
  refine c_seq ?_
  refine c_seq ?_
  refine c_region ?_
  refine l_rd r_assign ?_
  refine l_nil ?_
  refine x_then ?_
  refine c_block ?_
  refine c_loop0 9 [0, 3, 4, 5, 6, 7, 8, 11, 12, 13, 14, 15, 16, 17, 18, 19, 20, 21, 22, 23, 24, 25, 26, 27, 28, 29, 30, 31, 32, 33, 34, 35, 36, 37, 38, 39, 40, 41, 42, 43, 44, 45, 46, 47, 48, 49, 50, 51, 52, 53, 54, 55, 56, 57, 58, 59, 60, 61, 62, 63, 64, 65, 66, 67, 68, 69, 70, 71, 72, 123, 124, 125, 126, 127, 128, 129, 130, 131, 132, 133, 134, 135, 136, 137, 138, 139, 140, 141, 142, 143, 144, 145, 146, 147, 148, 149, 150, 151, 152, 153, 154, 155, 156, 157, 158, 159, 160, 161, 162, 163, 164, 165, 166, 167, 168, 169, 170, 171, 172, 173, 174, 175, 176, 177, 178, 179, 180, 181, 182, 183, 184, 185, 186, 187, 188, 189, 190, 191, 192] (h := ?_)
  refine c_seq ?_
  refine c_seq ?_
  refine c_region ?_
  refine l_rd r_move ?_
  refine l_rd r_move ?_
  refine l_rd r_len ?_
  refine l_rd r_lss ?_
  refine l_nil ?_
  refine x_then ?_
  refine c_false rfl ?_
  refine c_exit ?_
  refine x_thenE (x_thenE (x_inE (x_then ?_)))
  refine c_seq ?_
  refine c_seq ?_
  refine c_region ?_
  refine l_rd r_assign ?_
  refine l_nil ?_
  refine x_then ?_
  refine c_block ?_
  refine c_loop0 11 [0, 3, 4, 5, 6, 7, 8, 9, 10, 14, 15, 16, 17, 18, 19, 20, 21, 22, 23, 24, 25, 26, 27, 28, 29, 30, 31, 32, 33, 34, 35, 36, 37, 38, 39, 40, 41, 42, 43, 44, 45, 46, 47, 48, 49, 50, 51, 52, 53, 54, 55, 56, 57, 58, 59, 60, 61, 62, 63, 64, 65, 66, 67, 68, 69, 70, 71, 72, 73, 74, 75, 76, 77, 78, 79, 80, 81, 82, 83, 84, 85, 86, 87, 88, 89, 90, 91, 92, 93, 94, 95, 96, 97, 98, 99, 100, 101, 102, 103, 104, 105, 106, 107, 108, 109, 110, 111, 112, 113, 114, 115, 116, 117, 118, 119, 120, 121, 122, 152, 153, 154, 155, 156, 157, 158, 159, 160, 161, 162, 163, 164, 165, 166, 167, 168, 169, 170, 171, 172, 173, 174, 175, 176, 177, 178, 179, 180, 181, 182, 183, 184, 185, 186, 187, 188, 189, 190, 191, 192] (h := ?_)
  refine c_seq ?_
  refine c_seq ?_
  refine c_region ?_
  refine l_rd r_move ?_
  refine l_rd r_move ?_
  refine l_rd r_len ?_
  refine l_rd r_lss ?_
  refine l_nil ?_
  refine x_then ?_
  refine c_false rfl ?_
  refine c_exit ?_
  refine x_thenE (x_thenE (x_inE (x_then ?_)))
  refine c_seq ?_
  refine c_seq ?_
  refine c_region ?_
  refine l_rd r_assign ?_
  refine l_nil ?_
  refine x_then ?_
  refine c_block ?_
  refine c_loop0 14 [0, 3, 4, 5, 6, 7, 8, 9, 10, 11, 12, 13, 16, 17, 18, 19, 20, 21, 22, 23, 24, 25, 26, 27, 28, 29, 30, 31, 32, 33, 34, 35, 36, 37, 38, 39, 40, 41, 42, 43, 44, 45, 46, 47, 48, 49, 50, 51, 52, 53, 54, 55, 56, 57, 58, 59, 60, 61, 62, 63, 64, 65, 66, 67, 68, 69, 70, 71, 72, 73, 74, 75, 76, 77, 78, 79, 80, 81, 82, 83, 84, 85, 86, 87, 88, 89, 90, 91, 92, 93, 94, 95, 96, 97, 98, 99, 100, 101, 102, 103, 104, 105, 106, 107, 108, 109, 110, 111, 112, 113, 114, 115, 116, 117, 118, 119, 120, 121, 122, 123, 124, 125, 126, 127, 128, 129, 130, 131, 132, 133, 134, 135, 136, 137, 138, 139, 140, 141, 142, 143, 144, 145, 146, 147, 148, 149, 150, 151] (h := ?_)
  refine c_seq ?_
  refine c_seq ?_
  refine c_region ?_
  refine l_rd r_move ?_
  refine l_rd r_move ?_
  refine l_rd r_len ?_
  refine l_rd r_lss ?_
  refine l_nil ?_
  refine x_then ?_
  refine c_false rfl ?_
  refine c_exit ?_
  refine x_thenE (x_thenE (x_inE (x_then ?_)))
  refine c_seq ?_
  refine c_region ?_
  refine l_rd r_assign ?_
  refine l_nil ?_
  refine x_then ?_
  refine c_ret ?_
  refine k_ret [] _ (.cons (.tmp rfl) .nil) (h := ?_)
  exact ⟨rfl, rfl⟩
theorem flatOutputs0 : CSpec Tryz.prog 62 [.one (.sl 0 none 0 0)] [] [] fun o L => o = .ret (vb true) ∧ L = [] := by
  refine k_enter Tryz.func62 rfl rfl (h := fun w0 => ?_)
  refine c_seq ?_
  refine c_region ?_
  refine l_rd r_assign ?_
  refine l_nil ?_
  refine x_then ?_
  refine c_seq ?_
  refine c_seq ?_
  refine c_region ?_
  refine l_rd r_assign ?_
  refine l_nil ?_
  refine x_then ?_
  refine c_block ?_
  refine c_loop0 3 [0, 5, 6, 7, 8, 9, 10, 11, 12, 13, 14, 15, 40, 41, 42, 43, 44, 45, 46, 47, 48, 49, 50, 51, 52, 53, 54, 55, 56, 57, 58, 59, 60, 61, 62, 63, 64, 65, 66, 67, 68, 69, 70, 71, 72, 73, 74, 75, 76, 77, 78, 79, 80, 81, 82, 83, 84, 85, 86, 87, 88, 89, 90, 91, 92, 93, 94, 95, 96, 97, 98, 99, 100, 101, 102, 103, 104, 105, 106, 107, 108, 109, 110, 111, 112, 113, 114, 115, 116, 117, 118, 119, 120, 121, 122, 123, 124, 125, 126, 127, 128, 129, 130, 131, 132, 133, 134, 135, 136, 137, 138, 139, 140, 141, 142, 143, 144, 145, 146, 147, 148, 149, 150, 151, 152, 153, 154, 155, 156, 157, 158, 159, 160, 161, 162, 163, 164, 165, 166, 167, 168, 169, 170, 171, 172, 173, 174, 175, 176, 177, 178, 179, 180, 181, 182, 183, 184, 185, 186, 187, 188, 189, 190, 191, 192] (h := ?_)
  refine c_seq ?_
  refine c_seq ?_
  refine c_region ?_
  refine l_rd r_move ?_
  refine l_rd r_move ?_
  refine l_rd r_len ?_
  refine l_rd r_lss ?_
  refine l_nil ?_
  refine x_then ?_
  refine c_false rfl ?_
  refine c_exit ?_
  refine x_thenE (x_thenE (x_inE (x_then ?_)))
  refine c_seq ?_
  refine c_region ?_
  refine l_rd r_move ?_
  refine l_rd r_len ?_
  refine l_do d_make0 (fun g42 => ?_)
  refine l_rd r_assign ?_
  refine l_nil ?_
  refine x_then ?_
  refine c_seq ?_
  refine c_seq ?_
  refine c_region ?_
  refine l_rd r_assign ?_
  refine l_nil ?_
  refine x_then ?_
  refine c_block ?_
  refine c_loop0 6 [0, 3, 4, 5, 9, 10, 11, 12, 13, 14, 15, 16, 17, 18, 19, 20, 21, 22, 23, 24, 25, 26, 27, 28, 29, 30, 31, 32, 33, 34, 35, 36, 37, 38, 39, 40, 41, 42, 73, 74, 75, 76, 77, 78, 79, 80, 81, 82, 83, 84, 85, 86, 87, 88, 89, 90, 91, 92, 93, 94, 95, 96, 97, 98, 99, 100, 101, 102, 103, 104, 105, 106, 107, 108, 109, 110, 111, 112, 113, 114, 115, 116, 117, 118, 119, 120, 121, 122, 123, 124, 125, 126, 127, 128, 129, 130, 131, 132, 133, 134, 135, 136, 137, 138, 139, 140, 141, 142, 143, 144, 145, 146, 147, 148, 149, 150, 151, 152, 153, 154, 155, 156, 157, 158, 159, 160, 161, 162, 163, 164, 165, 166, 167, 168, 169, 170, 171, 172, 173, 174, 175, 176, 177, 178, 179, 180, 181, 182, 183, 184, 185, 186, 187, 188, 189, 190, 191, 192] (h := ?_)
  refine c_seq ?_
  refine c_seq ?_
  refine c_region ?_
  refine l_rd r_move ?_
  refine l_rd r_move ?_
  refine l_rd r_len ?_
  refine l_rd r_lss ?_
  refine l_nil ?_
  refine x_then ?_
  refine c_false rfl ?_
  refine c_exit ?_
  refine x_thenE (x_thenE (x_inE (x_then ?_)))
  refine c_seq ?_
  refine c_seq ?_
  refine c_region ?_
  refine l_rd r_assign ?_
  refine l_nil ?_
  refine x_then ?_
  refine c_block ?_
  refine c_loop0 9 [0, 3, 4, 5, 6, 7, 8, 11, 12, 13, 14, 15, 16, 17, 18, 19, 20, 21, 22, 23, 24, 25, 26, 27, 28, 29, 30, 31, 32, 33, 34, 35, 36, 37, 38, 39, 40, 41, 42, 43, 44, 45, 46, 47, 48, 49, 50, 51, 52, 53, 54, 55, 56, 57, 58, 59, 60, 61, 62, 63, 64, 65, 66, 67, 68, 69, 70, 71, 72, 123, 124, 125, 126, 127, 128, 129, 130, 131, 132, 133, 134, 135, 136, 137, 138, 139, 140, 141, 142, 143, 144, 145, 146, 147, 148, 149, 150, 151, 152, 153, 154, 155, 156, 157, 158, 159, 160, 161, 162, 163, 164, 165, 166, 167, 168, 169, 170, 171, 172, 173, 174, 175, 176, 177, 178, 179, 180, 181, 182, 183, 184, 185, 186, 187, 188, 189, 190, 191, 192] (h := ?_)
  refine c_seq ?_
  refine c_seq ?_
  refine c_region ?_
  refine l_rd r_move ?_
  refine l_rd r_move ?_
  refine l_rd r_len ?_
  refine l_rd r_lss ?_
  refine l_nil ?_
  refine x_then ?_
  refine c_false rfl ?_
  refine c_exit ?_
  refine x_thenE (x_thenE (x_inE (x_then ?_)))
  refine c_seq ?_
  refine c_seq ?_
  refine c_region ?_
  refine l_rd r_assign ?_
  refine l_nil ?_
  refine x_then ?_
  refine c_block ?_
  refine c_loop0 11 [0, 3, 4, 5, 6, 7, 8, 9, 10, 14, 15, 16, 17, 18, 19, 20, 21, 22, 23, 24, 25, 26, 27, 28, 29, 30, 31, 32, 33, 34, 35, 36, 37, 38, 39, 40, 41, 42, 43, 44, 45, 46, 47, 48, 49, 50, 51, 52, 53, 54, 55, 56, 57, 58, 59, 60, 61, 62, 63, 64, 65, 66, 67, 68, 69, 70, 71, 72, 73, 74, 75, 76, 77, 78, 79, 80, 81, 82, 83, 84, 85, 86, 87, 88, 89, 90, 91, 92, 93, 94, 95, 96, 97, 98, 99, 100, 101, 102, 103, 104, 105, 106, 107, 108, 109, 110, 111, 112, 113, 114, 115, 116, 117, 118, 119, 120, 121, 122, 152, 153, 154, 155, 156, 157, 158, 159, 160, 161, 162, 163, 164, 165, 166, 167, 168, 169, 170, 171, 172, 173, 174, 175, 176, 177, 178, 179, 180, 181, 182, 183, 184, 185, 186, 187, 188, 189, 190, 191, 192] (h := ?_)
  refine c_seq ?_
  refine c_seq ?_
  refine c_region ?_
  refine l_rd r_move ?_
  refine l_rd r_move ?_
  refine l_rd r_len ?_
  refine l_rd r_lss ?_
  refine l_nil ?_
  refine x_then ?_
  refine c_false rfl ?_
  refine c_exit ?_
  refine x_thenE (x_thenE (x_inE (x_then ?_)))
  refine c_seq ?_
  refine c_seq ?_
  refine c_region ?_
  refine l_rd r_assign ?_
  refine l_nil ?_
  refine x_then ?_
  refine c_block ?_
  refine c_loop0 14 [0, 3, 4, 5, 6, 7, 8, 9, 10, 11, 12, 13, 16, 17, 18, 19, 20, 21, 22, 23, 24, 25, 26, 27, 28, 29, 30, 31, 32, 33, 34, 35, 36, 37, 38, 39, 40, 41, 42, 43, 44, 45, 46, 47, 48, 49, 50, 51, 52, 53, 54, 55, 56, 57, 58, 59, 60, 61, 62, 63, 64, 65, 66, 67, 68, 69, 70, 71, 72, 73, 74, 75, 76, 77, 78, 79, 80, 81, 82, 83, 84, 85, 86, 87, 88, 89, 90, 91, 92, 93, 94, 95, 96, 97, 98, 99, 100, 101, 102, 103, 104, 105, 106, 107, 108, 109, 110, 111, 112, 113, 114, 115, 116, 117, 118, 119, 120, 121, 122, 123, 124, 125, 126, 127, 128, 129, 130, 131, 132, 133, 134, 135, 136, 137, 138, 139, 140, 141, 142, 143, 144, 145, 146, 147, 148, 149, 150, 151] (h := ?_)
  refine c_seq ?_
  refine c_seq ?_
  refine c_region ?_
  refine l_rd r_move ?_
  refine l_rd r_move ?_
  refine l_rd r_len ?_
  refine l_rd r_lss ?_
  refine l_nil ?_
  refine x_then ?_
  refine c_false rfl ?_
  refine c_exit ?_
  refine x_thenE (x_thenE (x_inE (x_then ?_)))
  refine c_seq ?_
  refine c_region ?_
  refine l_rd r_assign ?_
  refine l_nil ?_
  refine x_then ?_
  refine c_ret ?_
  refine k_ret [] _ (.cons (.tmp rfl) .nil) (h := ?_)
  exact ⟨rfl, rfl⟩
theorem flatRefs0 : CSpec Tryz.prog 63 [.one (.sl 0 none 0 0)] [] [] fun o L => o = .ret (vb true) ∧ L = [] := by
  refine k_enter Tryz.func63 rfl rfl (h := fun w0 => ?_)
  refine c_seq ?_
  refine c_region ?_
  refine l_rd r_assign ?_
  refine l_nil ?_
  refine x_then ?_
  refine c_seq ?_
  refine c_seq ?_
  refine c_region ?_
  refine l_rd r_assign ?_
  refine l_nil ?_
  refine x_then ?_
  refine c_block ?_
  refine c_loop0 3 [0, 5, 6, 7, 8, 9, 10, 11, 12, 13, 14, 15, 40, 41, 42, 43, 44, 45, 46, 47, 48, 49, 50, 51, 52, 53, 54, 55, 56, 57, 58, 59, 60, 61, 62, 63, 64, 65, 66, 67, 68, 69, 70, 71, 72, 73, 74, 75, 76, 77, 78, 79, 80, 81, 82, 83, 84, 85, 86, 87, 88, 89, 90, 91, 92, 93, 94, 95, 96, 97, 98, 99, 100, 101, 102, 103, 104, 105, 106, 107, 108, 109, 110, 111, 112, 113, 114, 115, 116, 117, 118, 119, 120, 121, 122, 123, 124, 125, 126, 127, 128, 129, 130, 131, 132, 133, 134, 135, 136, 137, 138, 139, 140, 141, 142, 143, 144, 145, 146, 147, 148, 149, 150, 151, 152, 153, 154, 155, 156, 157, 158, 159, 160, 161, 162, 163, 164, 165, 166, 167, 168, 169, 170, 171, 172, 173, 174, 175, 176, 177, 178, 179, 180, 181, 182, 183, 184, 185, 186, 187, 188, 189, 190, 191, 192] (h := ?_)
  refine c_seq ?_
  refine c_seq ?_
  refine c_region ?_
  refine l_rd r_move ?_
  refine l_rd r_move ?_
  refine l_rd r_len ?_
  refine l_rd r_lss ?_
  refine l_nil ?_
  refine x_then ?_
  refine c_false rfl ?_
  refine c_exit ?_
  refine x_thenE (x_thenE (x_inE (x_then ?_)))
  refine c_seq ?_
  refine c_region ?_
  refine l_rd r_move ?_
  refine l_rd r_len ?_
  refine l_do d_make0 (fun g42 => ?_)
  refine l_rd r_assign ?_
  refine l_nil ?_
  refine x_then ?_
  refine c_seq ?_
  refine c_seq ?_
  refine c_region ?_
  refine l_rd r_assign ?_
  refine l_nil ?_
  refine x_then ?_
  refine c_block ?_
  refine c_loop0 6 [0, 3, 4, 5, 9, 10, 11, 12, 13, 14, 15, 16, 17, 18, 19, 20, 21, 22, 23, 24, 25, 26, 27, 28, 29, 30, 31, 32, 33, 34, 35, 36, 37, 38, 39, 40, 41, 42, 73, 74, 75, 76, 77, 78, 79, 80, 81, 82, 83, 84, 85, 86, 87, 88, 89, 90, 91, 92, 93, 94, 95, 96, 97, 98, 99, 100, 101, 102, 103, 104, 105, 106, 107, 108, 109, 110, 111, 112, 113, 114, 115, 116, 117, 118, 119, 120, 121, 122, 123, 124, 125, 126, 127, 128, 129, 130, 131, 132, 133, 134, 135, 136, 137, 138, 139, 140, 141, 142, 143, 144, 145, 146, 147, 148, 149, 150, 151, 152, 153, 154, 155, 156, 157, 158, 159, 160, 161, 162, 163, 164, 165, 166, 167, 168, 169, 170, 171, 172, 173, 174, 175, 176, 177, 178, 179, 180, 181, 182, 183, 184, 185, 186, 187, 188, 189, 190, 191, 192] (h := ?_)
  refine c_seq ?_
  refine c_seq ?_
  refine c_region ?_
  refine l_rd r_move ?_
  refine l_rd r_move ?_
  refine l_rd r_len ?_
  refine l_rd r_lss ?_
  refine l_nil ?_
  refine x_then ?_
  refine c_false rfl ?_
  refine c_exit ?_
  refine x_thenE (x_thenE (x_inE (x_then ?_)))
  refine c_seq ?_
  refine c_seq ?_
  refine c_region ?_
  refine l_rd r_assign ?_
  refine l_nil ?_
  refine x_then ?_
  refine c_block ?_
  refine c_loop0 9 [0, 3, 4, 5, 6, 7, 8, 11, 12, 13, 14, 15, 16, 17, 18, 19, 20, 21, 22, 23, 24, 25, 26, 27, 28, 29, 30, 31, 32, 33, 34, 35, 36, 37, 38, 39, 40, 41, 42, 43, 44, 45, 46, 47, 48, 49, 50, 51, 52, 53, 54, 55, 56, 57, 58, 59, 60, 61, 62, 63, 64, 65, 66, 67, 68, 69, 70, 71, 72, 123, 124, 125, 126, 127, 128, 129, 130, 131, 132, 133, 134, 135, 136, 137, 138, 139, 140, 141, 142, 143, 144, 145, 146, 147, 148, 149, 150, 151, 152, 153, 154, 155, 156, 157, 158, 159, 160, 161, 162, 163, 164, 165, 166, 167, 168, 169, 170, 171, 172, 173, 174, 175, 176, 177, 178, 179, 180, 181, 182, 183, 184, 185, 186, 187, 188, 189, 190, 191, 192] (h := ?_)
  refine c_seq ?_
  refine c_seq ?_
  refine c_region ?_
  refine l_rd r_move ?_
  refine l_rd r_move ?_
  refine l_rd r_len ?_
  refine l_rd r_lss ?_
  refine l_nil ?_
  refine x_then ?_
  refine c_false rfl ?_
  refine c_exit ?_
  refine x_thenE (x_thenE (x_inE (x_then ?_)))
  refine c_seq ?_
  refine c_seq ?_
  refine c_region ?_
  refine l_rd r_assign ?_
  refine l_nil ?_
  refine x_then ?_
  refine c_block ?_
  refine c_loop0 11 [0, 3, 4, 5, 6, 7, 8, 9, 10, 14, 15, 16, 17, 18, 19, 20, 21, 22, 23, 24, 25, 26, 27, 28, 29, 30, 31, 32, 33, 34, 35, 36, 37, 38, 39, 40, 41, 42, 43, 44, 45, 46, 47, 48, 49, 50, 51, 52, 53, 54, 55, 56, 57, 58, 59, 60, 61, 62, 63, 64, 65, 66, 67, 68, 69, 70, 71, 72, 73, 74, 75, 76, 77, 78, 79, 80, 81, 82, 83, 84, 85, 86, 87, 88, 89, 90, 91, 92, 93, 94, 95, 96, 97, 98, 99, 100, 101, 102, 103, 104, 105, 106, 107, 108, 109, 110, 111, 112, 113, 114, 115, 116, 117, 118, 119, 120, 121, 122, 152, 153, 154, 155, 156, 157, 158, 159, 160, 161, 162, 163, 164, 165, 166, 167, 168, 169, 170, 171, 172, 173, 174, 175, 176, 177, 178, 179, 180, 181, 182, 183, 184, 185, 186, 187, 188, 189, 190, 191, 192] (h := ?_)
  refine c_seq ?_
  refine c_seq ?_
  refine c_region ?_
  refine l_rd r_move ?_
  refine l_rd r_move ?_
  refine l_rd r_len ?_
  refine l_rd r_lss ?_
  refine l_nil ?_
  refine x_then ?_
  refine c_false rfl ?_
  refine c_exit ?_
  refine x_thenE (x_thenE (x_inE (x_then ?_)))
  refine c_seq ?_
  refine c_seq ?_
  refine c_region ?_
  refine l_rd r_assign ?_
  refine l_nil ?_
  refine x_then ?_
  refine c_block ?_
  refine c_loop0 14 [0, 3, 4, 5, 6, 7, 8, 9, 10, 11, 12, 13, 16, 17, 18, 19, 20, 21, 22, 23, 24, 25, 26, 27, 28, 29, 30, 31, 32, 33, 34, 35, 36, 37, 38, 39, 40, 41, 42, 43, 44, 45, 46, 47, 48, 49, 50, 51, 52, 53, 54, 55, 56, 57, 58, 59, 60, 61, 62, 63, 64, 65, 66, 67, 68, 69, 70, 71, 72, 73, 74, 75, 76, 77, 78, 79, 80, 81, 82, 83, 84, 85, 86, 87, 88, 89, 90, 91, 92, 93, 94, 95, 96, 97, 98, 99, 100, 101, 102, 103, 104, 105, 106, 107, 108, 109, 110, 111, 112, 113, 114, 115, 116, 117, 118, 119, 120, 121, 122, 123, 124, 125, 126, 127, 128, 129, 130, 131, 132, 133, 134, 135, 136, 137, 138, 139, 140, 141, 142, 143, 144, 145, 146, 147, 148, 149, 150, 151] (h := ?_)
  refine c_seq ?_
  refine c_seq ?_
  refine c_region ?_
  refine l_rd r_move ?_
  refine l_rd r_move ?_
  refine l_rd r_len ?_
  refine l_rd r_lss ?_
  refine l_nil ?_
  refine x_then ?_
  refine c_false rfl ?_
  refine c_exit ?_
  refine x_thenE (x_thenE (x_inE (x_then ?_)))
  refine c_seq ?_
  refine c_region ?_
  refine l_rd r_assign ?_
  refine l_nil ?_
  refine x_then ?_
  refine c_ret ?_
  refine k_ret [] _ (.cons (.tmp rfl) .nil) (h := ?_)
  exact ⟨rfl, rfl⟩
theorem flatEntries0 : CSpec Tryz.prog 64 [.one (.sl 0 none 0 0)] [] [] fun o L => o = .ret (vb true) ∧ L = [] := by
  refine k_enter Tryz.func64 rfl rfl (h := fun w0 => ?_)
  refine c_seq ?_
  refine c_region ?_
  refine l_rd r_assign ?_
  refine l_nil ?_
  refine x_then ?_
  refine c_seq ?_
  refine c_seq ?_
  refine c_region ?_
  refine l_rd r_assign ?_
  refine l_nil ?_
  refine x_then ?_
  refine c_block ?_
  refine c_loop0 3 [0, 5, 6, 7, 8, 9, 10, 11, 12, 13, 14, 15, 40, 41, 42, 43, 44, 45, 46, 47, 48, 49, 50, 51, 52, 53, 54, 55, 56, 57, 58, 59, 60, 61, 62, 63, 64, 65, 66, 67, 68, 69, 70, 71, 72, 73, 74, 75, 76, 77, 78, 79, 80, 81, 82, 83, 84, 85, 86, 87, 88, 89, 90, 91, 92, 93, 94, 95, 96, 97, 98, 99, 100, 101, 102, 103, 104, 105, 106, 107, 108, 109, 110, 111, 112, 113, 114, 115, 116, 117, 118, 119, 120, 121, 122, 123, 124, 125, 126, 127, 128, 129, 130, 131, 132, 133, 134, 135, 136, 137, 138, 139, 140, 141, 142, 143, 144, 145, 146, 147, 148, 149, 150, 151, 152, 153, 154, 155, 156, 157, 158, 159, 160, 161, 162, 163, 164, 165, 166, 167, 168, 169, 170, 171, 172, 173, 174, 175, 176, 177, 178, 179, 180, 181, 182, 183, 184, 185, 186, 187, 188, 189, 190, 191, 192] (h := ?_)
  refine c_seq ?_
  refine c_seq ?_
  refine c_region ?_
  refine l_rd r_move ?_
  refine l_rd r_move ?_
  refine l_rd r_len ?_
  refine l_rd r_lss ?_
  refine l_nil ?_
  refine x_then ?_
  refine c_false rfl ?_
  refine c_exit ?_
  refine x_thenE (x_thenE (x_inE (x_then ?_)))
  refine c_seq ?_
  refine c_region ?_
  refine l_rd r_move ?_
  refine l_rd r_len ?_
  refine l_do d_make0 (fun g42 => ?_)
  refine l_rd r_assign ?_
  refine l_nil ?_
  refine x_then ?_
  refine c_seq ?_
  refine c_seq ?_
  refine c_region ?_
  refine l_rd r_assign ?_
  refine l_nil ?_
  refine x_then ?_
  refine c_block ?_
  refine c_loop0 6 [0, 3, 4, 5, 9, 10, 11, 12, 13, 14, 15, 16, 17, 18, 19, 20, 21, 22, 23, 24, 25, 26, 27, 28, 29, 30, 31, 32, 33, 34, 35, 36, 37, 38, 39, 40, 41, 42, 73, 74, 75, 76, 77, 78, 79, 80, 81, 82, 83, 84, 85, 86, 87, 88, 89, 90, 91, 92, 93, 94, 95, 96, 97, 98, 99, 100, 101, 102, 103, 104, 105, 106, 107, 108, 109, 110, 111, 112, 113, 114, 115, 116, 117, 118, 119, 120, 121, 122, 123, 124, 125, 126, 127, 128, 129, 130, 131, 132, 133, 134, 135, 136, 137, 138, 139, 140, 141, 142, 143, 144, 145, 146, 147, 148, 149, 150, 151, 152, 153, 154, 155, 156, 157, 158, 159, 160, 161, 162, 163, 164, 165, 166, 167, 168, 169, 170, 171, 172, 173, 174, 175, 176, 177, 178, 179, 180, 181, 182, 183, 184, 185, 186, 187, 188, 189, 190, 191, 192] (h := ?_)
  refine c_seq ?_
  refine c_seq ?_
  refine c_region ?_
  refine l_rd r_move ?_
  refine l_rd r_move ?_
  refine l_rd r_len ?_
  refine l_rd r_lss ?_
  refine l_nil ?_
  refine x_then ?_
  refine c_false rfl ?_
  refine c_exit ?_
  refine x_thenE (x_thenE (x_inE (x_then ?_)))
  refine c_seq ?_
  refine c_seq ?_
  refine c_region ?_
  refine l_rd r_assign ?_
  refine l_nil ?_
  refine x_then ?_
  refine c_block ?_
  refine c_loop0 9 [0, 3, 4, 5, 6, 7, 8, 11, 12, 13, 14, 15, 16, 17, 18, 19, 20, 21, 22, 23, 24, 25, 26, 27, 28, 29, 30, 31, 32, 33, 34, 35, 36, 37, 38, 39, 40, 41, 42, 43, 44, 45, 46, 47, 48, 49, 50, 51, 52, 53, 54, 55, 56, 57, 58, 59, 60, 61, 62, 63, 64, 65, 66, 67, 68, 69, 70, 71, 72, 123, 124, 125, 126, 127, 128, 129, 130, 131, 132, 133, 134, 135, 136, 137, 138, 139, 140, 141, 142, 143, 144, 145, 146, 147, 148, 149, 150, 151, 152, 153, 154, 155, 156, 157, 158, 159, 160, 161, 162, 163, 164, 165, 166, 167, 168, 169, 170, 171, 172, 173, 174, 175, 176, 177, 178, 179, 180, 181, 182, 183, 184, 185, 186, 187, 188, 189, 190, 191, 192] (h := ?_)
  refine c_seq ?_
  refine c_seq ?_
  refine c_region ?_
  refine l_rd r_move ?_
  refine l_rd r_move ?_
  refine l_rd r_len ?_
  refine l_rd r_lss ?_
  refine l_nil ?_
  refine x_then ?_
  refine c_false rfl ?_
  refine c_exit ?_
  refine x_thenE (x_thenE (x_inE (x_then ?_)))
  refine c_seq ?_
  refine c_seq ?_
  refine c_region ?_
  refine l_rd r_assign ?_
  refine l_nil ?_
  refine x_then ?_
  refine c_block ?_
  refine c_loop0 11 [0, 3, 4, 5, 6, 7, 8, 9, 10, 14, 15, 16, 17, 18, 19, 20, 21, 22, 23, 24, 25, 26, 27, 28, 29, 30, 31, 32, 33, 34, 35, 36, 37, 38, 39, 40, 41, 42, 43, 44, 45, 46, 47, 48, 49, 50, 51, 52, 53, 54, 55, 56, 57, 58, 59, 60, 61, 62, 63, 64, 65, 66, 67, 68, 69, 70, 71, 72, 73, 74, 75, 76, 77, 78, 79, 80, 81, 82, 83, 84, 85, 86, 87, 88, 89, 90, 91, 92, 93, 94, 95, 96, 97, 98, 99, 100, 101, 102, 103, 104, 105, 106, 107, 108, 109, 110, 111, 112, 113, 114, 115, 116, 117, 118, 119, 120, 121, 122, 152, 153, 154, 155, 156, 157, 158, 159, 160, 161, 162, 163, 164, 165, 166, 167, 168, 169, 170, 171, 172, 173, 174, 175, 176, 177, 178, 179, 180, 181, 182, 183, 184, 185, 186, 187, 188, 189, 190, 191, 192] (h := ?_)
  refine c_seq ?_
  refine c_seq ?_
  refine c_region ?_
  refine l_rd r_move ?_
  refine l_rd r_move ?_
  refine l_rd r_len ?_
  refine l_rd r_lss ?_
  refine l_nil ?_
  refine x_then ?_
  refine c_false rfl ?_
  refine c_exit ?_
  refine x_thenE (x_thenE (x_inE (x_then ?_)))
  refine c_seq ?_
  refine c_seq ?_
  refine c_region ?_
  refine l_rd r_assign ?_
  refine l_nil ?_
  refine x_then ?_
  refine c_block ?_
  refine c_loop0 14 [0, 3, 4, 5, 6, 7, 8, 9, 10, 11, 12, 13, 16, 17, 18, 19, 20, 21, 22, 23, 24, 25, 26, 27, 28, 29, 30, 31, 32, 33, 34, 35, 36, 37, 38, 39, 40, 41, 42, 43, 44, 45, 46, 47, 48, 49, 50, 51, 52, 53, 54, 55, 56, 57, 58, 59, 60, 61, 62, 63, 64, 65, 66, 67, 68, 69, 70, 71, 72, 73, 74, 75, 76, 77, 78, 79, 80, 81, 82, 83, 84, 85, 86, 87, 88, 89, 90, 91, 92, 93, 94, 95, 96, 97, 98, 99, 100, 101, 102, 103, 104, 105, 106, 107, 108, 109, 110, 111, 112, 113, 114, 115, 116, 117, 118, 119, 120, 121, 122, 123, 124, 125, 126, 127, 128, 129, 130, 131, 132, 133, 134, 135, 136, 137, 138, 139, 140, 141, 142, 143, 144, 145, 146, 147, 148, 149, 150, 151] (h := ?_)
  refine c_seq ?_
  refine c_seq ?_
  refine c_region ?_
  refine l_rd r_move ?_
  refine l_rd r_move ?_
  refine l_rd r_len ?_
  refine l_rd r_lss ?_
  refine l_nil ?_
  refine x_then ?_
  refine c_false rfl ?_
  refine c_exit ?_
  refine x_thenE (x_thenE (x_inE (x_then ?_)))
  refine c_seq ?_
  refine c_region ?_
  refine l_rd r_assign ?_
  refine l_nil ?_
  refine x_then ?_
  refine c_ret ?_
  refine k_ret [] _ (.cons (.tmp rfl) .nil) (h := ?_)
  exact ⟨rfl, rfl⟩
theorem flatInstrs0 : CSpec Tryz.prog 65 [.one (.sl 0 none 0 0)] [] [] fun o L => o = .ret (vb true) ∧ L = [] := by
  refine k_enter Tryz.func65 rfl rfl (h := fun w0 => ?_)
  refine c_seq ?_
  refine c_region ?_
  refine l_rd r_assign ?_
  refine l_nil ?_
  refine x_then ?_
  refine c_seq ?_
  refine c_seq ?_
  refine c_region ?_
  refine l_rd r_assign ?_
  refine l_nil ?_
  refine x_then ?_
  refine c_block ?_
  refine c_loop0 3 [0, 5, 6, 7, 8, 9, 10, 11, 12, 13, 14, 15, 40, 41, 42, 43, 44, 45, 46, 47, 48, 49, 50, 51, 52, 53, 54, 55, 56, 57, 58, 59, 60, 61, 62, 63, 64, 65, 66, 67, 68, 69, 70, 71, 72, 73, 74, 75, 76, 77, 78, 79, 80, 81, 82, 83, 84, 85, 86, 87, 88, 89, 90, 91, 92, 93, 94, 95, 96, 97, 98, 99, 100, 101, 102, 103, 104, 105, 106, 107, 108, 109, 110, 111, 112, 113, 114, 115, 116, 117, 118, 119, 120, 121, 122, 123, 124, 125, 126, 127, 128, 129, 130, 131, 132, 133, 134, 135, 136, 137, 138, 139, 140, 141, 142, 143, 144, 145, 146, 147, 148, 149, 150, 151, 152, 153, 154, 155, 156, 157, 158, 159, 160, 161, 162, 163, 164, 165, 166, 167, 168, 169, 170, 171, 172, 173, 174, 175, 176, 177, 178, 179, 180, 181, 182, 183, 184, 185, 186, 187, 188, 189, 190, 191, 192] (h := ?_)
  refine c_seq ?_
  refine c_seq ?_
  refine c_region ?_
  refine l_rd r_move ?_
  refine l_rd r_move ?_
  refine l_rd r_len ?_
  refine l_rd r_lss ?_
  refine l_nil ?_
  refine x_then ?_
  refine c_false rfl ?_
  refine c_exit ?_
  refine x_thenE (x_thenE (x_inE (x_then ?_)))
  refine c_seq ?_
  refine c_region ?_
  refine l_rd r_move ?_
  refine l_rd r_len ?_
  refine l_do d_make0 (fun g42 => ?_)
  refine l_rd r_assign ?_
  refine l_nil ?_
  refine x_then ?_
  refine c_seq ?_
  refine c_seq ?_
  refine c_region ?_
  refine l_rd r_assign ?_
  refine l_nil ?_
  refine x_then ?_
  refine c_block ?_
  refine c_loop0 6 [0, 3, 4, 5, 9, 10, 11, 12, 13, 14, 15, 16, 17, 18, 19, 20, 21, 22, 23, 24, 25, 26, 27, 28, 29, 30, 31, 32, 33, 34, 35, 36, 37, 38, 39, 40, 41, 42, 73, 74, 75, 76, 77, 78, 79, 80, 81, 82, 83, 84, 85, 86, 87, 88, 89, 90, 91, 92, 93, 94, 95, 96, 97, 98, 99, 100, 101, 102, 103, 104, 105, 106, 107, 108, 109, 110, 111, 112, 113, 114, 115, 116, 117, 118, 119, 120, 121, 122, 123, 124, 125, 126, 127, 128, 129, 130, 131, 132, 133, 134, 135, 136, 137, 138, 139, 140, 141, 142, 143, 144, 145, 146, 147, 148, 149, 150, 151, 152, 153, 154, 155, 156, 157, 158, 159, 160, 161, 162, 163, 164, 165, 166, 167, 168, 169, 170, 171, 172, 173, 174, 175, 176, 177, 178, 179, 180, 181, 182, 183, 184, 185, 186, 187, 188, 189, 190, 191, 192] (h := ?_)
  refine c_seq ?_
  refine c_seq ?_
  refine c_region ?_
  refine l_rd r_move ?_
  refine l_rd r_move ?_
  refine l_rd r_len ?_
  refine l_rd r_lss ?_
  refine l_nil ?_
  refine x_then ?_
  refine c_false rfl ?_
  refine c_exit ?_
  refine x_thenE (x_thenE (x_inE (x_then ?_)))
  refine c_seq ?_
  refine c_seq ?_
  refine c_region ?_
  refine l_rd r_assign ?_
  refine l_nil ?_
  refine x_then ?_
  refine c_block ?_
  refine c_loop0 9 [0, 3, 4, 5, 6, 7, 8, 11, 12, 13, 14, 15, 16, 17, 18, 19, 20, 21, 22, 23, 24, 25, 26, 27, 28, 29, 30, 31, 32, 33, 34, 35, 36, 37, 38, 39, 40, 41, 42, 43, 44, 45, 46, 47, 48, 49, 50, 51, 52, 53, 54, 55, 56, 57, 58, 59, 60, 61, 62, 63, 64, 65, 66, 67, 68, 69, 70, 71, 72, 123, 124, 125, 126, 127, 128, 129, 130, 131, 132, 133, 134, 135, 136, 137, 138, 139, 140, 141, 142, 143, 144, 145, 146, 147, 148, 149, 150, 151, 152, 153, 154, 155, 156, 157, 158, 159, 160, 161, 162, 163, 164, 165, 166, 167, 168, 169, 170, 171, 172, 173, 174, 175, 176, 177, 178, 179, 180, 181, 182, 183, 184, 185, 186, 187, 188, 189, 190, 191, 192] (h := ?_)
  refine c_seq ?_
  refine c_seq ?_
  refine c_region ?_
  refine l_rd r_move ?_
  refine l_rd r_move ?_
  refine l_rd r_len ?_
  refine l_rd r_lss ?_
  refine l_nil ?_
  refine x_then ?_
  refine c_false rfl ?_
  refine c_exit ?_
  refine x_thenE (x_thenE (x_inE (x_then ?_)))
  refine c_seq ?_
  refine c_seq ?_
  refine c_region ?_
  refine l_rd r_assign ?_
  refine l_nil ?_
  refine x_then ?_
  refine c_block ?_
  refine c_loop0 11 [0, 3, 4, 5, 6, 7, 8, 9, 10, 14, 15, 16, 17, 18, 19, 20, 21, 22, 23, 24, 25, 26, 27, 28, 29, 30, 31, 32, 33, 34, 35, 36, 37, 38, 39, 40, 41, 42, 43, 44, 45, 46, 47, 48, 49, 50, 51, 52, 53, 54, 55, 56, 57, 58, 59, 60, 61, 62, 63, 64, 65, 66, 67, 68, 69, 70, 71, 72, 73, 74, 75, 76, 77, 78, 79, 80, 81, 82, 83, 84, 85, 86, 87, 88, 89, 90, 91, 92, 93, 94, 95, 96, 97, 98, 99, 100, 101, 102, 103, 104, 105, 106, 107, 108, 109, 110, 111, 112, 113, 114, 115, 116, 117, 118, 119, 120, 121, 122, 152, 153, 154, 155, 156, 157, 158, 159, 160, 161, 162, 163, 164, 165, 166, 167, 168, 169, 170, 171, 172, 173, 174, 175, 176, 177, 178, 179, 180, 181, 182, 183, 184, 185, 186, 187, 188, 189, 190, 191, 192] (h := ?_)
  refine c_seq ?_
  refine c_seq ?_
  refine c_region ?_
  refine l_rd r_move ?_
  refine l_rd r_move ?_
  refine l_rd r_len ?_
  refine l_rd r_lss ?_
  refine l_nil ?_
  refine x_then ?_
  refine c_false rfl ?_
  refine c_exit ?_
  refine x_thenE (x_thenE (x_inE (x_then ?_)))
  refine c_seq ?_
  refine c_seq ?_
  refine c_region ?_
  refine l_rd r_assign ?_
  refine l_nil ?_
  refine x_then ?_
  refine c_block ?_
  refine c_loop0 14 [0, 3, 4, 5, 6, 7, 8, 9, 10, 11, 12, 13, 16, 17, 18, 19, 20, 21, 22, 23, 24, 25, 26, 27, 28, 29, 30, 31, 32, 33, 34, 35, 36, 37, 38, 39, 40, 41, 42, 43, 44, 45, 46, 47, 48, 49, 50, 51, 52, 53, 54, 55, 56, 57, 58, 59, 60, 61, 62, 63, 64, 65, 66, 67, 68, 69, 70, 71, 72, 73, 74, 75, 76, 77, 78, 79, 80, 81, 82, 83, 84, 85, 86, 87, 88, 89, 90, 91, 92, 93, 94, 95, 96, 97, 98, 99, 100, 101, 102, 103, 104, 105, 106, 107, 108, 109, 110, 111, 112, 113, 114, 115, 116, 117, 118, 119, 120, 121, 122, 123, 124, 125, 126, 127, 128, 129, 130, 131, 132, 133, 134, 135, 136, 137, 138, 139, 140, 141, 142, 143, 144, 145, 146, 147, 148, 149, 150, 151] (h := ?_)
  refine c_seq ?_
  refine c_seq ?_
  refine c_region ?_
  refine l_rd r_move ?_
  refine l_rd r_move ?_
  refine l_rd r_len ?_
  refine l_rd r_lss ?_
  refine l_nil ?_
  refine x_then ?_
  refine c_false rfl ?_
  refine c_exit ?_
  refine x_thenE (x_thenE (x_inE (x_then ?_)))
  refine c_seq ?_
  refine c_region ?_
  refine l_rd r_assign ?_
  refine l_nil ?_
  refine x_then ?_
  refine c_ret ?_
  refine k_ret [] _ (.cons (.tmp rfl) .nil) (h := ?_)
  exact ⟨rfl, rfl⟩
theorem flatPrograms0 : CSpec Tryz.prog 66 [.one (.sl 0 none 0 0)] [] [] fun o L => o = .ret (vb true) ∧ L = [] := by
  refine k_enter Tryz.func66 rfl rfl (h := fun w0 => ?_)
  refine c_seq ?_
  refine c_region ?_
  refine l_rd r_assign ?_
  refine l_nil ?_
  refine x_then ?_
  refine c_seq ?_
  refine c_seq ?_
  refine c_region ?_
  refine l_rd r_assign ?_
  refine l_nil ?_
  refine x_then ?_
  refine c_block ?_
  refine c_loop0 3 [0, 5, 6, 7, 8, 9, 10, 11, 12, 13, 14, 15, 40, 41, 42, 43, 44, 45, 46, 47, 48, 49, 50, 51, 52, 53, 54, 55, 56, 57, 58, 59, 60, 61, 62, 63, 64, 65, 66, 67, 68, 69, 70, 71, 72, 73, 74, 75, 76, 77, 78, 79, 80, 81, 82, 83, 84, 85, 86, 87, 88, 89, 90, 91, 92, 93, 94, 95, 96, 97, 98, 99, 100, 101, 102, 103, 104, 105, 106, 107, 108, 109, 110, 111, 112, 113, 114, 115, 116, 117, 118, 119, 120, 121, 122, 123, 124, 125, 126, 127, 128, 129, 130, 131, 132, 133, 134, 135, 136, 137, 138, 139, 140, 141, 142, 143, 144, 145, 146, 147, 148, 149, 150, 151, 152, 153, 154, 155, 156, 157, 158, 159, 160, 161, 162, 163, 164, 165, 166, 167, 168, 169, 170, 171, 172, 173, 174, 175, 176, 177, 178, 179, 180, 181, 182, 183, 184, 185, 186, 187, 188, 189, 190, 191, 192] (h := ?_)
  refine c_seq ?_
  refine c_seq ?_
  refine c_region ?_
  refine l_rd r_move ?_
  refine l_rd r_move ?_
  refine l_rd r_len ?_
  refine l_rd r_lss ?_
  refine l_nil ?_
  refine x_then ?_
  refine c_false rfl ?_
  refine c_exit ?_
  refine x_thenE (x_thenE (x_inE (x_then ?_)))
  refine c_seq ?_
  refine c_region ?_
  refine l_rd r_move ?_
  refine l_rd r_len ?_
  refine l_do d_make0 (fun g42 => ?_)
  refine l_rd r_assign ?_
  refine l_nil ?_
  refine x_then ?_
  refine c_seq ?_
  refine c_seq ?_
  refine c_region ?_
  refine l_rd r_assign ?_
  refine l_nil ?_
  refine x_then ?_
  refine c_block ?_
  refine c_loop0 6 [0, 3, 4, 5, 9, 10, 11, 12, 13, 14, 15, 16, 17, 18, 19, 20, 21, 22, 23, 24, 25, 26, 27, 28, 29, 30, 31, 32, 33, 34, 35, 36, 37, 38, 39, 40, 41, 42, 73, 74, 75, 76, 77, 78, 79, 80, 81, 82, 83, 84, 85, 86, 87, 88, 89, 90, 91, 92, 93, 94, 95, 96, 97, 98, 99, 100, 101, 102, 103, 104, 105, 106, 107, 108, 109, 110, 111, 112, 113, 114, 115, 116, 117, 118, 119, 120, 121, 122, 123, 124, 125, 126, 127, 128, 129, 130, 131, 132, 133, 134, 135, 136, 137, 138, 139, 140, 141, 142, 143, 144, 145, 146, 147, 148, 149, 150, 151, 152, 153, 154, 155, 156, 157, 158, 159, 160, 161, 162, 163, 164, 165, 166, 167, 168, 169, 170, 171, 172, 173, 174, 175, 176, 177, 178, 179, 180, 181, 182, 183, 184, 185, 186, 187, 188, 189, 190, 191, 192] (h := ?_)
  refine c_seq ?_
  refine c_seq ?_
  refine c_region ?_
  refine l_rd r_move ?_
  refine l_rd r_move ?_
  refine l_rd r_len ?_
  refine l_rd r_lss ?_
  refine l_nil ?_
  refine x_then ?_
  refine c_false rfl ?_
  refine c_exit ?_
  refine x_thenE (x_thenE (x_inE (x_then ?_)))
  refine c_seq ?_
  refine c_seq ?_
  refine c_region ?_
  refine l_rd r_assign ?_
  refine l_nil ?_
  refine x_then ?_
  refine c_block ?_
  refine c_loop0 9 [0, 3, 4, 5, 6, 7, 8, 11, 12, 13, 14, 15, 16, 17, 18, 19, 20, 21, 22, 23, 24, 25, 26, 27, 28, 29, 30, 31, 32, 33, 34, 35, 36, 37, 38, 39, 40, 41, 42, 43, 44, 45, 46, 47, 48, 49, 50, 51, 52, 53, 54, 55, 56, 57, 58, 59, 60, 61, 62, 63, 64, 65, 66, 67, 68, 69, 70, 71, 72, 123, 124, 125, 126, 127, 128, 129, 130, 131, 132, 133, 134, 135, 136, 137, 138, 139, 140, 141, 142, 143, 144, 145, 146, 147, 148, 149, 150, 151, 152, 153, 154, 155, 156, 157, 158, 159, 160, 161, 162, 163, 164, 165, 166, 167, 168, 169, 170, 171, 172, 173, 174, 175, 176, 177, 178, 179, 180, 181, 182, 183, 184, 185, 186, 187, 188, 189, 190, 191, 192] (h := ?_)
  refine c_seq ?_
  refine c_seq ?_
  refine c_region ?_
  refine l_rd r_move ?_
  refine l_rd r_move ?_
  refine l_rd r_len ?_
  refine l_rd r_lss ?_
  refine l_nil ?_
  refine x_then ?_
  refine c_false rfl ?_
  refine c_exit ?_
  refine x_thenE (x_thenE (x_inE (x_then ?_)))
  refine c_seq ?_
  refine c_seq ?_
  refine c_region ?_
  refine l_rd r_assign ?_
  refine l_nil ?_
  refine x_then ?_
  refine c_block ?_
  refine c_loop0 11 [0, 3, 4, 5, 6, 7, 8, 9, 10, 14, 15, 16, 17, 18, 19, 20, 21, 22, 23, 24, 25, 26, 27, 28, 29, 30, 31, 32, 33, 34, 35, 36, 37, 38, 39, 40, 41, 42, 43, 44, 45, 46, 47, 48, 49, 50, 51, 52, 53, 54, 55, 56, 57, 58, 59, 60, 61, 62, 63, 64, 65, 66, 67, 68, 69, 70, 71, 72, 73, 74, 75, 76, 77, 78, 79, 80, 81, 82, 83, 84, 85, 86, 87, 88, 89, 90, 91, 92, 93, 94, 95, 96, 97, 98, 99, 100, 101, 102, 103, 104, 105, 106, 107, 108, 109, 110, 111, 112, 113, 114, 115, 116, 117, 118, 119, 120, 121, 122, 152, 153, 154, 155, 156, 157, 158, 159, 160, 161, 162, 163, 164, 165, 166, 167, 168, 169, 170, 171, 172, 173, 174, 175, 176, 177, 178, 179, 180, 181, 182, 183, 184, 185, 186, 187, 188, 189, 190, 191, 192] (h := ?_)
  refine c_seq ?_
  refine c_seq ?_
  refine c_region ?_
  refine l_rd r_move ?_
  refine l_rd r_move ?_
  refine l_rd r_len ?_
  refine l_rd r_lss ?_
  refine l_nil ?_
  refine x_then ?_
  refine c_false rfl ?_
  refine c_exit ?_
  refine x_thenE (x_thenE (x_inE (x_then ?_)))
  refine c_seq ?_
  refine c_seq ?_
  refine c_region ?_
  refine l_rd r_assign ?_
  refine l_nil ?_
  refine x_then ?_
  refine c_block ?_
  refine c_loop0 14 [0, 3, 4, 5, 6, 7, 8, 9, 10, 11, 12, 13, 16, 17, 18, 19, 20, 21, 22, 23, 24, 25, 26, 27, 28, 29, 30, 31, 32, 33, 34, 35, 36, 37, 38, 39, 40, 41, 42, 43, 44, 45, 46, 47, 48, 49, 50, 51, 52, 53, 54, 55, 56, 57, 58, 59, 60, 61, 62, 63, 64, 65, 66, 67, 68, 69, 70, 71, 72, 73, 74, 75, 76, 77, 78, 79, 80, 81, 82, 83, 84, 85, 86, 87, 88, 89, 90, 91, 92, 93, 94, 95, 96, 97, 98, 99, 100, 101, 102, 103, 104, 105, 106, 107, 108, 109, 110, 111, 112, 113, 114, 115, 116, 117, 118, 119, 120, 121, 122, 123, 124, 125, 126, 127, 128, 129, 130, 131, 132, 133, 134, 135, 136, 137, 138, 139, 140, 141, 142, 143, 144, 145, 146, 147, 148, 149, 150, 151] (h := ?_)
  refine c_seq ?_
  refine c_seq ?_
  refine c_region ?_
  refine l_rd r_move ?_
  refine l_rd r_move ?_
  refine l_rd r_len ?_
  refine l_rd r_lss ?_
  refine l_nil ?_
  refine x_then ?_
  refine c_false rfl ?_
  refine c_exit ?_
  refine x_thenE (x_thenE (x_inE (x_then ?_)))
  refine c_seq ?_
  refine c_region ?_
  refine l_rd r_assign ?_
  refine l_nil ?_
  refine x_then ?_
  refine c_ret ?_
  refine k_ret [] _ (.cons (.tmp rfl) .nil) (h := ?_)
  exact ⟨rfl, rfl⟩
theorem flatRedeemers0 : CSpec Tryz.prog 67 [.one (.sl 0 none 0 0)] [] [] fun o L => o = .ret (vb true) ∧ L = [] := by
  refine k_enter Tryz.func67 rfl rfl (h := fun w0 => ?_)
  refine c_seq ?_
  refine c_region ?_
  refine l_rd r_assign ?_
  refine l_nil ?_
  refine x_then ?_
  refine c_seq ?_
  refine c_seq ?_
  refine c_region ?_
  refine l_rd r_assign ?_
  refine l_nil ?_
  refine x_then ?_
  refine c_block ?_
  refine c_loop0 3 [0, 5, 6, 7, 8, 9, 10, 11, 12, 13, 14, 15, 40, 41, 42, 43, 44, 45, 46, 47, 48, 49, 50, 51, 52, 53, 54, 55, 56, 57, 58, 59, 60, 61, 62, 63, 64, 65, 66, 67, 68, 69, 70, 71, 72, 73, 74, 75, 76, 77, 78, 79, 80, 81, 82, 83, 84, 85, 86, 87, 88, 89, 90, 91, 92, 93, 94, 95, 96, 97, 98, 99, 100, 101, 102, 103, 104, 105, 106, 107, 108, 109, 110, 111, 112, 113, 114, 115, 116, 117, 118, 119, 120, 121, 122, 123, 124, 125, 126, 127, 128, 129, 130, 131, 132, 133, 134, 135, 136, 137, 138, 139, 140, 141, 142, 143, 144, 145, 146, 147, 148, 149, 150, 151, 152, 153, 154, 155, 156, 157, 158, 159, 160, 161, 162, 163, 164, 165, 166, 167, 168, 169, 170, 171, 172, 173, 174, 175, 176, 177, 178, 179, 180, 181, 182, 183, 184, 185, 186, 187, 188, 189, 190, 191, 192] (h := ?_)
  refine c_seq ?_
  refine c_seq ?_
  refine c_region ?_
  refine l_rd r_move ?_
  refine l_rd r_move ?_
  refine l_rd r_len ?_
  refine l_rd r_lss ?_
  refine l_nil ?_
  refine x_then ?_
  refine c_false rfl ?_
  refine c_exit ?_
  refine x_thenE (x_thenE (x_inE (x_then ?_)))
  refine c_seq ?_
  refine c_region ?_
  refine l_rd r_move ?_
  refine l_rd r_len ?_
  refine l_do d_make0 (fun g42 => ?_)
  refine l_rd r_assign ?_
  refine l_nil ?_
  refine x_then ?_
  refine c_seq ?_
  refine c_seq ?_
  refine c_region ?_
  refine l_rd r_assign ?_
  refine l_nil ?_
  refine x_then ?_
  refine c_block ?_
  refine c_loop0 6 [0, 3, 4, 5, 9, 10, 11, 12, 13, 14, 15, 16, 17, 18, 19, 20, 21, 22, 23, 24, 25, 26, 27, 28, 29, 30, 31, 32, 33, 34, 35, 36, 37, 38, 39, 40, 41, 42, 73, 74, 75, 76, 77, 78, 79, 80, 81, 82, 83, 84, 85, 86, 87, 88, 89, 90, 91, 92, 93, 94, 95, 96, 97, 98, 99, 100, 101, 102, 103, 104, 105, 106, 107, 108, 109, 110, 111, 112, 113, 114, 115, 116, 117, 118, 119, 120, 121, 122, 123, 124, 125, 126, 127, 128, 129, 130, 131, 132, 133, 134, 135, 136, 137, 138, 139, 140, 141, 142, 143, 144, 145, 146, 147, 148, 149, 150, 151, 152, 153, 154, 155, 156, 157, 158, 159, 160, 161, 162, 163, 164, 165, 166, 167, 168, 169, 170, 171, 172, 173, 174, 175, 176, 177, 178, 179, 180, 181, 182, 183, 184, 185, 186, 187, 188, 189, 190, 191, 192] (h := ?_)
  refine c_seq ?_
  refine c_seq ?_
  refine c_region ?_
  refine l_rd r_move ?_
  refine l_rd r_move ?_
  refine l_rd r_len ?_
  refine l_rd r_lss ?_
  refine l_nil ?_
  refine x_then ?_
  refine c_false rfl ?_
  refine c_exit ?_
  refine x_thenE (x_thenE (x_inE (x_then ?_)))
  refine c_seq ?_
  refine c_seq ?_
  refine c_region ?_
  refine l_rd r_assign ?_
  refine l_nil ?_
  refine x_then ?_
  refine c_block ?_
  refine c_loop0 9 [0, 3, 4, 5, 6, 7, 8, 11, 12, 13, 14, 15, 16, 17, 18, 19, 20, 21, 22, 23, 24, 25, 26, 27, 28, 29, 30, 31, 32, 33, 34, 35, 36, 37, 38, 39, 40, 41, 42, 43, 44, 45, 46, 47, 48, 49, 50, 51, 52, 53, 54, 55, 56, 57, 58, 59, 60, 61, 62, 63, 64, 65, 66, 67, 68, 69, 70, 71, 72, 123, 124, 125, 126, 127, 128, 129, 130, 131, 132, 133, 134, 135, 136, 137, 138, 139, 140, 141, 142, 143, 144, 145, 146, 147, 148, 149, 150, 151, 152, 153, 154, 155, 156, 157, 158, 159, 160, 161, 162, 163, 164, 165, 166, 167, 168, 169, 170, 171, 172, 173, 174, 175, 176, 177, 178, 179, 180, 181, 182, 183, 184, 185, 186, 187, 188, 189, 190, 191, 192] (h := ?_)
  refine c_seq ?_
  refine c_seq ?_
  refine c_region ?_
  refine l_rd r_move ?_
  refine l_rd r_move ?_
  refine l_rd r_len ?_
  refine l_rd r_lss ?_
  refine l_nil ?_
  refine x_then ?_
  refine c_false rfl ?_
  refine c_exit ?_
  refine x_thenE (x_thenE (x_inE (x_then ?_)))
  refine c_seq ?_
  refine c_seq ?_
  refine c_region ?_
  refine l_rd r_assign ?_
  refine l_nil ?_
  refine x_then ?_
  refine c_block ?_
  refine c_loop0 11 [0, 3, 4, 5, 6, 7, 8, 9, 10, 14, 15, 16, 17, 18, 19, 20, 21, 22, 23, 24, 25, 26, 27, 28, 29, 30, 31, 32, 33, 34, 35, 36, 37, 38, 39, 40, 41, 42, 43, 44, 45, 46, 47, 48, 49, 50, 51, 52, 53, 54, 55, 56, 57, 58, 59, 60, 61, 62, 63, 64, 65, 66, 67, 68, 69, 70, 71, 72, 73, 74, 75, 76, 77, 78, 79, 80, 81, 82, 83, 84, 85, 86, 87, 88, 89, 90, 91, 92, 93, 94, 95, 96, 97, 98, 99, 100, 101, 102, 103, 104, 105, 106, 107, 108, 109, 110, 111, 112, 113, 114, 115, 116, 117, 118, 119, 120, 121, 122, 152, 153, 154, 155, 156, 157, 158, 159, 160, 161, 162, 163, 164, 165, 166, 167, 168, 169, 170, 171, 172, 173, 174, 175, 176, 177, 178, 179, 180, 181, 182, 183, 184, 185, 186, 187, 188, 189, 190, 191, 192] (h := ?_)
  refine c_seq ?_
  refine c_seq ?_
  refine c_region ?_
  refine l_rd r_move ?_
  refine l_rd r_move ?_
  refine l_rd r_len ?_
  refine l_rd r_lss ?_
  refine l_nil ?_
  refine x_then ?_
  refine c_false rfl ?_
  refine c_exit ?_
  refine x_thenE (x_thenE (x_inE (x_then ?_)))
  refine c_seq ?_
  refine c_seq ?_
  refine c_region ?_
  refine l_rd r_assign ?_
  refine l_nil ?_
  refine x_then ?_
  refine c_block ?_
  refine c_loop0 14 [0, 3, 4, 5, 6, 7, 8, 9, 10, 11, 12, 13, 16, 17, 18, 19, 20, 21, 22, 23, 24, 25, 26, 27, 28, 29, 30, 31, 32, 33, 34, 35, 36, 37, 38, 39, 40, 41, 42, 43, 44, 45, 46, 47, 48, 49, 50, 51, 52, 53, 54, 55, 56, 57, 58, 59, 60, 61, 62, 63, 64, 65, 66, 67, 68, 69, 70, 71, 72, 73, 74, 75, 76, 77, 78, 79, 80, 81, 82, 83, 84, 85, 86, 87, 88, 89, 90, 91, 92, 93, 94, 95, 96, 97, 98, 99, 100, 101, 102, 103, 104, 105, 106, 107, 108, 109, 110, 111, 112, 113, 114, 115, 116, 117, 118, 119, 120, 121, 122, 123, 124, 125, 126, 127, 128, 129, 130, 131, 132, 133, 134, 135, 136, 137, 138, 139, 140, 141, 142, 143, 144, 145, 146, 147, 148, 149, 150, 151] (h := ?_)
  refine c_seq ?_
  refine c_seq ?_
  refine c_region ?_
  refine l_rd r_move ?_
  refine l_rd r_move ?_
  refine l_rd r_len ?_
  refine l_rd r_lss ?_
  refine l_nil ?_
  refine x_then ?_
  refine c_false rfl ?_
  refine c_exit ?_
  refine x_thenE (x_thenE (x_inE (x_then ?_)))
  refine c_seq ?_
  refine c_region ?_
  refine l_rd r_assign ?_
  refine l_nil ?_
  refine x_then ?_
  refine c_ret ?_
  refine k_ret [] _ (.cons (.tmp rfl) .nil) (h := ?_)
  exact ⟨rfl, rfl⟩
theorem flatBodies0 : CSpec Tryz.prog 68 [.one (.sl 0 none 0 0)] [] [] fun o L => o = .ret (vb true) ∧ L = [] := by
  refine k_enter Tryz.func68 rfl rfl (h := fun w0 => ?_)
  refine c_seq ?_
  refine c_region ?_
  refine l_rd r_assign ?_
  refine l_nil ?_
  refine x_then ?_
  refine c_seq ?_
  refine c_seq ?_
  refine c_region ?_
  refine l_rd r_assign ?_
  refine l_nil ?_
  refine x_then ?_
  refine c_block ?_
  refine c_loop0 3 [0, 5, 6, 7, 8, 9, 10, 11, 12, 13, 14, 15, 40, 41, 42, 43, 44, 45, 46, 47, 48, 49, 50, 51, 52, 53, 54, 55, 56, 57, 58, 59, 60, 61, 62, 63, 64, 65, 66, 67, 68, 69, 70, 71, 72, 73, 74, 75, 76, 77, 78, 79, 80, 81, 82, 83, 84, 85, 86, 87, 88, 89, 90, 91, 92, 93, 94, 95, 96, 97, 98, 99, 100, 101, 102, 103, 104, 105, 106, 107, 108, 109, 110, 111, 112, 113, 114, 115, 116, 117, 118, 119, 120, 121, 122, 123, 124, 125, 126, 127, 128, 129, 130, 131, 132, 133, 134, 135, 136, 137, 138, 139, 140, 141, 142, 143, 144, 145, 146, 147, 148, 149, 150, 151, 152, 153, 154, 155, 156, 157, 158, 159, 160, 161, 162, 163, 164, 165, 166, 167, 168, 169, 170, 171, 172, 173, 174, 175, 176, 177, 178, 179, 180, 181, 182, 183, 184, 185, 186, 187, 188, 189, 190, 191, 192] (h := ?_)
  refine c_seq ?_
  refine c_seq ?_
  refine c_region ?_
  refine l_rd r_move ?_
  refine l_rd r_move ?_
  refine l_rd r_len ?_
  refine l_rd r_lss ?_
  refine l_nil ?_
  refine x_then ?_
  refine c_false rfl ?_
  refine c_exit ?_
  refine x_thenE (x_thenE (x_inE (x_then ?_)))
  refine c_seq ?_
  refine c_region ?_
  refine l_rd r_move ?_
  refine l_rd r_len ?_
  refine l_do d_make0 (fun g42 => ?_)
  refine l_rd r_assign ?_
  refine l_nil ?_
  refine x_then ?_
  refine c_seq ?_
  refine c_seq ?_
  refine c_region ?_
  refine l_rd r_assign ?_
  refine l_nil ?_
  refine x_then ?_
  refine c_block ?_
  refine c_loop0 6 [0, 3, 4, 5, 9, 10, 11, 12, 13, 14, 15, 16, 17, 18, 19, 20, 21, 22, 23, 24, 25, 26, 27, 28, 29, 30, 31, 32, 33, 34, 35, 36, 37, 38, 39, 40, 41, 42, 73, 74, 75, 76, 77, 78, 79, 80, 81, 82, 83, 84, 85, 86, 87, 88, 89, 90, 91, 92, 93, 94, 95, 96, 97, 98, 99, 100, 101, 102, 103, 104, 105, 106, 107, 108, 109, 110, 111, 112, 113, 114, 115, 116, 117, 118, 119, 120, 121, 122, 123, 124, 125, 126, 127, 128, 129, 130, 131, 132, 133, 134, 135, 136, 137, 138, 139, 140, 141, 142, 143, 144, 145, 146, 147, 148, 149, 150, 151, 152, 153, 154, 155, 156, 157, 158, 159, 160, 161, 162, 163, 164, 165, 166, 167, 168, 169, 170, 171, 172, 173, 174, 175, 176, 177, 178, 179, 180, 181, 182, 183, 184, 185, 186, 187, 188, 189, 190, 191, 192] (h := ?_)
  refine c_seq ?_
  refine c_seq ?_
  refine c_region ?_
  refine l_rd r_move ?_
  refine l_rd r_move ?_
  refine l_rd r_len ?_
  refine l_rd r_lss ?_
  refine l_nil ?_
  refine x_then ?_
  refine c_false rfl ?_
  refine c_exit ?_
  refine x_thenE (x_thenE (x_inE (x_then ?_)))
  refine c_seq ?_
  refine c_seq ?_
  refine c_region ?_
  refine l_rd r_assign ?_
  refine l_nil ?_
  refine x_then ?_
  refine c_block ?_
  refine c_loop0 9 [0, 3, 4, 5, 6, 7, 8, 11, 12, 13, 14, 15, 16, 17, 18, 19, 20, 21, 22, 23, 24, 25, 26, 27, 28, 29, 30, 31, 32, 33, 34, 35, 36, 37, 38, 39, 40, 41, 42, 43, 44, 45, 46, 47, 48, 49, 50, 51, 52, 53, 54, 55, 56, 57, 58, 59, 60, 61, 62, 63, 64, 65, 66, 67, 68, 69, 70, 71, 72, 123, 124, 125, 126, 127, 128, 129, 130, 131, 132, 133, 134, 135, 136, 137, 138, 139, 140, 141, 142, 143, 144, 145, 146, 147, 148, 149, 150, 151, 152, 153, 154, 155, 156, 157, 158, 159, 160, 161, 162, 163, 164, 165, 166, 167, 168, 169, 170, 171, 172, 173, 174, 175, 176, 177, 178, 179, 180, 181, 182, 183, 184, 185, 186, 187, 188, 189, 190, 191, 192] (h := ?_)
  refine c_seq ?_
  refine c_seq ?_
  refine c_region ?_
  refine l_rd r_move ?_
  refine l_rd r_move ?_
  refine l_rd r_len ?_
  refine l_rd r_lss ?_
  refine l_nil ?_
  refine x_then ?_
  refine c_false rfl ?_
  refine c_exit ?_
  refine x_thenE (x_thenE (x_inE (x_then ?_)))
  refine c_seq ?_
  refine c_seq ?_
  refine c_region ?_
  refine l_rd r_assign ?_
  refine l_nil ?_
  refine x_then ?_
  refine c_block ?_
  refine c_loop0 11 [0, 3, 4, 5, 6, 7, 8, 9, 10, 14, 15, 16, 17, 18, 19, 20, 21, 22, 23, 24, 25, 26, 27, 28, 29, 30, 31, 32, 33, 34, 35, 36, 37, 38, 39, 40, 41, 42, 43, 44, 45, 46, 47, 48, 49, 50, 51, 52, 53, 54, 55, 56, 57, 58, 59, 60, 61, 62, 63, 64, 65, 66, 67, 68, 69, 70, 71, 72, 73, 74, 75, 76, 77, 78, 79, 80, 81, 82, 83, 84, 85, 86, 87, 88, 89, 90, 91, 92, 93, 94, 95, 96, 97, 98, 99, 100, 101, 102, 103, 104, 105, 106, 107, 108, 109, 110, 111, 112, 113, 114, 115, 116, 117, 118, 119, 120, 121, 122, 152, 153, 154, 155, 156, 157, 158, 159, 160, 161, 162, 163, 164, 165, 166, 167, 168, 169, 170, 171, 172, 173, 174, 175, 176, 177, 178, 179, 180, 181, 182, 183, 184, 185, 186, 187, 188, 189, 190, 191, 192] (h := ?_)
  refine c_seq ?_
  refine c_seq ?_
  refine c_region ?_
  refine l_rd r_move ?_
  refine l_rd r_move ?_
  refine l_rd r_len ?_
  refine l_rd r_lss ?_
  refine l_nil ?_
  refine x_then ?_
  refine c_false rfl ?_
  refine c_exit ?_
  refine x_thenE (x_thenE (x_inE (x_then ?_)))
  refine c_seq ?_
  refine c_seq ?_
  refine c_region ?_
  refine l_rd r_assign ?_
  refine l_nil ?_
  refine x_then ?_
  refine c_block ?_
  refine c_loop0 14 [0, 3, 4, 5, 6, 7, 8, 9, 10, 11, 12, 13, 16, 17, 18, 19, 20, 21, 22, 23, 24, 25, 26, 27, 28, 29, 30, 31, 32, 33, 34, 35, 36, 37, 38, 39, 40, 41, 42, 43, 44, 45, 46, 47, 48, 49, 50, 51, 52, 53, 54, 55, 56, 57, 58, 59, 60, 61, 62, 63, 64, 65, 66, 67, 68, 69, 70, 71, 72, 73, 74, 75, 76, 77, 78, 79, 80, 81, 82, 83, 84, 85, 86, 87, 88, 89, 90, 91, 92, 93, 94, 95, 96, 97, 98, 99, 100, 101, 102, 103, 104, 105, 106, 107, 108, 109, 110, 111, 112, 113, 114, 115, 116, 117, 118, 119, 120, 121, 122, 123, 124, 125, 126, 127, 128, 129, 130, 131, 132, 133, 134, 135, 136, 137, 138, 139, 140, 141, 142, 143, 144, 145, 146, 147, 148, 149, 150, 151] (h := ?_)
  refine c_seq ?_
  refine c_seq ?_
  refine c_region ?_
  refine l_rd r_move ?_
  refine l_rd r_move ?_
  refine l_rd r_len ?_
  refine l_rd r_lss ?_
  refine l_nil ?_
  refine x_then ?_
  refine c_false rfl ?_
  refine c_exit ?_
  refine x_thenE (x_thenE (x_inE (x_then ?_)))
  refine c_seq ?_
  refine c_region ?_
  refine l_rd r_assign ?_
  refine l_nil ?_
  refine x_then ?_
  refine c_ret ?_
  refine k_ret [] _ (.cons (.tmp rfl) .nil) (h := ?_)
  exact ⟨rfl, rfl⟩
theorem flatSignatures0 : CSpec Tryz.prog 69 [.one (.sl 0 none 0 0)] [] [] fun o L => o = .ret (vb true) ∧ L = [] := by
  refine k_enter Tryz.func69 rfl rfl (h := fun w0 => ?_)
  refine c_seq ?_
  refine c_region ?_
  refine l_rd r_assign ?_
  refine l_nil ?_
  refine x_then ?_
  refine c_seq ?_
  refine c_seq ?_
  refine c_region ?_
  refine l_rd r_assign ?_
  refine l_nil ?_
  refine x_then ?_
  refine c_block ?_
  refine c_loop0 3 [0, 5, 6, 7, 8, 9, 10, 11, 12, 13, 14, 15, 40, 41, 42, 43, 44, 45, 46, 47, 48, 49, 50, 51, 52, 53, 54, 55, 56, 57, 58, 59, 60, 61, 62, 63, 64, 65, 66, 67, 68, 69, 70, 71, 72, 73, 74, 75, 76, 77, 78, 79, 80, 81, 82, 83, 84, 85, 86, 87, 88, 89, 90, 91, 92, 93, 94, 95, 96, 97, 98, 99, 100, 101, 102, 103, 104, 105, 106, 107, 108, 109, 110, 111, 112, 113, 114, 115, 116, 117, 118, 119, 120, 121, 122, 123, 124, 125, 126, 127, 128, 129, 130, 131, 132, 133, 134, 135, 136, 137, 138, 139, 140, 141, 142, 143, 144, 145, 146, 147, 148, 149, 150, 151, 152, 153, 154, 155, 156, 157, 158, 159, 160, 161, 162, 163, 164, 165, 166, 167, 168, 169, 170, 171, 172, 173, 174, 175, 176, 177, 178, 179, 180, 181, 182, 183, 184, 185, 186, 187, 188, 189, 190, 191, 192] (h := ?_)
  refine c_seq ?_
  refine c_seq ?_
  refine c_region ?_
  refine l_rd r_move ?_
  refine l_rd r_move ?_
  refine l_rd r_len ?_
  refine l_rd r_lss ?_
  refine l_nil ?_
  refine x_then ?_
  refine c_false rfl ?_
  refine c_exit ?_
  refine x_thenE (x_thenE (x_inE (x_then ?_)))
  refine c_seq ?_
  refine c_region ?_
  refine l_rd r_move ?_
  refine l_rd r_len ?_
  refine l_do d_make0 (fun g42 => ?_)
  refine l_rd r_assign ?_
  refine l_nil ?_
  refine x_then ?_
  refine c_seq ?_
  refine c_seq ?_
  refine c_region ?_
  refine l_rd r_assign ?_
  refine l_nil ?_
  refine x_then ?_
  refine c_block ?_
  refine c_loop0 6 [0, 3, 4, 5, 9, 10, 11, 12, 13, 14, 15, 16, 17, 18, 19, 20, 21, 22, 23, 24, 25, 26, 27, 28, 29, 30, 31, 32, 33, 34, 35, 36, 37, 38, 39, 40, 41, 42, 73, 74, 75, 76, 77, 78, 79, 80, 81, 82, 83, 84, 85, 86, 87, 88, 89, 90, 91, 92, 93, 94, 95, 96, 97, 98, 99, 100, 101, 102, 103, 104, 105, 106, 107, 108, 109, 110, 111, 112, 113, 114, 115, 116, 117, 118, 119, 120, 121, 122, 123, 124, 125, 126, 127, 128, 129, 130, 131, 132, 133, 134, 135, 136, 137, 138, 139, 140, 141, 142, 143, 144, 145, 146, 147, 148, 149, 150, 151, 152, 153, 154, 155, 156, 157, 158, 159, 160, 161, 162, 163, 164, 165, 166, 167, 168, 169, 170, 171, 172, 173, 174, 175, 176, 177, 178, 179, 180, 181, 182, 183, 184, 185, 186, 187, 188, 189, 190, 191, 192] (h := ?_)
  refine c_seq ?_
  refine c_seq ?_
  refine c_region ?_
  refine l_rd r_move ?_
  refine l_rd r_move ?_
  refine l_rd r_len ?_
  refine l_rd r_lss ?_
  refine l_nil ?_
  refine x_then ?_
  refine c_false rfl ?_
  refine c_exit ?_
  refine x_thenE (x_thenE (x_inE (x_then ?_)))
  refine c_seq ?_
  refine c_seq ?_
  refine c_region ?_
  refine l_rd r_assign ?_
  refine l_nil ?_
  refine x_then ?_
  refine c_block ?_
  refine c_loop0 9 [0, 3, 4, 5, 6, 7, 8, 11, 12, 13, 14, 15, 16, 17, 18, 19, 20, 21, 22, 23, 24, 25, 26, 27, 28, 29, 30, 31, 32, 33, 34, 35, 36, 37, 38, 39, 40, 41, 42, 43, 44, 45, 46, 47, 48, 49, 50, 51, 52, 53, 54, 55, 56, 57, 58, 59, 60, 61, 62, 63, 64, 65, 66, 67, 68, 69, 70, 71, 72, 123, 124, 125, 126, 127, 128, 129, 130, 131, 132, 133, 134, 135, 136, 137, 138, 139, 140, 141, 142, 143, 144, 145, 146, 147, 148, 149, 150, 151, 152, 153, 154, 155, 156, 157, 158, 159, 160, 161, 162, 163, 164, 165, 166, 167, 168, 169, 170, 171, 172, 173, 174, 175, 176, 177, 178, 179, 180, 181, 182, 183, 184, 185, 186, 187, 188, 189, 190, 191, 192] (h := ?_)
  refine c_seq ?_
  refine c_seq ?_
  refine c_region ?_
  refine l_rd r_move ?_
  refine l_rd r_move ?_
  refine l_rd r_len ?_
  refine l_rd r_lss ?_
  refine l_nil ?_
  refine x_then ?_
  refine c_false rfl ?_
  refine c_exit ?_
  refine x_thenE (x_thenE (x_inE (x_then ?_)))
  refine c_seq ?_
  refine c_seq ?_
  refine c_region ?_
  refine l_rd r_assign ?_
  refine l_nil ?_
  refine x_then ?_
  refine c_block ?_
  refine c_loop0 11 [0, 3, 4, 5, 6, 7, 8, 9, 10, 14, 15, 16, 17, 18, 19, 20, 21, 22, 23, 24, 25, 26, 27, 28, 29, 30, 31, 32, 33, 34, 35, 36, 37, 38, 39, 40, 41, 42, 43, 44, 45, 46, 47, 48, 49, 50, 51, 52, 53, 54, 55, 56, 57, 58, 59, 60, 61, 62, 63, 64, 65, 66, 67, 68, 69, 70, 71, 72, 73, 74, 75, 76, 77, 78, 79, 80, 81, 82, 83, 84, 85, 86, 87, 88, 89, 90, 91, 92, 93, 94, 95, 96, 97, 98, 99, 100, 101, 102, 103, 104, 105, 106, 107, 108, 109, 110, 111, 112, 113, 114, 115, 116, 117, 118, 119, 120, 121, 122, 152, 153, 154, 155, 156, 157, 158, 159, 160, 161, 162, 163, 164, 165, 166, 167, 168, 169, 170, 171, 172, 173, 174, 175, 176, 177, 178, 179, 180, 181, 182, 183, 184, 185, 186, 187, 188, 189, 190, 191, 192] (h := ?_)
  refine c_seq ?_
  refine c_seq ?_
  refine c_region ?_
  refine l_rd r_move ?_
  refine l_rd r_move ?_
  refine l_rd r_len ?_
  refine l_rd r_lss ?_
  refine l_nil ?_
  refine x_then ?_
  refine c_false rfl ?_
  refine c_exit ?_
  refine x_thenE (x_thenE (x_inE (x_then ?_)))
  refine c_seq ?_
  refine c_seq ?_
  refine c_region ?_
  refine l_rd r_assign ?_
  refine l_nil ?_
  refine x_then ?_
  refine c_block ?_
  refine c_loop0 14 [0, 3, 4, 5, 6, 7, 8, 9, 10, 11, 12, 13, 16, 17, 18, 19, 20, 21, 22, 23, 24, 25, 26, 27, 28, 29, 30, 31, 32, 33, 34, 35, 36, 37, 38, 39, 40, 41, 42, 43, 44, 45, 46, 47, 48, 49, 50, 51, 52, 53, 54, 55, 56, 57, 58, 59, 60, 61, 62, 63, 64, 65, 66, 67, 68, 69, 70, 71, 72, 73, 74, 75, 76, 77, 78, 79, 80, 81, 82, 83, 84, 85, 86, 87, 88, 89, 90, 91, 92, 93, 94, 95, 96, 97, 98, 99, 100, 101, 102, 103, 104, 105, 106, 107, 108, 109, 110, 111, 112, 113, 114, 115, 116, 117, 118, 119, 120, 121, 122, 123, 124, 125, 126, 127, 128, 129, 130, 131, 132, 133, 134, 135, 136, 137, 138, 139, 140, 141, 142, 143, 144, 145, 146, 147, 148, 149, 150, 151] (h := ?_)
  refine c_seq ?_
  refine c_seq ?_
  refine c_region ?_
  refine l_rd r_move ?_
  refine l_rd r_move ?_
  refine l_rd r_len ?_
  refine l_rd r_lss ?_
  refine l_nil ?_
  refine x_then ?_
  refine c_false rfl ?_
  refine c_exit ?_
  refine x_thenE (x_thenE (x_inE (x_then ?_)))
  refine c_seq ?_
  refine c_region ?_
  refine l_rd r_assign ?_
  refine l_nil ?_
  refine x_then ?_
  refine c_ret ?_
  refine k_ret [] _ (.cons (.tmp rfl) .nil) (h := ?_)
  exact ⟨rfl, rfl⟩
theorem flatTxs0 : CSpec Tryz.prog 70 [.one (.sl 0 none 0 0)] [] [] fun o L => o = .ret (vb true) ∧ L = [] := by
  refine k_enter Tryz.func70 rfl rfl (h := fun w0 => ?_)
  refine c_seq ?_
  refine c_region ?_
  refine l_rd r_assign ?_
  refine l_nil ?_
  refine x_then ?_
  refine c_seq ?_
  refine c_seq ?_
  refine c_region ?_
  refine l_rd r_assign ?_
  refine l_nil ?_
  refine x_then ?_
  refine c_block ?_
  refine c_loop0 3 [0, 5, 6, 7, 8, 9, 10, 11, 12, 13, 14, 15, 40, 41, 42, 43, 44, 45, 46, 47, 48, 49, 50, 51, 52, 53, 54, 55, 56, 57, 58, 59, 60, 61, 62, 63, 64, 65, 66, 67, 68, 69, 70, 71, 72, 73, 74, 75, 76, 77, 78, 79, 80, 81, 82, 83, 84, 85, 86, 87, 88, 89, 90, 91, 92, 93, 94, 95, 96, 97, 98, 99, 100, 101, 102, 103, 104, 105, 106, 107, 108, 109, 110, 111, 112, 113, 114, 115, 116, 117, 118, 119, 120, 121, 122, 123, 124, 125, 126, 127, 128, 129, 130, 131, 132, 133, 134, 135, 136, 137, 138, 139, 140, 141, 142, 143, 144, 145, 146, 147, 148, 149, 150, 151, 152, 153, 154, 155, 156, 157, 158, 159, 160, 161, 162, 163, 164, 165, 166, 167, 168, 169, 170, 171, 172, 173, 174, 175, 176, 177, 178, 179, 180, 181, 182, 183, 184, 185, 186, 187, 188, 189, 190, 191, 192] (h := ?_)
  refine c_seq ?_
  refine c_seq ?_
  refine c_region ?_
  refine l_rd r_move ?_
  refine l_rd r_move ?_
  refine l_rd r_len ?_
  refine l_rd r_lss ?_
  refine l_nil ?_
  refine x_then ?_
  refine c_false rfl ?_
  refine c_exit ?_
  refine x_thenE (x_thenE (x_inE (x_then ?_)))
  refine c_seq ?_
  refine c_region ?_
  refine l_rd r_move ?_
  refine l_rd r_len ?_
  refine l_do d_make0 (fun g42 => ?_)
  refine l_rd r_assign ?_
  refine l_nil ?_
  refine x_then ?_
  refine c_seq ?_
  refine c_seq ?_
  refine c_region ?_
  refine l_rd r_assign ?_
  refine l_nil ?_
  refine x_then ?_
  refine c_block ?_
  refine c_loop0 6 [0, 3, 4, 5, 9, 10, 11, 12, 13, 14, 15, 16, 17, 18, 19, 20, 21, 22, 23, 24, 25, 26, 27, 28, 29, 30, 31, 32, 33, 34, 35, 36, 37, 38, 39, 40, 41, 42, 73, 74, 75, 76, 77, 78, 79, 80, 81, 82, 83, 84, 85, 86, 87, 88, 89, 90, 91, 92, 93, 94, 95, 96, 97, 98, 99, 100, 101, 102, 103, 104, 105, 106, 107, 108, 109, 110, 111, 112, 113, 114, 115, 116, 117, 118, 119, 120, 121, 122, 123, 124, 125, 126, 127, 128, 129, 130, 131, 132, 133, 134, 135, 136, 137, 138, 139, 140, 141, 142, 143, 144, 145, 146, 147, 148, 149, 150, 151, 152, 153, 154, 155, 156, 157, 158, 159, 160, 161, 162, 163, 164, 165, 166, 167, 168, 169, 170, 171, 172, 173, 174, 175, 176, 177, 178, 179, 180, 181, 182, 183, 184, 185, 186, 187, 188, 189, 190, 191, 192] (h := ?_)
  refine c_seq ?_
  refine c_seq ?_
  refine c_region ?_
  refine l_rd r_move ?_
  refine l_rd r_move ?_
  refine l_rd r_len ?_
  refine l_rd r_lss ?_
  refine l_nil ?_
  refine x_then ?_
  refine c_false rfl ?_
  refine c_exit ?_
  refine x_thenE (x_thenE (x_inE (x_then ?_)))
  refine c_seq ?_
  refine c_seq ?_
  refine c_region ?_
  refine l_rd r_assign ?_
  refine l_nil ?_
  refine x_then ?_
  refine c_block ?_
  refine c_loop0 9 [0, 3, 4, 5, 6, 7, 8, 11, 12, 13, 14, 15, 16, 17, 18, 19, 20, 21, 22, 23, 24, 25, 26, 27, 28, 29, 30, 31, 32, 33, 34, 35, 36, 37, 38, 39, 40, 41, 42, 43, 44, 45, 46, 47, 48, 49, 50, 51, 52, 53, 54, 55, 56, 57, 58, 59, 60, 61, 62, 63, 64, 65, 66, 67, 68, 69, 70, 71, 72, 123, 124, 125, 126, 127, 128, 129, 130, 131, 132, 133, 134, 135, 136, 137, 138, 139, 140, 141, 142, 143, 144, 145, 146, 147, 148, 149, 150, 151, 152, 153, 154, 155, 156, 157, 158, 159, 160, 161, 162, 163, 164, 165, 166, 167, 168, 169, 170, 171, 172, 173, 174, 175, 176, 177, 178, 179, 180, 181, 182, 183, 184, 185, 186, 187, 188, 189, 190, 191, 192] (h := ?_)
  refine c_seq ?_
  refine c_seq ?_
  refine c_region ?_
  refine l_rd r_move ?_
  refine l_rd r_move ?_
  refine l_rd r_len ?_
  refine l_rd r_lss ?_
  refine l_nil ?_
  refine x_then ?_
  refine c_false rfl ?_
  refine c_exit ?_
  refine x_thenE (x_thenE (x_inE (x_then ?_)))
  refine c_seq ?_
  refine c_seq ?_
  refine c_region ?_
  refine l_rd r_assign ?_
  refine l_nil ?_
  refine x_then ?_
  refine c_block ?_
  refine c_loop0 11 [0, 3, 4, 5, 6, 7, 8, 9, 10, 14, 15, 16, 17, 18, 19, 20, 21, 22, 23, 24, 25, 26, 27, 28, 29, 30, 31, 32, 33, 34, 35, 36, 37, 38, 39, 40, 41, 42, 43, 44, 45, 46, 47, 48, 49, 50, 51, 52, 53, 54, 55, 56, 57, 58, 59, 60, 61, 62, 63, 64, 65, 66, 67, 68, 69, 70, 71, 72, 73, 74, 75, 76, 77, 78, 79, 80, 81, 82, 83, 84, 85, 86, 87, 88, 89, 90, 91, 92, 93, 94, 95, 96, 97, 98, 99, 100, 101, 102, 103, 104, 105, 106, 107, 108, 109, 110, 111, 112, 113, 114, 115, 116, 117, 118, 119, 120, 121, 122, 152, 153, 154, 155, 156, 157, 158, 159, 160, 161, 162, 163, 164, 165, 166, 167, 168, 169, 170, 171, 172, 173, 174, 175, 176, 177, 178, 179, 180, 181, 182, 183, 184, 185, 186, 187, 188, 189, 190, 191, 192] (h := ?_)
  refine c_seq ?_
  refine c_seq ?_
  refine c_region ?_
  refine l_rd r_move ?_
  refine l_rd r_move ?_
  refine l_rd r_len ?_
  refine l_rd r_lss ?_
  refine l_nil ?_
  refine x_then ?_
  refine c_false rfl ?_
  refine c_exit ?_
  refine x_thenE (x_thenE (x_inE (x_then ?_)))
  refine c_seq ?_
  refine c_seq ?_
  refine c_region ?_
  refine l_rd r_assign ?_
  refine l_nil ?_
  refine x_then ?_
  refine c_block ?_
  refine c_loop0 14 [0, 3, 4, 5, 6, 7, 8, 9, 10, 11, 12, 13, 16, 17, 18, 19, 20, 21, 22, 23, 24, 25, 26, 27, 28, 29, 30, 31, 32, 33, 34, 35, 36, 37, 38, 39, 40, 41, 42, 43, 44, 45, 46, 47, 48, 49, 50, 51, 52, 53, 54, 55, 56, 57, 58, 59, 60, 61, 62, 63, 64, 65, 66, 67, 68, 69, 70, 71, 72, 73, 74, 75, 76, 77, 78, 79, 80, 81, 82, 83, 84, 85, 86, 87, 88, 89, 90, 91, 92, 93, 94, 95, 96, 97, 98, 99, 100, 101, 102, 103, 104, 105, 106, 107, 108, 109, 110, 111, 112, 113, 114, 115, 116, 117, 118, 119, 120, 121, 122, 123, 124, 125, 126, 127, 128, 129, 130, 131, 132, 133, 134, 135, 136, 137, 138, 139, 140, 141, 142, 143, 144, 145, 146, 147, 148, 149, 150, 151] (h := ?_)
  refine c_seq ?_
  refine c_seq ?_
  refine c_region ?_
  refine l_rd r_move ?_
  refine l_rd r_move ?_
  refine l_rd r_len ?_
  refine l_rd r_lss ?_
  refine l_nil ?_
  refine x_then ?_
  refine c_false rfl ?_
  refine c_exit ?_
  refine x_thenE (x_thenE (x_inE (x_then ?_)))
  refine c_seq ?_
  refine c_region ?_
  refine l_rd r_assign ?_
  refine l_nil ?_
  refine x_then ?_
  refine c_ret ?_
  refine k_ret [] _ (.cons (.tmp rfl) .nil) (h := ?_)
  exact ⟨rfl, rfl⟩
theorem flatBlocks0 : CSpec Tryz.prog 71 [.one (.sl 0 none 0 0)] [] [] fun o L => o = .ret (vb true) ∧ L = [] := by
  refine k_enter Tryz.func71 rfl rfl (h := fun w0 => ?_)
  refine c_seq ?_
  refine c_region ?_
  refine l_rd r_assign ?_
  refine l_nil ?_
  refine x_then ?_
  refine c_seq ?_
  refine c_seq ?_
  refine c_region ?_
  refine l_rd r_assign ?_
  refine l_nil ?_
  refine x_then ?_
  refine c_block ?_
  refine c_loop0 3 [0, 5, 6, 7, 8, 9, 10, 11, 12, 13, 14, 15, 40, 41, 42, 43, 44, 45, 46, 47, 48, 49, 50, 51, 52, 53, 54, 55, 56, 57, 58, 59, 60, 61, 62, 63, 64, 65, 66, 67, 68, 69, 70, 71, 72, 73, 74, 75, 76, 77, 78, 79, 80, 81, 82, 83, 84, 85, 86, 87, 88, 89, 90, 91, 92, 93, 94, 95, 96, 97, 98, 99, 100, 101, 102, 103, 104, 105, 106, 107, 108, 109, 110, 111, 112, 113, 114, 115, 116, 117, 118, 119, 120, 121, 122, 123, 124, 125, 126, 127, 128, 129, 130, 131, 132, 133, 134, 135, 136, 137, 138, 139, 140, 141, 142, 143, 144, 145, 146, 147, 148, 149, 150, 151, 152, 153, 154, 155, 156, 157, 158, 159, 160, 161, 162, 163, 164, 165, 166, 167, 168, 169, 170, 171, 172, 173, 174, 175, 176, 177, 178, 179, 180, 181, 182, 183, 184, 185, 186, 187, 188, 189, 190, 191, 192] (h := ?_)
  refine c_seq ?_
  refine c_seq ?_
  refine c_region ?_
  refine l_rd r_move ?_
  refine l_rd r_move ?_
  refine l_rd r_len ?_
  refine l_rd r_lss ?_
  refine l_nil ?_
  refine x_then ?_
  refine c_false rfl ?_
  refine c_exit ?_
  refine x_thenE (x_thenE (x_inE (x_then ?_)))
  refine c_seq ?_
  refine c_region ?_
  refine l_rd r_move ?_
  refine l_rd r_len ?_
  refine l_do d_make0 (fun g42 => ?_)
  refine l_rd r_assign ?_
  refine l_nil ?_
  refine x_then ?_
  refine c_seq ?_
  refine c_seq ?_
  refine c_region ?_
  refine l_rd r_assign ?_
  refine l_nil ?_
  refine x_then ?_
  refine c_block ?_
  refine c_loop0 6 [0, 3, 4, 5, 9, 10, 11, 12, 13, 14, 15, 16, 17, 18, 19, 20, 21, 22, 23, 24, 25, 26, 27, 28, 29, 30, 31, 32, 33, 34, 35, 36, 37, 38, 39, 40, 41, 42, 73, 74, 75, 76, 77, 78, 79, 80, 81, 82, 83, 84, 85, 86, 87, 88, 89, 90, 91, 92, 93, 94, 95, 96, 97, 98, 99, 100, 101, 102, 103, 104, 105, 106, 107, 108, 109, 110, 111, 112, 113, 114, 115, 116, 117, 118, 119, 120, 121, 122, 123, 124, 125, 126, 127, 128, 129, 130, 131, 132, 133, 134, 135, 136, 137, 138, 139, 140, 141, 142, 143, 144, 145, 146, 147, 148, 149, 150, 151, 152, 153, 154, 155, 156, 157, 158, 159, 160, 161, 162, 163, 164, 165, 166, 167, 168, 169, 170, 171, 172, 173, 174, 175, 176, 177, 178, 179, 180, 181, 182, 183, 184, 185, 186, 187, 188, 189, 190, 191, 192] (h := ?_)
  refine c_seq ?_
  refine c_seq ?_
  refine c_region ?_
  refine l_rd r_move ?_
  refine l_rd r_move ?_
  refine l_rd r_len ?_
  refine l_rd r_lss ?_
  refine l_nil ?_
  refine x_then ?_
  refine c_false rfl ?_
  refine c_exit ?_
  refine x_thenE (x_thenE (x_inE (x_then ?_)))
  refine c_seq ?_
  refine c_seq ?_
  refine c_region ?_
  refine l_rd r_assign ?_
  refine l_nil ?_
  refine x_then ?_
  refine c_block ?_
  refine c_loop0 9 [0, 3, 4, 5, 6, 7, 8, 11, 12, 13, 14, 15, 16, 17, 18, 19, 20, 21, 22, 23, 24, 25, 26, 27, 28, 29, 30, 31, 32, 33, 34, 35, 36, 37, 38, 39, 40, 41, 42, 43, 44, 45, 46, 47, 48, 49, 50, 51, 52, 53, 54, 55, 56, 57, 58, 59, 60, 61, 62, 63, 64, 65, 66, 67, 68, 69, 70, 71, 72, 123, 124, 125, 126, 127, 128, 129, 130, 131, 132, 133, 134, 135, 136, 137, 138, 139, 140, 141, 142, 143, 144, 145, 146, 147, 148, 149, 150, 151, 152, 153, 154, 155, 156, 157, 158, 159, 160, 161, 162, 163, 164, 165, 166, 167, 168, 169, 170, 171, 172, 173, 174, 175, 176, 177, 178, 179, 180, 181, 182, 183, 184, 185, 186, 187, 188, 189, 190, 191, 192] (h := ?_)
  refine c_seq ?_
  refine c_seq ?_
  refine c_region ?_
  refine l_rd r_move ?_
  refine l_rd r_move ?_
  refine l_rd r_len ?_
  refine l_rd r_lss ?_
  refine l_nil ?_
  refine x_then ?_
  refine c_false rfl ?_
  refine c_exit ?_
  refine x_thenE (x_thenE (x_inE (x_then ?_)))
  refine c_seq ?_
  refine c_seq ?_
  refine c_region ?_
  refine l_rd r_assign ?_
  refine l_nil ?_
  refine x_then ?_
  refine c_block ?_
  refine c_loop0 11 [0, 3, 4, 5, 6, 7, 8, 9, 10, 14, 15, 16, 17, 18, 19, 20, 21, 22, 23, 24, 25, 26, 27, 28, 29, 30, 31, 32, 33, 34, 35, 36, 37, 38, 39, 40, 41, 42, 43, 44, 45, 46, 47, 48, 49, 50, 51, 52, 53, 54, 55, 56, 57, 58, 59, 60, 61, 62, 63, 64, 65, 66, 67, 68, 69, 70, 71, 72, 73, 74, 75, 76, 77, 78, 79, 80, 81, 82, 83, 84, 85, 86, 87, 88, 89, 90, 91, 92, 93, 94, 95, 96, 97, 98, 99, 100, 101, 102, 103, 104, 105, 106, 107, 108, 109, 110, 111, 112, 113, 114, 115, 116, 117, 118, 119, 120, 121, 122, 152, 153, 154, 155, 156, 157, 158, 159, 160, 161, 162, 163, 164, 165, 166, 167, 168, 169, 170, 171, 172, 173, 174, 175, 176, 177, 178, 179, 180, 181, 182, 183, 184, 185, 186, 187, 188, 189, 190, 191, 192] (h := ?_)
  refine c_seq ?_
  refine c_seq ?_
  refine c_region ?_
  refine l_rd r_move ?_
  refine l_rd r_move ?_
  refine l_rd r_len ?_
  refine l_rd r_lss ?_
  refine l_nil ?_
  refine x_then ?_
  refine c_false rfl ?_
  refine c_exit ?_
  refine x_thenE (x_thenE (x_inE (x_then ?_)))
  refine c_seq ?_
  refine c_seq ?_
  refine c_region ?_
  refine l_rd r_assign ?_
  refine l_nil ?_
  refine x_then ?_
  refine c_block ?_
  refine c_loop0 14 [0, 3, 4, 5, 6, 7, 8, 9, 10, 11, 12, 13, 16, 17, 18, 19, 20, 21, 22, 23, 24, 25, 26, 27, 28, 29, 30, 31, 32, 33, 34, 35, 36, 37, 38, 39, 40, 41, 42, 43, 44, 45, 46, 47, 48, 49, 50, 51, 52, 53, 54, 55, 56, 57, 58, 59, 60, 61, 62, 63, 64, 65, 66, 67, 68, 69, 70, 71, 72, 73, 74, 75, 76, 77, 78, 79, 80, 81, 82, 83, 84, 85, 86, 87, 88, 89, 90, 91, 92, 93, 94, 95, 96, 97, 98, 99, 100, 101, 102, 103, 104, 105, 106, 107, 108, 109, 110, 111, 112, 113, 114, 115, 116, 117, 118, 119, 120, 121, 122, 123, 124, 125, 126, 127, 128, 129, 130, 131, 132, 133, 134, 135, 136, 137, 138, 139, 140, 141, 142, 143, 144, 145, 146, 147, 148, 149, 150, 151] (h := ?_)
  refine c_seq ?_
  refine c_seq ?_
  refine c_region ?_
  refine l_rd r_move ?_
  refine l_rd r_move ?_
  refine l_rd r_len ?_
  refine l_rd r_lss ?_
  refine l_nil ?_
  refine x_then ?_
  refine c_false rfl ?_
  refine c_exit ?_
  refine x_thenE (x_thenE (x_inE (x_then ?_)))
  refine c_seq ?_
  refine c_region ?_
  refine l_rd r_assign ?_
  refine l_nil ?_
  refine x_then ?_
  refine c_ret ?_
  refine k_ret [] _ (.cons (.tmp rfl) .nil) (h := ?_)
  exact ⟨rfl, rfl⟩
theorem flatGeneses0 : CSpec Tryz.prog 72 [.one (.sl 0 none 0 0)] [] [] fun o L => o = .ret (vb true) ∧ L = [] := by
  refine k_enter Tryz.func72 rfl rfl (h := fun w0 => ?_)
  refine c_seq ?_
  refine c_region ?_
  refine l_rd r_assign ?_
  refine l_nil ?_
  refine x_then ?_
  refine c_seq ?_
  refine c_seq ?_
  refine c_region ?_
  refine l_rd r_assign ?_
  refine l_nil ?_
  refine x_then ?_
  refine c_block ?_
  refine c_loop0 3 [0, 5, 6, 7, 8, 9, 10, 11, 12, 13, 14, 15, 40, 41, 42, 43, 44, 45, 46, 47, 48, 49, 50, 51, 52, 53, 54, 55, 56, 57, 58, 59, 60, 61, 62, 63, 64, 65, 66, 67, 68, 69, 70, 71, 72, 73, 74, 75, 76, 77, 78, 79, 80, 81, 82, 83, 84, 85, 86, 87, 88, 89, 90, 91, 92, 93, 94, 95, 96, 97, 98, 99, 100, 101, 102, 103, 104, 105, 106, 107, 108, 109, 110, 111, 112, 113, 114, 115, 116, 117, 118, 119, 120, 121, 122, 123, 124, 125, 126, 127, 128, 129, 130, 131, 132, 133, 134, 135, 136, 137, 138, 139, 140, 141, 142, 143, 144, 145, 146, 147, 148, 149, 150, 151, 152, 153, 154, 155, 156, 157, 158, 159, 160, 161, 162, 163, 164, 165, 166, 167, 168, 169, 170, 171, 172, 173, 174, 175, 176, 177, 178, 179, 180, 181, 182, 183, 184, 185, 186, 187, 188, 189, 190, 191, 192] (h := ?_)
  refine c_seq ?_
  refine c_seq ?_
  refine c_region ?_
  refine l_rd r_move ?_
  refine l_rd r_move ?_
  refine l_rd r_len ?_
  refine l_rd r_lss ?_
  refine l_nil ?_
  refine x_then ?_
  refine c_false rfl ?_
  refine c_exit ?_
  refine x_thenE (x_thenE (x_inE (x_then ?_)))
  refine c_seq ?_
  refine c_region ?_
  refine l_rd r_move ?_
  refine l_rd r_len ?_
  refine l_do d_make0 (fun g42 => ?_)
  refine l_rd r_assign ?_
  refine l_nil ?_
  refine x_then ?_
  refine c_seq ?_
  refine c_seq ?_
  refine c_region ?_
  refine l_rd r_assign ?_
  refine l_nil ?_
  refine x_then ?_
  refine c_block ?_
  refine c_loop0 6 [0, 3, 4, 5, 9, 10, 11, 12, 13, 14, 15, 16, 17, 18, 19, 20, 21, 22, 23, 24, 25, 26, 27, 28, 29, 30, 31, 32, 33, 34, 35, 36, 37, 38, 39, 40, 41, 42, 73, 74, 75, 76, 77, 78, 79, 80, 81, 82, 83, 84, 85, 86, 87, 88, 89, 90, 91, 92, 93, 94, 95, 96, 97, 98, 99, 100, 101, 102, 103, 104, 105, 106, 107, 108, 109, 110, 111, 112, 113, 114, 115, 116, 117, 118, 119, 120, 121, 122, 123, 124, 125, 126, 127, 128, 129, 130, 131, 132, 133, 134, 135, 136, 137, 138, 139, 140, 141, 142, 143, 144, 145, 146, 147, 148, 149, 150, 151, 152, 153, 154, 155, 156, 157, 158, 159, 160, 161, 162, 163, 164, 165, 166, 167, 168, 169, 170, 171, 172, 173, 174, 175, 176, 177, 178, 179, 180, 181, 182, 183, 184, 185, 186, 187, 188, 189, 190, 191, 192] (h := ?_)
  refine c_seq ?_
  refine c_seq ?_
  refine c_region ?_
  refine l_rd r_move ?_
  refine l_rd r_move ?_
  refine l_rd r_len ?_
  refine l_rd r_lss ?_
  refine l_nil ?_
  refine x_then ?_
  refine c_false rfl ?_
  refine c_exit ?_
  refine x_thenE (x_thenE (x_inE (x_then ?_)))
  refine c_seq ?_
  refine c_seq ?_
  refine c_region ?_
  refine l_rd r_assign ?_
  refine l_nil ?_
  refine x_then ?_
  refine c_block ?_
  refine c_loop0 9 [0, 3, 4, 5, 6, 7, 8, 11, 12, 13, 14, 15, 16, 17, 18, 19, 20, 21, 22, 23, 24, 25, 26, 27, 28, 29, 30, 31, 32, 33, 34, 35, 36, 37, 38, 39, 40, 41, 42, 43, 44, 45, 46, 47, 48, 49, 50, 51, 52, 53, 54, 55, 56, 57, 58, 59, 60, 61, 62, 63, 64, 65, 66, 67, 68, 69, 70, 71, 72, 123, 124, 125, 126, 127, 128, 129, 130, 131, 132, 133, 134, 135, 136, 137, 138, 139, 140, 141, 142, 143, 144, 145, 146, 147, 148, 149, 150, 151, 152, 153, 154, 155, 156, 157, 158, 159, 160, 161, 162, 163, 164, 165, 166, 167, 168, 169, 170, 171, 172, 173, 174, 175, 176, 177, 178, 179, 180, 181, 182, 183, 184, 185, 186, 187, 188, 189, 190, 191, 192] (h := ?_)
  refine c_seq ?_
  refine c_seq ?_
  refine c_region ?_
  refine l_rd r_move ?_
  refine l_rd r_move ?_
  refine l_rd r_len ?_
  refine l_rd r_lss ?_
  refine l_nil ?_
  refine x_then ?_
  refine c_false rfl ?_
  refine c_exit ?_
  refine x_thenE (x_thenE (x_inE (x_then ?_)))
  refine c_seq ?_
  refine c_seq ?_
  refine c_region ?_
  refine l_rd r_assign ?_
  refine l_nil ?_
  refine x_then ?_
  refine c_block ?_
  refine c_loop0 11 [0, 3, 4, 5, 6, 7, 8, 9, 10, 14, 15, 16, 17, 18, 19, 20, 21, 22, 23, 24, 25, 26, 27, 28, 29, 30, 31, 32, 33, 34, 35, 36, 37, 38, 39, 40, 41, 42, 43, 44, 45, 46, 47, 48, 49, 50, 51, 52, 53, 54, 55, 56, 57, 58, 59, 60, 61, 62, 63, 64, 65, 66, 67, 68, 69, 70, 71, 72, 73, 74, 75, 76, 77, 78, 79, 80, 81, 82, 83, 84, 85, 86, 87, 88, 89, 90, 91, 92, 93, 94, 95, 96, 97, 98, 99, 100, 101, 102, 103, 104, 105, 106, 107, 108, 109, 110, 111, 112, 113, 114, 115, 116, 117, 118, 119, 120, 121, 122, 152, 153, 154, 155, 156, 157, 158, 159, 160, 161, 162, 163, 164, 165, 166, 167, 168, 169, 170, 171, 172, 173, 174, 175, 176, 177, 178, 179, 180, 181, 182, 183, 184, 185, 186, 187, 188, 189, 190, 191, 192] (h := ?_)
  refine c_seq ?_
  refine c_seq ?_
  refine c_region ?_
  refine l_rd r_move ?_
  refine l_rd r_move ?_
  refine l_rd r_len ?_
  refine l_rd r_lss ?_
  refine l_nil ?_
  refine x_then ?_
  refine c_false rfl ?_
  refine c_exit ?_
  refine x_thenE (x_thenE (x_inE (x_then ?_)))
  refine c_seq ?_
  refine c_seq ?_
  refine c_region ?_
  refine l_rd r_assign ?_
  refine l_nil ?_
  refine x_then ?_
  refine c_block ?_
  refine c_loop0 14 [0, 3, 4, 5, 6, 7, 8, 9, 10, 11, 12, 13, 16, 17, 18, 19, 20, 21, 22, 23, 24, 25, 26, 27, 28, 29, 30, 31, 32, 33, 34, 35, 36, 37, 38, 39, 40, 41, 42, 43, 44, 45, 46, 47, 48, 49, 50, 51, 52, 53, 54, 55, 56, 57, 58, 59, 60, 61, 62, 63, 64, 65, 66, 67, 68, 69, 70, 71, 72, 73, 74, 75, 76, 77, 78, 79, 80, 81, 82, 83, 84, 85, 86, 87, 88, 89, 90, 91, 92, 93, 94, 95, 96, 97, 98, 99, 100, 101, 102, 103, 104, 105, 106, 107, 108, 109, 110, 111, 112, 113, 114, 115, 116, 117, 118, 119, 120, 121, 122, 123, 124, 125, 126, 127, 128, 129, 130, 131, 132, 133, 134, 135, 136, 137, 138, 139, 140, 141, 142, 143, 144, 145, 146, 147, 148, 149, 150, 151] (h := ?_)
  refine c_seq ?_
  refine c_seq ?_
  refine c_region ?_
  refine l_rd r_move ?_
  refine l_rd r_move ?_
  refine l_rd r_len ?_
  refine l_rd r_lss ?_
  refine l_nil ?_
  refine x_then ?_
  refine c_false rfl ?_
  refine c_exit ?_
  refine x_thenE (x_thenE (x_inE (x_then ?_)))
  refine c_seq ?_
  refine c_region ?_
  refine l_rd r_assign ?_
  refine l_nil ?_
  refine x_then ?_
  refine c_ret ?_
  refine k_ret [] _ (.cons (.tmp rfl) .nil) (h := ?_)
  exact ⟨rfl, rfl⟩
theorem flatTotals0 : CSpec Tryz.prog 73 [.one (.sl 0 none 0 0)] [] [] fun o L => o = .ret (vb true) ∧ L = [] := by
  refine k_enter Tryz.func73 rfl rfl (h := fun w0 => ?_)
  refine c_seq ?_
  refine c_region ?_
  refine l_rd r_assign ?_
  refine l_nil ?_
  refine x_then ?_
  refine c_seq ?_
  refine c_seq ?_
  refine c_region ?_
  refine l_rd r_assign ?_
  refine l_nil ?_
  refine x_then ?_
  refine c_block ?_
  refine c_loop0 3 [0, 5, 6, 7, 8, 9, 10, 11, 12, 13, 14, 15, 40, 41, 42, 43, 44, 45, 46, 47, 48, 49, 50, 51, 52, 53, 54, 55, 56, 57, 58, 59, 60, 61, 62, 63, 64, 65, 66, 67, 68, 69, 70, 71, 72, 73, 74, 75, 76, 77, 78, 79, 80, 81, 82, 83, 84, 85, 86, 87, 88, 89, 90, 91, 92, 93, 94, 95, 96, 97, 98, 99, 100, 101, 102, 103, 104, 105, 106, 107, 108, 109, 110, 111, 112, 113, 114, 115, 116, 117, 118, 119, 120, 121, 122, 123, 124, 125, 126, 127, 128, 129, 130, 131, 132, 133, 134, 135, 136, 137, 138, 139, 140, 141, 142, 143, 144, 145, 146, 147, 148, 149, 150, 151, 152, 153, 154, 155, 156, 157, 158, 159, 160, 161, 162, 163, 164, 165, 166, 167, 168, 169, 170, 171, 172, 173, 174, 175, 176, 177, 178, 179, 180, 181, 182, 183, 184, 185, 186, 187, 188, 189, 190, 191, 192] (h := ?_)
  refine c_seq ?_
  refine c_seq ?_
  refine c_region ?_
  refine l_rd r_move ?_
  refine l_rd r_move ?_
  refine l_rd r_len ?_
  refine l_rd r_lss ?_
  refine l_nil ?_
  refine x_then ?_
  refine c_false rfl ?_
  refine c_exit ?_
  refine x_thenE (x_thenE (x_inE (x_then ?_)))
  refine c_seq ?_
  refine c_region ?_
  refine l_rd r_move ?_
  refine l_rd r_len ?_
  refine l_do d_make0 (fun g42 => ?_)
  refine l_rd r_assign ?_
  refine l_nil ?_
  refine x_then ?_
  refine c_seq ?_
  refine c_seq ?_
  refine c_region ?_
  refine l_rd r_assign ?_
  refine l_nil ?_
  refine x_then ?_
  refine c_block ?_
  refine c_loop0 6 [0, 3, 4, 5, 9, 10, 11, 12, 13, 14, 15, 16, 17, 18, 19, 20, 21, 22, 23, 24, 25, 26, 27, 28, 29, 30, 31, 32, 33, 34, 35, 36, 37, 38, 39, 40, 41, 42, 73, 74, 75, 76, 77, 78, 79, 80, 81, 82, 83, 84, 85, 86, 87, 88, 89, 90, 91, 92, 93, 94, 95, 96, 97, 98, 99, 100, 101, 102, 103, 104, 105, 106, 107, 108, 109, 110, 111, 112, 113, 114, 115, 116, 117, 118, 119, 120, 121, 122, 123, 124, 125, 126, 127, 128, 129, 130, 131, 132, 133, 134, 135, 136, 137, 138, 139, 140, 141, 142, 143, 144, 145, 146, 147, 148, 149, 150, 151, 152, 153, 154, 155, 156, 157, 158, 159, 160, 161, 162, 163, 164, 165, 166, 167, 168, 169, 170, 171, 172, 173, 174, 175, 176, 177, 178, 179, 180, 181, 182, 183, 184, 185, 186, 187, 188, 189, 190, 191, 192] (h := ?_)
  refine c_seq ?_
  refine c_seq ?_
  refine c_region ?_
  refine l_rd r_move ?_
  refine l_rd r_move ?_
  refine l_rd r_len ?_
  refine l_rd r_lss ?_
  refine l_nil ?_
  refine x_then ?_
  refine c_false rfl ?_
  refine c_exit ?_
  refine x_thenE (x_thenE (x_inE (x_then ?_)))
  refine c_seq ?_
  refine c_seq ?_
  refine c_region ?_
  refine l_rd r_assign ?_
  refine l_nil ?_
  refine x_then ?_
  refine c_block ?_
  refine c_loop0 9 [0, 3, 4, 5, 6, 7, 8, 11, 12, 13, 14, 15, 16, 17, 18, 19, 20, 21, 22, 23, 24, 25, 26, 27, 28, 29, 30, 31, 32, 33, 34, 35, 36, 37, 38, 39, 40, 41, 42, 43, 44, 45, 46, 47, 48, 49, 50, 51, 52, 53, 54, 55, 56, 57, 58, 59, 60, 61, 62, 63, 64, 65, 66, 67, 68, 69, 70, 71, 72, 123, 124, 125, 126, 127, 128, 129, 130, 131, 132, 133, 134, 135, 136, 137, 138, 139, 140, 141, 142, 143, 144, 145, 146, 147, 148, 149, 150, 151, 152, 153, 154, 155, 156, 157, 158, 159, 160, 161, 162, 163, 164, 165, 166, 167, 168, 169, 170, 171, 172, 173, 174, 175, 176, 177, 178, 179, 180, 181, 182, 183, 184, 185, 186, 187, 188, 189, 190, 191, 192] (h := ?_)
  refine c_seq ?_
  refine c_seq ?_
  refine c_region ?_
  refine l_rd r_move ?_
  refine l_rd r_move ?_
  refine l_rd r_len ?_
  refine l_rd r_lss ?_
  refine l_nil ?_
  refine x_then ?_
  refine c_false rfl ?_
  refine c_exit ?_
  refine x_thenE (x_thenE (x_inE (x_then ?_)))
  refine c_seq ?_
  refine c_seq ?_
  refine c_region ?_
  refine l_rd r_assign ?_
  refine l_nil ?_
  refine x_then ?_
  refine c_block ?_
  refine c_loop0 11 [0, 3, 4, 5, 6, 7, 8, 9, 10, 14, 15, 16, 17, 18, 19, 20, 21, 22, 23, 24, 25, 26, 27, 28, 29, 30, 31, 32, 33, 34, 35, 36, 37, 38, 39, 40, 41, 42, 43, 44, 45, 46, 47, 48, 49, 50, 51, 52, 53, 54, 55, 56, 57, 58, 59, 60, 61, 62, 63, 64, 65, 66, 67, 68, 69, 70, 71, 72, 73, 74, 75, 76, 77, 78, 79, 80, 81, 82, 83, 84, 85, 86, 87, 88, 89, 90, 91, 92, 93, 94, 95, 96, 97, 98, 99, 100, 101, 102, 103, 104, 105, 106, 107, 108, 109, 110, 111, 112, 113, 114, 115, 116, 117, 118, 119, 120, 121, 122, 152, 153, 154, 155, 156, 157, 158, 159, 160, 161, 162, 163, 164, 165, 166, 167, 168, 169, 170, 171, 172, 173, 174, 175, 176, 177, 178, 179, 180, 181, 182, 183, 184, 185, 186, 187, 188, 189, 190, 191, 192] (h := ?_)
  refine c_seq ?_
  refine c_seq ?_
  refine c_region ?_
  refine l_rd r_move ?_
  refine l_rd r_move ?_
  refine l_rd r_len ?_
  refine l_rd r_lss ?_
  refine l_nil ?_
  refine x_then ?_
  refine c_false rfl ?_
  refine c_exit ?_
  refine x_thenE (x_thenE (x_inE (x_then ?_)))
  refine c_seq ?_
  refine c_seq ?_
  refine c_region ?_
  refine l_rd r_assign ?_
  refine l_nil ?_
  refine x_then ?_
  refine c_block ?_
  refine c_loop0 14 [0, 3, 4, 5, 6, 7, 8, 9, 10, 11, 12, 13, 16, 17, 18, 19, 20, 21, 22, 23, 24, 25, 26, 27, 28, 29, 30, 31, 32, 33, 34, 35, 36, 37, 38, 39, 40, 41, 42, 43, 44, 45, 46, 47, 48, 49, 50, 51, 52, 53, 54, 55, 56, 57, 58, 59, 60, 61, 62, 63, 64, 65, 66, 67, 68, 69, 70, 71, 72, 73, 74, 75, 76, 77, 78, 79, 80, 81, 82, 83, 84, 85, 86, 87, 88, 89, 90, 91, 92, 93, 94, 95, 96, 97, 98, 99, 100, 101, 102, 103, 104, 105, 106, 107, 108, 109, 110, 111, 112, 113, 114, 115, 116, 117, 118, 119, 120, 121, 122, 123, 124, 125, 126, 127, 128, 129, 130, 131, 132, 133, 134, 135, 136, 137, 138, 139, 140, 141, 142, 143, 144, 145, 146, 147, 148, 149, 150, 151] (h := ?_)
  refine c_seq ?_
  refine c_seq ?_
  refine c_region ?_
  refine l_rd r_move ?_
  refine l_rd r_move ?_
  refine l_rd r_len ?_
  refine l_rd r_lss ?_
  refine l_nil ?_
  refine x_then ?_
  refine c_false rfl ?_
  refine c_exit ?_
  refine x_thenE (x_thenE (x_inE (x_then ?_)))
  refine c_seq ?_
  refine c_region ?_
  refine l_rd r_assign ?_
  refine l_nil ?_
  refine x_then ?_
  refine c_ret ?_
  refine k_ret [] _ (.cons (.tmp rfl) .nil) (h := ?_)
  exact ⟨rfl, rfl⟩
theorem flatDiffs0 : CSpec Tryz.prog 74 [.one (.sl 0 none 0 0)] [] [] fun o L => o = .ret (vb true) ∧ L = [] := by
  refine k_enter Tryz.func74 rfl rfl (h := fun w0 => ?_)
  refine c_seq ?_
  refine c_region ?_
  refine l_rd r_assign ?_
  refine l_nil ?_
  refine x_then ?_
  refine c_seq ?_
  refine c_seq ?_
  refine c_region ?_
  refine l_rd r_assign ?_
  refine l_nil ?_
  refine x_then ?_
  refine c_block ?_
  refine c_loop0 3 [0, 5, 6, 7, 8, 9, 10, 11, 12, 13, 14, 15, 40, 41, 42, 43, 44, 45, 46, 47, 48, 49, 50, 51, 52, 53, 54, 55, 56, 57, 58, 59, 60, 61, 62, 63, 64, 65, 66, 67, 68, 69, 70, 71, 72, 73, 74, 75, 76, 77, 78, 79, 80, 81, 82, 83, 84, 85, 86, 87, 88, 89, 90, 91, 92, 93, 94, 95, 96, 97, 98, 99, 100, 101, 102, 103, 104, 105, 106, 107, 108, 109, 110, 111, 112, 113, 114, 115, 116, 117, 118, 119, 120, 121, 122, 123, 124, 125, 126, 127, 128, 129, 130, 131, 132, 133, 134, 135, 136, 137, 138, 139, 140, 141, 142, 143, 144, 145, 146, 147, 148, 149, 150, 151, 152, 153, 154, 155, 156, 157, 158, 159, 160, 161, 162, 163, 164, 165, 166, 167, 168, 169, 170, 171, 172, 173, 174, 175, 176, 177, 178, 179, 180, 181, 182, 183, 184, 185, 186, 187, 188, 189, 190, 191, 192] (h := ?_)
  refine c_seq ?_
  refine c_seq ?_
  refine c_region ?_
  refine l_rd r_move ?_
  refine l_rd r_move ?_
  refine l_rd r_len ?_
  refine l_rd r_lss ?_
  refine l_nil ?_
  refine x_then ?_
  refine c_false rfl ?_
  refine c_exit ?_
  refine x_thenE (x_thenE (x_inE (x_then ?_)))
  refine c_seq ?_
  refine c_region ?_
  refine l_rd r_move ?_
  refine l_rd r_len ?_
  refine l_do d_make0 (fun g42 => ?_)
  refine l_rd r_assign ?_
  refine l_nil ?_
  refine x_then ?_
  refine c_seq ?_
  refine c_seq ?_
  refine c_region ?_
  refine l_rd r_assign ?_
  refine l_nil ?_
  refine x_then ?_
  refine c_block ?_
  refine c_loop0 6 [0, 3, 4, 5, 9, 10, 11, 12, 13, 14, 15, 16, 17, 18, 19, 20, 21, 22, 23, 24, 25, 26, 27, 28, 29, 30, 31, 32, 33, 34, 35, 36, 37, 38, 39, 40, 41, 42, 73, 74, 75, 76, 77, 78, 79, 80, 81, 82, 83, 84, 85, 86, 87, 88, 89, 90, 91, 92, 93, 94, 95, 96, 97, 98, 99, 100, 101, 102, 103, 104, 105, 106, 107, 108, 109, 110, 111, 112, 113, 114, 115, 116, 117, 118, 119, 120, 121, 122, 123, 124, 125, 126, 127, 128, 129, 130, 131, 132, 133, 134, 135, 136, 137, 138, 139, 140, 141, 142, 143, 144, 145, 146, 147, 148, 149, 150, 151, 152, 153, 154, 155, 156, 157, 158, 159, 160, 161, 162, 163, 164, 165, 166, 167, 168, 169, 170, 171, 172, 173, 174, 175, 176, 177, 178, 179, 180, 181, 182, 183, 184, 185, 186, 187, 188, 189, 190, 191, 192] (h := ?_)
  refine c_seq ?_
  refine c_seq ?_
  refine c_region ?_
  refine l_rd r_move ?_
  refine l_rd r_move ?_
  refine l_rd r_len ?_
  refine l_rd r_lss ?_
  refine l_nil ?_
  refine x_then ?_
  refine c_false rfl ?_
  refine c_exit ?_
  refine x_thenE (x_thenE (x_inE (x_then ?_)))
  refine c_seq ?_
  refine c_seq ?_
  refine c_region ?_
  refine l_rd r_assign ?_
  refine l_nil ?_
  refine x_then ?_
  refine c_block ?_
  refine c_loop0 9 [0, 3, 4, 5, 6, 7, 8, 11, 12, 13, 14, 15, 16, 17, 18, 19, 20, 21, 22, 23, 24, 25, 26, 27, 28, 29, 30, 31, 32, 33, 34, 35, 36, 37, 38, 39, 40, 41, 42, 43, 44, 45, 46, 47, 48, 49, 50, 51, 52, 53, 54, 55, 56, 57, 58, 59, 60, 61, 62, 63, 64, 65, 66, 67, 68, 69, 70, 71, 72, 123, 124, 125, 126, 127, 128, 129, 130, 131, 132, 133, 134, 135, 136, 137, 138, 139, 140, 141, 142, 143, 144, 145, 146, 147, 148, 149, 150, 151, 152, 153, 154, 155, 156, 157, 158, 159, 160, 161, 162, 163, 164, 165, 166, 167, 168, 169, 170, 171, 172, 173, 174, 175, 176, 177, 178, 179, 180, 181, 182, 183, 184, 185, 186, 187, 188, 189, 190, 191, 192] (h := ?_)
  refine c_seq ?_
  refine c_seq ?_
  refine c_region ?_
  refine l_rd r_move ?_
  refine l_rd r_move ?_
  refine l_rd r_len ?_
  refine l_rd r_lss ?_
  refine l_nil ?_
  refine x_then ?_
  refine c_false rfl ?_
  refine c_exit ?_
  refine x_thenE (x_thenE (x_inE (x_then ?_)))
  refine c_seq ?_
  refine c_seq ?_
  refine c_region ?_
  refine l_rd r_assign ?_
  refine l_nil ?_
  refine x_then ?_
  refine c_block ?_
  refine c_loop0 11 [0, 3, 4, 5, 6, 7, 8, 9, 10, 14, 15, 16, 17, 18, 19, 20, 21, 22, 23, 24, 25, 26, 27, 28, 29, 30, 31, 32, 33, 34, 35, 36, 37, 38, 39, 40, 41, 42, 43, 44, 45, 46, 47, 48, 49, 50, 51, 52, 53, 54, 55, 56, 57, 58, 59, 60, 61, 62, 63, 64, 65, 66, 67, 68, 69, 70, 71, 72, 73, 74, 75, 76, 77, 78, 79, 80, 81, 82, 83, 84, 85, 86, 87, 88, 89, 90, 91, 92, 93, 94, 95, 96, 97, 98, 99, 100, 101, 102, 103, 104, 105, 106, 107, 108, 109, 110, 111, 112, 113, 114, 115, 116, 117, 118, 119, 120, 121, 122, 152, 153, 154, 155, 156, 157, 158, 159, 160, 161, 162, 163, 164, 165, 166, 167, 168, 169, 170, 171, 172, 173, 174, 175, 176, 177, 178, 179, 180, 181, 182, 183, 184, 185, 186, 187, 188, 189, 190, 191, 192] (h := ?_)
  refine c_seq ?_
  refine c_seq ?_
  refine c_region ?_
  refine l_rd r_move ?_
  refine l_rd r_move ?_
  refine l_rd r_len ?_
  refine l_rd r_lss ?_
  refine l_nil ?_
  refine x_then ?_
  refine c_false rfl ?_
  refine c_exit ?_
  refine x_thenE (x_thenE (x_inE (x_then ?_)))
  refine c_seq ?_
  refine c_seq ?_
  refine c_region ?_
  refine l_rd r_assign ?_
  refine l_nil ?_
  refine x_then ?_
  refine c_block ?_
  refine c_loop0 14 [0, 3, 4, 5, 6, 7, 8, 9, 10, 11, 12, 13, 16, 17, 18, 19, 20, 21, 22, 23, 24, 25, 26, 27, 28, 29, 30, 31, 32, 33, 34, 35, 36, 37, 38, 39, 40, 41, 42, 43, 44, 45, 46, 47, 48, 49, 50, 51, 52, 53, 54, 55, 56, 57, 58, 59, 60, 61, 62, 63, 64, 65, 66, 67, 68, 69, 70, 71, 72, 73, 74, 75, 76, 77, 78, 79, 80, 81, 82, 83, 84, 85, 86, 87, 88, 89, 90, 91, 92, 93, 94, 95, 96, 97, 98, 99, 100, 101, 102, 103, 104, 105, 106, 107, 108, 109, 110, 111, 112, 113, 114, 115, 116, 117, 118, 119, 120, 121, 122, 123, 124, 125, 126, 127, 128, 129, 130, 131, 132, 133, 134, 135, 136, 137, 138, 139, 140, 141, 142, 143, 144, 145, 146, 147, 148, 149, 150, 151] (h := ?_)
  refine c_seq ?_
  refine c_seq ?_
  refine c_region ?_
  refine l_rd r_move ?_
  refine l_rd r_move ?_
  refine l_rd r_len ?_
  refine l_rd r_lss ?_
  refine l_nil ?_
  refine x_then ?_
  refine c_false rfl ?_
  refine c_exit ?_
  refine x_thenE (x_thenE (x_inE (x_then ?_)))
  refine c_seq ?_
  refine c_region ?_
  refine l_rd r_assign ?_
  refine l_nil ?_
  refine x_then ?_
  refine c_ret ?_
  refine k_ret [] _ (.cons (.tmp rfl) .nil) (h := ?_)
  exact ⟨rfl, rfl⟩
theorem flatStoredRows0 : CSpec Tryz.prog 75 [.one (.sl 0 none 0 0)] [] [] fun o L => o = .ret (vb true) ∧ L = [] := by
  refine k_enter Tryz.func75 rfl rfl (h := fun w0 => ?_)
  refine c_seq ?_
  refine c_region ?_
  refine l_rd r_assign ?_
  refine l_nil ?_
  refine x_then ?_
  refine c_seq ?_
  refine c_seq ?_
  refine c_region ?_
  refine l_rd r_assign ?_
  refine l_nil ?_
  refine x_then ?_
  refine c_block ?_
  refine c_loop0 3 [0, 5, 6, 7, 8, 9, 10, 11, 12, 13, 14, 15, 40, 41, 42, 43, 44, 45, 46, 47, 48, 49, 50, 51, 52, 53, 54, 55, 56, 57, 58, 59, 60, 61, 62, 63, 64, 65, 66, 67, 68, 69, 70, 71, 72, 73, 74, 75, 76, 77, 78, 79, 80, 81, 82, 83, 84, 85, 86, 87, 88, 89, 90, 91, 92, 93, 94, 95, 96, 97, 98, 99, 100, 101, 102, 103, 104, 105, 106, 107, 108, 109, 110, 111, 112, 113, 114, 115, 116, 117, 118, 119, 120, 121, 122, 123, 124, 125, 126, 127, 128, 129, 130, 131, 132, 133, 134, 135, 136, 137, 138, 139, 140, 141, 142, 143, 144, 145, 146, 147, 148, 149, 150, 151, 152, 153, 154, 155, 156, 157, 158, 159, 160, 161, 162, 163, 164, 165, 166, 167, 168, 169, 170, 171, 172, 173, 174, 175, 176, 177, 178, 179, 180, 181, 182, 183, 184, 185, 186, 187, 188, 189, 190, 191, 192] (h := ?_)
  refine c_seq ?_
  refine c_seq ?_
  refine c_region ?_
  refine l_rd r_move ?_
  refine l_rd r_move ?_
  refine l_rd r_len ?_
  refine l_rd r_lss ?_
  refine l_nil ?_
  refine x_then ?_
  refine c_false rfl ?_
  refine c_exit ?_
  refine x_thenE (x_thenE (x_inE (x_then ?_)))
  refine c_seq ?_
  refine c_region ?_
  refine l_rd r_move ?_
  refine l_rd r_len ?_
  refine l_do d_make0 (fun g42 => ?_)
  refine l_rd r_assign ?_
  refine l_nil ?_
  refine x_then ?_
  refine c_seq ?_
  refine c_seq ?_
  refine c_region ?_
  refine l_rd r_assign ?_
  refine l_nil ?_
  refine x_then ?_
  refine c_block ?_
  refine c_loop0 6 [0, 3, 4, 5, 9, 10, 11, 12, 13, 14, 15, 16, 17, 18, 19, 20, 21, 22, 23, 24, 25, 26, 27, 28, 29, 30, 31, 32, 33, 34, 35, 36, 37, 38, 39, 40, 41, 42, 73, 74, 75, 76, 77, 78, 79, 80, 81, 82, 83, 84, 85, 86, 87, 88, 89, 90, 91, 92, 93, 94, 95, 96, 97, 98, 99, 100, 101, 102, 103, 104, 105, 106, 107, 108, 109, 110, 111, 112, 113, 114, 115, 116, 117, 118, 119, 120, 121, 122, 123, 124, 125, 126, 127, 128, 129, 130, 131, 132, 133, 134, 135, 136, 137, 138, 139, 140, 141, 142, 143, 144, 145, 146, 147, 148, 149, 150, 151, 152, 153, 154, 155, 156, 157, 158, 159, 160, 161, 162, 163, 164, 165, 166, 167, 168, 169, 170, 171, 172, 173, 174, 175, 176, 177, 178, 179, 180, 181, 182, 183, 184, 185, 186, 187, 188, 189, 190, 191, 192] (h := ?_)
  refine c_seq ?_
  refine c_seq ?_
  refine c_region ?_
  refine l_rd r_move ?_
  refine l_rd r_move ?_
  refine l_rd r_len ?_
  refine l_rd r_lss ?_
  refine l_nil ?_
  refine x_then ?_
  refine c_false rfl ?_
  refine c_exit ?_
  refine x_thenE (x_thenE (x_inE (x_then ?_)))
  refine c_seq ?_
  refine c_seq ?_
  refine c_region ?_
  refine l_rd r_assign ?_
  refine l_nil ?_
  refine x_then ?_
  refine c_block ?_
  refine c_loop0 9 [0, 3, 4, 5, 6, 7, 8, 11, 12, 13, 14, 15, 16, 17, 18, 19, 20, 21, 22, 23, 24, 25, 26, 27, 28, 29, 30, 31, 32, 33, 34, 35, 36, 37, 38, 39, 40, 41, 42, 43, 44, 45, 46, 47, 48, 49, 50, 51, 52, 53, 54, 55, 56, 57, 58, 59, 60, 61, 62, 63, 64, 65, 66, 67, 68, 69, 70, 71, 72, 123, 124, 125, 126, 127, 128, 129, 130, 131, 132, 133, 134, 135, 136, 137, 138, 139, 140, 141, 142, 143, 144, 145, 146, 147, 148, 149, 150, 151, 152, 153, 154, 155, 156, 157, 158, 159, 160, 161, 162, 163, 164, 165, 166, 167, 168, 169, 170, 171, 172, 173, 174, 175, 176, 177, 178, 179, 180, 181, 182, 183, 184, 185, 186, 187, 188, 189, 190, 191, 192] (h := ?_)
  refine c_seq ?_
  refine c_seq ?_
  refine c_region ?_
  refine l_rd r_move ?_
  refine l_rd r_move ?_
  refine l_rd r_len ?_
  refine l_rd r_lss ?_
  refine l_nil ?_
  refine x_then ?_
  refine c_false rfl ?_
  refine c_exit ?_
  refine x_thenE (x_thenE (x_inE (x_then ?_)))
  refine c_seq ?_
  refine c_seq ?_
  refine c_region ?_
  refine l_rd r_assign ?_
  refine l_nil ?_
  refine x_then ?_
  refine c_block ?_
  refine c_loop0 11 [0, 3, 4, 5, 6, 7, 8, 9, 10, 14, 15, 16, 17, 18, 19, 20, 21, 22, 23, 24, 25, 26, 27, 28, 29, 30, 31, 32, 33, 34, 35, 36, 37, 38, 39, 40, 41, 42, 43, 44, 45, 46, 47, 48, 49, 50, 51, 52, 53, 54, 55, 56, 57, 58, 59, 60, 61, 62, 63, 64, 65, 66, 67, 68, 69, 70, 71, 72, 73, 74, 75, 76, 77, 78, 79, 80, 81, 82, 83, 84, 85, 86, 87, 88, 89, 90, 91, 92, 93, 94, 95, 96, 97, 98, 99, 100, 101, 102, 103, 104, 105, 106, 107, 108, 109, 110, 111, 112, 113, 114, 115, 116, 117, 118, 119, 120, 121, 122, 152, 153, 154, 155, 156, 157, 158, 159, 160, 161, 162, 163, 164, 165, 166, 167, 168, 169, 170, 171, 172, 173, 174, 175, 176, 177, 178, 179, 180, 181, 182, 183, 184, 185, 186, 187, 188, 189, 190, 191, 192] (h := ?_)
  refine c_seq ?_
  refine c_seq ?_
  refine c_region ?_
  refine l_rd r_move ?_
  refine l_rd r_move ?_
  refine l_rd r_len ?_
  refine l_rd r_lss ?_
  refine l_nil ?_
  refine x_then ?_
  refine c_false rfl ?_
  refine c_exit ?_
  refine x_thenE (x_thenE (x_inE (x_then ?_)))
  refine c_seq ?_
  refine c_seq ?_
  refine c_region ?_
  refine l_rd r_assign ?_
  refine l_nil ?_
  refine x_then ?_
  refine c_block ?_
  refine c_loop0 14 [0, 3, 4, 5, 6, 7, 8, 9, 10, 11, 12, 13, 16, 17, 18, 19, 20, 21, 22, 23, 24, 25, 26, 27, 28, 29, 30, 31, 32, 33, 34, 35, 36, 37, 38, 39, 40, 41, 42, 43, 44, 45, 46, 47, 48, 49, 50, 51, 52, 53, 54, 55, 56, 57, 58, 59, 60, 61, 62, 63, 64, 65, 66, 67, 68, 69, 70, 71, 72, 73, 74, 75, 76, 77, 78, 79, 80, 81, 82, 83, 84, 85, 86, 87, 88, 89, 90, 91, 92, 93, 94, 95, 96, 97, 98, 99, 100, 101, 102, 103, 104, 105, 106, 107, 108, 109, 110, 111, 112, 113, 114, 115, 116, 117, 118, 119, 120, 121, 122, 123, 124, 125, 126, 127, 128, 129, 130, 131, 132, 133, 134, 135, 136, 137, 138, 139, 140, 141, 142, 143, 144, 145, 146, 147, 148, 149, 150, 151] (h := ?_)
  refine c_seq ?_
  refine c_seq ?_
  refine c_region ?_
  refine l_rd r_move ?_
  refine l_rd r_move ?_
  refine l_rd r_len ?_
  refine l_rd r_lss ?_
  refine l_nil ?_
  refine x_then ?_
  refine c_false rfl ?_
  refine c_exit ?_
  refine x_thenE (x_thenE (x_inE (x_then ?_)))
  refine c_seq ?_
  refine c_region ?_
  refine l_rd r_assign ?_
  refine l_nil ?_
  refine x_then ?_
  refine c_ret ?_
  refine k_ret [] _ (.cons (.tmp rfl) .nil) (h := ?_)
  exact ⟨rfl, rfl⟩
theorem flatStates0 : CSpec Tryz.prog 76 [.one (.sl 0 none 0 0)] [] [] fun o L => o = .ret (vb true) ∧ L = [] := by
  refine k_enter Tryz.func76 rfl rfl (h := fun w0 => ?_)
  refine c_seq ?_
  refine c_region ?_
  refine l_rd r_assign ?_
  refine l_nil ?_
  refine x_then ?_
  refine c_seq ?_
  refine c_seq ?_
  refine c_region ?_
  refine l_rd r_assign ?_
  refine l_nil ?_
  refine x_then ?_
  refine c_block ?_
  refine c_loop0 3 [0, 5, 6, 7, 8, 9, 10, 11, 12, 13, 14, 15, 40, 41, 42, 43, 44, 45, 46, 47, 48, 49, 50, 51, 52, 53, 54, 55, 56, 57, 58, 59, 60, 61, 62, 63, 64, 65, 66, 67, 68, 69, 70, 71, 72, 73, 74, 75, 76, 77, 78, 79, 80, 81, 82, 83, 84, 85, 86, 87, 88, 89, 90, 91, 92, 93, 94, 95, 96, 97, 98, 99, 100, 101, 102, 103, 104, 105, 106, 107, 108, 109, 110, 111, 112, 113, 114, 115, 116, 117, 118, 119, 120, 121, 122, 123, 124, 125, 126, 127, 128, 129, 130, 131, 132, 133, 134, 135, 136, 137, 138, 139, 140, 141, 142, 143, 144, 145, 146, 147, 148, 149, 150, 151, 152, 153, 154, 155, 156, 157, 158, 159, 160, 161, 162, 163, 164, 165, 166, 167, 168, 169, 170, 171, 172, 173, 174, 175, 176, 177, 178, 179, 180, 181, 182, 183, 184, 185, 186, 187, 188, 189, 190, 191, 192] (h := ?_)
  refine c_seq ?_
  refine c_seq ?_
  refine c_region ?_
  refine l_rd r_move ?_
  refine l_rd r_move ?_
  refine l_rd r_len ?_
  refine l_rd r_lss ?_
  refine l_nil ?_
  refine x_then ?_
  refine c_false rfl ?_
  refine c_exit ?_
  refine x_thenE (x_thenE (x_inE (x_then ?_)))
  refine c_seq ?_
  refine c_region ?_
  refine l_rd r_move ?_
  refine l_rd r_len ?_
  refine l_do d_make0 (fun g42 => ?_)
  refine l_rd r_assign ?_
  refine l_nil ?_
  refine x_then ?_
  refine c_seq ?_
  refine c_seq ?_
  refine c_region ?_
  refine l_rd r_assign ?_
  refine l_nil ?_
  refine x_then ?_
  refine c_block ?_
  refine c_loop0 6 [0, 3, 4, 5, 9, 10, 11, 12, 13, 14, 15, 16, 17, 18, 19, 20, 21, 22, 23, 24, 25, 26, 27, 28, 29, 30, 31, 32, 33, 34, 35, 36, 37, 38, 39, 40, 41, 42, 73, 74, 75, 76, 77, 78, 79, 80, 81, 82, 83, 84, 85, 86, 87, 88, 89, 90, 91, 92, 93, 94, 95, 96, 97, 98, 99, 100, 101, 102, 103, 104, 105, 106, 107, 108, 109, 110, 111, 112, 113, 114, 115, 116, 117, 118, 119, 120, 121, 122, 123, 124, 125, 126, 127, 128, 129, 130, 131, 132, 133, 134, 135, 136, 137, 138, 139, 140, 141, 142, 143, 144, 145, 146, 147, 148, 149, 150, 151, 152, 153, 154, 155, 156, 157, 158, 159, 160, 161, 162, 163, 164, 165, 166, 167, 168, 169, 170, 171, 172, 173, 174, 175, 176, 177, 178, 179, 180, 181, 182, 183, 184, 185, 186, 187, 188, 189, 190, 191, 192] (h := ?_)
  refine c_seq ?_
  refine c_seq ?_
  refine c_region ?_
  refine l_rd r_move ?_
  refine l_rd r_move ?_
  refine l_rd r_len ?_
  refine l_rd r_lss ?_
  refine l_nil ?_
  refine x_then ?_
  refine c_false rfl ?_
  refine c_exit ?_
  refine x_thenE (x_thenE (x_inE (x_then ?_)))
  refine c_seq ?_
  refine c_seq ?_
  refine c_region ?_
  refine l_rd r_assign ?_
  refine l_nil ?_
  refine x_then ?_
  refine c_block ?_
  refine c_loop0 9 [0, 3, 4, 5, 6, 7, 8, 11, 12, 13, 14, 15, 16, 17, 18, 19, 20, 21, 22, 23, 24, 25, 26, 27, 28, 29, 30, 31, 32, 33, 34, 35, 36, 37, 38, 39, 40, 41, 42, 43, 44, 45, 46, 47, 48, 49, 50, 51, 52, 53, 54, 55, 56, 57, 58, 59, 60, 61, 62, 63, 64, 65, 66, 67, 68, 69, 70, 71, 72, 123, 124, 125, 126, 127, 128, 129, 130, 131, 132, 133, 134, 135, 136, 137, 138, 139, 140, 141, 142, 143, 144, 145, 146, 147, 148, 149, 150, 151, 152, 153, 154, 155, 156, 157, 158, 159, 160, 161, 162, 163, 164, 165, 166, 167, 168, 169, 170, 171, 172, 173, 174, 175, 176, 177, 178, 179, 180, 181, 182, 183, 184, 185, 186, 187, 188, 189, 190, 191, 192] (h := ?_)
  refine c_seq ?_
  refine c_seq ?_
  refine c_region ?_
  refine l_rd r_move ?_
  refine l_rd r_move ?_
  refine l_rd r_len ?_
  refine l_rd r_lss ?_
  refine l_nil ?_
  refine x_then ?_
  refine c_false rfl ?_
  refine c_exit ?_
  refine x_thenE (x_thenE (x_inE (x_then ?_)))
  refine c_seq ?_
  refine c_seq ?_
  refine c_region ?_
  refine l_rd r_assign ?_
  refine l_nil ?_
  refine x_then ?_
  refine c_block ?_
  refine c_loop0 11 [0, 3, 4, 5, 6, 7, 8, 9, 10, 14, 15, 16, 17, 18, 19, 20, 21, 22, 23, 24, 25, 26, 27, 28, 29, 30, 31, 32, 33, 34, 35, 36, 37, 38, 39, 40, 41, 42, 43, 44, 45, 46, 47, 48, 49, 50, 51, 52, 53, 54, 55, 56, 57, 58, 59, 60, 61, 62, 63, 64, 65, 66, 67, 68, 69, 70, 71, 72, 73, 74, 75, 76, 77, 78, 79, 80, 81, 82, 83, 84, 85, 86, 87, 88, 89, 90, 91, 92, 93, 94, 95, 96, 97, 98, 99, 100, 101, 102, 103, 104, 105, 106, 107, 108, 109, 110, 111, 112, 113, 114, 115, 116, 117, 118, 119, 120, 121, 122, 152, 153, 154, 155, 156, 157, 158, 159, 160, 161, 162, 163, 164, 165, 166, 167, 168, 169, 170, 171, 172, 173, 174, 175, 176, 177, 178, 179, 180, 181, 182, 183, 184, 185, 186, 187, 188, 189, 190, 191, 192] (h := ?_)
  refine c_seq ?_
  refine c_seq ?_
  refine c_region ?_
  refine l_rd r_move ?_
  refine l_rd r_move ?_
  refine l_rd r_len ?_
  refine l_rd r_lss ?_
  refine l_nil ?_
  refine x_then ?_
  refine c_false rfl ?_
  refine c_exit ?_
  refine x_thenE (x_thenE (x_inE (x_then ?_)))
  refine c_seq ?_
  refine c_seq ?_
  refine c_region ?_
  refine l_rd r_assign ?_
  refine l_nil ?_
  refine x_then ?_
  refine c_block ?_
  refine c_loop0 14 [0, 3, 4, 5, 6, 7, 8, 9, 10, 11, 12, 13, 16, 17, 18, 19, 20, 21, 22, 23, 24, 25, 26, 27, 28, 29, 30, 31, 32, 33, 34, 35, 36, 37, 38, 39, 40, 41, 42, 43, 44, 45, 46, 47, 48, 49, 50, 51, 52, 53, 54, 55, 56, 57, 58, 59, 60, 61, 62, 63, 64, 65, 66, 67, 68, 69, 70, 71, 72, 73, 74, 75, 76, 77, 78, 79, 80, 81, 82, 83, 84, 85, 86, 87, 88, 89, 90, 91, 92, 93, 94, 95, 96, 97, 98, 99, 100, 101, 102, 103, 104, 105, 106, 107, 108, 109, 110, 111, 112, 113, 114, 115, 116, 117, 118, 119, 120, 121, 122, 123, 124, 125, 126, 127, 128, 129, 130, 131, 132, 133, 134, 135, 136, 137, 138, 139, 140, 141, 142, 143, 144, 145, 146, 147, 148, 149, 150, 151] (h := ?_)
  refine c_seq ?_
  refine c_seq ?_
  refine c_region ?_
  refine l_rd r_move ?_
  refine l_rd r_move ?_
  refine l_rd r_len ?_
  refine l_rd r_lss ?_
  refine l_nil ?_
  refine x_then ?_
  refine c_false rfl ?_
  refine c_exit ?_
  refine x_thenE (x_thenE (x_inE (x_then ?_)))
  refine c_seq ?_
  refine c_region ?_
  refine l_rd r_assign ?_
  refine l_nil ?_
  refine x_then ?_
  refine c_ret ?_
  refine k_ret [] _ (.cons (.tmp rfl) .nil) (h := ?_)
  exact ⟨rfl, rfl⟩
theorem flatAsks0 : CSpec Tryz.prog 77 [.one (.sl 0 none 0 0)] [] [] fun o L => o = .ret (vb true) ∧ L = [] := by
  refine k_enter Tryz.func77 rfl rfl (h := fun w0 => ?_)
  refine c_seq ?_
  refine c_region ?_
  refine l_rd r_assign ?_
  refine l_nil ?_
  refine x_then ?_
  refine c_seq ?_
  refine c_seq ?_
  refine c_region ?_
  refine l_rd r_assign ?_
  refine l_nil ?_
  refine x_then ?_
  refine c_block ?_
  refine c_loop0 3 [0, 5, 6, 7, 8, 9, 10, 11, 12, 13, 14, 15, 40, 41, 42, 43, 44, 45, 46, 47, 48, 49, 50, 51, 52, 53, 54, 55, 56, 57, 58, 59, 60, 61, 62, 63, 64, 65, 66, 67, 68, 69, 70, 71, 72, 73, 74, 75, 76, 77, 78, 79, 80, 81, 82, 83, 84, 85, 86, 87, 88, 89, 90, 91, 92, 93, 94, 95, 96, 97, 98, 99, 100, 101, 102, 103, 104, 105, 106, 107, 108, 109, 110, 111, 112, 113, 114, 115, 116, 117, 118, 119, 120, 121, 122, 123, 124, 125, 126, 127, 128, 129, 130, 131, 132, 133, 134, 135, 136, 137, 138, 139, 140, 141, 142, 143, 144, 145, 146, 147, 148, 149, 150, 151, 152, 153, 154, 155, 156, 157, 158, 159, 160, 161, 162, 163, 164, 165, 166, 167, 168, 169, 170, 171, 172, 173, 174, 175, 176, 177, 178, 179, 180, 181, 182, 183, 184, 185, 186, 187, 188, 189, 190, 191, 192] (h := ?_)
  refine c_seq ?_
  refine c_seq ?_
  refine c_region ?_
  refine l_rd r_move ?_
  refine l_rd r_move ?_
  refine l_rd r_len ?_
  refine l_rd r_lss ?_
  refine l_nil ?_
  refine x_then ?_
  refine c_false rfl ?_
  refine c_exit ?_
  refine x_thenE (x_thenE (x_inE (x_then ?_)))
  refine c_seq ?_
  refine c_region ?_
  refine l_rd r_move ?_
  refine l_rd r_len ?_
  refine l_do d_make0 (fun g42 => ?_)
  refine l_rd r_assign ?_
  refine l_nil ?_
  refine x_then ?_
  refine c_seq ?_
  refine c_seq ?_
  refine c_region ?_
  refine l_rd r_assign ?_
  refine l_nil ?_
  refine x_then ?_
  refine c_block ?_
  refine c_loop0 6 [0, 3, 4, 5, 9, 10, 11, 12, 13, 14, 15, 16, 17, 18, 19, 20, 21, 22, 23, 24, 25, 26, 27, 28, 29, 30, 31, 32, 33, 34, 35, 36, 37, 38, 39, 40, 41, 42, 73, 74, 75, 76, 77, 78, 79, 80, 81, 82, 83, 84, 85, 86, 87, 88, 89, 90, 91, 92, 93, 94, 95, 96, 97, 98, 99, 100, 101, 102, 103, 104, 105, 106, 107, 108, 109, 110, 111, 112, 113, 114, 115, 116, 117, 118, 119, 120, 121, 122, 123, 124, 125, 126, 127, 128, 129, 130, 131, 132, 133, 134, 135, 136, 137, 138, 139, 140, 141, 142, 143, 144, 145, 146, 147, 148, 149, 150, 151, 152, 153, 154, 155, 156, 157, 158, 159, 160, 161, 162, 163, 164, 165, 166, 167, 168, 169, 170, 171, 172, 173, 174, 175, 176, 177, 178, 179, 180, 181, 182, 183, 184, 185, 186, 187, 188, 189, 190, 191, 192] (h := ?_)
  refine c_seq ?_
  refine c_seq ?_
  refine c_region ?_
  refine l_rd r_move ?_
  refine l_rd r_move ?_
  refine l_rd r_len ?_
  refine l_rd r_lss ?_
  refine l_nil ?_
  refine x_then ?_
  refine c_false rfl ?_
  refine c_exit ?_
  refine x_thenE (x_thenE (x_inE (x_then ?_)))
  refine c_seq ?_
  refine c_seq ?_
  refine c_region ?_
  refine l_rd r_assign ?_
  refine l_nil ?_
  refine x_then ?_
  refine c_block ?_
  refine c_loop0 9 [0, 3, 4, 5, 6, 7, 8, 11, 12, 13, 14, 15, 16, 17, 18, 19, 20, 21, 22, 23, 24, 25, 26, 27, 28, 29, 30, 31, 32, 33, 34, 35, 36, 37, 38, 39, 40, 41, 42, 43, 44, 45, 46, 47, 48, 49, 50, 51, 52, 53, 54, 55, 56, 57, 58, 59, 60, 61, 62, 63, 64, 65, 66, 67, 68, 69, 70, 71, 72, 123, 124, 125, 126, 127, 128, 129, 130, 131, 132, 133, 134, 135, 136, 137, 138, 139, 140, 141, 142, 143, 144, 145, 146, 147, 148, 149, 150, 151, 152, 153, 154, 155, 156, 157, 158, 159, 160, 161, 162, 163, 164, 165, 166, 167, 168, 169, 170, 171, 172, 173, 174, 175, 176, 177, 178, 179, 180, 181, 182, 183, 184, 185, 186, 187, 188, 189, 190, 191, 192] (h := ?_)
  refine c_seq ?_
  refine c_seq ?_
  refine c_region ?_
  refine l_rd r_move ?_
  refine l_rd r_move ?_
  refine l_rd r_len ?_
  refine l_rd r_lss ?_
  refine l_nil ?_
  refine x_then ?_
  refine c_false rfl ?_
  refine c_exit ?_
  refine x_thenE (x_thenE (x_inE (x_then ?_)))
  refine c_seq ?_
  refine c_seq ?_
  refine c_region ?_
  refine l_rd r_assign ?_
  refine l_nil ?_
  refine x_then ?_
  refine c_block ?_
  refine c_loop0 11 [0, 3, 4, 5, 6, 7, 8, 9, 10, 14, 15, 16, 17, 18, 19, 20, 21, 22, 23, 24, 25, 26, 27, 28, 29, 30, 31, 32, 33, 34, 35, 36, 37, 38, 39, 40, 41, 42, 43, 44, 45, 46, 47, 48, 49, 50, 51, 52, 53, 54, 55, 56, 57, 58, 59, 60, 61, 62, 63, 64, 65, 66, 67, 68, 69, 70, 71, 72, 73, 74, 75, 76, 77, 78, 79, 80, 81, 82, 83, 84, 85, 86, 87, 88, 89, 90, 91, 92, 93, 94, 95, 96, 97, 98, 99, 100, 101, 102, 103, 104, 105, 106, 107, 108, 109, 110, 111, 112, 113, 114, 115, 116, 117, 118, 119, 120, 121, 122, 152, 153, 154, 155, 156, 157, 158, 159, 160, 161, 162, 163, 164, 165, 166, 167, 168, 169, 170, 171, 172, 173, 174, 175, 176, 177, 178, 179, 180, 181, 182, 183, 184, 185, 186, 187, 188, 189, 190, 191, 192] (h := ?_)
  refine c_seq ?_
  refine c_seq ?_
  refine c_region ?_
  refine l_rd r_move ?_
  refine l_rd r_move ?_
  refine l_rd r_len ?_
  refine l_rd r_lss ?_
  refine l_nil ?_
  refine x_then ?_
  refine c_false rfl ?_
  refine c_exit ?_
  refine x_thenE (x_thenE (x_inE (x_then ?_)))
  refine c_seq ?_
  refine c_seq ?_
  refine c_region ?_
  refine l_rd r_assign ?_
  refine l_nil ?_
  refine x_then ?_
  refine c_block ?_
  refine c_loop0 14 [0, 3, 4, 5, 6, 7, 8, 9, 10, 11, 12, 13, 16, 17, 18, 19, 20, 21, 22, 23, 24, 25, 26, 27, 28, 29, 30, 31, 32, 33, 34, 35, 36, 37, 38, 39, 40, 41, 42, 43, 44, 45, 46, 47, 48, 49, 50, 51, 52, 53, 54, 55, 56, 57, 58, 59, 60, 61, 62, 63, 64, 65, 66, 67, 68, 69, 70, 71, 72, 73, 74, 75, 76, 77, 78, 79, 80, 81, 82, 83, 84, 85, 86, 87, 88, 89, 90, 91, 92, 93, 94, 95, 96, 97, 98, 99, 100, 101, 102, 103, 104, 105, 106, 107, 108, 109, 110, 111, 112, 113, 114, 115, 116, 117, 118, 119, 120, 121, 122, 123, 124, 125, 126, 127, 128, 129, 130, 131, 132, 133, 134, 135, 136, 137, 138, 139, 140, 141, 142, 143, 144, 145, 146, 147, 148, 149, 150, 151] (h := ?_)
  refine c_seq ?_
  refine c_seq ?_
  refine c_region ?_
  refine l_rd r_move ?_
  refine l_rd r_move ?_
  refine l_rd r_len ?_
  refine l_rd r_lss ?_
  refine l_nil ?_
  refine x_then ?_
  refine c_false rfl ?_
  refine c_exit ?_
  refine x_thenE (x_thenE (x_inE (x_then ?_)))
  refine c_seq ?_
  refine c_region ?_
  refine l_rd r_assign ?_
  refine l_nil ?_
  refine x_then ?_
  refine c_ret ?_
  refine k_ret [] _ (.cons (.tmp rfl) .nil) (h := ?_)
  exact ⟨rfl, rfl⟩
theorem flatTellRows0 : CSpec Tryz.prog 78 [.one (.sl 0 none 0 0)] [] [] fun o L => o = .ret (vb true) ∧ L = [] := by
  refine k_enter Tryz.func78 rfl rfl (h := fun w0 => ?_)
  refine c_seq ?_
  refine c_region ?_
  refine l_rd r_assign ?_
  refine l_nil ?_
  refine x_then ?_
  refine c_seq ?_
  refine c_seq ?_
  refine c_region ?_
  refine l_rd r_assign ?_
  refine l_nil ?_
  refine x_then ?_
  refine c_block ?_
  refine c_loop0 3 [0, 5, 6, 7, 8, 9, 10, 11, 12, 13, 14, 15, 40, 41, 42, 43, 44, 45, 46, 47, 48, 49, 50, 51, 52, 53, 54, 55, 56, 57, 58, 59, 60, 61, 62, 63, 64, 65, 66, 67, 68, 69, 70, 71, 72, 73, 74, 75, 76, 77, 78, 79, 80, 81, 82, 83, 84, 85, 86, 87, 88, 89, 90, 91, 92, 93, 94, 95, 96, 97, 98, 99, 100, 101, 102, 103, 104, 105, 106, 107, 108, 109, 110, 111, 112, 113, 114, 115, 116, 117, 118, 119, 120, 121, 122, 123, 124, 125, 126, 127, 128, 129, 130, 131, 132, 133, 134, 135, 136, 137, 138, 139, 140, 141, 142, 143, 144, 145, 146, 147, 148, 149, 150, 151, 152, 153, 154, 155, 156, 157, 158, 159, 160, 161, 162, 163, 164, 165, 166, 167, 168, 169, 170, 171, 172, 173, 174, 175, 176, 177, 178, 179, 180, 181, 182, 183, 184, 185, 186, 187, 188, 189, 190, 191, 192] (h := ?_)
  refine c_seq ?_
  refine c_seq ?_
  refine c_region ?_
  refine l_rd r_move ?_
  refine l_rd r_move ?_
  refine l_rd r_len ?_
  refine l_rd r_lss ?_
  refine l_nil ?_
  refine x_then ?_
  refine c_false rfl ?_
  refine c_exit ?_
  refine x_thenE (x_thenE (x_inE (x_then ?_)))
  refine c_seq ?_
  refine c_region ?_
  refine l_rd r_move ?_
  refine l_rd r_len ?_
  refine l_do d_make0 (fun g42 => ?_)
  refine l_rd r_assign ?_
  refine l_nil ?_
  refine x_then ?_
  refine c_seq ?_
  refine c_seq ?_
  refine c_region ?_
  refine l_rd r_assign ?_
  refine l_nil ?_
  refine x_then ?_
  refine c_block ?_
  refine c_loop0 6 [0, 3, 4, 5, 9, 10, 11, 12, 13, 14, 15, 16, 17, 18, 19, 20, 21, 22, 23, 24, 25, 26, 27, 28, 29, 30, 31, 32, 33, 34, 35, 36, 37, 38, 39, 40, 41, 42, 73, 74, 75, 76, 77, 78, 79, 80, 81, 82, 83, 84, 85, 86, 87, 88, 89, 90, 91, 92, 93, 94, 95, 96, 97, 98, 99, 100, 101, 102, 103, 104, 105, 106, 107, 108, 109, 110, 111, 112, 113, 114, 115, 116, 117, 118, 119, 120, 121, 122, 123, 124, 125, 126, 127, 128, 129, 130, 131, 132, 133, 134, 135, 136, 137, 138, 139, 140, 141, 142, 143, 144, 145, 146, 147, 148, 149, 150, 151, 152, 153, 154, 155, 156, 157, 158, 159, 160, 161, 162, 163, 164, 165, 166, 167, 168, 169, 170, 171, 172, 173, 174, 175, 176, 177, 178, 179, 180, 181, 182, 183, 184, 185, 186, 187, 188, 189, 190, 191, 192] (h := ?_)
  refine c_seq ?_
  refine c_seq ?_
  refine c_region ?_
  refine l_rd r_move ?_
  refine l_rd r_move ?_
  refine l_rd r_len ?_
  refine l_rd r_lss ?_
  refine l_nil ?_
  refine x_then ?_
  refine c_false rfl ?_
  refine c_exit ?_
  refine x_thenE (x_thenE (x_inE (x_then ?_)))
  refine c_seq ?_
  refine c_seq ?_
  refine c_region ?_
  refine l_rd r_assign ?_
  refine l_nil ?_
  refine x_then ?_
  refine c_block ?_
  refine c_loop0 9 [0, 3, 4, 5, 6, 7, 8, 11, 12, 13, 14, 15, 16, 17, 18, 19, 20, 21, 22, 23, 24, 25, 26, 27, 28, 29, 30, 31, 32, 33, 34, 35, 36, 37, 38, 39, 40, 41, 42, 43, 44, 45, 46, 47, 48, 49, 50, 51, 52, 53, 54, 55, 56, 57, 58, 59, 60, 61, 62, 63, 64, 65, 66, 67, 68, 69, 70, 71, 72, 123, 124, 125, 126, 127, 128, 129, 130, 131, 132, 133, 134, 135, 136, 137, 138, 139, 140, 141, 142, 143, 144, 145, 146, 147, 148, 149, 150, 151, 152, 153, 154, 155, 156, 157, 158, 159, 160, 161, 162, 163, 164, 165, 166, 167, 168, 169, 170, 171, 172, 173, 174, 175, 176, 177, 178, 179, 180, 181, 182, 183, 184, 185, 186, 187, 188, 189, 190, 191, 192] (h := ?_)
  refine c_seq ?_
  refine c_seq ?_
  refine c_region ?_
  refine l_rd r_move ?_
  refine l_rd r_move ?_
  refine l_rd r_len ?_
  refine l_rd r_lss ?_
  refine l_nil ?_
  refine x_then ?_
  refine c_false rfl ?_
  refine c_exit ?_
  refine x_thenE (x_thenE (x_inE (x_then ?_)))
  refine c_seq ?_
  refine c_seq ?_
  refine c_region ?_
  refine l_rd r_assign ?_
  refine l_nil ?_
  refine x_then ?_
  refine c_block ?_
  refine c_loop0 11 [0, 3, 4, 5, 6, 7, 8, 9, 10, 14, 15, 16, 17, 18, 19, 20, 21, 22, 23, 24, 25, 26, 27, 28, 29, 30, 31, 32, 33, 34, 35, 36, 37, 38, 39, 40, 41, 42, 43, 44, 45, 46, 47, 48, 49, 50, 51, 52, 53, 54, 55, 56, 57, 58, 59, 60, 61, 62, 63, 64, 65, 66, 67, 68, 69, 70, 71, 72, 73, 74, 75, 76, 77, 78, 79, 80, 81, 82, 83, 84, 85, 86, 87, 88, 89, 90, 91, 92, 93, 94, 95, 96, 97, 98, 99, 100, 101, 102, 103, 104, 105, 106, 107, 108, 109, 110, 111, 112, 113, 114, 115, 116, 117, 118, 119, 120, 121, 122, 152, 153, 154, 155, 156, 157, 158, 159, 160, 161, 162, 163, 164, 165, 166, 167, 168, 169, 170, 171, 172, 173, 174, 175, 176, 177, 178, 179, 180, 181, 182, 183, 184, 185, 186, 187, 188, 189, 190, 191, 192] (h := ?_)
  refine c_seq ?_
  refine c_seq ?_
  refine c_region ?_
  refine l_rd r_move ?_
  refine l_rd r_move ?_
  refine l_rd r_len ?_
  refine l_rd r_lss ?_
  refine l_nil ?_
  refine x_then ?_
  refine c_false rfl ?_
  refine c_exit ?_
  refine x_thenE (x_thenE (x_inE (x_then ?_)))
  refine c_seq ?_
  refine c_seq ?_
  refine c_region ?_
  refine l_rd r_assign ?_
  refine l_nil ?_
  refine x_then ?_
  refine c_block ?_
  refine c_loop0 14 [0, 3, 4, 5, 6, 7, 8, 9, 10, 11, 12, 13, 16, 17, 18, 19, 20, 21, 22, 23, 24, 25, 26, 27, 28, 29, 30, 31, 32, 33, 34, 35, 36, 37, 38, 39, 40, 41, 42, 43, 44, 45, 46, 47, 48, 49, 50, 51, 52, 53, 54, 55, 56, 57, 58, 59, 60, 61, 62, 63, 64, 65, 66, 67, 68, 69, 70, 71, 72, 73, 74, 75, 76, 77, 78, 79, 80, 81, 82, 83, 84, 85, 86, 87, 88, 89, 90, 91, 92, 93, 94, 95, 96, 97, 98, 99, 100, 101, 102, 103, 104, 105, 106, 107, 108, 109, 110, 111, 112, 113, 114, 115, 116, 117, 118, 119, 120, 121, 122, 123, 124, 125, 126, 127, 128, 129, 130, 131, 132, 133, 134, 135, 136, 137, 138, 139, 140, 141, 142, 143, 144, 145, 146, 147, 148, 149, 150, 151] (h := ?_)
  refine c_seq ?_
  refine c_seq ?_
  refine c_region ?_
  refine l_rd r_move ?_
  refine l_rd r_move ?_
  refine l_rd r_len ?_
  refine l_rd r_lss ?_
  refine l_nil ?_
  refine x_then ?_
  refine c_false rfl ?_
  refine c_exit ?_
  refine x_thenE (x_thenE (x_inE (x_then ?_)))
  refine c_seq ?_
  refine c_region ?_
  refine l_rd r_assign ?_
  refine l_nil ?_
  refine x_then ?_
  refine c_ret ?_
  refine k_ret [] _ (.cons (.tmp rfl) .nil) (h := ?_)
  exact ⟨rfl, rfl⟩
end Go.Proofs.YtehhnfpfefccaaaGreat
/- Lists of hashes that lie apart: all of it. -/


set_option linter.unusedVariables false
set_option linter.unusedSimpArgs false
set_option maxRecDepth 100000
set_option maxHeartbeats 8000000
namespace Go.Proofs.YtehhnfpfefccaaaGreat
open Go Go.RowKit HL
def bagH (A : Option Addr) (c n : Nat) : List At := [.one (.sl 0 none 0 0), .one (.sl 0 none 0 0), .one (.sl 0 none 0 0), .one (.sl 0 none 0 0), .one (.sl 0 none 0 0), .one (.sl 0 none 0 0), .one (.sl 0 none 0 0), .one (.sl 101 A n c), .one (.sl 0 none 0 0), .one (.sl 0 none 0 0), .one (.sl 0 none 0 0), .one (.sl 0 none 0 0), .one (.sl 0 none 0 0), .one (.sl 0 none 0 0), .one (.sl 0 none 0 0), .one (.sl 0 none 0 0), .one (.sl 0 none 0 0), .one (.sl 0 none 0 0), .one (.sl 0 none 0 0), .one (.sl 0 none 0 0), .one (.sl 0 none 0 0), .one (.sl 0 none 0 0), .one (.sl 0 none 0 0), .one (.sl 0 none 0 0), .one (.sl 0 none 0 0), .one (.sl 0 none 0 0), .one (.sl 0 none 0 0), .one (.sl 0 none 0 0), .one (.sl 0 none 0 0)]
theorem putHashes_spec (g : Nat) (A : Option Addr) (c : Nat) (ss : List (Hd Hash)) (s : Hd Hash) (hm : ss.length ≤ 1000) : CSpec Tryz.prog 43 [.one (.ptr 0 ⟨g, 0, none⟩), .one (.sl 1 s.A s.l.length s.c)] [] [(0, Res.va g 109 (bagH A c ss.length)), (101, Res.rows A c 55 (hdEn Hash 50) ss)] fun o L =>
    ∃ A' c', o = .ret (.tup []) ∧ L = [Res.va g 109 (bagH A' c' (ss ++ [s]).length), Res.rows A' c' 55 (hdEn Hash 50) (ss ++ [s])] := by
  refine k_enter Tryz.func43 rfl rfl (h := fun w0 => ?_)
  refine c_region ?_
  refine l_rd r_move ?_
  refine l_rd r_move ?_
  first | refine l_rd r_nilCheck ?_ | refine l_rd r_nilCheckF ?_
  first | refine l_rd r_field ?_ | refine l_rd r_fieldE ?_
  first | refine l_rd r_load ?_ | refine l_rd r_loadE ?_ | refine l_rd (r_loadT (hj := by omega)) ?_
  refine l_rd r_move ?_
  refine l_do (d_bslice [s]) (fun B10 => ?_)
  refine l_do d_append (fun p11 => ?_)
  first | refine l_rd r_nilCheck ?_ | refine l_rd r_nilCheckF ?_
  first | refine l_rd r_field ?_ | refine l_rd r_fieldE ?_
  first | refine l_do1 d_store ?_ | refine l_do1 d_storeE ?_
  refine l_nil ?_
  refine k_end [0, 101] _ .nil (h := ?_)
  exact ⟨p11.1, p11.2, rfl, rfl⟩
theorem apart_spec (g : Nat) (A : Option Addr) (c : Nat) (ss : List (Hd Hash)) (hm : ss.length ≤ 1000) (hln : ∀ s ∈ ss, s.l.length ≤ 1048576) : CSpec Tryz.prog 44 [.one (.ptr 0 ⟨g, 0, none⟩)] [] [(0, Res.va g 109 (bagH A c ss.length)), (101, Res.rows A c 55 (hdEn Hash 50) ss), (50, Res.bag (ss.map (Hd.res 24 hashEn)))] fun o L =>
    o = .ret (vb true) ∧ L = [] := by
  refine k_enter Tryz.func44 rfl rfl (h := fun w0 => ?_)
  refine c_seq ?_
  refine c_region ?_
  refine l_rd r_assign ?_
  refine l_nil ?_
  refine x_then ?_
  refine c_seq ?_
  refine c_region ?_
  refine l_rd r_move ?_
  first | refine l_rd r_nilCheck ?_ | refine l_rd r_nilCheckF ?_
  first | refine l_rd r_field ?_ | refine l_rd r_fieldE ?_
  first | refine l_rd r_load ?_ | refine l_rd r_loadE ?_ | refine l_rd (r_loadT (hj := by omega)) ?_
  refine l_call 20350 [] (flatLimbs0) Tryz.func50 (h := ?_)
  rintro _ _ (⟨rfl, rfl⟩)
  refine l_rd r_move ?_
  refine l_rd r_move ?_
  first | refine l_rd r_nilCheck ?_ | refine l_rd r_nilCheckF ?_
  first | refine l_rd r_field ?_ | refine l_rd r_fieldE ?_
  first | refine l_rd r_load ?_ | refine l_rd r_loadE ?_ | refine l_rd (r_loadT (hj := by omega)) ?_
  refine l_call 20650 [] (flatWords0) Tryz.func51 (h := ?_)
  rintro _ _ (⟨rfl, rfl⟩)
  first | refine l_rd r_and ?_ | refine l_rd r_pickB ?_ | refine l_rd r_pick ?_
  refine l_rd r_move ?_
  refine l_rd r_move ?_
  first | refine l_rd r_nilCheck ?_ | refine l_rd r_nilCheckF ?_
  first | refine l_rd r_field ?_ | refine l_rd r_fieldE ?_
  first | refine l_rd r_load ?_ | refine l_rd r_loadE ?_ | refine l_rd (r_loadT (hj := by omega)) ?_
  refine l_call 21000 [] (flatInts0) Tryz.func52 (h := ?_)
  rintro _ _ (⟨rfl, rfl⟩)
  first | refine l_rd r_and ?_ | refine l_rd r_pickB ?_ | refine l_rd r_pick ?_
  refine l_rd r_move ?_
  refine l_rd r_move ?_
  first | refine l_rd r_nilCheck ?_ | refine l_rd r_nilCheckF ?_
  first | refine l_rd r_field ?_ | refine l_rd r_fieldE ?_
  first | refine l_rd r_load ?_ | refine l_rd r_loadE ?_ | refine l_rd (r_loadT (hj := by omega)) ?_
  refine l_call 21350 [] (flatLongs0) Tryz.func53 (h := ?_)
  rintro _ _ (⟨rfl, rfl⟩)
  first | refine l_rd r_and ?_ | refine l_rd r_pickB ?_ | refine l_rd r_pick ?_
  refine l_rd r_move ?_
  refine l_rd r_move ?_
  first | refine l_rd r_nilCheck ?_ | refine l_rd r_nilCheckF ?_
  first | refine l_rd r_field ?_ | refine l_rd r_fieldE ?_
  first | refine l_rd r_load ?_ | refine l_rd r_loadE ?_ | refine l_rd (r_loadT (hj := by omega)) ?_
  refine l_call 21700 [] (flatTexts0) Tryz.func54 (h := ?_)
  rintro _ _ (⟨rfl, rfl⟩)
  first | refine l_rd r_and ?_ | refine l_rd r_pickB ?_ | refine l_rd r_pick ?_
  refine l_rd r_move ?_
  refine l_rd r_move ?_
  first | refine l_rd r_nilCheck ?_ | refine l_rd r_nilCheckF ?_
  first | refine l_rd r_field ?_ | refine l_rd r_fieldE ?_
  first | refine l_rd r_load ?_ | refine l_rd r_loadE ?_ | refine l_rd (r_loadT (hj := by omega)) ?_
  refine l_call 22050 [] (flatBytes0) Tryz.func55 (h := ?_)
  rintro _ _ (⟨rfl, rfl⟩)
  first | refine l_rd r_and ?_ | refine l_rd r_pickB ?_ | refine l_rd r_pick ?_
  refine l_rd r_move ?_
  refine l_rd r_move ?_
  first | refine l_rd r_nilCheck ?_ | refine l_rd r_nilCheckF ?_
  first | refine l_rd r_field ?_ | refine l_rd r_fieldE ?_
  first | refine l_rd r_load ?_ | refine l_rd r_loadE ?_ | refine l_rd (r_loadT (hj := by omega)) ?_
  refine l_call 22400 [] (flatTruths0) Tryz.func56 (h := ?_)
  rintro _ _ (⟨rfl, rfl⟩)
  first | refine l_rd r_and ?_ | refine l_rd r_pickB ?_ | refine l_rd r_pick ?_
  refine l_rd r_move ?_
  refine l_rd r_move ?_
  first | refine l_rd r_nilCheck ?_ | refine l_rd r_nilCheckF ?_
  first | refine l_rd r_field ?_ | refine l_rd r_fieldE ?_
  first | refine l_rd r_load ?_ | refine l_rd r_loadE ?_ | refine l_rd (r_loadT (hj := by omega)) ?_
  refine l_call 22750 [(50, 50)] (flatHashes_spec A c ss hm hln) Tryz.func57 (h := ?_)
  rintro _ _ (⟨rfl, rfl⟩)
  first | refine l_rd r_and ?_ | refine l_rd r_pickB ?_ | refine l_rd r_pick ?_
  refine l_rd r_move ?_
  refine l_rd r_move ?_
  first | refine l_rd r_nilCheck ?_ | refine l_rd r_nilCheckF ?_
  first | refine l_rd r_field ?_ | refine l_rd r_fieldE ?_
  first | refine l_rd r_load ?_ | refine l_rd r_loadE ?_ | refine l_rd (r_loadT (hj := by omega)) ?_
  refine l_call 23100 [] (flatNodes0) Tryz.func58 (h := ?_)
  rintro _ _ (⟨rfl, rfl⟩)
  first | refine l_rd r_and ?_ | refine l_rd r_pickB ?_ | refine l_rd r_pick ?_
  refine l_rd r_move ?_
  refine l_rd r_move ?_
  first | refine l_rd r_nilCheck ?_ | refine l_rd r_nilCheckF ?_
  first | refine l_rd r_field ?_ | refine l_rd r_fieldE ?_
  first | refine l_rd r_load ?_ | refine l_rd r_loadE ?_ | refine l_rd (r_loadT (hj := by omega)) ?_
  refine l_call 23450 [] (flatTerms0) Tryz.func59 (h := ?_)
  rintro _ _ (⟨rfl, rfl⟩)
  first | refine l_rd r_and ?_ | refine l_rd r_pickB ?_ | refine l_rd r_pick ?_
  refine l_rd r_move ?_
  refine l_rd r_move ?_
  first | refine l_rd r_nilCheck ?_ | refine l_rd r_nilCheckF ?_
  first | refine l_rd r_field ?_ | refine l_rd r_fieldE ?_
  first | refine l_rd r_load ?_ | refine l_rd r_loadE ?_ | refine l_rd (r_loadT (hj := by omega)) ?_
  refine l_call 23800 [] (flatAssets0) Tryz.func60 (h := ?_)
  rintro _ _ (⟨rfl, rfl⟩)
  first | refine l_rd r_and ?_ | refine l_rd r_pickB ?_ | refine l_rd r_pick ?_
  refine l_rd r_move ?_
  refine l_rd r_move ?_
  first | refine l_rd r_nilCheck ?_ | refine l_rd r_nilCheckF ?_
  first | refine l_rd r_field ?_ | refine l_rd r_fieldE ?_
  first | refine l_rd r_load ?_ | refine l_rd r_loadE ?_ | refine l_rd (r_loadT (hj := by omega)) ?_
  refine l_call 24150 [] (flatValues0) Tryz.func61 (h := ?_)
  rintro _ _ (⟨rfl, rfl⟩)
  first | refine l_rd r_and ?_ | refine l_rd r_pickB ?_ | refine l_rd r_pick ?_
  refine l_rd r_move ?_
  refine l_rd r_move ?_
  first | refine l_rd r_nilCheck ?_ | refine l_rd r_nilCheckF ?_
  first | refine l_rd r_field ?_ | refine l_rd r_fieldE ?_
  first | refine l_rd r_load ?_ | refine l_rd r_loadE ?_ | refine l_rd (r_loadT (hj := by omega)) ?_
  refine l_call 24500 [] (flatOutputs0) Tryz.func62 (h := ?_)
  rintro _ _ (⟨rfl, rfl⟩)
  first | refine l_rd r_and ?_ | refine l_rd r_pickB ?_ | refine l_rd r_pick ?_
  refine l_rd r_move ?_
  refine l_rd r_move ?_
  first | refine l_rd r_nilCheck ?_ | refine l_rd r_nilCheckF ?_
  first | refine l_rd r_field ?_ | refine l_rd r_fieldE ?_
  first | refine l_rd r_load ?_ | refine l_rd r_loadE ?_ | refine l_rd (r_loadT (hj := by omega)) ?_
  refine l_call 24850 [] (flatRefs0) Tryz.func63 (h := ?_)
  rintro _ _ (⟨rfl, rfl⟩)
  first | refine l_rd r_and ?_ | refine l_rd r_pickB ?_ | refine l_rd r_pick ?_
  refine l_rd r_move ?_
  refine l_rd r_move ?_
  first | refine l_rd r_nilCheck ?_ | refine l_rd r_nilCheckF ?_
  first | refine l_rd r_field ?_ | refine l_rd r_fieldE ?_
  first | refine l_rd r_load ?_ | refine l_rd r_loadE ?_ | refine l_rd (r_loadT (hj := by omega)) ?_
  refine l_call 25200 [] (flatEntries0) Tryz.func64 (h := ?_)
  rintro _ _ (⟨rfl, rfl⟩)
  first | refine l_rd r_and ?_ | refine l_rd r_pickB ?_ | refine l_rd r_pick ?_
  refine l_rd r_move ?_
  refine l_rd r_move ?_
  first | refine l_rd r_nilCheck ?_ | refine l_rd r_nilCheckF ?_
  first | refine l_rd r_field ?_ | refine l_rd r_fieldE ?_
  first | refine l_rd r_load ?_ | refine l_rd r_loadE ?_ | refine l_rd (r_loadT (hj := by omega)) ?_
  refine l_call 25550 [] (flatInstrs0) Tryz.func65 (h := ?_)
  rintro _ _ (⟨rfl, rfl⟩)
  first | refine l_rd r_and ?_ | refine l_rd r_pickB ?_ | refine l_rd r_pick ?_
  refine l_rd r_move ?_
  refine l_rd r_move ?_
  first | refine l_rd r_nilCheck ?_ | refine l_rd r_nilCheckF ?_
  first | refine l_rd r_field ?_ | refine l_rd r_fieldE ?_
  first | refine l_rd r_load ?_ | refine l_rd r_loadE ?_ | refine l_rd (r_loadT (hj := by omega)) ?_
  refine l_call 25900 [] (flatPrograms0) Tryz.func66 (h := ?_)
  rintro _ _ (⟨rfl, rfl⟩)
  first | refine l_rd r_and ?_ | refine l_rd r_pickB ?_ | refine l_rd r_pick ?_
  refine l_rd r_move ?_
  refine l_rd r_move ?_
  first | refine l_rd r_nilCheck ?_ | refine l_rd r_nilCheckF ?_
  first | refine l_rd r_field ?_ | refine l_rd r_fieldE ?_
  first | refine l_rd r_load ?_ | refine l_rd r_loadE ?_ | refine l_rd (r_loadT (hj := by omega)) ?_
  refine l_call 26250 [] (flatRedeemers0) Tryz.func67 (h := ?_)
  rintro _ _ (⟨rfl, rfl⟩)
  first | refine l_rd r_and ?_ | refine l_rd r_pickB ?_ | refine l_rd r_pick ?_
  refine l_rd r_move ?_
  refine l_rd r_move ?_
  first | refine l_rd r_nilCheck ?_ | refine l_rd r_nilCheckF ?_
  first | refine l_rd r_field ?_ | refine l_rd r_fieldE ?_
  first | refine l_rd r_load ?_ | refine l_rd r_loadE ?_ | refine l_rd (r_loadT (hj := by omega)) ?_
  refine l_call 26600 [] (flatBodies0) Tryz.func68 (h := ?_)
  rintro _ _ (⟨rfl, rfl⟩)
  first | refine l_rd r_and ?_ | refine l_rd r_pickB ?_ | refine l_rd r_pick ?_
  refine l_rd r_move ?_
  refine l_rd r_move ?_
  first | refine l_rd r_nilCheck ?_ | refine l_rd r_nilCheckF ?_
  first | refine l_rd r_field ?_ | refine l_rd r_fieldE ?_
  first | refine l_rd r_load ?_ | refine l_rd r_loadE ?_ | refine l_rd (r_loadT (hj := by omega)) ?_
  refine l_call 26950 [] (flatSignatures0) Tryz.func69 (h := ?_)
  rintro _ _ (⟨rfl, rfl⟩)
  first | refine l_rd r_and ?_ | refine l_rd r_pickB ?_ | refine l_rd r_pick ?_
  refine l_rd r_move ?_
  refine l_rd r_move ?_
  first | refine l_rd r_nilCheck ?_ | refine l_rd r_nilCheckF ?_
  first | refine l_rd r_field ?_ | refine l_rd r_fieldE ?_
  first | refine l_rd r_load ?_ | refine l_rd r_loadE ?_ | refine l_rd (r_loadT (hj := by omega)) ?_
  refine l_call 27300 [] (flatTxs0) Tryz.func70 (h := ?_)
  rintro _ _ (⟨rfl, rfl⟩)
  first | refine l_rd r_and ?_ | refine l_rd r_pickB ?_ | refine l_rd r_pick ?_
  refine l_rd r_move ?_
  refine l_rd r_move ?_
  first | refine l_rd r_nilCheck ?_ | refine l_rd r_nilCheckF ?_
  first | refine l_rd r_field ?_ | refine l_rd r_fieldE ?_
  first | refine l_rd r_load ?_ | refine l_rd r_loadE ?_ | refine l_rd (r_loadT (hj := by omega)) ?_
  refine l_call 27650 [] (flatBlocks0) Tryz.func71 (h := ?_)
  rintro _ _ (⟨rfl, rfl⟩)
  first | refine l_rd r_and ?_ | refine l_rd r_pickB ?_ | refine l_rd r_pick ?_
  refine l_rd r_move ?_
  refine l_rd r_move ?_
  first | refine l_rd r_nilCheck ?_ | refine l_rd r_nilCheckF ?_
  first | refine l_rd r_field ?_ | refine l_rd r_fieldE ?_
  first | refine l_rd r_load ?_ | refine l_rd r_loadE ?_ | refine l_rd (r_loadT (hj := by omega)) ?_
  refine l_call 28000 [] (flatGeneses0) Tryz.func72 (h := ?_)
  rintro _ _ (⟨rfl, rfl⟩)
  first | refine l_rd r_and ?_ | refine l_rd r_pickB ?_ | refine l_rd r_pick ?_
  refine l_rd r_move ?_
  refine l_rd r_move ?_
  first | refine l_rd r_nilCheck ?_ | refine l_rd r_nilCheckF ?_
  first | refine l_rd r_field ?_ | refine l_rd r_fieldE ?_
  first | refine l_rd r_load ?_ | refine l_rd r_loadE ?_ | refine l_rd (r_loadT (hj := by omega)) ?_
  refine l_call 28350 [] (flatTotals0) Tryz.func73 (h := ?_)
  rintro _ _ (⟨rfl, rfl⟩)
  first | refine l_rd r_and ?_ | refine l_rd r_pickB ?_ | refine l_rd r_pick ?_
  refine l_rd r_move ?_
  refine l_rd r_move ?_
  first | refine l_rd r_nilCheck ?_ | refine l_rd r_nilCheckF ?_
  first | refine l_rd r_field ?_ | refine l_rd r_fieldE ?_
  first | refine l_rd r_load ?_ | refine l_rd r_loadE ?_ | refine l_rd (r_loadT (hj := by omega)) ?_
  refine l_call 28700 [] (flatDiffs0) Tryz.func74 (h := ?_)
  rintro _ _ (⟨rfl, rfl⟩)
  first | refine l_rd r_and ?_ | refine l_rd r_pickB ?_ | refine l_rd r_pick ?_
  refine l_rd r_move ?_
  refine l_rd r_move ?_
  first | refine l_rd r_nilCheck ?_ | refine l_rd r_nilCheckF ?_
  first | refine l_rd r_field ?_ | refine l_rd r_fieldE ?_
  first | refine l_rd r_load ?_ | refine l_rd r_loadE ?_ | refine l_rd (r_loadT (hj := by omega)) ?_
  refine l_call 29050 [] (flatStoredRows0) Tryz.func75 (h := ?_)
  rintro _ _ (⟨rfl, rfl⟩)
  first | refine l_rd r_and ?_ | refine l_rd r_pickB ?_ | refine l_rd r_pick ?_
  refine l_rd r_move ?_
  refine l_rd r_move ?_
  first | refine l_rd r_nilCheck ?_ | refine l_rd r_nilCheckF ?_
  first | refine l_rd r_field ?_ | refine l_rd r_fieldE ?_
  first | refine l_rd r_load ?_ | refine l_rd r_loadE ?_ | refine l_rd (r_loadT (hj := by omega)) ?_
  refine l_call 29400 [] (flatStates0) Tryz.func76 (h := ?_)
  rintro _ _ (⟨rfl, rfl⟩)
  first | refine l_rd r_and ?_ | refine l_rd r_pickB ?_ | refine l_rd r_pick ?_
  refine l_rd r_move ?_
  refine l_rd r_move ?_
  first | refine l_rd r_nilCheck ?_ | refine l_rd r_nilCheckF ?_
  first | refine l_rd r_field ?_ | refine l_rd r_fieldE ?_
  first | refine l_rd r_load ?_ | refine l_rd r_loadE ?_ | refine l_rd (r_loadT (hj := by omega)) ?_
  refine l_call 29750 [] (flatAsks0) Tryz.func77 (h := ?_)
  rintro _ _ (⟨rfl, rfl⟩)
  first | refine l_rd r_and ?_ | refine l_rd r_pickB ?_ | refine l_rd r_pick ?_
  refine l_rd r_move ?_
  refine l_rd r_move ?_
  first | refine l_rd r_nilCheck ?_ | refine l_rd r_nilCheckF ?_
  first | refine l_rd r_field ?_ | refine l_rd r_fieldE ?_
  first | refine l_rd r_load ?_ | refine l_rd r_loadE ?_ | refine l_rd (r_loadT (hj := by omega)) ?_
  refine l_call 30100 [] (flatTellRows0) Tryz.func78 (h := ?_)
  rintro _ _ (⟨rfl, rfl⟩)
  first | refine l_rd r_and ?_ | refine l_rd r_pickB ?_ | refine l_rd r_pick ?_
  refine l_rd r_assign ?_
  refine l_nil ?_
  refine x_then ?_
  refine c_ret ?_
  refine k_ret [] _ (.cons (.tmp rfl) .nil) (h := ?_)
  exact ⟨rfl, rfl⟩
theorem apartHashes_spec (A0 : Option Addr) (c0 : Nat) (ss : List (Hd Hash)) (hm : ss.length ≤ 1000) (hln : ∀ s ∈ ss, s.l.length ≤ 1048576) : CSpec Tryz.prog 27 [.one (.sl 0 A0 ss.length c0)] [(0, Res.rd A0 (hdEn Hash 50) ss)] [(50, Res.bag (ss.map (Hd.res 24 hashEn)))] fun o L =>
    o = .ret (vb true) ∧ L = [] := by
  refine k_enter Tryz.func27 rfl rfl (h := fun w0 => ?_)
  refine c_seq ?_
  refine c_region ?_
  refine l_rd r_assign ?_
  refine l_nil ?_
  refine x_then ?_
  refine c_seq ?_
  refine c_region ?_
  refine l_rd r_build ?_
  refine l_do d_box (fun g6 => ?_)
  refine l_rd r_assign ?_
  refine l_nil ?_
  refine x_then ?_
  refine c_seq ?_
  refine c_seq ?_
  refine c_region ?_
  refine l_rd r_assign ?_
  refine l_nil ?_
  refine x_then ?_
  refine c_block ?_
  refine k_nil 606 55 (hdEn Hash 50) ?_
  refine c_loopA (fun m E H => ∃ (k : Nat) (Ab : Option Addr) (cb : Nat), E = [(4, vint (((k : Nat) : Int)))] ∧ H = [(10006, Res.va g6 109 (bagH Ab cb (ss.take k).length)), (606, Res.rows Ab cb 55 (hdEn Hash 50) (ss.take k))] ∧ m = ss.length - k ∧ k ≤ ss.length) [0, 3, 5, 6, 19, 20]  (ss.length) ([(4, vint (((0 : Nat) : Int)))]) ([(10006, Res.va g6 109 (bagH (none) (0) (ss.take 0).length)), (606, Res.rows (none) (0) 55 (hdEn Hash 50) (ss.take 0))]) rfl rfl (⟨0, none, 0, rfl, rfl, by omega, by omega⟩) (by repeat (first | exact trivial | refine ⟨⟨_, rfl, (by first | rfl | exact den_int (by omega))⟩, ?_⟩)) (by repeat (first | exact trivial | refine ⟨rfl, ?_⟩)) rfl (fun _ _ _ hI => ?_)
  obtain ⟨k, Ab, cb, rfl, rfl, hmk, hk⟩ := hI
  refine c_seq ?_
  refine c_seq ?_
  refine c_region ?_
  refine l_rd r_move ?_
  refine l_rd r_move ?_
  refine l_rd r_len ?_
  refine l_rd r_lss ?_
  refine l_nil ?_
  refine x_then ?_
  first | refine c_ifd rfl (fun h10 => ?_) (fun h10 => ?_) | refine c_ifn rfl (fun h10 => ?_) (fun h10 => ?_) | refine c_if rfl (fun h10 => ?_) (fun h10 => ?_)
  · refine c_skip ?_
    refine x_then ?_
    refine c_seq ?_
    refine c_block ?_
    refine c_region ?_
    refine l_rd r_move ?_
    refine l_rd r_move ?_
    refine l_rd r_move ?_
    first | refine l_ix (fun ad16 y16 hA16 h16 => ?_) | refine l_rd (r_indexT (hj := by omega)) ?_
    first | refine l_rd r_load ?_ | refine l_rd r_loadE ?_ | refine l_rd (r_loadT (hj := by omega)) ?_
    refine l_call 20900 [(101, 606)] (putHashes_spec g6 Ab cb (ss.take k) y16 (by rw [List.length_take]; omega)) Tryz.func43 (h := ?_)
    rintro _ _ (⟨Ab2, cb2, rfl, rfl⟩)
    refine l_nil ?_
    refine x_in (x_then ?_)
    refine c_region ?_
    refine l_rd r_move ?_
    first | refine l_rd r_add ?_ | refine l_rd r_addW ?_
    refine l_rd r_assign ?_
    refine l_nil ?_
    refine x_then ?_
    refine k_ren 20900 10006 rfl ?_
    refine k_ren 20901 606 rfl ?_
    refine k_res 10006 (Res.va g6 109 (bagH Ab2 cb2 (ss.take (k + 1)).length)) rfl (by rw [take_get h16]) ?_
    refine k_res 606 (Res.rows Ab2 cb2 55 (hdEn Hash 50) (ss.take (k + 1))) rfl (by rw [take_get h16]) ?_
    refine k_again (ss.length - (k + 1)) ⟨k + 1, Ab2, cb2, rfl, rfl, by omega, by omega⟩ (by omega) (by repeat (first | exact trivial | refine ⟨⟨_, rfl, (by first | rfl | exact den_int (by omega))⟩, ?_⟩)) (by repeat (first | exact trivial | refine ⟨rfl, ?_⟩))
  · have e : ss.take k = ss := List.take_of_length_le (by omega)
    refine k_res 10006 (Res.va g6 109 (bagH Ab cb ss.length)) rfl (by rw [e]) ?_
    refine k_res 606 (Res.rows Ab cb 55 (hdEn Hash 50) ss) rfl (by rw [e]) ?_
    refine c_exit ?_
    refine x_thenE (x_thenE (x_inE (x_then ?_)))
    refine c_seq ?_
    refine c_region ?_
    refine l_rd r_move ?_
    refine l_call 21000 [(101, 606), (50, 50)] (apart_spec g6 Ab cb ss hm hln) Tryz.func44 (h := ?_)
    rintro _ _ (⟨rfl, rfl⟩)
    refine l_rd r_assign ?_
    refine l_nil ?_
    refine x_then ?_
    refine c_ret ?_
    refine k_ret [] _ (.cons (.tmp rfl) .nil) (h := ?_)
    exact ⟨rfl, rfl⟩
end Go.Proofs.YtehhnfpfefccaaaGreat
/- TreeTells: both tell the same. -/



set_option linter.unusedVariables false
set_option linter.unusedSimpArgs false
set_option maxRecDepth 100000
set_option maxHeartbeats 8000000
namespace Go.Proofs.YtehhnfpfefccaaaGreat
open Go Go.RowKit HL
theorem k_backC {env : Env} {D : List Deferred} {n : Nat} {w0 : World} {M : Nat → Prop} {B L LF : Hp} {K : Act → World → Prop} (hc : Cov LF L) (h : HoC LF env D n w0 M B L K) : Ho env D n w0 M B L K := h hc
theorem sameHashes_spec (A B : Option Addr) (l m : List Hash) (ca cb : Nat) (hl : l.length ≤ 1048576) (hm : m.length ≤ 1048576) : CSpec Tryz.prog 16 [.one (.sl 0 A l.length ca), .one (.sl 1 B m.length cb)] [(0, Res.rd A hashEn l), (1, Res.rd B hashEn m)] [] fun o L => o = .ret (vb (decide (l = m))) ∧ L = [] :=
  cspec_of fun w hB => (sameHashes_calls A B l m ca cb w (rd_hashes (hB 0 _ rfl)) (rd_hashes (hB 1 _ rfl)) hl hm).mono fun e w' ⟨h1, h2⟩ => ⟨.ret (vb (decide (l = m))), [], h1.symm, ⟨rfl, rfl⟩, h2⟩
theorem path_same {l : List LeafP} {root : Hash} {h : Int} {a b : Hash} {d1 u1 d2 u2 : List Hash} {ok1 ok2 : Bool} (h1 : ok1 = true ∧ pathOf l root h a b = some (d1, u1) ∨ ok1 = false ∧ pathOf l root h a b = none ∧ d1 = [] ∧ u1 = []) (h2 : ok2 = true ∧ pathOf l root h a b = some (d2, u2) ∨ ok2 = false ∧ pathOf l root h a b = none ∧ d2 = [] ∧ u2 = []) : ok1 = ok2 ∧ d1 = d2 ∧ u1 = u2 := by
  rcases h1 with ⟨rfl, h1⟩ | ⟨rfl, h1, rfl, rfl⟩ <;> rcases h2 with ⟨rfl, h2⟩ | ⟨rfl, h2, rfl, rfl⟩
  · rw [h1] at h2
    injection h2 with h2
    injection h2 with h2 h3
    exact ⟨rfl, h2, h3⟩
  · rw [h1] at h2; cases h2
  · rw [h1] at h2; cases h2
  · exact ⟨rfl, rfl, rfl⟩
theorem gone_same {l : List LeafP} {root : Hash} {h : Int} {a : Hash} {x y : List Hash} (h1 : GoneIs l root h a x) (h2 : GoneIs l root h a y) : x = y := by
  refine sorted_one h1.1 h2.1 fun z => ?_
  have e1 := h1.2.2
  have e2 := h2.2.2
  by_cases hw : (wayOf l root h a).isSome = true
  · rw [if_pos hw] at e1 e2
    rw [e1, e2]
  · rw [if_neg hw] at e1 e2
    rw [e1, e2]
theorem same_spec (g gl gk : Nat) (xs : List (Hash × KV × Nat)) (gm : Nat) (root : Hash) (h : Int) (A : Option Addr) (c : Nat) (l : List LeafP) (a b : Hash) (hks : KidsOf xs l) (hw : Wide64 l) (hok : NewOk root h l) : CSpec Tryz.prog 12 [.one (.ptr 0 ⟨g, 0, none⟩), .one (.ptr 1 ⟨gm, 0, none⟩), .agg [.hash a], .agg [.hash b]]
    [(0, treeR g gl gk xs root h l), (1, Res.va gm 61 [.hash root, .one (.i .i64 h), .one (.sl 200 A l.length c)]), (200, Res.rd A leafEn l)] [] fun o L => o = .ret (vb true) ∧ L = [] := by
  have hh := hw.high
  have hl3 := hok.2.2.1
  refine k_enter Tryz.func12 rfl rfl (h := fun w0 => ?_)
  refine c_seq ?_
  refine c_region ?_
  refine l_do d_box (fun g6 => ?_)
  refine l_do d_box (fun g7 => ?_)
  refine l_rd r_assign ?_
  refine l_nil ?_
  refine x_then ?_
  refine c_seq ?_
  refine c_region ?_
  refine l_rd r_move ?_
  refine l_call 21350 [] (best_spec g gl gk xs root h l hks hok) Tryz.func14 (h := ?_)
  rintro _ _ (⟨b1, h1, hb1, rfl, rfl⟩)
  refine l_rd r_move ?_
  first | refine l_rd r_extract ?_ | refine l_rd r_extractN ?_
  refine l_rd r_extract ?_
  refine l_do d_alloc (fun g9 => ?_)
  first | refine l_do1 d_store ?_ | refine l_do1 d_storeE ?_
  refine l_rd r_assign ?_
  refine l_nil ?_
  refine x_then ?_
  refine c_seq ?_
  refine c_region ?_
  refine l_rd r_move ?_
  refine l_call 21600 [(100, 200)] (rbest_spec gm root h A c l hw hok) Tryz.func17 (h := ?_)
  rintro _ _ (⟨b2, h2, hb2, rfl, rfl⟩)
  obtain ⟨rfl, rfl⟩ := hb2.is hok (Nat.le_refl _) hb1
  refine l_rd r_move ?_
  first | refine l_rd r_extract ?_ | refine l_rd r_extractN ?_
  refine l_rd r_extract ?_
  refine l_do d_alloc (fun g11 => ?_)
  first | refine l_do1 d_store ?_ | refine l_do1 d_storeE ?_
  refine l_rd r_assign ?_
  refine l_nil ?_
  refine x_then ?_
  refine c_seq ?_
  refine c_region ?_
  refine l_rd r_move ?_
  first | refine l_rd r_load ?_ | refine l_rd r_loadE ?_ | refine l_rd (r_loadT (hj := by omega)) ?_
  refine l_call 21900 [] (way_spec g gl gk xs root h l a hh hok) Tryz.func18 (h := ?_)
  rintro _ _ (⟨Aa, ca, hla, rfl, rfl⟩)
  refine l_rd r_move ?_
  first | refine l_rd r_extract ?_ | refine l_rd r_extractN ?_
  refine l_rd r_extract ?_
  refine l_rd r_assign ?_
  refine l_rd r_assign ?_
  refine l_nil ?_
  refine x_then ?_
  refine c_seq ?_
  refine c_region ?_
  refine l_rd r_move ?_
  first | refine l_rd r_load ?_ | refine l_rd r_loadE ?_ | refine l_rd (r_loadT (hj := by omega)) ?_
  refine l_call 22200 [(100, 200)] (rway_spec gm root h A c l a hw hok) Tryz.func19 (h := ?_)
  rintro _ _ (⟨Ab, cb, hlb, rfl, rfl⟩)
  refine l_rd r_move ?_
  first | refine l_rd r_extract ?_ | refine l_rd r_extractN ?_
  refine l_rd r_extract ?_
  refine l_rd r_assign ?_
  refine l_rd r_assign ?_
  refine l_nil ?_
  refine x_then ?_
  refine c_seq ?_
  refine c_region ?_
  refine l_rd r_move ?_
  first | refine l_rd r_load ?_ | refine l_rd r_loadE ?_ | refine l_rd (r_loadT (hj := by omega)) ?_
  first | refine l_rd r_load ?_ | refine l_rd r_loadE ?_ | refine l_rd (r_loadT (hj := by omega)) ?_
  refine l_call 22550 [] (path_spec g gl gk xs root h l a b hh hok) Tryz.func15 (h := ?_)
  rintro _ _ (⟨d1, u1, ok1, A1, c1, A2, c2, hp1, hd1, hu1, rfl, rfl⟩)
  refine l_rd r_move ?_
  first | refine l_rd r_extract ?_ | refine l_rd r_extractN ?_
  refine l_rd r_extract ?_
  refine l_rd r_extract ?_
  refine l_rd r_assign ?_
  refine l_rd r_assign ?_
  refine l_rd r_assign ?_
  refine l_nil ?_
  refine x_then ?_
  refine c_seq ?_
  refine c_region ?_
  refine l_rd r_move ?_
  first | refine l_rd r_load ?_ | refine l_rd r_loadE ?_ | refine l_rd (r_loadT (hj := by omega)) ?_
  first | refine l_rd r_load ?_ | refine l_rd r_loadE ?_ | refine l_rd (r_loadT (hj := by omega)) ?_
  refine l_call 22950 [(100, 200)] (rpath_spec gm root h A c l a b hw hok) Tryz.func20 (h := ?_)
  rintro _ _ (⟨d2, u2, ok2, A3, c3, A4, c4, hp2, hd2, hu2, rfl, rfl⟩)
  obtain ⟨rfl, rfl, rfl⟩ := path_same hp1 hp2
  refine l_rd r_move ?_
  first | refine l_rd r_extract ?_ | refine l_rd r_extractN ?_
  refine l_rd r_extract ?_
  refine l_rd r_extract ?_
  refine l_rd r_assign ?_
  refine l_rd r_assign ?_
  refine l_rd r_assign ?_
  refine l_nil ?_
  refine x_then ?_
  refine c_seq ?_
  refine c_seq ?_
  refine c_region ?_
  first | refine l_rd r_load ?_ | refine l_rd r_loadE ?_ | refine l_rd (r_loadT (hj := by omega)) ?_
  first | refine l_rd r_load ?_ | refine l_rd r_loadE ?_ | refine l_rd (r_loadT (hj := by omega)) ?_
  refine l_rd r_neH ?_
  refine l_rd r_move ?_
  refine l_rdG [] rfl (fun hg => r_move) ?_
  refine l_rdG [] rfl (fun hg => r_move) ?_
  refine l_rdG [67, 68] ⟨_, _, ⟨_, .inl ⟨rfl, rfl⟩⟩, ⟨_, _, ⟨_, .inl ⟨rfl, rfl⟩⟩, rfl, rfl⟩, rfl⟩ (fun hg => r_neq) ?_
  first | refine l_rd r_or ?_ | refine l_rd r_pickB ?_ | refine l_rd r_pick ?_
  refine l_rd r_move ?_
  refine l_rdG [] rfl (fun hg => r_move) ?_
  refine l_rdG [] rfl (fun hg => r_move) ?_
  refine l_rdG [72, 73] ⟨_, _, ⟨_, .inl ⟨rfl, rfl⟩⟩, ⟨_, _, ⟨_, .inl ⟨rfl, rfl⟩⟩, rfl, rfl⟩, rfl⟩ (fun hg => r_neB) ?_
  first | refine l_rd r_or ?_ | refine l_rd r_pickB ?_ | refine l_rd r_pick ?_
  refine l_rd r_move ?_
  refine l_rdG [] rfl (fun hg => r_move) ?_
  refine l_rdG [] rfl (fun hg => r_move) ?_
  refine l_rdG [77, 78] ⟨_, _, ⟨_, .inl ⟨rfl, rfl⟩⟩, ⟨_, _, ⟨_, .inl ⟨rfl, rfl⟩⟩, rfl, rfl⟩, rfl⟩ (fun hg => r_neB) ?_
  first | refine l_rd r_or ?_ | refine l_rd r_pickB ?_ | refine l_rd r_pick ?_
  refine l_rd r_move ?_
  refine l_rdG [] rfl (fun hg => r_move) ?_
  refine l_rdG [] rfl (fun hg => r_move) ?_
  refine l_callG [] [82, 83] ⟨_, _, ⟨_, .inl ⟨rfl, rfl⟩⟩, ⟨_, _, ⟨_, .inl ⟨rfl, rfl⟩⟩, rfl, rfl⟩, rfl⟩ (fun hg => sameHashes_spec Aa Ab ((wayOf l root h a).getD []) ((wayOf l root h a).getD []) ca cb (by omega) (by omega)) Tryz.func16 (h := ?_)
  refine l_rdG [84] ⟨_, _, ⟨_, .inl ⟨rfl, rfl⟩⟩, rfl, rfl⟩ (fun hg => r_not) ?_
  first | refine l_rd r_or ?_ | refine l_rd r_pickB ?_ | refine l_rd r_pick ?_
  refine l_rd r_move ?_
  refine l_rdG [] rfl (fun hg => r_move) ?_
  refine l_rdG [] rfl (fun hg => r_move) ?_
  refine l_callG [] [88, 89] ⟨_, _, ⟨_, .inl ⟨rfl, rfl⟩⟩, ⟨_, _, ⟨_, .inl ⟨rfl, rfl⟩⟩, rfl, rfl⟩, rfl⟩ (fun hg => sameHashes_spec A1 A3 d1 d1 c1 c3 (by omega) (by omega)) Tryz.func16 (h := ?_)
  refine l_rdG [90] ⟨_, _, ⟨_, .inl ⟨rfl, rfl⟩⟩, rfl, rfl⟩ (fun hg => r_not) ?_
  first | refine l_rd r_or ?_ | refine l_rd r_pickB ?_ | refine l_rd r_pick ?_
  refine l_rd r_move ?_
  refine l_rdG [] rfl (fun hg => r_move) ?_
  refine l_rdG [] rfl (fun hg => r_move) ?_
  refine l_callG [] [94, 95] ⟨_, _, ⟨_, .inl ⟨rfl, rfl⟩⟩, ⟨_, _, ⟨_, .inl ⟨rfl, rfl⟩⟩, rfl, rfl⟩, rfl⟩ (fun hg => sameHashes_spec A2 A4 u1 u1 c2 c4 (by omega) (by omega)) Tryz.func16 (h := ?_)
  refine l_rdG [96] ⟨_, _, ⟨_, .inl ⟨rfl, rfl⟩⟩, rfl, rfl⟩ (fun hg => r_not) ?_
  first | refine l_rd r_or ?_ | refine l_rd r_pickB ?_ | refine l_rd r_pick ?_
  refine l_nil ?_
  refine x_then ?_
  first | refine c_ifd rfl (fun h98 => ?_) (fun h98 => ?_) | refine c_ifn rfl (fun h98 => ?_) (fun h98 => ?_) | refine c_if rfl (fun h98 => ?_) (fun h98 => ?_)
  · refine c_seq ?_
    refine c_region ?_
    refine l_rd r_assign ?_
    refine l_nil ?_
    refine x_then ?_
    refine c_ret ?_
    refine x_thenR ?_
    refine k_ret [] _ (.cons (.tmp rfl) .nil) (h := ?_)
    exfalso
    simp at h98
  · refine c_skip ?_
    refine x_then ?_
    refine c_seq ?_
    refine c_draw (.q 0 (.q 1 (.q 3 (.q 4 (.s 2 (.s 5 (.q 6 (.q 7 .nil)))))))) [10006] (hm := by kernel_rfl) (hs := by kernel_rfl) (hk := by kernel_rfl) (hQ := fun d v c a w h => by cases d <;> exact h) (h := ?_)
    refine q_rd rfl r_move ?_
    first | refine q_rd rfl r_load ?_ | refine q_rd rfl r_loadE ?_ | refine q_rd rfl (r_loadT (hj := by omega)) ?_
    refine q_rd rfl r_move ?_
    first | refine q_rd rfl r_load ?_ | refine q_rd rfl r_loadE ?_ | refine q_rd rfl (r_loadT (hj := by omega)) ?_
    refine s_call rfl 25050 [] (pbehind_spec g gl gk xs root h l a hks hok) Tryz.func21 (h := ?_)
    rintro _ _ (⟨gs, A5, c5, hg1, hg2, hg3, rfl, rfl⟩)
    refine ⟨cov_of (by repeat (first | exact trivial | refine ⟨rfl, ?_⟩)), ?_⟩
    refine s_call rfl 25200 [] (gone_spec g gl gk xs root h l a hks hh hok) Tryz.func22 (h := ?_)
    rintro _ _ (⟨ws, A6, c6, hgo, rfl, rfl⟩)
    refine ⟨cov_of (by repeat (first | exact trivial | refine ⟨rfl, ?_⟩)), ?_⟩
    have hwl := hgo.2.1
    refine q_rd rfl r_assign ?_
    refine q_rd rfl r_assign ?_
    refine s_nil ?_
    refine x_then ?_
    refine c_seq ?_
    refine c_draw (.q 0 (.q 1 (.q 3 (.q 4 (.s 2 (.s 5 (.q 6 (.q 7 (.q 8 (.q 9 (.q 10 (.s 11 (.s 12 (.q 13 (.q 14 (.q 15 (.q 16 (.q 17 (.s 18 (.s 19 (.q 20 (.q 21 (.q 22 (.q 23 (.q 24 (.q 25 (.q 26 (.s 27 (.s 28 (.q 29 (.q 30 .nil))))))))))))))))))))))))))))))) [10006] (hm := by kernel_rfl) (hs := by kernel_rfl) (hk := by kernel_rfl) (hQ := fun d v c a w h => by cases d <;> exact h) (h := ?_)
    refine q_rd rfl r_move ?_
    first | refine q_rd rfl r_load ?_ | refine q_rd rfl r_loadE ?_ | refine q_rd rfl (r_loadT (hj := by omega)) ?_
    refine q_rd rfl r_move ?_
    first | refine q_rd rfl r_load ?_ | refine q_rd rfl r_loadE ?_ | refine q_rd rfl (r_loadT (hj := by omega)) ?_
    refine s_call rfl 25350 [] (stands_spec g gl gk xs root h l a hh hok) Tryz.func23 (h := ?_)
    rintro _ _ (⟨rfl, rfl⟩)
    refine ⟨cov_of (by repeat (first | exact trivial | refine ⟨rfl, ?_⟩)), ?_⟩
    refine s_call rfl 25500 [(100, 200)] (rstands_spec gm root h A c l a hw hok) Tryz.func24 (h := ?_)
    rintro _ _ (⟨rfl, rfl⟩)
    refine ⟨cov_of (by repeat (first | exact trivial | refine ⟨rfl, ?_⟩)), ?_⟩
    refine q_rd rfl r_eqB ?_
    refine k_knowC 111 true rfl (by simp) ?_
    refine q_rd rfl r_move ?_
    refine q_rd rfl r_move ?_
    refine q_rd rfl r_move ?_
    first | refine q_rd rfl r_load ?_ | refine q_rd rfl r_loadE ?_ | refine q_rd rfl (r_loadT (hj := by omega)) ?_
    refine s_call rfl 25800 [(100, 200)] (rbehind_spec gm root h A c l a hl3) Tryz.func25 (h := ?_)
    rintro _ _ (⟨gs2, A7, c7, hq1, hq2, hq3, rfl, rfl⟩)
    refine ⟨cov_of (by repeat (first | exact trivial | refine ⟨rfl, ?_⟩)), ?_⟩
    refine s_call rfl 25850 [] (sameHashes_spec A5 A7 gs gs2 c5 c7 (by omega) (by omega)) Tryz.func16 (h := ?_)
    rintro _ _ (⟨rfl, rfl⟩)
    refine ⟨cov_of (by repeat (first | exact trivial | refine ⟨rfl, ?_⟩)), ?_⟩
    refine k_knowC 117 true rfl (decide_eq_true (sorted_one hg1 hq1 fun y => by rw [hg3, hq3])) ?_
    first | refine q_rd rfl r_and ?_ | refine q_rd rfl r_pickB ?_ | refine q_rd rfl r_pick ?_
    refine q_rd rfl r_move ?_
    refine q_rd rfl r_move ?_
    refine q_rd rfl r_move ?_
    first | refine q_rd rfl r_load ?_ | refine q_rd rfl r_loadE ?_ | refine q_rd rfl (r_loadT (hj := by omega)) ?_
    refine s_call rfl 26150 [(100, 200)] (rgone_spec gm root h A c l a hw hok) Tryz.func26 (h := ?_)
    rintro _ _ (⟨ws2, A8, c8, hgo2, rfl, rfl⟩)
    refine ⟨cov_of (by repeat (first | exact trivial | refine ⟨rfl, ?_⟩)), ?_⟩
    have hwl2 := hgo2.2.1
    refine s_call rfl 26200 [] (sameHashes_spec A6 A8 ws ws2 c6 c8 (by omega) (by omega)) Tryz.func16 (h := ?_)
    rintro _ _ (⟨rfl, rfl⟩)
    refine ⟨cov_of (by repeat (first | exact trivial | refine ⟨rfl, ?_⟩)), ?_⟩
    refine k_knowC 124 true rfl (decide_eq_true (gone_same hgo hgo2)) ?_
    first | refine q_rd rfl r_and ?_ | refine q_rd rfl r_pickB ?_ | refine q_rd rfl r_pick ?_
    refine q_rd rfl r_move ?_
    refine q_rd rfl r_move ?_
    refine q_rd rfl r_move ?_
    refine q_rd rfl r_move ?_
    refine q_rd rfl r_move ?_
    refine q_rd rfl r_move ?_
    refine s_do rfl (d_bslice [(⟨Aa, ca, (wayOf l root h a).getD []⟩ : Hd Hash), ⟨A1, c1, d1⟩, ⟨A2, c2, u1⟩, ⟨A5, c5, gs⟩, ⟨A6, c6, ws⟩]) (fun B132 => ?_)
    refine fun hcv => ?_
    refine k_empty 50 ?_
    refine k_push 50 21900 rfl rfl ?_
    refine k_push 50 22550 rfl rfl ?_
    refine k_push 50 22551 rfl rfl ?_
    refine k_push 50 25050 rfl rfl ?_
    refine k_push 50 25200 rfl rfl ?_
    refine k_backC (LF := [(10006, Res.va g6 24 [.hash a])]) (cov_of (by repeat (first | exact trivial | refine ⟨rfl, ?_⟩))) ?_
    refine s_call rfl 26650 [(50, 50)] (apartHashes_spec B132 5 [⟨Aa, ca, (wayOf l root h a).getD []⟩, ⟨A1, c1, d1⟩, ⟨A2, c2, u1⟩, ⟨A5, c5, gs⟩, ⟨A6, c6, ws⟩] (by simp) (by intro s hs; simp at hs; rcases hs with rfl | rfl | rfl | rfl | rfl <;> (simp only; omega))) Tryz.func27 (h := ?_)
    rintro _ _ (⟨rfl, rfl⟩)
    refine ⟨cov_of (by repeat (first | exact trivial | refine ⟨rfl, ?_⟩)), ?_⟩
    first | refine q_rd rfl r_and ?_ | refine q_rd rfl r_pickB ?_ | refine q_rd rfl r_pick ?_
    refine q_rd rfl r_assign ?_
    refine s_nil ?_
    refine x_then ?_
    refine c_ret ?_
    refine k_ret [] _ (.cons (.tmp rfl) .nil) (h := ?_)
    exact ⟨rfl, rfl⟩
end Go.Proofs.YtehhnfpfefccaaaGreat
/- TreeTells: the walk of the law. -/

set_option linter.unusedVariables false
set_option linter.unusedSimpArgs false
set_option maxRecDepth 100000
set_option maxHeartbeats 8000000
namespace Go.Proofs.YtehhnfpfefccaaaGreat
open Go Go.RowKit HL
theorem fits_i64 (T : TypeId) {bytes : Nat} {z : SV} [TyA Tryz.prog T false 1 z bytes] (b : Int) : Fits Tryz.prog T (.int .i64 b) := fits_sv (P := Tryz.prog) (T := T) (v := .one (.i .i64 b)) rfl rfl
instance eqE_leaf : EqE Tryz.prog 27 leafEn := ⟨⟨3, by omega, eqV_struct
    [⟨Hash, inferInstance, hval, 2, LeafP.id, 24, 32, (HashT.key (P := Tryz.prog) (T := 24)).eq.v, fits_hash, size_hval⟩, ⟨Hash, inferInstance, hval, 2, LeafP.parent, 24, 32, (HashT.key (P := Tryz.prog) (T := 24)).eq.v, fits_hash, size_hval⟩,
      ⟨Int, inferInstance, Value.int .i64, 1, LeafP.height, 3, 1, (eqTy_int (UD.is (P := Tryz.prog) (T := 3))).v, fits_i64 _, fun _ => rfl⟩, ⟨Int, inferInstance, Value.int .i64, 1, LeafP.mark, 25, 1, (eqTy_int (UD.is (P := Tryz.prog) (T := 25))).v, fits_i64 _, fun _ => rfl⟩]
    Tryz.underlying27 (by kernel_rfl) (by kernel_rfl) (by kernel_rfl) (by intro F hF; simp at hF; rcases hF with rfl | rfl | rfl | rfl <;> simp) (fun x => SV.den_agg _) (fun x y => by cases x; cases y; simp [FE.same, Bool.decide_and])⟩, by kernel_rfl, rfl⟩
theorem rep_get {α : Type} {l : List α} {z : α} {k : Nat} : (List.replicate k z ++ l.drop k)[k]? = l[k]? := by
  rw [List.getElem?_append_right (by simp), List.length_replicate, Nat.sub_self, List.getElem?_drop]
  rfl
theorem rep_set {α : Type} {l : List α} {z : α} {k : Nat} (h : k < l.length) : (List.replicate k z ++ l.drop k).set k z = List.replicate (k + 1) z ++ l.drop (k + 1) := by
  rw [List.set_append_right _ _ (by simp), List.length_replicate, Nat.sub_self, List.drop_eq_getElem_cons h, List.set_cons_zero, List.replicate_succ', List.append_assoc]
  rfl
theorem tells_spec (root : Hash) (h : Int) (A : Option Addr) (l : List LeafP) (c : Nat) (a b : Hash) (hl : l.length ≤ 1048576) (hw : Wide64 l) : CSpec Tryz.prog 5 [.agg [.hash root], .one (.i .i64 h), .one (.sl 2 A l.length c), .agg [.hash a], .agg [.hash b]] [(2, Res.rd A leafEn l)] [] fun o L => o = .ret (vb true) ∧ L = [] := by
  have hnl : (([] : List LeafP) ++ l).length = l.length := rfl
  refine k_enter Tryz.func5 rfl rfl (h := fun w0 => ?_)
  refine c_seq ?_
  refine c_region ?_
  refine l_do d_box (fun g5 => ?_)
  refine l_do d_box (fun g8 => ?_)
  refine l_do d_box (fun g9 => ?_)
  refine l_rd r_assign ?_
  refine l_nil ?_
  refine x_then ?_
  refine c_seq ?_
  refine c_seq ?_
  refine c_region ?_
  refine l_rd r_move ?_
  refine l_rd r_len ?_
  refine l_rd r_gtr ?_
  refine l_nil ?_
  refine x_then ?_
  first | refine c_ifd rfl (fun h19 => ?_) (fun h19 => ?_) | refine c_ifn rfl (fun h19 => ?_) (fun h19 => ?_) | refine c_if rfl (fun h19 => ?_) (fun h19 => ?_)
  · refine c_seq ?_
    refine c_region ?_
    refine l_call 21000 [] (awake_spec) Tryz.func9 (h := ?_)
    rintro _ _ (⟨rfl, rfl⟩)
    refine l_rd r_assign ?_
    refine l_nil ?_
    refine x_then ?_
    refine c_ret ?_
    refine x_thenR ?_
    refine k_ret [] _ (.cons (.tmp rfl) .nil) (h := ?_)
    exact ⟨rfl, rfl⟩
  · refine c_skip ?_
    refine x_then ?_
    refine c_seq ?_
    refine c_region ?_
    refine l_do (d_bslice []) (fun B21 => ?_)
    refine l_rd r_move ?_
    refine l_do d_append (fun p23 => ?_)
    refine l_rd r_assign ?_
    refine l_nil ?_
    refine x_then ?_
    refine c_seq ?_
    refine c_region ?_
    first | refine l_rd r_load ?_ | refine l_rd r_loadE ?_ | refine l_rd (r_loadT (hj := by omega)) ?_
    refine l_rd r_move ?_
    refine l_rd r_move ?_
    refine l_call 21400 [] (new_spec root h p23.1 l p23.2 hl) Tryz.func8 (h := ?_)
    rintro _ _ (⟨hno, rfl, rfl⟩ | ⟨hok, g, gl, gk, xs, hks, rfl, rfl⟩)
    · refine l_rd r_move ?_
      first | refine l_rd r_extract ?_ | refine l_rd r_extractN ?_
      refine l_rd r_extract ?_
      refine l_rd r_assign ?_
      refine l_rd r_assign ?_
      refine l_nil ?_
      refine x_then ?_
      refine c_seq ?_
      refine c_draw (.q 0 (.q 1 (.q 2 (.s 3 (.s 4 (.q 5 (.q 6 (.q 7 (.q 8 (.q 9 .nil)))))))))) [2, 10005, 10008, 10009, 10018, 21000, 21001, 21002, 21003, 10021, 10023, 21400, 21401, 21402, 21403, 21750, 21751, 21752, 21753, 21800, 21801, 21802, 21803, 10041, 23500, 23501, 23502, 23503, 23750, 23751, 23752, 23753, 24050, 24051, 24052, 24053, 24200, 24201, 24202, 24203] (hm := by kernel_rfl) (hs := by kernel_rfl) (hk := by kernel_rfl) (hQ := fun d v c a w h => by cases d <;> exact h) (h := ?_)
      first | refine q_rd rfl r_load ?_ | refine q_rd rfl r_loadE ?_ | refine q_rd rfl (r_loadT (hj := by omega)) ?_
      refine q_rd rfl r_move ?_
      refine q_rd rfl r_move ?_
      refine s_call rfl 21750 [] (turned_spec A l c hl) Tryz.func11 (h := ?_)
      rintro _ _ (⟨At, ct, hct, rfl, rfl⟩)
      refine ⟨cov_of (by repeat (first | exact trivial | refine ⟨rfl, ?_⟩)), ?_⟩
      refine s_call rfl 21800 [] (rnew_spec root h At l ct hl) Tryz.func10 (h := ?_)
      rintro _ _ (⟨hno2, rfl, rfl⟩ | ⟨hok2, gm, Am, cm, rfl, rfl⟩)
      · refine ⟨cov_of (by repeat (first | exact trivial | refine ⟨rfl, ?_⟩)), ?_⟩
        refine q_rd rfl r_move ?_
        first | refine q_rd rfl r_extract ?_ | refine q_rd rfl r_extractN ?_
        refine q_rd rfl r_extract ?_
        refine q_rd rfl r_assign ?_
        refine q_rd rfl r_assign ?_
        refine s_nil ?_
        refine x_then ?_
        refine c_seq ?_
        refine c_seq ?_
        refine c_region ?_
        refine l_rd r_assign ?_
        refine l_nil ?_
        refine x_then ?_
        refine c_block ?_
        refine c_loopA (fun m E H => ∃ (k : Nat), E = [(16, vint (((k : Nat) : Int)))] ∧ H = [(10021, Res.rows p23.1 p23.2 27 leafEn (List.replicate k leaf0 ++ l.drop k))] ∧ m = l.length - k ∧ k ≤ l.length) [0, 1, 2, 3, 4, 5, 8, 9, 11, 12, 13, 14, 15, 17, 18, 19, 20, 21, 22, 23, 24, 25, 26, 27, 28, 29, 30, 31, 32, 33, 34, 35, 36, 37, 38, 58, 59, 60, 61, 62, 63, 64, 65, 66, 67, 68, 69, 70, 71, 72, 73, 74, 75, 76, 77, 78, 79, 80, 81, 82, 83, 84, 85]  (l.length) ([(16, vint (((0 : Nat) : Int)))]) ([(10021, Res.rows p23.1 p23.2 27 leafEn (List.replicate 0 leaf0 ++ l.drop 0))]) rfl rfl (⟨0, rfl, rfl, by omega, by omega⟩) (by repeat (first | exact trivial | refine ⟨⟨_, rfl, (by first | rfl | exact den_int (by omega))⟩, ?_⟩)) (by repeat (first | exact trivial | refine ⟨rfl, ?_⟩)) rfl (fun _ _ _ hI => ?_)
        obtain ⟨k, rfl, rfl, hmk, hk⟩ := hI
        refine c_seq ?_
        refine c_seq ?_
        refine c_region ?_
        refine l_rd r_move ?_
        refine l_rd r_move ?_
        refine l_rd r_len ?_
        refine l_rd r_lss ?_
        refine l_nil ?_
        refine x_then ?_
        first | refine c_ifd rfl (fun h42 => ?_) (fun h42 => ?_) | refine c_ifn rfl (fun h42 => ?_) (fun h42 => ?_) | refine c_if rfl (fun h42 => ?_) (fun h42 => ?_)
        · have hml : (([] : List LeafP) ++ l).length = (List.replicate k leaf0 ++ l.drop k).length := by rw [hnl, List.length_append, List.length_replicate, List.length_drop]; omega
          refine c_skip ?_
          refine x_then ?_
          refine c_seq ?_
          refine c_block ?_
          refine c_seq ?_
          refine c_seq ?_
          refine c_draw (.q 0 (.q 1 (.q 2 (.q 3 (.q 4 (.q 5 (.q 6 (.q 7 (.q 8 .nil))))))))) [2, 10005, 10008, 10009, 10018, 21000, 21001, 21002, 21003, 10021, 10023, 21400, 21401, 21402, 21403, 21750, 21751, 21752, 21753, 21800, 21801, 21802, 21803, 10041, 23500, 23501, 23502, 23503, 23750, 23751, 23752, 23753, 24050, 24051, 24052, 24053, 24200, 24201, 24202, 24203] (hm := by kernel_rfl) (hs := by kernel_rfl) (hk := by kernel_rfl) (hQ := fun d v c a w h => by cases d <;> exact h) (h := ?_)
          refine q_rd rfl r_move ?_
          refine q_rd rfl r_move ?_
          first | refine q_ix rfl (fun ad47 y47 hA47 h47 => ?_) | refine q_rd rfl (r_indexT (hj := by omega)) ?_
          first | refine q_rd rfl r_load ?_ | refine q_rd rfl r_loadE ?_ | refine q_rd rfl (r_loadT (hj := by omega)) ?_
          refine q_rd rfl r_move ?_
          refine q_rd rfl r_move ?_
          first | refine q_ix rfl (fun ad51 y51 hA51 h51 => ?_) | refine q_rd rfl (r_indexT (hj := by omega)) ?_
          first | refine q_rd rfl r_load ?_ | refine q_rd rfl r_loadE ?_ | refine q_rd rfl (r_loadT (hj := by omega)) ?_
          refine q_rd rfl r_neSt ?_
          refine k_knowC 53 false rfl (by rw [rep_get] at h47; rw [opt_eq h47 h51]; simp) ?_
          refine s_nil ?_
          refine x_then ?_
          refine c_false rfl ?_
          refine c_skip ?_
          refine x_then ?_
          refine c_region ?_
          refine l_rd r_move ?_
          refine l_rd r_move ?_
          refine l_rd r_build ?_
          first | refine l_ix (fun ad57 y57 hA57 h57 => ?_) | refine l_rd (r_indexT (hj := by omega)) ?_
          refine l_do1 (d_storeE (u' := leaf0)) ?_
          refine l_nil ?_
          refine x_in (x_then ?_)
          refine c_region ?_
          refine l_rd r_move ?_
          first | refine l_rd r_add ?_ | refine l_rd r_addW ?_
          refine l_rd r_assign ?_
          refine l_nil ?_
          refine x_then ?_
          refine k_res 10021 (Res.rows p23.1 p23.2 27 leafEn (List.replicate (k + 1) leaf0 ++ l.drop (k + 1))) rfl (by rw [rep_set (by omega)]) ?_
          refine k_again (l.length - (k + 1)) ⟨k + 1, rfl, rfl, by omega, by omega⟩ (by omega) (by repeat (first | exact trivial | refine ⟨⟨_, rfl, (by first | rfl | exact den_int (by omega))⟩, ?_⟩)) (by repeat (first | exact trivial | refine ⟨rfl, ?_⟩))
        · refine c_exit ?_
          refine x_thenE (x_thenE (x_inE (x_then ?_)))
          refine c_seq ?_
          refine c_seq ?_
          refine c_region ?_
          refine l_rd r_move ?_
          refine l_rd r_move ?_
          refine l_rd r_neq ?_
          refine l_rd r_move ?_
          refine l_rdG [] rfl (fun hg => r_move) ?_
          refine l_rdG [62] ⟨_, _, ⟨_, .inl ⟨rfl, rfl⟩⟩, rfl, rfl⟩ (fun hg => r_eqNilP) ?_
          refine l_rdG [] rfl (fun hg => r_move) ?_
          refine l_rdG [64] ⟨_, _, ⟨_, .inl ⟨rfl, rfl⟩⟩, rfl, rfl⟩ (fun hg => r_eqNilP) ?_
          refine l_rdG [63, 65] ⟨_, _, ⟨_, .inl ⟨rfl, rfl⟩⟩, ⟨_, _, ⟨_, .inl ⟨rfl, rfl⟩⟩, rfl, rfl⟩, rfl⟩ (fun hg => r_neB) ?_
          first | refine l_rd r_or ?_ | refine l_rd r_pickB ?_ | refine l_rd r_pick ?_
          refine l_nil ?_
          refine x_then ?_
          refine c_false rfl ?_
          refine c_skip ?_
          refine x_then ?_
          refine c_seq ?_
          refine c_seq ?_
          refine c_region ?_
          refine l_rd r_move ?_
          refine l_rd r_eqNilP ?_
          refine l_nil ?_
          refine x_then ?_
          refine c_true rfl ?_
          refine c_seq ?_
          refine c_region ?_
          refine l_call 23500 [] (awake_spec) Tryz.func9 (h := ?_)
          rintro _ _ (⟨rfl, rfl⟩)
          refine l_rd r_assign ?_
          refine l_nil ?_
          refine x_then ?_
          refine c_ret ?_
          refine x_thenR ?_
          refine k_ret [] _ (.cons (.tmp rfl) .nil) (h := ?_)
          exact ⟨rfl, rfl⟩
      · exact absurd hok2 hno
    · refine l_rd r_move ?_
      first | refine l_rd r_extract ?_ | refine l_rd r_extractN ?_
      refine l_rd r_extract ?_
      refine l_rd r_assign ?_
      refine l_rd r_assign ?_
      refine l_nil ?_
      refine x_then ?_
      refine c_seq ?_
      refine c_draw (.q 0 (.q 1 (.q 2 (.s 3 (.s 4 (.q 5 (.q 6 (.q 7 (.q 8 (.q 9 .nil)))))))))) [2, 10005, 10008, 10009, 10018, 21000, 21001, 21002, 21003, 10021, 10023, 21400, 21401, 21402, 21403, 21750, 21751, 21752, 21753, 21800, 21801, 21802, 21803, 10041, 23500, 23501, 23502, 23503, 23750, 23751, 23752, 23753, 24050, 24051, 24052, 24053, 24200, 24201, 24202, 24203] (hm := by kernel_rfl) (hs := by kernel_rfl) (hk := by kernel_rfl) (hQ := fun d v c a w h => by cases d <;> exact h) (h := ?_)
      first | refine q_rd rfl r_load ?_ | refine q_rd rfl r_loadE ?_ | refine q_rd rfl (r_loadT (hj := by omega)) ?_
      refine q_rd rfl r_move ?_
      refine q_rd rfl r_move ?_
      refine s_call rfl 21750 [] (turned_spec A l c hl) Tryz.func11 (h := ?_)
      rintro _ _ (⟨At, ct, hct, rfl, rfl⟩)
      refine ⟨cov_of (by repeat (first | exact trivial | refine ⟨rfl, ?_⟩)), ?_⟩
      refine s_call rfl 21800 [] (rnew_spec root h At l ct hl) Tryz.func10 (h := ?_)
      rintro _ _ (⟨hno2, rfl, rfl⟩ | ⟨hok2, gm, Am, cm, rfl, rfl⟩)
      · exact absurd hok hno2
      · refine ⟨cov_of (by repeat (first | exact trivial | refine ⟨rfl, ?_⟩)), ?_⟩
        refine q_rd rfl r_move ?_
        first | refine q_rd rfl r_extract ?_ | refine q_rd rfl r_extractN ?_
        refine q_rd rfl r_extract ?_
        refine q_rd rfl r_assign ?_
        refine q_rd rfl r_assign ?_
        refine s_nil ?_
        refine x_then ?_
        refine c_seq ?_
        refine c_seq ?_
        refine c_region ?_
        refine l_rd r_assign ?_
        refine l_nil ?_
        refine x_then ?_
        refine c_block ?_
        refine c_loopA (fun m E H => ∃ (k : Nat), E = [(16, vint (((k : Nat) : Int)))] ∧ H = [(10021, Res.rows p23.1 p23.2 27 leafEn (List.replicate k leaf0 ++ l.drop k))] ∧ m = l.length - k ∧ k ≤ l.length) [0, 1, 2, 3, 4, 5, 8, 9, 11, 12, 13, 14, 15, 17, 18, 19, 20, 21, 22, 23, 24, 25, 26, 27, 28, 29, 30, 31, 32, 33, 34, 35, 36, 37, 38, 58, 59, 60, 61, 62, 63, 64, 65, 66, 67, 68, 69, 70, 71, 72, 73, 74, 75, 76, 77, 78, 79, 80, 81, 82, 83, 84, 85]  (l.length) ([(16, vint (((0 : Nat) : Int)))]) ([(10021, Res.rows p23.1 p23.2 27 leafEn (List.replicate 0 leaf0 ++ l.drop 0))]) rfl rfl (⟨0, rfl, rfl, by omega, by omega⟩) (by repeat (first | exact trivial | refine ⟨⟨_, rfl, (by first | rfl | exact den_int (by omega))⟩, ?_⟩)) (by repeat (first | exact trivial | refine ⟨rfl, ?_⟩)) rfl (fun _ _ _ hI => ?_)
        obtain ⟨k, rfl, rfl, hmk, hk⟩ := hI
        refine c_seq ?_
        refine c_seq ?_
        refine c_region ?_
        refine l_rd r_move ?_
        refine l_rd r_move ?_
        refine l_rd r_len ?_
        refine l_rd r_lss ?_
        refine l_nil ?_
        refine x_then ?_
        first | refine c_ifd rfl (fun h42 => ?_) (fun h42 => ?_) | refine c_ifn rfl (fun h42 => ?_) (fun h42 => ?_) | refine c_if rfl (fun h42 => ?_) (fun h42 => ?_)
        · have hml : (([] : List LeafP) ++ l).length = (List.replicate k leaf0 ++ l.drop k).length := by rw [hnl, List.length_append, List.length_replicate, List.length_drop]; omega
          refine c_skip ?_
          refine x_then ?_
          refine c_seq ?_
          refine c_block ?_
          refine c_seq ?_
          refine c_seq ?_
          refine c_draw (.q 0 (.q 1 (.q 2 (.q 3 (.q 4 (.q 5 (.q 6 (.q 7 (.q 8 .nil))))))))) [2, 10005, 10008, 10009, 10018, 21000, 21001, 21002, 21003, 10021, 10023, 21400, 21401, 21402, 21403, 21750, 21751, 21752, 21753, 21800, 21801, 21802, 21803, 10041, 23500, 23501, 23502, 23503, 23750, 23751, 23752, 23753, 24050, 24051, 24052, 24053, 24200, 24201, 24202, 24203] (hm := by kernel_rfl) (hs := by kernel_rfl) (hk := by kernel_rfl) (hQ := fun d v c a w h => by cases d <;> exact h) (h := ?_)
          refine q_rd rfl r_move ?_
          refine q_rd rfl r_move ?_
          first | refine q_ix rfl (fun ad47 y47 hA47 h47 => ?_) | refine q_rd rfl (r_indexT (hj := by omega)) ?_
          first | refine q_rd rfl r_load ?_ | refine q_rd rfl r_loadE ?_ | refine q_rd rfl (r_loadT (hj := by omega)) ?_
          refine q_rd rfl r_move ?_
          refine q_rd rfl r_move ?_
          first | refine q_ix rfl (fun ad51 y51 hA51 h51 => ?_) | refine q_rd rfl (r_indexT (hj := by omega)) ?_
          first | refine q_rd rfl r_load ?_ | refine q_rd rfl r_loadE ?_ | refine q_rd rfl (r_loadT (hj := by omega)) ?_
          refine q_rd rfl r_neSt ?_
          refine k_knowC 53 false rfl (by rw [rep_get] at h47; rw [opt_eq h47 h51]; simp) ?_
          refine s_nil ?_
          refine x_then ?_
          refine c_false rfl ?_
          refine c_skip ?_
          refine x_then ?_
          refine c_region ?_
          refine l_rd r_move ?_
          refine l_rd r_move ?_
          refine l_rd r_build ?_
          first | refine l_ix (fun ad57 y57 hA57 h57 => ?_) | refine l_rd (r_indexT (hj := by omega)) ?_
          refine l_do1 (d_storeE (u' := leaf0)) ?_
          refine l_nil ?_
          refine x_in (x_then ?_)
          refine c_region ?_
          refine l_rd r_move ?_
          first | refine l_rd r_add ?_ | refine l_rd r_addW ?_
          refine l_rd r_assign ?_
          refine l_nil ?_
          refine x_then ?_
          refine k_res 10021 (Res.rows p23.1 p23.2 27 leafEn (List.replicate (k + 1) leaf0 ++ l.drop (k + 1))) rfl (by rw [rep_set (by omega)]) ?_
          refine k_again (l.length - (k + 1)) ⟨k + 1, rfl, rfl, by omega, by omega⟩ (by omega) (by repeat (first | exact trivial | refine ⟨⟨_, rfl, (by first | rfl | exact den_int (by omega))⟩, ?_⟩)) (by repeat (first | exact trivial | refine ⟨rfl, ?_⟩))
        · refine c_exit ?_
          refine x_thenE (x_thenE (x_inE (x_then ?_)))
          refine c_seq ?_
          refine c_seq ?_
          refine c_region ?_
          refine l_rd r_move ?_
          refine l_rd r_move ?_
          refine l_rd r_neq ?_
          refine l_rd r_move ?_
          refine l_rdG [] rfl (fun hg => r_move) ?_
          refine l_rdG [62] ⟨_, _, ⟨_, .inl ⟨rfl, rfl⟩⟩, rfl, rfl⟩ (fun hg => r_eqNilP) ?_
          refine l_rdG [] rfl (fun hg => r_move) ?_
          refine l_rdG [64] ⟨_, _, ⟨_, .inl ⟨rfl, rfl⟩⟩, rfl, rfl⟩ (fun hg => r_eqNilP) ?_
          refine l_rdG [63, 65] ⟨_, _, ⟨_, .inl ⟨rfl, rfl⟩⟩, ⟨_, _, ⟨_, .inl ⟨rfl, rfl⟩⟩, rfl, rfl⟩, rfl⟩ (fun hg => r_neB) ?_
          first | refine l_rd r_or ?_ | refine l_rd r_pickB ?_ | refine l_rd r_pick ?_
          refine l_nil ?_
          refine x_then ?_
          refine c_false rfl ?_
          refine c_skip ?_
          refine x_then ?_
          refine c_seq ?_
          refine c_seq ?_
          refine c_region ?_
          refine l_rd r_move ?_
          refine l_rd r_eqNilP ?_
          refine l_nil ?_
          refine x_then ?_
          refine c_false rfl ?_
          refine c_skip ?_
          refine x_then ?_
          refine c_seq ?_
          refine c_region ?_
          refine l_rd r_move ?_
          refine l_rd r_move ?_
          first | refine l_rd r_load ?_ | refine l_rd r_loadE ?_ | refine l_rd (r_loadT (hj := by omega)) ?_
          first | refine l_rd r_load ?_ | refine l_rd r_loadE ?_ | refine l_rd (r_loadT (hj := by omega)) ?_
          refine l_call 23750 [(200, 21801)] (same_spec g gl gk xs gm root h Am cm l a b hks hw hok) Tryz.func12 (h := ?_)
          rintro _ _ (⟨rfl, rfl⟩)
          refine l_rd r_move ?_
          refine l_rd r_move ?_
          refine l_rd r_move ?_
          first | refine l_rd r_load ?_ | refine l_rd r_loadE ?_ | refine l_rd (r_loadT (hj := by omega)) ?_
          first | refine l_rd r_load ?_ | refine l_rd r_loadE ?_ | refine l_rd (r_loadT (hj := by omega)) ?_
          refine l_call 24050 [(200, 21801)] (same_spec g gl gk xs gm root h Am cm l b root hks hw hok) Tryz.func12 (h := ?_)
          rintro _ _ (⟨rfl, rfl⟩)
          first | refine l_rd r_and ?_ | refine l_rd r_pickB ?_ | refine l_rd r_pick ?_
          refine l_rd r_move ?_
          refine l_call 24200 [] (awake_spec) Tryz.func9 (h := ?_)
          rintro _ _ (⟨rfl, rfl⟩)
          first | refine l_rd r_and ?_ | refine l_rd r_pickB ?_ | refine l_rd r_pick ?_
          refine l_rd r_assign ?_
          refine l_nil ?_
          refine x_then ?_
          refine c_ret ?_
          refine k_ret [] _ (.cons (.tmp rfl) .nil) (h := ?_)
          exact ⟨rfl, rfl⟩
end Go.Proofs.YtehhnfpfefccaaaGreat
/- SYMBOLIC STATES: shifts. My own text; it names no program. -/


set_option linter.unusedVariables false
set_option linter.unusedSimpArgs false
set_option linter.unusedSectionVars false
namespace Go.Proofs.YtehhnfpfefccaaaGreat
namespace HL
open Go Go.RowKit
section
variable {P : Program} {env : List (Nat × TV)} {n : Nat} {B L : List (Nat × Res)}
variable {dst : Option Tmp} {ty : TypeId} {pos : String} {af : Array Edge} {gd : Option (Nat × Bool)} {x y : Operand} {T T' : TypeId}
theorem r_shr {k yk : IntKind} {p q : Int} (hx : ev env x = some (vi k p) := by rfl) (hy : ev env y = some (vi yk q) := by rfl) (h0 : 0 ≤ q := by omega) (h1 : q ≤ k.bits := by first | omega | decide) : Reads P ⟨dst, .binOp .shr T x y T', ty, pos, af, gd⟩ env n B L (vi k (p / 2 ^ q.toNat)) := fun a w ht _ => by
  unfold execOp
  have e1 : a.eval x = .int k p := ev_sound ht hx
  have e2 : a.eval y = .int yk q := ev_sound ht hy
  simp only [e1, e2]
  rw [Sem.run_bind]
  have : (do eqGuard .shr T x y (.int k p) (.int yk q); binOp .shr T (.int k p) (.int yk q) : Sem Value).run P w = .ok (.int k (p / 2 ^ q.toNat)) w := by
    simp only [eqGuard_shr, binOp_shr, shift_shr k yk p q h0 h1]
    rfl
  rw [this]
  rfl
end
end HL
end Go.Proofs.YtehhnfpfefccaaaGreat

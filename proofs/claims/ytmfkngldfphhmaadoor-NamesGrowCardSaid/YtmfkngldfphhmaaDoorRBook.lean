/-
  Walks of functions of the program, and what the laws need of them.
-/
import Derived.Test.YtmfkngldfphhmaaDoorRF
import Derived.Test.YtmfkngldfphhmaaDoorVG
set_option linter.all false
set_option linter.unusedSimpArgs false
set_option linter.unusedVariables false
set_option linter.unnecessarySimpa false
namespace Go.Proofs.YtmfkngldfphhmaaDoor
open Go Go.Proofs.YtmfkngldfphhmaaDoor.V Go.Proofs
section
attribute [local irreducible] TwS TwR thenT inBlockT retT
variable {G : World → Prop}
theorem ut_string : prog.underlying ty_string = some .string := by kernel_rfl
theorem ut_bool : prog.underlying ty_bool = some .bool := by kernel_rfl

def short (s : ByteArray) (n : Nat) : ByteArray := s.extract 0 (min s.size n)
theorem short_size (s : ByteArray) (n : Nat) : (short s n).size ≤ n := by simp only [short, ByteArray.size_extract]; omega
theorem short_spec (s : ByteArray) (n : Nat) : Pure prog G n_book_Short [.v (.string s), tI n] (.v (.string (short s n))) := by
  refine Pure.of mixedOk (fn := f_book_Short) rfl (by kernel_rfl) ok_book_Short rfl fun C hP hG hp => ?_
  simp only [fs_book_Short, targEnv, Nat.zero_add, Nat.reduceAdd]
  repeat' (first | refine ts_seq (fun K hK hW => ?_) | refine ts_reg ?_ | refine tr_nil ?_ | refine tr_ev rfl ?_ | refine use_K (by assumption) ?_ | refine tr_guard_u rfl ?_ | refine tr_guard_y rfl rfl ?_ | refine tr_guard_n rfl rfl ?_ | refine tr_alloc rfl ?_ | refine tr_store rfl rfl rfl rfl rfl rfl rfl ?_ | refine ts_cond_t rfl rfl ?_ | refine ts_cond_f rfl rfl ?_ | refine ts_nop ?_ | refine ts_block ?_ | refine ts_exit ?_ | refine ts_ret ?_ | refine th_exit ?_ | refine th_ret ?_ | refine bl_normal ?_ | refine bl_ret ?_ | refine bl_hit ?_ | refine bl_miss rfl ?_ | refine tret_of (.inr rfl) rfl ?_ | refine tr_light (tl_slS (by rw [hP]; exact ut_string) rfl rfl rfl (by simp only [Option.getD_none, Option.getD_some]; split <;> omega)) ?_ | fail)
  have e : (Option.none.getD (0 : Int)).toNat = 0 := rfl
  have e2 : ((some (if (n : Int) < (s.size : Int) then (n : Int) else (s.size : Int))).getD (s.size : Int)).toNat = min s.size n := by
    simp only [Option.getD_some]; split <;> omega
  rw [e, e2]
  exact .fr rfl
end
end Go.Proofs.YtmfkngldfphhmaaDoor

/- Contracts of small functions that many statements call: lists of ints, remainders. -/
import Derived.Test.YtebigkjilklodaaDoorRows
import Derived.Test.YtebigkjilklodaaDoorData
set_option linter.unusedVariables false
set_option linter.unusedSimpArgs false
namespace Go.Proofs.YtebigkjilklodaaDoor
open Go.RowKit

/-- A remainder that is at least 0, as the code computes it (the first branch for a negative one). -/
def modI (a m : Int) : Int := if a.tmod m < 0 then a.tmod m + m else a.tmod m
theorem modI_neg {a m : Int} (h : a.tmod m < 0) : modI a m = a.tmod m + m := if_pos h
theorem modI_pos {a m : Int} (h : 0 ≤ a.tmod m) : modI a m = a.tmod m := if_neg (by omega)
theorem modI_eq (a m : Int) (h : 0 < m) : modI a m = a % m := by
  have h1 := Int.emod_nonneg a (show m ≠ 0 by omega)
  have h2 := Int.emod_lt_of_pos a h
  have h3 := @Int.tmod_eq_emod a m
  unfold modI
  split at h3 <;> split <;> omega

set_option maxHeartbeats 400000 in
theorem mod02_any (a m : Int) (w : World) (hm : 1 ≤ m) (hm2 : m ≤ 9223372036854775807) :
    Calls Tryd.prog 62 #[.int .i64 a, .int .i64 m] w fun e w' => e = .returned (.int .i64 (modI a m)) ∧ w = w' := by
  have hlo := Int.tmod_lt_of_pos a (show 0 < m by omega)
  have hge := Int.lt_tmod_of_pos a (show 0 < m by omega)
  go_enter Tryd.func62, Tryd.ntmps62
  go_wp2
  · go_ret; exact ⟨ret_int (modI_neg (by assumption)).symm, rfl⟩
  · go_ret; exact ⟨ret_int (modI_pos (by assumption)).symm, rfl⟩




end Go.Proofs.YtebigkjilklodaaDoor

/- Contracts of small functions that many statements call: lists of ints, remainders. -/
import Derived.Test.YtkimcopmfhjjcaaRows
import Derived.Test.YtkimcopmfhjjcaaData
namespace Go.Proofs.Ytkimcopmfhjjcaa
open Go.RowKit

/-- A remainder that is at least 0, as the code computes it (the first branch for a negative one). -/
def modI (a m : Int) : Int := if a.tmod m < 0 then a.tmod m + m else a.tmod m
theorem modI_neg {a m : Int} (h : a.tmod m < 0) : modI a m = a.tmod m + m := if_pos h
theorem modI_pos {a m : Int} (h : 0 ≤ a.tmod m) : modI a m = a.tmod m := if_neg (by omega)
theorem modI_eq (a m : Int) (h : 0 < m) : modI a m = a % m := by
  have h1 := Int.emod_nonneg a (show m ≠ 0 by omega)
  have h2 := Int.emod_lt_of_pos a h
  have h3 := @Int.tmod_eq_emod a m
  unfold modI
  split at h3 <;> split <;> omega

set_option maxHeartbeats 400000 in
theorem mod02_any (a m : Int) (w : World) (hm : 1 ≤ m) (hm2 : m ≤ 9223372036854775807) :
    Calls Try.prog 23 #[.int .i64 a, .int .i64 m] w fun e w' => e = .returned (.int .i64 (modI a m)) ∧ w = w' := by
  have hlo := Int.tmod_lt_of_pos a (show 0 < m by omega)
  have hge := Int.lt_tmod_of_pos a (show 0 < m by omega)
  go_enter Try.func23, Try.ntmps23
  go_wp2
  · go_ret; exact ⟨ret_int (modI_neg (by assumption)).symm, rfl⟩
  · go_ret; exact ⟨ret_int (modI_pos (by assumption)).symm, rfl⟩

set_option maxHeartbeats 400000 in
theorem mod14_any (a m : Int) (w : World) (hm : 1 ≤ m) (hm2 : m ≤ 9223372036854775807) :
    Calls Try.prog 11 #[.int .i64 a, .int .i64 m] w fun e w' => e = .returned (.int .i64 (modI a m)) ∧ w = w' := by
  go_enter Try.func11, Try.ntmps11
  go_wp2_with (go_at_call 23; refine (mod02_any _ _ _ hm hm2).mono ?_; rintro e w' ⟨rfl, rfl⟩)
  go_ret
  exact ⟨rfl, rfl⟩


set_option maxHeartbeats 400000 in
theorem ints14_any (B1 B2 : Nat) (v1 v2 : Value) (l1 l2 : List Int) (w : World) (h1 : IntsAt B1 w v1 l1) (h2 : IntsAt B2 w v2 l2) (hl1 : l1.length ≤ 1000000000) (hl2 : l2.length ≤ 1000000000) :
    Calls Try.prog 10 #[v1, v2] w fun e w' => e = .returned (.bool (decide (l1 = l2))) ∧ Drew w w' := by
  obtain ⟨ao1, cap1, rfl, hc1⟩ := h1.open
  obtain ⟨ao2, cap2, rfl, hc2⟩ := h2.open
  clear h1 h2
  by_cases hlen : l1.length = l2.length
  · have hb : ((l1.length : Int) != l2.length) = false := by simp [hlen]
    have HL := Lib.hid hlen
    clear hlen
    go_enter Try.func10, Try.ntmps10
    go_wp2
    go_loopw [5] (fun i wr => ∃ k : Nat, k ≤ l1.length ∧ i = .int .i64 k ∧ Hid (l1.take k = l2.take k) ∧ Drew w wr) (fun i _ => l1.length - (intOf i).toNat)
    case atStart => exact ⟨0, Nat.zero_le _, rfl, rfl, Drew.refl _⟩
    case round =>
      obtain ⟨k, hk, rfl, ht, n, rfl⟩ := hrel
      by_cases hlt : k < l1.length
      · obtain ⟨b1, o1, rfl, _, g1⟩ := hc1 k hlt
        obtain ⟨b2, o2, rfl, _, g2⟩ := hc2 k (by have := HL.out; omega)
        have hlt2 : k < l2.length := by have := HL.out; omega
        have hi1 : (k : Int) < l1.length := by omega
        have hi2 : (k : Int) < l2.length := by omega
        go_wp2
        go_quiet (fail)
        go_wp2
        · go_ret
          have hne : ¬ l1[k] = l2[k] := by simpa using (show (l1[k] != l2[k]) = true by assumption)
          exact ⟨ret_bool (by symm; rw [decide_eq_false_iff_not]; rintro rfl; exact hne rfl), (Drew.n _ _).drewN _⟩
        · go_roundw
          have hne : l1[k] = l2[k] := by simpa using (show (l1[k] != l2[k]) = false by assumption)
          case rel => exact ⟨k + 1, by omega, by go_num, take_eq_succ ht.out hlt hlt2 hne, Drew.n _ _⟩
          case measure => simp [intOf]; omega
      · go_wp2
        go_ret
        exact ⟨ret_bool (by symm; rw [decide_eq_true_iff]; have := ht.out; rwa [List.take_of_length_le (by omega), List.take_of_length_le (by have := HL.out; omega)] at this), Drew.n _ _⟩
  · have hb : ((l1.length : Int) != l2.length) = true := by simp; omega
    go_enter Try.func10, Try.ntmps10
    go_wp2
    go_ret
    exact ⟨ret_bool (by symm; rw [decide_eq_false_iff_not]; rintro rfl; exact hlen rfl), Drew.refl _⟩

end Go.Proofs.Ytkimcopmfhjjcaa

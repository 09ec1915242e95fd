/- Which strings are names; which postings are right; small contracts on strings. -/
import Derived.Test.YtkimcopmfhjjcaaBase
import Derived.Test.YtkimcopmfhjjcaaShelf
namespace Go.Proofs.Ytkimcopmfhjjcaa
open Go.RowKit

/-- A string that may be a name. -/
def nameB (s : ByteArray) : Bool := decide (0 < s.size) && decide (s.size ≤ 100) && !decide (0 ≤ Lib.indexByte s.data.toList 10)

set_option maxHeartbeats 400000 in
theorem name_any (s : ByteArray) (w : World) (hs : s.size ≤ 9223372036854775807) :
    Calls Try.prog 36 #[.string s] w fun e w' => e = .returned (.bool (nameB s)) ∧ w' = w := by
  by_cases h0 : 0 < s.size
  · have d0 : decide ((s.size : Int) > 0) = true := decide_eq_true (by omega)
    by_cases h1 : s.size ≤ 100
    · have d1 : decide ((s.size : Int) ≤ 100) = true := decide_eq_true (by omega)
      have hv : nameB s = !decide (0 ≤ Lib.indexByte s.data.toList 10) := by unfold nameB; simp [h0, h1]
      have HV := Lib.hid hv
      clear hv
      have K := Try.strings_Contains_one s 10 w
      obtain ⟨b, hb⟩ : ∃ b, b = decide (0 ≤ Lib.indexByte s.data.toList 10) := ⟨_, rfl⟩
      rw [← hb] at HV K
      clear hb
      have KH := Lib.hid K
      clear K
      go_enter Try.func36, Try.ntmps36
      go_wp2_with (go_at_call 45; refine (KH.out).mono ?_; rintro e w' ⟨rfl, rfl⟩)
      go_ret
      exact ⟨ret_bool (by rw [HV.out]), rfl⟩
    · have d1 : decide ((s.size : Int) ≤ 100) = false := decide_eq_false (by omega)
      have hv : nameB s = false := by unfold nameB; simp [h1]
      have HV := Lib.hid hv
      clear hv
      go_enter Try.func36, Try.ntmps36
      go_wp2
      go_ret
      exact ⟨ret_bool (by rw [HV.out]), rfl⟩
  · have d0 : decide ((s.size : Int) > 0) = false := decide_eq_false (by omega)
    have hv : nameB s = false := by unfold nameB; simp [h0]
    have HV := Lib.hid hv
    clear hv
    go_enter Try.func36, Try.ntmps36
    go_wp2
    go_ret
    exact ⟨ret_bool (by rw [HV.out]), rfl⟩

/-- A posting. -/
structure Pst where
  key : ByteArray
  src : ByteArray
  dst : ByteArray
  amount : Int
def Pst.cells (p : Pst) : List Value := [.string p.key, .string p.src, .string p.dst, .int .i64 p.amount]
def Pst.val (p : Pst) : Value := .agg #[.string p.key, .string p.src, .string p.dst, .int .i64 p.amount]
/-- Its strings are no longer than strings can be, and its amount is an int. -/
def Pst.fits (p : Pst) : Prop := p.key.size ≤ 9223372036854775807 ∧ p.src.size ≤ 9223372036854775807 ∧ p.dst.size ≤ 9223372036854775807 ∧ -9223372036854775808 ≤ p.amount ∧ p.amount ≤ 9223372036854775807
def rightB (p : Pst) : Bool := nameB p.key && nameB p.src && nameB p.dst && !(p.src.toList == p.dst.toList) && decide (p.amount > 0) && decide (p.amount ≤ 1000000000)

set_option maxHeartbeats 1000000 in
theorem right_any (p : Pst) (w : World) (hf : p.fits) :
    Calls Try.prog 24 #[p.val] w fun e w' => e = .returned (.bool (rightB p)) ∧ w' = w.alloc (.cells p.cells.toArray 40) := by
  obtain ⟨key, src, dst, amount⟩ := p
  obtain ⟨h1, h2, h3, h4, h5⟩ := hf
  unfold Pst.cells Pst.val
  dsimp only at *
  have rB : rightB ⟨key, src, dst, amount⟩ = (nameB key && nameB src && nameB dst && !(src.toList == dst.toList) && decide (amount > 0) && decide (amount ≤ 1000000000)) := rfl
  obtain ⟨v, hv⟩ : ∃ v, v = rightB ⟨key, src, dst, amount⟩ := ⟨_, rfl⟩
  rw [← hv]
  rw [← hv] at rB
  clear hv
  cases n1 : nameB key with
  | false =>
    have HV : Hid (v = false) := (show _ = _ by rw [rB]; simp [n1])
    clear rB
    go_enter Try.func24, Try.ntmps24
    go_wp2_with (first | (go_at_call 36; refine (name_any _ _ (by assumption)).mono ?_; rintro e w' ⟨rfl, rfl⟩))
    go_ret
    exact ⟨ret_bool HV.out.symm, rfl⟩
  | true =>
  cases n2 : nameB src with
  | false =>
    have HV : Hid (v = false) := (show _ = _ by rw [rB]; simp [n1, n2])
    clear rB
    go_enter Try.func24, Try.ntmps24
    go_wp2_with (first | (go_at_call 36; refine (name_any _ _ (by assumption)).mono ?_; rintro e w' ⟨rfl, rfl⟩))
    go_ret
    exact ⟨ret_bool HV.out.symm, rfl⟩
  | true =>
  cases n3 : nameB dst with
  | false =>
    have HV : Hid (v = false) := (show _ = _ by rw [rB]; simp [n1, n2, n3])
    clear rB
    go_enter Try.func24, Try.ntmps24
    go_wp2_with (first | (go_at_call 36; refine (name_any _ _ (by assumption)).mono ?_; rintro e w' ⟨rfl, rfl⟩))
    go_ret
    exact ⟨ret_bool HV.out.symm, rfl⟩
  | true =>
  cases q : (src.toList == dst.toList) with
  | true =>
    have HV : Hid (v = false) := (show _ = _ by rw [rB]; simp only [n1, n2, n3, q]; rfl)
    clear rB
    go_enter Try.func24, Try.ntmps24
    go_wp2_with (first | (go_at_call 36; refine (name_any _ _ (by assumption)).mono ?_; rintro e w' ⟨rfl, rfl⟩))
    go_ret
    exact ⟨ret_bool HV.out.symm, rfl⟩
  | false =>
  cases r : decide (amount > 0) with
  | false =>
    have HV : Hid (v = false) := (show _ = _ by rw [rB]; simp only [n1, n2, n3, q, r]; rfl)
    clear rB
    go_enter Try.func24, Try.ntmps24
    go_wp2_with (first | (go_at_call 36; refine (name_any _ _ (by assumption)).mono ?_; rintro e w' ⟨rfl, rfl⟩))
    go_ret
    exact ⟨ret_bool HV.out.symm, rfl⟩
  | true =>
  cases t : decide (amount ≤ 1000000000) with
  | false =>
    have HV : Hid (v = false) := (show _ = _ by rw [rB]; simp only [n1, n2, n3, q, r, t]; rfl)
    clear rB
    go_enter Try.func24, Try.ntmps24
    go_wp2_with (first | (go_at_call 36; refine (name_any _ _ (by assumption)).mono ?_; rintro e w' ⟨rfl, rfl⟩))
    go_ret
    exact ⟨ret_bool HV.out.symm, rfl⟩
  | true =>
    have HV : Hid (v = true) := (show _ = _ by rw [rB]; simp only [n1, n2, n3, q, r, t]; rfl)
    clear rB
    go_enter Try.func24, Try.ntmps24
    go_wp2_with (first | (go_at_call 36; refine (name_any _ _ (by assumption)).mono ?_; rintro e w' ⟨rfl, rfl⟩))
    go_ret
    exact ⟨ret_bool HV.out.symm, rfl⟩

end Go.Proofs.Ytkimcopmfhjjcaa

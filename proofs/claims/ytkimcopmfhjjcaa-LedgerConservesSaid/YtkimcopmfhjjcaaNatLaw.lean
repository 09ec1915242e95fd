/- Natural numbers as strings of bytes, the most significant one first; decimals. No program in sight. -/
import Derived.Test.YtkimcopmfhjjcaaData
namespace Go.Proofs.Ytkimcopmfhjjcaa

/-- The number that bytes stand for. -/
def valB (l : List UInt8) : Nat := l.foldl (fun n b => n * 256 + b.toNat) 0
theorem valB_nil : valB [] = 0 := rfl
theorem valB_snoc (l : List UInt8) (b : UInt8) : valB (l ++ [b]) = valB l * 256 + b.toNat := by simp [valB, List.foldl_append]
/-- Without zeros in front. -/
def dropZ (l : List UInt8) : List UInt8 := l.dropWhile (· == 0)
/-- The bytes of a number, without zeros in front. -/
def natB (n : Nat) : List UInt8 := if n = 0 then [] else natB (n / 256) ++ [UInt8.ofNat (n % 256)]
  termination_by n
  decreasing_by omega
theorem natB_zero : natB 0 = [] := by rw [natB]; simp
theorem natB_pos {n : Nat} (h : 0 < n) : natB n = natB (n / 256) ++ [UInt8.ofNat (n % 256)] := by rw [natB]; rw [if_neg (by omega)]
theorem byte_toNat {n : Nat} (h : n < 256) : (UInt8.ofNat n).toNat = n := by simp; omega
theorem valB_natB (n : Nat) : valB (natB n) = n := by
  induction n using Nat.strongRecOn with
  | _ n ih =>
    by_cases h : n = 0
    · subst h; rw [natB_zero]; rfl
    · rw [natB_pos (by omega), valB_snoc, ih (n / 256) (by omega), byte_toNat (by omega)]; omega
theorem dropZ_snoc (l : List UInt8) (b : UInt8) : dropZ (l ++ [b]) = if dropZ l = [] then (if b = 0 then [] else [b]) else dropZ l ++ [b] := by
  induction l with
  | nil =>
    by_cases h : b = 0
    · subst h; rfl
    · simp [dropZ, h]
  | cons x l ih =>
    by_cases h : x = 0
    · subst h
      have e1 : dropZ (0 :: l) = dropZ l := by simp [dropZ]
      have e2 : dropZ (0 :: l ++ [b]) = dropZ (l ++ [b]) := by simp [dropZ]
      rw [e1, e2, ih]
    · simp [dropZ, h]
theorem snoc_cases {α : Type} (l : List α) : l = [] ∨ ∃ r b, l = r ++ [b] := by
  rcases List.eq_nil_or_concat l with h | ⟨r, b, h⟩
  · exact .inl h
  · exact .inr ⟨r, b, by simpa using h⟩
theorem dropZ_eq (l : List UInt8) : dropZ l = natB (valB l) := by
  generalize hn : l.length = n
  induction n generalizing l with
  | zero => have : l = [] := List.eq_nil_of_length_eq_zero hn; subst this; rw [valB_nil, natB_zero]; rfl
  | succ n ih =>
    rcases snoc_cases l with rfl | ⟨r, b, rfl⟩
    · simp at hn
    · have hr := ih r (by simpa using hn)
      rw [dropZ_snoc, valB_snoc, hr]
      have hb := b.toNat_lt
      by_cases h0 : valB r = 0
      · rw [h0, natB_zero, if_pos rfl, Nat.zero_mul, Nat.zero_add]
        by_cases hb0 : b = 0
        · subst hb0; rw [if_pos rfl]; exact natB_zero.symm
        · have : b.toNat ≠ 0 := fun e => hb0 (UInt8.toNat_inj.1 (by simpa using e))
          rw [if_neg hb0, natB_pos (by omega), show b.toNat / 256 = 0 by omega, natB_zero, show b.toNat % 256 = b.toNat by omega]
          simp
      · rw [if_neg, natB_pos (n := valB r * 256 + b.toNat) (by omega), show (valB r * 256 + b.toNat) / 256 = valB r by omega, show (valB r * 256 + b.toNat) % 256 = b.toNat by omega]
        · simp
        · intro e
          have := valB_natB (valB r)
          rw [e, valB_nil] at this; omega
theorem valB_dropZ (l : List UInt8) : valB (dropZ l) = valB l := by rw [dropZ_eq, valB_natB]
theorem dropZ_natB (n : Nat) : dropZ (natB n) = natB n := by rw [dropZ_eq, valB_natB]
theorem valB_lt (l : List UInt8) : valB l < 256 ^ l.length := by
  generalize hn : l.length = n
  induction n generalizing l with
  | zero => have : l = [] := List.eq_nil_of_length_eq_zero hn; subst this; simp [valB]
  | succ n ih =>
    rcases snoc_cases l with rfl | ⟨r, b, rfl⟩
    · simp at hn
    · have hr := ih r (by simpa using hn)
      have hb := b.toNat_lt
      rw [valB_snoc, Nat.pow_succ]
      omega
theorem natB_length_le {n k : Nat} (h : n < 256 ^ k) : (natB n).length ≤ k := by
  induction k generalizing n with
  | zero => have : n = 0 := by simpa using h
            subst this; rw [natB_zero]; simp
  | succ k ih =>
    by_cases h0 : n = 0
    · subst h0; rw [natB_zero]; simp
    · rw [natB_pos (by omega), List.length_append]
      have := ih (n := n / 256) (by rw [Nat.pow_succ] at h; omega)
      simp; omega
theorem natB_length_gt {n k : Nat} (h : 256 ^ k ≤ n) : k < (natB n).length := by
  by_cases hk : k < (natB n).length
  · exact hk
  · have := valB_lt (natB n)
    rw [valB_natB] at this
    have := Nat.pow_le_pow_right (show 0 < 256 by omega) (show (natB n).length ≤ k by omega)
    omega
theorem natB_length_size (n : Nat) : (natB n).length ≤ n := by
  induction n using Nat.strongRecOn with
  | _ n ih =>
    by_cases h : n = 0
    · subst h; rw [natB_zero]; simp
    · rw [natB_pos (by omega), List.length_append]
      have := ih (n / 256) (by omega)
      simp; omega
theorem natB_ne {n : Nat} (h : 0 < n) : natB n ≠ [] := by rw [natB_pos h]; simp
/-- The first byte of a list, times its place, is no more than the number. -/
theorem valB_cons (b : UInt8) (l : List UInt8) : valB (b :: l) = b.toNat * 256 ^ l.length + valB l := by
  generalize hn : l.length = n
  induction n generalizing l with
  | zero => have : l = [] := List.eq_nil_of_length_eq_zero hn; subst this; simp [valB]
  | succ n ih =>
    rcases snoc_cases l with rfl | ⟨r, c, rfl⟩
    · simp at hn
    · have hr := ih r (by simpa using hn)
      rw [show b :: (r ++ [c]) = (b :: r) ++ [c] from rfl, valB_snoc, valB_snoc, hr, Nat.pow_succ, Nat.add_mul, Nat.mul_assoc]
      omega

/-- A number as a string. -/
def natS (n : Nat) : ByteArray := ⟨(natB n).toArray⟩
theorem natS_list (n : Nat) : (natS n).data.toList = natB n := by simp [natS]
theorem natS_size (n : Nat) : (natS n).size = (natB n).length := by simp [natS, ByteArray.size]
theorem natS_zero : natS 0 = ⟨#[]⟩ := by unfold natS; rw [natB_zero]

/-- The decimal digits of a number; none for 0. -/
def decP (n : Nat) : List UInt8 := if n = 0 then [] else decP (n / 10) ++ [UInt8.ofNat (48 + n % 10)]
  termination_by n
  decreasing_by omega
theorem decP_zero : decP 0 = [] := by rw [decP]; simp
theorem decP_pos {n : Nat} (h : 0 < n) : decP n = decP (n / 10) ++ [UInt8.ofNat (48 + n % 10)] := by rw [decP]; rw [if_neg (by omega)]
theorem decP_length (n : Nat) : (decP n).length ≤ n := by
  induction n using Nat.strongRecOn with
  | _ n ih =>
    by_cases h : n = 0
    · subst h; rw [decP_zero]; simp
    · rw [decP_pos (by omega), List.length_append]
      have := ih (n / 10) (by omega)
      simp; omega
/-- A number in decimal. -/
def decB (n : Nat) : List UInt8 := if n = 0 then [48] else decP n
def decS (n : Nat) : ByteArray := ⟨(decB n).toArray⟩
theorem decB_length (n : Nat) : (decB n).length ≤ n + 1 := by
  unfold decB; split
  · simp
  · have := decP_length n; omega

/-- The eight bytes of a number. -/
def be8 (n : Nat) : List Nat := [n / 2 ^ 56 % 256, n / 2 ^ 48 % 256, n / 2 ^ 40 % 256, n / 2 ^ 32 % 256, n / 2 ^ 24 % 256, n / 2 ^ 16 % 256, n / 2 ^ 8 % 256, n / 2 ^ 0 % 256]
theorem be8_val {n : Nat} (h : n < 2 ^ 64) : valB ((be8 n).map UInt8.ofNat) = n := by
  simp only [be8, valB, List.map_cons, List.map_nil, List.foldl_cons, List.foldl_nil, byte_toNat (Nat.mod_lt _ (show 0 < 256 by omega))]
  omega

end Go.Proofs.Ytkimcopmfhjjcaa

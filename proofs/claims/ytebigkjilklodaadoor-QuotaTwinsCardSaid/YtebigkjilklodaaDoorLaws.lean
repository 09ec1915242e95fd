/- Natural numbers as strings of bytes, the most significant one first; decimals. No program in sight. -/
import Derived.Test.YtebigkjilklodaaDoorData
set_option linter.unusedVariables false
set_option linter.unusedSimpArgs false
namespace Go.Proofs.YtebigkjilklodaaDoor

/-- The number that bytes stand for. -/
def valB (l : List UInt8) : Nat := l.foldl (fun n b => n * 256 + b.toNat) 0
theorem valB_nil : valB [] = 0 := rfl
theorem valB_snoc (l : List UInt8) (b : UInt8) : valB (l ++ [b]) = valB l * 256 + b.toNat := by simp [valB, List.foldl_append]
/-- Without zeros in front. -/
def dropZ (l : List UInt8) : List UInt8 := l.dropWhile (· == 0)
/-- The bytes of a number, without zeros in front. -/
def natB (n : Nat) : List UInt8 := if n = 0 then [] else natB (n / 256) ++ [UInt8.ofNat (n % 256)]
  termination_by n
  decreasing_by omega
theorem natB_zero : natB 0 = [] := by rw [natB]; simp
theorem natB_pos {n : Nat} (h : 0 < n) : natB n = natB (n / 256) ++ [UInt8.ofNat (n % 256)] := by rw [natB]; rw [if_neg (by omega)]
theorem byte_toNat {n : Nat} (h : n < 256) : (UInt8.ofNat n).toNat = n := by simp; omega
theorem valB_natB (n : Nat) : valB (natB n) = n := by
  induction n using Nat.strongRecOn with
  | _ n ih =>
    by_cases h : n = 0
    · subst h; rw [natB_zero]; rfl
    · rw [natB_pos (by omega), valB_snoc, ih (n / 256) (by omega), byte_toNat (by omega)]; omega
theorem dropZ_snoc (l : List UInt8) (b : UInt8) : dropZ (l ++ [b]) = if dropZ l = [] then (if b = 0 then [] else [b]) else dropZ l ++ [b] := by
  induction l with
  | nil =>
    by_cases h : b = 0
    · subst h; rfl
    · simp [dropZ, h]
  | cons x l ih =>
    by_cases h : x = 0
    · subst h
      have e1 : dropZ (0 :: l) = dropZ l := by simp [dropZ]
      have e2 : dropZ (0 :: l ++ [b]) = dropZ (l ++ [b]) := by simp [dropZ]
      rw [e1, e2, ih]
    · simp [dropZ, h]
theorem snoc_cases {α : Type} (l : List α) : l = [] ∨ ∃ r b, l = r ++ [b] := by
  rcases List.eq_nil_or_concat l with h | ⟨r, b, h⟩
  · exact .inl h
  · exact .inr ⟨r, b, by simpa using h⟩
theorem dropZ_eq (l : List UInt8) : dropZ l = natB (valB l) := by
  generalize hn : l.length = n
  induction n generalizing l with
  | zero => have : l = [] := List.eq_nil_of_length_eq_zero hn; subst this; rw [valB_nil, natB_zero]; rfl
  | succ n ih =>
    rcases snoc_cases l with rfl | ⟨r, b, rfl⟩
    · simp at hn
    · have hr := ih r (by simpa using hn)
      rw [dropZ_snoc, valB_snoc, hr]
      have hb := b.toNat_lt
      by_cases h0 : valB r = 0
      · rw [h0, natB_zero, if_pos rfl, Nat.zero_mul, Nat.zero_add]
        by_cases hb0 : b = 0
        · subst hb0; rw [if_pos rfl]; exact natB_zero.symm
        · have : b.toNat ≠ 0 := fun e => hb0 (UInt8.toNat_inj.1 (by simpa using e))
          rw [if_neg hb0, natB_pos (by omega), show b.toNat / 256 = 0 by omega, natB_zero, show b.toNat % 256 = b.toNat by omega]
          simp
      · rw [if_neg, natB_pos (n := valB r * 256 + b.toNat) (by omega), show (valB r * 256 + b.toNat) / 256 = valB r by omega, show (valB r * 256 + b.toNat) % 256 = b.toNat by omega]
        · simp
        · intro e
          have := valB_natB (valB r)
          rw [e, valB_nil] at this; omega
theorem valB_dropZ (l : List UInt8) : valB (dropZ l) = valB l := by rw [dropZ_eq, valB_natB]
theorem dropZ_natB (n : Nat) : dropZ (natB n) = natB n := by rw [dropZ_eq, valB_natB]
theorem valB_lt (l : List UInt8) : valB l < 256 ^ l.length := by
  generalize hn : l.length = n
  induction n generalizing l with
  | zero => have : l = [] := List.eq_nil_of_length_eq_zero hn; subst this; simp [valB]
  | succ n ih =>
    rcases snoc_cases l with rfl | ⟨r, b, rfl⟩
    · simp at hn
    · have hr := ih r (by simpa using hn)
      have hb := b.toNat_lt
      rw [valB_snoc, Nat.pow_succ]
      omega
theorem natB_length_le {n k : Nat} (h : n < 256 ^ k) : (natB n).length ≤ k := by
  induction k generalizing n with
  | zero => have : n = 0 := by simpa using h
            subst this; rw [natB_zero]; simp
  | succ k ih =>
    by_cases h0 : n = 0
    · subst h0; rw [natB_zero]; simp
    · rw [natB_pos (by omega), List.length_append]
      have := ih (n := n / 256) (by rw [Nat.pow_succ] at h; omega)
      simp; omega
theorem natB_length_gt {n k : Nat} (h : 256 ^ k ≤ n) : k < (natB n).length := by
  by_cases hk : k < (natB n).length
  · exact hk
  · have := valB_lt (natB n)
    rw [valB_natB] at this
    have := Nat.pow_le_pow_right (show 0 < 256 by omega) (show (natB n).length ≤ k by omega)
    omega
theorem natB_length_size (n : Nat) : (natB n).length ≤ n := by
  induction n using Nat.strongRecOn with
  | _ n ih =>
    by_cases h : n = 0
    · subst h; rw [natB_zero]; simp
    · rw [natB_pos (by omega), List.length_append]
      have := ih (n / 256) (by omega)
      simp; omega
theorem natB_ne {n : Nat} (h : 0 < n) : natB n ≠ [] := by rw [natB_pos h]; simp
/-- The first byte of a list, times its place, is no more than the number. -/
theorem valB_cons (b : UInt8) (l : List UInt8) : valB (b :: l) = b.toNat * 256 ^ l.length + valB l := by
  generalize hn : l.length = n
  induction n generalizing l with
  | zero => have : l = [] := List.eq_nil_of_length_eq_zero hn; subst this; simp [valB]
  | succ n ih =>
    rcases snoc_cases l with rfl | ⟨r, c, rfl⟩
    · simp at hn
    · have hr := ih r (by simpa using hn)
      rw [show b :: (r ++ [c]) = (b :: r) ++ [c] from rfl, valB_snoc, valB_snoc, hr, Nat.pow_succ, Nat.add_mul, Nat.mul_assoc]
      omega

/-- A number as a string. -/
def natS (n : Nat) : ByteArray := ⟨(natB n).toArray⟩
theorem natS_list (n : Nat) : (natS n).data.toList = natB n := by simp [natS]
theorem natS_size (n : Nat) : (natS n).size = (natB n).length := by simp [natS, ByteArray.size]
theorem natS_zero : natS 0 = ⟨#[]⟩ := by unfold natS; rw [natB_zero]

/-- The decimal digits of a number; none for 0. -/
def decP (n : Nat) : List UInt8 := if n = 0 then [] else decP (n / 10) ++ [UInt8.ofNat (48 + n % 10)]
  termination_by n
  decreasing_by omega
theorem decP_zero : decP 0 = [] := by rw [decP]; simp
theorem decP_pos {n : Nat} (h : 0 < n) : decP n = decP (n / 10) ++ [UInt8.ofNat (48 + n % 10)] := by rw [decP]; rw [if_neg (by omega)]
theorem decP_length (n : Nat) : (decP n).length ≤ n := by
  induction n using Nat.strongRecOn with
  | _ n ih =>
    by_cases h : n = 0
    · subst h; rw [decP_zero]; simp
    · rw [decP_pos (by omega), List.length_append]
      have := ih (n / 10) (by omega)
      simp; omega
/-- A number in decimal. -/
def decB (n : Nat) : List UInt8 := if n = 0 then [48] else decP n
def decS (n : Nat) : ByteArray := ⟨(decB n).toArray⟩
theorem decB_length (n : Nat) : (decB n).length ≤ n + 1 := by
  unfold decB; split
  · simp
  · have := decP_length n; omega

/-- The eight bytes of a number. -/
def be8 (n : Nat) : List Nat := [n / 2 ^ 56 % 256, n / 2 ^ 48 % 256, n / 2 ^ 40 % 256, n / 2 ^ 32 % 256, n / 2 ^ 24 % 256, n / 2 ^ 16 % 256, n / 2 ^ 8 % 256, n / 2 ^ 0 % 256]
theorem be8_val {n : Nat} (h : n < 2 ^ 64) : valB ((be8 n).map UInt8.ofNat) = n := by
  simp only [be8, valB, List.map_cons, List.map_nil, List.foldl_cons, List.foldl_nil, byte_toNat (Nat.mod_lt _ (show 0 < 256 by omega))]
  omega

end Go.Proofs.YtebigkjilklodaaDoor

/- Natural numbers as digits to the base 2^32, the least significant one first. No program in sight. -/
namespace Go.Proofs.YtebigkjilklodaaDoor

/-- The number that digits stand for. -/
def valL : List Nat → Nat
  | [] => 0
  | d :: l => d + 4294967296 * valL l
/-- All are digits. -/
def Dig (l : List Nat) : Prop := ∀ d ∈ l, d < 4294967296
theorem Dig.nil : Dig [] := fun d h => by simp at h
theorem Dig.cons {d : Nat} {l : List Nat} (h : d < 4294967296) (k : Dig l) : Dig (d :: l) := fun x hx => by
  rcases List.mem_cons.1 hx with rfl | hx
  · exact h
  · exact k x hx
theorem Dig.tail {d : Nat} {l : List Nat} (h : Dig (d :: l)) : Dig l := fun x hx => h x (List.mem_cons_of_mem _ hx)
theorem Dig.head {d : Nat} {l : List Nat} (h : Dig (d :: l)) : d < 4294967296 := h d (List.mem_cons_self ..)
theorem Dig.append {a b : List Nat} (h : Dig a) (k : Dig b) : Dig (a ++ b) := fun x hx => by
  rcases List.mem_append.1 hx with hx | hx
  · exact h x hx
  · exact k x hx
theorem Dig.left {a b : List Nat} (h : Dig (a ++ b)) : Dig a := fun x hx => h x (List.mem_append_left _ hx)
theorem Dig.right {a b : List Nat} (h : Dig (a ++ b)) : Dig b := fun x hx => h x (List.mem_append_right _ hx)
theorem Dig.one {d : Nat} (h : d < 4294967296) : Dig [d] := Dig.cons h Dig.nil
theorem Dig.take {l : List Nat} (h : Dig l) (k : Nat) : Dig (l.take k) := fun x hx => h x (List.mem_of_mem_take hx)
theorem Dig.drop {l : List Nat} (h : Dig l) (k : Nat) : Dig (l.drop k) := fun x hx => h x (List.mem_of_mem_drop hx)
theorem Dig.zeros (k : Nat) : Dig (List.replicate k 0) := fun x hx => by rw [List.eq_of_mem_replicate hx]; omega
theorem Dig.at {l : List Nat} (h : Dig l) (k : Nat) : l[k]?.getD 0 < 4294967296 := by
  cases hk : l[k]? with
  | none => simp
  | some x => exact h x (List.mem_of_getElem? hk)
theorem Dig.set {l : List Nat} (h : Dig l) (k d : Nat) (hd : d < 4294967296) : Dig (l.set k d) := fun x hx => by
  rcases List.mem_or_eq_of_mem_set hx with hx | rfl
  · exact h x hx
  · exact hd

theorem valL_append (a b : List Nat) : valL (a ++ b) = valL a + 4294967296 ^ a.length * valL b := by
  induction a with
  | nil => simp [valL]
  | cons d a ih =>
    simp only [List.cons_append, valL, ih, List.length_cons, Nat.pow_succ]
    rw [Nat.mul_add, Nat.mul_comm (4294967296 ^ a.length) 4294967296, Nat.mul_assoc]
    omega
theorem valL_snoc (a : List Nat) (d : Nat) : valL (a ++ [d]) = valL a + 4294967296 ^ a.length * d := by rw [valL_append]; simp [valL]
theorem valL_zeros (k : Nat) : valL (List.replicate k 0) = 0 := by
  induction k with
  | zero => rfl
  | succ k ih => rw [List.replicate_succ, valL, ih]
theorem valL_pad (a : List Nat) (k : Nat) : valL (a ++ List.replicate k 0) = valL a := by rw [valL_append, valL_zeros]; simp
theorem valL_lt {l : List Nat} (h : Dig l) : valL l < 4294967296 ^ l.length := by
  induction l with
  | nil => simp [valL]
  | cons d l ih =>
    have h1 := ih h.tail
    have h2 := h.head
    rw [valL, List.length_cons, Nat.pow_succ, Nat.mul_comm]
    omega
theorem valL_take_drop (l : List Nat) (k : Nat) (h : k ≤ l.length) : valL l = valL (l.take k) + 4294967296 ^ k * valL (l.drop k) := by
  have := valL_append (l.take k) (l.drop k)
  rw [List.take_append_drop, List.length_take, Nat.min_eq_left h] at this
  exact this
theorem valL_take_succ (l : List Nat) (k : Nat) (h : k < l.length) : valL (l.take (k + 1)) = valL (l.take k) + 4294967296 ^ k * (l[k]?.getD 0) := by
  rw [List.take_add_one, List.getElem?_eq_getElem h]
  show valL (_ ++ [_]) = _
  rw [valL_snoc, List.length_take, Nat.min_eq_left (by omega)]
  rfl
theorem valL_take_over (l : List Nat) (k : Nat) (h : l.length ≤ k) : valL (l.take (k + 1)) = valL (l.take k) + 4294967296 ^ k * (l[k]?.getD 0) := by
  rw [List.take_of_length_le (by omega), List.take_of_length_le h, List.getElem?_eq_none h]; simp
theorem valL_take_next (l : List Nat) (k : Nat) : valL (l.take (k + 1)) = valL (l.take k) + 4294967296 ^ k * (l[k]?.getD 0) := by
  by_cases h : k < l.length
  · exact valL_take_succ l k h
  · exact valL_take_over l k (by omega)

/-- The digits of a number, without zeros at the end. -/
def limbs (n : Nat) : List Nat := if n = 0 then [] else n % 4294967296 :: limbs (n / 4294967296)
  termination_by n
  decreasing_by omega
theorem limbs_zero : limbs 0 = [] := by rw [limbs]; simp
theorem limbs_pos {n : Nat} (h : 0 < n) : limbs n = n % 4294967296 :: limbs (n / 4294967296) := by rw [limbs, if_neg (by omega)]
theorem valL_limbs (n : Nat) : valL (limbs n) = n := by
  induction n using Nat.strongRecOn with
  | _ n ih =>
    by_cases h : n = 0
    · subst h; rw [limbs_zero]; rfl
    · rw [limbs_pos (by omega), valL, ih (n / 4294967296) (by omega)]; omega
theorem limbs_dig (n : Nat) : Dig (limbs n) := by
  induction n using Nat.strongRecOn with
  | _ n ih =>
    by_cases h : n = 0
    · subst h; rw [limbs_zero]; exact Dig.nil
    · rw [limbs_pos (by omega)]; exact Dig.cons (by omega) (ih _ (by omega))
theorem limbs_ne {n : Nat} (h : 0 < n) : limbs n ≠ [] := by rw [limbs_pos h]; simp
theorem limbs_inj {a b : Nat} (h : limbs a = limbs b) : a = b := by rw [← valL_limbs a, h, valL_limbs]
theorem limbs_len_le {n k : Nat} (h : n < 4294967296 ^ k) : (limbs n).length ≤ k := by
  induction k generalizing n with
  | zero => have : n = 0 := by simpa using h
            subst this; rw [limbs_zero]; simp
  | succ k ih =>
    by_cases h0 : n = 0
    · subst h0; rw [limbs_zero]; simp
    · rw [limbs_pos (by omega), List.length_cons]
      have := ih (n := n / 4294967296) (by rw [Nat.pow_succ] at h; omega)
      omega
theorem limbs_len_gt {n k : Nat} (h : 4294967296 ^ k ≤ n) : k < (limbs n).length := by
  by_cases hk : k < (limbs n).length
  · exact hk
  · have := valL_lt (limbs_dig n)
    rw [valL_limbs] at this
    have := Nat.pow_le_pow_right (show 0 < 4294967296 by omega) (show (limbs n).length ≤ k by omega)
    omega
theorem limbs_small {n : Nat} (h0 : 0 < n) (h : n < 4294967296) : limbs n = [n] := by
  rw [limbs_pos h0, show n / 4294967296 = 0 by omega, limbs_zero, show n % 4294967296 = n by omega]
/-- The last digit, if there is one, is not 0. -/
def Top (l : List Nat) : Prop := l.getLast? ≠ some 0
theorem Top.tail {d e : Nat} {l : List Nat} (h : Top (d :: e :: l)) : Top (e :: l) := by unfold Top at *; rwa [List.getLast?_cons_cons] at h
theorem valL_pos : ∀ {l : List Nat}, Top l → l ≠ [] → 0 < valL l
  | [], _, h => absurd rfl h
  | [d], h, _ => by
    have : d ≠ 0 := fun e => h (by rw [e]; rfl)
    simp [valL]; omega
  | d :: e :: l, h, _ => by
    have := valL_pos h.tail (by simp)
    rw [valL]; omega
theorem limbs_valL : ∀ {l : List Nat}, Dig l → Top l → limbs (valL l) = l
  | [], _, _ => by rw [valL, limbs_zero]
  | [d], hd, h => by
    have h0 : d ≠ 0 := fun e => h (by rw [e]; rfl)
    have h1 := hd.head
    rw [show valL [d] = d by simp [valL]]
    exact limbs_small (by omega) h1
  | d :: e :: l, hd, h => by
    have h1 := hd.head
    have h2 := valL_pos h.tail (by simp)
    have ih := limbs_valL hd.tail h.tail
    have e1 : valL (d :: e :: l) = d + 4294967296 * valL (e :: l) := rfl
    rw [e1, limbs_pos (by omega), show (d + 4294967296 * valL (e :: l)) % 4294967296 = d by omega, show (d + 4294967296 * valL (e :: l)) / 4294967296 = valL (e :: l) by omega, ih]
theorem limbs_top (n : Nat) : Top (limbs n) := by
  induction n using Nat.strongRecOn with
  | _ n ih =>
    by_cases h : n = 0
    · subst h; rw [limbs_zero]; simp [Top]
    · rw [limbs_pos (by omega)]
      by_cases h2 : n / 4294967296 = 0
      · rw [h2, limbs_zero]
        unfold Top
        simp
        omega
      · have := ih (n / 4294967296) (by omega)
        have hne := limbs_ne (n := n / 4294967296) (by omega)
        obtain ⟨e, l, hl⟩ := List.exists_cons_of_ne_nil hne
        rw [hl] at this ⊢
        unfold Top at *
        rwa [List.getLast?_cons_cons]
theorem snoc_casesN (l : List Nat) : l = [] ∨ ∃ r b, l = r ++ [b] := snoc_cases l
/-- Digits are those of their number, and zeros. -/
theorem digits_split (l : List Nat) (hd : Dig l) : (limbs (valL l)).length ≤ l.length ∧ l = limbs (valL l) ++ List.replicate (l.length - (limbs (valL l)).length) 0 := by
  generalize hn : l.length = n
  induction n generalizing l with
  | zero => have : l = [] := List.eq_nil_of_length_eq_zero hn; subst this; rw [valL, limbs_zero]; simp
  | succ n ih =>
    rcases snoc_casesN l with rfl | ⟨r, b, rfl⟩
    · simp at hn
    · by_cases hb : b = 0
      · subst hb
        obtain ⟨h1, h2⟩ := ih r hd.left (by simpa using hn)
        have e : valL (r ++ [0]) = valL r := by rw [valL_snoc]; simp
        rw [e]
        refine ⟨by omega, ?_⟩
        rw [show n + 1 - (limbs (valL r)).length = (n - (limbs (valL r)).length) + 1 by omega, List.replicate_succ', ← List.append_assoc, ← h2]
      · have e := limbs_valL hd (by unfold Top; simp; exact hb)
        rw [e, hn]
        simp
theorem limbs_at_last {n : Nat} (h : 0 < n) : (limbs n)[(limbs n).length - 1]?.getD 0 ≠ 0 := by
  have ht := limbs_top n
  unfold Top at ht
  rw [List.getLast?_eq_getElem?] at ht
  cases hk : (limbs n)[(limbs n).length - 1]? with
  | none =>
    rw [List.getElem?_eq_none_iff] at hk
    have := List.length_pos_iff.2 (limbs_ne h)
    omega
  | some x => rw [hk] at ht; simpa using ht

/-- The last digits of a number. -/
def digs (m x : Nat) : List Nat := (List.range m).map fun j => x / 4294967296 ^ j % 4294967296
theorem digs_length (m x : Nat) : (digs m x).length = m := by simp [digs]
theorem digs_succ (m x : Nat) : digs (m + 1) x = digs m x ++ [x / 4294967296 ^ m % 4294967296] := by simp [digs, List.range_succ]
theorem digs_dig (m x : Nat) : Dig (digs m x) := by
  intro d hd
  simp only [digs, List.mem_map] at hd
  obtain ⟨j, _, rfl⟩ := hd
  exact Nat.mod_lt _ (by omega)
theorem digs_val (m x : Nat) : valL (digs m x) = x % 4294967296 ^ m := by
  induction m with
  | zero => simp [digs, valL, Nat.mod_one]
  | succ m ih => rw [digs_succ, valL_snoc, ih, digs_length, Nat.pow_succ, Nat.mod_mul]
theorem digs_at {m x j : Nat} (h : j < m) : (digs m x)[j]?.getD 0 = x / 4294967296 ^ j % 4294967296 := by
  unfold digs
  rw [List.getElem?_map, List.getElem?_range h]; rfl
theorem digs_zero (m : Nat) : digs m 0 = List.replicate m 0 := by
  apply List.ext_getElem
  · simp [digs]
  · intro j h1 h2; simp [digs]
theorem limbs_digs {m x : Nat} (h : x < 4294967296 ^ m) : limbs (valL (digs m x)) = limbs x := by rw [digs_val, Nat.mod_eq_of_lt h]

/-- The last bytes of a number, the most significant one first. -/
def beB : Nat → Nat → List UInt8
  | 0, _ => []
  | m + 1, x => UInt8.ofNat (x / 256 ^ m % 256) :: beB m x
theorem beB_length (m x : Nat) : (beB m x).length = m := by
  induction m with
  | zero => rfl
  | succ m ih => rw [beB, List.length_cons, ih]
theorem beB_val (m x : Nat) : valB (beB m x) = x % 256 ^ m := by
  induction m with
  | zero => simp [beB, valB, Nat.mod_one]
  | succ m ih =>
    rw [beB, valB_cons, ih, beB_length, byte_toNat (Nat.mod_lt _ (by omega)), Nat.pow_succ, Nat.mod_mul, Nat.mul_comm]; omega
theorem dropZ_beB {m x : Nat} (h : x < 256 ^ m) : dropZ (beB m x) = natB x := by rw [dropZ_eq, beB_val, Nat.mod_eq_of_lt h]
theorem pow256 (m : Nat) : 256 ^ (4 * m) = 4294967296 ^ m := by rw [Nat.pow_mul]
/-- A byte out of a digit. -/
theorem byte_of_digit (x k : Nat) : x / 4294967296 ^ (k / 4) % 4294967296 / 256 ^ (k % 4) % 256 = x / 256 ^ k % 256 := by
  have e : 256 ^ k = 4294967296 ^ (k / 4) * 256 ^ (k % 4) := by
    rw [← pow256, ← Nat.pow_add, show 4 * (k / 4) + k % 4 = k by omega]
  rw [e, ← Nat.div_div_eq_div_mul]
  generalize x / 4294967296 ^ (k / 4) = y
  have h : k % 4 = 0 ∨ k % 4 = 1 ∨ k % 4 = 2 ∨ k % 4 = 3 := by omega
  rcases h with h | h | h | h <;> rw [h] <;> omega
theorem valB_drop_lt (l : List UInt8) (k : Nat) (h : k ≤ l.length) : valB (l.drop (l.length - k)) < 256 ^ k := by
  have := valB_lt (l.drop (l.length - k))
  rwa [List.length_drop, show l.length - (l.length - k) = k by omega] at this
/-- One byte more in front. -/
theorem valB_drop_next (l : List UInt8) (k : Nat) (h : k < l.length) : valB (l.drop (l.length - (k + 1))) = (l[l.length - 1 - k]?.getD 0).toNat * 256 ^ k + valB (l.drop (l.length - k)) := by
  have e : l.drop (l.length - (k + 1)) = l[l.length - 1 - k]'(by omega) :: l.drop (l.length - k) := by
    rw [List.drop_eq_getElem_cons (i := l.length - (k + 1)) (by omega)]
    congr 1
    · congr 1; omega
    · congr 1; omega
  rw [e, valB_cons, List.length_drop, show l.length - (l.length - k) = k by omega, List.getElem?_eq_getElem (by omega)]
  rfl
/-- A byte more in its digit. -/
theorem digs_or {m k x b : Nat} (hx : x < 256 ^ k) (hb : b < 256) :
    (digs m x).set (k / 4) ((x / 4294967296 ^ (k / 4) % 4294967296) ||| (b * 256 ^ (k % 4))) = digs m (b * 256 ^ k + x) := by
  have e : 256 ^ k = 4294967296 ^ (k / 4) * 256 ^ (k % 4) := by
    rw [← pow256, ← Nat.pow_add, show 4 * (k / 4) + k % 4 = k by omega]
  have hpos : 0 < 4294967296 ^ (k / 4) := Nat.pow_pos (by omega)
  have hq : x / 4294967296 ^ (k / 4) < 256 ^ (k % 4) := by
    rw [Nat.div_lt_iff_lt_mul hpos, Nat.mul_comm, ← e]; exact hx
  have hm4 : 256 ^ (k % 4) ≤ 16777216 := by
    have h : k % 4 = 0 ∨ k % 4 = 1 ∨ k % 4 = 2 ∨ k % 4 = 3 := by omega
    rcases h with h | h | h | h <;> rw [h] <;> omega
  apply List.ext_getElem
  · simp [digs]
  · intro j h1 h2
    rw [List.getElem_set]
    have hj : j < m := by simpa [digs] using h2
    have g : ∀ y (h : j < (digs m y).length), (digs m y)[j]'h = y / 4294967296 ^ j % 4294967296 := fun y h => by simp [digs]
    rw [g]
    split
    · rename_i h; subst h
      rw [g]
      rw [show b * 256 ^ k + x = x + 4294967296 ^ (k / 4) * (b * 256 ^ (k % 4)) by rw [e, Nat.mul_left_comm]; omega, Nat.add_mul_div_left _ _ hpos]
      have hor : (x / 4294967296 ^ (k / 4) ||| b * 256 ^ (k % 4)) = x / 4294967296 ^ (k / 4) + b * 256 ^ (k % 4) := by
        have := Nat.two_pow_add_eq_or_of_lt (i := 8 * (k % 4)) (b := x / 4294967296 ^ (k / 4)) (by rw [Nat.pow_mul]; exact hq) b
        rw [Nat.pow_mul, show (2 : Nat) ^ 8 = 256 from rfl, Nat.mul_comm] at this
        rw [Nat.or_comm, ← this, Nat.add_comm]
      rw [Nat.mod_eq_of_lt (show x / 4294967296 ^ (k / 4) < 4294967296 by omega), hor]
      have hlt : x / 4294967296 ^ (k / 4) + b * 256 ^ (k % 4) < 4294967296 := by
        have h : k % 4 = 0 ∨ k % 4 = 1 ∨ k % 4 = 2 ∨ k % 4 = 3 := by omega
        rcases h with h | h | h | h <;> rw [h] at hq ⊢ <;> omega
      rw [Nat.mod_eq_of_lt hlt]
    · rename_i h
      rw [g]
      rcases Nat.lt_or_gt_of_ne h with h | h
      · -- above: all zero
        have hle : b * 256 ^ k + x < 4294967296 ^ j := by
          have h3 : 4294967296 ^ (k / 4 + 1) ≤ 4294967296 ^ j := Nat.pow_le_pow_right (by omega) h
          have h4 : 256 ^ (k + 1) ≤ 4294967296 ^ (k / 4 + 1) := by rw [← pow256]; exact Nat.pow_le_pow_right (by omega) (by omega)
          have h5 : b * 256 ^ k + x < 256 ^ (k + 1) := by
            rw [Nat.pow_succ]
            have : b * 256 ^ k ≤ 255 * 256 ^ k := Nat.mul_le_mul_right _ (by omega)
            omega
          omega
        rw [Nat.div_eq_of_lt hle, Nat.div_eq_of_lt (by omega)]
      · -- below: as it was
        have e2 : b * 256 ^ k = 4294967296 ^ j * (4294967296 * (4294967296 ^ (k / 4 - (j + 1)) * 256 ^ (k % 4) * b)) := by
          rw [e, show 4294967296 ^ (k / 4) = 4294967296 ^ j * (4294967296 * 4294967296 ^ (k / 4 - (j + 1))) by
            rw [← Nat.pow_succ', ← Nat.pow_add]; congr 1; omega]
          rw [Nat.mul_comm b]
          simp only [Nat.mul_assoc]
        rw [e2, Nat.add_comm, Nat.add_mul_div_left _ _ (Nat.pow_pos (by omega))]
        omega

end Go.Proofs.YtebigkjilklodaaDoor

/- The steps of sums, differences, products, short and long divisions of digits. No program in sight. -/
namespace Go.Proofs.YtebigkjilklodaaDoor

theorem set_pad {o : List Nat} {m k d : Nat} (h : o.length = k) (hk : k < m) : (o ++ List.replicate (m - k) 0).set k d = (o ++ [d]) ++ List.replicate (m - (k + 1)) 0 := by
  subst h
  rw [show m - o.length = (m - (o.length + 1)) + 1 by omega, List.replicate_succ]
  simp
theorem pad_at {o : List Nat} {m k : Nat} (h : o.length = k) (hk : k < m) : (o ++ List.replicate (m - k) 0)[k]? = some 0 := by
  subst h
  rw [List.getElem?_append_right (Nat.le_refl _), Nat.sub_self, List.getElem?_replicate, if_pos (by omega)]
/-- What a list stands for when one digit is changed. -/
theorem valL_set {l : List Nat} {k : Nat} (d : Nat) (h : k < l.length) : valL (l.set k d) + 4294967296 ^ k * (l[k]?.getD 0) = valL l + 4294967296 ^ k * d := by
  induction l generalizing k with
  | nil => simp at h
  | cons x l ih =>
    cases k with
    | zero => simp [valL]; omega
    | succ k =>
      have := ih (k := k) (by simpa using h)
      simp only [List.set_cons_succ, valL, List.getElem?_cons_succ, Nat.pow_succ]
      generalize valL (l.set k d) = a at this
      generalize l[k]?.getD 0 = e at this ⊢
      rw [Nat.mul_comm (4294967296 ^ k) 4294967296, Nat.mul_assoc, Nat.mul_assoc]
      omega

/-- One step of a sum. -/
theorem step_sum {O A C P c a b s : Nat} (h : O + c * P = A + C) (hs : s = a + b + c) : (O + P * (s % 4294967296)) + s / 4294967296 * (P * 4294967296) = (A + P * a) + (C + P * b) := by
  have key : s % 4294967296 + 4294967296 * (s / 4294967296) = a + b + c := by omega
  have k2 := congrArg (P * ·) key
  simp only [Nat.mul_add] at k2
  have e1 : s / 4294967296 * (P * 4294967296) = P * (4294967296 * (s / 4294967296)) := by rw [Nat.mul_comm, Nat.mul_assoc]
  have e2 : c * P = P * c := Nat.mul_comm _ _
  omega
/-- One step of a difference. -/
theorem step_less {O A C P b b' a c o : Nat} (h : O + C = A + b * P) (hs : a + b' * 4294967296 = o + c + b) : (O + P * o) + (C + P * c) = (A + P * a) + b' * (P * 4294967296) := by
  have k2 := congrArg (P * ·) hs
  simp only [Nat.mul_add] at k2
  have e1 : b' * (P * 4294967296) = P * (b' * 4294967296) := by rw [Nat.mul_left_comm]
  have e2 : b * P = P * b := Nat.mul_comm _ _
  omega
/-- One step of a product with one digit: what stands in the digits, and the carry. -/
theorem step_mul {O O0 V P x y o c s : Nat} (h : O + c * P = O0 + x * V) (hs : s = x * y + o + c) : (O + P * (s % 4294967296)) + s / 4294967296 * (P * 4294967296) = (O0 + P * o) + x * (V + P * y) := by
  have key : s % 4294967296 + 4294967296 * (s / 4294967296) = x * y + o + c := by omega
  have k2 := congrArg (P * ·) key
  simp only [Nat.mul_add] at k2 ⊢
  have e1 : s / 4294967296 * (P * 4294967296) = P * (4294967296 * (s / 4294967296)) := by rw [Nat.mul_comm, Nat.mul_assoc]
  have e2 : c * P = P * c := Nat.mul_comm _ _
  have e3 : x * (P * y) = P * (x * y) := Nat.mul_left_comm _ _ _
  omega
/-- One step of a short division, from the greatest digit on. -/
theorem step_short {A O r b a x : Nat} (hb : 0 < b) (h : A = O * b + r) (hx : x = r * 4294967296 + a) : a + 4294967296 * A = (x / b + 4294967296 * O) * b + x % b := by
  have h1 : b * (x / b) + x % b = x := Nat.div_add_mod x b
  have h2 : (x / b + 4294967296 * O) * b = b * (x / b) + 4294967296 * (O * b) := by
    rw [Nat.add_mul, Nat.mul_comm (x / b) b, Nat.mul_assoc]
  omega
/-- One step of subtracting a multiple. -/
theorem step_take {X Y V P x y v q c b c' b' lo : Nat} (h : X + (c + b) * P = Y + q * V) (h1 : x + b' * 4294967296 = y + lo + b) (h2 : q * v + c = c' * 4294967296 + lo) :
    (X + P * x) + (c' + b') * (P * 4294967296) = (Y + P * y) + q * (V + P * v) := by
  have key : x + b' * 4294967296 + c' * 4294967296 = y + b + q * v + c := by omega
  have k2 := congrArg (P * ·) key
  simp only [Nat.mul_add, Nat.add_mul] at k2 h ⊢
  have e1 : c' * (P * 4294967296) = P * (c' * 4294967296) := Nat.mul_left_comm _ _ _
  have e2 : b' * (P * 4294967296) = P * (b' * 4294967296) := Nat.mul_left_comm _ _ _
  have e3 : q * (P * v) = P * (q * v) := Nat.mul_left_comm _ _ _
  have e4 : c * P = P * c := Nat.mul_comm _ _
  have e5 : b * P = P * b := Nat.mul_comm _ _
  omega

/-- An estimate out of the first digits is too great by 1 at most. -/
theorem knuth {w V P t s q : Nat} (hw1 : t * P ≤ w) (hw2 : w < (t + 1) * P) (hv1 : s * P ≤ V) (hv2 : V < (s + 1) * P) (hs : 4294967296 ≤ s)
    (hwV : w < 4294967296 * V) (hq : q = min (t / s) 4294967295) : w / V ≤ q ∧ q ≤ w / V + 1 := by
  have hV : 0 < V := by omega
  have hP : 0 < P := Nat.pos_of_ne_zero fun e => by subst e; rw [Nat.mul_zero] at hw2; omega
  have a1 : w / V < 4294967296 := by rw [Nat.div_lt_iff_lt_mul hV]; exact hwV
  have a2 : w / V ≤ t / s := by
    rw [Nat.le_div_iff_mul_le (by omega)]
    have h1 : w / V * V ≤ w := Nat.div_mul_le_self _ _
    have h2 : w / V * (s * P) ≤ w / V * V := Nat.mul_le_mul_left _ hv1
    have h3 : w / V * s * P < (t + 1) * P := by rw [Nat.mul_assoc]; omega
    have := Nat.lt_of_mul_lt_mul_right h3
    omega
  refine ⟨by omega, ?_⟩
  have b1 : q * s ≤ t := by
    have : q ≤ t / s := by omega
    exact (Nat.le_div_iff_mul_le (by omega)).1 this
  have b2 : q * V ≤ q * ((s + 1) * P) := Nat.mul_le_mul_left _ (by omega)
  have b3 : q * ((s + 1) * P) = q * s * P + q * P := by rw [Nat.add_mul, Nat.mul_add, Nat.one_mul, Nat.mul_assoc]
  have b4 : q * s * P ≤ t * P := Nat.mul_le_mul_right _ b1
  have b5 : q * P < s * P := Nat.mul_lt_mul_of_pos_right (by omega) hP
  have b6 : q * V < w + V := by omega
  cases q with
  | zero => exact Nat.zero_le _
  | succ q =>
    have : q * V ≤ w := by rw [Nat.add_mul, Nat.one_mul] at b6; omega
    have := (Nat.le_div_iff_mul_le hV).2 this
    omega
/-- The rounds of the estimate. -/
theorem est_more {top u2 v0 v1 q r : Nat} (hi : q * v0 + r = top) (hq : min ((top * 4294967296 + u2) / (v0 * 4294967296 + v1)) 4294967295 ≤ q) (hs : 0 < v0)
    (hg : 4294967295 < q ∨ r * 4294967296 + u2 < q * v1) : 1 ≤ q ∧ (q - 1) * v0 + (r + v0) = top ∧ min ((top * 4294967296 + u2) / (v0 * 4294967296 + v1)) 4294967295 ≤ q - 1 := by
  have h1 : 1 ≤ q := by
    rcases hg with h | h
    · omega
    · rcases Nat.eq_zero_or_pos q with e | e
      · subst e; omega
      · exact e
  obtain ⟨p, rfl⟩ : ∃ p, q = p + 1 := ⟨q - 1, by omega⟩
  refine ⟨h1, by rw [Nat.add_sub_cancel]; rw [Nat.add_mul, Nat.one_mul] at hi; omega, ?_⟩
  rw [Nat.add_sub_cancel]
  rcases hg with h | h
  · omega
  · have : (top * 4294967296 + u2) / (v0 * 4294967296 + v1) < p + 1 := by
      rw [Nat.div_lt_iff_lt_mul (by omega)]
      rw [← hi, Nat.add_mul ((p + 1) * v0), Nat.mul_add (p + 1), Nat.mul_assoc]
      omega
    omega
theorem est_done {top u2 v0 v1 q r : Nat} (hi : q * v0 + r = top) (hq : min ((top * 4294967296 + u2) / (v0 * 4294967296 + v1)) 4294967295 ≤ q) (hs : 0 < v0)
    (hg : q ≤ 4294967295) (h2 : q * v1 ≤ r * 4294967296 + u2) : q = min ((top * 4294967296 + u2) / (v0 * 4294967296 + v1)) 4294967295 := by
  have : q ≤ (top * 4294967296 + u2) / (v0 * 4294967296 + v1) := by
    rw [Nat.le_div_iff_mul_le (by omega), ← hi, Nat.add_mul (q * v0), Nat.mul_add q, Nat.mul_assoc]
    omega
  omega
theorem est_broke {u0 u1 u2 v0 v1 q r : Nat} (hi : q * v0 + r = u0 * 4294967296 + u1) (hq : min (((u0 * 4294967296 + u1) * 4294967296 + u2) / (v0 * 4294967296 + v1)) 4294967295 ≤ q) (hu : u0 ≤ v0) (hu1 : u1 < 4294967296) (hs : 0 < v0) (hv1 : v1 < 4294967296)
    (hg : 4294967295 < r) : q = min (((u0 * 4294967296 + u1) * 4294967296 + u2) / (v0 * 4294967296 + v1)) 4294967295 := by
  have h1 : q < 4294967296 := by
    have : q * v0 < 4294967296 * v0 := by omega
    exact Nat.lt_of_mul_lt_mul_right this
  have h2 : q * v1 ≤ 4294967295 * 4294967295 := Nat.mul_le_mul (by omega) (by omega)
  exact est_done hi hq hs (by omega) (by omega)
theorem est_first {u0 u1 v0 : Nat} (hu : u0 ≤ v0) (hu1 : u1 < 4294967296) (hv : 2147483648 ≤ v0) : (u0 * 4294967296 + u1) / v0 ≤ 4294967297 := by
  have : (u0 * 4294967296 + u1) / v0 < 4294967298 := by
    rw [Nat.div_lt_iff_lt_mul (by omega)]; omega
  omega

end Go.Proofs.YtebigkjilklodaaDoor

/- Long division of digits: what one round does. No program in sight. -/
namespace Go.Proofs.YtebigkjilklodaaDoor

theorem pow_pos' (k : Nat) : 0 < 4294967296 ^ k := Nat.pow_pos (by omega)
theorem valL_lower {l : List Nat} (hd : Dig l) (k : Nat) (h : k ≤ l.length) : valL (l.take k) < 4294967296 ^ k := by
  have := valL_lt (hd.take k)
  rwa [List.length_take, Nat.min_eq_left h] at this
theorem valL_div {l : List Nat} (hd : Dig l) {k : Nat} (h : k ≤ l.length) : valL l / 4294967296 ^ k = valL (l.drop k) := by
  have e := valL_take_drop l k h
  have h1 := valL_lower hd k h
  rw [e, Nat.add_mul_div_left _ _ (pow_pos' k), Nat.div_eq_of_lt h1, Nat.zero_add]
theorem valL_mod {l : List Nat} (hd : Dig l) {k : Nat} (h : k ≤ l.length) : valL l % 4294967296 ^ k = valL (l.take k) := by
  have e := valL_take_drop l k h
  have h1 := valL_lower hd k h
  rw [e, Nat.add_mul_mod_self_left, Nat.mod_eq_of_lt h1]
theorem drop_top1 {l : List Nat} {n : Nat} (h : l.length = n + 1) : l.drop n = [l[n]?.getD 0] := by
  rw [List.drop_eq_getElem_cons (by omega), List.drop_eq_nil_of_le (by omega), List.getElem?_eq_getElem (by omega)]; rfl
theorem drop_top2 {l : List Nat} {n : Nat} (h : l.length = n + 2) : l.drop n = [l[n]?.getD 0, l[n + 1]?.getD 0] := by
  rw [List.drop_eq_getElem_cons (by omega), drop_top1 h, List.getElem?_eq_getElem (i := n) (by omega)]; rfl
theorem drop_top3 {l : List Nat} {n : Nat} (h : l.length = n + 3) : l.drop n = [l[n]?.getD 0, l[n + 1]?.getD 0, l[n + 2]?.getD 0] := by
  rw [List.drop_eq_getElem_cons (by omega), drop_top2 (n := n + 1) h, List.getElem?_eq_getElem (i := n) (by omega)]; rfl
theorem top2_val {l : List Nat} {n : Nat} (hd : Dig l) (h : l.length = n + 2) : valL l / 4294967296 ^ n = l[n + 1]?.getD 0 * 4294967296 + l[n]?.getD 0 := by
  rw [valL_div hd (by omega), drop_top2 h]; simp only [valL]; omega
theorem top3_val {l : List Nat} {n : Nat} (hd : Dig l) (h : l.length = n + 3) : valL l / 4294967296 ^ n = (l[n + 2]?.getD 0 * 4294967296 + l[n + 1]?.getD 0) * 4294967296 + l[n]?.getD 0 := by
  rw [valL_div hd (by omega), drop_top3 h]; simp only [valL]; omega

/-- One digit of the quotient: the estimate for a window of n + 3 digits, by n + 2 digits whose last one is great. -/
theorem knuth_window {x v : List Nat} {n q : Nat} (hx : Dig x) (hv : Dig v) (lx : x.length = n + 3) (lv : v.length = n + 2) (hn : 2147483648 ≤ v[n + 1]?.getD 0) (hw : valL x < 4294967296 * valL v)
    (hq : q = min (((x[n + 2]?.getD 0 * 4294967296 + x[n + 1]?.getD 0) * 4294967296 + x[n]?.getD 0) / (v[n + 1]?.getD 0 * 4294967296 + v[n]?.getD 0)) 4294967295) :
    valL x / valL v ≤ q ∧ q ≤ valL x / valL v + 1 := by
  rw [← top3_val hx lx, ← top2_val hv lv] at hq
  have hP := pow_pos' n
  refine knuth (P := 4294967296 ^ n) (t := valL x / 4294967296 ^ n) (s := valL v / 4294967296 ^ n) (Nat.div_mul_le_self _ _) ?_ (Nat.div_mul_le_self _ _) ?_ ?_ hw hq
  · have := Nat.lt_mul_div_succ (valL x) hP
    rwa [Nat.mul_comm] at this
  · have := Nat.lt_mul_div_succ (valL v) hP
    rwa [Nat.mul_comm] at this
  · rw [top2_val hv lv]; omega
/-- The first digit of the window is no greater than that of the divisor. -/
theorem window_top {x v : List Nat} {n : Nat} (hx : Dig x) (hv : Dig v) (lx : x.length = n + 3) (lv : v.length = n + 2) (hw : valL x < 4294967296 * valL v) : x[n + 2]?.getD 0 ≤ v[n + 1]?.getD 0 := by
  have h1 : valL x / 4294967296 ^ (n + 2) = x[n + 2]?.getD 0 := by rw [valL_div hx (by omega), drop_top1 (by omega)]; simp [valL]
  have h2 : valL v / 4294967296 ^ (n + 1) = v[n + 1]?.getD 0 := by rw [valL_div hv (by omega), drop_top1 (by omega)]; simp [valL]
  have h3 : valL v < 4294967296 ^ (n + 1) * (v[n + 1]?.getD 0 + 1) := by rw [← h2]; exact Nat.lt_mul_div_succ _ (pow_pos' _)
  have h4 : x[n + 2]?.getD 0 < v[n + 1]?.getD 0 + 1 := by
    rw [← h1, Nat.div_lt_iff_lt_mul (pow_pos' _), Nat.pow_succ 4294967296 (n + 1)]
    rw [Nat.mul_comm (4294967296 ^ (n + 1))] at h3
    have h5 : 4294967296 * valL v < 4294967296 * ((v[n + 1]?.getD 0 + 1) * 4294967296 ^ (n + 1)) := Nat.mul_lt_mul_of_pos_left h3 (by omega)
    have h6 : (v[n + 1]?.getD 0 + 1) * (4294967296 ^ (n + 1) * 4294967296) = 4294967296 * ((v[n + 1]?.getD 0 + 1) * 4294967296 ^ (n + 1)) := by
      rw [← Nat.mul_assoc, Nat.mul_comm]
    omega
  omega

/-- The window after the digit was found: the rest. -/
theorem window_rest {x y z : List Nat} {V q : Nat} {more : Bool} (hV : 0 < V) (h1 : valL x / V ≤ q) (h2 : q ≤ valL x / V + 1) (hy : Dig y) (hxl : x.length = y.length) (hx : Dig x)
    (ht : valL x + (if more then 4294967296 ^ x.length else 0) = valL y + q * V) (hz : more = true → Dig z ∧ z.length = x.length ∧ valL z = (valL y + V) % 4294967296 ^ x.length)
    (hVlt : V ≤ 4294967296 ^ x.length) :
    (more = false → q = valL x / V ∧ valL y = valL x % V) ∧ (more = true → q = valL x / V + 1 ∧ valL z = valL x % V) := by
  have hd := Nat.div_add_mod (valL x) V
  have hm := Nat.mod_lt (valL x) hV
  have hyl := valL_lt hy
  rw [← hxl] at hyl
  have hxlt := valL_lt hx
  have hcase : q = valL x / V ∨ q = valL x / V + 1 := by omega
  have e0 : valL x / V * V = V * (valL x / V) := Nat.mul_comm _ _
  constructor
  · intro hf
    subst hf
    simp only [Bool.false_eq_true, if_false, Nat.add_zero] at ht
    rcases hcase with rfl | rfl
    · exact ⟨rfl, by omega⟩
    · rw [Nat.add_mul, Nat.one_mul] at ht; omega
  · intro hf
    subst hf
    simp only [if_true] at ht
    obtain ⟨_, _, hz⟩ := hz rfl
    rcases hcase with rfl | rfl
    · omega
    · refine ⟨rfl, ?_⟩
      rw [hz]
      rw [Nat.add_mul, Nat.one_mul] at ht
      have : valL y + V = valL x % V + 4294967296 ^ x.length := by omega
      rw [this, Nat.add_mod_right, Nat.mod_eq_of_lt (by omega)]

/-- One round of the long division. -/
theorem div_round {U0 R Rl V Q q W P : Nat} (h : U0 = R + V * (P * 4294967296) * Q) (hR : R = Rl + P * W) (hq : q = W / V) : U0 = (Rl + P * (W % V)) + V * P * (q + 4294967296 * Q) := by
  have hd := Nat.div_add_mod W V
  rw [← hq] at hd
  have k := congrArg (P * ·) hd
  simp only [Nat.mul_add] at k ⊢
  have e1 : P * (V * q) = V * P * q := by rw [Nat.mul_left_comm, Nat.mul_assoc]
  have e2 : V * (P * 4294967296) * Q = V * P * (4294967296 * Q) := by simp only [Nat.mul_assoc]
  omega
theorem rest_lt {Rl V P W : Nat} (hV : 0 < V) (hl : Rl < P) : Rl + P * (W % V) < P * V := by
  have hm := Nat.mod_lt W hV
  have : P * (W % V + 1) ≤ P * V := Nat.mul_le_mul_left _ hm
  rw [Nat.mul_add, Nat.mul_one] at this
  omega
theorem div_done {U V Q R : Nat} (h : U = R + V * Q) (hR : R < V) : Q = U / V ∧ R = U % V := by
  subst h
  rw [Nat.add_mul_div_left _ _ (by omega), Nat.div_eq_of_lt hR, Nat.add_mul_mod_self_left, Nat.mod_eq_of_lt hR]
  exact ⟨by omega, rfl⟩
/-- Both are shifted. -/
theorem div_shift (a b s : Nat) : a * 2 ^ s / (b * 2 ^ s) = a / b ∧ a * 2 ^ s % (b * 2 ^ s) = a % b * 2 ^ s :=
  ⟨Nat.mul_div_mul_right _ _ (Nat.pow_pos (by omega)), Nat.mul_mod_mul_right _ _ _⟩

/-- The window of one round. -/
theorem win_split {us v : List Nat} {j n lq : Nat} (hl : us.length = lq + n) (hj : j < lq) (hd : Dig us) (dv : Dig v) (lv : v.length = n) (hlt : valL us < 4294967296 ^ (j + 1) * valL v) :
    ∃ lo x hi, us = lo ++ x ++ hi ∧ lo.length = j ∧ x.length = n + 1 ∧ Dig lo ∧ Dig x ∧ Dig hi ∧ valL lo < 4294967296 ^ j ∧ valL x < 4294967296 * valL v ∧ valL us = valL lo + 4294967296 ^ j * valL x ∧
      ∀ y, y.length = n + 1 → valL (lo ++ y ++ hi) = valL lo + 4294967296 ^ j * valL y := by
  refine ⟨us.take j, (us.drop j).take (n + 1), us.drop (j + (n + 1)), ?_, by simp; omega, by simp; omega, hd.take _, (hd.drop _).take _, hd.drop _, valL_lower hd j (by omega), ?_⟩
  · rw [List.append_assoc, ← List.drop_drop, List.take_append_drop, List.take_append_drop]
  have e1 := valL_div hd (k := j) (by omega)
  have e2 := valL_take_drop us j (by omega)
  have e3 := valL_take_drop (us.drop j) (n + 1) (by simp; omega)
  rw [List.drop_drop] at e3
  have h1 : valL us / 4294967296 ^ j < 4294967296 * valL v := by
    rw [Nat.div_lt_iff_lt_mul (pow_pos' j)]
    rw [Nat.pow_succ] at hlt
    have : 4294967296 ^ j * 4294967296 * valL v = 4294967296 * valL v * 4294967296 ^ j := by rw [Nat.mul_assoc, Nat.mul_comm]
    omega
  have hv := valL_lt dv
  rw [lv] at hv
  have hz : valL (us.drop (j + (n + 1))) = 0 := by
    rcases Nat.eq_zero_or_pos (valL (us.drop (j + (n + 1)))) with h | h
    · exact h
    · exfalso
      have h3 : 4294967296 ^ (n + 1) * 1 ≤ 4294967296 ^ (n + 1) * valL (us.drop (j + (n + 1))) := Nat.mul_le_mul_left _ h
      rw [e1, e3] at h1
      have h4 : 4294967296 ^ (n + 1) = 4294967296 ^ n * 4294967296 := Nat.pow_succ _ _
      omega
  rw [hz, Nat.mul_zero, Nat.add_zero] at e3
  refine ⟨by rw [← e3, ← e1]; exact h1, by rw [← e3]; exact e2, fun y hy => ?_⟩
  rw [List.append_assoc, valL_append, valL_append, hz, Nat.mul_zero, Nat.add_zero]
  rw [List.length_take, Nat.min_eq_left (by omega)]
theorem win_get {lo x hi : List Nat} {j i : Nat} (hj : lo.length = j) (hi1 : i < x.length) : (lo ++ x ++ hi)[j + i]?.getD 0 = x[i]?.getD 0 := by
  subst hj
  rw [List.append_assoc, List.getElem?_append_right (by omega), Nat.add_sub_cancel_left, List.getElem?_append_left hi1]
/-- The divisor, shifted: its digits. -/
theorem top_shift {b s : Nat} (hb : 0 < b) (hs : 2147483648 ≤ (limbs b)[(limbs b).length - 1]?.getD 0 * 2 ^ s) (hs2 : (limbs b)[(limbs b).length - 1]?.getD 0 * 2 ^ s + 2 ^ s ≤ 4294967296) :
    (limbs (b * 2 ^ s)).length = (limbs b).length ∧ 2147483648 ≤ (limbs (b * 2 ^ s))[(limbs b).length - 1]?.getD 0 := by
  have hl : 0 < (limbs b).length := by
    have := List.length_pos_iff.2 (limbs_ne hb); exact this
  obtain ⟨n, hn⟩ : ∃ n, (limbs b).length = n + 1 := ⟨(limbs b).length - 1, by omega⟩
  rw [hn, Nat.add_sub_cancel] at hs hs2 ⊢
  have e := valL_take_drop (limbs b) n (by omega)
  have h1 := valL_lower (limbs_dig b) n (by omega)
  rw [drop_top1 hn, valL_limbs] at e
  simp only [valL, Nat.mul_zero, Nat.add_zero] at e
  obtain ⟨d, hd⟩ : ∃ d, d = (limbs b)[n]?.getD 0 := ⟨_, rfl⟩
  rw [← hd] at hs hs2 e
  have hP := pow_pos' n
  have up : b * 2 ^ s < 4294967296 ^ (n + 1) := by
    rw [Nat.pow_succ]
    have h2 : b * 2 ^ s < (4294967296 ^ n * (d + 1)) * 2 ^ s := Nat.mul_lt_mul_of_pos_right (by rw [Nat.mul_add]; omega) (Nat.pow_pos (by omega))
    have h3 : (4294967296 ^ n * (d + 1)) * 2 ^ s = 4294967296 ^ n * (d * 2 ^ s + 2 ^ s) := by rw [Nat.mul_assoc, Nat.add_mul, Nat.one_mul]
    have h4 : 4294967296 ^ n * (d * 2 ^ s + 2 ^ s) ≤ 4294967296 ^ n * 4294967296 := Nat.mul_le_mul_left _ hs2
    omega
  have lowd : 4294967296 ^ n * 2147483648 ≤ b * 2 ^ s := by
    have h3 : 4294967296 ^ n * (d * 2 ^ s) ≤ b * 2 ^ s := by
      rw [← Nat.mul_assoc]; exact Nat.mul_le_mul_right _ (by omega)
    have h4 : 4294967296 ^ n * 2147483648 ≤ 4294967296 ^ n * (d * 2 ^ s) := Nat.mul_le_mul_left _ hs
    omega
  have l1 := limbs_len_le up
  have l2 := limbs_len_gt (n := b * 2 ^ s) (k := n) (by omega)
  refine ⟨by omega, ?_⟩
  have hlen : (limbs (b * 2 ^ s)).length = n + 1 := by omega
  have e5 := valL_div (limbs_dig (b * 2 ^ s)) (k := n) (by omega)
  rw [drop_top1 hlen, valL_limbs] at e5
  simp only [valL, Nat.mul_zero, Nat.add_zero] at e5
  rw [← e5, Nat.le_div_iff_mul_le hP, Nat.mul_comm]
  exact lowd

/-- At the beginning: the first digits of what is divided are less than the divisor. -/
theorem div_start {a s n lq : Nat} {v : List Nat} (hs : s ≤ 31) (lv : v.length = n) (hn : 0 < n) (ht : 2147483648 ≤ v[n - 1]?.getD 0) (ha : a < 4294967296 ^ (lq + (n - 1))) : a * 2 ^ s < 4294967296 ^ lq * valL v := by
  obtain ⟨m, rfl⟩ : ∃ m, n = m + 1 := ⟨n - 1, by omega⟩
  rw [Nat.add_sub_cancel] at ht ha
  have e := valL_take_drop v m (by omega)
  rw [drop_top1 lv] at e
  simp only [valL, Nat.mul_zero, Nat.add_zero] at e
  have h1 : 4294967296 ^ m * 2147483648 ≤ 4294967296 ^ m * v[m]?.getD 0 := Nat.mul_le_mul_left _ ht
  have h2 : 4294967296 ^ m * 2147483648 ≤ valL v := by omega
  have h3 : 2 ^ s ≤ 2147483648 := Nat.pow_le_pow_right (show 0 < 2 by omega) hs
  have h4 : a * 2 ^ s < 4294967296 ^ (lq + m) * 2147483648 := by
    have k1 : a * 2 ^ s < 4294967296 ^ (lq + m) * 2 ^ s := Nat.mul_lt_mul_of_pos_right ha (Nat.pow_pos (by omega))
    have k2 : 4294967296 ^ (lq + m) * 2 ^ s ≤ 4294967296 ^ (lq + m) * 2147483648 := Nat.mul_le_mul_left _ h3
    omega
  have h5 : 4294967296 ^ (lq + m) * 2147483648 = 4294967296 ^ lq * (4294967296 ^ m * 2147483648) := by rw [Nat.pow_add, Nat.mul_assoc]
  have h6 : 4294967296 ^ lq * (4294967296 ^ m * 2147483648) ≤ 4294967296 ^ lq * valL v := Nat.mul_le_mul_left _ h2
  omega

end Go.Proofs.YtebigkjilklodaaDoor

/- Rational numbers as the program keeps them: a sign, a numerator, a denominator. No program in sight. -/
namespace Go.Proofs.YtebigkjilklodaaDoor

/-- A rational number as three values; it need not be right. -/
structure RatG where
  neg : Bool
  num : ByteArray
  den : ByteArray
def RatG.val (a : RatG) : Value := .agg #[.bool a.neg, .string a.num, .string a.den]
def RatG.cells (a : RatG) : List Value := [.bool a.neg, .string a.num, .string a.den]
/-- The right one of a number. -/
def ratG (r : Rat) : RatG := ⟨decide (r.num < 0), natS r.num.natAbs, natS r.den⟩
theorem natS_inj {a b : Nat} (h : natS a = natS b) : a = b := by
  have := congrArg (fun s : ByteArray => valB s.data.toList) h
  simpa [natS, valB_natB] using this
theorem ratG_inj {a b : Rat} (h : ratG a = ratG b) : a = b := by
  unfold ratG at h
  simp only [RatG.mk.injEq, decide_eq_decide] at h
  obtain ⟨h1, h2, h3⟩ := h
  have h2 := natS_inj h2
  have h3 := natS_inj h3
  apply Rat.ext
  · omega
  · exact h3
/-- A number with a sign. -/
def sgn (neg : Bool) (n : Nat) : Int := if neg then -(n : Int) else n
theorem sgn_natAbs (neg : Bool) (n : Nat) : (sgn neg n).natAbs = n := by unfold sgn; split <;> omega
theorem natAbs_div (a : Int) (n : Nat) (h : (n : Int) ∣ a) : (a / (n : Int)).natAbs = a.natAbs / n := Int.natAbs_ediv_of_dvd h
/-- Lowest terms. -/
theorem ratG_mk {neg : Bool} {n d : Nat} (hd : 0 < d) : ratG (mkRat (sgn neg n) d) = ⟨neg && decide (n / n.gcd d ≠ 0), natS (n / n.gcd d), natS (d / n.gcd d)⟩ := by
  have hg : 0 < n.gcd d := Nat.gcd_pos_of_pos_right _ hd
  have e1 : (mkRat (sgn neg n) d).num = sgn neg (n / n.gcd d) := by
    rw [Rat.num_mkRat, if_neg (by omega), sgn_natAbs, Nat.gcd_comm]
    unfold sgn
    split
    · rw [Int.neg_ediv_of_dvd (Int.natCast_dvd_natCast.2 (Nat.gcd_dvd_left n d)), ← Int.natCast_ediv]
    · rw [← Int.natCast_ediv]
  have e2 : (mkRat (sgn neg n) d).den = d / n.gcd d := by
    rw [Rat.den_mkRat, if_neg (by omega), sgn_natAbs, Nat.gcd_comm]
  unfold ratG
  rw [e1, e2, sgn_natAbs]
  generalize n / n.gcd d = y
  congr 1
  unfold sgn
  cases neg
  · simp
  · simp
    by_cases h : y = 0
    · subst h; rfl
    · rw [decide_eq_true (by omega : 0 < y), decide_eq_false h]; rfl
/-- Is it right? -/
def RatG.right (a : RatG) : Bool := decide (natS (valB a.num.data.toList) = a.num) && decide (natS (valB a.den.data.toList) = a.den) && decide (0 < valB a.den.data.toList) && decide ((valB a.num.data.toList).gcd (valB a.den.data.toList) = 1) && decide (a.neg = true → valB a.num.data.toList ≠ 0)
/-- The number that it stands for; 0 if it is not right. -/
def RatG.rat (a : RatG) : Rat := if a.right then mkRat (sgn a.neg (valB a.num.data.toList)) (valB a.den.data.toList) else 0
theorem RatG.of_right {a : RatG} (h : a.right = true) : ratG a.rat = a := by
  unfold RatG.rat
  rw [if_pos h]
  unfold RatG.right at h
  simp only [Bool.and_eq_true, decide_eq_true_eq] at h
  obtain ⟨⟨⟨⟨h1, h2⟩, h3⟩, h4⟩, h5⟩ := h
  rw [ratG_mk h3, h4, Nat.div_one, Nat.div_one, h1, h2]
  obtain ⟨neg, num, den⟩ := a
  congr 1
  cases neg
  · rfl
  · simpa using h5
theorem valB_natS (n : Nat) : valB (natS n).data.toList = n := by simp [natS, valB_natB]
theorem ratG_right (r : Rat) : (ratG r).right = true := by
  unfold RatG.right ratG
  simp only [valB_natS, Bool.and_eq_true, decide_eq_true_eq]
  refine ⟨⟨⟨⟨trivial, trivial⟩, ?_⟩, r.reduced⟩, fun h => ?_⟩
  · exact Nat.pos_of_ne_zero r.den_nz
  · omega
theorem ratG_rat (r : Rat) : (ratG r).rat = r := ratG_inj (RatG.of_right (ratG_right r))
theorem rat_wrong {a : RatG} (h : a.right = false) : a.rat = 0 := by unfold RatG.rat; rw [h]; rfl
theorem sgn_num (r : Rat) : sgn (decide (r.num < 0)) r.num.natAbs = r.num := by
  unfold sgn
  by_cases h : r.num < 0
  · rw [decide_eq_true h, if_pos rfl]; omega
  · rw [decide_eq_false h, if_neg (by simp)]; omega
/-- The parts of sums and products. -/
theorem sgn_mul_nat (s : Bool) (n d : Nat) : sgn s n * (d : Int) = sgn s (n * d) := by
  unfold sgn; split
  · rw [Int.neg_mul, Int.natCast_mul]
  · rw [Int.natCast_mul]
theorem sgn_add_same (s : Bool) (x y : Nat) : sgn s x + sgn s y = sgn s (x + y) := by unfold sgn; split <;> omega
theorem sgn_add_left {s t : Bool} {x y : Nat} (h : s ≠ t) (hle : y ≤ x) : sgn s x + sgn t y = sgn s (x - y) := by
  cases s <;> cases t <;> simp [sgn] at * <;> omega
theorem sgn_add_right {s t : Bool} {x y : Nat} (h : s ≠ t) (hle : x ≤ y) : sgn s x + sgn t y = sgn t (y - x) := by
  cases s <;> cases t <;> simp [sgn] at * <;> omega
theorem sgn_mul (s t : Bool) (x y : Nat) : sgn s x * sgn t y = sgn (s != t) (x * y) := by
  cases s <;> cases t <;> simp [sgn, Int.neg_mul, Int.mul_neg]
/-- A right number is what its three values say. -/
theorem rat_eq (r : Rat) : r = mkRat (sgn (decide (r.num < 0)) r.num.natAbs) r.den := by rw [sgn_num, Rat.mkRat_self]
theorem rat_add {s t : Bool} {n m d e : Nat} (hd : 0 < d) (he : 0 < e) : mkRat (sgn s n) d + mkRat (sgn t m) e = mkRat (sgn s (n * e) + sgn t (m * d)) (d * e) := by
  rw [Rat.mkRat_add_mkRat _ _ (by omega) (by omega), sgn_mul_nat, sgn_mul_nat]
theorem rat_mul (s t : Bool) (n m d e : Nat) : mkRat (sgn s n) d * mkRat (sgn t m) e = mkRat (sgn (s != t) (n * m)) (d * e) := by
  rw [Rat.mkRat_mul_mkRat, sgn_mul]
theorem rat_neg (s : Bool) (n d : Nat) : -mkRat (sgn s n) d = mkRat (sgn (!s) n) d := by
  rw [Rat.neg_mkRat]
  congr 1
  cases s <;> simp [sgn]
/-- What an int is. -/
theorem ratG_int (n : Int) : ratG (n : Rat) = ⟨decide (n < 0), natS n.natAbs, natS 1⟩ := rfl
/-- The sign of a difference. -/
def cmpR (a b : Rat) : Int := if a < b then -1 else if a = b then 0 else 1

end Go.Proofs.YtebigkjilklodaaDoor

/- Panels: the subsets of entrants in order, which of them are feasible, and what a search finds. No program in sight. -/
namespace Go.Proofs.YtebigkjilklodaaDoor

/-- A panel draw: how many members, how many quotas, who belongs to which, and the limits. -/
structure PD where
  size : Int
  m : Nat
  row : Nat → Nat → Bool
  low : Nat → Int
  high : Nat → Int

/-- All sets of entrants from one on, of so many, those with earlier ones first. -/
def subs (i : Nat) : Nat → List (List Nat)
  | 0 => [[]]
  | r + 1 => (subs (i + 1) r).map (i :: ·) ++ subs (i + 1) r
/-- How many belong to a quota. -/
def PD.cnt (d : PD) (k : Nat) (x : List Nat) : Nat := x.countP (d.row · k)
/-- A state: members so far, and how many belong to each quota. -/
def PD.fits (d : PD) (mem : Nat) (c : Nat → Nat) (x : List Nat) : Bool :=
  decide (((mem + x.length : Nat) : Int) = d.size) && (List.range d.m).all fun k => decide (d.low k ≤ ((c k + d.cnt k x : Nat) : Int)) && decide (((c k + d.cnt k x : Nat) : Int) ≤ d.high k)
def PD.feas (d : PD) (x : List Nat) : Bool := d.fits 0 (fun _ => 0) x
/-- The counts when an entrant is taken. -/
def PD.up (d : PD) (i : Nat) (c : Nat → Nat) : Nat → Nat := fun k => c k + if d.row i k then 1 else 0
/-- May an entrant be taken? -/
def PD.may (d : PD) (i mem : Nat) (c : Nat → Nat) : Bool :=
  (List.range d.m).all (fun k => !d.row i k || decide (((c k + 1 : Nat) : Int) ≤ d.high k)) && decide (((mem + 1 : Nat) : Int) ≤ d.size)
/-- The sets that a state leads to. -/
def PD.comp (d : PD) (i : Nat) (mem : Nat) (c : Nat → Nat) : Nat → List (List Nat)
  | 0 => if d.fits mem c [] then [[]] else []
  | r + 1 => (if d.may i mem c then (d.comp (i + 1) (mem + 1) (d.up i c) r).map (i :: ·) else []) ++ d.comp (i + 1) mem c r

theorem PD.cnt_cons (d : PD) (k i : Nat) (x : List Nat) : d.cnt k (i :: x) = d.cnt k x + if d.row i k then 1 else 0 := by
  unfold PD.cnt; rw [List.countP_cons]
theorem PD.fits_cons (d : PD) (i mem : Nat) (c : Nat → Nat) (x : List Nat) : d.fits mem c (i :: x) = d.fits (mem + 1) (d.up i c) x := by
  unfold PD.fits PD.up
  have e1 : mem + (i :: x).length = mem + 1 + x.length := by simp; omega
  have e2 : ∀ k, c k + d.cnt k (i :: x) = c k + (if d.row i k then 1 else 0) + d.cnt k x := fun k => by rw [d.cnt_cons]; omega
  rw [e1]
  simp only [e2]
theorem PD.fits_may (d : PD) {i mem : Nat} {c : Nat → Nat} {x : List Nat} (h : d.may i mem c = false) : d.fits mem c (i :: x) = false := by
  cases hf : d.fits mem c (i :: x)
  · rfl
  · exfalso
    unfold PD.fits at hf
    simp only [Bool.and_eq_true, decide_eq_true_eq, List.all_eq_true, List.mem_range] at hf
    obtain ⟨h1, h2⟩ := hf
    have : d.may i mem c = true := by
      unfold PD.may
      simp only [Bool.and_eq_true, decide_eq_true_eq, List.all_eq_true, List.mem_range, Bool.or_eq_true, Bool.not_eq_true']
      refine ⟨fun k hk => ?_, by rw [List.length_cons] at h1; omega⟩
      cases hr : d.row i k
      · exact .inl rfl
      · have := (h2 k hk).2
        rw [d.cnt_cons, hr, if_pos rfl] at this
        exact .inr (by omega)
    rw [this] at h; cases h
/-- A search with these cuts finds just the sets that fit. -/
theorem PD.comp_eq (d : PD) (r : Nat) : ∀ (i mem : Nat) (c : Nat → Nat), d.comp i mem c r = (subs i r).filter (d.fits mem c) := by
  induction r with
  | zero =>
    intro i mem c
    unfold PD.comp subs
    by_cases h : d.fits mem c [] = true
    · rw [if_pos h]; simp [h]
    · rw [if_neg h]; simp [h]
  | succ r ih =>
    intro i mem c
    unfold PD.comp subs
    rw [List.filter_append, ← ih, List.filter_map]
    congr 1
    by_cases h : d.may i mem c = true
    · rw [if_pos h, ih]
      congr 2
      funext x
      exact (d.fits_cons i mem c x).symm
    · rw [if_neg h]
      symm
      rw [List.map_eq_nil_iff, List.filter_eq_nil_iff]
      intro x _
      have := d.fits_may (x := x) (by simpa using h)
      simp [this]
/-- Too few are left. -/
theorem PD.comp_few (d : PD) {i mem r : Nat} {c : Nat → Nat} (h : ((mem + r : Nat) : Int) < d.size) : d.comp i mem c r = [] := by
  rw [d.comp_eq, List.filter_eq_nil_iff]
  have hl : ∀ (r i : Nat), ∀ x ∈ subs i r, x.length ≤ r := by
    intro r
    induction r with
    | zero => intro i x hx; simp [subs] at hx; simp [hx]
    | succ r ih =>
      intro i x hx
      simp only [subs, List.mem_append, List.mem_map] at hx
      rcases hx with ⟨y, hy, rfl⟩ | hx
      · have := ih _ _ hy; simp; omega
      · have := ih _ _ hx; omega
  intro x hx
  have := hl r i x hx
  unfold PD.fits
  simp only [Bool.and_eq_true, decide_eq_true_eq, not_and]
  intro h1
  omega
/-- All feasible sets of n entrants. -/
def PD.all (d : PD) (n : Nat) : List (List Nat) := d.comp 0 0 (fun _ => 0) n
theorem PD.all_eq (d : PD) (n : Nat) : d.all n = (subs 0 n).filter d.feas := d.comp_eq n 0 0 _

end Go.Proofs.YtebigkjilklodaaDoor

/- Panels, tried one size at a time: the sets of a size in order; prices of panels, and the first greatest one. No program in sight. -/
namespace Go.Proofs.YtebigkjilklodaaDoor

/-- The sets of a size: of the entrants from one on, of so many. -/
def comb (i : Nat) : Nat → Nat → List (List Nat)
  | _, 0 => [[]]
  | 0, _ + 1 => []
  | rem + 1, r + 1 => (comb (i + 1) rem r).map (i :: ·) ++ comb (i + 1) rem (r + 1)
theorem comb_zero (i rem : Nat) : comb i rem 0 = [[]] := by cases rem <;> rfl
theorem comb_nil (i r : Nat) : comb i 0 (r + 1) = [] := rfl
theorem comb_succ (i rem r : Nat) : comb i (rem + 1) (r + 1) = (comb (i + 1) rem r).map (i :: ·) ++ comb (i + 1) rem (r + 1) := rfl
theorem comb_eq (rem : Nat) : ∀ i r, (subs i rem).filter (fun x => decide (x.length = r)) = comb i rem r := by
  induction rem with
  | zero =>
    intro i r
    cases r with
    | zero => rfl
    | succ r => rfl
  | succ rem ih =>
    intro i r
    unfold subs
    rw [List.filter_append, ih]
    cases r with
    | zero =>
      rw [comb_zero, comb_zero]
      have : ((subs (i + 1) rem).map (i :: ·)).filter (fun x => decide (x.length = 0)) = [] := by
        rw [List.filter_eq_nil_iff]
        intro x hx
        rw [List.mem_map] at hx
        obtain ⟨y, _, rfl⟩ := hx
        simp
      rw [this]; rfl
    | succ r =>
      rw [comb_succ, ← ih (i + 1) r, List.filter_map]
      congr 2
      congr 1
      funext x
      simp
theorem comb_length {rem : Nat} : ∀ {i r : Nat} {x : List Nat}, x ∈ comb i rem r → x.length = r := by
  intro i r x hx
  rw [← comb_eq] at hx
  simpa using (List.mem_filter.1 hx).2
theorem subs_mem {rem : Nat} : ∀ {i : Nat} {x : List Nat}, x ∈ subs i rem ↔ (x.Pairwise (· < ·) ∧ ∀ j ∈ x, i ≤ j ∧ j < i + rem) := by
  induction rem with
  | zero =>
    intro i x
    simp only [subs, List.mem_singleton]
    constructor
    · rintro rfl; simp
    · rintro ⟨_, h⟩
      cases x with
      | nil => rfl
      | cons a l => have := h a (List.mem_cons_self ..); omega
  | succ rem ih =>
    intro i x
    simp only [subs, List.mem_append, List.mem_map]
    constructor
    · rintro (⟨y, hy, rfl⟩ | hx)
      · obtain ⟨h1, h2⟩ := ih.1 hy
        refine ⟨List.pairwise_cons.2 ⟨fun j hj => (h2 j hj).1, h1⟩, fun j hj => ?_⟩
        rcases List.mem_cons.1 hj with rfl | hj
        · omega
        · have := h2 j hj; omega
      · obtain ⟨h1, h2⟩ := ih.1 hx
        exact ⟨h1, fun j hj => by have := h2 j hj; omega⟩
    · rintro ⟨h1, h2⟩
      cases x with
      | nil => exact .inr (ih.2 ⟨h1, by simp⟩)
      | cons a l =>
        rw [List.pairwise_cons] at h1
        have ha := h2 a (List.mem_cons_self ..)
        by_cases e : a = i
        · subst e
          exact .inl ⟨l, ih.2 ⟨h1.2, fun j hj => by have := h1.1 j hj; have := h2 j (List.mem_cons_of_mem _ hj); omega⟩, rfl⟩
        · refine .inr (ih.2 ⟨List.pairwise_cons.2 h1, fun j hj => ?_⟩)
          rcases List.mem_cons.1 hj with rfl | hj'
          · omega
          · have := h1.1 j hj'; have := h2 j hj; omega
/-- The feasible panels are those of the size that are feasible. -/
theorem PD.all_comb (d : PD) (n r : Nat) (h : d.size = r) : d.all n = (comb 0 n r).filter d.feas := by
  rw [d.all_eq, ← comb_eq, List.filter_filter]
  apply List.filter_congr
  intro x _
  cases hf : d.feas x
  · rfl
  · have : x.length = r := by
      unfold PD.feas PD.fits at hf
      simp only [Bool.and_eq_true, decide_eq_true_eq] at hf
      omega
    rw [decide_eq_true this]; rfl
theorem PD.all_mem (d : PD) {n : Nat} {x : List Nat} : x ∈ d.all n ↔ (x.Pairwise (· < ·) ∧ (∀ j ∈ x, j < n) ∧ d.feas x = true) := by
  rw [d.all_eq, List.mem_filter, subs_mem]
  constructor
  · rintro ⟨⟨h1, h2⟩, h3⟩; exact ⟨h1, fun j hj => by have := h2 j hj; omega, h3⟩
  · rintro ⟨h1, h2, h3⟩; exact ⟨⟨h1, fun j hj => ⟨Nat.zero_le _, by have := h2 j hj; omega⟩⟩, h3⟩
theorem PD.feas_length (d : PD) {x : List Nat} (h : d.feas x = true) : (x.length : Int) = d.size := by
  unfold PD.feas PD.fits at h
  simp only [Bool.and_eq_true, decide_eq_true_eq] at h
  omega

/-- Prices. -/
def price (p : Nat → Rat) (x : List Nat) : Rat := x.foldr (fun i q => q + p i) 0
/-- The greater of two, the first of equal ones. -/
def better (a b : Option (Rat × List Nat)) : Option (Rat × List Nat) :=
  match a, b with
  | none, b => b
  | some a, none => some a
  | some a, some b => if 0 < cmpR b.1 a.1 then some b else some a
/-- The first greatest one of a list. -/
def top (p : Nat → Rat) : List (List Nat) → Option (Rat × List Nat)
  | [] => none
  | x :: l => better (some (price p x, x)) (top p l)
theorem ratLt_trans {a b c : Rat} (h1 : a < b) (h2 : b < c) : a < c := Rat.not_le.1 fun h => Rat.not_le.2 h2 (Rat.le_trans h (Rat.le_of_lt h1))
theorem cmpR_pos {a b : Rat} : 0 < cmpR a b ↔ b < a := by
  unfold cmpR
  by_cases h : a < b
  · rw [if_pos h]
    constructor
    · intro h; omega
    · intro h2; exact absurd (ratLt_trans h h2) Rat.lt_irrefl
  · rw [if_neg h]
    by_cases e : a = b
    · rw [if_pos e]; subst e; constructor <;> intro h2
      · omega
      · exact absurd h2 h
    · rw [if_neg e]
      constructor
      · intro _
        exact Rat.lt_of_le_of_ne (Rat.not_lt.1 h) (Ne.symm e)
      · intro _; omega
theorem better_lt {a b : Rat × List Nat} (h : a.1 < b.1) : better (some a) (some b) = some b := if_pos (cmpR_pos.2 h)
theorem better_ge {a b : Rat × List Nat} (h : ¬ a.1 < b.1) : better (some a) (some b) = some a := if_neg fun h2 => h (cmpR_pos.1 h2)
theorem better_none (a : Option (Rat × List Nat)) : better a none = a := by cases a <;> rfl
theorem better_assoc (a b c : Option (Rat × List Nat)) : better (better a b) c = better a (better b c) := by
  cases a with
  | none => rfl
  | some a =>
    cases b with
    | none => rfl
    | some b =>
      cases c with
      | none => rw [better_none, better_none]
      | some c =>
        by_cases h1 : a.1 < b.1
        · rw [better_lt h1]
          by_cases h2 : b.1 < c.1
          · rw [better_lt h2, better_lt (ratLt_trans h1 h2)]
          · rw [better_ge h2, better_lt h1]
        · rw [better_ge h1]
          by_cases h2 : b.1 < c.1
          · rw [better_lt h2]
          · rw [better_ge h2, better_ge h1, better_ge]
            intro h3
            exact Rat.not_le.2 h3 (Rat.le_trans (Rat.not_lt.1 h2) (Rat.not_lt.1 h1))
theorem top_append (p : Nat → Rat) (l m : List (List Nat)) : top p (l ++ m) = better (top p l) (top p m) := by
  induction l with
  | nil => rfl
  | cons x l ih =>
    show better _ (top p (l ++ m)) = better (better _ _) _
    rw [ih, better_assoc]
theorem price_cons (p : Nat → Rat) (i : Nat) (x : List Nat) : price p (i :: x) = price p x + p i := rfl
theorem top_map (p : Nat → Rat) (i : Nat) (l : List (List Nat)) : top p (l.map (i :: ·)) = (top p l).map fun a => (a.1 + p i, i :: a.2) := by
  induction l with
  | nil => rfl
  | cons x l ih =>
    rw [List.map_cons]
    show better (some (price p (i :: x), i :: x)) (top p (l.map (i :: ·))) = _
    rw [ih, price_cons]
    show _ = (better (some (price p x, x)) (top p l)).map _
    cases top p l with
    | none => rfl
    | some b =>
      rw [Option.map_some]
      by_cases h : price p x < b.1
      · rw [better_lt (show (price p x, x).1 < b.1 from h), better_lt (show (price p x + p i, i :: x).1 < (b.1 + p i, i :: b.2).1 from Rat.add_lt_add_right.2 h)]; rfl
      · rw [better_ge (show ¬ (price p x, x).1 < b.1 from h), better_ge (show ¬ (price p x + p i, i :: x).1 < (b.1 + p i, i :: b.2).1 from fun h2 => h (Rat.add_lt_add_right.1 h2))]; rfl
theorem top_none {p : Nat → Rat} {l : List (List Nat)} : top p l = none ↔ l = [] := by
  cases l with
  | nil => exact ⟨fun _ => rfl, fun _ => rfl⟩
  | cons x l =>
    constructor
    · intro h
      exfalso
      change better (some (price p x, x)) (top p l) = none at h
      revert h
      cases top p l with
      | none => intro h; cases h
      | some b =>
        by_cases h : price p x < b.1
        · rw [better_lt (show (price p x, x).1 < b.1 from h)]; intro h; cases h
        · rw [better_ge (show ¬ (price p x, x).1 < b.1 from h)]; intro h; cases h
    · intro h; cases h
/-- What the first greatest one is. -/
theorem top_some {p : Nat → Rat} {l : List (List Nat)} {q : Rat} {x : List Nat} (h : top p l = some (q, x)) :
    ∃ a b, l = a ++ x :: b ∧ q = price p x ∧ (∀ y ∈ a, price p y < q) ∧ ∀ y ∈ b, price p y ≤ q := by
  induction l generalizing q x with
  | nil => cases h
  | cons y l ih =>
    change better (some (price p y, y)) (top p l) = some (q, x) at h
    revert h
    cases ht : top p l with
    | none =>
      intro h
      have h : (price p y, y) = (q, x) := Option.some.inj h
      simp only [Prod.mk.injEq] at h
      obtain ⟨rfl, rfl⟩ := h
      rw [top_none] at ht
      subst ht
      exact ⟨[], [], rfl, rfl, by simp, by simp⟩
    | some b =>
      intro h
      obtain ⟨a1, b1, e1, e2, e3, e4⟩ := ih (q := b.1) (x := b.2) ht
      by_cases hc : price p y < b.1
      · rw [better_lt (show (price p y, y).1 < b.1 from hc)] at h
        have h : b = (q, x) := Option.some.inj h
        subst h
        refine ⟨y :: a1, b1, by rw [e1]; rfl, e2, fun z hz => ?_, e4⟩
        rcases List.mem_cons.1 hz with rfl | hz
        · exact hc
        · exact e3 z hz
      · rw [better_ge (show ¬ (price p y, y).1 < b.1 from hc)] at h
        have h : (price p y, y) = (q, x) := Option.some.inj h
        simp only [Prod.mk.injEq] at h
        obtain ⟨rfl, rfl⟩ := h
        rw [Rat.not_lt] at hc
        refine ⟨[], l, rfl, rfl, by simp, fun z hz => ?_⟩
        rw [e1] at hz
        rcases List.mem_append.1 hz with hz | hz
        · exact Rat.le_trans (Rat.le_of_lt (e3 z hz)) hc
        · rcases List.mem_cons.1 hz with rfl | hz
          · rw [← e2]; exact hc
          · exact Rat.le_trans (e4 z hz) hc
/-- Prices added from the left. -/
theorem price_foldl (p : Nat → Rat) (x : List Nat) : ∀ q : Rat, x.foldl (fun q i => q + p i) q = q + price p x := by
  induction x with
  | nil => intro q; exact (Rat.add_zero q).symm
  | cons i x ih => intro q; rw [List.foldl_cons, ih, price_cons, Rat.add_assoc, Rat.add_comm (p i)]

end Go.Proofs.YtebigkjilklodaaDoor

/- How many subsets there are, with so many of some. No program in sight. -/
namespace Go.Proofs.YtebigkjilklodaaDoor

def chs : Nat → Nat → Nat
  | _, 0 => 1
  | 0, _ + 1 => 0
  | n + 1, k + 1 => chs n k + chs n (k + 1)
theorem chs_zero (n : Nat) : chs n 0 = 1 := by cases n <;> rfl
theorem chs_nil (k : Nat) : chs 0 (k + 1) = 0 := rfl
theorem chs_succ (n k : Nat) : chs (n + 1) (k + 1) = chs n k + chs n (k + 1) := rfl
theorem chs_more : ∀ n k, n < k → chs n k = 0 := by
  intro n
  induction n with
  | zero => intro k h; cases k with
    | zero => omega
    | succ k => rfl
  | succ n ih =>
    intro k h
    cases k with
    | zero => omega
    | succ k => rw [chs_succ, ih k (by omega), ih (k + 1) (by omega)]
theorem chs_self (n : Nat) : chs n n = 1 := by
  induction n with
  | zero => rfl
  | succ n ih => rw [chs_succ, ih, chs_more n (n + 1) (by omega)]
theorem chs_le : ∀ n k, chs n k ≤ 2 ^ n := by
  intro n
  induction n with
  | zero => intro k; cases k <;> simp [chs]
  | succ n ih =>
    intro k
    cases k with
    | zero => rw [chs_zero]; exact Nat.one_le_two_pow
    | succ k =>
      have h1 := ih k
      have h2 := ih (k + 1)
      rw [chs_succ, Nat.pow_succ]
      omega
theorem comb_count : ∀ rem i r, (comb i rem r).length = chs rem r := by
  intro rem
  induction rem with
  | zero => intro i r; cases r <;> rfl
  | succ rem ih =>
    intro i r
    cases r with
    | zero => rfl
    | succ r => rw [comb_succ, List.length_append, List.length_map, ih, ih, chs_succ]

def cntA (A : Nat) (x : List Nat) : Nat := x.countP fun j => decide (j < A)
theorem cntA_cons (A i : Nat) (x : List Nat) : cntA A (i :: x) = cntA A x + if i < A then 1 else 0 := by
  unfold cntA
  rw [List.countP_cons]
  by_cases h : i < A <;> simp [h]
theorem comb_split (A : Nat) : ∀ rem i r k, ((comb i rem r).filter fun x => decide (cntA A x = k)).length = if k ≤ r then chs (min rem (A - i)) k * chs (rem - (A - i)) (r - k) else 0 := by
  intro rem
  induction rem with
  | zero =>
    intro i r k
    cases r with
    | zero =>
      rw [comb_zero]
      cases k with
      | zero => simp [cntA, chs]
      | succ k => simp [cntA]
    | succ r =>
      rw [comb_nil, List.filter_nil, List.length_nil]
      cases k with
      | zero => simp [chs]
      | succ k =>
        rw [Nat.zero_min, chs_nil, Nat.zero_mul]
        split <;> rfl
  | succ rem ih =>
    intro i r k
    cases r with
    | zero =>
      rw [comb_zero]
      cases k with
      | zero => simp [cntA, chs_zero]
      | succ k => simp [cntA]
    | succ r =>
      rw [comb_succ, List.filter_append, List.length_append, List.filter_map, List.length_map, ih (i + 1) (r + 1) k]
      by_cases h : i < A
      · have e1 : min (rem + 1) (A - i) = min rem (A - (i + 1)) + 1 := by omega
        have e2 : rem + 1 - (A - i) = rem - (A - (i + 1)) := by omega
        rw [e1, e2]
        cases k with
        | zero =>
          have : ((comb (i + 1) rem r).filter ((fun x => decide (cntA A x = 0)) ∘ (i :: ·))) = [] := by
            rw [List.filter_eq_nil_iff]
            intro x _
            simp [cntA_cons, h]
          rw [this]
          simp [chs_zero]
        | succ k =>
          have : ((comb (i + 1) rem r).filter ((fun x => decide (cntA A x = k + 1)) ∘ (i :: ·))) = (comb (i + 1) rem r).filter fun x => decide (cntA A x = k) := by
            congr 1
            funext x
            simp [cntA_cons, h]
          rw [this, ih (i + 1) r k, chs_succ, Nat.add_mul]
          by_cases hk : k ≤ r
          · rw [if_pos hk, if_pos (by omega), if_pos (by omega), show r + 1 - (k + 1) = r - k by omega]
          · rw [if_neg hk, if_neg (by omega), if_neg (by omega)]
      · have e1 : A - i = 0 := by omega
        have e2 : A - (i + 1) = 0 := by omega
        rw [e1, e2]
        have : ((comb (i + 1) rem r).filter ((fun x => decide (cntA A x = k)) ∘ (i :: ·))) = (comb (i + 1) rem r).filter fun x => decide (cntA A x = k) := by
          congr 1
          funext x
          simp [cntA_cons, h]
        rw [this, ih (i + 1) r k, e2]
        simp only [Nat.min_zero, Nat.sub_zero]
        by_cases hk : k ≤ r
        · rw [if_pos hk, if_pos (by omega), if_pos (by omega), show r + 1 - k = (r - k) + 1 by omega, chs_succ, Nat.mul_add]
        · rw [if_neg hk]
          by_cases hk' : k ≤ r + 1
          · rw [if_pos hk', if_pos hk', show k = r + 1 by omega, chs_nil]; simp
          · rw [if_neg hk', if_neg hk']

/-- A sum of so many values from one on. -/
def sumW (f : Nat → Nat) (lo : Nat) : Nat → Nat
  | 0 => 0
  | n + 1 => sumW f lo n + f (lo + n)
theorem sumW_le (f : Nat → Nat) (lo c : Nat) (h : ∀ t, f t ≤ c) : ∀ n, sumW f lo n ≤ n * c := by
  intro n
  induction n with
  | zero => simp [sumW]
  | succ n ih => have := h (lo + n); rw [Nat.succ_mul]; show sumW f lo n + _ ≤ _; omega
theorem filter_range {α : Type} (c : α → Nat) (l : List α) (lo : Nat) : ∀ n, (l.filter fun x => decide (lo ≤ c x) && decide (c x < lo + n)).length = sumW (fun t => (l.filter fun x => decide (c x = t)).length) lo n := by
  intro n
  induction n with
  | zero =>
    rw [List.filter_eq_nil_iff.2]
    · rfl
    · intro x _; simp <;> omega
  | succ n ih =>
    show _ = sumW _ lo n + _
    rw [← ih]
    clear ih
    induction l with
    | nil => rfl
    | cons x l ih =>
      simp only [List.filter_cons]
      by_cases h1 : lo ≤ c x
      · rcases Nat.lt_trichotomy (c x) (lo + n) with h2 | h2 | h2
        · have a1 : c x < lo + (n + 1) := by omega
          have a2 : ¬ c x = lo + n := by omega
          simp [h1, h2, a1, a2, ih]; omega
        · have a1 : c x < lo + (n + 1) := by omega
          have a2 : ¬ c x < lo + n := by omega
          simp [h1, h2, ih]; omega
        · have a1 : ¬ c x < lo + (n + 1) := by omega
          have a2 : ¬ c x < lo + n := by omega
          have a3 : ¬ c x = lo + n := by omega
          simp [a1, a2, a3, ih]
      · have a3 : ¬ c x = lo + n := by omega
        simp [h1, a3, ih]

end Go.Proofs.YtebigkjilklodaaDoor

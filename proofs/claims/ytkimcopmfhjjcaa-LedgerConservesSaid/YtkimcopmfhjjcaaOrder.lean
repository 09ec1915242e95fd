/- The order of indices by keys: the library's stable sort at fewer than 20 elements, and 'order'. -/
import Derived.Test.YtkimcopmfhjjcaaSort
namespace Go.Proofs.Ytkimcopmfhjjcaa
open Go.RowKit

def cmpI (x y : Int) : Int := if x < y then -1 else if y < x then 1 else 0

set_option maxHeartbeats 400000 in
theorem compare_any (x y : Int) (w : World) :
    Calls Try.prog 35 #[.int .i64 x, .int .i64 y] w fun e w' => e = .returned (.int .i64 (cmpI x y)) ∧ w' = w := by
  by_cases h : x < y
  · have e : cmpI x y = -1 := if_pos h
    have E := Lib.hid e
    clear e
    go_enter Try.func35, Try.ntmps35
    go_wp2
    go_ret
    exact ⟨ret_int E.out.symm, rfl⟩
  · by_cases h2 : y < x
    · have e : cmpI x y = 1 := by unfold cmpI; rw [if_neg h, if_pos h2]
      have E := Lib.hid e
      clear e
      go_enter Try.func35, Try.ntmps35
      go_wp2
      go_ret
      exact ⟨ret_int E.out.symm, rfl⟩
    · have e : cmpI x y = 0 := by unfold cmpI; rw [if_neg h, if_neg h2]
      have E := Lib.hid e
      clear e
      go_enter Try.func35, Try.ntmps35
      go_wp2
      go_ret
      exact ⟨ret_int E.out.symm, rfl⟩

set_option maxHeartbeats 1000000 in
theorem stable0_any (B g cap : Nat) (d : List Int) (w : World) (cf : Int → Int → Int) (P : Int → Prop) (p1 p2 : Value) (h : OwnInts w B g cap d) (hP : ∀ x ∈ d, P x) (hn : d.length < 20)
    (hcmp : ∀ W, Below B w W → ∀ x y, P x → P y → Calls Try.prog 34 #[.int .i64 x, .int .i64 y, p1, p2] W fun e w' => e = .returned (.int .i64 (cf x y)) ∧ Drew W w') :
    Calls Try.prog 43 #[.slice (some ⟨g, 0, none⟩) d.length cap, .int .i64 d.length, .func (.func 34) #[] #[p1, p2]] w fun e w' =>
      e = .returned (.tuple #[]) ∧ OwnInts w' B g cap (outerL (fun x y => decide (cf x y < 0)) d.length d) ∧ Below B w w' := by
  have K := insertion_any B g cap d w cf P p1 p2 h hP (by omega) hcmp
  have KH := Lib.hid K
  clear K hcmp h hP
  have h1 : ¬ (20 : Int) ≤ d.length := by omega
  have h2 : ¬ (20 : Int) < d.length := by omega
  go_enter Try.func43, Try.ntmps43
  go_wp2_with fail
  refine wp_loop_rounds 1 ?_
  rw [rounds_succ]
  go_wp2_with fail
  refine KH.out.mono ?_
  rintro e w' ⟨rfl, hO, hb⟩
  have HO := Lib.hid hO
  clear hO
  go_wp2_with fail
  refine wp_loop_rounds 1 ?_
  rw [rounds_succ]
  go_wp2_with fail
  go_end0
  exact ⟨rfl, HO.out, hb⟩

set_option maxHeartbeats 1000000 in
theorem stable_any (B g cap : Nat) (d : List Int) (w : World) (cf : Int → Int → Int) (P : Int → Prop) (p1 p2 : Value) (h : OwnInts w B g cap d) (hP : ∀ x ∈ d, P x) (hn : d.length < 20)
    (hcmp : ∀ W, Below B w W → ∀ x y, P x → P y → Calls Try.prog 34 #[.int .i64 x, .int .i64 y, p1, p2] W fun e w' => e = .returned (.int .i64 (cf x y)) ∧ Drew W w') :
    Calls Try.prog 33 #[.slice (some ⟨g, 0, none⟩) d.length cap, .func (.func 34) #[] #[p1, p2]] w fun e w' =>
      e = .returned (.tuple #[]) ∧ OwnInts w' B g cap (outerL (fun x y => decide (cf x y < 0)) d.length d) ∧ Below B w w' := by
  have K := stable0_any B g cap d w cf P p1 p2 h hP hn hcmp
  have KH := Lib.hid K
  clear K hcmp h hP
  go_enter Try.func33, Try.ntmps33
  go_wp2_with fail
  refine KH.out.mono ?_
  rintro e w' ⟨rfl, hO, hb⟩
  have HO := Lib.hid hO
  clear hO
  go_wp2_with fail
  go_end0
  exact ⟨rfl, HO.out, hb⟩

/-- The rest by which a part is ordered. -/
def restI (a s x : Int) : Int := a * x % s

set_option maxHeartbeats 400000 in
theorem key_any (a s x : Int) (ba bs : Nat) (w : World) (ha : w.cell? ⟨ba, 0, none⟩ = some (.int .i64 a)) (hs : w.cell? ⟨bs, 0, none⟩ = some (.int .i64 s))
    (h0 : 0 ≤ a * x) (h1 : a * x ≤ 1000000000000000) (hs0 : 1 ≤ s) (hs1 : s ≤ 1000000000000) :
    Calls Try.prog 22 #[.int .i64 x, .pointer (some ⟨ba, 0, none⟩), .pointer (some ⟨bs, 0, none⟩)] w fun e w' => e = .returned (.int .i64 (restI a s x)) ∧ w' = w := by
  have hm := Int.emod_nonneg (a * x) (show s ≠ 0 by omega)
  have hm2 := Int.emod_lt_of_pos (a * x) (show 0 < s by omega)
  go_enter Try.func22, Try.ntmps22
  go_wp2
  go_ret
  exact ⟨rfl, rfl⟩

set_option maxHeartbeats 1000000 in
/-- The comparison of two indices by their elements' keys. -/
theorem less_any (kb lb : Nat) (v : Value) (pa ps : Value) (l : List Int) (w : World) (kf : Int → Int) (B : Nat) (hl : IntsAt B w v l)
    (hk : w.cell? ⟨kb, 0, none⟩ = some (.func (.func 22) #[] #[pa, ps])) (hlb : w.cell? ⟨lb, 0, none⟩ = some v)
    (hkey : ∀ n x, x ∈ l → Calls Try.prog 22 #[.int .i64 x, pa, ps] (w.drewN n) fun e w' => e = .returned (.int .i64 (kf x)) ∧ w' = w.drewN n)
    (i j : Int) (hi0 : 0 ≤ i) (hi : i < l.length) (hj0 : 0 ≤ j) (hj : j < l.length) :
    Calls Try.prog 34 #[.int .i64 i, .int .i64 j, .pointer (some ⟨kb, 0, none⟩), .pointer (some ⟨lb, 0, none⟩)] w fun e w' =>
      e = .returned (.int .i64 (cmpI (kf (l[j.toNat]?.getD 0)) (kf (l[i.toNat]?.getD 0)))) ∧ Drew w w' := by
  obtain ⟨i, rfl⟩ := Int.eq_ofNat_of_zero_le hi0
  obtain ⟨j, rfl⟩ := Int.eq_ofNat_of_zero_le hj0
  obtain ⟨ao, cap, rfl, hc⟩ := hl.open
  obtain ⟨b, off, rfl, hbl, ci⟩ := hc i (by omega)
  obtain ⟨b2, off2, h2, _, cj⟩ := hc j (by omega)
  obtain ⟨rfl, rfl⟩ : b = b2 ∧ off = off2 := by simpa using h2
  clear h2 hc hl
  rw [Int.toNat_natCast, Int.toNat_natCast]
  have mi : l[i]?.getD 0 ∈ l := by rw [List.getElem?_eq_getElem (by omega)]; exact List.getElem_mem _
  have mj : l[j]?.getD 0 ∈ l := by rw [List.getElem?_eq_getElem (by omega)]; exact List.getElem_mem _
  obtain ⟨x, hx⟩ : ∃ x, x = l[i]?.getD 0 := ⟨_, rfl⟩
  obtain ⟨y, hy⟩ : ∃ y, y = l[j]?.getD 0 := ⟨_, rfl⟩
  rw [← hx] at ci mi ⊢
  rw [← hy] at cj mj ⊢
  clear hx hy
  have Ki := fun n => hkey n x mi
  have Kj := fun n => hkey n y mj
  clear mi mj
  have KI := Lib.hid Ki
  have KJ := Lib.hid Kj
  clear Ki Kj hkey
  go_enter Try.func34, Try.ntmps34
  go_wp2
  go_quiet ((first | (go_at_call 35; exact Calls.quiet_of_same (compare_any _ _ _)) | (go_at_call 22; first | (with_reducible exact Calls.quiet_of_same (KI.out _)) | (with_reducible exact Calls.quiet_of_same (KJ.out _)))))
  go_wp2
  go_ret
  exact ⟨rfl, Drew.n _ _⟩

end Go.Proofs.Ytkimcopmfhjjcaa

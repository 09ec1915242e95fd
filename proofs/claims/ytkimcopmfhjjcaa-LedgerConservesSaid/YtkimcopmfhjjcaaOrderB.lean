/- 'order': the indices of a list, those with the greatest keys first. -/
import Derived.Test.YtkimcopmfhjjcaaOrder
namespace Go.Proofs.Ytkimcopmfhjjcaa
open Go.RowKit

theorem Try.infoInt : (Try.prog.info? 3).map (fun i => (i.zero, i.size, i.bytes)) = some (some (.int .i64 0), 1, 8) := by kernel_rfl
/-- 0, 1, .. n - 1. -/
def upto (n : Nat) : List Int := (List.range n).map Int.ofNat
theorem upto_succ (n : Nat) : upto (n + 1) = upto n ++ [(n : Int)] := by simp [upto, List.range_succ]
theorem upto_length (n : Nat) : (upto n).length = n := by simp [upto]
theorem upto_mem {n : Nat} {x : Int} (h : x ∈ upto n) : 0 ≤ x ∧ x < n := by
  simp only [upto, List.mem_map, List.mem_range] at h
  obtain ⟨k, hk, rfl⟩ := h
  exact ⟨Int.natCast_nonneg _, by simpa using hk⟩

/-- The indices of a list by keys, the greatest first, of equal ones the earlier. -/
def orderI (kf : Int → Int) (l : List Int) : List Int := outerL (fun i j => decide (cmpI (kf (l[j.toNat]?.getD 0)) (kf (l[i.toNat]?.getD 0)) < 0)) l.length (upto l.length)

set_option maxHeartbeats 1000000 in
theorem order_any (v : Value) (pa ps : Value) (l : List Int) (w : World) (kf : Int → Int) (hl : IntsAt w.heap.size w v l) (h1 : 1 ≤ l.length) (h20 : l.length < 20)
    (hkey : ∀ W, Below w.heap.size w W → ∀ x, x ∈ l → Calls Try.prog 22 #[.int .i64 x, pa, ps] W fun e w' => e = .returned (.int .i64 (kf x)) ∧ w' = W) :
    Calls Try.prog 21 #[v, .func (.func 22) #[] #[pa, ps]] w fun e w' =>
      ∃ g cap, e = .returned (.slice (some ⟨g, 0, none⟩) l.length cap) ∧ OwnInts w' w.heap.size g cap (orderI kf l) ∧ Below w.heap.size w w' := by
  obtain ⟨i0, hi, hz0, hz1, hz2⟩ := info_parts Try.infoInt
  obtain ⟨ao, cap0, rfl, hc⟩ := hl.open
  have HL := Lib.hid hl
  have HK := Lib.hid hkey
  clear hl hkey hc
  go_enter Try.func21, Try.ntmps21
  go_wp2
  obtain ⟨W0, hW0⟩ : ∃ W0, W0 = (w.alloc (Obj.cells #[.slice ao l.length cap0] 22)).alloc (Obj.cells #[.func (.func 22) #[] #[pa, ps]] 55) := ⟨_, rfl⟩
  have hs0 : W0.heap.size = w.heap.size + 2 := by rw [hW0]; simp
  have c0 : W0.cell? ⟨w.heap.size, 0, none⟩ = some (.slice ao l.length cap0) := by rw [hW0]; simp [go_sem]
  have c1 : W0.cell? ⟨w.heap.size + 1, 0, none⟩ = some (.func (.func 22) #[] #[pa, ps]) := by rw [hW0]; simp [go_sem]
  have hb0 : Below w.heap.size w W0 := by rw [hW0]; exact ((Below.refl _ _).alloc (Nat.le_refl _) _).alloc (by simp) _
  rw [← hW0]
  clear hW0
  have HS0 := Lib.hid hs0
  have C0 := Lib.hid c0
  have C1 := Lib.hid c1
  have hsl : w.heap.size + 2 ≤ W0.heap.size := by omega
  clear c0 c1 hs0
  go_loopw [5, 9] (fun v i wr => ∃ k : Nat, k ≤ l.length ∧ i = .int .i64 k ∧ wr.ownsRow (w.heap.size + 2) 3 1 v k ((upto k).map (Value.int .i64)) ∧ Below (w.heap.size + 2) W0 wr) (fun _ i _ => l.length - (intOf i).toNat)
  case atStart => exact ⟨0, Nat.zero_le _, rfl, World.ownsRow_nil _ _ _ _, Below.refl _ _⟩
  case round =>
    obtain ⟨k, hk, rfl, hown, hnx⟩ := hrel
    have hsz := hnx.size
    by_cases hlt : k < l.length
    · have hlz : (k : Int) < l.length := by omega
      go_wp2_with (at_builtin; refine wpList_append_own _ rfl _ _ 22 rfl (w.heap.size + 2) 3 i0 (.int .i64 0) 1 8 Try.underlying22 hi hz0 hz1 hz2 rfl (by decide) _ _ _ rfl (hown.alloc _) ⟨wr.heap.size, 0, none⟩ 1 1 [.int .i64 k] rfl rfl ?c1 ?c2 ?c3 ?c4 ?c5 ?_)
      case c1 => exact cell_one_new _ _ _
      case c2 => intro u hu; simp at hu; subst hu; rfl
      case c3 => unfold maxLen; omega
      case c4 => omega
      case c5 => simp; omega
      intro v' w1 hown' hgrow _
      have hnx' : Below (w.heap.size + 2) W0 w1 := (hnx.alloc (by omega) _).grown hgrow (by simp; omega) (fun j hj => (hown.lt j hj).1)
      have hown2 : w1.ownsRow (w.heap.size + 2) 3 1 v' (k + 1) ((upto (k + 1)).map (Value.int .i64)) := by rw [upto_succ]; simpa using hown'
      clear hown' hgrow hown hnx
      go_wp2
      go_roundw
      case rel => exact ⟨k + 1, by omega, by go_num, hown2, hnx'⟩
      case measure => simp [intOf]; omega
    · obtain rfl : k = l.length := by omega
      have hlz : ¬ (l.length : Int) < l.length := by omega
      obtain ⟨g, cap, rfl, hO⟩ : ∃ g cap, u5 = .slice (some ⟨g, 0, none⟩) l.length cap ∧ OwnInts wr (w.heap.size + 2) g cap (upto l.length) := by
        rcases hown.2 with ⟨_, h⟩ | ⟨g, cap, cur, rfl, _⟩
        · omega
        · exact ⟨g, cap, rfl, by unfold OwnInts; rw [upto_length]; exact hown⟩
      have hcmp : ∀ W, Below (w.heap.size + 2) wr W → ∀ x y : Int, (0 ≤ x ∧ x < l.length) → (0 ≤ y ∧ y < l.length) → Calls Try.prog 34 #[.int .i64 x, .int .i64 y, .pointer (some ⟨w.heap.size + 1, 0, none⟩), .pointer (some ⟨w.heap.size, 0, none⟩)] W fun e w' =>
          e = .returned (.int .i64 (cmpI (kf (l[y.toNat]?.getD 0)) (kf (l[x.toNat]?.getD 0)))) ∧ Drew W w' := by
        intro W hW x y hx hy
        have hbW := hnx.trans hW
        have hbw : Below w.heap.size w W := hb0.trans (hbW.mono (by omega))
        exact less_any (w.heap.size + 1) w.heap.size _ pa ps l W kf w.heap.size (HL.out.mono hbw (Nat.le_refl _)) ((hbW.cell (p := ⟨w.heap.size + 1, 0, none⟩) (by show w.heap.size + 1 < _; omega)).trans C1.out) ((hbW.cell (p := ⟨w.heap.size, 0, none⟩) (by show w.heap.size < _; omega)).trans C0.out)
          (fun n z hz => HK.out _ (below_drewN hbw n) z hz) x y hx.1 hx.2 hy.1 hy.2
      have K := stable_any (w.heap.size + 2) g cap (upto l.length) wr (fun i j => cmpI (kf (l[j.toNat]?.getD 0)) (kf (l[i.toNat]?.getD 0))) (fun x => 0 ≤ x ∧ x < l.length) (.pointer (some ⟨w.heap.size + 1, 0, none⟩)) (.pointer (some ⟨w.heap.size, 0, none⟩)) hO (fun x hx => upto_mem hx) (by rw [upto_length]; exact h20) hcmp
      rw [upto_length] at K
      have KH := Lib.hid K
      clear K hcmp hO hown
      go_wp2_with fail
      refine KH.out.mono ?_
      rintro e w' ⟨rfl, hO, hb⟩
      have HO := Lib.hid hO
      clear hO
      go_wp2_with fail
      go_ret
      have hO2 : OwnInts w' w.heap.size g cap (orderI kf l) := by
        have h2 := HO.out
        refine ⟨h2.1, ?_⟩
        rcases h2.2 with h3 | ⟨g', cap', cur, h3, h4, h5⟩
        · exact .inl h3
        · exact .inr ⟨g', cap', cur, h3, by omega, h5⟩
      exact ⟨g, cap, rfl, hO2, hb0.trans ((hnx.trans hb).mono (by omega))⟩

end Go.Proofs.Ytkimcopmfhjjcaa

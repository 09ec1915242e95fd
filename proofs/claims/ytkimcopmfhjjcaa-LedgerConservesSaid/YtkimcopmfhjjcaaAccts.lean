/- 'Accounts': the names of all accounts, in order. -/
import Derived.Test.YtkimcopmfhjjcaaNames
namespace Go.Proofs.Ytkimcopmfhjjcaa
open Go.RowKit Go.Maps Go.WideMaps

theorem acctB_take {L : List Pst} {k : Nat} (h : k < L.length) (s : ByteArray) : acctB (L.take (k + 1)) s = (decide (s = (L[k]?.getD noPst).dst) || (decide (s = (L[k]?.getD noPst).src) || acctB (L.take k) s)) := by
  rw [List.take_add_one, List.getElem?_eq_getElem h]
  exact acctB_snoc _ _ _

theorem keys_at (mb : Option Nat) (W : World) : Calls Try.prog 29 #[.map mb] W fun e w' => e = .returned (.func (.func 42) #[] #[.pointer (some ⟨W.heap.size, 0, none⟩)]) ∧ w' = W.alloc (.cells #[.map mb] 66) :=
  (callsIn_wide (n := 5)).1 (Try.maps_Keys_29 mb W)
theorem sorted_at (b n : Nat) (f : ByteArray → Bool) (L : List Pst) (w : World) (hm : SMap w b n f) (hn : n ≤ 1000000) (hfl : ∀ s, f s = acctB L s) :
    Calls Try.prog 28 #[.func (.func 42) #[] #[.pointer (some ⟨w.heap.size, 0, none⟩)]] (w.alloc (.cells #[.map (some b)] 66)) fun e w' => ∃ v ss, e = .returned v ∧ AcctsAt w' v L ss ∧ ss.length ≤ n ∧ Below w.heap.size w w' := by
  obtain ⟨D, hown, r⟩ := hm
  have hsz : Maps.size D ≤ n := hown.size_le
  obtain ⟨hnd, hmem⟩ := SMap.keys hown r
  refine ((callsIn_wide (n := 5)).1 (Try.slices_Sorted_keys_28_29 b n D (plainElem Try.prog 4) w hown (by unfold maxLen; omega) (by omega))).mono ?_
  rintro e w' ⟨v, ss, rfl, hp, hrow, _, hb⟩
  have hms := List.mergeSort_perm ss (fun x y => decide (x ≤ y))
  have hln : ss.length = (strKeys D).length := hp.length_eq
  have hlen : (strKeys D).length ≤ n := by
    refine Nat.le_trans ?_ hsz
    obtain ⟨es, hD, _⟩ := hown.keysOf
    subst hD
    simp [strKeys, Maps.size]
  have hro : RowAt w'.heap.size w' v ss.length ((ss.mergeSort (fun x y => decide (x ≤ y))).map encStr) := RowAt.of_owns hrow
  rw [← hms.length_eq] at hro
  refine ⟨v, _, rfl, ⟨hro, sorted_strict ((hp.nodup_iff).2 hnd), fun x => ?_⟩, by rw [hms.length_eq]; omega, ((Below.refl _ w).alloc (Nat.le_refl _) _).trans (hb.mono (by simp))⟩
  rw [hms.mem_iff, hp.mem_iff, hmem x, hfl]

set_option maxHeartbeats 1000000 in
theorem accts_any (S : Nat → Prop) (lb c : Nat) (L : List Pst) (w : World) (hL : LedgerIn S w lb c L) (hf : ∀ p ∈ L, p.fits) :
    Calls Try.prog 17 #[.pointer (some ⟨lb, 0, none⟩)] w fun e w' => ∃ v ss, e = .returned v ∧ AcctsAt w' v L ss ∧ ss.length ≤ 2 * L.length ∧ Below w.heap.size w w' := by
  obtain ⟨pv, kv, bv, h, hh⟩ := hL
  obtain ⟨l0, l1, l2, lf⟩ := h.cells
  have hpv : ∃ ao cap, pv = .slice ao L.length cap := by
    rcases h.row.2 with ⟨rfl, r⟩ | ⟨g, cap, cur, rfl, _⟩
    · exact ⟨none, 0, by simp [r]⟩
    · exact ⟨_, _, rfl⟩
  obtain ⟨ao, cap, rfl⟩ := hpv
  have hlb := h.lt
  have HL := Lib.hid h
  have HF := Lib.hid hf
  have hmm := @run_makeMap Try.prog
  have hfew := h.few
  clear h hh hf
  go_enter Try.func17, Try.ntmps17
  go_wp2
  have hM0 : SMap (w.alloc (.map #[] 0)) w.heap.size 0 (acctB (L.take 0)) := SMap.made w
  go_loopw [14] (fun i wr => ∃ k : Nat, k ≤ L.length ∧ i = .int .i64 k ∧ Hid (SMap wr w.heap.size (2 * k) (acctB (L.take k))) ∧ Hid (Below w.heap.size w wr)) (fun i _ => L.length - (intOf i).toNat)
  case atStart => exact ⟨0, Nat.zero_le _, rfl, hM0, (Below.refl _ _).alloc (Nat.le_refl _) _⟩
  case round =>
    clear hM0
    obtain ⟨k, hk, rfl, HM, HB⟩ := hrel
    have hmlt := HM.out.lt
    by_cases hlt : k < L.length
    · have hlz : (k : Int) < L.length := by omega
      obtain ⟨g, cap', e, hg, g0, g1, g2, g3⟩ := (HL.out.below HB.out).at hlt
      simp only [Value.slice.injEq] at e
      obtain ⟨rfl, _, rfl⟩ := e
      have hp := HF.out (L[k]?.getD noPst) (by rw [List.getElem?_eq_getElem hlt]; exact List.getElem_mem _)
      have HTK := Lib.hid (fun s => acctB_take hlt s)
      obtain ⟨p, hpe⟩ : ∃ p, p = L[k]?.getD noPst := ⟨_, rfl⟩
      rw [← hpe] at g0 g1 g2 g3 hp HTK
      clear hpe
      obtain ⟨key, src, dst, amount⟩ := p
      dsimp only at g0 g1 g2 g3 hp HTK
      go_wp2
      obtain ⟨W6, hW6⟩ : ∃ W, W = wr.alloc (Obj.cells #[.string key, .string src, .string dst, .int .i64 amount] 40) := ⟨_, rfl⟩
      have p1 : W6.cell? ⟨wr.heap.size, 1, none⟩ = some (.string src) := by rw [hW6]; simp [go_sem]
      have p2 : W6.cell? ⟨wr.heap.size, 2, none⟩ = some (.string dst) := by rw [hW6]; simp [go_sem]
      have hM6 : SMap W6.drew w.heap.size (2 * k) (acctB (L.take k)) := HM.out.block (by rw [hW6]; exact Below.heap_alloc _ _ _ hmlt)
      have hB6 : Below w.heap.size w W6.drew := by rw [hW6]; exact bl_drews (HB.out.alloc (by omega) _) (Drew.n _ 1)
      rw [← hW6]
      clear hW6
      obtain ⟨w1, run1, m1, gr1⟩ := hM6.put src hp.2.1 (by omega)
      obtain ⟨w2, run2, m2, gr2⟩ := m1.put dst hp.2.2.1 (by omega)
      have hne : some wr.heap.size ≠ some w.heap.size := fun e => by simp at e; omega
      have q1 : w1.cell? ⟨wr.heap.size, 1, none⟩ = some (.string src) := gr1.cell p1 hne
      have q2 : w1.cell? ⟨wr.heap.size, 2, none⟩ = some (.string dst) := gr1.cell p2 hne
      have M2 : Hid (SMap w2 w.heap.size (2 * (k + 1)) (acctB (L.take (k + 1)))) := by
        have e : (fun x => decide (x = dst) || (fun x => decide (x = src) || acctB (L.take k) x) x) = acctB (L.take (k + 1)) := by funext s; rw [HTK.out]
        rw [← e, show 2 * (k + 1) = 2 * k + 1 + 1 by omega]; exact m2
      have B2 : Hid (Below w.heap.size w w2) := (hB6.grown gr1 (by have := hB6.size; omega) (fun j hj => by simp at hj; omega)).grown gr2 (by have := hB6.size; have := gr1.size; omega) (fun j hj => by simp at hj; omega)
      clear m1 m2 gr1 gr2 hM6 hB6 hne
      go_region
      all_goals
        go_wp2
        go_roundw
        case rel => exact ⟨k + 1, by omega, by go_num, M2, B2⟩
        case measure => simp [intOf]; omega
    · obtain rfl : k = L.length := by omega
      have hlz : ¬ (L.length : Int) < L.length := by omega
      have hK := Lib.hid (keys_at (some w.heap.size) wr)
      have hSo := Lib.hid (sorted_at w.heap.size (2 * L.length) (acctB L) L wr (by have := HM.out; rwa [List.take_length] at this) (by omega) (fun _ => rfl))
      go_wp2_with fail
      refine hK.out.mono ?_
      rintro e w' ⟨rfl, rfl⟩
      go_wp2_with fail
      refine hSo.out.mono ?_
      rintro e w' ⟨v, ss, rfl, ha, hln, hb⟩
      have HA := Lib.hid ha
      have HB2 := Lib.hid hb
      clear ha hb
      go_wp2_with fail
      go_ret
      exact ⟨_, ss, rfl, HA.out, hln, HB.out.trans (HB2.out.mono HB.out.size)⟩

end Go.Proofs.Ytkimcopmfhjjcaa

/- The library's insertion sort at a slice of ints that the call itself made, with a comparison that only reads: what the row then holds. -/
import Derived.Test.YtkimcopmfhjjcaaBase
import Derived.BigRegion
namespace Go.Proofs.Ytkimcopmfhjjcaa
open Go.RowKit

def swapL (d : List Int) (j : Nat) : List Int := (d.set (j + 1) (d[j]?.getD 0)).set j (d[j + 1]?.getD 0)
def innerL (lt : Int → Int → Bool) : Nat → List Int → List Int
  | 0, d => d
  | j + 1, d => if lt (d[j + 1]?.getD 0) (d[j]?.getD 0) then innerL lt j (swapL d j) else d
def outerL (lt : Int → Int → Bool) (k : Nat) (d : List Int) : List Int := (List.range k).foldl (fun d i => innerL lt i d) d
theorem outerL_succ (lt : Int → Int → Bool) (k : Nat) (d : List Int) : outerL lt (k + 1) d = innerL lt k (outerL lt k d) := by
  simp [outerL, List.range_succ]
theorem swapL_length (d : List Int) (j : Nat) : (swapL d j).length = d.length := by simp [swapL]
theorem innerL_length (lt : Int → Int → Bool) : ∀ (j : Nat) (d : List Int), (innerL lt j d).length = d.length
  | 0, _ => rfl
  | j + 1, d => by rw [innerL]; split; rw [innerL_length lt j, swapL_length]; rfl
theorem swapL_all {P : Int → Prop} {d : List Int} {j : Nat} (h : ∀ x ∈ d, P x) (hj : j + 1 < d.length) : ∀ x ∈ swapL d j, P x := by
  intro x hx
  unfold swapL at hx
  rcases List.mem_or_eq_of_mem_set hx with hx | rfl
  · rcases List.mem_or_eq_of_mem_set hx with hx | rfl
    · exact h _ hx
    · rw [List.getElem?_eq_getElem (by omega)]; exact h _ (List.getElem_mem _)
  · rw [List.getElem?_eq_getElem hj]; exact h _ (List.getElem_mem _)
theorem innerL_yes {lt : Int → Int → Bool} {j : Nat} {d : List Int} (h : lt (d[j + 1]?.getD 0) (d[j]?.getD 0) = true) : innerL lt (j + 1) d = innerL lt j (swapL d j) := by rw [innerL, if_pos h]
theorem innerL_no {lt : Int → Int → Bool} {j : Nat} {d : List Int} (h : lt (d[j + 1]?.getD 0) (d[j]?.getD 0) = false) : innerL lt (j + 1) d = d := by rw [innerL, if_neg (by simp [h])]

/-- An owned row of ints, with its block named. -/
def OwnInts (w : World) (B g cap : Nat) (d : List Int) : Prop := w.ownsRow B 3 1 (.slice (some ⟨g, 0, none⟩) d.length cap) d.length (d.map (Value.int .i64))
theorem OwnInts.lt {w : World} {B g cap : Nat} {d : List Int} (h : OwnInts w B g cap d) : B ≤ g ∧ g < w.heap.size := World.ownsRow.lt h g rfl
theorem OwnInts.cell {w : World} {B g cap : Nat} {d : List Int} (h : OwnInts w B g cap d) {j : Nat} (hj : j < d.length) : w.cell? ⟨g, j, none⟩ = some (.int .i64 (d[j]?.getD 0)) := by
  rw [World.ownsRow.cellAt h j (by omega), List.getElem?_map, List.getElem?_eq_getElem hj]; rfl
theorem OwnInts.free {w : World} {B g cap : Nat} {d : List Int} (h : OwnInts w B g cap d) (j : Nat) : w.frozen? ⟨g, j, none⟩ = false := World.ownsRow.frozenAt h j
theorem OwnInts.set {w : World} {B g cap : Nat} {d : List Int} (h : OwnInts w B g cap d) (j : Nat) (x : Int) : OwnInts (w.setCell ⟨g, j, none⟩ (.int .i64 x)) B g cap (d.set j x) := by
  have := (World.ownsRow.stored h j (.int .i64 x)).1
  unfold OwnInts
  rw [List.length_set, List.map_set]
  exact this
theorem OwnInts.drewN {w : World} {B g cap : Nat} {d : List Int} (h : OwnInts w B g cap d) (n : Nat) : OwnInts (w.drewN n) B g cap d := h
theorem OwnInts.drew {w : World} {B g cap : Nat} {d : List Int} (h : OwnInts w B g cap d) : OwnInts w.drew B g cap d := h
theorem OwnInts.Drew {w w' : World} {B g cap : Nat} {d : List Int} (h : OwnInts w B g cap d) (k : Drew w w') : OwnInts w' B g cap d := by
  obtain ⟨n, rfl⟩ := k; exact h
theorem OwnInts.swap {w : World} {B g cap : Nat} {d : List Int} (h : OwnInts w B g cap d) (j : Nat) :
    OwnInts ((w.setCell ⟨g, j + 1, none⟩ (.int .i64 (d[j]?.getD 0))).setCell ⟨g, j, none⟩ (.int .i64 (d[j + 1]?.getD 0))) B g cap (swapL d j) := (h.set (j + 1) _).set j _

theorem OwnInts.block {w w' : World} {B g cap : Nat} {d : List Int} (h : OwnInts w B g cap d) (hb : w'.heap[g]? = w.heap[g]?) : OwnInts w' B g cap d := by
  refine ⟨h.1, ?_⟩
  rcases h.2 with h3 | ⟨g', cap', cur, h3, h4, h5, h6⟩
  · exact .inl h3
  · simp only [Value.slice.injEq, Option.some.injEq, Addr.mk.injEq, and_true, true_and] at h3
    obtain ⟨rfl, rfl⟩ := h3
    exact .inr ⟨g, cap, cur, rfl, h4, hb.trans h5, h6⟩
theorem OwnInts.later {w w' : World} {B C g cap : Nat} {d : List Int} (h : OwnInts w B g cap d) (hb : Below C w w') (hg : g < C) : OwnInts w' B g cap d := h.block (hb.block g hg)
theorem OwnInts.other {w : World} {B g cap : Nat} {d : List Int} (h : OwnInts w B g cap d) (a : Addr) (u : Value) (hg : g ≠ a.block) : OwnInts (w.setCell a u) B g cap d := h.block (heap_setCell_other w a g u hg)

set_option maxHeartbeats 1000000 in
theorem insertion_any (B g cap : Nat) (d : List Int) (w : World) (cf : Int → Int → Int) (P : Int → Prop) (p1 p2 : Value) (h : OwnInts w B g cap d) (hP : ∀ x ∈ d, P x) (hn : d.length ≤ 1000000000)
    (hcmp : ∀ W, Below B w W → ∀ x y, P x → P y → Calls Try.prog 34 #[.int .i64 x, .int .i64 y, p1, p2] W fun e w' => e = .returned (.int .i64 (cf x y)) ∧ Drew W w') :
    Calls Try.prog 52 #[.slice (some ⟨g, 0, none⟩) d.length cap, .int .i64 0, .int .i64 d.length, .func (.func 34) #[] #[p1, p2]] w fun e w' =>
      e = .returned (.tuple #[]) ∧ OwnInts w' B g cap (outerL (fun x y => decide (cf x y < 0)) d.length d) ∧ Below B w w' := by
  have HC := Lib.hid hcmp
  have HO : Hid (OwnInts w B g cap d) := h
  have HP : Hid (∀ x ∈ d, P x) := hP
  have hg := h.lt.1
  clear hcmp h hP
  go_enter Try.func52, Try.ntmps52
  go_wp2
  go_loopw [8] (fun vi wr => ∃ (i : Nat) (d' : List Int), vi = .int .i64 i ∧ 1 ≤ i ∧ (i ≤ d.length ∨ i = 1) ∧ Hid (OwnInts wr B g cap d') ∧ Hid (d'.length = d.length) ∧ Hid (∀ x ∈ d', P x) ∧ Hid (outerL (fun x y => decide (cf x y < 0)) i d = d') ∧ Below B w wr) (fun vi _ => d.length + 1 - (intOf vi).toNat)
  case atStart => exact ⟨1, d, rfl, by omega, by omega, HO, rfl, HP, rfl, Below.refl _ _⟩
  case round =>
    obtain ⟨i, di, rfl, hi1, hi2, hO, hL, hPi, hout, hb⟩ := hrel
    by_cases hlt : i < d.length
    · have hltz : (i : Int) < d.length := by omega
      go_wp2
      obtain ⟨wo, rfl⟩ : ∃ wo : World, wo = wr := ⟨_, rfl⟩
      go_loopw [9] (fun vj wr => ∃ (j : Nat) (z : Int) (d' : List Int), vj = .int .i64 z ∧ Hid (z = j) ∧ j ≤ i ∧ Hid (OwnInts wr B g cap d') ∧ Hid (d'.length = d.length) ∧ Hid (∀ x ∈ d', P x) ∧ Hid (innerL (fun x y => decide (cf x y < 0)) j d' = innerL (fun x y => decide (cf x y < 0)) i di) ∧ Below B w wr) (fun vj _ => (intOf vj).toNat)
      case atStart => exact ⟨i, i, di, rfl, rfl, by omega, hO, hL, hPi, rfl, hb⟩
      case round =>
        clear hb
        obtain ⟨j, z, dj, rfl, hz, hji, hOj, hLj, hPj, hin, hb⟩ := hrel
        cases j with
        | zero =>
          obtain rfl : z = 0 := hz.out
          have hd : decide ((0 : Int) > 0) = false := by simp
          go_wp2
          go_quiet (fail)
          go_wp2
          go_roundw
          case rel => exact ⟨i + 1, dj, by go_num, by omega, by omega, hOj.out.drewN _, hLj, hPj, (show _ = _ by rw [outerL_succ, hout.out, ← hin.out]; rfl), below_drewN hb _⟩
          case measure => simp [intOf]; omega
        | succ j =>
          obtain rfl : z = (j : Int) + 1 := hz.out
          have hj1 : j + 1 < dj.length := by rw [hLj.out]; omega
          have hj1d : (j : Int) + 1 < d.length := by omega
          have hd : decide ((j : Int) + 1 > 0) = true := by simp
          have hd2 : (0 : Int) < (j : Int) + 1 := by omega
          have c1 := hOj.out.cell hj1
          have c2 := hOj.out.cell (show j < dj.length by omega)
          have f1 := hOj.out.free (j + 1)
          have f2 := hOj.out.free j
          have P1 : P (dj[j + 1]?.getD 0) := by rw [List.getElem?_eq_getElem hj1]; exact hPj.out _ (List.getElem_mem _)
          have P2 : P (dj[j]?.getD 0) := by rw [List.getElem?_eq_getElem (by omega)]; exact hPj.out _ (List.getElem_mem _)
          have HY := fun h => hin.out.symm.trans (innerL_yes (lt := fun x y => decide (cf x y < 0)) (j := j) (d := dj) h)
          have HN := fun h => hin.out.symm.trans (innerL_no (lt := fun x y => decide (cf x y < 0)) (j := j) (d := dj) h)
          have HY := Lib.hid HY
          have HN := Lib.hid HN
          have S := hOj.out.swap j
          have AL := fun h => swapL_all (P := P) (j := j) hPj.out h
          have HS := Lib.hid S
          have HA := Lib.hid AL
          clear S AL
          obtain ⟨x, hx⟩ : ∃ x, x = dj[j + 1]?.getD 0 := ⟨_, rfl⟩
          obtain ⟨y, hy⟩ : ∃ y, y = dj[j]?.getD 0 := ⟨_, rfl⟩
          rw [← hx] at c1 P1
          rw [← hy] at c2 P2
          rw [← hx, ← hy] at HY HN HS
          clear hx hy hj1
          have hcm := fun n => HC.out (wr.drewN n) (below_drewN hb n) x y P1 P2
          have HCM := Lib.hid hcm
          clear hcm P1 P2
          by_cases hv : cf x y < 0
          · have hv1 : decide (cf x y < 0) = true := decide_eq_true hv
            have HY := Lib.hid (HY.out hv1)
            clear HN
            go_wp2
            go_quiet ((go_at_call 34; exact Calls.quiet_of (HCM.out _)))
            go_wp2
            go_region
            go_wp2
            go_roundw
            case rel => exact ⟨j, j, swapL dj j, by go_num, rfl, by omega, HS.out, (show _ = _ by rw [swapL_length]; exact hLj.out), HA.out (by rw [hLj.out]; omega), HY.out.symm, Below.setCell (p := ⟨g, _, none⟩) (Below.setCell (p := ⟨g, _, none⟩) (below_drewN hb _) hg _) hg _⟩
            case measure => simp [intOf]
          · have hv1 : decide (cf x y < 0) = false := decide_eq_false hv
            have HN := Lib.hid (HN.out hv1)
            clear HY
            go_wp2
            go_quiet ((go_at_call 34; exact Calls.quiet_of (HCM.out _)))
            go_wp2
            go_roundw
            case rel => exact ⟨i + 1, dj, by go_num, by omega, by omega, hOj.out.drewN _, hLj, hPj, (show _ = _ by rw [outerL_succ, hout.out]; exact HN.out), below_drewN hb _⟩
            case measure => simp [intOf]; omega
    · have hltz : ¬ (i : Int) < d.length := by omega
      go_wp2
      go_end0
      have : outerL (fun x y => decide (cf x y < 0)) d.length d = di := by
        rw [← hout.out]
        by_cases h : i = d.length
        · rw [h]
        · have : d.length = 0 := by omega
          obtain rfl : i = 1 := by omega
          rw [this]; rfl
      exact ⟨rfl, by rw [this]; exact hO.out, hb⟩

end Go.Proofs.Ytkimcopmfhjjcaa

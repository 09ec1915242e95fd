/- A list of numbers for postings that came in. -/
import Derived.Test.YtkimcopmfhjjcaaLedX
import Derived.Test.YtkimcopmfhjjcaaRowK
import Derived.Deep.Slices
namespace Go.Proofs.Ytkimcopmfhjjcaa
open Go.RowKit Go.Deep

theorem list4 {α : Type} : ∀ (l : List α), l.length = 4 → ∃ a b c d, l = [a, b, c, d]
  | [a, b, c, d], _ => ⟨a, b, c, d, rfl⟩
theorem Try.cellsAct : Try.prog.cellsOf 64 = 4 := by kernel_rfl
theorem Try.cellsInt : Try.prog.cellsOf 3 = 1 := by kernel_rfl
instance : Inhabited ActN := ⟨⟨0, 0, 0, 0⟩⟩
def ActN.okay (a : ActN) : Prop := -9223372036854775808 ≤ a.amount ∧ a.amount ≤ 9223372036854775807

section
variable {H : Type} {enc : TypeId × Value → H} {w : World} {base : Nat} {spare : Nat → Bool} {held : Bool}
/-- One element. -/
theorem act_trod {n : Nat} {cs : List Value} {x : DataW H × List MemPlace} (hl : cs.length = 4) (h : DataW.trod enc Try.prog w base spare held n 64 cs = some x) : ∃ a : ActN, cs = a.cells ∧ a.okay := by
  obtain ⟨c0, c1, c2, c3, rfl⟩ := list4 cs hl
  obtain ⟨xs, k, _, _, _, hxl, hf⟩ := DataW.trod_struct Try.underlying64 h
  have hx4 : xs.length = 4 := hxl
  have g0 := hf 0 _ rfl
  have g1 := hf 1 _ rfl
  have g2 := hf 2 _ rfl
  have g3 := hf 3 _ rfl
  have hi := Try.cellsInt
  simp only [List.getElem_toArray, List.getElem_cons_zero, List.getElem_cons_succ, hi, List.drop_zero, List.drop_succ_cons, List.take_succ_cons, List.take_zero] at g0 g1 g2 g3
  rw [List.getElem?_eq_getElem (by omega)] at g0 g1 g2 g3
  obtain ⟨n0, e0, _, _⟩ := DataW.trod_int Try.underlying3 g0
  obtain ⟨n1, e1, _, _⟩ := DataW.trod_int Try.underlying3 g1
  obtain ⟨n2, e2, _, _⟩ := DataW.trod_int Try.underlying3 g2
  obtain ⟨n3, e3, _, f3⟩ := DataW.trod_int Try.underlying3 g3
  simp at e0 e1 e2 e3
  subst e0 e1 e2 e3
  exact ⟨⟨n0, n1, n2, n3⟩, rfl, wf_i64 f3⟩
theorem act_row {fuel : Nat} {v : Value} {x : DataW H × List MemPlace} (h : DataW.trod enc Try.prog w base spare held fuel 44 [v] = some x) :
    ∃ acts : List ActN, RowAt w.heap.size w v acts.length (actCells acts) ∧ acts.length ≤ 9223372036854775807 ∧ ∀ a ∈ acts, a.okay := by
  rcases open_slice Try.underlying44 h with ⟨e, _⟩ | ⟨a, len, cap, m, n, D, Pl, e, _, hl, hm, hmm, _, hx⟩
  · simp only [List.cons.injEq, and_true] at e
    subst e
    exact ⟨[], RowAt.nil _ _, by simp, by simp⟩
  · simp only [List.cons.injEq, and_true] at e
    subst e
    have hlm : len ≤ m := by rw [hmm]; split <;> omega
    have each : ∀ i, i < len → ∃ q : ActN, (∀ t, t < 4 → w.cell? ((a.add (i * 4)).add t) = q.cells[t]?) ∧ q.okay := by
      intro i hi
      obtain ⟨cs', h1, h2⟩ := hx i (by omega)
      rw [Try.cellsAct] at h1
      obtain ⟨_, hlen, hcell⟩ := World.cells?_some h1
      obtain ⟨q, rfl, hok⟩ := act_trod hlen h2
      exact ⟨q, hcell, hok⟩
    obtain ⟨q, hq⟩ := choose_lt each
    have hml : len ≤ 9223372036854775807 := by unfold maxLen at hm; omega
    refine ⟨(List.range len).map q, ?_, by simpa using hml, ?_⟩
    · refine ⟨some a, cap, by simp, fun j u hu => ?_⟩
      have hj : j < ((List.range len).map q).length * 4 := by
        rw [← actCells_length]
        exact (List.getElem?_eq_some_iff.1 hu).1
      have hjl : j < len * 4 := by simpa using hj
      have hg := actCells_get ((List.range len).map q) (j / 4) (j % 4) (by simp; omega) (by omega)
      rw [show j / 4 * 4 + j % 4 = j by omega, hu] at hg
      have hc := (hq (j / 4) (by omega)).1 (j % 4) (by omega)
      have hc2 : w.cell? ((a.add (j / 4 * 4)).add (j % 4)) = some u := by
        rw [hc, hg]; simp
      obtain ⟨b, off, s⟩ := a
      cases s with
      | none =>
        rw [add_flat, add_flat, show off + j / 4 * 4 + j % 4 = off + j by omega] at hc2
        exact ⟨b, off, rfl, World.block_lt_of_cell? w _ hc2, hc2⟩
      | some s =>
        exfalso
        have h0 := (hq 0 (by omega)).1 0 (by omega)
        have e : (((⟨b, off, some s⟩ : Addr).add (0 * 4)).add 0) = ⟨b, off, some s⟩ := rfl
        rw [e] at h0
        unfold World.cell? at h0
        cases hh : w.heap[b]? with
        | none => simp [hh, ActN.cells] at h0
        | some o => cases o <;> simp [hh, ActN.cells] at h0
    · intro z hz
      simp only [List.mem_map, List.mem_range] at hz
      obtain ⟨i, hi, rfl⟩ := hz
      exact (hq i hi).2
end

end Go.Proofs.Ytkimcopmfhjjcaa

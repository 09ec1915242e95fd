/- A plan that came in. -/
import Derived.Test.YtebigkjilklodaaDoorMake
import Derived.Test.YtebigkjilklodaaDoorRowK
import Derived.Deep.Slices
import Derived.ProofKit
import Derived.OpenShut
set_option linter.unusedVariables false
set_option linter.unusedSimpArgs false
namespace Go.Proofs.YtebigkjilklodaaDoor
open Go.RowKit Go.Deep

theorem choose_lt' {α : Type} [Inhabited α] {n : Nat} {P : Nat → α → Prop} (h : ∀ i, i < n → ∃ a, P i a) : ∃ f : Nat → α, ∀ i, i < n → P i (f i) := by
  classical
  refine ⟨fun i => if h' : i < n then Classical.choose (h i h') else default, fun i hi => ?_⟩
  simp only [hi, dite_true]
  exact Classical.choose_spec (h i hi)
theorem u8_of {n : Int} (h : (Lit.int .u8 n).wf = true) : ∃ m : Nat, n = m ∧ m ≤ 255 := by
  have := wf_u8 h
  exact ⟨n.toNat, by omega, by omega⟩
theorem Tryd.cellsU8 : Tryd.prog.cellsOf 5 = 1 := by kernel_rfl
theorem Tryd.cellsA3 : Tryd.prog.cellsOf 27 = 3 := by kernel_rfl
theorem Tryd.cellsQs : Tryd.prog.cellsOf 22 = 1 := by kernel_rfl
theorem Tryd.cellsBs : Tryd.prog.cellsOf 23 = 1 := by kernel_rfl
theorem list3' {α : Type} : ∀ (l : List α), l.length = 3 → ∃ a b c, l = [a, b, c]
  | [a, b, c], _ => ⟨a, b, c, rfl⟩
theorem list1' {α : Type} : ∀ (l : List α), l.length = 1 → ∃ a, l = [a]
  | [a], _ => ⟨a, rfl⟩

section
variable {H : Type} {enc : TypeId × Value → H} {w : World} {base : Nat} {spare : Nat → Bool} {held : Bool}
/-- A slice that came in, by what one element is. -/
theorem row_of {α : Type} [Inhabited α] (f : α → List Value) (s : Nat) (hf : ∀ a, (f a).length = s) (hs : 0 < s) (ok : α → Prop) {T E : TypeId} (hT : Tryd.prog.underlying T = some (.slice E)) (hE : Tryd.prog.cellsOf E = s)
    (dec : ∀ (n : Nat) (cs : List Value) (x : DataW H × List MemPlace), cs.length = s → DataW.trod enc Tryd.prog w base spare held n E cs = some x → ∃ a : α, cs = f a ∧ ok a)
    {fuel : Nat} {v : Value} {x : DataW H × List MemPlace} (h : DataW.trod enc Tryd.prog w base spare held fuel T [v] = some x) :
    ∃ l : List α, RowAt w.heap.size w v l.length (l.flatMap f) ∧ l.length ≤ 9223372036854775807 ∧ ∀ a ∈ l, ok a := by
  rcases open_slice hT h with ⟨e, _⟩ | ⟨a, len, cap, m, n, D, Pl, e, _, hl, hm, hmm, _, hx⟩
  · simp only [List.cons.injEq, and_true] at e
    subst e
    exact ⟨[], RowAt.nil _ _, by simp, by simp⟩
  · simp only [List.cons.injEq, and_true] at e
    subst e
    have hlm : len ≤ m := by rw [hmm]; split <;> omega
    have each : ∀ i, i < len → ∃ q : α, (∀ t, t < s → w.cell? ((a.add (i * s)).add t) = (f q)[t]?) ∧ ok q := by
      intro i hi
      obtain ⟨cs', h1, h2⟩ := hx i (by omega)
      rw [hE] at h1
      obtain ⟨_, hlen, hcell⟩ := World.cells?_some h1
      obtain ⟨q, rfl, hok⟩ := dec _ _ _ hlen h2
      exact ⟨q, hcell, hok⟩
    obtain ⟨q, hq⟩ := choose_lt' each
    have hml : len ≤ 9223372036854775807 := by unfold maxLen at hm; omega
    refine ⟨(List.range len).map q, ?_, by simpa using hml, ?_⟩
    · refine ⟨some a, cap, by simp, fun j u hu => ?_⟩
      have hj : j < len * s := by
        have := (List.getElem?_eq_some_iff.1 hu).1
        rw [flat_length f s hf] at this
        simpa using this
      have hjd : j / s < len := Nat.div_lt_of_lt_mul (by rw [Nat.mul_comm]; exact hj)
      have hjm : j % s < s := Nat.mod_lt _ hs
      have hg := flat_get f s hf ((List.range len).map q) (j / s) (j % s) (q (j / s)) (by simp [hjd]) hjm
      rw [Nat.mul_comm (j / s) s, Nat.div_add_mod, hu] at hg
      have hc := (hq (j / s) hjd).1 (j % s) hjm
      have hc2 : w.cell? ((a.add (j / s * s)).add (j % s)) = some u := by rw [hc, ← hg]
      obtain ⟨b, off, sb⟩ := a
      cases sb with
      | none =>
        rw [add_flat, add_flat, Nat.add_assoc, Nat.mul_comm (j / s) s, Nat.div_add_mod] at hc2
        exact ⟨b, off, rfl, World.block_lt_of_cell? w _ hc2, hc2⟩
      | some sb =>
        exfalso
        have hl0 : 0 < len := by
          rcases Nat.eq_zero_or_pos len with h | h
          · rw [h, Nat.zero_mul] at hj; omega
          · exact h
        have h0 := (hq 0 hl0).1 0 hs
        have e : (((⟨b, off, some sb⟩ : Addr).add (0 * s)).add 0) = ⟨b, off, some sb⟩ := by rw [Nat.zero_mul]; rfl
        rw [e] at h0
        have h1 : ∃ u, (f (q 0))[0]? = some u := ⟨_, List.getElem?_eq_getElem (by rw [hf]; exact hs)⟩
        obtain ⟨u, h1⟩ := h1
        rw [h1] at h0
        unfold World.cell? at h0
        cases hh : w.heap[b]? with
        | none => simp [hh] at h0
        | some o => cases o <;> simp [hh] at h0
    · intro z hz
      simp only [List.mem_map, List.mem_range] at hz
      obtain ⟨i, hi, rfl⟩ := hz
      exact (hq i hi).2
set_option maxRecDepth 100000 in
/-- Three small numbers. -/
theorem q8_trod (n : Nat) (cs : List Value) (x : DataW H × List MemPlace) (hl : cs.length = 3) (h : DataW.trod enc Tryd.prog w base spare held n 27 cs = some x) : ∃ q : Nat × Nat × Nat, cs = q8 q ∧ (q.1 ≤ 255 ∧ q.2.1 ≤ 255 ∧ q.2.2 ≤ 255) := by
  obtain ⟨c0, c1, c2, rfl⟩ := list3' cs hl
  obtain ⟨xs, m, _, _, _, hxl, hxs⟩ := DataW.trod_array Tryd.underlying27 h
  have g0 := hxs 0 (by omega)
  have g1 := hxs 1 (by omega)
  have g2 := hxs 2 (by omega)
  rw [Tryd.cellsU8, List.getElem?_eq_getElem (by omega)] at g0 g1 g2
  obtain ⟨n0, e0, _, f0⟩ := DataW.trod_int Tryd.underlying5 g0
  obtain ⟨n1, e1, _, f1⟩ := DataW.trod_int Tryd.underlying5 g1
  obtain ⟨n2, e2, _, f2⟩ := DataW.trod_int Tryd.underlying5 g2
  obtain ⟨m0, rfl, l0⟩ := u8_of f0
  obtain ⟨m1, rfl, l1⟩ := u8_of f1
  obtain ⟨m2, rfl, l2⟩ := u8_of f2
  simp at e0 e1 e2
  subst e0 e1 e2
  exact ⟨(m0, m1, m2), rfl, l0, l1, l2⟩
set_option maxRecDepth 100000 in
theorem u8_trod (n : Nat) (cs : List Value) (x : DataW H × List MemPlace) (hl : cs.length = 1) (h : DataW.trod enc Tryd.prog w base spare held n 5 cs = some x) : ∃ q : Nat, cs = [.int .u8 (q : Int)] ∧ q ≤ 255 := by
  obtain ⟨n0, e0, _, f0⟩ := DataW.trod_int Tryd.underlying5 h
  obtain ⟨m0, rfl, l0⟩ := u8_of f0
  exact ⟨m0, by simpa using e0, l0⟩
theorem flat_one {α : Type} (g : α → Value) (l : List α) : l.flatMap (fun a => [g a]) = l.map g := by
  induction l with
  | nil => rfl
  | cons a l ih => rw [List.flatMap_cons, ih]; rfl
set_option maxRecDepth 100000 in
theorem plan_trod {n : Nat} {cs : List Value} {x : DataW H × List MemPlace} (hl : cs.length = 3) (h : DataW.trod enc Tryd.prog w base spare held n 25 cs = some x) :
    ∃ (sz : Nat) (qv ev : Value) (QL : List (Nat × Nat × Nat)) (EL : List Nat), cs = [.int .u8 (sz : Int), qv, ev] ∧ sz ≤ 255 ∧ RowAt w.heap.size w qv QL.length (QL.flatMap q8) ∧ RowAt w.heap.size w ev EL.length (EL.map fun e : Nat => .int .u8 (e : Int)) ∧
      (∀ q ∈ QL, q.1 ≤ 255 ∧ q.2.1 ≤ 255 ∧ q.2.2 ≤ 255) ∧ (∀ e ∈ EL, e ≤ 255) ∧ QL.length ≤ 9223372036854775807 ∧ EL.length ≤ 9223372036854775807 := by
  obtain ⟨c0, c1, c2, rfl⟩ := list3' cs hl
  obtain ⟨xs, k, _, _, _, hxl, hf⟩ := DataW.trod_struct Tryd.underlying25 h
  have hx3 : xs.length = 3 := hxl
  have g0 := hf 0 _ rfl
  have g1 := hf 1 _ rfl
  have g2 := hf 2 _ rfl
  simp only [List.getElem_toArray, List.getElem_cons_zero, List.getElem_cons_succ, Tryd.cellsU8, Tryd.cellsQs, Tryd.cellsBs, List.drop_zero, List.drop_succ_cons, List.take_succ_cons, List.take_zero] at g0 g1 g2
  rw [List.getElem?_eq_getElem (by omega)] at g0 g1 g2
  obtain ⟨n0, e0, _, f0⟩ := DataW.trod_int Tryd.underlying5 g0
  obtain ⟨m0, rfl, l0⟩ := u8_of f0
  simp at e0
  subst e0
  obtain ⟨QL, hQ, hQl, hQo⟩ := row_of q8 3 (fun _ => rfl) (by decide) _ Tryd.underlying22 Tryd.cellsA3 q8_trod g1
  obtain ⟨EL, hE, hEl, hEo⟩ := row_of (fun q : Nat => [Value.int .u8 (q : Int)]) 1 (fun _ => rfl) (by decide) _ Tryd.underlying23 Tryd.cellsU8 u8_trod g2
  rw [flat_one] at hE
  exact ⟨m0, c1, c2, QL, EL, rfl, l0, hQ, hE, hQo, hEo, hQl, hEl⟩
end

end Go.Proofs.YtebigkjilklodaaDoor

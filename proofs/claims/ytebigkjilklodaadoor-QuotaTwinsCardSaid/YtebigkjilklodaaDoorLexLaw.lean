/- The order of panels; how many there may be; exchanging two entrants. No program in sight. -/
import Derived.Test.YtebigkjilklodaaDoorLaws
set_option linter.unusedVariables false
set_option linter.unusedSimpArgs false
namespace Go.Proofs.YtebigkjilklodaaDoor

/-- A list is earlier than another: at the first place where they differ it has the lesser number. -/
def lexLt (x y : List Nat) : Prop := ∃ j a b : Nat, (∀ i, i < j → x[i]? = y[i]?) ∧ x[j]? = some a ∧ y[j]? = some b ∧ a < b
theorem comb_head {rem : Nat} : ∀ {i r : Nat} {x : List Nat}, x ∈ comb i rem (r + 1) → ∃ a, x[0]? = some a ∧ i ≤ a := by
  induction rem with
  | zero => intro i r x h; rw [comb_nil] at h; cases h
  | succ rem ih =>
    intro i r x h
    rw [comb_succ, List.mem_append, List.mem_map] at h
    rcases h with ⟨y, _, rfl⟩ | h
    · exact ⟨i, rfl, Nat.le_refl _⟩
    · obtain ⟨a, h1, h2⟩ := ih h
      exact ⟨a, h1, by omega⟩
theorem comb_lex (rem : Nat) : ∀ i r, (comb i rem r).Pairwise lexLt := by
  induction rem with
  | zero => intro i r; cases r <;> simp [comb]
  | succ rem ih =>
    intro i r
    cases r with
    | zero => rw [comb_zero]; exact List.pairwise_singleton _ _
    | succ r =>
      rw [comb_succ, List.pairwise_append]
      refine ⟨?_, ih _ _, ?_⟩
      · rw [List.pairwise_map]
        refine (ih (i + 1) r).imp ?_
        rintro x y ⟨j, a, b, h1, h2, h3, h4⟩
        refine ⟨j + 1, a, b, fun t ht => ?_, by simpa using h2, by simpa using h3, h4⟩
        cases t with
        | zero => rfl
        | succ t => simpa using h1 t (by omega)
      · intro x hx y hy
        rw [List.mem_map] at hx
        obtain ⟨z, _, rfl⟩ := hx
        obtain ⟨a, h1, h2⟩ := comb_head hy
        exact ⟨0, i, a, fun t ht => by omega, rfl, h1, by omega⟩
theorem PD.all_lex (d : PD) (n r : Nat) (h : d.size = r) : (d.all n).Pairwise lexLt := by
  rw [d.all_comb n r h]
  exact (comb_lex n 0 r).filter _
theorem chs_le252 {n : Nat} (h : n ≤ 10) (r : Nat) : chs n r ≤ 252 := by
  by_cases hr : r ≤ n
  · have key : ∀ n, n ≤ 10 → ∀ r, r ≤ n → chs n r ≤ 252 := by decide
    exact key n h r hr
  · rw [chs_more n r (by omega)]; omega
theorem PD.all_few (d : PD) (n r : Nat) (h : d.size = r) (hn : n ≤ 10) : (d.all n).length ≤ 252 := by
  rw [d.all_comb n r h]
  refine Nat.le_trans (List.length_filter_le _ _) ?_
  rw [comb_count]
  exact chs_le252 hn r

/-- Exchanging two places in a row of marks. -/
def swapB (f : Nat → Bool) (a b : Nat) : Nat → Bool := fun i => if i = a then f b else if i = b then f a else f i
theorem count_except (f : Nat → Bool) (a b : Nat) (hab : a ≠ b) : ∀ n, (List.range n).countP f = (List.range n).countP (fun i => decide (i ≠ a) && decide (i ≠ b) && f i) + (if a < n then (f a).toNat else 0) + (if b < n then (f b).toNat else 0) := by
  intro n
  induction n with
  | zero => simp
  | succ n ih =>
    rw [List.range_succ, List.countP_append, List.countP_append, ih]
    simp only [List.countP_cons, List.countP_nil, Nat.zero_add]
    by_cases h1 : n = a
    · subst h1
      have h2 : ¬ n < n := by omega
      have h3 : n < n + 1 := by omega
      by_cases h4 : b < n
      · have h5 : b < n + 1 := by omega
        simp [h4, h5]
        cases f n <;> simp <;> omega
      · have h5 : ¬ b < n + 1 := by omega
        simp [h4, h5]
        cases f n <;> simp <;> omega
    · by_cases h2 : n = b
      · subst h2
        have h3 : ¬ n < n := by omega
        by_cases h4 : a < n
        · have h5 : a < n + 1 := by omega
          simp [h4, h5]
          cases f n <;> simp <;> omega
        · have h5 : ¬ a < n + 1 := by omega
          simp [h4, h5]
          cases f n <;> simp <;> omega
      · have e1 : (a < n + 1) = (a < n) := by simp; omega
        have e2 : (b < n + 1) = (b < n) := by simp; omega
        simp only [e1, e2]
        simp [h1, h2]
        omega
theorem count_swap (f : Nat → Bool) (a b n : Nat) (ha : a < n) (hb : b < n) : (List.range n).countP (swapB f a b) = (List.range n).countP f := by
  by_cases hab : a = b
  · subst hab
    congr 1
    funext i
    unfold swapB
    split
    · next h => rw [h]
    · rfl
  · rw [count_except f a b hab, count_except (swapB f a b) a b hab, if_pos ha, if_pos hb, if_pos ha, if_pos hb]
    have e1 : swapB f a b a = f b := by simp [swapB]
    have e2 : swapB f a b b = f a := by simp [swapB, Ne.symm hab]
    have e3 : (fun i => decide (i ≠ a) && decide (i ≠ b) && swapB f a b i) = fun i => decide (i ≠ a) && decide (i ≠ b) && f i := by
      funext i
      by_cases h1 : i = a
      · simp [h1]
      · by_cases h2 : i = b
        · simp [h2]
        · simp [swapB, h1, h2]
    rw [e1, e2, e3]
    omega
/-- The members that marks say. -/
def marked (f : Nat → Bool) (n : Nat) : List Nat := (List.range n).filter f
theorem marked_of {n : Nat} {x : List Nat} (h1 : x.Pairwise (· < ·)) (h2 : ∀ j ∈ x, j < n) : marked (fun i => decide (i ∈ x)) n = x := by
  unfold marked
  have hs : ∀ (l : List Nat), l.Pairwise (· < ·) → ∀ (m : List Nat), m.Pairwise (· < ·) → (∀ j, j ∈ l ↔ j ∈ m) → l = m := by
    intro l
    induction l with
    | nil =>
      intro _ m _ h
      cases m with
      | nil => rfl
      | cons a m => exact absurd ((h a).2 (List.mem_cons_self ..)) (by simp)
    | cons a l ih =>
      intro hl m hm h
      cases m with
      | nil => exact absurd ((h a).1 (List.mem_cons_self ..)) (by simp)
      | cons b m =>
        rw [List.pairwise_cons] at hl hm
        have hab : a = b := by
          rcases List.mem_cons.1 ((h a).1 (List.mem_cons_self ..)) with e | e
          · exact e
          · rcases List.mem_cons.1 ((h b).2 (List.mem_cons_self ..)) with e' | e'
            · exact e'.symm
            · have := hl.1 b e'; have := hm.1 a e; omega
        subst hab
        congr 1
        refine ih hl.2 m hm.2 fun j => ⟨fun hj => ?_, fun hj => ?_⟩
        · rcases List.mem_cons.1 ((h j).1 (List.mem_cons_of_mem _ hj)) with e | e
          · subst e; have := hl.1 j hj; omega
          · exact e
        · rcases List.mem_cons.1 ((h j).2 (List.mem_cons_of_mem _ hj)) with e | e
          · subst e; have := hm.1 j hj; omega
          · exact e
  refine hs _ (List.pairwise_lt_range.filter _) _ h1 fun j => ?_
  rw [List.mem_filter, List.mem_range, decide_eq_true_eq]
  exact ⟨fun h => h.2, fun h => ⟨h2 j h, h⟩⟩
/-- If two entrants belong to the same quotas, exchanging them in a feasible panel gives one. -/
theorem PD.all_twins (d : PD) {n a b : Nat} {x : List Nat} (ha : a < n) (hb : b < n) (hr : ∀ k, d.row a k = d.row b k) (hx : x ∈ d.all n) : marked (swapB (fun i => decide (i ∈ x)) a b) n ∈ d.all n := by
  obtain ⟨h1, h2, h3⟩ := d.all_mem.1 hx
  have hm := marked_of h1 h2
  refine d.all_mem.2 ⟨List.pairwise_lt_range.filter _, fun j hj => List.mem_range.1 (List.mem_filter.1 hj).1, ?_⟩
  have hlen : (marked (swapB (fun i => decide (i ∈ x)) a b) n).length = x.length := by
    have e : x.length = (marked (fun i => decide (i ∈ x)) n).length := by rw [hm]
    rw [e]
    unfold marked
    rw [← List.countP_eq_length_filter, ← List.countP_eq_length_filter, count_swap _ a b n ha hb]
  have hcnt : ∀ k, d.cnt k (marked (swapB (fun i => decide (i ∈ x)) a b) n) = d.cnt k x := fun k => by
    have e : d.cnt k x = d.cnt k (marked (fun i => decide (i ∈ x)) n) := by rw [hm]
    rw [e]
    unfold PD.cnt marked
    rw [List.countP_filter, List.countP_filter, ← count_swap (fun i => d.row i k && decide (i ∈ x)) a b n ha hb]
    congr 1
    funext i
    unfold swapB
    by_cases i1 : i = a
    · subst i1; simp [hr k]
    · by_cases i2 : i = b
      · subst i2; simp [i1, hr k]
      · simp [i1, i2]
  have : d.feas (marked (swapB (fun i => decide (i ∈ x)) a b) n) = d.feas x := by
    unfold PD.feas PD.fits
    rw [hlen]
    simp only [hcnt]
  rw [this]; exact h3

end Go.Proofs.YtebigkjilklodaaDoor

/- The plain law of a fair split: the sum, the distance of each part to its share, and the order of the parts. -/
import Derived.Test.YtkimcopmfhjjcaaSplit
namespace Go.Proofs.Ytkimcopmfhjjcaa

theorem sumI_perm {a b : List Int} (h : a.Perm b) : sumI a = sumI b := by
  induction h with
  | nil => rfl
  | cons x _ ih => simp only [sumI, ih]
  | swap x y l => simp only [sumI]; omega
  | trans _ _ h1 h2 => rw [h1, h2]
theorem insRev_perm (lt : Int → Int → Bool) (x : Int) : ∀ l, (insRev lt x l).Perm (x :: l)
  | [] => .refl _
  | y :: ys => by
    rw [insRev]; split
    · exact ((insRev_perm lt x ys).cons y).trans (.swap _ _ _)
    · exact .refl _
theorem isortRev_perm (lt : Int → Int → Bool) : ∀ k, (isortRev lt k).Perm (upto k)
  | 0 => .refl _
  | k + 1 => by
    rw [isortRev, upto_succ]
    exact (insRev_perm lt k _).trans (((isortRev_perm lt k).cons _).trans (List.perm_append_singleton _ _).symm)
theorem orderI_perm (kf : Int → Int) (l : List Int) : (orderI kf l).Perm (upto l.length) := by
  rw [orderI_eq]; exact (List.reverse_perm _).trans (isortRev_perm _ _)
theorem map_keyAt (kf : Int → Int) (l : List Int) : (upto l.length).map (keyAt kf l) = l.map kf := by
  apply List.ext_getElem
  · simp [upto]
  · intro i h1 h2
    have hi : i < l.length := by simpa using h2
    simp [upto, keyAt, List.getElem?_eq_getElem hi]
theorem orderI_sum (kf : Int → Int) (l : List Int) : sumI ((orderI kf l).map (keyAt kf l)) = sumI (l.map kf) := by
  rw [sumI_perm ((orderI_perm kf l).map _), map_keyAt]

theorem sumI_set {d : List Int} {j : Nat} (hj : j < d.length) (x : Int) : sumI (d.set j x) = sumI d - d[j]?.getD 0 + x := by
  induction d generalizing j with
  | nil => simp at hj
  | cons y d ih =>
    cases j with
    | zero => simp [sumI]; omega
    | succ j =>
      have := ih (j := j) (by simpa using hj)
      simp only [List.set_cons_succ, sumI, this, List.getElem?_cons_succ]; omega
theorem bump_sum : ∀ (is d : List Int), (∀ z ∈ is, 0 ≤ z ∧ z < d.length) → sumI (bump d is) = sumI d + is.length
  | [], d, _ => by simp [bump]
  | z :: is, d, h => by
    have hz := h z List.mem_cons_self
    have e : bump d (z :: is) = bump (d.set z.toNat (d[z.toNat]?.getD 0 + 1)) is := rfl
    rw [e, bump_sum is _ (fun y hy => by rw [List.length_set]; exact h y (List.mem_cons_of_mem _ hy)), sumI_set (by omega)]
    simp only [List.length_cons]; omega
theorem bump_get (i : Nat) : ∀ (is d : List Int), (∀ z ∈ is, 0 ≤ z) → is.Pairwise (· ≠ ·) → i < d.length → (bump d is)[i]?.getD 0 = d[i]?.getD 0 + if (i : Int) ∈ is then 1 else 0
  | [], d, _, _, _ => by simp [bump]
  | z :: is, d, h, hp, hi => by
    have hz := h z List.mem_cons_self
    rw [List.pairwise_cons] at hp
    have e : bump d (z :: is) = bump (d.set z.toNat (d[z.toNat]?.getD 0 + 1)) is := rfl
    rw [e, bump_get i is _ (fun y hy => h y (List.mem_cons_of_mem _ hy)) hp.2 (by simpa using hi), List.getElem?_set]
    by_cases h2 : z.toNat = i
    · have hiz : (i : Int) = z := by omega
      have hn : ¬ (i : Int) ∈ is := fun hm => hp.1 _ hm hiz.symm
      rw [if_pos h2, if_pos (by omega), if_neg hn, if_pos (by rw [hiz]; exact List.mem_cons_self), ← h2]
      simp
    · rw [if_neg h2]
      have hc : (i : Int) ∈ z :: is ↔ (i : Int) ∈ is := by
        rw [List.mem_cons]; constructor
        · rintro (h | h)
          · omega
          · exact h
        · exact .inr
      by_cases hm : (i : Int) ∈ is
      · rw [if_pos hm, if_pos (hc.2 hm)]
      · rw [if_neg hm, if_neg (fun h => hm (hc.1 h))]

/-- Who gets one more. -/
def more (a : Int) (ws : List Int) (i : Nat) : Prop := (i : Int) ∈ (orderI (restI a (sumI ws)) ws).take (leftI a ws).toNat
theorem order_ne (kf : Int → Int) (l : List Int) : (orderI kf l).Pairwise (· ≠ ·) :=
  (orderI_sorted kf l).imp fun {x y} h e => by subst e; exact ahead_irrefl h
open Classical in
theorem splitI_get {a : Int} {ws : List Int} {i : Nat} (hi : i < ws.length) :
    (splitI a ws)[i]?.getD 0 = a * (ws[i]?.getD 0) / sumI ws + if more a ws i then 1 else 0 := by
  unfold splitI
  rw [bump_get i _ _ (fun z hz => ((orderI_mem _ _ z).1 (List.mem_of_mem_take hz)).1) ((order_ne _ _).sublist (List.take_sublist _ _)) (by simpa [partsI] using hi)]
  unfold more
  simp [partsI, List.getElem?_eq_getElem hi]
theorem splitI_sum {a : Int} {ws : List Int} (hs : 0 < sumI ws) : sumI (splitI a ws) = a := by
  unfold splitI
  have hl := left_range (a := a) hs
  rw [bump_sum _ _ (fun z hz => by have := (orderI_mem _ _ z).1 (List.mem_of_mem_take hz); simpa [partsI] using this), List.length_take, orderI_length, Nat.min_eq_left (by omega)]
  unfold leftI at *
  omega
/-- Whoever is ahead of one who gets more gets more. -/
theorem more_ahead {a : Int} {ws : List Int} {i j : Nat} (hi : i < ws.length) (h : ahead (keyAt (restI a (sumI ws)) ws) i j) (hj : more a ws j) : more a ws i := by
  unfold more at *
  have hs := orderI_sorted (restI a (sumI ws)) ws
  have hiL := (orderI_mem (restI a (sumI ws)) ws (i : Int)).2 ⟨by omega, by omega⟩
  generalize orderI (restI a (sumI ws)) ws = L at *
  rw [List.pairwise_iff_getElem] at hs
  obtain ⟨p, hp, ep⟩ := List.getElem_of_mem hiL
  rw [List.mem_take_iff_getElem] at hj ⊢
  obtain ⟨q, hq, eq⟩ := hj
  rcases Nat.lt_trichotomy p q with hpq | hpq | hpq
  · exact ⟨p, by omega, ep⟩
  · subst hpq; exact ⟨p, by omega, ep⟩
  · have := hs q p (by omega) hp hpq
    rw [ep, eq] at this
    exact (ahead_irrefl (ahead_trans h this)).elim
/-- Whoever gets more has a rest. -/
theorem more_rest {a : Int} {ws : List Int} (hs : 0 < sumI ws) {i : Nat} (h : more a ws i) : 0 < restI a (sumI ws) (ws[i]?.getD 0) := by
  unfold more at h
  have hsort := orderI_sorted (restI a (sumI ws)) ws
  have hsum := orderI_sum (restI a (sumI ws)) ws
  have hlm := left_mul a ws
  have hlr := left_range (a := a) hs
  have hr : restsI a (sumI ws) ws = ws.map (restI a (sumI ws)) := rfl
  rw [hr, ← hsum] at hlm
  generalize orderI (restI a (sumI ws)) ws = L at *
  rw [List.mem_take_iff_getElem] at h
  obtain ⟨q, hq, eq⟩ := h
  rw [List.pairwise_iff_getElem] at hsort
  have hk : keyAt (restI a (sumI ws)) ws (i : Int) = restI a (sumI ws) (ws[i]?.getD 0) := by simp [keyAt]
  rcases Int.lt_or_le 0 (restI a (sumI ws) (ws[i]?.getD 0)) with h0 | h0
  · exact h0
  exfalso
  have e1 : sumI (L.map (keyAt (restI a (sumI ws)) ws)) = sumI ((L.take q).map (keyAt (restI a (sumI ws)) ws)) + sumI ((L.drop q).map (keyAt (restI a (sumI ws)) ws)) := by
    rw [← sumI_append, ← List.map_append, List.take_append_drop]
  have b1 : sumI ((L.take q).map (keyAt (restI a (sumI ws)) ws)) ≤ q * (sumI ws - 1) := by
    have := sumI_le (l := (L.take q).map (keyAt (restI a (sumI ws)) ws)) (c := sumI ws - 1) (fun x hx => by
      rw [List.mem_map] at hx
      obtain ⟨y, _, rfl⟩ := hx
      have := Int.emod_lt_of_pos (a * (ws[y.toNat]?.getD 0)) hs
      unfold keyAt restI; omega)
    rw [List.length_map, List.length_take, Nat.min_eq_left (by omega)] at this
    exact this
  have b2 : sumI ((L.drop q).map (keyAt (restI a (sumI ws)) ws)) ≤ 0 := by
    have := sumI_le (l := (L.drop q).map (keyAt (restI a (sumI ws)) ws)) (c := 0) (fun x hx => by
      rw [List.mem_map] at hx
      obtain ⟨y, hy, rfl⟩ := hx
      obtain ⟨p, hp, ep⟩ := List.getElem_of_mem hy
      rw [List.getElem_drop] at ep
      rw [List.length_drop] at hp
      rcases Nat.eq_zero_or_pos p with hp0 | hp0
      · subst hp0
        have : L[q + 0] = (i : Int) := eq
        rw [← ep, this, hk]; exact h0
      · have := hsort q (q + p) (by omega) (by omega) (by omega)
        rw [eq, ep] at this
        unfold ahead at this
        omega)
    simpa using this
  have hqm : (q : Int) + 1 ≤ leftI a ws := by omega
  have h3 := Int.mul_le_mul_of_nonneg_left hqm (show 0 ≤ sumI ws by omega)
  rw [e1] at hlm
  generalize leftI a ws = t at *
  generalize sumI ws = s at *
  rw [Int.mul_add] at h3
  rw [Int.mul_sub, Int.mul_comm (q : Int) s] at b1
  omega

/-- Each part is at least 0, and within 1 of its share (both times the sum of the weights). -/
theorem split_near {a : Int} {ws : List Int} (ha : 0 ≤ a) (hs : 0 < sumI ws) (hw : ∀ x ∈ ws, 0 ≤ x) {i : Nat} (hi : i < ws.length) :
    0 ≤ (splitI a ws)[i]?.getD 0 ∧ (splitI a ws)[i]?.getD 0 * sumI ws - a * (ws[i]?.getD 0) < sumI ws ∧ - sumI ws < (splitI a ws)[i]?.getD 0 * sumI ws - a * (ws[i]?.getD 0) := by
  classical
  rw [splitI_get hi]
  have hx : 0 ≤ ws[i]?.getD 0 := by rw [List.getElem?_eq_getElem hi]; exact hw _ (List.getElem_mem _)
  have hq : 0 ≤ a * (ws[i]?.getD 0) / sumI ws := Int.ediv_nonneg (Int.mul_nonneg ha hx) (by omega)
  have e := Int.mul_ediv_add_emod (a * (ws[i]?.getD 0)) (sumI ws)
  have r0 := Int.emod_nonneg (a * (ws[i]?.getD 0)) (show sumI ws ≠ 0 by omega)
  have r1 := Int.emod_lt_of_pos (a * (ws[i]?.getD 0)) hs
  have hm := @more_rest a ws hs i
  unfold restI at hm
  rw [Int.add_mul, Int.mul_comm (_ / _)]
  by_cases h : more a ws i
  · rw [if_pos h]; have := hm h; omega
  · rw [if_neg h]; omega
/-- A greater weight never has a lesser part; of equal weights the earlier never has a lesser part. -/
theorem split_order {a : Int} {ws : List Int} (ha : 0 ≤ a) (hs : 0 < sumI ws) {k i : Nat} (hk : k < i) (hi : i < ws.length) :
    (ws[k]?.getD 0 < ws[i]?.getD 0 → (splitI a ws)[k]?.getD 0 ≤ (splitI a ws)[i]?.getD 0) ∧ (ws[k]?.getD 0 = ws[i]?.getD 0 → (splitI a ws)[i]?.getD 0 ≤ (splitI a ws)[k]?.getD 0) := by
  classical
  rw [splitI_get hi, splitI_get (show k < ws.length by omega)]
  have ek : keyAt (restI a (sumI ws)) ws (k : Int) = a * (ws[k]?.getD 0) % sumI ws := by simp [keyAt, restI]
  have ei : keyAt (restI a (sumI ws)) ws (i : Int) = a * (ws[i]?.getD 0) % sumI ws := by simp [keyAt, restI]
  constructor
  · intro hlt
    have hle : a * (ws[k]?.getD 0) ≤ a * (ws[i]?.getD 0) := Int.mul_le_mul_of_nonneg_left (by omega) ha
    have hq := Int.ediv_le_ediv hs hle
    have e1 := Int.mul_ediv_add_emod (a * (ws[k]?.getD 0)) (sumI ws)
    have e2 := Int.mul_ediv_add_emod (a * (ws[i]?.getD 0)) (sumI ws)
    by_cases hmk : more a ws k
    · rw [if_pos hmk]
      have hr := more_rest hs hmk
      by_cases hmi : more a ws i
      · rw [if_pos hmi]; omega
      · rw [if_neg hmi]
        rcases Int.lt_or_eq_of_le hq with h | h
        · omega
        · exfalso
          apply hmi
          refine more_ahead hi ?_ hmk
          rw [h] at e1
          rcases Int.lt_or_eq_of_le ha with h0 | h0
          · have := Int.mul_lt_mul_of_pos_left hlt h0
            left
            rw [ek, ei]
            omega
          · rw [← h0] at hr
            simp [restI] at hr
    · rw [if_neg hmk]
      split <;> omega
  · intro he
    rw [he]
    by_cases hmi : more a ws i
    · rw [if_pos hmi, if_pos]
      · omega
      · refine more_ahead (by omega) (.inr ⟨?_, by omega⟩) hmi
        rw [ek, ei, he]
    · rw [if_neg hmi]
      split <;> omega

end Go.Proofs.Ytkimcopmfhjjcaa

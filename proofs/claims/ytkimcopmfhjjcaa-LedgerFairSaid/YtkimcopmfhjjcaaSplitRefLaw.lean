/- The reference's way of giving out what is left: the greatest rest each time, the first one of equal ones: it is the order's. No program in sight. -/
import Derived.Test.YtkimcopmfhjjcaaSplit
namespace Go.Proofs.Ytkimcopmfhjjcaa

/-- The index of the first greatest element among the first k. -/
def bestTo (d : List Int) : Nat → Nat
  | 0 => 0
  | k + 1 => if d[k]?.getD 0 > d[bestTo d k]?.getD 0 then k else bestTo d k
theorem bestTo_lt (d : List Int) : ∀ k, bestTo d k < k ∨ bestTo d k = 0
  | 0 => .inr rfl
  | k + 1 => by
    rw [bestTo]; split
    · exact .inl (by omega)
    · rcases bestTo_lt d k with h | h
      · exact .inl (by omega)
      · exact .inr h
theorem bestTo_first {d : List Int} {b n : Nat} (hb : b < n) (h : ∀ i, i < n → i ≠ b → d[i]?.getD 0 < d[b]?.getD 0 ∨ (d[i]?.getD 0 = d[b]?.getD 0 ∧ b < i)) : ∀ k, b < k → k ≤ n → bestTo d k = b
  | 0, h0, _ => by omega
  | k + 1, h0, h1 => by
    rw [bestTo]
    by_cases hk : b < k
    · rw [bestTo_first hb h k hk (by omega), if_neg]
      have := h k (by omega) (by omega)
      omega
    · obtain rfl : k = b := by omega
      by_cases hc : bestTo d k = k
      · rw [hc]; split <;> rfl
      · have hl : bestTo d k < k := by have := bestTo_lt d k; omega
        have := h (bestTo d k) (by omega) hc
        rw [if_pos (by omega)]

def marks (r : List Int) (is : List Int) : List Int := is.foldl (fun d i => d.set i.toNat (-1)) r
theorem marks_take_succ (d is : List Int) (k : Nat) (h : k < is.length) : marks d (is.take (k + 1)) = (marks d (is.take k)).set (is[k]?.getD 0).toNat (-1) := by
  unfold marks
  rw [List.take_add_one, List.getElem?_eq_getElem h, List.foldl_append]
  rfl
theorem marks_length (d : List Int) : ∀ is : List Int, (marks d is).length = d.length
  | [] => rfl
  | i :: is => by
    have := marks_length (d.set i.toNat (-1)) is
    rw [List.length_set] at this
    exact this
theorem marks_get (i : Nat) : ∀ (is d : List Int), (∀ z ∈ is, 0 ≤ z) → i < d.length → (marks d is)[i]?.getD 0 = if (i : Int) ∈ is then -1 else d[i]?.getD 0
  | [], d, _, _ => by simp [marks]
  | z :: is, d, hz, hi => by
    have ih := marks_get i is (d.set z.toNat (-1)) (fun y hy => hz y (List.mem_cons_of_mem _ hy)) (by simpa using hi)
    have e : marks d (z :: is) = marks (d.set z.toNat (-1)) is := rfl
    rw [e, ih]
    have hz0 := hz z List.mem_cons_self
    by_cases h1 : (i : Int) ∈ is
    · rw [if_pos h1, if_pos (List.mem_cons_of_mem _ h1)]
    · rw [if_neg h1, List.getElem?_set]
      by_cases h2 : z.toNat = i
      · have hiz : (i : Int) = z := by omega
        rw [if_pos h2, if_pos (by omega), if_pos (by rw [hiz]; exact List.mem_cons_self)]
        rfl
      · rw [if_neg h2, if_neg]
        intro h
        rcases List.mem_cons.1 h with h | h
        · omega
        · exact h1 h
theorem rest_nonneg {a s : Int} (hs : 0 < s) (x : Int) : 0 ≤ restI a s x := Int.emod_nonneg _ (by omega)
theorem rests_get (a s : Int) (ws : List Int) (i : Nat) (hi : i < ws.length) : (restsI a s ws)[i]?.getD 0 = keyAt (restI a s) ws i := by
  simp [restsI, keyAt, restI, List.getElem?_eq_getElem hi]
/-- The reference's choice is the order's next index. -/
theorem best_order {a s : Int} {ws : List Int} (hs : 0 < s) (t : Nat) (ht : t < ws.length) :
    (bestTo (marks (restsI a s ws) ((orderI (restI a s) ws).take t)) ws.length : Int) = (orderI (restI a s) ws)[t]?.getD 0 := by
  have hsort := orderI_sorted (restI a s) ws
  have hmem := orderI_mem (restI a s) ws
  have hlen := orderI_length (restI a s) ws
  generalize orderI (restI a s) ws = L at *
  have htL : t < L.length := by omega
  rw [List.getElem?_eq_getElem htL, Option.getD_some]
  have hLt := (hmem L[t]).1 (List.getElem_mem _)
  obtain ⟨b, hb⟩ := Int.eq_ofNat_of_zero_le hLt.1
  rw [hb] at hLt ⊢
  have hbn : b < ws.length := by omega
  rw [List.pairwise_iff_getElem] at hsort
  have hrl : (restsI a s ws).length = ws.length := by simp [restsI]
  have hnn : ∀ z ∈ L.take t, 0 ≤ z := fun z hz => ((hmem z).1 (List.mem_of_mem_take hz)).1
  have hget : ∀ i, i < ws.length → (marks (restsI a s ws) (L.take t))[i]?.getD 0 = if (i : Int) ∈ L.take t then -1 else keyAt (restI a s) ws i := by
    intro i hi
    rw [marks_get i _ _ hnn (by rw [hrl]; exact hi), rests_get a s ws i hi]
  have hbt : (b : Int) ∉ L.take t := by
    intro h
    rw [List.mem_take_iff_getElem] at h
    obtain ⟨j, hj, he⟩ := h
    have := hsort j t (by omega) htL (by omega)
    rw [he, ← hb] at this
    exact ahead_irrefl this
  rw [bestTo_first hbn _ ws.length hbn (Nat.le_refl _)]
  intro i hi hib
  rw [hget i hi, hget b hbn, if_neg hbt]
  by_cases hit : (i : Int) ∈ L.take t
  · rw [if_pos hit]
    have := rest_nonneg (a := a) hs (ws[(b : Int).toNat]?.getD 0)
    left
    show -1 < restI a s (ws[(b : Int).toNat]?.getD 0)
    omega
  · rw [if_neg hit]
    have hiL := (hmem (i : Int)).2 ⟨by omega, by omega⟩
    obtain ⟨j, hj, he⟩ := List.getElem_of_mem hiL
    have hjt : t < j := by
      rcases Nat.lt_trichotomy j t with h | h | h
      · exact absurd (by rw [List.mem_take_iff_getElem]; exact ⟨j, by omega, he⟩) hit
      · subst h; rw [hb] at he; omega
      · exact h
    have := hsort t j htL hj hjt
    rw [he, hb] at this
    unfold ahead at this
    omega

end Go.Proofs.Ytkimcopmfhjjcaa

/- The plain law of splitting an amount by weights: no program in sight. -/
import Derived.Test.YtkimcopmfhjjcaaOrderB
namespace Go.Proofs.Ytkimcopmfhjjcaa

def sumI : List Int → Int
  | [] => 0
  | x :: l => x + sumI l
theorem sumI_append (a b : List Int) : sumI (a ++ b) = sumI a + sumI b := by
  induction a with
  | nil => simp [sumI]
  | cons x a ih => simp [sumI, ih]; omega
theorem sumI_nonneg {l : List Int} (h : ∀ x ∈ l, 0 ≤ x) : 0 ≤ sumI l := by
  induction l with
  | nil => simp [sumI]
  | cons x l ih => have := ih (fun y hy => h y (List.mem_cons_of_mem _ hy)); have := h x List.mem_cons_self; simp only [sumI]; omega
theorem sumI_le {l : List Int} {c : Int} (h : ∀ x ∈ l, x ≤ c) : sumI l ≤ l.length * c := by
  induction l with
  | nil => simp [sumI]
  | cons x l ih =>
    have := ih (fun y hy => h y (List.mem_cons_of_mem _ hy))
    have := h x List.mem_cons_self
    simp only [sumI, List.length_cons]
    rw [show ((l.length + 1 : Nat) : Int) = (l.length : Int) + 1 from rfl, Int.add_mul]
    omega
theorem sumI_take_succ {l : List Int} {k : Nat} (h : k < l.length) : sumI (l.take (k + 1)) = sumI (l.take k) + l[k]?.getD 0 := by
  rw [List.take_add_one, sumI_append, List.getElem?_eq_getElem h]
  simp [sumI]
theorem sumI_take_le {l : List Int} (h : ∀ x ∈ l, 0 ≤ x) (k : Nat) : sumI (l.take k) ≤ sumI l := by
  have h1 : sumI l = sumI (l.take k) + sumI (l.drop k) := by rw [← sumI_append, List.take_append_drop]
  have := sumI_nonneg (l := l.drop k) (fun x hx => h x (List.mem_of_mem_drop hx))
  omega

theorem sumI_mem_le {l : List Int} (h : ∀ x ∈ l, 0 ≤ x) {x : Int} (hx : x ∈ l) : x ≤ sumI l := by
  induction l with
  | nil => simp at hx
  | cons y l ih =>
    have h0 := sumI_nonneg (fun z hz => h z (List.mem_cons_of_mem _ hz))
    have h1 := h y List.mem_cons_self
    rcases List.mem_cons.1 hx with rfl | hx
    · simp only [sumI]; omega
    · have := ih (fun z hz => h z (List.mem_cons_of_mem _ hz)) hx
      simp only [sumI]; omega

def partsI (a s : Int) (ws : List Int) : List Int := ws.map (fun x => a * x / s)
def restsI (a s : Int) (ws : List Int) : List Int := ws.map (fun x => a * x % s)
theorem parts_rests (a s : Int) (ws : List Int) : s * sumI (partsI a s ws) + sumI (restsI a s ws) = a * sumI ws := by
  induction ws with
  | nil => simp [partsI, restsI, sumI]
  | cons x ws ih =>
    have h := Int.mul_ediv_add_emod (a * x) s
    have e1 : sumI (partsI a s (x :: ws)) = a * x / s + sumI (partsI a s ws) := rfl
    have e2 : sumI (restsI a s (x :: ws)) = a * x % s + sumI (restsI a s ws) := rfl
    have e3 : sumI (x :: ws) = x + sumI ws := rfl
    rw [e1, e2, e3, Int.mul_add, Int.mul_add]
    omega
theorem parts_nonneg {a s : Int} {ws : List Int} (ha : 0 ≤ a) (hs : 0 < s) (hw : ∀ x ∈ ws, 0 ≤ x) : ∀ x ∈ partsI a s ws, 0 ≤ x := by
  intro x hx
  simp only [partsI, List.mem_map] at hx
  obtain ⟨y, hy, rfl⟩ := hx
  exact Int.ediv_nonneg (Int.mul_nonneg ha (hw y hy)) (by omega)
theorem rests_range {a s : Int} {ws : List Int} (hs : 0 < s) : ∀ x ∈ restsI a s ws, 0 ≤ x ∧ x ≤ s - 1 := by
  intro x hx
  simp only [restsI, List.mem_map] at hx
  obtain ⟨y, hy, rfl⟩ := hx
  have := Int.emod_nonneg (a * y) (show s ≠ 0 by omega)
  have := Int.emod_lt_of_pos (a * y) hs
  omega
/-- What is left when each has its part rounded down. -/
def leftI (a : Int) (ws : List Int) : Int := a - sumI (partsI a (sumI ws) ws)
theorem left_mul (a : Int) (ws : List Int) : sumI ws * leftI a ws = sumI (restsI a (sumI ws) ws) := by
  have := parts_rests a (sumI ws) ws
  unfold leftI
  rw [Int.mul_sub, Int.mul_comm (sumI ws) a]
  omega
theorem left_range {a : Int} {ws : List Int} (hs : 0 < sumI ws) : 0 ≤ leftI a ws ∧ leftI a ws ≤ ws.length := by
  have h := left_mul a ws
  have h1 := sumI_nonneg (fun x hx => (rests_range (a := a) (ws := ws) hs x hx).1)
  have h2 := sumI_le (fun x hx => (rests_range (a := a) (ws := ws) hs x hx).2)
  have hl : (restsI a (sumI ws) ws).length = ws.length := by simp [restsI]
  rw [hl] at h2
  have hn : (0 : Int) ≤ ws.length := Int.natCast_nonneg _
  generalize leftI a ws = t at *
  generalize sumI ws = s at *
  generalize sumI (restsI a s ws) = r at *
  generalize (ws.length : Int) = n at *
  constructor
  · by_cases ht : 0 ≤ t
    · exact ht
    · have := Int.mul_le_mul_of_nonneg_left (show t ≤ -1 by omega) (show 0 ≤ s by omega)
      omega
  · by_cases ht : t ≤ n
    · exact ht
    · have h3 := Int.mul_le_mul_of_nonneg_left (show n + 1 ≤ t by omega) (show 0 ≤ s by omega)
      have h4 : n * (s - 1) = s * n - n := by rw [Int.mul_sub, Int.mul_comm]; omega
      rw [Int.mul_add] at h3
      omega

/-! ### The insertion sort, said of lists -/
section
variable (lt : Int → Int → Bool)
def insRev (x : Int) : List Int → List Int
  | [] => [x]
  | y :: ys => if lt x y then y :: insRev x ys else x :: y :: ys
def isortRev : Nat → List Int
  | 0 => []
  | k + 1 => insRev lt k (isortRev k)
theorem insRev_length (x : Int) : ∀ l, (insRev lt x l).length = l.length + 1
  | [] => rfl
  | y :: ys => by rw [insRev]; split; simp [insRev_length x ys]; simp
theorem isortRev_length : ∀ k, (isortRev lt k).length = k
  | 0 => rfl
  | k + 1 => by rw [isortRev, insRev_length, isortRev_length k]
theorem swapL_mid (A C : List Int) (y x : Int) : swapL (A ++ y :: x :: C) A.length = A ++ x :: y :: C := by
  unfold swapL
  have e1 : (A ++ y :: x :: C)[A.length]?.getD 0 = y := by simp
  have e2 : (A ++ y :: x :: C)[A.length + 1]?.getD 0 = x := by simp
  rw [e1, e2]
  simp
theorem innerL_ins (x : Int) : ∀ (R C : List Int), innerL lt R.length (R.reverse ++ x :: C) = (insRev lt x R).reverse ++ C
  | [], C => by simp [innerL, insRev]
  | y :: ys, C => by
    have e0 : (y :: ys).reverse ++ x :: C = ys.reverse ++ y :: x :: C := by simp
    have hl : ys.reverse.length = ys.length := by simp
    have e1 : (ys.reverse ++ y :: x :: C)[ys.length]?.getD 0 = y := by rw [List.getElem?_append_right (by simp)]; simp
    have e2 : (ys.reverse ++ y :: x :: C)[ys.length + 1]?.getD 0 = x := by rw [List.getElem?_append_right (by simp)]; simp
    rw [e0, List.length_cons, innerL, e1, e2, insRev]
    by_cases h : lt x y
    · rw [if_pos h, if_pos h]
      have := swapL_mid ys.reverse C y x
      rw [hl] at this
      rw [this, innerL_ins x ys (y :: C)]
      simp
    · rw [if_neg h, if_neg h]
      simp
theorem outerL_isort (n : Nat) : ∀ k, k ≤ n → outerL lt k (upto n) = (isortRev lt k).reverse ++ (upto n).drop k
  | 0, _ => by simp [outerL, isortRev]
  | k + 1, h => by
    rw [outerL_succ, outerL_isort n k (by omega)]
    have hd : (upto n).drop k = (k : Int) :: (upto n).drop (k + 1) := by
      rw [List.drop_eq_getElem_cons (by simp [upto]; omega)]
      simp [upto]
    rw [hd]
    have := innerL_ins lt k (isortRev lt k) ((upto n).drop (k + 1))
    rw [isortRev_length] at this
    rw [this]; rfl
theorem insRev_mem (x z : Int) : ∀ l, z ∈ insRev lt x l ↔ z = x ∨ z ∈ l
  | [] => by simp [insRev]
  | y :: ys => by
    rw [insRev]; split
    · simp only [List.mem_cons, insRev_mem x z ys]; constructor <;> rintro (h | h | h) <;> simp [h]
    · simp
theorem isortRev_mem (z : Int) : ∀ k, z ∈ isortRev lt k ↔ 0 ≤ z ∧ z < k
  | 0 => by simp [isortRev]
  | k + 1 => by
    rw [isortRev, insRev_mem, isortRev_mem z k]
    constructor
    · rintro (h | h) <;> omega
    · intro h; by_cases hz : z = k <;> omega
end

/-- i comes ahead of j: the greater key; of equal keys the lesser index. -/
def ahead (kf : Int → Int) (i j : Int) : Prop := kf j < kf i ∨ (kf i = kf j ∧ i < j)
theorem ahead_trans {kf : Int → Int} {i j k : Int} (h1 : ahead kf i j) (h2 : ahead kf j k) : ahead kf i k := by
  unfold ahead at *; omega
theorem ahead_irrefl {kf : Int → Int} {i : Int} (h : ahead kf i i) : False := by unfold ahead at h; omega
theorem insRev_sorted (kf : Int → Int) (lt : Int → Int → Bool) (hlt : ∀ i j, lt i j = decide (kf j < kf i)) (x : Int) : ∀ l : List Int, (∀ y ∈ l, y < x) → l.Pairwise (fun a b => ahead kf b a) →
    (insRev lt x l).Pairwise (fun a b => ahead kf b a)
  | [], _, _ => by simp [insRev]
  | y :: ys, hx, hp => by
    rw [List.pairwise_cons] at hp
    have hyx := hx y List.mem_cons_self
    rw [insRev, hlt]
    by_cases h : kf y < kf x
    · rw [if_pos (by simpa using h), List.pairwise_cons]
      refine ⟨fun z hz => ?_, insRev_sorted kf lt hlt x ys (fun z hz => hx z (List.mem_cons_of_mem _ hz)) hp.2⟩
      rw [insRev_mem] at hz
      rcases hz with rfl | hz
      · exact .inl h
      · exact hp.1 z hz
    · rw [if_neg (by simpa using h), List.pairwise_cons]
      refine ⟨fun z hz => ?_, by rw [List.pairwise_cons]; exact hp⟩
      have hy : ahead kf y x := by unfold ahead; omega
      rcases List.mem_cons.1 hz with rfl | hz
      · exact hy
      · exact ahead_trans (hp.1 z hz) hy
theorem isortRev_sorted (kf : Int → Int) (lt : Int → Int → Bool) (hlt : ∀ i j, lt i j = decide (kf j < kf i)) : ∀ k, (isortRev lt k).Pairwise (fun a b => ahead kf b a)
  | 0 => by simp [isortRev]
  | k + 1 => insRev_sorted kf lt hlt k _ (fun y hy => ((isortRev_mem lt y k).1 hy).2) (isortRev_sorted kf lt hlt k)
theorem cmpI_neg (x y : Int) : decide (cmpI x y < 0) = decide (x < y) := by
  unfold cmpI; split <;> rename_i h1
  · simp [h1]
  · split <;> simp [h1]

/-- The key of an index. -/
def keyAt (kf : Int → Int) (l : List Int) (i : Int) : Int := kf (l[i.toNat]?.getD 0)
/-- The order of indices: sorted by 'ahead', and all indices. -/
theorem orderI_eq (kf : Int → Int) (l : List Int) : orderI kf l = (isortRev (fun i j => decide (keyAt kf l j < keyAt kf l i)) l.length).reverse := by
  unfold orderI
  rw [show (fun i j : Int => decide (cmpI (kf (l[j.toNat]?.getD 0)) (kf (l[i.toNat]?.getD 0)) < 0)) = (fun i j => decide (keyAt kf l j < keyAt kf l i)) from by funext i j; rw [cmpI_neg]; rfl]
  rw [outerL_isort _ _ _ (Nat.le_refl _), List.drop_of_length_le (by simp [upto]), List.append_nil]
theorem orderI_sorted (kf : Int → Int) (l : List Int) : (orderI kf l).Pairwise (ahead (keyAt kf l)) := by
  rw [orderI_eq, List.pairwise_reverse]
  exact isortRev_sorted (keyAt kf l) _ (fun i j => rfl) _
theorem orderI_mem (kf : Int → Int) (l : List Int) (z : Int) : z ∈ orderI kf l ↔ 0 ≤ z ∧ z < l.length := by
  rw [orderI_eq, List.mem_reverse, isortRev_mem]
theorem orderI_length (kf : Int → Int) (l : List Int) : (orderI kf l).length = l.length := by
  rw [orderI_eq, List.length_reverse, isortRev_length]

end Go.Proofs.Ytkimcopmfhjjcaa

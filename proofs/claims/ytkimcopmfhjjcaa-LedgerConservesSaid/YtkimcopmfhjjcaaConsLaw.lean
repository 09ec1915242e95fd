/- The plain law of 'LedgerConserves': balances add up to 0; accounts that are no sources are never negative. -/
import Derived.Test.YtkimcopmfhjjcaaAccts
namespace Go.Proofs.Ytkimcopmfhjjcaa
open Go.RowKit Go.Maps

/-- The ledger behind a list of postings, one after the other. -/
def runL (ps : List Pst) : List Pst := ps.foldl postL []
theorem runL_take {ps : List Pst} {k : Nat} (h : k < ps.length) : runL (ps.take (k + 1)) = postL (runL (ps.take k)) (ps[k]?.getD noPst) := by
  unfold runL
  rw [List.take_add_one, List.getElem?_eq_getElem h, List.foldl_append]
  rfl
theorem postL_cases (L : List Pst) (p : Pst) : postL L p = L ∨ (postL L p = L ++ [p] ∧ rightB p = true ∧ (srcB p.src = true ∨ p.amount ≤ balI L p.src)) := by
  by_cases h : postE L p = 0 ∧ keyIdx L p.key = none
  · right
    refine ⟨by unfold postL; rw [if_pos h], ?_⟩
    obtain ⟨h1, h2⟩ := h
    unfold postE at h1
    cases hr : rightB p with
    | false => rw [hr] at h1; simp at h1
    | true =>
      refine ⟨rfl, ?_⟩
      rw [hr, h2] at h1
      simp only [Bool.true_eq_false, if_false] at h1
      by_cases hl : 100000 ≤ L.length
      · rw [if_pos hl] at h1; omega
      · rw [if_neg hl] at h1
        by_cases hs : srcB p.src = false ∧ balI L p.src < p.amount
        · rw [if_pos hs] at h1; omega
        · cases hb : srcB p.src with
          | true => exact .inl rfl
          | false => exact .inr (by have : ¬ balI L p.src < p.amount := fun e => hs ⟨hb, e⟩; omega)
  · exact .inl (by unfold postL; rw [if_neg h])
theorem runL_length (ps : List Pst) (k : Nat) : (runL (ps.take k)).length ≤ k := by
  induction k with
  | zero => simp [runL]
  | succ k ih =>
    by_cases h : k < ps.length
    · rw [runL_take h]
      rcases postL_cases (runL (ps.take k)) (ps[k]?.getD noPst) with e | ⟨e, _⟩ <;> rw [e]
      · omega
      · simp; omega
    · rw [List.take_of_length_le (by omega)] at ih ⊢; omega
theorem runL_mem {ps : List Pst} {k : Nat} : ∀ p ∈ runL (ps.take k), p ∈ ps ∧ rightB p = true := by
  induction k with
  | zero => simp [runL]
  | succ k ih =>
    by_cases h : k < ps.length
    · rw [runL_take h]
      rcases postL_cases (runL (ps.take k)) (ps[k]?.getD noPst) with e | ⟨e, hr, _⟩ <;> rw [e]
      · exact ih
      · intro p hp
        rw [List.mem_append, List.mem_singleton] at hp
        rcases hp with hp | rfl
        · exact ih p hp
        · exact ⟨by rw [List.getElem?_eq_getElem h]; exact List.getElem_mem _, hr⟩
    · rw [List.take_of_length_le (by omega)] at ih ⊢; exact ih
/-- Accounts that are no sources are never negative. -/
theorem runL_nonneg (ps : List Pst) (k : Nat) (s : ByteArray) (hs : srcB s = false) : 0 ≤ balI (runL (ps.take k)) s := by
  induction k with
  | zero => simp [runL, balI, sumI]
  | succ k ih =>
    by_cases h : k < ps.length
    · rw [runL_take h]
      rcases postL_cases (runL (ps.take k)) (ps[k]?.getD noPst) with e | ⟨e, hr, hf⟩ <;> rw [e]
      · exact ih
      · rw [balI_snoc]
        have ha := rightB_amount hr
        unfold signed
        by_cases h1 : (ps[k]?.getD noPst).src = s
        · rw [if_pos h1]
          have h2 : ¬ (ps[k]?.getD noPst).dst = s := fun e => ha.2.2 (h1.trans e.symm)
          rw [if_neg h2]
          rcases hf with hf | hf
          · rw [h1, hs] at hf; cases hf
          · rw [h1] at hf; omega
        · rw [if_neg h1]
          split <;> omega
    · rw [List.take_of_length_le (by omega)] at ih ⊢; exact ih
theorem balI_bound {L : List Pst} (h : ∀ p ∈ L, 0 < p.amount ∧ p.amount ≤ 1000000000) (s : ByteArray) : -(L.length * 1000000000) ≤ balI L s ∧ balI L s ≤ L.length * 1000000000 := by
  induction L with
  | nil => simp [balI, sumI]
  | cons p L ih =>
    have h0 := h p List.mem_cons_self
    have hi := ih (fun q hq => h q (List.mem_cons_of_mem _ hq))
    have e : balI (p :: L) s = signed s p + balI L s := rfl
    rw [e, List.length_cons]
    have hs : -1000000000 ≤ signed s p ∧ signed s p ≤ 1000000000 := by unfold signed; split <;> split <;> omega
    omega

/-- The sum of an amount over a list of names in which s stands just once. -/
theorem sum_once (ss : List (List UInt8)) (hn : ss.Pairwise (fun x y => x < y)) (s : ByteArray) (a : Int) (hm : s.data.toList ∈ ss) : sumI (ss.map (fun x => if s = ⟨x.toArray⟩ then a else 0)) = a := by
  induction ss with
  | nil => simp at hm
  | cons x ss ih =>
    rw [List.pairwise_cons] at hn
    have hz : x = s.data.toList → sumI (ss.map (fun x => if s = ⟨x.toArray⟩ then a else 0)) = 0 := by
      intro hx
      have : ∀ y ∈ ss, (if s = (⟨y.toArray⟩ : ByteArray) then a else 0) = 0 := by
        intro y hy
        rw [if_neg]
        intro e
        have := hn.1 y hy
        rw [hx, e] at this
        exact List.lt_irrefl _ (by simpa using this)
      clear ih hn hm
      induction ss with
      | nil => rfl
      | cons y ss ih2 =>
        simp only [List.map_cons, sumI]
        rw [this y List.mem_cons_self, ih2 (fun z hz => this z (List.mem_cons_of_mem _ hz))]; rfl
    simp only [List.map_cons, sumI]
    by_cases hx : x = s.data.toList
    · rw [hz hx, if_pos (by rw [hx])]; omega
    · rw [if_neg (fun e => hx (by rw [e])), ih hn.2 (by
        rcases List.mem_cons.1 hm with h | h
        · exact absurd h.symm hx
        · exact h)]
      omega
theorem sumI_map_sub {α : Type} (l : List α) (f g : α → Int) : sumI (l.map (fun x => f x - g x)) = sumI (l.map f) - sumI (l.map g) := by
  induction l with
  | nil => rfl
  | cons x l ih => simp only [List.map_cons, sumI, ih]; omega
theorem sumI_map_add {α : Type} (l : List α) (f g : α → Int) : sumI (l.map (fun x => f x + g x)) = sumI (l.map f) + sumI (l.map g) := by
  induction l with
  | nil => rfl
  | cons x l ih => simp only [List.map_cons, sumI, ih]; omega
/-- The balances of all accounts add up to 0. -/
theorem accts_zero (ss : List (List UInt8)) (hn : ss.Pairwise (fun x y => x < y)) : ∀ (L : List Pst), (∀ s : ByteArray, acctB L s = true → s.data.toList ∈ ss) → sumI (ss.map (fun x => balI L ⟨x.toArray⟩)) = 0
  | [], h => by
    clear h
    have e : (fun x : List UInt8 => balI [] ⟨x.toArray⟩) = fun _ => 0 := by funext x; rfl
    rw [e]
    clear hn e
    induction ss with
    | nil => rfl
    | cons x ss ih => simp only [List.map_cons, sumI, ih]; rfl
  | p :: L, h => by
    have hL := accts_zero ss hn L (fun s hs => h s (by unfold acctB at *; rw [List.any_cons, hs]; simp))
    have e : (fun x : List UInt8 => balI (p :: L) ⟨x.toArray⟩) = fun x => ((if p.dst = ⟨x.toArray⟩ then p.amount else 0) - (if p.src = ⟨x.toArray⟩ then p.amount else 0)) + balI L ⟨x.toArray⟩ := by funext x; rfl
    rw [e, sumI_map_add, sumI_map_sub, hL, sum_once ss hn p.dst p.amount (h p.dst (by simp [acctB])), sum_once ss hn p.src p.amount (h p.src (by simp [acctB]))]
    omega

end Go.Proofs.Ytkimcopmfhjjcaa

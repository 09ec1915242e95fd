/- Panels of one member; zero prices; rows that are made. -/
import Derived.Test.YtebigkjilklodaaDoorSubC
import Derived.Test.YtebigkjilklodaaDoorQuoZs
set_option linter.unusedVariables false
set_option linter.unusedSimpArgs false
namespace Go.Proofs.YtebigkjilklodaaDoor
open Go.RowKit

theorem comb_one : ∀ rem i, comb i rem 1 = (List.range' i rem).map fun j => [j] := by
  intro rem
  induction rem with
  | zero => intro i; rfl
  | succ rem ih =>
    intro i
    rw [comb_succ, comb_zero, ih, List.range'_succ]
    rfl
/-- The panels of one member, where nobody belongs to a group and no quota asks for any. -/
theorem pans_single (x : DrawC) (n m : Nat) (g : Nat → ByteArray) (low high : Nat → Int) (gs : Nat → List ByteArray) (hk : x.kind = 3) (hn : n ≤ 40) (hm : m ≤ 12) (hs : x.size = 1) (h1 : 1 ≤ n) (hg : ∀ i, gs i = []) (hl : ∀ k, low k = 0) (hh : ∀ k, high k = 1) :
    pans x n m g low high gs = (List.range n).map fun j => [j] := by
  unfold pans
  rw [if_pos ⟨hk, hn, hm, by omega, by omega⟩, PD.all_comb _ n 1 (by exact hs), comb_one, List.filter_eq_self.2, List.range_eq_range']
  intro y hy
  rw [List.mem_map] at hy
  obtain ⟨j, _, rfl⟩ := hy
  have hc : ∀ k, (pdOf x.size m g low high gs).cnt k [j] = 0 := fun k => by
    unfold PD.cnt
    rw [List.countP_eq_zero]
    intro i _
    simp [pdOf, hg i, hasG]
  unfold PD.feas PD.fits
  simp only [hc]
  simp only [pdOf, hs, hl, hh]
  simp
theorem pans_bad (x : DrawC) (n m : Nat) (g : Nat → ByteArray) (low high : Nat → Int) (gs : Nat → List ByteArray) (h : ¬ (x.kind = 3 ∧ n ≤ 40 ∧ m ≤ 12)) : pans x n m g low high gs = [] := by
  unfold pans
  rw [if_neg fun h' => h ⟨h'.1, h'.2.1, h'.2.2.1⟩]
theorem price_zero (p : Nat → Rat) (hp : ∀ k, p k = 0) (x : List Nat) : price p x = 0 := by
  induction x with
  | nil => rfl
  | cons i y ih => rw [price_cons, ih, hp, Rat.add_zero]
theorem top_zero (p : Nat → Rat) (hp : ∀ k, p k = 0) : ∀ (l : List (List Nat)) (y : List Nat), top p (y :: l) = some (0, y) := by
  have hpr : ∀ y, price p y = 0 := by
    intro y
    induction y with
    | nil => rfl
    | cons i y ih => rw [price_cons, ih, hp, Rat.add_zero]
  intro l
  induction l with
  | nil => intro y; show better (some (price p y, y)) none = _; rw [better_none, hpr]
  | cons z l ih =>
    intro y
    show better (some (price p y, y)) (top p (z :: l)) = _
    rw [ih z, hpr]; exact better_ge (a := (0, y)) (b := (0, z)) (fun h => absurd h (Rat.not_lt.2 Rat.le_refl))
theorem made_get (z : Array Value) (n i : Nat) (h : i < n) : (madeCells z n).toList[i]? = some (z[i % z.size]!) := by simp [madeCells, h]
def zeroE : Array Value := #[.int .i64 0, .int .i64 0, .int .i64 0, .slice none 0 0, .slice none 0 0, .slice none 0 0]
theorem ents_made {w : World} {B b n : Nat} (h : w.ownsRow B 56 6 (.slice (some ⟨b, 0, none⟩) n n) n (madeCells zeroE (n * 6)).toList) : EntAt w.heap.size w (.slice (some ⟨b, 0, none⟩) n n) n (fun _ => []) := by
  rcases own_get h with ⟨h0, _⟩ | ⟨g, cap, e, h1, h2, h3⟩
  · cases h0
  · injection e with e1 _ e3
    injection e1 with e1
    injection e1 with e1 _ _
    subst e1 e3
    refine ⟨_, _, rfl, fun i hi => ?_⟩
    have hc : ∀ j, j < 6 → w.cell? ⟨b, i * 6 + j, none⟩ = some (zeroE[j]!) := fun j hj => by
      refine h3 _ _ ?_
      rw [made_get _ _ _ (by omega)]
      have : (i * 6 + j) % zeroE.size = j := by show (i * 6 + j) % 6 = j; omega
      rw [this]
    refine ⟨b, 0, .int .i64 0, .int .i64 0, .int .i64 0, .slice none 0 0, .slice none 0 0, .slice none 0 0, rfl, h2, ?_, ?_, ?_, ?_, ?_, ?_, ⟨none, 0, rfl, fun i s hs => by simp at hs⟩, rfl, rfl, rfl, rfl, rfl⟩
    · rw [Nat.zero_add]; exact hc 0 (by decide)
    · rw [Nat.zero_add]; exact hc 1 (by decide)
    · rw [Nat.zero_add]; exact hc 2 (by decide)
    · rw [Nat.zero_add]; exact hc 3 (by decide)
    · rw [Nat.zero_add]; exact hc 4 (by decide)
    · rw [Nat.zero_add]; exact hc 5 (by decide)
def zeroQ : RatG := ⟨false, ⟨#[]⟩, ⟨#[]⟩⟩
theorem zeroQ_rat : zeroQ.rat = 0 := by
  unfold RatG.rat
  rw [if_neg]
  unfold RatG.right zeroQ
  simp [valB]
theorem prices_made {w : World} {B b n : Nat} (h : w.ownsRow B 63 3 (.slice (some ⟨b, 0, none⟩) n n) n (madeCells #[.bool false, .string ByteArray.empty, .string ByteArray.empty] (n * 3)).toList) : PricesAt w.heap.size w (.slice (some ⟨b, 0, none⟩) n n) n (fun _ => zeroQ) := by
  rcases own_get h with ⟨h0, _⟩ | ⟨g, cap, e, h1, h2, h3⟩
  · cases h0
  · injection e with e1 _ e3
    injection e1 with e1
    injection e1 with e1 _ _
    subst e1 e3
    refine ⟨_, _, rfl, fun i hi => ⟨b, 0, rfl, h2, ?_, ?_, ?_⟩⟩
    · rw [Nat.zero_add]
      refine h3 (i * 3) _ ?_
      rw [made_get _ _ _ (by omega)]
      show some ((#[.bool false, .string ByteArray.empty, .string ByteArray.empty] : Array Value)[(i * 3) % 3]!) = _
      rw [Nat.mul_mod_left]; rfl
    · rw [Nat.zero_add]
      refine h3 (i * 3 + 1) _ ?_
      rw [made_get _ _ _ (by omega)]
      show some ((#[.bool false, .string ByteArray.empty, .string ByteArray.empty] : Array Value)[(i * 3 + 1) % 3]!) = _
      rw [show (i * 3 + 1) % 3 = 1 by omega]; rfl
    · rw [Nat.zero_add]
      refine h3 (i * 3 + 2) _ ?_
      rw [made_get _ _ _ (by omega)]
      show some ((#[.bool false, .string ByteArray.empty, .string ByteArray.empty] : Array Value)[(i * 3 + 2) % 3]!) = _
      rw [show (i * 3 + 2) % 3 = 2 by omega]; rfl

end Go.Proofs.YtebigkjilklodaaDoor

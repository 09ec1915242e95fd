/- Panels in memory: states, tables. -/
import Derived.DeepKeys4
import Derived.Maps.OwnSet
import Derived.Maps.OwnOps
import Derived.Test.YtebigkjilklodaaDoorOwns
import Derived.Test.YtebigkjilklodaaDoorLaws
set_option linter.unusedVariables false
set_option linter.unusedSimpArgs false
namespace Go.Proofs.YtebigkjilklodaaDoor
open Go.RowKit

/-- A state's cells. -/
def stA (n m : Nat) (c : Nat → Nat) : Array Value := #[.int .i64 n, .int .i64 m, .int .i64 (c 0), .int .i64 (c 1), .int .i64 (c 2), .int .i64 (c 3), .int .i64 (c 4), .int .i64 (c 5), .int .i64 (c 6), .int .i64 (c 7), .int .i64 (c 8), .int .i64 (c 9), .int .i64 (c 10), .int .i64 (c 11)]
def StAt (b : Nat) (w : World) (n m : Nat) (c : Nat → Nat) : Prop := w.heap[b]? = some (.cells (stA n m c) 89 (0, 0))
theorem StAt.lt {b : Nat} {w : World} {n m : Nat} {c : Nat → Nat} (h : StAt b w n m c) : b < w.heap.size := (Array.getElem?_eq_some_iff.1 h).1
theorem StAt.next {b : Nat} {w : World} {n m : Nat} {c : Nat → Nat} (h : StAt b w n m c) : w.cell? ⟨b, 0, none⟩ = some (.int .i64 n) := by rw [cell_of_row w b _ _ _ _ h]; rfl
theorem StAt.mem {b : Nat} {w : World} {n m : Nat} {c : Nat → Nat} (h : StAt b w n m c) : w.cell? ⟨b, 1, none⟩ = some (.int .i64 m) := by rw [cell_of_row w b _ _ _ _ h]; rfl
theorem StAt.cnt {b : Nat} {w : World} {n m : Nat} {c : Nat → Nat} (h : StAt b w n m c) {k : Nat} (hk : k < 12) : w.cell? ⟨b, 2 + k, none⟩ = some (.int .i64 (c k)) := by
  rw [cell_of_row w b _ _ _ _ h]
  match k, hk with
  | 0, _ => rfl | 1, _ => rfl | 2, _ => rfl | 3, _ => rfl | 4, _ => rfl | 5, _ => rfl | 6, _ => rfl | 7, _ => rfl | 8, _ => rfl | 9, _ => rfl | 10, _ => rfl | 11, _ => rfl
theorem StAt.frozen {b : Nat} {w : World} {n m : Nat} {c : Nat → Nat} (h : StAt b w n m c) (o : Nat) : w.frozen? ⟨b, o, none⟩ = false := frozen_of_row w b o _ _ h
theorem StAt.later {b C : Nat} {w w' : World} {n m : Nat} {c : Nat → Nat} (h : StAt b w n m c) (hb : Below C w w') (hC : b < C) : StAt b w' n m c := (hb.block b hC).trans h
theorem StAt.setNext {b : Nat} {w : World} {n m : Nat} {c : Nat → Nat} (h : StAt b w n m c) (v : Nat) : StAt b (w.setCell ⟨b, 0, none⟩ (.int .i64 v)) v m c := heap_setCell_same _ _ 0 _ _ _ h
theorem StAt.setMem {b : Nat} {w : World} {n m : Nat} {c : Nat → Nat} (h : StAt b w n m c) (v : Nat) : StAt b (w.setCell ⟨b, 1, none⟩ (.int .i64 v)) n v c := heap_setCell_same _ _ 1 _ _ _ h
theorem StAt.setCnt {b : Nat} {w : World} {n m : Nat} {c : Nat → Nat} (h : StAt b w n m c) {k : Nat} (hk : k < 12) (v : Nat) : StAt b (w.setCell ⟨b, 2 + k, none⟩ (.int .i64 v)) n m (fun j => if j = k then v else c j) := by
  have := heap_setCell_same w b (2 + k) _ _ (.int .i64 v) h
  refine this.trans ?_
  match k, hk with
  | 0, _ => rfl | 1, _ => rfl | 2, _ => rfl | 3, _ => rfl | 4, _ => rfl | 5, _ => rfl | 6, _ => rfl | 7, _ => rfl | 8, _ => rfl | 9, _ => rfl | 10, _ => rfl | 11, _ => rfl
theorem StAt.other {b : Nat} {w : World} {n m : Nat} {c : Nat → Nat} (h : StAt b w n m c) (a : Addr) (u : Value) (hb : b ≠ a.block) : StAt b (w.setCell a u) n m c := (heap_setCell_other _ _ _ _ hb).trans h
/-- All cells of a state. -/
theorem StAt.all {b : Nat} {w : World} {n m : Nat} {c : Nat → Nat} (h : StAt b w n m c) :
    w.cell? ⟨b, 0, none⟩ = some (.int .i64 n) ∧ w.cell? ⟨b, 1, none⟩ = some (.int .i64 m) ∧ w.cell? ⟨b, 2, none⟩ = some (.int .i64 (c 0)) ∧ w.cell? ⟨b, 3, none⟩ = some (.int .i64 (c 1)) ∧ w.cell? ⟨b, 4, none⟩ = some (.int .i64 (c 2)) ∧ w.cell? ⟨b, 5, none⟩ = some (.int .i64 (c 3)) ∧ w.cell? ⟨b, 6, none⟩ = some (.int .i64 (c 4)) ∧ w.cell? ⟨b, 7, none⟩ = some (.int .i64 (c 5)) ∧ w.cell? ⟨b, 8, none⟩ = some (.int .i64 (c 6)) ∧ w.cell? ⟨b, 9, none⟩ = some (.int .i64 (c 7)) ∧ w.cell? ⟨b, 10, none⟩ = some (.int .i64 (c 8)) ∧ w.cell? ⟨b, 11, none⟩ = some (.int .i64 (c 9)) ∧ w.cell? ⟨b, 12, none⟩ = some (.int .i64 (c 10)) ∧ w.cell? ⟨b, 13, none⟩ = some (.int .i64 (c 11)) := by
  refine ⟨?_, ?_, ?_, ?_, ?_, ?_, ?_, ?_, ?_, ?_, ?_, ?_, ?_, ?_⟩ <;> (rw [cell_of_row w b _ _ _ _ h]; rfl)
theorem StAt.frozens {b : Nat} {w : World} {n m : Nat} {c : Nat → Nat} (h : StAt b w n m c) :
    w.frozen? ⟨b, 0, none⟩ = false ∧ w.frozen? ⟨b, 1, none⟩ = false ∧ w.frozen? ⟨b, 2, none⟩ = false ∧ w.frozen? ⟨b, 3, none⟩ = false ∧ w.frozen? ⟨b, 4, none⟩ = false ∧ w.frozen? ⟨b, 5, none⟩ = false ∧ w.frozen? ⟨b, 6, none⟩ = false ∧ w.frozen? ⟨b, 7, none⟩ = false ∧ w.frozen? ⟨b, 8, none⟩ = false ∧ w.frozen? ⟨b, 9, none⟩ = false ∧ w.frozen? ⟨b, 10, none⟩ = false ∧ w.frozen? ⟨b, 11, none⟩ = false ∧ w.frozen? ⟨b, 12, none⟩ = false ∧ w.frozen? ⟨b, 13, none⟩ = false :=
  ⟨h.frozen 0, h.frozen 1, h.frozen 2, h.frozen 3, h.frozen 4, h.frozen 5, h.frozen 6, h.frozen 7, h.frozen 8, h.frozen 9, h.frozen 10, h.frozen 11, h.frozen 12, h.frozen 13⟩
/-- A state is written over another. -/
def stSet (b : Nat) (w : World) (n m : Value) (c : Nat → Value) : World := ((((((((((((((w).setCell ⟨b, 0, none⟩ n).setCell ⟨b, 1, none⟩ m).setCell ⟨b, 2, none⟩ (c 0)).setCell ⟨b, 3, none⟩ (c 1)).setCell ⟨b, 4, none⟩ (c 2)).setCell ⟨b, 5, none⟩ (c 3)).setCell ⟨b, 6, none⟩ (c 4)).setCell ⟨b, 7, none⟩ (c 5)).setCell ⟨b, 8, none⟩ (c 6)).setCell ⟨b, 9, none⟩ (c 7)).setCell ⟨b, 10, none⟩ (c 8)).setCell ⟨b, 11, none⟩ (c 9)).setCell ⟨b, 12, none⟩ (c 10)).setCell ⟨b, 13, none⟩ (c 11)
theorem stSet_at {b : Nat} {w : World} {n m : Nat} {n' m' : Value} {c : Nat → Nat} {c' : Nat → Value} (h : StAt b w n m c) :
    (stSet b w n' m' c').heap[b]? = some (.cells #[n', m', c' 0, c' 1, c' 2, c' 3, c' 4, c' 5, c' 6, c' 7, c' 8, c' 9, c' 10, c' 11] 89 (0, 0)) := by
  unfold stSet
  have h0 : (w.setCell ⟨b, 0, none⟩ n').heap[b]? = some (.cells #[n', .int .i64 m, .int .i64 (c 0), .int .i64 (c 1), .int .i64 (c 2), .int .i64 (c 3), .int .i64 (c 4), .int .i64 (c 5), .int .i64 (c 6), .int .i64 (c 7), .int .i64 (c 8), .int .i64 (c 9), .int .i64 (c 10), .int .i64 (c 11)] 89 (0, 0)) := heap_setCell_same w b 0 _ _ n' h
  obtain ⟨w1, hw1⟩ : ∃ w1, w1 = w.setCell ⟨b, 0, none⟩ n' := ⟨_, rfl⟩
  rw [← hw1] at h0 ⊢
  have h1 : (w1.setCell ⟨b, 1, none⟩ m').heap[b]? = some (.cells #[n', m', .int .i64 (c 0), .int .i64 (c 1), .int .i64 (c 2), .int .i64 (c 3), .int .i64 (c 4), .int .i64 (c 5), .int .i64 (c 6), .int .i64 (c 7), .int .i64 (c 8), .int .i64 (c 9), .int .i64 (c 10), .int .i64 (c 11)] 89 (0, 0)) := heap_setCell_same w1 b 1 _ _ m' h0
  obtain ⟨w2, hw2⟩ : ∃ w2, w2 = w1.setCell ⟨b, 1, none⟩ m' := ⟨_, rfl⟩
  rw [← hw2] at h1 ⊢
  have h2 : (w2.setCell ⟨b, 2, none⟩ (c' 0)).heap[b]? = some (.cells #[n', m', (c' 0), .int .i64 (c 1), .int .i64 (c 2), .int .i64 (c 3), .int .i64 (c 4), .int .i64 (c 5), .int .i64 (c 6), .int .i64 (c 7), .int .i64 (c 8), .int .i64 (c 9), .int .i64 (c 10), .int .i64 (c 11)] 89 (0, 0)) := heap_setCell_same w2 b 2 _ _ (c' 0) h1
  obtain ⟨w3, hw3⟩ : ∃ w3, w3 = w2.setCell ⟨b, 2, none⟩ (c' 0) := ⟨_, rfl⟩
  rw [← hw3] at h2 ⊢
  have h3 : (w3.setCell ⟨b, 3, none⟩ (c' 1)).heap[b]? = some (.cells #[n', m', (c' 0), (c' 1), .int .i64 (c 2), .int .i64 (c 3), .int .i64 (c 4), .int .i64 (c 5), .int .i64 (c 6), .int .i64 (c 7), .int .i64 (c 8), .int .i64 (c 9), .int .i64 (c 10), .int .i64 (c 11)] 89 (0, 0)) := heap_setCell_same w3 b 3 _ _ (c' 1) h2
  obtain ⟨w4, hw4⟩ : ∃ w4, w4 = w3.setCell ⟨b, 3, none⟩ (c' 1) := ⟨_, rfl⟩
  rw [← hw4] at h3 ⊢
  have h4 : (w4.setCell ⟨b, 4, none⟩ (c' 2)).heap[b]? = some (.cells #[n', m', (c' 0), (c' 1), (c' 2), .int .i64 (c 3), .int .i64 (c 4), .int .i64 (c 5), .int .i64 (c 6), .int .i64 (c 7), .int .i64 (c 8), .int .i64 (c 9), .int .i64 (c 10), .int .i64 (c 11)] 89 (0, 0)) := heap_setCell_same w4 b 4 _ _ (c' 2) h3
  obtain ⟨w5, hw5⟩ : ∃ w5, w5 = w4.setCell ⟨b, 4, none⟩ (c' 2) := ⟨_, rfl⟩
  rw [← hw5] at h4 ⊢
  have h5 : (w5.setCell ⟨b, 5, none⟩ (c' 3)).heap[b]? = some (.cells #[n', m', (c' 0), (c' 1), (c' 2), (c' 3), .int .i64 (c 4), .int .i64 (c 5), .int .i64 (c 6), .int .i64 (c 7), .int .i64 (c 8), .int .i64 (c 9), .int .i64 (c 10), .int .i64 (c 11)] 89 (0, 0)) := heap_setCell_same w5 b 5 _ _ (c' 3) h4
  obtain ⟨w6, hw6⟩ : ∃ w6, w6 = w5.setCell ⟨b, 5, none⟩ (c' 3) := ⟨_, rfl⟩
  rw [← hw6] at h5 ⊢
  have h6 : (w6.setCell ⟨b, 6, none⟩ (c' 4)).heap[b]? = some (.cells #[n', m', (c' 0), (c' 1), (c' 2), (c' 3), (c' 4), .int .i64 (c 5), .int .i64 (c 6), .int .i64 (c 7), .int .i64 (c 8), .int .i64 (c 9), .int .i64 (c 10), .int .i64 (c 11)] 89 (0, 0)) := heap_setCell_same w6 b 6 _ _ (c' 4) h5
  obtain ⟨w7, hw7⟩ : ∃ w7, w7 = w6.setCell ⟨b, 6, none⟩ (c' 4) := ⟨_, rfl⟩
  rw [← hw7] at h6 ⊢
  have h7 : (w7.setCell ⟨b, 7, none⟩ (c' 5)).heap[b]? = some (.cells #[n', m', (c' 0), (c' 1), (c' 2), (c' 3), (c' 4), (c' 5), .int .i64 (c 6), .int .i64 (c 7), .int .i64 (c 8), .int .i64 (c 9), .int .i64 (c 10), .int .i64 (c 11)] 89 (0, 0)) := heap_setCell_same w7 b 7 _ _ (c' 5) h6
  obtain ⟨w8, hw8⟩ : ∃ w8, w8 = w7.setCell ⟨b, 7, none⟩ (c' 5) := ⟨_, rfl⟩
  rw [← hw8] at h7 ⊢
  have h8 : (w8.setCell ⟨b, 8, none⟩ (c' 6)).heap[b]? = some (.cells #[n', m', (c' 0), (c' 1), (c' 2), (c' 3), (c' 4), (c' 5), (c' 6), .int .i64 (c 7), .int .i64 (c 8), .int .i64 (c 9), .int .i64 (c 10), .int .i64 (c 11)] 89 (0, 0)) := heap_setCell_same w8 b 8 _ _ (c' 6) h7
  obtain ⟨w9, hw9⟩ : ∃ w9, w9 = w8.setCell ⟨b, 8, none⟩ (c' 6) := ⟨_, rfl⟩
  rw [← hw9] at h8 ⊢
  have h9 : (w9.setCell ⟨b, 9, none⟩ (c' 7)).heap[b]? = some (.cells #[n', m', (c' 0), (c' 1), (c' 2), (c' 3), (c' 4), (c' 5), (c' 6), (c' 7), .int .i64 (c 8), .int .i64 (c 9), .int .i64 (c 10), .int .i64 (c 11)] 89 (0, 0)) := heap_setCell_same w9 b 9 _ _ (c' 7) h8
  obtain ⟨w10, hw10⟩ : ∃ w10, w10 = w9.setCell ⟨b, 9, none⟩ (c' 7) := ⟨_, rfl⟩
  rw [← hw10] at h9 ⊢
  have h10 : (w10.setCell ⟨b, 10, none⟩ (c' 8)).heap[b]? = some (.cells #[n', m', (c' 0), (c' 1), (c' 2), (c' 3), (c' 4), (c' 5), (c' 6), (c' 7), (c' 8), .int .i64 (c 9), .int .i64 (c 10), .int .i64 (c 11)] 89 (0, 0)) := heap_setCell_same w10 b 10 _ _ (c' 8) h9
  obtain ⟨w11, hw11⟩ : ∃ w11, w11 = w10.setCell ⟨b, 10, none⟩ (c' 8) := ⟨_, rfl⟩
  rw [← hw11] at h10 ⊢
  have h11 : (w11.setCell ⟨b, 11, none⟩ (c' 9)).heap[b]? = some (.cells #[n', m', (c' 0), (c' 1), (c' 2), (c' 3), (c' 4), (c' 5), (c' 6), (c' 7), (c' 8), (c' 9), .int .i64 (c 10), .int .i64 (c 11)] 89 (0, 0)) := heap_setCell_same w11 b 11 _ _ (c' 9) h10
  obtain ⟨w12, hw12⟩ : ∃ w12, w12 = w11.setCell ⟨b, 11, none⟩ (c' 9) := ⟨_, rfl⟩
  rw [← hw12] at h11 ⊢
  have h12 : (w12.setCell ⟨b, 12, none⟩ (c' 10)).heap[b]? = some (.cells #[n', m', (c' 0), (c' 1), (c' 2), (c' 3), (c' 4), (c' 5), (c' 6), (c' 7), (c' 8), (c' 9), (c' 10), .int .i64 (c 11)] 89 (0, 0)) := heap_setCell_same w12 b 12 _ _ (c' 10) h11
  obtain ⟨w13, hw13⟩ : ∃ w13, w13 = w12.setCell ⟨b, 12, none⟩ (c' 10) := ⟨_, rfl⟩
  rw [← hw13] at h12 ⊢
  have h13 : (w13.setCell ⟨b, 13, none⟩ (c' 11)).heap[b]? = some (.cells #[n', m', (c' 0), (c' 1), (c' 2), (c' 3), (c' 4), (c' 5), (c' 6), (c' 7), (c' 8), (c' 9), (c' 10), (c' 11)] 89 (0, 0)) := heap_setCell_same w13 b 13 _ _ (c' 11) h12
  exact h13
theorem stSet_below {b B : Nat} {a w : World} (h : Below B a w) (hb : B ≤ b) (n m : Value) (c : Nat → Value) : Below B a (stSet b w n m c) := by
  unfold stSet
  iterate 14 refine Below.setCell ?_ (by exact hb) _
  exact h

/-- A draw's cells: all but kind, size and quotas are free. -/
structure DrawC where
  (a0 a2 a3 a4 a5 a6 a7 a8 a9 a12 : Value)
  kind : Int
  size : Int
  qs : Value
def DrawC.arr (x : DrawC) : Array Value := #[x.a0, .int .i64 x.kind, x.a2, x.a3, x.a4, x.a5, x.a6, x.a7, x.a8, x.a9, .int .i64 x.size, x.qs, x.a12]
/-- A table's cells. -/
def tabA (x : DrawC) (ins : Value) : Array Value := #[x.a0, .int .i64 x.kind, x.a2, x.a3, x.a4, x.a5, x.a6, x.a7, x.a8, x.a9, .int .i64 x.size, x.qs, x.a12, ins]

/-- The quotas of a draw. -/
def QuoAt (B : Nat) (w : World) (v : Value) (m : Nat) (g : Nat → ByteArray) (low high : Nat → Int) : Prop :=
  ∃ ao cap, v = .slice ao m cap ∧ ∀ k, k < m → ∃ b off, ao = some ⟨b, off, none⟩ ∧ b < B ∧ w.cell? ⟨b, off + k * 3, none⟩ = some (.string (g k)) ∧ w.cell? ⟨b, off + (k * 3 + 1), none⟩ = some (.int .i64 (low k)) ∧ w.cell? ⟨b, off + (k * 3 + 2), none⟩ = some (.int .i64 (high k))
theorem QuoAt.mono {B B' : Nat} {w w' : World} {v : Value} {m : Nat} {g : Nat → ByteArray} {low high : Nat → Int} (h : QuoAt B w v m g low high) (hb : Below B w w') (hB : B ≤ B') : QuoAt B' w' v m g low high := by
  obtain ⟨ao, cap, rfl, hc⟩ := h
  refine ⟨ao, cap, rfl, fun k hk => ?_⟩
  obtain ⟨b, off, e, hlt, h1, h2, h3⟩ := hc k hk
  exact ⟨b, off, e, by omega, (hb.cell (p := ⟨b, _, none⟩) hlt).trans h1, (hb.cell (p := ⟨b, _, none⟩) hlt).trans h2, (hb.cell (p := ⟨b, _, none⟩) hlt).trans h3⟩
/-- A table's rows. -/
def InsAt (B : Nat) (w : World) (v : Value) (n m : Nat) (row : Nat → Nat → Bool) : Prop :=
  ∃ ao cap, v = .slice ao n cap ∧ ∀ i, i < n → ∃ b off ri ci, ao = some ⟨b, off, none⟩ ∧ b < B ∧ w.cell? ⟨b, off + i, none⟩ = some (.slice ri m ci) ∧ ∀ k, k < m → ∃ b2 o2, ri = some ⟨b2, o2, none⟩ ∧ b2 < B ∧ w.cell? ⟨b2, o2 + k, none⟩ = some (.bool (row i k))
theorem InsAt.mono {B B' : Nat} {w w' : World} {v : Value} {n m : Nat} {row : Nat → Nat → Bool} (h : InsAt B w v n m row) (hb : Below B w w') (hB : B ≤ B') : InsAt B' w' v n m row := by
  obtain ⟨ao, cap, rfl, hc⟩ := h
  refine ⟨ao, cap, rfl, fun i hi => ?_⟩
  obtain ⟨b, off, ri, ci, e, hlt, h1, h2⟩ := hc i hi
  refine ⟨b, off, ri, ci, e, by omega, (hb.cell (p := ⟨b, _, none⟩) hlt).trans h1, fun k hk => ?_⟩
  obtain ⟨b2, o2, e2, hlt2, h3⟩ := h2 k hk
  exact ⟨b2, o2, e2, by omega, (hb.cell (p := ⟨b2, _, none⟩) hlt2).trans h3⟩

/-- A table that stands for a draw: its quotas and rows lie below B. -/
structure TabAt (B : Nat) (w : World) (x : DrawC) (ins : Value) (d : PD) (n : Nat) : Prop where
  size : x.size = d.size
  few : d.m ≤ 12
  beyond : ∀ i k, d.m ≤ k → d.row i k = false
  quo : ∃ g, QuoAt B w x.qs d.m g d.low d.high
  ins : InsAt B w ins n d.m d.row
theorem TabAt.mono {B B' : Nat} {w w' : World} {x : DrawC} {ins : Value} {d : PD} {n : Nat} (h : TabAt B w x ins d n) (hb : Below B w w') (hB : B ≤ B') : TabAt B' w' x ins d n :=
  ⟨h.size, h.few, h.beyond, h.quo.elim fun g hg => ⟨g, hg.mono hb hB⟩, h.ins.mono hb hB⟩

/-- Three new blocks. -/
theorem alloc3 (w : World) (A1 A2 A3 : Array Value) (t1 t2 t3 : TypeId) {W : World} (h : ((w.alloc (.cells A1 t1)).alloc (.cells A2 t2)).alloc (.cells A3 t3) = W) :
    W.heap[w.heap.size]? = some (.cells A1 t1 (0, 0)) ∧ W.heap[w.heap.size + 1]? = some (.cells A2 t2 (0, 0)) ∧ W.heap[w.heap.size + 1 + 1]? = some (.cells A3 t3 (0, 0)) ∧ Below w.heap.size w W ∧ W.heap.size = w.heap.size + 1 + 1 + 1 := by
  subst h
  have h1 := heap_alloc_new w (.cells A1 t1)
  have h2 := heap_alloc_new (w.alloc (.cells A1 t1)) (.cells A2 t2)
  have h3 := heap_alloc_new ((w.alloc (.cells A1 t1)).alloc (.cells A2 t2)) (.cells A3 t3)
  rw [World.size_alloc] at h2
  rw [World.size_alloc, World.size_alloc] at h3
  refine ⟨?_, ?_, h3, (((Below.refl _ _).alloc (Nat.le_refl _) _).alloc (by simp) _).alloc (by simp; omega) _, by simp⟩
  · rw [Below.heap_alloc _ _ _ (by simp; omega), Below.heap_alloc _ _ _ (by simp)]; exact h1
  · rw [Below.heap_alloc _ _ _ (by simp)]; exact h2
/-- A table's own cells. -/
def TabC (b : Nat) (w : World) (x : DrawC) (ins : Value) : Prop := w.heap[b]? = some (.cells (tabA x ins) 84 (0, 0))
theorem TabC.at {b : Nat} {w : World} {x : DrawC} {ins : Value} (h : TabC b w x ins) : w.cell? ⟨b, 10, none⟩ = some (.int .i64 x.size) ∧ w.cell? ⟨b, 11, none⟩ = some x.qs ∧ w.cell? ⟨b, 13, none⟩ = some ins := by
  refine ⟨?_, ?_, ?_⟩ <;> (rw [cell_of_row w b _ _ _ _ h]; rfl)
theorem TabC.lt {b : Nat} {w : World} {x : DrawC} {ins : Value} (h : TabC b w x ins) : b < w.heap.size := (Array.getElem?_eq_some_iff.1 h).1
theorem TabC.later {b C : Nat} {w w' : World} {x : DrawC} {ins : Value} (h : TabC b w x ins) (hb : Below C w w') (hC : b < C) : TabC b w' x ins := (hb.block b hC).trans h

end Go.Proofs.YtebigkjilklodaaDoor

/- A map from states to values, said as a function. -/
namespace Go.Proofs.YtebigkjilklodaaDoor
open Go.RowKit Go.Maps Go.WideMaps

theorem laid : laidOutB Tryd.prog = true := by kernel_rfl
theorem stRow : (89 : TypeId) < Tryd.prog.types.size := of_decide_eq_true (by kernel_rfl)
theorem stWide : (match Tryd.prog.underlying 89 with | some (.array _ _) | some (.struct _) => true | _ => false) = true := by kernel_rfl
set_option maxRecDepth 100000 in
theorem stLaw : Keyed Tryd.prog 89 := Keyed.of_law (deep_law_laid laid (m := 3) (by omega) stRow (by kernel_rfl) stWide)

theorem lits_int (d : Nat) (n : Nat) (h : n < 1000000000) : Tryd.prog.keyLits (d + 1) 3 [.int .i64 n] = some [.int .i64 n] := by
  have hw : (Lit.int .i64 (n : Int)).wf = true := WalkArith.wf_i64 ⟨by omega, by omega⟩
  unfold Program.keyLits
  rw [Tryd.underlying3]
  simp [hw]
theorem lits_arr (d : Nat) (c : Nat → Nat) (h : ∀ k, c k < 1000000000) : Tryd.prog.keyLits (d + 1 + 1) 87 ((List.range 12).map fun k => .int .i64 (c k)) = some ((List.range 12).map fun k => .int .i64 (c k)) := by
  have hl := fun k => lits_int d (c k) (h k)
  have hc : Tryd.prog.cellsOf 87 = 12 := by kernel_rfl
  have hi : Tryd.prog.cellsOf 3 = 1 := by kernel_rfl
  unfold Program.keyLits
  rw [Tryd.underlying87]
  simp [hc, hi, hl, List.range_succ, List.range_zero]

theorem stKey (n m : Nat) (c : Nat → Nat) (hn : n < 1000000000) (hm : m < 1000000000) (h : ∀ k, c k < 1000000000) : ∃ kl, keyOf Tryd.prog 89 (.agg (stA n m c)) = some kl := by
  obtain ⟨D, hD⟩ : ∃ D, Tryd.prog.types.size + 1 = D + 1 + 1 + 1 := ⟨Tryd.prog.types.size - 2, by have : 2 ≤ Tryd.prog.types.size := of_decide_eq_true (by kernel_rfl); omega⟩
  have h1 := lits_int (D + 1) n hn
  have h2 := lits_int (D + 1) m hm
  have h3 := lits_arr D c h
  have hc : Tryd.prog.cellsOf 87 = 12 := by kernel_rfl
  have hi : Tryd.prog.cellsOf 3 = 1 := by kernel_rfl
  have hs : Tryd.prog.cellsOf 89 = 14 := by kernel_rfl
  have hf : (Value.agg (stA n m c)).formed Tryd.prog 89 = true := by
    simp [Value.formed, Tryd.underlying89, hs, stA]
  have hk : Tryd.prog.keyType 89 = true := by kernel_rfl
  have hL : ∃ ls, Tryd.prog.keyLits (D + 1 + 1 + 1) 89 (stA n m c).toList = some ls := by
    unfold Program.keyLits
    rw [Tryd.underlying89]
    simp only [List.range_succ, List.range_zero, List.map_append, List.map_cons, List.map_nil, List.nil_append, List.cons_append] at h3
    simp [hc, hi, hs, stA, h1, h2, h3]
  obtain ⟨ls, hL⟩ := hL
  refine ⟨.string (keyBytes ls), ?_⟩
  unfold keyOf
  rw [Tryd.underlying89]
  simp only [hk, hf, Bool.and_self, if_true, hD]
  rw [show (Value.agg (stA n m c)).cells.toList = (stA n m c).toList from rfl, hL]
  rfl

/-- How an element reads: as itself. -/
def heldR (v : Value) : Option (DataW Value × List MemPlace) := some (.held v, [])
/-- Block b is a map of at most n entries: what it says of each state. -/
def SMap (w : World) (b n : Nat) (f : Value → Option Value) : Prop :=
  ∃ D : DataW Value, w.ownsMap Tryd.prog 89 heldR b n D ∧
    ∀ v kl, keyOf Tryd.prog 89 v = some kl → Maps.has D kl = (f v).isSome ∧ ∀ z, D.atKey kl (.held z) = .held ((f v).getD z)
theorem SMap.lt {w : World} {b n : Nat} {f : Value → Option Value} (h : SMap w b n f) : b < w.heap.size := by obtain ⟨D, h, _⟩ := h; exact h.lt
theorem SMap.mono {w : World} {b n m : Nat} {f : Value → Option Value} (h : SMap w b n f) (hm : n ≤ m) : SMap w b m f := by obtain ⟨D, h, r⟩ := h; exact ⟨D, h.mono hm, r⟩
theorem SMap.made (w : World) : SMap (w.alloc (.map #[] 0)) w.heap.size 0 (fun _ => none) :=
  ⟨.map [], World.ownsMap_made _ _ _ _, fun _ _ _ => ⟨rfl, fun _ => rfl⟩⟩
theorem SMap.block {w w' : World} {b n : Nat} {f : Value → Option Value} (h : SMap w b n f) (hb : w'.heap[b]? = w.heap[b]?) : SMap w' b n f := by
  obtain ⟨D, ⟨es, clock, h1, h2⟩, r⟩ := h; exact ⟨D, ⟨es, clock, hb.trans h1, h2⟩, r⟩
theorem SMap.look_ok {w : World} {b n : Nat} {f : Value → Option Value} (h : SMap w b n f) {t e : TypeId} (ht : Tryd.prog.underlying t = some (.map 89 e)) {z : Value} (hz : (zeroValue e).run Tryd.prog w = .ok z w)
    {v : Value} {kl : Lit} (hk : keyOf Tryd.prog 89 v = some kl) :
    (Instr.lookup t (.map (some b)) v true).run Tryd.prog w = .ok (.tuple #[(f v).getD z, .bool (f v).isSome]) w := by
  obtain ⟨D, hown, r⟩ := h
  obtain ⟨x, ps, hrun, hR⟩ := hown.look_ok stLaw ht hz (zd := .held z) (zp := []) rfl hk
  obtain ⟨h1, h2⟩ := r v kl hk
  unfold heldR at hR
  simp only [Option.some.injEq, Prod.mk.injEq] at hR
  rw [h2] at hR
  have hx : x = (f v).getD z := by have := hR.1; injection this
  rw [hrun, h1, hx]
theorem SMap.put {w : World} {b n : Nat} {f : Value → Option Value} (h : SMap w b n f) {t e : TypeId} (ht : Tryd.prog.underlying t = some (.map 89 e)) {s : Value} {kl : Lit} (hk : keyOf Tryd.prog 89 s = some kl) (v : Value) (hn : n < 4611686018427387904) :
    ∃ w', (Instr.mapUpdate t (.map (some b)) s v).run Tryd.prog w = .ok () w' ∧ (∃ g, (∀ x, x ≠ s → g x = f x) ∧ g s = some v ∧ SMap w' b (n + 1) g) ∧ w.grownBy w' (some b) := by
  obtain ⟨D, hown, r⟩ := h
  have hD := hown.isMap
  obtain ⟨w', hrun, hown', hg⟩ := hown.update stLaw ht (by unfold maxLen; omega) hk (d := .held v) (ps := []) rfl
  classical
  refine ⟨w', hrun, ⟨fun x => if x = s then some v else f x, fun x hx => if_neg hx, if_pos rfl, _, hown', fun x kx hkx => ?_⟩, hg⟩
  dsimp only
  by_cases hx : x = s
  · subst hx
    obtain rfl : kx = kl := Option.some.inj (hkx.symm.trans hk)
    rw [if_pos rfl]
    exact ⟨has_put_same hD (stLaw.key hk) _, fun z => atKey_put_same hD (stLaw.key hk) _ _⟩
  · rw [if_neg hx]
    have hne : kx ≠ kl := fun e => hx (stLaw.inj (e ▸ hkx) hk)
    exact ⟨(has_put_other hne _).trans (r x kx hkx).1, fun z => (atKey_put_other hne _ _).trans ((r x kx hkx).2 z)⟩

end Go.Proofs.YtebigkjilklodaaDoor

/- What a call leaves as it was: everything outside a set of blocks. -/
namespace Go.Proofs.YtebigkjilklodaaDoor
open Go.RowKit

/-- Outside of S nothing that was there has changed. -/
structure Keeps (S : Nat → Prop) (w w' : World) : Prop where
  os : w'.os = w.os
  tape : w'.tape = w.tape
  output : w'.output = w.output
  size : w.heap.size ≤ w'.heap.size
  block : ∀ k, k < w.heap.size → ¬ S k → w'.heap[k]? = w.heap[k]?
theorem Keeps.refl (S : Nat → Prop) (w : World) : Keeps S w w := ⟨rfl, rfl, rfl, Nat.le_refl _, fun _ _ _ => rfl⟩
theorem Keeps.of_below {S : Nat → Prop} {w w' : World} (h : Below w.heap.size w w') : Keeps S w w' := ⟨h.os, h.tape, h.output, h.size, fun k hk _ => h.block k hk⟩
theorem Keeps.trans {S : Nat → Prop} {a b c : World} (h : Keeps S a b) (k : Keeps S b c) : Keeps S a c :=
  ⟨k.os.trans h.os, k.tape.trans h.tape, k.output.trans h.output, Nat.le_trans h.size k.size, fun i hi hn => (k.block i (Nat.lt_of_lt_of_le hi h.size) hn).trans (h.block i hi hn)⟩
theorem Keeps.weaken {S T : Nat → Prop} {w w' : World} (h : Keeps S w w') (hST : ∀ k, k < w.heap.size → S k → T k) : Keeps T w w' :=
  ⟨h.os, h.tape, h.output, h.size, fun k hk hn => h.block k hk fun hs => hn (hST k hk hs)⟩
theorem Keeps.below {B : Nat} {S : Nat → Prop} {w w' : World} (h : Keeps S w w') (hB : B ≤ w.heap.size) (hS : ∀ k, S k → B ≤ k) : Below B w w' :=
  ⟨h.os, h.tape, h.output, h.size, fun k hk => h.block k (by omega) fun hs => by have := hS k hs; omega⟩
theorem Keeps.grown {S : Nat → Prop} {a w w' : World} {row : Option Nat} (h : Keeps S a w) (hg : w.grownBy w' row) (hr : ∀ k, row = some k → k < a.heap.size → S k) : Keeps S a w' :=
  ⟨hg.os.trans h.os, hg.tape.trans h.tape, hg.output.trans h.output, Nat.le_trans h.size hg.size, fun k hk hn =>
    (hg.block k (Nat.lt_of_lt_of_le hk h.size) (fun e => hn (hr k e.symm hk))).trans (h.block k hk hn)⟩
/-- After a step that turns only blocks that are new since a, or are in S. -/
theorem Keeps.then {S T : Nat → Prop} {a b c : World} (h : Keeps S a b) (k : Keeps T b c) (hT : ∀ i, i < a.heap.size → T i → S i) : Keeps S a c :=
  ⟨k.os.trans h.os, k.tape.trans h.tape, k.output.trans h.output, Nat.le_trans h.size k.size, fun i hi hn => (k.block i (Nat.lt_of_lt_of_le hi h.size) (fun ht => hn (hT i hi ht))).trans (h.block i hi hn)⟩
theorem Keeps.setCell {S : Nat → Prop} {a w : World} (h : Keeps S a w) {p : Addr} (hp : p.block < a.heap.size → S p.block) (u : Value) : Keeps S a (w.setCell p u) :=
  h.then (T := fun k => k = p.block) ⟨rfl, rfl, rfl, by simp [World.setCell], fun k _ hk => Below.heap_setCell _ _ _ _ hk⟩ (fun i hi e => e ▸ hp (e ▸ hi))
theorem Keeps.alloc {S : Nat → Prop} {a w : World} (h : Keeps S a w) (o : Obj) : Keeps S a (w.alloc o) := h.trans (.of_below ((Below.refl _ _).alloc (Nat.le_refl _) o))
theorem Keeps.drew {S : Nat → Prop} {a w : World} (h : Keeps S a w) : Keeps S a w.drew := h.trans (.of_below (Below.refl _ _).drew)
theorem Keeps.belowS {S : Nat → Prop} {a w w' : World} (h : Keeps S a w) (hb : Below w.heap.size w w') : Keeps S a w' := h.trans (.of_below hb)
theorem Keeps.cell {S : Nat → Prop} {w w' : World} (h : Keeps S w w') {p : Addr} (hp : p.block < w.heap.size) (hn : ¬ S p.block) : w'.cell? p = w.cell? p := World.cell?_of_block (w := w) (h.block p.block hp hn)
theorem Keeps.frozen {S : Nat → Prop} {w w' : World} (h : Keeps S w w') {p : Addr} (hp : p.block < w.heap.size) (hn : ¬ S p.block) : w'.frozen? p = w.frozen? p := World.frozen?_of_block (w := w) (h.block p.block hp hn)
theorem Keeps.to_grown {b : Nat} {w w' : World} (h : Keeps (· = b) w w') : w.grownBy w' (some b) := ⟨h.os, h.tape, h.output, h.size, fun k hk hn => h.block k hk (fun e => hn (by rw [e]))⟩
theorem Keeps.of_grown {b : Nat} {w w' : World} (h : w.grownBy w' (some b)) : Keeps (· = b) w w' := ⟨h.os, h.tape, h.output, h.size, fun k hk hn => h.block k hk (fun e => hn (Option.some.inj e))⟩
/-- No block is turned. -/
theorem Keeps.none {w w' : World} (h : Keeps (fun _ => False) w w') : Below w.heap.size w w' := ⟨h.os, h.tape, h.output, h.size, fun k hk => h.block k hk id⟩

/-- Facts below B, where nothing below B may turn. -/
theorem Keeps.belowB {B : Nat} {S : Nat → Prop} {w w' : World} (h : Keeps S w w') (hB : B ≤ w.heap.size) (hS : ∀ k, k < B → ¬ S k) : Below B w w' :=
  ⟨h.os, h.tape, h.output, h.size, fun k hk => h.block k (by omega) (hS k hk)⟩

/-- The sets of entrants below i. -/
def pre : Nat → List (List Nat)
  | 0 => [[]]
  | i + 1 => (pre i).map (· ++ [i]) ++ pre i
theorem pre_length (i : Nat) : (pre i).length = 2 ^ i := by
  induction i with
  | zero => rfl
  | succ i ih => rw [pre, List.length_append, List.length_map, ih, Nat.pow_succ]; omega
theorem pre_few {i : Nat} : ∀ {x : List Nat}, x ∈ pre i → x.length ≤ i := by
  induction i with
  | zero => intro x hx; simp [pre] at hx; simp [hx]
  | succ i ih =>
    intro x hx
    rw [pre, List.mem_append, List.mem_map] at hx
    rcases hx with ⟨y, hy, rfl⟩ | hx
    · have := ih hy; simp; omega
    · have := ih hx; omega
theorem pre_yes {i : Nat} {x : List Nat} (h : x ∈ pre i) : x ++ [i] ∈ pre (i + 1) := List.mem_append_left _ (List.mem_map.2 ⟨x, h, rfl⟩)
theorem pre_no {i : Nat} {x : List Nat} (h : x ∈ pre i) : x ∈ pre (i + 1) := List.mem_append_right _ h
/-- A state's counts. -/
def PD.cn (d : PD) (x : List Nat) : Nat → Nat := fun k => d.cnt k x
theorem PD.cn_le (d : PD) (x : List Nat) (k : Nat) : d.cn x k ≤ x.length := List.countP_le_length
theorem PD.up_cn (d : PD) (i : Nat) (x : List Nat) : d.up i (d.cn x) = d.cn (x ++ [i]) := by
  funext k
  unfold PD.up PD.cn PD.cnt
  rw [List.countP_append, List.countP_cons, List.countP_nil]; omega
theorem PD.cn_nil (d : PD) : d.cn [] = fun _ => 0 := rfl
/-- What a state leads to. -/
def PD.go (d : PD) (n i : Nat) (x : List Nat) : List (List Nat) := d.comp i x.length (d.cn x) (n - i)
theorem PD.go_end (d : PD) (n : Nat) (x : List Nat) : d.go n n x = if d.fits x.length (d.cn x) [] then [[]] else [] := by
  unfold PD.go; rw [Nat.sub_self]; rfl
theorem PD.go_step (d : PD) {n i : Nat} (h : i < n) (x : List Nat) :
    d.go n i x = (if d.may i x.length (d.cn x) then (d.go n (i + 1) (x ++ [i])).map (i :: ·) else []) ++ d.go n (i + 1) x := by
  unfold PD.go
  have e : (x ++ [i]).length = x.length + 1 := by simp
  rw [show n - i = (n - (i + 1)) + 1 by omega, e, ← d.up_cn]
  rfl
theorem PD.go_few (d : PD) {n i : Nat} {x : List Nat} (h : ((x.length + (n - i) : Nat) : Int) < d.size) : d.go n i x = [] := d.comp_few h
theorem PD.go_all (d : PD) (n : Nat) : d.go n 0 [] = d.all n := rfl
theorem PD.comp_length (d : PD) (r : Nat) : ∀ i mem c, (d.comp i mem c r).length ≤ 2 ^ r := by
  induction r with
  | zero => intro i mem c; unfold PD.comp; split <;> simp
  | succ r ih =>
    intro i mem c
    unfold PD.comp
    rw [List.length_append, Nat.pow_succ]
    have h1 := ih (i + 1) mem c
    split
    · have h2 := ih (i + 1) (mem + 1) (d.up i c); rw [List.length_map]; omega
    · simp; omega
theorem PD.go_length (d : PD) (n i : Nat) (x : List Nat) : (d.go n i x).length ≤ 2 ^ n :=
  Nat.le_trans (d.comp_length _ _ _ _) (Nat.pow_le_pow_right (by omega) (by omega))
/-- A state as a key. -/
def PD.st (d : PD) (i : Nat) (x : List Nat) : Value := .agg (stA i x.length (d.cn x))
theorem PD.st_go (d : PD) {n i j : Nat} {x y : List Nat} (hm : d.m ≤ 12) (h : d.st i x = d.st j y) : i = j ∧ x.length = y.length ∧ (∀ k, k < 12 → d.cn x k = d.cn y k) := by
  unfold PD.st stA at h
  simp only [Value.agg.injEq, Array.mk.injEq, List.cons.injEq, Value.int.injEq, Int.ofNat_inj, Int.natCast_inj, true_and, and_true] at h
  obtain ⟨h1, h2, h3⟩ := h
  refine ⟨h1, h2, fun k hk => ?_⟩
  obtain ⟨c0, c1, c2, c3, c4, c5, c6, c7, c8, c9, c10, c11⟩ := h3
  match k, hk with
  | 0, _ => exact c0 | 1, _ => exact c1 | 2, _ => exact c2 | 3, _ => exact c3 | 4, _ => exact c4 | 5, _ => exact c5 | 6, _ => exact c6 | 7, _ => exact c7 | 8, _ => exact c8 | 9, _ => exact c9 | 10, _ => exact c10 | 11, _ => exact c11
/-- Sets with the same counts lead to the same. -/
theorem PD.cn_eq (d : PD) {x y : List Nat} (hm : d.m ≤ 12) (hb : ∀ i k, d.m ≤ k → d.row i k = false) (h : ∀ k, k < 12 → d.cn x k = d.cn y k) : d.cn x = d.cn y := by
  funext k
  by_cases hk : k < 12
  · exact h k hk
  · unfold PD.cn PD.cnt
    have : ∀ z : List Nat, z.countP (d.row · k) = 0 := fun z => by
      rw [List.countP_eq_zero]
      intro i _
      rw [hb i k (by omega)]; simp
    rw [this, this]
theorem PD.st_same (d : PD) {n i j : Nat} {x y : List Nat} (hm : d.m ≤ 12) (hb : ∀ i k, d.m ≤ k → d.row i k = false) (h : d.st i x = d.st j y) : d.go n i x = d.go n j y := by
  obtain ⟨rfl, h2, h3⟩ := d.st_go (n := n) hm h
  unfold PD.go
  rw [h2, d.cn_eq hm hb h3]
/-- All states. -/
def PD.sts (d : PD) : Nat → List Value
  | 0 => []
  | n + 1 => (pre n).map (d.st n) ++ d.sts n
theorem PD.sts_length (d : PD) (n : Nat) : (d.sts n).length < 2 ^ n := by
  induction n with
  | zero => simp [PD.sts]
  | succ n ih => rw [PD.sts, List.length_append, List.length_map, pre_length, Nat.pow_succ]; omega
theorem PD.sts_mem (d : PD) {n i : Nat} (hi : i < n) {x : List Nat} (hx : x ∈ pre i) : d.st i x ∈ d.sts n := by
  induction n with
  | zero => omega
  | succ n ih =>
    rw [PD.sts, List.mem_append]
    by_cases e : i = n
    · subst e; exact .inl (List.mem_map.2 ⟨x, hx, rfl⟩)
    · exact .inr (ih (by omega))
/-- One more of a list is there. -/
theorem countP_put {U : List Value} {f g : Value → Option Value} {s v : Value} (hs : s ∈ U) (h0 : f s = none) (h1 : ∀ x, x ≠ s → g x = f x) (h2 : g s = some v) :
    U.countP (fun x => (f x).isSome) + 1 ≤ U.countP (fun x => (g x).isSome) := by
  induction U with
  | nil => simp at hs
  | cons a U ih =>
    rw [List.countP_cons, List.countP_cons]
    by_cases e : a = s
    · subst e
      have : U.countP (fun x => (f x).isSome) ≤ U.countP (fun x => (g x).isSome) := by
        apply List.countP_mono_left
        intro x _ hx
        by_cases e2 : x = a
        · rw [e2, h2]; rfl
        · rw [h1 x e2]; exact hx
      rw [h0, h2]; simp; omega
    · have hs' : s ∈ U := by
        rcases List.mem_cons.1 hs with h | h
        · exact absurd h.symm e
        · exact h
      have := ih hs'
      rw [h1 a e]; omega

end Go.Proofs.YtebigkjilklodaaDoor

/- When a list of numbers is a feasible panel. No program in sight. -/
namespace Go.Proofs.YtebigkjilklodaaDoor

def intsOf (x : List Nat) : List Int := x.map Int.ofNat
theorem intsOf_inj {x y : List Nat} (h : intsOf x = intsOf y) : x = y := by
  induction x generalizing y with
  | nil => cases y with
    | nil => rfl
    | cons _ _ => cases h
  | cons a x ih =>
    cases y with
    | nil => cases h
    | cons b y =>
      simp only [intsOf, List.map_cons, List.cons.injEq, Int.ofNat_eq_natCast, Int.natCast_inj] at h
      rw [h.1, ih (by simpa [intsOf] using h.2)]
/-- Is a list one of some panels? -/
def isPan (ps : List (List Nat)) (l : List Int) : Bool := ps.any fun x => decide (l = intsOf x)
theorem isPan_iff {ps : List (List Nat)} {l : List Int} : isPan ps l = true ↔ ∃ x ∈ ps, l = intsOf x := by
  unfold isPan; rw [List.any_eq_true]
  exact ⟨fun ⟨x, h1, h2⟩ => ⟨x, h1, of_decide_eq_true h2⟩, fun ⟨x, h1, h2⟩ => ⟨x, h1, decide_eq_true h2⟩⟩
theorem isPan_false {ps : List (List Nat)} {l : List Int} (h : ∀ x ∈ ps, l ≠ intsOf x) : isPan ps l = false := by
  cases hp : isPan ps l
  · rfl
  · obtain ⟨x, h1, h2⟩ := isPan_iff.1 hp
    exact absurd h2 (h x h1)
theorem intsOf_length (x : List Nat) : (intsOf x).length = x.length := by simp [intsOf]
theorem intsOf_get {x : List Nat} {k : Nat} {a : Int} (h : (intsOf x)[k]? = some a) : ∃ i : Nat, x[k]? = some i ∧ a = i := by
  unfold intsOf at h
  rw [List.getElem?_map] at h
  cases hx : x[k]? with
  | none => rw [hx] at h; cases h
  | some i => rw [hx] at h; exact ⟨i, rfl, (Option.some.inj h).symm⟩
theorem PD.fits_split (d : PD) (z : List Nat) : ∀ y : List Nat, d.feas (y ++ z) = d.fits y.length (d.cn y) z := by
  have h : ∀ (w y : List Nat), d.fits y.length (d.cn y) (w ++ z) = d.fits (y ++ w).length (d.cn (y ++ w)) z := by
    intro w
    induction w with
    | nil => intro y; rw [List.append_nil, List.nil_append]
    | cons i w ih =>
      intro y
      rw [List.cons_append, d.fits_cons, d.up_cn]
      have e : y.length + 1 = (y ++ [i]).length := by simp
      rw [e, ih (y ++ [i])]
      simp
  intro y
  have := h y []
  rw [List.nil_append, List.length_nil, d.cn_nil] at this
  exact this
theorem PD.feas_end (d : PD) (y : List Nat) : d.feas y = d.fits y.length (d.cn y) [] := by
  have := d.fits_split [] y
  rwa [List.append_nil] at this
theorem PD.not_len (d : PD) {n : Nat} {l : List Int} (h : (l.length : Int) ≠ d.size) : isPan (d.all n) l = false := by
  apply isPan_false
  rintro x hx rfl
  have := d.feas_length (d.all_mem.1 hx).2.2
  rw [intsOf_length] at h
  exact h this
theorem PD.not_range (d : PD) {n : Nat} {l : List Int} {k : Nat} {a : Int} (hk : l[k]? = some a) (h : a < 0 ∨ (n : Int) ≤ a) : isPan (d.all n) l = false := by
  apply isPan_false
  rintro x hx rfl
  obtain ⟨i, h1, rfl⟩ := intsOf_get hk
  have := (d.all_mem.1 hx).2.1 i (List.mem_of_getElem? h1)
  omega
theorem PD.not_order (d : PD) {n : Nat} {l : List Int} {k : Nat} {a b : Int} (hk : l[k]? = some b) (hk1 : l[k - 1]? = some a) (h0 : 0 < k) (h : b ≤ a) : isPan (d.all n) l = false := by
  apply isPan_false
  rintro x hx rfl
  obtain ⟨i, h1, rfl⟩ := intsOf_get hk
  obtain ⟨j, h2, rfl⟩ := intsOf_get hk1
  have hp := (d.all_mem.1 hx).1
  rw [List.pairwise_iff_getElem] at hp
  obtain ⟨l1, e1⟩ := List.getElem?_eq_some_iff.1 h1
  obtain ⟨l2, e2⟩ := List.getElem?_eq_some_iff.1 h2
  have := hp (k - 1) k l2 l1 (by omega)
  rw [e1, e2] at this
  omega
theorem PD.not_may (d : PD) {n i : Nat} {l : List Int} {y : List Nat} (hy : l.take y.length = intsOf y) (hi : l[y.length]? = some (i : Int)) (h : d.may i y.length (d.cn y) = false) : isPan (d.all n) l = false := by
  apply isPan_false
  rintro x hx rfl
  obtain ⟨j, h1, h2⟩ := intsOf_get hi
  obtain rfl : i = j := by omega
  have hf := (d.all_mem.1 hx).2.2
  have h3 : x.take y.length = y := by
    apply intsOf_inj
    rw [← hy]
    simp [intsOf]
  obtain ⟨l1, e1⟩ := List.getElem?_eq_some_iff.1 h1
  have h4 : x = y ++ i :: x.drop (y.length + 1) := by
    have e := List.take_append_drop y.length x
    rw [h3, List.drop_eq_getElem_cons l1, e1] at e
    exact e.symm
  rw [h4, d.fits_split, d.fits_may h] at hf
  cases hf
/-- Members so far. -/
def Mem (n : Nat) (y : List Nat) : Prop := y.Pairwise (· < ·) ∧ ∀ j ∈ y, j < n
theorem Mem.nil (n : Nat) : Mem n [] := ⟨List.Pairwise.nil, by simp⟩
theorem Mem.snoc {n i : Nat} {y : List Nat} (h : Mem n y) (hi : i < n) (hl : ∀ j, y[y.length - 1]? = some j → j < i) : Mem n (y ++ [i]) := by
  refine ⟨List.pairwise_append.2 ⟨h.1, by simp, fun a ha b hb => ?_⟩, fun j hj => ?_⟩
  · simp only [List.mem_singleton] at hb
    subst hb
    obtain ⟨k, hk, rfl⟩ := List.mem_iff_getElem.1 ha
    have h2 := hl (y[y.length - 1]'(by omega)) (List.getElem?_eq_getElem _)
    by_cases e : k = y.length - 1
    · subst e; exact h2
    · have h3 := List.pairwise_iff_getElem.1 h.1 k (y.length - 1) hk (by omega) (by omega)
      omega
  · rcases List.mem_append.1 hj with hj | hj
    · exact h.2 j hj
    · simp only [List.mem_singleton] at hj; omega
theorem PD.is_end (d : PD) {n : Nat} {y : List Nat} (h : Mem n y) : isPan (d.all n) (intsOf y) = d.fits y.length (d.cn y) [] := by
  rw [← d.feas_end]
  cases hf : d.feas y
  · apply isPan_false
    intro x hx e
    have := (d.all_mem.1 hx).2.2
    rw [← intsOf_inj e, hf] at this
    cases this
  · exact isPan_iff.2 ⟨y, d.all_mem.2 ⟨h.1, h.2, hf⟩, rfl⟩

end Go.Proofs.YtebigkjilklodaaDoor

/- An owned row of one-cell elements, its block named; rows of digits to the base 2^32 in memory. -/
import Derived.BigRegion
import Derived.Deep.RegionWith
import Derived.Deep.DeepCutAuto
import Derived.Deep.AppendLies
import Derived.Deep.RegionLaw
import Derived.Test.YtebigkjilklodaaDoorRows
import Derived.Test.YtebigkjilklodaaDoorData
import Derived.Test.YtebigkjilklodaaDoorLaws
set_option linter.unusedVariables false
set_option linter.unusedSimpArgs false
namespace Go.Proofs.YtebigkjilklodaaDoor
open Go.RowKit

def OwnL (e : TypeId) (w : World) (B g cap : Nat) (xs : List Value) : Prop := w.ownsRow B e 1 (.slice (some ⟨g, 0, none⟩) xs.length cap) xs.length xs
theorem OwnL.lt {e : TypeId} {w : World} {B g cap : Nat} {xs : List Value} (h : OwnL e w B g cap xs) : B ≤ g ∧ g < w.heap.size := World.ownsRow.lt h g rfl
theorem OwnL.cell {e : TypeId} {w : World} {B g cap : Nat} {xs : List Value} (h : OwnL e w B g cap xs) {j : Nat} {u : Value} (hj : xs[j]? = some u) : w.cell? ⟨g, j, none⟩ = some u := by
  have hl : j < xs.length := (List.getElem?_eq_some_iff.1 hj).1
  rw [World.ownsRow.cellAt h j (by omega), hj]
theorem OwnL.free {e : TypeId} {w : World} {B g cap : Nat} {xs : List Value} (h : OwnL e w B g cap xs) (j : Nat) : w.frozen? ⟨g, j, none⟩ = false := World.ownsRow.frozenAt h j
theorem OwnL.set {e : TypeId} {w : World} {B g cap : Nat} {xs : List Value} (h : OwnL e w B g cap xs) (j : Nat) (u : Value) : OwnL e (w.setCell ⟨g, j, none⟩ u) B g cap (xs.set j u) := by
  have := (World.ownsRow.stored h j u).1
  unfold OwnL
  rw [List.length_set]
  exact this
theorem OwnL.drewN {e : TypeId} {w : World} {B g cap : Nat} {xs : List Value} (h : OwnL e w B g cap xs) (n : Nat) : OwnL e (w.drewN n) B g cap xs := h
theorem OwnL.drew {e : TypeId} {w : World} {B g cap : Nat} {xs : List Value} (h : OwnL e w B g cap xs) : OwnL e w.drew B g cap xs := h
theorem OwnL.Drew {e : TypeId} {w w' : World} {B g cap : Nat} {xs : List Value} (h : OwnL e w B g cap xs) (k : Drew w w') : OwnL e w' B g cap xs := by
  obtain ⟨n, rfl⟩ := k; exact h
theorem OwnL.block {e : TypeId} {w w' : World} {B g cap : Nat} {xs : List Value} (h : OwnL e w B g cap xs) (hb : w'.heap[g]? = w.heap[g]?) : OwnL e w' B g cap xs := by
  refine ⟨h.1, ?_⟩
  rcases h.2 with h3 | ⟨g', cap', cur, h3, h4, h5, h6⟩
  · exact .inl h3
  · simp only [Value.slice.injEq, Option.some.injEq, Addr.mk.injEq, and_true, true_and] at h3
    obtain ⟨rfl, rfl⟩ := h3
    exact .inr ⟨g, cap, cur, rfl, h4, hb.trans h5, h6⟩
theorem OwnL.later {e : TypeId} {w w' : World} {B C g cap : Nat} {xs : List Value} (h : OwnL e w B g cap xs) (hb : Below C w w') (hg : g < C) : OwnL e w' B g cap xs := h.block (hb.block g hg)
theorem OwnL.other {e : TypeId} {w : World} {B g cap : Nat} {xs : List Value} (h : OwnL e w B g cap xs) (a : Addr) (u : Value) (hg : g ≠ a.block) : OwnL e (w.setCell a u) B g cap xs := h.block (heap_setCell_other w a g u hg)
theorem OwnL.base {e : TypeId} {w : World} {B C g cap : Nat} {xs : List Value} (h : OwnL e w B g cap xs) (hC : C ≤ B) : OwnL e w C g cap xs := by
  refine ⟨h.1, ?_⟩
  rcases h.2 with h3 | ⟨g', cap', cur, h3, h4, h5, h6⟩
  · exact .inl h3
  · exact .inr ⟨g', cap', cur, h3, by omega, h5, h6⟩
theorem OwnL.le_cap {e : TypeId} {w : World} {B g cap : Nat} {xs : List Value} (h : OwnL e w B g cap xs) : xs.length ≤ cap := by
  rcases h.2 with ⟨h3, _⟩ | ⟨g', cap', cur, h3, h4, h5, h6, _⟩
  · cases h3
  · simp only [Value.slice.injEq, Option.some.injEq, Addr.mk.injEq, and_true, true_and] at h3
    omega
/-- What 'make' leaves. -/
theorem OwnL.made {e : TypeId} {w : World} {B g n : Nat} {z : Value} (h : w.ownsRow B e 1 (.slice (some ⟨g, 0, none⟩) n n) n (madeCells #[z] n).toList) : OwnL e w B g n (List.replicate n z) := by
  have e1 : (madeCells #[z] n).toList = List.replicate n z := by
    simp [madeCells, Nat.mod_one, List.map_const']
  rw [e1] at h
  unfold OwnL
  rw [List.length_replicate]
  exact h

/-- Digits as values. -/
def u32s (l : List Nat) : List Value := l.map fun d : Nat => Value.int .u32 (d : Int)
theorem u32s_length (l : List Nat) : (u32s l).length = l.length := by simp [u32s]
theorem u32s_get (l : List Nat) (j : Nat) (h : j < l.length) : (u32s l)[j]? = some (.int .u32 ((l[j]?.getD 0 : Nat) : Int)) := by
  unfold u32s; rw [List.getElem?_map, List.getElem?_eq_getElem h]; rfl
theorem u32s_set (l : List Nat) (j d : Nat) : (u32s l).set j (.int .u32 (d : Int)) = u32s (l.set j d) := by unfold u32s; rw [List.map_set]
theorem u32s_append (a b : List Nat) : u32s (a ++ b) = u32s a ++ u32s b := by simp [u32s]
theorem u32s_zeros (k : Nat) : u32s (List.replicate k 0) = List.replicate k (.int .u32 0) := by simp [u32s]
theorem u32s_take (l : List Nat) (k : Nat) : u32s (l.take k) = (u32s l).take k := by simp [u32s]

/-- A slice that reads as xs, with room for them. -/
def RowC (B : Nat) (w : World) (v : Value) (xs : List Value) : Prop := ∃ ao cap, v = .slice ao xs.length cap ∧ xs.length ≤ cap ∧ CellsAt B w ao xs
theorem RowC.mono {B B' : Nat} {w w' : World} {v : Value} {xs : List Value} (h : RowC B w v xs) (hb : Below B w w') (hB : B ≤ B') : RowC B' w' v xs := by
  obtain ⟨ao, cap, rfl, hl, hc⟩ := h; exact ⟨ao, cap, rfl, hl, hc.mono hb hB⟩
theorem RowC.nil (B : Nat) (w : World) : RowC B w (.slice none 0 0) [] := ⟨none, 0, rfl, Nat.le_refl _, fun j u h => by simp at h⟩
theorem RowC.of_own {e : TypeId} {w : World} {B g cap : Nat} {xs : List Value} (h : OwnL e w B g cap xs) : RowC w.heap.size w (.slice (some ⟨g, 0, none⟩) xs.length cap) xs :=
  ⟨_, _, rfl, h.le_cap, fun j u hu => ⟨g, 0, rfl, h.lt.2, by rw [Nat.zero_add]; exact h.cell hu⟩⟩
theorem RowC.row {B : Nat} {w : World} {v : Value} {xs : List Value} (h : RowC B w v xs) : RowAt B w v xs.length xs := by
  obtain ⟨ao, cap, rfl, _, hc⟩ := h; exact ⟨ao, cap, rfl, hc⟩
theorem CellsAt.take {B : Nat} {w : World} {ao : Option Addr} {xs : List Value} (h : CellsAt B w ao xs) (k : Nat) : CellsAt B w ao (xs.take k) := by
  intro j u hu
  rw [List.getElem?_take] at hu
  split at hu
  · exact h j u hu
  · cases hu
/-- A slice of digits. -/
def LimbsAt (B : Nat) (w : World) (v : Value) (l : List Nat) : Prop := RowC B w v (u32s l)
theorem LimbsAt.mono {B B' : Nat} {w w' : World} {v : Value} {l : List Nat} (h : LimbsAt B w v l) (hb : Below B w w') (hB : B ≤ B') : LimbsAt B' w' v l := RowC.mono h hb hB
/-- What the walk wants of it. -/
theorem LimbsAt.open {B : Nat} {w : World} {v : Value} {l : List Nat} (h : LimbsAt B w v l) :
    ∃ ao cap, v = .slice ao l.length cap ∧ l.length ≤ cap ∧ ∀ i, i < l.length → ∃ b off, ao = some ⟨b, off, none⟩ ∧ b < B ∧ w.cell? ⟨b, off + i, none⟩ = some (.int .u32 ((l[i]?.getD 0 : Nat) : Int)) := by
  obtain ⟨ao, cap, rfl, hl, hc⟩ := h
  rw [u32s_length] at hl ⊢
  refine ⟨ao, cap, rfl, hl, fun i hi => ?_⟩
  exact hc i _ (u32s_get l i hi)
/-- A number's digits. -/
def NatAt (B : Nat) (w : World) (v : Value) (n : Nat) : Prop := LimbsAt B w v (limbs n)
theorem NatAt.mono {B B' : Nat} {w w' : World} {v : Value} {n : Nat} (h : NatAt B w v n) (hb : Below B w w') (hB : B ≤ B') : NatAt B' w' v n := LimbsAt.mono h hb hB
/-- The first digits. -/
theorem LimbsAt.trimmed {B : Nat} {w : World} {ao : Option Addr} {len cap : Nat} {l : List Nat} (h : LimbsAt B w (.slice ao len cap) l) (hd : Dig l) : NatAt B w (.slice ao (limbs (valL l)).length cap) (valL l) := by
  obtain ⟨ao', cap', e, hl, hc⟩ := h
  simp only [Value.slice.injEq] at e
  obtain ⟨rfl, rfl, rfl⟩ := e
  obtain ⟨h1, h2⟩ := digits_split l hd
  refine ⟨ao, cap, by rw [u32s_length], by rw [u32s_length] at hl ⊢; omega, ?_⟩
  have h3 : u32s (limbs (valL l)) = (u32s l).take (limbs (valL l)).length := by
    rw [← u32s_take]; congr 1
    have h4 : l.take (limbs (valL l)).length = (limbs (valL l) ++ List.replicate (l.length - (limbs (valL l)).length) 0).take (limbs (valL l)).length := by rw [← h2]
    rw [h4]; simp
  rw [h3]
  exact hc.take _

/-- An owned row of digits. -/
theorem LimbsAt.of_own {e : TypeId} {w : World} {B g cap : Nat} {l : List Nat} (h : OwnL e w B g cap (u32s l)) : LimbsAt w.heap.size w (.slice (some ⟨g, 0, none⟩) l.length cap) l := by
  have := RowC.of_own h
  rwa [u32s_length] at this

theorem trim_zero {l : List Nat} (hd : Dig l) {k : Nat} (h1 : (limbs (valL l)).length < k) (h2 : k ≤ l.length) : l[k - 1]?.getD 0 = 0 := by
  have h := (digits_split l hd).2
  have h3 : l[k - 1]? = (limbs (valL l) ++ List.replicate (l.length - (limbs (valL l)).length) 0)[k - 1]? := by rw [← h]
  rw [h3, List.getElem?_append_right (by omega), List.getElem?_replicate]
  split <;> rfl
theorem trim_last {l : List Nat} (hd : Dig l) (h1 : 0 < (limbs (valL l)).length) : l[(limbs (valL l)).length - 1]?.getD 0 ≠ 0 := by
  have h := (digits_split l hd).2
  have h3 : l[(limbs (valL l)).length - 1]? = (limbs (valL l) ++ List.replicate (l.length - (limbs (valL l)).length) 0)[(limbs (valL l)).length - 1]? := by rw [← h]
  rw [h3, List.getElem?_append_left (by omega)]
  refine limbs_at_last (Nat.pos_of_ne_zero fun e => ?_)
  rw [e, limbs_zero] at h1
  simp at h1

set_option maxHeartbeats 400000 in
theorem trim_any (B : Nat) (ao : Option Addr) (cap : Nat) (l : List Nat) (w : World) (h : LimbsAt B w (.slice ao l.length cap) l) (hd : Dig l) (hn : l.length ≤ 4611686018427387904) :
    Calls Tryd.prog 58 #[.slice ao l.length cap] w fun e w' => e = .returned (.slice ao (limbs (valL l)).length cap) ∧ w = w' := by
  obtain ⟨ao', cap', e, hl, hc⟩ := h.open
  simp only [Value.slice.injEq, true_and] at e
  obtain ⟨rfl, rfl⟩ := e
  have hK := (digits_split l hd).1
  have HZ := Lib.hid (fun k (h1 : (limbs (valL l)).length < k) (h2 : k ≤ l.length) => trim_zero hd h1 h2)
  have HT := Lib.hid (fun (h : 0 < (limbs (valL l)).length) => trim_last hd h)
  have HC := Lib.hid hc
  obtain ⟨K, hKe⟩ : ∃ K, K = (limbs (valL l)).length := ⟨_, rfl⟩
  rw [← hKe] at hK HZ HT ⊢
  clear hKe hc hd h
  go_enter Tryd.func58, Tryd.ntmps58
  go_wp2
  go_loopw [0] (fun v wr => ∃ k : Nat, K ≤ k ∧ k ≤ l.length ∧ v = .slice ao k cap ∧ wr = w) (fun v _ => match v with | .slice _ n _ => n | _ => 0)
  case atStart => exact ⟨l.length, hK, Nat.le_refl _, rfl, rfl⟩
  case round =>
    obtain ⟨k, hk1, hk2, rfl, rfl⟩ := hrel
    by_cases hlt : K < k
    · obtain ⟨b, off, rfl, _, hcell⟩ := HC.out (k - 1) (by omega)
      have hz := HZ.out k hlt hk2
      rw [hz] at hcell
      have hpos : (0 : Int) < k := by omega
      go_wp2
      go_roundw
      case rel => exact ⟨k - 1, by omega, by omega, rfl, trivial⟩
      case measure => simp; omega
    · obtain rfl : K = k := by omega
      by_cases h0 : K = 0
      · subst h0
        go_wp2
        go_ret
        exact ⟨rfl, rfl⟩
      · obtain ⟨b, off, rfl, _, hcell⟩ := HC.out (K - 1) (by omega)
        have hz := HT.out (by omega)
        have hpos : (0 : Int) < K := by omega
        obtain ⟨x, hx⟩ : ∃ x, x = l[K - 1]?.getD 0 := ⟨_, rfl⟩
        rw [← hx] at hcell hz
        have hxb : ((x : Int) == 0) = false := by simp; omega
        clear hx hz
        go_wp2
        go_ret
        exact ⟨rfl, rfl⟩

end Go.Proofs.YtebigkjilklodaaDoor

/- Whole structs in memory: written cell by cell, read cell by cell. -/
namespace Go.Proofs.YtebigkjilklodaaDoor
open Go.RowKit

/-- Cells written one after the other. -/
def over (b : Nat) (w : World) (o : Nat) : List Value → World
  | [] => w
  | v :: vs => over b (w.setCell ⟨b, o, none⟩ v) (o + 1) vs
theorem over_heap {b : Nat} {t : TypeId} : ∀ (vs : List Value) (w : World) (o : Nat) (A : Array Value), w.heap[b]? = some (.cells A t (0, 0)) → o + vs.length = A.size →
    (over b w o vs).heap[b]? = some (.cells (A.toList.take o ++ vs).toArray t (0, 0)) := by
  intro vs
  induction vs with
  | nil =>
    intro w o A h ho
    show w.heap[b]? = _
    rw [h, List.append_nil, List.take_of_length_le (by simp at ho ⊢; omega)]
  | cons v vs ih =>
    intro w o A h ho
    rw [List.length_cons] at ho
    have h1 := heap_setCell_same w b o A t v h
    have h2 := ih (w.setCell ⟨b, o, none⟩ v) (o + 1) (A.setIfInBounds o v) h1 (by simp; omega)
    show (over b (w.setCell ⟨b, o, none⟩ v) (o + 1) vs).heap[b]? = _
    rw [h2]
    congr 2
    have e : (A.setIfInBounds o v).toList.take (o + 1) = A.toList.take o ++ [v] := by
      rw [Array.toList_setIfInBounds, List.take_add_one, List.take_set_of_le (Nat.le_refl _), List.getElem?_set_self (by simp; omega)]
      rfl
    rw [e]
    simp
theorem over_below {b B : Nat} {a : World} (hb : B ≤ b) : ∀ (vs : List Value) (w : World) (o : Nat), Below B a w → Below B a (over b w o vs) := by
  intro vs
  induction vs with
  | nil => intro w o h; exact h
  | cons v vs ih => intro w o h; exact ih _ _ (h.setCell (p := ⟨b, o, none⟩) hb _)
theorem over_other {b c : Nat} (hc : c ≠ b) : ∀ (vs : List Value) (w : World) (o : Nat), (over b w o vs).heap[c]? = w.heap[c]? := by
  intro vs
  induction vs with
  | nil => intro w o; rfl
  | cons v vs ih => intro w o; exact (ih _ _).trans (heap_setCell_other _ _ _ _ hc)
/-- All of a block is written. -/
theorem over_all {b : Nat} {t : TypeId} {w : World} {A : Array Value} (h : w.heap[b]? = some (.cells A t (0, 0))) (vs : List Value) (hs : A.size = vs.length) : (over b w 0 vs).heap[b]? = some (.cells vs.toArray t (0, 0)) := by
  have := over_heap vs w 0 A h (by omega)
  simpa using this

/-- The cells of a block of fourteen. -/
theorem cells14 {b : Nat} {t : TypeId} {w : World} {v0 v1 v2 v3 v4 v5 v6 v7 v8 v9 v10 v11 v12 v13 : Value} (h : w.heap[b]? = some (.cells #[v0, v1, v2, v3, v4, v5, v6, v7, v8, v9, v10, v11, v12, v13] t (0, 0))) : w.cell? ⟨b, 0, none⟩ = some v0 ∧ w.cell? ⟨b, 1, none⟩ = some v1 ∧ w.cell? ⟨b, 2, none⟩ = some v2 ∧ w.cell? ⟨b, 3, none⟩ = some v3 ∧ w.cell? ⟨b, 4, none⟩ = some v4 ∧ w.cell? ⟨b, 5, none⟩ = some v5 ∧ w.cell? ⟨b, 6, none⟩ = some v6 ∧ w.cell? ⟨b, 7, none⟩ = some v7 ∧ w.cell? ⟨b, 8, none⟩ = some v8 ∧ w.cell? ⟨b, 9, none⟩ = some v9 ∧ w.cell? ⟨b, 10, none⟩ = some v10 ∧ w.cell? ⟨b, 11, none⟩ = some v11 ∧ w.cell? ⟨b, 12, none⟩ = some v12 ∧ w.cell? ⟨b, 13, none⟩ = some v13 := by
  refine ⟨?_, ?_, ?_, ?_, ?_, ?_, ?_, ?_, ?_, ?_, ?_, ?_, ?_, ?_⟩ <;> (rw [cell_of_row w b _ _ _ _ h]; rfl)
theorem frozen14 {b : Nat} {t : TypeId} {w : World} {A : Array Value} (h : w.heap[b]? = some (.cells A t (0, 0))) : w.frozen? ⟨b, 0, none⟩ = false ∧ w.frozen? ⟨b, 1, none⟩ = false ∧ w.frozen? ⟨b, 2, none⟩ = false ∧ w.frozen? ⟨b, 3, none⟩ = false ∧ w.frozen? ⟨b, 4, none⟩ = false ∧ w.frozen? ⟨b, 5, none⟩ = false ∧ w.frozen? ⟨b, 6, none⟩ = false ∧ w.frozen? ⟨b, 7, none⟩ = false ∧ w.frozen? ⟨b, 8, none⟩ = false ∧ w.frozen? ⟨b, 9, none⟩ = false ∧ w.frozen? ⟨b, 10, none⟩ = false ∧ w.frozen? ⟨b, 11, none⟩ = false ∧ w.frozen? ⟨b, 12, none⟩ = false ∧ w.frozen? ⟨b, 13, none⟩ = false :=
  ⟨frozen_of_row w b 0 _ _ h, frozen_of_row w b 1 _ _ h, frozen_of_row w b 2 _ _ h, frozen_of_row w b 3 _ _ h, frozen_of_row w b 4 _ _ h, frozen_of_row w b 5 _ _ h, frozen_of_row w b 6 _ _ h, frozen_of_row w b 7 _ _ h, frozen_of_row w b 8 _ _ h, frozen_of_row w b 9 _ _ h, frozen_of_row w b 10 _ _ h, frozen_of_row w b 11 _ _ h, frozen_of_row w b 12 _ _ h, frozen_of_row w b 13 _ _ h⟩
theorem cells13 {b : Nat} {t : TypeId} {w : World} {v0 v1 v2 v3 v4 v5 v6 v7 v8 v9 v10 v11 v12 : Value} (h : w.heap[b]? = some (.cells #[v0, v1, v2, v3, v4, v5, v6, v7, v8, v9, v10, v11, v12] t (0, 0))) : w.cell? ⟨b, 0, none⟩ = some v0 ∧ w.cell? ⟨b, 1, none⟩ = some v1 ∧ w.cell? ⟨b, 2, none⟩ = some v2 ∧ w.cell? ⟨b, 3, none⟩ = some v3 ∧ w.cell? ⟨b, 4, none⟩ = some v4 ∧ w.cell? ⟨b, 5, none⟩ = some v5 ∧ w.cell? ⟨b, 6, none⟩ = some v6 ∧ w.cell? ⟨b, 7, none⟩ = some v7 ∧ w.cell? ⟨b, 8, none⟩ = some v8 ∧ w.cell? ⟨b, 9, none⟩ = some v9 ∧ w.cell? ⟨b, 10, none⟩ = some v10 ∧ w.cell? ⟨b, 11, none⟩ = some v11 ∧ w.cell? ⟨b, 12, none⟩ = some v12 := by
  refine ⟨?_, ?_, ?_, ?_, ?_, ?_, ?_, ?_, ?_, ?_, ?_, ?_, ?_⟩ <;> (rw [cell_of_row w b _ _ _ _ h]; rfl)

/-- What is owned stays owned while only new blocks are laid. -/
theorem ownsRow_below {B : Nat} {e : TypeId} {k : Nat} {v : Value} {n : Nat} {xs : List Value} {w w' : World} (h : w.ownsRow B e k v n xs) (hb : Below w.heap.size w w') : w'.ownsRow B e k v n xs := by
  obtain ⟨h1, h2⟩ := h
  refine ⟨h1, ?_⟩
  rcases h2 with h2 | ⟨g, cap, cur, hv, hg, hh, r⟩
  · exact Or.inl h2
  · exact Or.inr ⟨g, cap, cur, hv, hg, (hb.block g (Array.getElem?_eq_some_iff.1 hh).1).trans hh, r⟩

theorem ownsRow_blocks {B : Nat} {e : TypeId} {k : Nat} {v : Value} {n : Nat} {xs : List Value} {w w' : World} (h : w.ownsRow B e k v n xs) (hb : ∀ g, v.ownBlock = some g → w'.heap[g]? = w.heap[g]?) : w'.ownsRow B e k v n xs := by
  obtain ⟨h1, h2⟩ := h
  refine ⟨h1, ?_⟩
  rcases h2 with h2 | ⟨g, cap, cur, rfl, hg, hh, r⟩
  · exact Or.inl h2
  · exact Or.inr ⟨g, cap, cur, rfl, hg, (hb g rfl).trans hh, r⟩

/-- A value of one cell. -/
def FlatV (v : Value) : Prop := v.oneCell' = true
theorem FlatV.store {v : Value} (h : FlatV v) (a : Addr) (m : Mode) (w : World) : Sem.run Tryd.prog (store a v m) w = stored Tryd.prog w a v m := run_store Tryd.prog w a v m h

end Go.Proofs.YtebigkjilklodaaDoor

/- append of one element onto an owned slice whose old value goes on being used: the old elements stay, and the new slice lies in the same row with the same room, or in a new block. -/
namespace Go.Proofs.YtebigkjilklodaaDoor
open Go.RowKit

theorem ownsRow_front {w : World} {B : Nat} {e : TypeId} {g n cap : Nat} {xs : List Value} {u : Value} (h : w.ownsRow B e 1 (.slice (some ⟨g, 0, none⟩) (n + 1) cap) (n + 1) (xs ++ [u])) : w.ownsRow B e 1 (.slice (some ⟨g, 0, none⟩) n cap) n xs := by
  have hl : xs.length = n := by have := h.1; simp at this; omega
  refine ⟨by omega, ?_⟩
  rcases h.2 with ⟨h1, _⟩ | ⟨g', cap', cur, h1, h2, h3, h4, h5, h6, h7⟩
  · cases h1
  · simp only [Value.slice.injEq, Option.some.injEq, Addr.mk.injEq, and_true, true_and] at h1
    obtain ⟨rfl, rfl⟩ := h1
    refine .inr ⟨g, cap, cur, rfl, h2, h3, by omega, h5, h6, ?_⟩
    have h8 : cur.toList.take ((n + 1) * 1) = xs ++ [u] := h7
    have h9 : (cur.toList.take ((n + 1) * 1)).take n = xs := by rw [h8, ← hl]; simp
    rw [List.take_take, Nat.min_eq_left (by omega)] at h9
    rw [Nat.mul_one]; exact h9
/-- Where the new slice lies. -/
def PanAt (v v' : Value) (n H : Nat) : Prop := (∃ g cap, v = .slice (some ⟨g, 0, none⟩) n cap ∧ v' = .slice (some ⟨g, 0, none⟩) (n + 1) cap) ∨ (∃ cap, v' = .slice (some ⟨H, 0, none⟩) (n + 1) cap)

theorem run_append_pan {P : Program} (w : World) (base : Nat) (t ty e : TypeId) (i : TypeInfo) (z : Value) (bytes : Nat) (ht : P.underlying t = some (.slice e)) (hi : P.info? e = some i) (hz : i.zero = some z)
    (hsize : i.size = 1) (hby : i.bytes = bytes) (hzs : z.cells.size = 1) (v : Value) (n : Nat) (xs : List Value) (hown : w.ownsRow base e 1 v n xs)
    (a : Addr) (c : Nat) (u : Value) (hnews : ∀ j x, [u][j]? = some x → w.cell? (a.add j) = some x) (h1 : u.oneCell' = true) (h63 : n + 1 ≤ maxLen) (hbytes : (n + 1) * bytes ≤ 140737488355328) (hbase : base ≤ w.heap.size) :
    ∃ v' w', (Builtin.append_ #[t, t] ty #[v, .slice (some a) 1 c]).run P w = .ok v' w' ∧ w'.ownsRow base e 1 v' (n + 1) (xs ++ [u]) ∧ w'.ownsRow base e 1 v n xs ∧ w.grownBy w' v.ownBlock ∧ PanAt v v' n w.heap.size := by
  obtain ⟨v', w', hr, h2, h3, h4, h5⟩ := run_append_own_at (P := P) w base t ty e i z 1 bytes ht hi hz hsize hby hzs (by decide) v n xs hown a 1 c [u] (by simp) hnews (by intro x hx; simp at hx; subst hx; exact h1) h63 hbytes hbase
  have hxl : xs.length = n := by have := hown.1; omega
  have hsm : n + 1 ≤ 9223372036854775807 := by simp only [maxLen] at h63; omega
  rcases hown.2 with ⟨rfl, rfl⟩ | ⟨g, cap, cur, rfl, hbg, hg, hnc, hcm, hcs, htake⟩
  · obtain rfl : xs = [] := List.eq_nil_of_length_eq_zero hxl
    have hr2 := run_append_nil (P := P) w t ty e i z ht hi hz a 1 c [u] (by rw [hsize]; rfl) hnews (by decide) (by omega) (by rw [hby]; omega)
    rw [hr2] at hr
    injection hr with e1 e2
    subst e1
    refine ⟨_, w', by rw [hr2, e2], h2, World.ownsRow_nil _ _ _ _, h3, .inr ⟨_, rfl⟩⟩
  · by_cases hroom : n + 1 ≤ cap
    · have hfit : n * i.size + [u].length ≤ cur.size := by rw [hcs, hsize]; simp; omega
      have hr2 := run_append_room (P := P) w t ty e i ht hi g n cap cur hg a 1 c [u] (by rw [hsize]; rfl) hnews (by intro x hx; simp at hx; subst hx; exact h1) hroom hfit
      rw [hr2] at hr
      injection hr with e1 e2
      subst e1
      exact ⟨_, w', by rw [hr2, e2], h2, ownsRow_front h2, h3, .inl ⟨g, cap, rfl, rfl⟩⟩
    · have holds : ∀ j x, xs[j]? = some x → w.cell? ((⟨g, 0, none⟩ : Addr).add j) = some x := hown.cells (g := g) rfl
      have hr2 := run_append_grow (P := P) w t ty e i z ht hi hz ⟨g, 0, none⟩ n cap xs (by rw [hsize]; omega) holds a 1 c [u] (by rw [hsize]; rfl) hnews (by omega) (by omega) (growslice_fits (by omega) (by rw [hby]; exact hbytes))
      rw [hr2] at hr
      injection hr with e1 e2
      subst e1
      refine ⟨_, w', by rw [hr2, e2], h2, ?_, h3, .inr ⟨_, rfl⟩⟩
      rw [← e2]
      have hb : Below w.heap.size w (w.drew.alloc (.cells (xs.toArray ++ [u].toArray ++ Builtin.zeroCells z.cells (grownCap w (n + 1) cap e - (n + 1))) e)) := (Below.refl w.heap.size w).drew.alloc (Nat.le_refl _) _
      exact ownsRow_below hown hb

theorem step_append_pan {P : Program} {ops : Array Oper} {o : Oper} {a : Act} {w : World} {K : Act → World → Prop} {Q : Exit → Act → World → Prop} {E : Prop}
    (hgd : o.guard = none) (s x : Operand) (t : TypeId) (ho : o.op = .call { callee := .builtin .append, args := #[s, x], argTypes := #[t, t] })
    (base : Nat) (e : TypeId) (i : TypeInfo) (z : Value) (bytes : Nat) (ht : P.underlying t = some (.slice e)) (hi : P.info? e = some i) (hz : i.zero = some z)
    (hsize : i.size = 1) (hby : i.bytes = bytes) (hzs : z.cells.size = 1) (v : Value) (n : Nat) (xs : List Value) (hs : a.eval s = v) (hown : w.ownsRow base e 1 v n xs)
    (ad : Addr) (c : Nat) (u : Value) (hx : a.eval x = .slice (some ad) 1 c) (hnews : ∀ j y, [u][j]? = some y → w.cell? (ad.add j) = some y) (h1 : u.oneCell' = true) (h63 : n + 1 ≤ maxLen) (hbytes : (n + 1) * bytes ≤ 140737488355328) (hbase : base ≤ w.heap.size)
    (hK : ∀ v' w', w'.ownsRow base e 1 v' (n + 1) (xs ++ [u]) → w'.ownsRow base e 1 v n xs → w.grownBy w' v.ownBlock → PanAt v v' n w.heap.size → K (a.put o.dst v') w') :
    if Region.wanted o (yielded ops a.tmps) = true then Oper.wp P o a w K Q else E := by
  have hw : Region.wanted o (yielded ops a.tmps) = true := by simp [Region.wanted, hgd]
  rw [if_pos hw]
  obtain ⟨v', w', hr, h2, h3, h4, h5⟩ := run_append_pan (P := P) w base t o.type e i z bytes ht hi hz hsize hby hzs v n xs hown ad c u hnews h1 h63 hbytes hbase
  unfold Oper.wp execOp
  simp only [ho, resolve, invoke, builtin, Sem.run_bind, Sem.run_pure, Result.andThen_ok, List.map_toArray, List.map_cons, List.map_nil, hs, hx, hr]
  exact hK _ _ h2 h3 h4 h5

end Go.Proofs.YtebigkjilklodaaDoor

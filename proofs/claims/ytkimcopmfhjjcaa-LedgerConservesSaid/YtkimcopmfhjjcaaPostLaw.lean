/- What 'Post' does to the ledger's blocks, step by step: plain facts on worlds. -/
import Derived.Test.YtkimcopmfhjjcaaMove
namespace Go.Proofs.Ytkimcopmfhjjcaa
open Go.RowKit

theorem Keeps.setCell {S : Nat → Prop} {a w : World} (h : Keeps S a w) (p : Addr) (u : Value) (hp : p.block < a.heap.size → S p.block) : Keeps S a (w.setCell p u) :=
  ⟨h.os, h.tape, h.output, by simpa using h.size, fun k hk hn => (heap_setCell_other w p k u (fun e => hn (by subst e; exact hp hk))).trans (h.block k hk hn)⟩
theorem Keeps.alloc {S : Nat → Prop} {a w : World} (h : Keeps S a w) (o : Obj) : Keeps S a (w.alloc o) :=
  ⟨h.os, h.tape, h.output, by have := h.size; simp; omega, fun k hk hn => (Below.heap_alloc w o k (Nat.lt_of_lt_of_le hk h.size)).trans (h.block k hk hn)⟩
theorem Keeps.drew {S : Nat → Prop} {a w : World} (h : Keeps S a w) : Keeps S a w.drew := ⟨h.os, h.tape, h.output, h.size, h.block⟩

/-- The world behind the store of the new slice: what the rest of 'Post' reads there. -/
theorem post_mid {w W4 w5 w7 : World} {lb kb bb c : Nat} {pv v7 kv bv : Value} {L : List Pst} {f f5 : ByteArray → Option Int} {o : Obj}
    (HL : LedgerIs w lb c pv kv bv L) (HL4 : LedgerIs W4 lb c pv (.map (some kb)) (.map (some bb)) L) (hsz4 : w.heap.size < W4.heap.size)
    (m4b : IMap W4 bb c f) (m5 : IMap w5 kb (c + 1) f5) (g5 : W4.drew.grownBy w5 (some kb)) (hne : kb ≠ bb) (hkw : kb ≠ w.heap.size)
    (hgrow7 : ((w5.alloc o).drew).grownBy w7 pv.ownBlock) :
    (∀ j, (w7.setCell ⟨lb, 0, none⟩ v7).cell? ⟨w.heap.size, j, none⟩ = W4.cell? ⟨w.heap.size, j, none⟩) ∧
    (w7.setCell ⟨lb, 0, none⟩ v7).heap[lb]? = some (.cells #[v7, .map (some kb), .map (some bb)] 58 (0, 0)) ∧
    IMap (w7.setCell ⟨lb, 0, none⟩ v7) kb (c + 1) f5 ∧ IMap (w7.setCell ⟨lb, 0, none⟩ v7) bb c f := by
  have hlbw : w.heap.size ≠ lb := by have := HL.lt; omega
  have hpw : some w.heap.size ≠ pv.ownBlock := fun e => by have := (World.ownsRow.lt HL.row _ e.symm).2; omega
  have hlp : some lb ≠ pv.ownBlock := fun e => HL4.row_ne e.symm rfl
  have nk := HL4.map_ne (b := kb) (n := c) (f := keyIdx L) (by
    rcases HL4.maps with ⟨h, _⟩ | ⟨kb', bb', h1, _, _, m1, _⟩
    · simp at h
    · simp at h1; subst h1; exact m1)
  have nb := HL4.map_ne m4b
  have h5 : ∀ k, k < W4.heap.size → k ≠ kb → w5.heap[k]? = W4.heap[k]? := fun k hk hn => g5.block k hk (by simpa using hn)
  have h7 : ∀ k, k < w5.heap.size → some k ≠ pv.ownBlock → w7.heap[k]? = w5.heap[k]? := fun k hk hn => (hgrow7.block k (by simp; omega) hn).trans (Below.heap_alloc w5 o k hk)
  have h8 : ∀ k, k ≠ lb → (w7.setCell ⟨lb, 0, none⟩ v7).heap[k]? = w7.heap[k]? := fun k hk => heap_setCell_other w7 ⟨lb, 0, none⟩ k v7 hk
  have s5 : W4.heap.size ≤ w5.heap.size := g5.size
  refine ⟨fun j => World.cell?_of_block (a := ⟨w.heap.size, j, none⟩) (((h8 _ hlbw).trans (h7 _ (by omega) hpw)).trans (h5 _ hsz4 (fun e => hkw e.symm))), ?_, ?_, ?_⟩
  · have hl7 : w7.heap[lb]? = some (.cells #[pv, .map (some kb), .map (some bb)] 58 (0, 0)) :=
      ((h7 lb (by have := HL4.lt; omega) hlp).trans (h5 lb HL4.lt (fun e => nk.1 e.symm))).trans HL4.head
    exact heap_setCell_same w7 lb 0 _ _ v7 hl7
  · exact m5.block ((h8 _ nk.1).trans (h7 _ m5.lt (fun e => nk.2 e.symm)))
  · exact m4b.block (((h8 _ nb.1).trans (h7 _ (by have := m4b.lt; omega) (fun e => nb.2 e.symm))).trans (h5 _ m4b.lt (fun e => hne e.symm)))

theorem pstCells_snoc (L : List Pst) (p : Pst) : pstCells (L ++ [p]) = pstCells L ++ p.cells := by simp [pstCells]

/-- The ledger behind 'Post'. -/
theorem post_final {S : Nat → Prop} {w W4 w5 w7 w9 : World} {lb kb bb c g7 cap7 : Nat} {pv kv bv : Value} {L : List Pst} {p : Pst} {f : ByteArray → Option Int} {o : Obj}
    (HL : LedgerIs w lb c pv kv bv L) (HL4 : LedgerIs W4 lb c pv (.map (some kb)) (.map (some bb)) L) (hsz4 : w.heap.size < W4.heap.size) (HK4 : Keeps S w W4)
    (hTk : S kb ∨ w.heap.size ≤ kb) (hTb : S bb ∨ w.heap.size ≤ bb) (hSl : S lb) (hSr : ∀ g, pv.ownBlock = some g → S g)
    (m4b : IMap W4 bb c f) (m5 : IMap w5 kb (c + 1) (updF (keyIdx L) p.key (some (L.length : Int)))) (g5 : W4.drew.grownBy w5 (some kb)) (hne : kb ≠ bb) (hkw : kb ≠ w.heap.size)
    (hgrow7 : ((w5.alloc o).drew).grownBy w7 pv.ownBlock)
    (hown7 : w7.ownsRow 0 40 4 (.slice (some ⟨g7, 0, none⟩) (L.length + 1) cap7) (L.length + 1) (pstCells L ++ p.cells))
    (hat7 : some g7 = pv.ownBlock ∨ some g7 = some ((w5.alloc o).drew).heap.size)
    (m9 : IMap w9 bb (c + 2) (moveF f p.src p.dst p.amount)) (g9 : (w7.setCell ⟨lb, 0, none⟩ (.slice (some ⟨g7, 0, none⟩) (L.length + 1) cap7)).grownBy w9 (some bb))
    (hi : keyIdx L p.key = none) (hf : ∀ s, (f s).getD 0 = balI L s) (hr : rightB p = true) (hm : L.length < 100000) :
    LedgerIs w9 lb (c + 2) (.slice (some ⟨g7, 0, none⟩) (L.length + 1) cap7) (.map (some kb)) (.map (some bb)) (L ++ [p]) ∧ Keeps S w w9 ∧
      Holds (fun k => S k ∨ w.heap.size ≤ k) lb (.slice (some ⟨g7, 0, none⟩) (L.length + 1) cap7) (.map (some kb)) (.map (some bb)) := by
  obtain ⟨_, h8, m8, m8b⟩ := post_mid (v7 := .slice (some ⟨g7, 0, none⟩) (L.length + 1) cap7) HL HL4 hsz4 m4b m5 g5 hne hkw hgrow7
  have nb := HL4.map_ne m4b
  have h7l : w7.heap[lb]? = some (.cells #[pv, .map (some kb), .map (some bb)] 58 (0, 0)) := by
    have hlp : some lb ≠ pv.ownBlock := fun e => HL4.row_ne e.symm rfl
    have nk := HL4.map_ne (b := kb) (n := c) (f := keyIdx L) (by
      rcases HL4.maps with ⟨h, _⟩ | ⟨kb', bb', h1, _, _, m1, _⟩
      · simp at h
      · simp at h1; subst h1; exact m1)
    exact (((hgrow7.block lb (by have := HL4.lt; have := g5.size; simp at *; omega) hlp).trans (Below.heap_alloc w5 o lb (by have := HL4.lt; have := g5.size; simp at *; omega))).trans
      (g5.block lb HL4.lt (by simp; exact fun e => nk.1 e.symm))).trans HL4.head
  have s5 : W4.heap.size ≤ w5.heap.size := g5.size
  have s7 : w5.heap.size + 1 ≤ w7.heap.size := by have := hgrow7.size; simpa using this
  refine ⟨⟨?_, ?_, ?_, ?_, ?_⟩, ?_, hSl |> .inl, ?_, ?_, ?_⟩
  · exact (g9.block lb (by have := HL4.lt; simp; omega) (by simp; exact fun e => nb.1 e.symm)).trans h8
  · rw [List.length_append, pstCells_snoc]
    refine ⟨hown7.1, ?_⟩
    rcases hown7.2 with ⟨h, _⟩ | ⟨g, cap, cur, h, h1, h2, h3⟩
    · simp at h
    · simp only [Value.slice.injEq, Option.some.injEq, Addr.mk.injEq, and_true, true_and] at h
      obtain ⟨rfl, rfl⟩ := h
      refine .inr ⟨g7, cap7, cur, rfl, h1, ?_, h3⟩
      have hgl : g7 ≠ lb := by rintro rfl; rw [h7l] at h2; simp at h2
      have hgb : g7 ≠ bb := by
        rintro rfl
        obtain ⟨D, ⟨es, clock, hb, _⟩, _⟩ := m8b
        rw [heap_setCell_other w7 ⟨lb, 0, none⟩ g7 _ hgl] at hb
        rw [hb] at h2; simp at h2
      exact ((g9.block g7 (by have := (Array.getElem?_eq_some_iff.1 h2).1; simpa using this) (by simpa using hgb)).trans (heap_setCell_other w7 ⟨lb, 0, none⟩ g7 _ hgl)).trans h2
  · refine .inr ⟨kb, bb, rfl, rfl, hne, ?_, _, m9, fun s => ?_⟩
    · rw [keyIdx_snoc hi]
      exact (m8.block (g9.block kb m8.lt (by simpa using hne))).mono (by omega)
    · rw [moveF_get f p.src p.dst p.amount (rightB_amount hr).2.2 s, hf s, balI_snoc]; rfl
  · intro q hq
    rcases List.mem_append.1 hq with hq | hq
    · exact HL4.good q hq
    · simp at hq; subst hq; exact hr
  · simp; omega
  · have k5 : Keeps S w w5 := HK4.drew.grown g5 (fun k hk hlt => by simp at hk; subst hk; rcases hTk with h | h; exact h; omega)
    have k7 : Keeps S w w7 := (k5.alloc o).drew.grown hgrow7 (fun k hk _ => hSr k hk)
    have k8 := k7.setCell ⟨lb, 0, none⟩ (.slice (some ⟨g7, 0, none⟩) (L.length + 1) cap7) (fun _ => hSl)
    exact k8.grown g9 (fun k hk hlt => by simp at hk; subst hk; rcases hTb with h | h; exact h; omega)
  · intro g hg
    simp [Value.ownBlock] at hg
    subst hg
    rcases hat7 with h | h
    · exact .inl (hSr _ h.symm)
    · right; simp at h; omega
  · intro b hb; simp at hb; subst hb; exact hTk
  · intro b hb; simp at hb; subst hb; exact hTb

end Go.Proofs.Ytkimcopmfhjjcaa

/- '(*Ledger).move': two balances turn. -/
import Derived.Test.YtkimcopmfhjjcaaLedger
namespace Go.Proofs.Ytkimcopmfhjjcaa
open Go.RowKit

theorem ba_toList_ne {a b : ByteArray} (h : a ≠ b) : ¬ b = a := fun e => h e.symm
/-- The balances behind a move. -/
def moveF (f : ByteArray → Option Int) (src dst : ByteArray) (x : Int) : ByteArray → Option Int :=
  updF (updF f src (some ((f src).getD 0 - x))) dst (some ((updF f src (some ((f src).getD 0 - x)) dst).getD 0 + x))
theorem moveF_get (f : ByteArray → Option Int) (src dst : ByteArray) (x : Int) (hne : src ≠ dst) (s : ByteArray) :
    (moveF f src dst x s).getD 0 = (f s).getD 0 + ((if dst = s then x else 0) - (if src = s then x else 0)) := by
  unfold moveF updF
  by_cases h1 : s = dst
  · subst h1
    have h3 : ¬ s = src := fun e => hne e.symm
    simp [hne, h3]
  · have h1' : ¬ dst = s := fun e => h1 e.symm
    by_cases h2 : s = src
    · subst h2
      simp [h1, h1']; omega
    · have h2' : ¬ src = s := fun e => h2 e.symm
      simp [h1, h1', h2, h2']

set_option maxHeartbeats 1000000 in
theorem move_any (lb bb n : Nat) (f : ByteArray → Option Int) (src dst : ByteArray) (x : Int) (w : World) (hs : src.size ≤ 9223372036854775807) (hd : dst.size ≤ 9223372036854775807)
    (hc : w.cell? ⟨lb, 2, none⟩ = some (.map (some bb))) (hm : IMap w bb n f) (hn : n < 1152921504606846976) (hx0 : -1000000000000 ≤ x) (hx1 : x ≤ 1000000000000)
    (hf : ∀ s, -1000000000000000 ≤ (f s).getD 0 ∧ (f s).getD 0 ≤ 1000000000000000) :
    Calls Try.prog 26 #[.pointer (some ⟨lb, 0, none⟩), .string src, .string dst, .int .i64 x] w fun e w' =>
      e = .returned (.tuple #[]) ∧ IMap w' bb (n + 2) (moveF f src dst x) ∧ w.grownBy w' (some bb) := by
  have l1 := hm.look src hs
  have b1 := hf src
  obtain ⟨w1, u1, m1, g1⟩ := hm.put src hs ((f src).getD 0 - x) (by omega) (by omega) (by omega)
  have hbl : lb ≠ bb := by
    rintro rfl
    obtain ⟨D, ⟨es, clock, h1, _⟩, _⟩ := hm
    simp [World.cell?, h1] at hc
  have hc1 : w1.cell? ⟨lb, 2, none⟩ = some (.map (some bb)) := g1.cell hc (by simp; exact hbl)
  have l2 := m1.look dst hd
  have b2 : -1001000000000000 ≤ (updF f src (some ((f src).getD 0 - x)) dst).getD 0 ∧ (updF f src (some ((f src).getD 0 - x)) dst).getD 0 ≤ 1001000000000000 := by
    unfold updF
    have := hf dst
    split
    · simp; omega
    · omega
  obtain ⟨w2, u2, m2, g2⟩ := m1.put dst hd ((updF f src (some ((f src).getD 0 - x)) dst).getD 0 + x) (by omega) (by omega) (by omega)
  have hfin : IMap w2 bb (n + 2) (moveF f src dst x) ∧ w.grownBy w2 (some bb) :=
    ⟨m2, ⟨g2.os.trans g1.os, g2.tape.trans g1.tape, g2.output.trans g1.output, Nat.le_trans g1.size g2.size, fun k hk hne => (g2.block k (Nat.lt_of_lt_of_le hk g1.size) hne).trans (g1.block k hk hne)⟩⟩
  have HF := Lib.hid hfin
  clear hfin m1 m2 g1 g2 hf hm
  obtain ⟨v1, hv1⟩ : ∃ v, v = (f src).getD 0 := ⟨_, rfl⟩
  rw [← hv1] at l1 u1 b1 l2 b2 u2
  obtain ⟨v2, hv2⟩ : ∃ v, v = (updF f src (some (v1 - x)) dst).getD 0 := ⟨_, rfl⟩
  rw [← hv2] at l2 b2 u2
  clear hv1 hv2
  obtain ⟨b10, b11⟩ := b1
  obtain ⟨b20, b21⟩ := b2
  go_enter Try.func26, Try.ntmps26
  go_wp2
  go_end0
  exact ⟨rfl, HF.out⟩

end Go.Proofs.Ytkimcopmfhjjcaa

/- One ledger beside one row that is not its own. -/
import Derived.Test.YtkimcopmfhjjcaaActs
namespace Go.Proofs.Ytkimcopmfhjjcaa
open Go.RowKit

/-- The ledger at lb stands for L; its blocks lie from N on, below K, and are not the block o; below N nothing has changed since w0. -/
structure LedX (N K : Nat) (o : Option Nat) (w0 w : World) (lb c : Nat) (L : List Pst) : Prop where
  led : LedgerIn (fun k => N ≤ k ∧ k < K ∧ o ≠ some k) w lb c L
  size : K ≤ w.heap.size
  low : N ≤ K
  gone : ∀ g, o = some g → g < K
  below : Below N w0 w
theorem LedX.of {N K : Nat} {o : Option Nat} {w0 w w' : World} {lb c : Nat} {L : List Pst} (h : LedW N K w0 w lb c L) (hb : Below w.heap.size w w') (hg : ∀ g, o = some g → w.heap.size ≤ g ∧ g < w'.heap.size) : LedX N w'.heap.size o w0 w' lb c L := by
  have h1 := h.calm hb
  have h2 := h.size
  have h3 := h.low
  have h4 := hb.size
  exact ⟨h1.led.mono (fun k hk => ⟨hk.1, by omega, fun e => by have := hg k e; omega⟩) (Nat.le_refl _), Nat.le_refl _, by omega, fun g e => (hg g e).2, h1.below⟩
theorem LedX.calm {N K : Nat} {o : Option Nat} {w0 w w' : World} {lb c : Nat} {L : List Pst} (h : LedX N K o w0 w lb c L) (hb : Below w.heap.size w w') : LedX N K o w0 w' lb c L :=
  ⟨h.led.below hb, Nat.le_trans h.size hb.size, h.low, h.gone, h.below.trans (hb.mono (Nat.le_trans h.low h.size))⟩
theorem post_x {N K : Nat} {o : Option Nat} {w0 w : World} {lb c : Nat} {L : List Pst} (h : LedX N K o w0 w lb c L) (p : Pst) (hf : p.fits) (hc : c < 1000000000000) :
    Calls Try.prog 13 #[.pointer (some ⟨lb, 0, none⟩), p.val] w fun e w' => e = .returned (.int .i64 (postE L p)) ∧ LedX N w'.heap.size o w0 w' lb (c + 2) (postL L p) ∧ ∀ g, o = some g → w'.heap[g]? = w.heap[g]? := by
  refine (post_any _ lb c L p w hf h.led hc).mono ?_
  rintro e w' ⟨he, hl, hk⟩
  have h1 := h.size
  have h2 := h.low
  have h3 := hk.size
  refine ⟨he, ⟨hl.mono (fun k hk => ?_) (Nat.le_refl _), Nat.le_refl _, by omega, fun g e => by have := h.gone g e; omega, h.below.trans (hk.below (by omega) (fun k hk => hk.1))⟩, fun g e => hk.block g (by have := h.gone g e; omega) (fun e2 => e2.2.2 e)⟩
  rcases hk with hk | hk
  · exact ⟨hk.1, by omega, hk.2.2⟩
  · exact ⟨by omega, hk.2, fun e => by have := h.gone k e; omega⟩
theorem owns_block {w w' : World} {base size n : Nat} {e : TypeId} {v : Value} {xs : List Value} (h : w.ownsRow base e size v n xs) (hb : ∀ g, v.ownBlock = some g → w'.heap[g]? = w.heap[g]?) : w'.ownsRow base e size v n xs := by
  refine ⟨h.1, ?_⟩
  rcases h.2 with r | ⟨g, cap, cur, rfl, hb', hg, r⟩
  · exact .inl r
  · exact .inr ⟨g, cap, cur, rfl, hb', (hb g rfl).trans hg, r⟩

set_option maxHeartbeats 400000 in
/-- A copy of the postings. -/
theorem posts_any (S : Nat → Prop) (lb c : Nat) (L : List Pst) (w : World) (hL : LedgerIn S w lb c L) :
    Calls Try.prog 19 #[.pointer (some ⟨lb, 0, none⟩)] w fun e w' => ∃ v, e = .returned v ∧ w'.ownsRow w.heap.size 40 4 v L.length (pstCells L) ∧ Below w.heap.size w w' := by
  obtain ⟨pv, kv, bv, h, hh⟩ := hL
  obtain ⟨l0, l1, l2, lf⟩ := h.cells
  have hfew := h.few
  rcases h.row.2 with ⟨rfl, r⟩ | ⟨g, cap, cur, rfl, r⟩
  · have hnil : L = [] := List.eq_nil_of_length_eq_zero r
    subst hnil
    have hK := Lib.hid (clone_nil w)
    clear h hh r
    go_enter Try.func19, Try.ntmps19
    go_wp2_with fail
    refine hK.out.mono ?_
    rintro e w' ⟨rfl, rfl⟩
    go_wp2_with fail
    go_ret
    exact ⟨_, rfl, World.ownsRow_nil _ _ _ _, Below.refl _ _⟩
  · have hK := Lib.hid (clone_pst g 0 cap L w (h.row.cells rfl) (World.ownsRow.lt h.row g rfl).2 (by omega))
    clear h hh r
    go_enter Try.func19, Try.ntmps19
    go_wp2_with fail
    refine hK.out.mono ?_
    rintro e w' ⟨v, rfl, ho, hb⟩
    have HO := Lib.hid ho
    have HB := Lib.hid hb
    clear ho hb hK
    go_wp2_with fail
    go_ret
    exact ⟨_, rfl, HO.out, HB.out⟩

theorem keyI_size (n : Int) : (keyI n).size ≤ 100 := by
  have h := mod_in n 12 (by omega)
  unfold keyI
  split
  · decide
  · have := decB_length ((n.tmod 12 + 12).tmod 12).toNat
    have e : (decS ((n.tmod 12 + 12).tmod 12).toNat).size = (decB ((n.tmod 12 + 12).tmod 12).toNat).length := by simp [decS, ByteArray.size]
    rw [ByteArray.size_append, e]
    have : (ByteArray.mk #[107]).size = 1 := rfl
    omega
theorem act_fits {a : ActN} (h1 : -9223372036854775808 ≤ a.amount) (h2 : a.amount ≤ 9223372036854775807) : a.pst.fits := by
  have k := keyI_size a.key
  have s := acctS_size ((a.src.tmod 7 + 7).tmod 7).toNat
  have d := acctS_size ((a.dst.tmod 7 + 7).tmod 7).toNat
  exact ⟨by show (keyI a.key).size ≤ _; omega, by show (acctS _).size ≤ _; omega, by show (acctS _).size ≤ _; omega, h1, h2⟩

end Go.Proofs.Ytkimcopmfhjjcaa

/- '(*Ledger).Post', whole: the error and the postings are those of the plain functions. -/
import Derived.Test.YtkimcopmfhjjcaaPostOk
namespace Go.Proofs.Ytkimcopmfhjjcaa
open Go.RowKit

theorem LedgerIn.mono {S T : Nat → Prop} {w : World} {lb c d : Nat} {L : List Pst} (h : LedgerIn S w lb c L) (hST : ∀ k, S k → T k) (hc : c ≤ d) : LedgerIn T w lb d L := by
  obtain ⟨pv, kv, bv, h, h1, h2, h3, h4⟩ := h
  exact ⟨pv, kv, bv, h.mono hc, hST _ h1, fun g hg => hST _ (h2 g hg), fun g hg => hST _ (h3 g hg), fun g hg => hST _ (h4 g hg)⟩
theorem LedgerIn.below {S : Nat → Prop} {w w' : World} {lb c : Nat} {L : List Pst} (h : LedgerIn S w lb c L) (hb : Below w.heap.size w w') : LedgerIn S w' lb c L := by
  obtain ⟨pv, kv, bv, h, r⟩ := h
  exact ⟨pv, kv, bv, h.below hb, r⟩
/-- A ledger stays what it is while another one's blocks turn. -/
theorem LedgerIn.kept {S T : Nat → Prop} {w w' : World} {lb c : Nat} {L : List Pst} (h : LedgerIn S w lb c L) (hk : Keeps T w w') (hd : ∀ k, S k → ¬ T k) : LedgerIn S w' lb c L := by
  obtain ⟨pv, kv, bv, h, h1, h2, h3, h4⟩ := h
  refine ⟨pv, kv, bv, h.keep (hk.block _ h.lt (hd _ h1)) (fun g hg => hk.block g (World.ownsRow.lt h.row g hg).2 (hd _ (h2 g hg))) (fun b hb => ?_) (fun b hb => ?_), h1, h2, h3, h4⟩
  · refine hk.block b ?_ (hd _ (h3 b hb))
    rcases h.maps with ⟨r, _⟩ | ⟨kb, bb, rfl, rfl, _, m1, f, m2, _⟩
    · rw [r] at hb; simp at hb
    · simp at hb; subst hb; exact m1.lt
  · refine hk.block b ?_ (hd _ (h4 b hb))
    rcases h.maps with ⟨_, r, _⟩ | ⟨kb, bb, rfl, rfl, _, m1, f, m2, _⟩
    · rw [r] at hb; simp at hb
    · simp at hb; subst hb; exact m2.lt

/-- A ledger's blocks are there. -/
theorem LedgerIn.bound {S : Nat → Prop} {w : World} {lb c : Nat} {L : List Pst} (h : LedgerIn S w lb c L) : LedgerIn (fun k => S k ∧ k < w.heap.size) w lb c L := by
  obtain ⟨pv, kv, bv, h, h1, h2, h3, h4⟩ := h
  refine ⟨pv, kv, bv, h, ⟨h1, h.lt⟩, fun g hg => ⟨h2 g hg, (World.ownsRow.lt h.row g hg).2⟩, fun b hb => ⟨h3 b hb, ?_⟩, fun b hb => ⟨h4 b hb, ?_⟩⟩
  · rcases h.maps with ⟨r, _⟩ | ⟨kb, bb, rfl, rfl, _, m1, f, m2, _⟩
    · rw [r] at hb; simp at hb
    · simp at hb; subst hb; exact m1.lt
  · rcases h.maps with ⟨_, r, _⟩ | ⟨kb, bb, rfl, rfl, _, m1, f, m2, _⟩
    · rw [r] at hb; simp at hb
    · simp at hb; subst hb; exact m2.lt

theorem post_any0 (S : Nat → Prop) (lb c : Nat) (L : List Pst) (p : Pst) (w : World) (hf : p.fits) (hL : LedgerIn S w lb c L) (hc : c < 1000000000000) :
    Calls Try.prog 13 #[.pointer (some ⟨lb, 0, none⟩), p.val] w fun e w' => e = .returned (.int .i64 (postE L p)) ∧
      LedgerIn (fun k => S k ∨ w.heap.size ≤ k) w' lb (c + 2) (postL L p) ∧ Keeps S w w' := by
  have weak : ∀ {w'}, Below w.heap.size w w' → LedgerIn (fun k => S k ∨ w.heap.size ≤ k) w' lb (c + 2) L ∧ Keeps S w w' := fun hb =>
    ⟨(hL.below hb).mono (fun k hk => .inl hk) (by omega), Keeps.of_below hb⟩
  obtain ⟨pv, kv, bv, h, hh⟩ := hL
  cases hr : rightB p with
  | false =>
    have e1 : postE L p = 1 := by simp [postE, hr]
    have e2 : postL L p = L := by simp [postL, e1]
    rw [e1, e2]
    exact (post_wrong lb p w hf hr).mono fun e w' ⟨he, hb⟩ => ⟨he, weak hb⟩
  | true =>
    cases hi : keyIdx L p.key with
    | some i =>
      have e1 : postE L p = if pstEq (L[i.toNat]?.getD noPst) p then 0 else 33 := by simp [postE, hr, hi]
      have e2 : postL L p = L := by simp [postL, hi]
      rw [e1, e2]
      exact (post_known lb c pv kv bv L p w hf h hr i hi).mono fun e w' ⟨he, hb⟩ => ⟨he, weak hb⟩
    | none =>
      by_cases hm : 100000 ≤ L.length
      · have e1 : postE L p = 2 := by simp [postE, hr, hi, hm]
        have e2 : postL L p = L := by simp [postL, e1]
        rw [e1, e2]
        exact (post_many lb c pv kv bv L p w hf h hr hi hm).mono fun e w' ⟨he, hb⟩ => ⟨he, weak hb⟩
      · by_cases hs : srcB p.src = false ∧ balI L p.src < p.amount
        · have e1 : postE L p = 52 := by simp [postE, hr, hi, hm, hs]
          have e2 : postL L p = L := by simp [postL, e1]
          rw [e1, e2]
          exact (post_funds lb c pv kv bv L p w hf h hr hi (by omega) hs.1 hs.2).mono fun e w' ⟨he, hb⟩ => ⟨he, weak hb⟩
        · have e1 : postE L p = 0 := by simp only [postE, hr, hi, if_neg hm, if_neg hs]; rfl
          have e2 : postL L p = L ++ [p] := by simp [postL, e1, hi]
          rw [e1, e2]
          have hsrc : srcB p.src = true ∨ p.amount ≤ balI L p.src := by
            cases hb : srcB p.src
            · exact .inr (Int.not_lt.1 fun h => hs ⟨hb, h⟩)
            · exact .inl rfl
          refine (post_ok lb c pv kv bv L p w hf h hr hi (by omega) hsrc hc).mono ?_
          rintro e w' ⟨he, pv', kv', bv', hL', hK, h1, h2, h3, h4⟩
          have hs : ∀ k, (k = lb ∨ pv.ownBlock = some k ∨ kv = .map (some k) ∨ bv = .map (some k)) → S k := by
            rintro k (rfl | hk | hk | hk)
            · exact hh.1
            · exact hh.2.1 k hk
            · exact hh.2.2.1 k hk
            · exact hh.2.2.2 k hk
          have ht : ∀ k, (k = lb ∨ pv.ownBlock = some k ∨ kv = .map (some k) ∨ bv = .map (some k) ∨ w.heap.size ≤ k) → S k ∨ w.heap.size ≤ k := by
            rintro k (hk | hk | hk | hk | hk)
            · exact .inl (hs k (.inl hk))
            · exact .inl (hs k (.inr (.inl hk)))
            · exact .inl (hs k (.inr (.inr (.inl hk))))
            · exact .inl (hs k (.inr (.inr (.inr hk))))
            · exact .inr hk
          exact ⟨he, ⟨pv', kv', bv', hL', ht _ h1, fun g hg => ht _ (h2 g hg), fun g hg => ht _ (h3 g hg), fun g hg => ht _ (h4 g hg)⟩, hK.weaken (fun k _ hk => hs k hk)⟩

theorem post_any (S : Nat → Prop) (lb c : Nat) (L : List Pst) (p : Pst) (w : World) (hf : p.fits) (hL : LedgerIn S w lb c L) (hc : c < 1000000000000) :
    Calls Try.prog 13 #[.pointer (some ⟨lb, 0, none⟩), p.val] w fun e w' => e = .returned (.int .i64 (postE L p)) ∧
      LedgerIn (fun k => S k ∨ (w.heap.size ≤ k ∧ k < w'.heap.size)) w' lb (c + 2) (postL L p) ∧ Keeps S w w' :=
  (post_any0 S lb c L p w hf hL hc).mono fun _ _ ⟨he, h, hk⟩ => ⟨he, h.bound.mono (fun _ ⟨h1, h2⟩ => h1.elim .inl fun h => .inr ⟨h, h2⟩) (Nat.le_refl _), hk⟩

set_option maxHeartbeats 400000 in
theorem balance_any (S : Nat → Prop) (lb c : Nat) (L : List Pst) (s : ByteArray) (w : World) (hs : s.size ≤ 9223372036854775807) (hL : LedgerIn S w lb c L) :
    Calls Try.prog 18 #[.pointer (some ⟨lb, 0, none⟩), .string s] w fun e w' => e = .returned (.int .i64 (balI L s)) ∧ w' = w := by
  obtain ⟨pv, kv, bv, h, hh⟩ := hL
  have hl := h.lookB s hs 0
  rw [World.drewN_zero] at hl
  obtain ⟨l0, l1, l2, lf⟩ := h.cells
  clear h hh
  go_enter Try.func18, Try.ntmps18
  go_wp2
  go_ret
  exact ⟨rfl, rfl⟩

set_option maxHeartbeats 400000 in
theorem paid_any (S : Nat → Prop) (lb c : Nat) (L : List Pst) (s : ByteArray) (w : World) (hs : s.size ≤ 9223372036854775807) (hL : LedgerIn S w lb c L) :
    Calls Try.prog 15 #[.pointer (some ⟨lb, 0, none⟩), .string s] w fun e w' => e = .returned (.bool (keyIdx L s).isSome) ∧ w' = w := by
  obtain ⟨pv, kv, bv, h, hh⟩ := hL
  have hl := h.lookK s hs 0
  rw [World.drewN_zero] at hl
  obtain ⟨l0, l1, l2, lf⟩ := h.cells
  clear h hh
  obtain ⟨x, hx⟩ : ∃ x, x = (keyIdx L s).getD 0 := ⟨_, rfl⟩
  obtain ⟨y, hy⟩ : ∃ y, y = (keyIdx L s).isSome := ⟨_, rfl⟩
  rw [← hx, ← hy] at hl
  rw [← hy]
  clear hx hy
  go_enter Try.func15, Try.ntmps15
  go_wp2
  go_ret
  exact ⟨rfl, rfl⟩

/-- A ledger without postings. -/
theorem new_any (w : World) :
    Calls Try.prog 12 #[] w fun e w' => e = .returned (.pointer (some ⟨w.heap.size, 0, none⟩)) ∧ LedgerIn (fun k => k = w.heap.size) w' w.heap.size 0 [] ∧ Below w.heap.size w w' := by
  go_enter Try.func12, Try.ntmps12
  go_wp2
  go_ret
  refine ⟨rfl, ⟨.slice none 0 0, .map none, .map none, ⟨heap_alloc_new w _, World.ownsRow_nil _ _ _ _, .inl ⟨rfl, rfl, rfl⟩, by simp, by simp⟩, rfl, ?_, ?_, ?_⟩, (Below.refl _ _).alloc (Nat.le_refl _) _⟩
  · intro g hg; simp [Value.ownBlock] at hg
  · intro g hg; simp at hg
  · intro g hg; simp at hg

/-- The posting of its parts. -/
theorem mkpost_any (p : Pst) (w : World) :
    Calls Try.prog 14 #[.string p.key, .string p.src, .string p.dst, .int .i64 p.amount] w fun e w' => e = .returned p.val ∧ Below w.heap.size w w' := by
  obtain ⟨key, src, dst, amount⟩ := p
  unfold Pst.val
  dsimp only
  go_enter Try.func14, Try.ntmps14
  go_wp2
  exact bodyPost_ret (v := .agg #[.string key, .string src, .string dst, .int .i64 amount]) (by simp [results, Try.results14, go_sem]) rfl ⟨rfl, (Below.refl _ _).alloc (Nat.le_refl _) _⟩

end Go.Proofs.Ytkimcopmfhjjcaa

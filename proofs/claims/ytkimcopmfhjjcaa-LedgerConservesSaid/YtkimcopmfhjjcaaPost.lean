/- '(*Ledger).Post': what it returns and what becomes of the ledger. -/
import Derived.Test.YtkimcopmfhjjcaaLedger
import Derived.BigRegion
namespace Go.Proofs.Ytkimcopmfhjjcaa
open Go.RowKit

theorem prefix_of (src : ByteArray) (b : Bool) (h : srcB src = b) (w : World) : Calls Try.prog 25 #[.string src, .string ⟨#[109, 105, 110, 116]⟩] w fun e w' => e = .returned (.bool b) ∧ w' = w := by
  have := Try.strings_HasPrefix src ⟨#[109, 105, 110, 116]⟩ w
  have e : Lib.hasPrefix src.data.toList (⟨#[109, 105, 110, 116]⟩ : ByteArray).data.toList = b := h
  rwa [e] at this

set_option maxHeartbeats 1000000 in
set_option maxRecDepth 100000 in
theorem post_wrong (lb : Nat) (p : Pst) (w : World) (hf : p.fits) (hr : rightB p = false) :
    Calls Try.prog 13 #[.pointer (some ⟨lb, 0, none⟩), p.val] w fun e w' => e = .returned (.int .i64 1) ∧ Below w.heap.size w w' := by
  have K := Lib.hid (fun w => right_any p w hf)
  obtain ⟨key, src, dst, amount⟩ := p
  unfold Pst.val Pst.cells at *
  dsimp only at *
  clear hf
  go_enter Try.func13, Try.ntmps13
  go_wp2_with (go_at_call 24; refine (K.out _).mono ?_; rintro e w' ⟨rfl, rfl⟩)
  go_ret
  exact ⟨rfl, ((Below.refl _ _).alloc (Nat.le_refl _) _).alloc (by simp) _⟩

set_option maxHeartbeats 1000000 in
set_option maxRecDepth 100000 in
theorem post_known (lb c : Nat) (pv kv bv : Value) (L : List Pst) (p : Pst) (w : World) (hf : p.fits) (hL : LedgerIs w lb c pv kv bv L) (hr : rightB p = true) (i : Int) (hi : keyIdx L p.key = some i) :
    Calls Try.prog 13 #[.pointer (some ⟨lb, 0, none⟩), p.val] w fun e w' => e = .returned (.int .i64 (if pstEq (L[i.toNat]?.getD noPst) p then 0 else 33)) ∧ Below w.heap.size w w' := by
  have K := Lib.hid (fun w => right_any p w hf)
  obtain ⟨key, src, dst, amount⟩ := p
  have hks : key.size ≤ 9223372036854775807 := hf.1
  unfold Pst.val Pst.cells at *
  dsimp only at *
  have hij := lk_le hi
  obtain ⟨j, rfl⟩ := Int.eq_ofNat_of_zero_le hij.1
  have hjn : j < L.length := by have := hij.2.1; omega
  have hjz : (j : Int) < L.length := by omega
  rw [Int.toNat_natCast]
  obtain ⟨q, hq⟩ : ∃ q, q = L[j]?.getD noPst := ⟨_, rfl⟩
  rw [← hq]
  have HQ := Lib.hid hq
  clear hq hij
  obtain ⟨v, hv⟩ : ∃ v, v = pstEq q ⟨key, src, dst, amount⟩ := ⟨_, rfl⟩
  rw [← hv]
  have hve : ∀ w, (binOp .eql 40 (.agg #[.string q.key, .string q.src, .string q.dst, .int .i64 q.amount]) (.agg #[.string key, .string src, .string dst, .int .i64 amount])).run Try.prog w = .ok (.bool v) w := fun w => by rw [hv]; exact pst_eql q ⟨key, src, dst, amount⟩ w
  have hvg := pst_guard
  have HL := Lib.hid hL
  have HI := Lib.hid hi
  clear hL hf hi
  go_enter Try.func13, Try.ntmps13
  go_wp2_with (go_at_call 24; refine (K.out _).mono ?_; rintro e w' ⟨rfl, rfl⟩)
  obtain ⟨W2, hW2⟩ : ∃ W, W = (w.alloc (Obj.cells #[.string key, .string src, .string dst, .int .i64 amount] 40)).alloc (Obj.cells #[.string key, .string src, .string dst, .int .i64 amount] 40) := ⟨_, rfl⟩
  have hb2 : Below w.heap.size w W2 := by rw [hW2]; exact ((Below.refl _ _).alloc (Nat.le_refl _) _).alloc (by simp) _
  have p0 : W2.cell? ⟨w.heap.size, 0, none⟩ = some (.string key) := by rw [hW2]; simp [go_sem]
  have p1 : W2.cell? ⟨w.heap.size, 1, none⟩ = some (.string src) := by rw [hW2]; simp [go_sem]
  have p2 : W2.cell? ⟨w.heap.size, 2, none⟩ = some (.string dst) := by rw [hW2]; simp [go_sem]
  have p3 : W2.cell? ⟨w.heap.size, 3, none⟩ = some (.int .i64 amount) := by rw [hW2]; simp [go_sem]
  rw [← hW2]
  clear hW2
  have HL2 := Lib.hid (HL.out.below hb2)
  obtain ⟨l0, l1, l2, _⟩ := HL2.out.cells
  obtain ⟨kb, bb, rfl, rfl, hne, m1, f, m2, hbal⟩ : ∃ kb bb, kv = .map (some kb) ∧ bv = .map (some bb) ∧ kb ≠ bb ∧ IMap W2 kb c (keyIdx L) ∧ ∃ f, IMap W2 bb c f ∧ ∀ s, (f s).getD 0 = balI L s := by
    rcases HL2.out.maps with ⟨_, _, h⟩ | h
    · have h2 := HI.out; rw [h] at h2; simp [keyIdx] at h2
    · exact h
  have hlook : ∀ n, (Instr.lookup 56 (.map (some kb)) (.string key) true).run Try.prog (W2.drewN n) = .ok (.tuple #[.int .i64 j, .bool true]) (W2.drewN n) := by
    intro n
    have := (m1.block (w' := W2.drewN n) rfl).look_ok key hks
    rw [HI.out] at this
    exact this
  clear m1 m2 hbal hne
  obtain ⟨g, cap, rfl, _, q0, q1, q2, q3⟩ := HL2.out.at hjn
  rw [← HQ.out] at q0 q1 q2 q3
  clear hv
  go_quiet (fail)
  go_wp2
  cases v
  all_goals
    go_quiet (fail)
    go_wp2
    go_ret
    exact ⟨ret_int (by simp), below_drewN hb2 _⟩

set_option maxHeartbeats 1000000 in
set_option maxRecDepth 100000 in
theorem post_many (lb c : Nat) (pv kv bv : Value) (L : List Pst) (p : Pst) (w : World) (hf : p.fits) (hL : LedgerIs w lb c pv kv bv L) (hr : rightB p = true) (hi : keyIdx L p.key = none) (hm : 100000 ≤ L.length) :
    Calls Try.prog 13 #[.pointer (some ⟨lb, 0, none⟩), p.val] w fun e w' => e = .returned (.int .i64 2) ∧ Below w.heap.size w w' := by
  have K := Lib.hid (fun w => right_any p w hf)
  obtain ⟨key, src, dst, amount⟩ := p
  have hks : key.size ≤ 9223372036854775807 := hf.1
  unfold Pst.val Pst.cells at *
  dsimp only at *
  have HL := Lib.hid hL
  have HI := Lib.hid hi
  have hmz : decide ((L.length : Int) ≥ 100000) = true := decide_eq_true (by omega)
  clear hL hf hi
  go_enter Try.func13, Try.ntmps13
  go_wp2_with (go_at_call 24; refine (K.out _).mono ?_; rintro e w' ⟨rfl, rfl⟩)
  obtain ⟨W2, hW2⟩ : ∃ W, W = (w.alloc (Obj.cells #[.string key, .string src, .string dst, .int .i64 amount] 40)).alloc (Obj.cells #[.string key, .string src, .string dst, .int .i64 amount] 40) := ⟨_, rfl⟩
  have hb2 : Below w.heap.size w W2 := by rw [hW2]; exact ((Below.refl _ _).alloc (Nat.le_refl _) _).alloc (by simp) _
  have p0 : W2.cell? ⟨w.heap.size, 0, none⟩ = some (.string key) := by rw [hW2]; simp [go_sem]
  rw [← hW2]
  clear hW2
  have HL2 := Lib.hid (HL.out.below hb2)
  obtain ⟨l0, l1, l2, _⟩ := HL2.out.cells
  obtain ⟨kb, bb, rfl, rfl, hne, m1, f, m2, hbal⟩ : ∃ kb bb, kv = .map (some kb) ∧ bv = .map (some bb) ∧ kb ≠ bb ∧ IMap W2 kb c (keyIdx L) ∧ ∃ f, IMap W2 bb c f ∧ ∀ s, (f s).getD 0 = balI L s := by
    rcases HL2.out.maps with ⟨_, _, h⟩ | h
    · rw [h] at hm; simp at hm
    · exact h
  have hlook : ∀ n, (Instr.lookup 56 (.map (some kb)) (.string key) true).run Try.prog (W2.drewN n) = .ok (.tuple #[.int .i64 0, .bool false]) (W2.drewN n) := by
    intro n
    have := (m1.block (w' := W2.drewN n) rfl).look_ok key hks
    rw [HI.out] at this
    exact this
  clear m1 m2 hbal hne
  obtain ⟨g, cap, rfl, _⟩ := HL2.out.at (j := 0) (by omega)
  go_quiet (fail)
  go_wp2
  go_ret
  exact ⟨rfl, below_drewN hb2 _⟩

set_option maxHeartbeats 1000000 in
set_option maxRecDepth 100000 in
theorem post_funds (lb c : Nat) (pv kv bv : Value) (L : List Pst) (p : Pst) (w : World) (hf : p.fits) (hL : LedgerIs w lb c pv kv bv L) (hr : rightB p = true) (hi : keyIdx L p.key = none) (hm : L.length < 100000)
    (hsrc : srcB p.src = false) (hbal : balI L p.src < p.amount) :
    Calls Try.prog 13 #[.pointer (some ⟨lb, 0, none⟩), p.val] w fun e w' => e = .returned (.int .i64 52) ∧ Below w.heap.size w w' := by
  have K := Lib.hid (fun w => right_any p w hf)
  obtain ⟨key, src, dst, amount⟩ := p
  have hks : key.size ≤ 9223372036854775807 := hf.1
  have hss : src.size ≤ 9223372036854775807 := hf.2.1
  unfold Pst.val Pst.cells at *
  dsimp only at *
  have HL := Lib.hid hL
  have HI := Lib.hid hi
  have hmz : decide ((L.length : Int) ≥ 100000) = false := decide_eq_false (by omega)
  have hbz : decide (balI L src < amount) = true := decide_eq_true hbal
  have KP := Lib.hid (prefix_of src false hsrc)
  clear hL hf hi hsrc
  go_enter Try.func13, Try.ntmps13
  go_wp2_with (go_at_call 24; refine (K.out _).mono ?_; rintro e w' ⟨rfl, rfl⟩)
  obtain ⟨W2, hW2⟩ : ∃ W, W = (w.alloc (Obj.cells #[.string key, .string src, .string dst, .int .i64 amount] 40)).alloc (Obj.cells #[.string key, .string src, .string dst, .int .i64 amount] 40) := ⟨_, rfl⟩
  have hb2 : Below w.heap.size w W2 := by rw [hW2]; exact ((Below.refl _ _).alloc (Nat.le_refl _) _).alloc (by simp) _
  have p0 : W2.cell? ⟨w.heap.size, 0, none⟩ = some (.string key) := by rw [hW2]; simp [go_sem]
  have p1 : W2.cell? ⟨w.heap.size, 1, none⟩ = some (.string src) := by rw [hW2]; simp [go_sem]
  have p3 : W2.cell? ⟨w.heap.size, 3, none⟩ = some (.int .i64 amount) := by rw [hW2]; simp [go_sem]
  rw [← hW2]
  clear hW2
  have HL2 := Lib.hid (HL.out.below hb2)
  obtain ⟨l0, l1, l2, _⟩ := HL2.out.cells
  have hlook := HL2.out.lookK key hks
  rw [HI.out] at hlook
  have hlook2 := HL2.out.lookB src hss
  obtain ⟨ao, cap, rfl⟩ := HL2.out.slice
  obtain ⟨bl, hbl⟩ : ∃ bl, bl = balI L src := ⟨_, rfl⟩
  rw [← hbl] at hlook2 hbz hbal
  clear hbl
  simp only [Option.getD_none, Option.isSome_none] at hlook
  go_quiet (fail)
  go_wp2
  go_quiet ((go_at_call 25; exact quiet_again_same (KP.out _)))
  go_wp2
  go_ret
  exact ⟨rfl, below_drewN (below_drewN hb2 _) _⟩

end Go.Proofs.Ytkimcopmfhjjcaa

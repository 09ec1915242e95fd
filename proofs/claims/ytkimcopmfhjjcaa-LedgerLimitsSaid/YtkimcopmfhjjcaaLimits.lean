/- The law 'LedgerLimits': the walk. -/
import Derived.Test.YtkimcopmfhjjcaaSanity
import Derived.Test.YtkimcopmfhjjcaaLimitsLaw
import Derived.Deep.DeepCutAuto
namespace Go.Proofs.Ytkimcopmfhjjcaa
open Go.RowKit

theorem Try.infoByte : (Try.prog.info? 5).map (fun i => (i.zero, i.size, i.bytes)) = some (some (.int .u8 0), 1, 1) := by kernel_rfl
theorem make_at (n : Nat) (hn : n ≤ 1000) (w : World) :
    (Instr.makeSlice 34 (.int .i64 n) (.int .i64 n)).run Try.prog w = .ok (.slice (some ⟨w.heap.size, 0, none⟩) n n) (w.alloc (.cells (madeCells #[.int .u8 0] n) 5)) := by
  obtain ⟨i, hi, h0, h1, h2⟩ := info_parts Try.infoByte
  exact make_zb 34 5 i Try.underlying34 hi h0 h1 h2 n hn w
theorem conv_at (n : Nat) (w : World) :
    (convert 34 9 (.slice (some ⟨w.heap.size, 0, none⟩) n n)).run Try.prog (w.alloc (.cells (madeCells #[.int .u8 0] n) 5)) = .ok (.string (zb n)) (w.alloc (.cells (madeCells #[.int .u8 0] n) 5)) :=
  conv_zb 34 9 5 Try.underlying34 Try.underlying5 Try.underlying9 n w

theorem fits_of {p : Pst} (h1 : p.key.size ≤ 100) (h2 : p.src.size ≤ 100) (h3 : p.dst.size ≤ 100) (h4 : 0 ≤ p.amount) (h5 : p.amount ≤ 2000000000) : p.fits := ⟨by omega, by omega, by omega, by omega, by omega⟩
theorem paid_led {N K : Nat} {w0 w : World} {lb c : Nat} {L : List Pst} (h : LedW N K w0 w lb c L) (s : ByteArray) (hs : s.size ≤ 9223372036854775807) (x : Bool) (hx : (keyIdx L s).isSome = x) :
    Calls Try.prog 15 #[.pointer (some ⟨lb, 0, none⟩), .string s] w fun e w' => e = .returned (.bool x) ∧ w = w' := by
  subst hx
  exact (paid_any _ lb c L s w hs h.led).mono fun _ _ h => ⟨h.1, h.2.symm⟩

set_option maxHeartbeats 1000000 in
set_option maxRecDepth 100000 in
theorem limits_any (a b n t : Int) (w : World) (ha : 0 ≤ a ∧ a ≤ 255) (hb : 0 ≤ b ∧ b ≤ 255) (ht : 0 ≤ t ∧ t ≤ 65535) (hn : -9223372036854775808 ≤ n ∧ n ≤ 9223372036854775807) :
    Calls Try.prog 5 #[.agg #[.int .u8 a, .int .u8 b], .int .i64 n, .int .u16 t] w fun e w' => e = .returned (.bool true) ∧ Below w.heap.size w w' := by
  obtain ⟨p, hp⟩ := Int.eq_ofNat_of_zero_le (Int.emod_nonneg a (show (104 : Int) ≠ 0 by omega))
  obtain ⟨q, hq⟩ := Int.eq_ofNat_of_zero_le (Int.emod_nonneg b (show (104 : Int) ≠ 0 by omega))
  obtain ⟨k, hk⟩ := Int.eq_ofNat_of_zero_le (Int.emod_nonneg t (show (300 : Int) ≠ 0 by omega))
  have hp1 : p < 104 := by omega
  have hq1 : q < 104 := by omega
  have hk1 : k < 300 := by omega
  obtain ⟨a0, a1⟩ := ha
  obtain ⟨b0, b1⟩ := hb
  obtain ⟨t0, t1⟩ := ht
  have mkp := make_at p (by omega)
  have mkq := make_at q (by omega)
  have cvp := conv_at p
  have cvq := conv_at q
  have zsp := zb_size p
  have zsq := zb_size q
  go_enter Try.func5, Try.ntmps5
  go_wp2_with fail
  refine (sanity_any _).mono ?_
  rintro e w1 ⟨rfl, hb⟩
  have c0 : w1.cell? ⟨w.heap.size, 0, none⟩ = some (.int .u8 a) := (hb.cell (p := ⟨w.heap.size, 0, none⟩) (by simp)).trans (by simp [go_sem])
  have c1 : w1.cell? ⟨w.heap.size, 1, none⟩ = some (.int .u8 b) := (hb.cell (p := ⟨w.heap.size, 1, none⟩) (by simp)).trans (by simp [go_sem])
  have hsz : w.heap.size < w1.heap.size := by have := hb.size; simp at this; omega
  have hB : Below w.heap.size w w1 := ((Below.refl _ _).alloc (Nat.le_refl _) _).trans (hb.mono (by simp))
  have HB := Lib.hid hB
  clear hB hb
  have cvq2 := conv_at q (w1.alloc (.cells (madeCells #[.int .u8 0] p) 5))
  rw [show (w1.alloc (.cells (madeCells #[.int .u8 0] p) 5)).heap.size = w1.heap.size + 1 by simp] at cvq2
  go_upto_if 36 with fail
  clear mkp mkq cvp cvq cvq2 c0 c1
  obtain ⟨W2, hW2⟩ : ∃ W2, W2 = (w1.alloc (.cells (madeCells #[.int .u8 0] p) 5)).alloc (.cells (madeCells #[.int .u8 0] q) 5) := ⟨_, rfl⟩
  have HB2 : Hid (Below w.heap.size w W2) := by
    rw [hW2]
    exact (HB.out.alloc (by omega) _).alloc (by simp; omega) _
  rw [← hW2]
  clear hW2 HB hsz
  go_cut [8, 11] (fun key line wx => ∃ (K : ByteArray) (ln : Bool), key = .string K ∧ line = .bool ln ∧ Hid (nameB K = (!ln && decide (1 ≤ K.size) && decide (K.size ≤ 100)) ∧ K ≠ sOther ∧ K.size < 104) ∧ Hid (Below w.heap.size w wx))
  case first =>
    by_cases hkp : k < p
    · have hkpz : (k : Int) < p := by omega
      go_wp2_with fail
      go_quiet (fail)
      go_wp2_with fail
      go_meet
      exact ⟨lineS p k, true, rfl, rfl, ⟨by rw [name_line]; rfl, line_ne p k (by decide), by rw [lineS_size hkp]; exact hp1⟩, bl_drews HB2.out (Drew.n _ _)⟩
    · have hkpz : ¬ (k : Int) < p := by omega
      go_wp2_with fail
      go_meet
      exact ⟨zb p, false, rfl, rfl, ⟨by rw [name_zb, zb_size]; rfl, zb_ne p (s := sOther) (c := 111) rfl (by decide), by rw [zb_size]; exact hp1⟩, HB2⟩
  case rest =>
    obtain ⟨K, ln, rfl, rfl, HK, HB⟩ := hcut
    clear HB2
    go_wp2_with fail
    refine (new_led wc).mono ?_
    rintro e w3 ⟨rfl, hl⟩
    have H3 := Lib.hid hl
    clear hl
    have hKs := HK.out.2.2
    have hK63 : K.size ≤ 9223372036854775807 := by omega
    obtain ⟨ok, hok⟩ : ∃ ok, ok = (!ln && decide (1 ≤ K.size) && decide (K.size ≤ 100) && decide (1 ≤ q) && decide (q ≤ 100) && decide (1 ≤ n) && decide (n ≤ 1000000000)) := ⟨_, rfl⟩
    have HOK := Lib.hid hok
    clear hok
    go_upto_region 13 with fail
    go_cut [78] (fun c wx => c = .bool ok ∧ wx = w3)
    case first =>
      clear H3 HB HK
      have LEAF : Hid (∀ v : Bool, (!ln && decide (1 ≤ K.size) && decide (K.size ≤ 100) && decide (1 ≤ q) && decide (q ≤ 100) && decide (1 ≤ n) && decide (n ≤ 1000000000)) = v → Value.bool v = Value.bool ok) := fun v h => congrArg _ (h.symm.trans HOK.out.symm)
      cases ln with
      | true => go_wp2_with fail; go_meet; exact ⟨LEAF.out _ (by simp), rfl⟩
      | false =>
      by_cases h1 : 1 ≤ K.size
      rotate_left
      · have d1 : decide ((K.size : Int) ≥ 1) = false := decide_eq_false (by omega)
        have e1 := Lib.hid h1
        clear h1
        go_wp2_with fail; go_meet; exact ⟨LEAF.out _ (by rw [decide_eq_false (p := 1 ≤ K.size) (by have := e1.out; omega)]; simp), rfl⟩
      have d1 : decide ((K.size : Int) ≥ 1) = true := decide_eq_true (by omega)
      have e1 := Lib.hid h1
      clear h1
      by_cases h2 : K.size ≤ 100
      rotate_left
      · have d2 : decide ((K.size : Int) ≤ 100) = false := decide_eq_false (by omega)
        have e2 := Lib.hid h2
        clear h2
        go_wp2_with fail; go_meet; exact ⟨LEAF.out _ (by rw [decide_eq_false (p := K.size ≤ 100) (by have := e2.out; omega)]; simp), rfl⟩
      have d2 : decide ((K.size : Int) ≤ 100) = true := decide_eq_true (by omega)
      have e2 := Lib.hid h2
      clear h2
      by_cases h3 : 1 ≤ q
      rotate_left
      · have d3 : decide ((q : Int) ≥ 1) = false := decide_eq_false (by omega)
        have e3 := Lib.hid h3
        clear h3
        go_wp2_with fail; go_meet; exact ⟨LEAF.out _ (by rw [decide_eq_false (p := 1 ≤ q) (by have := e3.out; omega)]; simp), rfl⟩
      have d3 : decide ((q : Int) ≥ 1) = true := decide_eq_true (by omega)
      have e3 := Lib.hid h3
      clear h3
      by_cases h4 : q ≤ 100
      rotate_left
      · have d4 : decide ((q : Int) ≤ 100) = false := decide_eq_false (by omega)
        have e4 := Lib.hid h4
        clear h4
        go_wp2_with fail; go_meet; exact ⟨LEAF.out _ (by rw [decide_eq_false (p := q ≤ 100) (by have := e4.out; omega)]; simp), rfl⟩
      have d4 : decide ((q : Int) ≤ 100) = true := decide_eq_true (by omega)
      have e4 := Lib.hid h4
      clear h4
      by_cases h5 : 1 ≤ n
      rotate_left
      · have d5 : decide (n ≥ 1) = false := decide_eq_false (by omega)
        have e5 := Lib.hid h5
        clear h5
        go_wp2_with fail; go_meet; exact ⟨LEAF.out _ (by rw [decide_eq_false (p := 1 ≤ n) (by have := e5.out; omega)]; simp), rfl⟩
      have d5 : decide (n ≥ 1) = true := decide_eq_true (by omega)
      have e5 := Lib.hid h5
      clear h5
      by_cases h6 : n ≤ 1000000000
      rotate_left
      · have d6 : decide (n ≤ 1000000000) = false := decide_eq_false (by omega)
        have e6 := Lib.hid h6
        clear h6
        go_wp2_with fail; go_meet; exact ⟨LEAF.out _ (by rw [decide_eq_false (p := n ≤ 1000000000) (by have := e6.out; omega)]; simp), rfl⟩
      have d6 : decide (n ≤ 1000000000) = true := decide_eq_true (by omega)
      have e6 := Lib.hid h6
      clear h6
      go_wp2_with fail; go_meet; exact ⟨LEAF.out _ (by rw [decide_eq_true e1.out, decide_eq_true e2.out, decide_eq_true e3.out, decide_eq_true e4.out, decide_eq_true e5.out, decide_eq_true e6.out]; rfl), rfl⟩
    case rest =>
      obtain ⟨rfl, rfl⟩ := hcut
      have hlaw := limits_all K (zb q) n (zb_ne q (s := sMint) (c := 109) rfl (by decide)) HK.out.2.1 ok (by rw [HOK.out, HK.out.1, name_zb]; simp only [Bool.and_assoc])
      obtain ⟨L1, x1, y1, x2, y2, x3, y3, x4⟩ := hlaw
      have X1 := Lib.hid x1
      have Y1 := Lib.hid y1
      have X2 := Lib.hid x2
      have Y2 := Lib.hid y2
      have X3 := Lib.hid x3
      have Y3 := Lib.hid y3
      have X4 := Lib.hid x4
      clear x1 y1 x2 y2 x3 y3 x4 HOK HK
      have F1 : Hid (Pst.fits ⟨K, sMint, zb q, n⟩) := ⟨hK63, (show sMint.size ≤ _ by decide), by show (zb q).size ≤ _; omega, hn.1, hn.2⟩
      have MK1 : Hid (∀ w, Calls Try.prog 14 #[.string K, .string ⟨#[109, 105, 110, 116]⟩, .string (zb q), .int .i64 n] w fun e w' => e = .returned (Pst.val ⟨K, sMint, zb q, n⟩) ∧ Below w.heap.size w w') := fun w => mkpost_any ⟨K, sMint, zb q, n⟩ w
      have MK2 : Hid (∀ w, Calls Try.prog 14 #[.string ⟨#[111, 116, 104, 101, 114]⟩, .string ⟨#[109, 105, 110, 116]⟩, .string ⟨#[120]⟩, .int .i64 1000000000] w fun e w' => e = .returned (Pst.val pOther) ∧ Below w.heap.size w w') := fun w => mkpost_any pOther w
      have MK3 : Hid (∀ w, Calls Try.prog 14 #[.string ⟨#[109, 111, 114, 101]⟩, .string ⟨#[109, 105, 110, 116]⟩, .string ⟨#[120]⟩, .int .i64 1000000001] w fun e w' => e = .returned (Pst.val pMore) ∧ Below w.heap.size w w') := fun w => mkpost_any pMore w
      have F2 : Hid (Pst.fits pOther) := fits_of (by decide) (by decide) (by decide) (by decide) (by decide)
      have F3 : Hid (Pst.fits pMore) := fits_of (by decide) (by decide) (by decide) (by decide) (by decide)
      have hwant : ((if ok then 0 else 1 : Int) == (if ok then 0 else 1)) = true := by simp
      cases ok
      all_goals
        go_wp2_with fail
        refine (MK1.out _).mono ?_
        rintro e w4 ⟨rfl, hb⟩
        have H4 := Lib.hid (H3.out.calm hb)
        clear hb H3
        go_wp2_with fail
        refine (post_led H4.out _ F1.out (by omega) _ _ X1.out Y1.out).mono ?_
        rintro e w5 ⟨rfl, hl⟩
        have H5 := Lib.hid hl
        clear hl H4
        go_wp2_with fail
        refine (MK2.out _).mono ?_
        rintro e w6 ⟨rfl, hb⟩
        have H6 := Lib.hid (H5.out.calm hb)
        clear hb H5
        go_wp2_with fail
        refine (post_led H6.out _ F2.out (by omega) _ _ X2.out Y2.out).mono ?_
        rintro e w7 ⟨rfl, hl⟩
        have H7 := Lib.hid hl
        clear hl H6
        go_wp2_with fail
        refine (MK3.out _).mono ?_
        rintro e w8 ⟨rfl, hb⟩
        have H8 := Lib.hid (H7.out.calm hb)
        clear hb H7
        go_wp2_with fail
        refine (post_led H8.out _ F3.out (by omega) _ _ X3.out Y3.out).mono ?_
        rintro e w9 ⟨rfl, hl⟩
        have H9 := Lib.hid hl
        clear hl H8
        go_wp2_with fail
        refine (paid_led H9.out K hK63 _ X4.out).mono ?_
        rintro e w' ⟨rfl, rfl⟩
        go_wp2_with fail
        go_ret
        exact ⟨rfl, HB.out.trans (H9.out.below.mono HB.out.size)⟩

end Go.Proofs.Ytkimcopmfhjjcaa

/- The program's natural numbers: the loop of a long division. -/
import Derived.Lib.ItoaNum
import Derived.Deep.RegionHeld3
import Derived.Deep.LoopGhost
import Derived.Test.YtebigkjilklodaaDoorLimbs
set_option linter.unusedVariables false
set_option linter.unusedSimpArgs false
namespace Go.Proofs.YtebigkjilklodaaDoor
open Go.RowKit

/-- The shift that makes the first digit great. -/
theorem lz_facts {d : Nat} (h0 : 0 < d) (h : d < 4294967296) : ∃ s : Nat, s ≤ 31 ∧ (32 - (Lib.bitLen d : Int)) = s ∧ 2147483648 ≤ d * 2 ^ s ∧ d * 2 ^ s + 2 ^ s ≤ 4294967296 := by
  have hb : 1 ≤ Lib.bitLen d ∧ 2 ^ (Lib.bitLen d - 1) ≤ d ∧ d < 2 ^ Lib.bitLen d := Lib.bitLenAux_bounds 64 d (by omega) (by omega)
  generalize Lib.bitLen d = k at hb
  obtain ⟨h1, h2, h3⟩ := hb
  have hk : k ≤ 32 := by
    rcases Nat.lt_or_ge 32 k with hk | hk
    · have := Nat.pow_le_pow_right (show 0 < 2 by omega) (show 32 ≤ k - 1 by omega)
      omega
    · exact hk
  refine ⟨32 - k, by omega, by omega, ?_, ?_⟩
  · have e : 2 ^ (k - 1) * 2 ^ (32 - k) = 2147483648 := by rw [← Nat.pow_add, show k - 1 + (32 - k) = 31 by omega]
    have := Nat.mul_le_mul_right (2 ^ (32 - k)) h2
    omega
  · have e : 2 ^ k * 2 ^ (32 - k) = 4294967296 := by rw [← Nat.pow_add, show k + (32 - k) = 32 by omega]
    have := Nat.mul_le_mul_right (2 ^ (32 - k)) h3
    rw [e, Nat.succ_mul] at this
    exact this

set_option maxHeartbeats 600000 in
set_option maxRecDepth 100000 in
theorem pdiv_long (v1 v2 : Value) (a b : Nat) (w : World) (h1 : NatAt w.heap.size w v1 a) (h2 : NatAt w.heap.size w v2 b) (hl : b ≤ a) (hb : 4294967296 ≤ b) (n1 : (limbs a).length ≤ 1000000) :
    Calls Tryd.prog 84 #[v1, v2] w (DivEnd a b w) := by
  obtain ⟨i0, hi, hz0, hz1, hz2⟩ := info_parts Tryd.infoU32
  have H1 := Lib.hid h1
  have H2 := Lib.hid h2
  have HC := Lib.hid (pcmpl_any _ _ v1 v2 a b w h1 h2 (by omega))
  have hcmp : decide (cmpN a b < 0) = false := by
    apply decide_eq_false
    unfold cmpN
    rw [if_neg (by omega)]
    split <;> omega
  obtain ⟨c, hc⟩ : ∃ c, c = cmpN a b := ⟨_, rfl⟩
  rw [← hc] at HC hcmp
  have hn2 : 1 < (limbs b).length := limbs_len_gt (by simpa using hb)
  have hnm := limbs_mono hl
  obtain ⟨ao, cap, rfl, hcapb, hc2⟩ := h2.open
  obtain ⟨ao1, cap1, rfl, _, _⟩ := h1.open
  obtain ⟨b0, o0, rfl, hbl, hcell⟩ := hc2 ((limbs b).length - 1) (by omega)
  have hd0 := limbs_at_last (n := b) (by omega)
  have hdl := (limbs_dig b).at ((limbs b).length - 1)
  have HTS := Lib.hid (fun s => top_shift (b := b) (s := s) (by omega))
  obtain ⟨d, hd⟩ : ∃ d, d = (limbs b)[(limbs b).length - 1]?.getD 0 := ⟨_, rfl⟩
  rw [← hd] at hcell hd0 hdl HTS
  obtain ⟨s, hs31, hs32, hs1, hs2⟩ := lz_facts (by omega) hdl
  obtain ⟨t1, t2⟩ := HTS.out s hs1 hs2
  have HLZ := Lib.hid (fun w => Tryd.bits_LeadingZeros32 (d : Int) w (by omega) (by omega))
  rw [Int.toNat_natCast, hs32] at HLZ
  have HUA := Lib.hid (fun w h => pup_any (.slice ao1 (limbs a).length cap1) (limbs a) s w h (limbs_dig a) (by omega) hs31)
  have HUB := Lib.hid (fun w h => pup_any (.slice (some ⟨b0, o0, none⟩) (limbs b).length cap) (limbs b) s w h (limbs_dig b) (by omega) hs31)
  rw [valL_limbs] at HUA HUB
  obtain ⟨la, hla⟩ : ∃ la, la = (limbs a).length := ⟨_, rfl⟩
  obtain ⟨n, hn⟩ : ∃ n, n = (limbs b).length := ⟨_, rfl⟩
  have halt := valL_lt (limbs_dig a)
  rw [valL_limbs, ← hla] at halt
  have HALT := Lib.hid halt
  clear halt
  rw [← hla] at H1 HC hnm n1 HUA ⊢
  rw [← hn] at H2 HC hn2 hnm hcapb hcell t1 t2 HUB ⊢
  have T1 := Lib.hid t1
  have T2 := Lib.hid t2
  have HNB := Lib.hid hb
  have hne1 : ((n : Int) == 1) = false := by simp; omega
  have e1 : ((n : Int) - 1).toNat = n - 1 := by omega
  clear h1 h2 hc hc2 hd hd0 hs32 hs1 hs2 HTS t1 t2 hla hn hb hl
  go_enter Tryd.func84, Tryd.ntmps84
  go_wp2_with fail
  refine HC.out.mono ?_
  rintro e w' ⟨rfl, nd, rfl⟩
  clear HC
  go_wp2_with fail
  refine (HLZ.out _).mono ?_
  rintro e w' ⟨rfl, rfl⟩
  clear HLZ
  go_wp2_with fail
  refine (HUA.out (w.drewN nd) H1.out).mono ?_
  rintro e w2 ⟨uA, rfl, lA, dA, vA, OA, bA⟩
  have LA := Lib.hid lA
  have DA := Lib.hid dA
  have VA := Lib.hid vA
  have OA := Lib.hid OA
  have BA : Hid (Below w.heap.size w w2) := ((Drew.n w nd).below _).trans bA
  have hszA : w.heap.size < w2.heap.size := OA.out.lt.2
  clear lA dA vA bA HUA H1
  go_wp2_with fail
  refine (HUB.out w2 (LimbsAt.mono H2.out BA.out (by omega))).mono ?_
  rintro e w3 ⟨uB, rfl, lB, dB, vB, OB, bB⟩
  have hsp := digits_split uB dB
  have hrow := LimbsAt.of_own OB
  have HT := trim_any w3.heap.size (some ⟨w2.heap.size, 0, none⟩) (n + 1) uB w3 (by rw [lB] at hrow ⊢; exact hrow) dB (by omega)
  rw [lB] at HT
  rw [vB] at hsp HT
  rw [T1.out] at HT hsp
  obtain ⟨_, hsp⟩ := hsp
  rw [hsp] at OB
  have HT := Lib.hid HT
  have OB := Lib.hid OB
  have HBB := Lib.hid bB
  have hszB : w2.heap.size < w3.heap.size := OB.out.lt.2
  obtain ⟨zs, hzs⟩ : ∃ zs, zs = List.replicate (uB.length - n) 0 := ⟨_, rfl⟩
  rw [← hzs] at OB
  clear lB dB vB bB hrow hsp HUB H2 hzs
  go_wp2_with fail
  refine HT.out.mono ?_
  rintro e w' ⟨rfl, rfl⟩
  clear HT
  go_wp2_with (at_make; refine wpList_make_full _ rfl _ _ 104 rfl w.heap.size 101 i0 (.int .u32 0) 1 Tryd.underlying104 hi hz0 hz1 _ _ _ _ (la + 1 - n) rfl rfl ?c1 ?c2 ?b2 ?b3 ?b4 ?_)
  case c1 => omega
  case c2 => omega
  case b2 => rw [hz2]; omega
  case b3 => unfold maxLen; omega
  case b4 => omega
  intro w4 hown hgrow
  obtain ⟨lq, hlq⟩ : ∃ lq, lq = la + 1 - n := ⟨_, rfl⟩
  have hlq1 : lq + n = la + 1 := by omega
  have hlq0 : 1 ≤ lq := by omega
  rw [← hlq] at hown ⊢
  have HQ := OwnL.made hown
  have hb34 : Below w3.heap.size w3 w4 := (Below.refl _ _).grown hgrow (Nat.le_refl _) (fun j hj => by cases hj)
  obtain ⟨v, hv⟩ : ∃ v, v = limbs (b * 2 ^ s) := ⟨_, rfl⟩
  rw [← hv] at OB T1 T2
  have hdv : Dig v := by rw [hv]; exact limbs_dig _
  have hvv : valL v = b * 2 ^ s := by rw [hv, valL_limbs]
  have hVpos : 0 < valL v := by rw [hvv]; exact Nat.mul_pos (by have := HNB.out; omega) (Nat.pow_pos (by omega))
  have hINV : DivInv w.heap.size w.heap.size (la + 1) w2.heap.size (n + 1) w3.heap.size n lq v zs (a * 2 ^ s) w w4 lq uA [] := by
    refine ⟨by rw [LA.out]; omega, DA.out, by simp, Dig.nil, (OA.out.later HBB.out hszA).later hb34 (Nat.lt_trans hszA hszB), (OB.out.base (Nat.le_of_lt hszA)).later hb34 hszB, ?_, BA.out.trans ((HBB.out.mono (Nat.le_of_lt hszA)).trans (hb34.mono (Nat.le_of_lt (Nat.lt_trans hszA hszB)))), ?_, ?_⟩
    · rw [List.append_nil, u32s_zeros]; exact HQ
    · rw [VA.out]
      exact div_start hs31 T1.out (by omega) T2.out (by rw [show lq + (n - 1) = la by omega]; exact HALT.out)
    · rw [VA.out]; simp [valL]
  have HINV := Lib.hid hINV
  have DV := Lib.hid hdv
  have VV := Lib.hid hvv
  have HVP := Lib.hid hVpos
  obtain ⟨gv, hgv⟩ : ∃ g, g = w2.heap.size := ⟨_, rfl⟩
  obtain ⟨gq, hgq⟩ : ∃ g, g = w3.heap.size := ⟨_, rfl⟩
  rw [← hgv] at HINV
  rw [← hgv] at hszA hszB ⊢
  rw [← hgq] at HINV hszB ⊢
  obtain ⟨m, hm⟩ : ∃ m, n = m + 2 := ⟨n - 2, by omega⟩
  have HM := Lib.hid hm
  clear hINV hdv hvv hVpos hv hlq hown hgrow HQ hb34 OA OB BA HBB LA DA VA hgv hgq hm
  go_wp2_with fail
  go_loopw [12] (fun iv wr => ∃ (J : Nat) (z : Int) (us qs : List Nat), J ≤ lq ∧ iv = .int .i64 z ∧ Hid (z = (J : Int) - 1) ∧ -1 ≤ z ∧ z < lq ∧ Hid (DivInv w.heap.size w.heap.size (la + 1) gv (n + 1) gq n lq v zs (a * 2 ^ s) w wr J us qs)) (fun iv _ => (intOf iv + 1).toNat)
  case atStart => exact ⟨lq, (lq : Int) - 1, uA, [], Nat.le_refl _, rfl, rfl, by omega, by omega, HINV⟩
  case round =>
    clear HINV
    obtain ⟨J, z, us, qs, hJ, rfl, HZ, hz1, hz2, HI⟩ := hrel
    by_cases hz : 0 ≤ z
    · obtain ⟨j, rfl⟩ := Int.eq_ofNat_of_zero_le hz
      obtain rfl : J = j + 1 := by have := HZ.out; omega
      obtain ⟨i1, i2, i3, i4, i5, i6, i7, i8, i9, i10⟩ := HI.out
      obtain ⟨lo, x, hi', rfl, ll, lx, dlo, dx, dhi, vlo, vx, vus, vrep⟩ := win_split i1 (by omega) i2 DV.out T1.out i9
      have hqlt : valL x / valL v < 4294967296 := by rw [Nat.div_lt_iff_lt_mul HVP.out]; exact vx
      have hus : (lo ++ x ++ hi').length = lq + n := i1
      have c0 := i5.cell (j := j + n) (u32s_get _ (j + n) (by omega))
      have c1 := i5.cell (j := j + n - 1) (u32s_get _ (j + n - 1) (by omega))
      have c2 := i5.cell (j := j + n - 2) (u32s_get _ (j + n - 2) (by omega))
      rw [win_get ll (by omega)] at c0
      rw [show (lo ++ x ++ hi')[j + n - 1]?.getD 0 = x[n - 1]?.getD 0 by rw [show j + n - 1 = j + (n - 1) by omega, win_get ll (by omega)]] at c1
      rw [show (lo ++ x ++ hi')[j + n - 2]?.getD 0 = x[n - 2]?.getD 0 by rw [show j + n - 2 = j + (n - 2) by omega, win_get ll (by omega)]] at c2
      have hvl : n - 1 < (v ++ zs).length := by have := T1.out; simp; omega
      have hvl2 : n - 2 < (v ++ zs).length := by have := T1.out; simp; omega
      have c3 := i6.cell (j := n - 1) (u32s_get _ (n - 1) hvl)
      have c4 := i6.cell (j := n - 2) (u32s_get _ (n - 2) hvl2)
      rw [List.getElem?_append_left (by have := T1.out; omega)] at c3 c4
      have hk : ∀ q, q = min (((x[n]?.getD 0 * 4294967296 + x[n - 1]?.getD 0) * 4294967296 + x[n - 2]?.getD 0) / (v[n - 1]?.getD 0 * 4294967296 + v[n - 2]?.getD 0)) 4294967295 → valL x / valL v ≤ q ∧ q ≤ valL x / valL v + 1 := by
        have hm := HM.out
        intro q hq
        have t2 := T2.out
        subst hm
        exact knuth_window (n := m) dx DV.out (by omega) T1.out t2 vx hq
      have htop : x[n]?.getD 0 ≤ v[n - 1]?.getD 0 := by
        have hm := HM.out
        subst hm
        exact window_top (n := m) dx DV.out (by omega) T1.out vx
      have b0' := dx.at n
      have b1' := dx.at (n - 1)
      have b2' := dx.at (n - 2)
      have b3' := DV.out.at (n - 1)
      have b4' := DV.out.at (n - 2)
      have b5' := T2.out
      obtain ⟨x0, hx0⟩ : ∃ y, y = x[n]?.getD 0 := ⟨_, rfl⟩
      obtain ⟨x1, hx1⟩ : ∃ y, y = x[n - 1]?.getD 0 := ⟨_, rfl⟩
      obtain ⟨x2, hx2⟩ : ∃ y, y = x[n - 2]?.getD 0 := ⟨_, rfl⟩
      obtain ⟨y0, hy0⟩ : ∃ y, y = v[n - 1]?.getD 0 := ⟨_, rfl⟩
      obtain ⟨y1, hy1⟩ : ∃ y, y = v[n - 2]?.getD 0 := ⟨_, rfl⟩
      rw [← hx0] at c0 hk htop b0'
      rw [← hx1] at c1 hk b1'
      rw [← hx2] at c2 hk b2'
      rw [← hy0] at c3 hk htop b3' b5'
      rw [← hy1] at c4 hk b4'
      have HEST := Lib.hid (fun w => pest_any x0 x1 x2 y0 y1 0 w htop b1' b2' b3' b4' b5')
      obtain ⟨qd, hqd⟩ : ∃ q, q = min (((x0 * 4294967296 + x1) * 4294967296 + x2) / (y0 * 4294967296 + y1)) 4294967295 := ⟨_, rfl⟩
      rw [← hqd] at HEST
      have hk := hk qd hqd
      have hqd2 : qd ≤ 4294967295 := by rw [hqd]; exact Nat.min_le_right _ _
      have HK := Lib.hid hk
      have HUS := Lib.hid vus
      have HREP := Lib.hid vrep
      have HQLT := Lib.hid hqlt
      have LL := Lib.hid ll
      have LX := Lib.hid lx
      have DLO := Lib.hid dlo
      have DX := Lib.hid dx
      have DHI := Lib.hid dhi
      have VLO := Lib.hid vlo
      have hlu := i5.lt.2
      have hlv := i6.lt.2
      clear i1 i2 i3 i4 i5 i6 i7 i9 i10 hk vrep vus vx hqlt ll lx dlo dx dhi vlo hx0 hx1 hx2 hy0 hy1 hqd hus hvl hvl2 b0' b1' b2' b3' b4' b5' htop
      have e2 : (0 : Int) ≤ (j : Int) + n := by omega
      have e3 : IntKind.i64.wrap ((j : Int) + n) = (j : Int) + n := IntWalk.i64_in _ (by omega)
      have e4 : IntKind.i64.wrap ((j : Int) + n - 1) = (j : Int) + n - 1 := IntWalk.i64_in _ (by omega)
      have e5 : IntKind.i64.wrap ((j : Int) + n - 2) = (j : Int) + n - 2 := IntWalk.i64_in _ (by omega)
      have e6 : ((j : Int) + n).toNat = j + n := by omega
      have e7 : ((j : Int) + n - 1).toNat = j + n - 1 := by omega
      have e8 : ((j : Int) + n - 2).toNat = j + n - 2 := by omega
      have e9 : ((n : Int) - 2).toNat = n - 2 := by omega
      have e10 : (j : Int) + n < (la : Int) + 1 := by omega
      have e11 : (j : Int) + n - 1 < (la : Int) + 1 := by omega
      have e12 : (j : Int) + n - 2 < (la : Int) + 1 := by omega
      have e13 : (0 : Int) ≤ (j : Int) + n - 1 := by omega
      have e14 : (0 : Int) ≤ (j : Int) + n - 2 := by omega
      have e15 : (0 : Int) ≤ (n : Int) - 2 := by omega
      have e16 : (1 : Int) ≤ (j : Int) + n := by omega
      have e17 : (2 : Int) ≤ (j : Int) + n := by omega
      have e20 : (n : Int) - 1 < n := by omega
      have e22 : IntKind.i64.wrap ((n : Int) - 1) = (n : Int) - 1 := IntWalk.i64_in _ (by omega)
      have e23 : IntKind.i64.wrap ((n : Int) - 2) = (n : Int) - 2 := IntWalk.i64_in _ (by omega)
      have e21 : (n : Int) - 2 < n := by omega
      have e18 : (1 : Int) ≤ (n : Int) := by omega
      have e19 : (2 : Int) ≤ (n : Int) := by omega
      go_wp2_with fail
      refine wp_region_still_tail 32 (by kernel_rfl) (by kernel_rfl) ?_
      simp only [List.take_succ_cons, List.take_zero, List.drop_succ_cons, List.drop_zero]
      repeat still_step
      refine wpStill_nil ?_
      change wpList _ _ _ _ _ wr.drew
      clear e2 e3 e4 e5 e6 e7 e8 e9 e10 e11 e12 e13 e14 e15 e16 e17 e18 e19 e20 e21 e22 e23
      go_wp2_with fail
      refine (HEST.out _).mono ?_
      rintro e w5 ⟨rfl, hbE⟩
      have B5 : Below wr.heap.size wr w5 := (Drew.below (Drew.drew (Drew.refl wr)) _).trans hbE
      have hlq2 := HI.out.2.2.2.2.2.2.1.lt.2
      have HU5 := HI.out.2.2.2.2.1.later B5 hlu
      have HV5 := HI.out.2.2.2.2.2.1.later B5 hlv
      have HQ5 := Lib.hid (HI.out.2.2.2.2.2.2.1.later B5 hlq2)
      have HB5 : Hid (Below w.heap.size w w5) := HI.out.2.2.2.2.2.2.2.1.trans (B5.mono (by omega))
      have hgne : gv ≠ w.heap.size := by omega
      have hqne : gq ≠ w.heap.size := by omega
      have HTAKE := Lib.hid (fun cu cv => ptake_any w.heap.size w.heap.size (la + 1) j cu w.heap.size gv (n + 1) cv n lo x hi' v zs qd w5 HU5 HV5 hgne LL.out LX.out T1.out DX.out DV.out (by omega) (by omega) (by omega))
      clear HU5 HV5 hbE B5 HEST c0 c1 c2 c3 c4
      have f1 : (0 : Int) ≤ (j : Int) + n + 1 := by omega
      have f2 : IntKind.i64.wrap ((j : Int) + n) = (j : Int) + n := IntWalk.i64_in _ (by omega)
      have f3 : IntKind.i64.wrap ((j : Int) + n + 1) = (j : Int) + n + 1 := IntWalk.i64_in _ (by omega)
      have f4 : (j : Int) ≤ (j : Int) + n + 1 := by omega
      have f5 : (j : Int) + n + 1 ≤ (la : Int) + 1 := by omega
      have f6 : ¬ la + 1 = j := by omega
      have f7 : ((j : Int) + n + 1 - j).toNat = n + 1 := by omega
      go_wp2_with fail
      rw [show j + n + 1 - j = n + 1 by omega]
      refine (HTAKE.out _ _).mono ?_
      rintro e w6 ⟨more, y, rfl, hyl, hyd, hyv, hu6, hv6, hb6, hs6, ho6⟩
      clear HTAKE f1 f2 f3 f4 f5 f6 f7
      have HQ6 := Lib.hid (HQ5.out.block (ho6 gq hqne))
      have HB6 : Hid (Below w.heap.size w w6) := HB5.out.trans hb6
      have hgq6 : gq < w6.heap.size := HQ6.out.lt.2
      clear HQ5 HB5 hb6 hs6 ho6
      obtain ⟨k1, k2⟩ := HK.out
      have hVP := HVP.out
      have hVle : valL v ≤ 4294967296 ^ x.length := by
        have h1 := valL_lt DV.out
        rw [T1.out] at h1
        have h2 := Nat.pow_le_pow_right (show 0 < 4294967296 by omega) (show n ≤ x.length by have := LX.out; omega)
        omega
      have hcellq := HQ6.out.cell (j := j) (by
        have h := front_at (j := j + 1) (o := qs) (by omega)
        rw [Nat.add_sub_cancel] at h
        rw [u32s_get _ j (by rw [List.length_append, List.length_replicate]; omega), h])
      have hfreeq := HQ6.out.free j
      have hsf := fun d => set_front (j := j + 1) (d := d) (o := qs) (by omega)
      simp only [Nat.add_sub_cancel] at hsf
      have HSF := Lib.hid hsf
      clear hsf
      cases more with
      | false =>
        have hrest := (window_rest (z := []) hVP k1 k2 hyd (by rw [LX.out, hyl]) DX.out (by rw [LX.out]; exact hyv) (fun h => by cases h) hVle).1 rfl
        obtain ⟨q1, q2⟩ := hrest
        have hset := HQ6.out.set j (.int .u32 (qd : Int))
        rw [u32s_set, HSF.out, q1] at hset
        have HNEXT := Lib.hid (HI.out.next (w' := w6.setCell ⟨gq, j, none⟩ (.int .u32 ((valL x / valL v : Nat) : Int))) (by omega) LL.out LX.out hyl DLO.out DHI.out hyd VLO.out HUS.out (HREP.out y hyl) hVP q2 HQLT.out (hu6.other ⟨gq, j, none⟩ _ (fun e => hqne e.symm)) (hv6.other ⟨gq, j, none⟩ _ (show gv ≠ gq by omega)) hset (HB6.out.setCell (p := ⟨gq, j, none⟩) (show w.heap.size ≤ gq by omega) _))
        rw [← q1] at HNEXT
        clear hset hyv hu6 hv6 hyd hVle q1 q2 HUS HREP HQLT VLO
        go_wp2_with fail
        go_roundw
        case rel => exact ⟨j, (j : Int) - 1, _, _, by omega, rfl, rfl, by omega, by omega, HNEXT⟩
        case measure => simp [intOf]
      | true =>
        have HGIVE := Lib.hid (fun cu cv => pgive_any w.heap.size w.heap.size (la + 1) j cu w.heap.size gv (n + 1) cv n lo y hi' v zs w6 hu6 hv6 hgne LL.out hyl T1.out hyd DV.out (by omega) (by omega))
        have HYL := Lib.hid hyl
        have HYD := Lib.hid hyd
        have HYV := Lib.hid hyv
        have hq1 : 1 ≤ (qd : Int) := by
          rcases Nat.eq_zero_or_pos qd with h | h
          · exfalso
            have h0 := hyv
            rw [h] at h0
            simp only [if_true, Nat.zero_mul, Nat.add_zero] at h0
            have h1 := valL_lt hyd
            rw [hyl] at h1
            omega
          · omega
        clear hu6 hv6 hyl hyd hyv
        have f1 : (0 : Int) ≤ (j : Int) + n + 1 := by omega
        have f2 : IntKind.i64.wrap ((j : Int) + n) = (j : Int) + n := IntWalk.i64_in _ (by omega)
        have f3 : IntKind.i64.wrap ((j : Int) + n + 1) = (j : Int) + n + 1 := IntWalk.i64_in _ (by omega)
        have f4 : (j : Int) ≤ (j : Int) + n + 1 := by omega
        have f5 : (j : Int) + n + 1 ≤ (la : Int) + 1 := by omega
        have f6 : ¬ la + 1 = j := by omega
        go_wp2_with fail
        rw [show j + n + 1 - j = n + 1 by omega]
        refine (HGIVE.out _ _).mono ?_
        rintro e w7 ⟨y2, rfl, hy2l, hy2d, hy2v, hu7, hv7, hb7, hs7, ho7⟩
        have hrest := (window_rest (z := y2) hVP k1 k2 HYD.out (by rw [LX.out, HYL.out]) DX.out (by rw [LX.out]; exact HYV.out) (fun _ => ⟨hy2d, by rw [hy2l, LX.out], by rw [LX.out]; exact hy2v⟩) hVle).2 rfl
        obtain ⟨q1, q2⟩ := hrest
        have HQ7 := HQ6.out.block (ho7 gq hqne)
        have hcellq7 := (HQ7.cell (j := j) (by
          have h := front_at (j := j + 1) (o := qs) (by omega)
          rw [Nat.add_sub_cancel] at h
          rw [u32s_get _ j (by rw [List.length_append, List.length_replicate]; omega), h]))
        have hfreeq7 := HQ7.free j
        obtain ⟨p, hp⟩ : ∃ p, p = qd - 1 := ⟨_, rfl⟩
        have hpq : (qd : Int) - 1 = p := by omega
        have hset := HQ7.set j (.int .u32 (p : Int))
        have q3 : p = valL x / valL v := by omega
        rw [u32s_set, HSF.out, q3] at hset
        have HNEXT := Lib.hid (HI.out.next (w' := w7.setCell ⟨gq, j, none⟩ (.int .u32 ((valL x / valL v : Nat) : Int))) (by omega) LL.out LX.out hy2l DLO.out DHI.out hy2d VLO.out HUS.out (HREP.out y2 hy2l) hVP q2 HQLT.out (hu7.other ⟨gq, j, none⟩ _ (fun e => hqne e.symm)) (hv7.other ⟨gq, j, none⟩ _ (show gv ≠ gq by omega)) hset ((HB6.out.trans hb7).setCell (p := ⟨gq, j, none⟩) (show w.heap.size ≤ gq by omega) _))
        rw [← q3] at HNEXT
        have hpl : (p : Int) < 4294967296 := by omega
        clear hset hu7 hv7 hVle q1 q2 q3 HUS HREP HQLT VLO hcellq hfreeq HQ7 hs7 ho7 hb7 hp hy2v hy2d hy2l f1 f2 f3 f4 f5 f6 HGIVE hq1
        go_wp2_with fail
        go_roundw
        case rel => exact ⟨j, (j : Int) - 1, _, _, by omega, rfl, rfl, by omega, by omega, HNEXT⟩
        case measure => simp [intOf]
    · obtain rfl : z = -1 := by omega
      obtain rfl : J = 0 := by have := HZ.out; omega
      obtain ⟨i1, i2, i3, i4, i5, i6, i7, i8, i9, i10⟩ := HI.out
      rw [Nat.pow_zero, Nat.one_mul] at i9
      rw [Nat.pow_zero, Nat.mul_one] at i10
      rw [List.replicate_zero, List.nil_append] at i7
      obtain ⟨r1, r2⟩ := div_done i10 i9
      rw [VV.out] at r1 r2
      have hsh := div_shift a b s
      rw [hsh.1] at r1
      rw [hsh.2] at r2
      have hlqs : qs.length = lq := by omega
      have hun : valL (us.take n) = a % b * 2 ^ s := by
        have h1 := valL_lt DV.out
        rw [T1.out] at h1
        have h2 := valL_mod i2 (k := n) (by omega)
        rw [← h2, Nat.mod_eq_of_lt (by omega), r2]
      have hlu := i5.lt.2
      have hlq2 := i7.lt.2
      have b0 : Below wr.heap.size wr wr.drew := Drew.below (Drew.drew (Drew.refl wr)) _
      have hT : ∀ W, Below wr.heap.size wr W → Calls Tryd.prog 58 #[.slice (some ⟨gq, 0, none⟩) lq lq] W fun e w' => e = .returned (.slice (some ⟨gq, 0, none⟩) (limbs (a / b)).length lq) ∧ W = w' := by
        intro W hW
        have hrow := LimbsAt.of_own (i7.later hW hlq2)
        have h := trim_any W.heap.size (some ⟨gq, 0, none⟩) lq qs W hrow i4 (by omega)
        rw [hlqs, r1] at h
        exact h
      have hQN : ∀ W, Below wr.heap.size wr W → NatAt W.heap.size W (.slice (some ⟨gq, 0, none⟩) (limbs (a / b)).length lq) (a / b) := by
        intro W hW
        have h := (LimbsAt.of_own (i7.later hW hlq2)).trimmed i4
        rw [r1] at h
        exact h
      have hD : ∀ W, Below wr.heap.size wr W → Calls Tryd.prog 100 #[.slice (some ⟨w.heap.size, 0, none⟩) n (la + 1), .int .i64 s] W fun e w' => ∃ v, e = .returned v ∧ NatAt w'.heap.size w' v (a % b) ∧ Below W.heap.size W w' := by
        intro W hW
        have hown := i5.later hW hlu
        have hrow : LimbsAt W.heap.size W (.slice (some ⟨w.heap.size, 0, none⟩) n (la + 1)) (us.take n) := by
          refine ⟨_, _, by rw [u32s_length, List.length_take, Nat.min_eq_left (by omega)], by rw [u32s_length, List.length_take]; omega, ?_⟩
          rw [u32s_take]
          refine CellsAt.take ?_ n
          intro j u hu
          exact ⟨_, 0, rfl, hown.lt.2, by rw [Nat.zero_add]; exact hown.cell hu⟩
        have h := pdown_any _ (us.take n) s W hrow (i2.take n) (by rw [List.length_take]; omega) hs31
        rw [hun, Nat.mul_div_cancel _ (Nat.pow_pos (by omega))] at h
        exact h
      have HT := Lib.hid hT
      have HQN := Lib.hid hQN
      have HD := Lib.hid hD
      have HB8 := Lib.hid i8
      have hBs := i8.size
      clear hT hQN hD i1 i2 i3 i4 i5 i6 i7 i8 i9 i10 r1 r2 hsh hlqs hun HI
      have f1 : (n : Int) ≤ (la : Int) + 1 := by omega
      go_wp2_with fail
      go_region_with (first | (go_at_call 58; refine (HT.out _ (by first | exact b0 | exact b1)).mono ?_; rintro e w' ⟨rfl, rfl⟩) | (go_at_call 100; refine (HD.out _ b0).mono ?_; rintro e w7 ⟨r, rfl, hr, hbd⟩; have b1 := b0.trans (hbd.mono (by simp))))
      all_goals
        go_wp2_with fail
        go_ret2
        exact ⟨_, _, rfl, HQN.out _ b1, hr, HB8.out.trans (b1.mono hBs)⟩

end Go.Proofs.YtebigkjilklodaaDoor

/- The program's natural numbers: what each exported function returns. -/
namespace Go.Proofs.YtebigkjilklodaaDoor
open Go.RowKit

theorem limbs_of_bytes (l : List UInt8) : (limbs (valB l)).length ≤ l.length := by
  refine limbs_len_le (Nat.lt_of_lt_of_le (valB_lt l) ?_)
  exact Nat.pow_le_pow_left (by omega) _
theorem limbs_of_str (s : ByteArray) : (limbs (valB s.data.toList)).length ≤ s.size := by
  have := limbs_of_bytes s.data.toList
  rwa [list_len] at this
theorem natS_size_lt {n k : Nat} (h : n < 256 ^ k) : (natS n).size ≤ k := by rw [natS_size]; exact natB_length_le h
theorem natS_lt (n : Nat) : n < 256 ^ (natS n).size := by
  have := valB_lt (natB n)
  rwa [valB_natB, ← natS_size] at this
theorem natS_size_mono {a b : Nat} (h : a ≤ b) : (natS a).size ≤ (natS b).size := natS_size_lt (by have := natS_lt b; omega)
theorem natS_size_mul (a b : Nat) : (natS (a * b)).size ≤ (natS a).size + (natS b).size := by
  refine natS_size_lt ?_
  rw [Nat.pow_add]
  have h1 := natS_lt a
  have h2 := natS_lt b
  exact Nat.mul_lt_mul'' h1 h2
theorem natS_size_add (a b : Nat) : (natS (a + b)).size ≤ (natS a).size + (natS b).size + 1 := by
  refine natS_size_lt ?_
  have h1 := natS_lt a
  have h2 := natS_lt b
  have h3 : 256 ^ (natS a).size ≤ 256 ^ ((natS a).size + (natS b).size) := Nat.pow_le_pow_right (by omega) (by omega)
  have h4 : 256 ^ (natS b).size ≤ 256 ^ ((natS a).size + (natS b).size) := Nat.pow_le_pow_right (by omega) (by omega)
  rw [Nat.pow_succ]; omega
theorem val_le (s : ByteArray) : (natS (valB s.data.toList)).size ≤ s.size := by
  refine natS_size_lt ?_
  have := valB_lt s.data.toList
  rwa [list_len] at this

theorem limbs_lt (a : Nat) : a < 4294967296 ^ (limbs a).length := by
  have h1 := valL_lt (limbs_dig a)
  rwa [valL_limbs] at h1
theorem limbs_add_len (a b : Nat) : (limbs (a + b)).length ≤ (limbs a).length + (limbs b).length + 1 := by
  refine limbs_len_le ?_
  have h1 := limbs_lt a
  have h2 := limbs_lt b
  have h3 : 4294967296 ^ (limbs a).length ≤ 4294967296 ^ ((limbs a).length + (limbs b).length) := Nat.pow_le_pow_right (by omega) (by omega)
  have h4 : 4294967296 ^ (limbs b).length ≤ 4294967296 ^ ((limbs a).length + (limbs b).length) := Nat.pow_le_pow_right (by omega) (by omega)
  rw [Nat.pow_succ]; omega
theorem limbs_mul_len (a b : Nat) : (limbs (a * b)).length ≤ (limbs a).length + (limbs b).length := by
  refine limbs_len_le ?_
  rw [Nat.pow_add]
  exact Nat.mul_lt_mul'' (limbs_lt a) (limbs_lt b)

theorem i64_mask {n : Nat} (hn : n < 9223372036854775808) : bits .and .i64 (n : Int) 4294967295 = ((n % 4294967296 : Nat) : Int) := by
  have h1 : (BitVec.ofInt 64 (n : Int)).toNat = n := by
    rw [BitVec.ofInt_natCast, BitVec.toNat_ofNat]; exact Nat.mod_eq_of_lt (by omega)
  have h2 : (BitVec.ofInt 64 (4294967295 : Int)).toNat = 4294967295 := rfl
  show IntKind.i64.wrap ((BitVec.ofInt 64 (n : Int) &&& BitVec.ofInt 64 (4294967295 : Int)).toNat : Int) = _
  rw [BitVec.toNat_and, h1, h2, show (n &&& 4294967295) = n % 4294967296 from Nat.and_two_pow_sub_one_eq_mod n 32, IntKind.wrap_i64]
  omega

set_option maxHeartbeats 400000 in
set_option maxRecDepth 100000 in
theorem pOf_any (n : Int) (w : World) (hn : n ≤ 9223372036854775807) :
    Calls Tryd.prog 18 #[.int .i64 n] w fun e w' => e = .returned (.string (natS n.toNat)) ∧ Below w.heap.size w w' := by
  by_cases h0 : n ≤ 0
  · have h1 : n.toNat = 0 := by omega
    rw [h1, natS_zero]
    go_enter Tryd.func18, Tryd.ntmps18
    go_wp2_with fail
    go_ret
    exact ⟨rfl, Below.refl _ _⟩
  · obtain ⟨m, rfl⟩ := Int.eq_ofNat_of_zero_le (show 0 ≤ n by omega)
    rw [Int.toNat_natCast]
    have hm : m < 9223372036854775808 := by omega
    have hmask := i64_mask hm
    have h3 : (m : Int) / 4294967296 < 4294967296 := by omega
    have h4 : 0 ≤ (m : Int) / 4294967296 := by omega
    have hval : valL [m % 4294967296, m / 4294967296] = m := by simp only [valL]; omega
    have hd : Dig [m % 4294967296, m / 4294967296] := Dig.cons (Nat.mod_lt _ (by omega)) (Dig.one (by omega))
    have HV := Lib.hid hval
    have HD := Lib.hid hd
    have HMASK := Lib.hid hmask
    have hm0 : ¬ m = 0 := by omega
    have hA : ((m % 4294967296 : Nat) : Int) % 4294967296 = ((m % 4294967296 : Nat) : Int) := by omega
    have hB : (m : Int) / 4294967296 = ((m / 4294967296 : Nat) : Int) := by omega
    have HA := Lib.hid hA
    have HBV := Lib.hid hB
    have hrow : LimbsAt (w.alloc (.cells #[.int .u32 ((m % 4294967296 : Nat) : Int), .int .u32 ((m / 4294967296 : Nat) : Int)] 101)).heap.size (w.alloc (.cells #[.int .u32 ((m % 4294967296 : Nat) : Int), .int .u32 ((m / 4294967296 : Nat) : Int)] 101)) (.slice (some ⟨w.heap.size, 0, none⟩) 2 2) [m % 4294967296, m / 4294967296] := by
      refine ⟨_, _, rfl, Nat.le_refl _, fun j u hu => ⟨w.heap.size, 0, rfl, by simp, ?_⟩⟩
      have := cells_new w [.int .u32 ((m % 4294967296 : Nat) : Int), .int .u32 ((m / 4294967296 : Nat) : Int)] 101 j u hu
      rw [add_flat] at this
      exact this
    have HN := Lib.hid (pnum_any _ _ _ hrow hd (by simp))
    rw [hval] at HN
    clear hval hd hm h0 hmask h3 h4 hA hB hrow
    go_enter Tryd.func18, Tryd.ntmps18
    go_wp2_with fail
    rw [HMASK.out, HA.out, HBV.out]
    refine HN.out.mono ?_
    rintro e w' ⟨rfl, hb⟩
    have HB := Lib.hid hb
    clear hb
    go_wp2_with fail
    go_ret
    exact ⟨rfl, ((Below.refl _ _).alloc (Nat.le_refl _) _).trans (HB.out.mono (by simp))⟩

/-- Two numbers, read one after the other. -/
theorem two_nats {B : Nat} {w w1 w2 : World} {v1 v2 : Value} {a b : Nat} (hB : B = w.heap.size) (h1 : NatAt w1.heap.size w1 v1 a) (b1 : Below B w w1) (h2 : NatAt w2.heap.size w2 v2 b) (b2 : Below w1.heap.size w1 w2) :
    NatAt w2.heap.size w2 v1 a ∧ Below B w w2 := ⟨h1.mono b2 b2.size, b1.trans (b2.mono (by subst hB; exact b1.size))⟩

set_option maxHeartbeats 400000 in
theorem pAdd_any (s t : ByteArray) (w : World) (hs : s.size ≤ 1000000) (ht : t.size ≤ 1000000) :
    Calls Tryd.prog 21 #[.string s, .string t] w fun e w' => e = .returned (.string (natS (valB s.data.toList + valB t.data.toList))) ∧ Below w.heap.size w w' := by
  have l1 := limbs_of_str s
  have l2 := limbs_of_str t
  obtain ⟨a, ha⟩ : ∃ a, a = valB s.data.toList := ⟨_, rfl⟩
  obtain ⟨b, hb⟩ : ∃ b, b = valB t.data.toList := ⟨_, rfl⟩
  have HS := Lib.hid (fun w => pof_any s w (by omega))
  have HT := Lib.hid (fun w => pof_any t w (by omega))
  rw [← ha] at l1 HS ⊢
  rw [← hb] at l2 HT ⊢
  clear ha hb
  go_enter Tryd.func21, Tryd.ntmps21
  go_wp2_with fail
  refine (HS.out _).mono ?_
  rintro e w1 ⟨v1, rfl, n1, b1⟩
  go_wp2_with fail
  refine (HT.out _).mono ?_
  rintro e w2 ⟨v2, rfl, n2, b2⟩
  obtain ⟨n1', b2'⟩ := two_nats rfl n1 b1 n2 b2
  go_wp2_with fail
  refine (psum_any v1 v2 (limbs a) (limbs b) w2 n1' n2 (limbs_dig _) (limbs_dig _) (by omega) (by omega)).mono ?_
  rintro e w3 ⟨v3, rfl, n3, b3⟩
  rw [valL_limbs, valL_limbs] at n3
  have l3 := limbs_add_len a b
  have b3' := b2'.trans (b3.mono b2'.size)
  clear n1 b1 n2 b2 n1' b2' b3
  go_wp2_with fail
  refine (pnum_any (limbs (a + b)) v3 w3 n3 (limbs_dig _) (by omega)).mono ?_
  rintro e w4 ⟨rfl, b4⟩
  rw [valL_limbs]
  go_wp2_with fail
  go_ret
  exact ⟨rfl, b3'.trans (b4.mono b3'.size)⟩

set_option maxHeartbeats 400000 in
theorem pMul_any (s t : ByteArray) (w : World) (hs : s.size ≤ 1000000) (ht : t.size ≤ 1000000) :
    Calls Tryd.prog 51 #[.string s, .string t] w fun e w' => e = .returned (.string (natS (valB s.data.toList * valB t.data.toList))) ∧ Below w.heap.size w w' := by
  have l1 := limbs_of_str s
  have l2 := limbs_of_str t
  obtain ⟨a, ha⟩ : ∃ a, a = valB s.data.toList := ⟨_, rfl⟩
  obtain ⟨b, hb⟩ : ∃ b, b = valB t.data.toList := ⟨_, rfl⟩
  have HS := Lib.hid (fun w => pof_any s w (by omega))
  have HT := Lib.hid (fun w => pof_any t w (by omega))
  rw [← ha] at l1 HS ⊢
  rw [← hb] at l2 HT ⊢
  clear ha hb
  go_enter Tryd.func51, Tryd.ntmps51
  go_wp2_with fail
  refine (HS.out _).mono ?_
  rintro e w1 ⟨v1, rfl, n1, b1⟩
  go_wp2_with fail
  refine (HT.out _).mono ?_
  rintro e w2 ⟨v2, rfl, n2, b2⟩
  obtain ⟨n1', b2'⟩ := two_nats rfl n1 b1 n2 b2
  go_wp2_with fail
  refine (pprod_any v1 v2 (limbs a) (limbs b) w2 n1' n2 (limbs_dig _) (limbs_dig _) (by omega) (by omega)).mono ?_
  rintro e w3 ⟨v3, rfl, n3, b3⟩
  rw [valL_limbs, valL_limbs] at n3
  have l3 := limbs_mul_len a b
  have b3' := b2'.trans (b3.mono b2'.size)
  clear n1 b1 n2 b2 n1' b2' b3
  go_wp2_with fail
  refine (pnum_any (limbs (a * b)) v3 w3 n3 (limbs_dig _) (by omega)).mono ?_
  rintro e w4 ⟨rfl, b4⟩
  rw [valL_limbs]
  go_wp2_with fail
  go_ret
  exact ⟨rfl, b3'.trans (b4.mono b3'.size)⟩

set_option maxHeartbeats 400000 in
theorem pCmp_any (s t : ByteArray) (w : World) (hs : s.size ≤ 1000000) (ht : t.size ≤ 1000000) :
    Calls Tryd.prog 22 #[.string s, .string t] w fun e w' => e = .returned (.int .i64 (cmpN (valB s.data.toList) (valB t.data.toList))) ∧ Below w.heap.size w w' := by
  have l1 := limbs_of_str s
  obtain ⟨a, ha⟩ : ∃ a, a = valB s.data.toList := ⟨_, rfl⟩
  obtain ⟨b, hb⟩ : ∃ b, b = valB t.data.toList := ⟨_, rfl⟩
  have HS := Lib.hid (fun w => pof_any s w (by omega))
  have HT := Lib.hid (fun w => pof_any t w (by omega))
  rw [← ha] at l1 HS ⊢
  rw [← hb] at HT ⊢
  clear ha hb
  go_enter Tryd.func22, Tryd.ntmps22
  go_wp2_with fail
  refine (HS.out _).mono ?_
  rintro e w1 ⟨v1, rfl, n1, b1⟩
  go_wp2_with fail
  refine (HT.out _).mono ?_
  rintro e w2 ⟨v2, rfl, n2, b2⟩
  obtain ⟨n1', b2'⟩ := two_nats rfl n1 b1 n2 b2
  go_wp2_with fail
  refine (pcmpl_any _ _ v1 v2 a b w2 n1' n2 (by omega)).mono ?_
  rintro e w3 ⟨rfl, d3⟩
  go_wp2_with fail
  go_ret
  exact ⟨rfl, bl_drews b2' d3⟩

/-- What a subtraction returns. -/
def SubEnd (a b : Nat) (w : World) (e : Ending) (w' : World) : Prop :=
  e = .returned (if b ≤ a then .tuple #[.string (natS (a - b)), .bool true] else .tuple #[.string ⟨#[]⟩, .bool false]) ∧ Below w.heap.size w w'

set_option maxHeartbeats 400000 in
theorem pSub_any (s t : ByteArray) (w : World) (hs : s.size ≤ 1000000) (ht : t.size ≤ 1000000) :
    Calls Tryd.prog 53 #[.string s, .string t] w (SubEnd (valB s.data.toList) (valB t.data.toList) w) := by
  have l1 := limbs_of_str s
  have l2 := limbs_of_str t
  obtain ⟨a, ha⟩ : ∃ a, a = valB s.data.toList := ⟨_, rfl⟩
  obtain ⟨b, hb⟩ : ∃ b, b = valB t.data.toList := ⟨_, rfl⟩
  have HS := Lib.hid (fun w => pof_any s w (by omega))
  have HT := Lib.hid (fun w => pof_any t w (by omega))
  rw [← ha] at l1 HS ⊢
  rw [← hb] at l2 HT ⊢
  clear ha hb
  go_enter Tryd.func53, Tryd.ntmps53
  go_wp2_with fail
  refine (HS.out _).mono ?_
  rintro e w1 ⟨v1, rfl, n1, b1⟩
  go_wp2_with fail
  refine (HT.out _).mono ?_
  rintro e w2 ⟨v2, rfl, n2, b2⟩
  obtain ⟨n1', b2'⟩ := two_nats rfl n1 b1 n2 b2
  clear n1 b1 b2
  by_cases hle : b ≤ a
  · have hc : ¬ cmpN a b < 0 := by
      unfold cmpN
      rw [if_neg (by omega)]
      split <;> omega
    obtain ⟨c, hce⟩ : ∃ c, c = cmpN a b := ⟨_, rfl⟩
    have HC := Lib.hid (pcmpl_any _ _ v1 v2 a b w2 n1' n2 (by omega))
    rw [← hce] at hc HC
    have hlm := limbs_mono hle
    have l3 := limbs_mono (show a - b ≤ a by omega)
    clear hce
    go_wp2_with fail
    refine HC.out.mono ?_
    rintro e w3 ⟨rfl, n, rfl⟩
    go_wp2_with fail
    refine (pless_any v1 v2 (limbs a) (limbs b) (w2.drewN n) n1' n2 (limbs_dig _) (limbs_dig _) (by omega) hlm (by rw [valL_limbs, valL_limbs]; exact hle)).mono ?_
    rintro e w4 ⟨v4, rfl, n4, b4⟩
    rw [valL_limbs, valL_limbs] at n4
    have b4' := b2'.trans (((Drew.n w2 n).below _).trans (b4.mono b2'.size))
    clear n1' n2 b2' b4
    go_wp2_with fail
    refine (pnum_any (limbs (a - b)) v4 w4 n4 (limbs_dig _) (by omega)).mono ?_
    rintro e w5 ⟨rfl, b5⟩
    rw [valL_limbs]
    go_wp2_with fail
    go_ret2
    exact ⟨by rw [if_pos hle]; rfl, b4'.trans (b5.mono b4'.size)⟩
  · have hc : cmpN a b = -1 := cmpN_lt (by omega)
    have HC := Lib.hid (pcmpl_any _ _ v1 v2 a b w2 n1' n2 (by omega))
    rw [hc] at HC
    clear hc
    go_wp2_with fail
    refine HC.out.mono ?_
    rintro e w3 ⟨rfl, n, rfl⟩
    go_wp2_with fail
    go_ret2
    exact ⟨by rw [if_neg hle]; rfl, bl_drews b2' (Drew.n _ _)⟩

end Go.Proofs.YtebigkjilklodaaDoor

/- The program's natural numbers: quotients, the greatest common divisor. -/
namespace Go.Proofs.YtebigkjilklodaaDoor
open Go.RowKit

theorem pdiv_any (v1 v2 : Value) (a b : Nat) (w : World) (h1 : NatAt w.heap.size w v1 a) (h2 : NatAt w.heap.size w v2 b) (hb : 0 < b) (n1 : (limbs a).length ≤ 1000000) :
    Calls Tryd.prog 84 #[v1, v2] w (DivEnd a b w) := by
  by_cases hl : a < b
  · exact pdiv_less v1 v2 a b w h1 h2 hl n1
  · by_cases hs : b < 4294967296
    · exact pdiv_short v1 v2 a b w h1 h2 (by omega) hb hs n1
    · exact pdiv_long v1 v2 a b w h1 h2 (by omega) (by omega) n1

/-- What a division of numbers returns. -/
def QuoEnd (a b : Nat) (w : World) (e : Ending) (w' : World) : Prop :=
  e = .returned (.tuple #[.string (natS (a / b)), .string (natS (a % b)), .bool true]) ∧ Below w.heap.size w w'

set_option maxHeartbeats 400000 in
theorem pQuo_any (s t : ByteArray) (w : World) (hs : s.size ≤ 1000000) (ht : t.size ≤ 1000000) (h0 : 0 < valB t.data.toList) :
    Calls Tryd.prog 68 #[.string s, .string t] w (QuoEnd (valB s.data.toList) (valB t.data.toList) w) := by
  have l1 := limbs_of_str s
  obtain ⟨a, ha⟩ : ∃ a, a = valB s.data.toList := ⟨_, rfl⟩
  obtain ⟨b, hb⟩ : ∃ b, b = valB t.data.toList := ⟨_, rfl⟩
  have HS := Lib.hid (fun w => pof_any s w (by omega))
  have HT := Lib.hid (fun w => pof_any t w (by omega))
  rw [← ha] at l1 HS ⊢
  rw [← hb] at h0 HT ⊢
  clear ha hb
  have hlen : ¬ (limbs b).length = 0 := fun e => limbs_ne h0 (List.eq_nil_of_length_eq_zero e)
  have hlenb : (((limbs b).length : Int) == 0) = false := by simpa using hlen
  go_enter Tryd.func68, Tryd.ntmps68
  go_wp2_with fail
  refine (HT.out _).mono ?_
  rintro e w1 ⟨v1, rfl, n1, b1⟩
  obtain ⟨ao, cap, rfl, _, _⟩ := n1.open
  have N1 := Lib.hid n1
  have B1 := Lib.hid b1
  clear n1 b1
  go_wp2_with fail
  refine (HS.out _).mono ?_
  rintro e w2 ⟨v2, rfl, n2, b2⟩
  obtain ⟨n1', b2'⟩ := two_nats rfl N1.out B1.out n2 b2
  clear N1 B1 b2
  go_wp2_with fail
  refine (pdiv_any _ _ a b w2 n2 n1' h0 (by omega)).mono ?_
  rintro e w3 ⟨q, r, rfl, nq, nr, b3⟩
  have l3 := limbs_mono (Nat.div_le_self a b)
  have l4 := limbs_mono (Nat.mod_le a b)
  have b3' := b2'.trans (b3.mono b2'.size)
  clear n1' n2 b2' b3
  go_wp2_with fail
  refine (pnum_any (limbs (a / b)) q w3 nq (limbs_dig _) (by omega)).mono ?_
  rintro e w4 ⟨rfl, b4⟩
  rw [valL_limbs]
  have b4' := b3'.trans (b4.mono b3'.size)
  have nr' := nr.mono b4 b4.size
  clear nr b3' b4
  go_wp2_with fail
  refine (pnum_any (limbs (a % b)) r w4 nr' (limbs_dig _) (by omega)).mono ?_
  rintro e w5 ⟨rfl, b5⟩
  rw [valL_limbs]
  go_wp2_with fail
  go_ret3
  exact ⟨rfl, b4'.trans (b5.mono b4'.size)⟩

set_option maxHeartbeats 400000 in
theorem pQuo_zero (s t : ByteArray) (w : World) (ht : t.size ≤ 1000000) (h0 : valB t.data.toList = 0) :
    Calls Tryd.prog 68 #[.string s, .string t] w fun e w' => e = .returned (.tuple #[.string ⟨#[]⟩, .string ⟨#[]⟩, .bool false]) ∧ Below w.heap.size w w' := by
  have HT := Lib.hid (fun w => pof_any t w (by omega))
  rw [h0] at HT
  clear h0
  go_enter Tryd.func68, Tryd.ntmps68
  go_wp2_with fail
  refine (HT.out _).mono ?_
  rintro e w1 ⟨v1, rfl, n1, b1⟩
  obtain ⟨ao, cap, rfl, _, _⟩ := n1.open
  rw [limbs_zero, List.length_nil]
  clear n1
  go_wp2_with fail
  go_ret3
  exact ⟨rfl, b1⟩

set_option maxHeartbeats 600000 in
set_option maxRecDepth 100000 in
theorem pGcd_any (s t : ByteArray) (w : World) (hs : s.size ≤ 1000000) (ht : t.size ≤ 1000000) :
    Calls Tryd.prog 67 #[.string s, .string t] w fun e w' => e = .returned (.string (natS ((valB s.data.toList).gcd (valB t.data.toList)))) ∧ Below w.heap.size w w' := by
  have l1 := limbs_of_str s
  have l2 := limbs_of_str t
  obtain ⟨a, ha⟩ : ∃ a, a = valB s.data.toList := ⟨_, rfl⟩
  obtain ⟨b, hb⟩ : ∃ b, b = valB t.data.toList := ⟨_, rfl⟩
  have HS := Lib.hid (fun w => pof_any s w (by omega))
  have HT := Lib.hid (fun w => pof_any t w (by omega))
  rw [← ha] at l1 HS ⊢
  rw [← hb] at l2 HT ⊢
  clear ha hb
  obtain ⟨G, hG⟩ : ∃ G, G = a.gcd b := ⟨_, rfl⟩
  rw [← hG]
  have HG := Lib.hid hG
  clear hG
  go_enter Tryd.func67, Tryd.ntmps67
  go_wp2_with fail
  refine (HS.out _).mono ?_
  rintro e w1 ⟨v1, rfl, n1, b1⟩
  go_wp2_with fail
  refine (HT.out _).mono ?_
  rintro e w2 ⟨v2, rfl, n2, b2⟩
  obtain ⟨n1', b2'⟩ := two_nats rfl n1 b1 n2 b2
  have N1 := Lib.hid n1'
  have N2 := Lib.hid n2
  have B2 := Lib.hid b2'
  clear n1 b1 n2 b2 n1' b2'
  go_wp2_with fail
  go_loopg [5, 6] b (fun g u v wr => ∃ x : Nat, Hid (NatAt wr.heap.size wr u x) ∧ Hid (NatAt wr.heap.size wr v g) ∧ Hid (x.gcd g = G) ∧ (limbs x).length ≤ 1000000 ∧ (limbs g).length ≤ 1000000 ∧ Hid (Below w.heap.size w wr))
  case atStart => exact ⟨a, N1, N2, HG.out.symm, by omega, by omega, B2⟩
  case round =>
    clear N1 N2 B2
    obtain ⟨x, N1, N2, HX, hx, hg, HB⟩ := hrel
    obtain ⟨ao, cap, rfl, _, _⟩ := N2.out.open
    by_cases h0 : gk = 0
    · subst h0
      rw [limbs_zero, List.length_nil] at *
      have hxG : x = G := by have := HX.out; rwa [Nat.gcd_zero_right] at this
      subst hxG
      go_wp2_with fail
      refine (pnum_any (limbs x) _ wr N1.out (limbs_dig _) (by omega)).mono ?_
      rintro e w3 ⟨rfl, b3⟩
      rw [valL_limbs]
      go_wp2_with fail
      go_ret
      exact ⟨rfl, HB.out.trans (b3.mono HB.out.size)⟩
    · have hlen : ¬ (limbs gk).length = 0 := fun e => limbs_ne (by omega) (List.eq_nil_of_length_eq_zero e)
      have hlenp : ((limbs gk).length : Int) > 0 := by omega
      go_wp2_with fail
      refine (pdiv_any _ _ x gk wr N1.out N2.out (by omega) (by omega)).mono ?_
      rintro e w3 ⟨q, r, rfl, nq, nr, b3⟩
      have l4 := limbs_mono (Nat.mod_le x gk)
      have N2' := Lib.hid (N2.out.mono b3 b3.size)
      have NR := Lib.hid nr
      have HB3 := Lib.hid (HB.out.trans (b3.mono HB.out.size))
      have hlt := Nat.mod_lt x (show 0 < gk by omega)
      clear nq nr b3 N1 N2 HB
      go_wp2_with fail
      go_roundg (x % gk)
      case rel => exact ⟨gk, N2', NR, (by show _ = _; rw [← HX.out, Nat.gcd_comm gk, ← Nat.gcd_rec, Nat.gcd_comm]), hg, by omega, HB3⟩
      case measure => exact hlt

end Go.Proofs.YtebigkjilklodaaDoor

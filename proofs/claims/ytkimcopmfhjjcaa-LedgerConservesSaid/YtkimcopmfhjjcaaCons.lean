/- The law 'LedgerConserves': the walk. -/
import Derived.Test.YtkimcopmfhjjcaaLedX
import Derived.Test.YtkimcopmfhjjcaaSanity
import Derived.Sort.Walk0
namespace Go.Proofs.Ytkimcopmfhjjcaa
open Go.RowKit

def strA (x : List UInt8) : ByteArray := ⟨x.toArray⟩
theorem strA_toList (x : List UInt8) : (strA x).toList = x := ByteArray.toList_mk x
theorem src_take {s : ByteArray} (h : srcB s = true) : 4 ≤ s.size ∧ s.extract 0 4 = ⟨#[109, 105, 110, 116]⟩ := by
  have h1 := Lib.hasPrefix_raw s ⟨#[109, 105, 110, 116]⟩
  unfold srcB at h
  rw [show (ByteArray.mk #[109, 105, 110, 116]).data.toList = mintS from rfl, h] at h1
  simp only [Bool.and_eq_true, decide_eq_true_eq, beq_iff_eq] at h1
  refine ⟨h1.1, ?_⟩
  have h2 := h1.2
  rw [ByteArray.toList_eq, ByteArray.toList_eq] at h2
  exact ba_ext h2
theorem listEq (a b : ByteArray) : (a.toList == b.toList) = decide (a = b) := by
  rw [ByteArray.toList_eq, ByteArray.toList_eq]
  by_cases h : a = b
  · subst h; simp
  · rw [decide_eq_false h, beq_eq_false_iff_ne]
    exact fun e => h (ba_ext e)
/-- The balances of accounts. -/
def balsI (L : List Pst) (ss : List (List UInt8)) : List Int := ss.map (fun x => balI L (strA x))
theorem balsI_at {L : List Pst} {ss : List (List UInt8)} {j : Nat} (h : j < ss.length) : (balsI L ss)[j]?.getD 0 = balI L (strA ss[j]) := by simp [balsI, List.getElem?_eq_getElem h]
theorem sumI_take_bound {l : List Int} {c : Int} (h : ∀ x ∈ l, -c ≤ x ∧ x ≤ c) (k : Nat) (hk : k ≤ l.length) : -(k * c) ≤ sumI (l.take k) ∧ sumI (l.take k) ≤ k * c := by
  induction k with
  | zero => simp [sumI]
  | succ k ih =>
    rw [sumI_take_succ (by omega), List.getElem?_eq_getElem (by omega), Option.getD_some]
    have h1 := ih (by omega)
    have h2 := h l[k] (List.getElem_mem _)
    rw [show ((k + 1 : Nat) : Int) = (k : Int) + 1 from rfl, Int.add_mul]
    omega

set_option maxHeartbeats 1000000 in
set_option maxRecDepth 100000 in
theorem cons_any (acts : List ActN) (v : Value) (w : World) (hv : RowAt w.heap.size w v acts.length (actCells acts)) (hl : acts.length ≤ 9223372036854775807) (ha : ∀ a ∈ acts, -9223372036854775808 ≤ a.amount ∧ a.amount ≤ 9223372036854775807) :
    Calls Try.prog 6 #[v] w fun e w' => e = .returned (.bool true) ∧ Below w.heap.size w w' := by
  have HV := Lib.hid hv
  have hpf : Hid (∀ p ∈ pstsN acts 40, p.fits) := by
    intro p hp
    simp only [pstsN, List.mem_map] at hp
    obtain ⟨a, ha2, rfl⟩ := hp
    have := ha a (List.mem_of_mem_take ha2)
    exact act_fits this.1 this.2
  have hpl : (pstsN acts 40).length ≤ 40 := by rw [pstsN_length]; omega
  clear hv ha
  go_enter Try.func6, Try.ntmps6
  go_wp2_with fail
  refine (sanity_any w).mono ?_
  rintro e w1 ⟨rfl, hb⟩
  have HB := Lib.hid hb
  clear hb
  go_wp2_with fail
  refine (new_led w1).mono ?_
  rintro e w2 ⟨rfl, hl2⟩
  have HL := Lib.hid hl2
  have HV := Lib.hid (HV.out.mono (HB.out.trans (hl2.below.mono HB.out.size)) (Nat.le_trans HB.out.size hl2.below.size))
  clear hl2
  go_wp2_with fail
  refine (postings_any acts v 40 w2 HV.out hl (by omega)).mono ?_
  rintro e w3 ⟨v5, rfl, ho, hb⟩
  obtain ⟨ps, hps⟩ : ∃ ps, ps = pstsN acts 40 := ⟨_, rfl⟩
  rw [← hps] at hpf hpl ho
  clear hps HV
  have HX : Hid (LedX w1.heap.size w3.heap.size v5.ownBlock w1 w3 w1.heap.size 0 (runL (ps.take 0))) := LedX.of HL.out hb (World.ownsRow.lt ho)
  have HO := Lib.hid ho
  obtain ⟨m, hm⟩ : ∃ m, m = ps.length := ⟨_, rfl⟩
  rw [← hm] at HO hpl
  have hm := Lib.hid hm
  have hform : ∃ ao cap, v5 = .slice ao m cap := by
    rcases ho.2 with ⟨rfl, r⟩ | ⟨g, cap, cur, rfl, _⟩
    · exact ⟨none, 0, by rw [hm.out, r]⟩
    · exact ⟨_, _, by rw [hm.out]⟩
  obtain ⟨ao, cap, rfl⟩ := hform
  clear ho hb HL
  go_wp2_with fail
  go_loopw [6] (fun i wr => ∃ k : Nat, k ≤ m ∧ i = .int .i64 k ∧ Hid (∃ K, LedX w1.heap.size K (Value.slice ao m cap).ownBlock w1 wr w1.heap.size (2 * k) (runL (ps.take k))) ∧ Hid (wr.ownsRow w2.heap.size 40 4 (.slice ao m cap) m (pstCells ps))) (fun i _ => m - (intOf i).toNat)
  case atStart => exact ⟨0, Nat.zero_le _, rfl, ⟨_, HX.out⟩, HO⟩
  case round =>
    clear HX HO
    obtain ⟨k, hk, rfl, HX, HO⟩ := hrel
    obtain ⟨K, hX⟩ := HX.out
    have HX := Lib.hid hX
    clear hX
    by_cases hlt : k < m
    · have hlz : (k : Int) < m := by omega
      have hcell : ∃ g, ao = some ⟨g, 0, none⟩ ∧ ∀ t, t < 4 → wr.cell? ⟨g, k * 4 + t, none⟩ = (ps[k]?.getD noPst).cells[t]? := by
        have hO := HO.out
        rcases hO.2 with ⟨e, r⟩ | ⟨g, cap', cur, e, _⟩
        · omega
        · simp only [Value.slice.injEq] at e
          obtain ⟨rfl, e8, rfl⟩ := e
          clear e8
          refine ⟨g, rfl, fun t ht => ?_⟩
          rw [World.ownsRow.cellAt hO _ (by omega), pstCells_get ps k t ht (by rw [← hm.out]; exact hlt)]
      obtain ⟨g, rfl, hc4⟩ := hcell
      have g0 := hc4 0 (by omega)
      have g1 := hc4 1 (by omega)
      have g2 := hc4 2 (by omega)
      have g3 := hc4 3 (by omega)
      have HP := Lib.hid (post_x HX.out (ps[k]?.getD noPst) (hpf.out _ (by rw [List.getElem?_eq_getElem (by rw [← hm.out]; exact hlt)]; exact List.getElem_mem _)) (by omega))
      have hrun := (runL_take (ps := ps) (k := k) (by rw [← hm.out]; exact hlt)).symm
      rw [hrun] at HP
      obtain ⟨p, hp⟩ : ∃ p, p = ps[k]?.getD noPst := ⟨_, rfl⟩
      rw [← hp] at g0 g1 g2 g3 HP
      clear hp hrun hc4
      obtain ⟨key, src, dst, amount⟩ := p
      unfold Pst.cells at g0 g1 g2 g3
      unfold Pst.val at HP
      simp only [List.getElem?_cons_zero, List.getElem?_cons_succ, Nat.add_zero] at g0 g1 g2 g3
      dsimp only at HP
      go_wp2_with fail
      refine HP.out.mono ?_
      rintro e w4 ⟨rfl, hx, hbl⟩
      have HO := Lib.hid (owns_block HO.out hbl)
      have HX := Lib.hid hx
      clear hx hbl HP g0 g1 g2 g3
      obtain ⟨L, hL⟩ : ∃ L, L = runL (ps.take (k + 1)) := ⟨_, rfl⟩
      rw [← hL] at HX
      have HLE := Lib.hid hL
      clear hL
      have HLP : Hid (∀ p ∈ L, p.fits ∧ 0 < p.amount ∧ p.amount ≤ 1000000000) := by
        intro p hp
        rw [HLE.out] at hp
        have h := runL_mem p hp
        have h2 := rightB_amount h.2
        exact ⟨hpf.out p h.1, h2.1, h2.2.1⟩
      have hLl : L.length ≤ 40 := by have := runL_length ps (k + 1); rw [← HLE.out] at this; omega
      have HNN : Hid (∀ s, srcB s = false → 0 ≤ balI L s) := by
        intro s hs
        rw [HLE.out]; exact runL_nonneg ps (k + 1) s hs
      have HAC := Lib.hid (accts_any _ _ _ L w4 HX.out.led (fun p hp => (HLP.out p hp).1))
      go_wp2_with fail
      refine HAC.out.mono ?_
      rintro e w5 ⟨v8, ss, rfl, ha, hss, hb⟩
      have HX := Lib.hid (HX.out.calm hb)
      have HO := Lib.hid (owns_later HO.out hb)
      obtain ⟨hrow, hsort, hmem⟩ := ha
      have HSO := Lib.hid hsort
      have HMEM := Lib.hid hmem
      have HBB : Hid (∀ x ∈ balsI L ss, -40000000000 ≤ x ∧ x ≤ 40000000000) := by
        intro x hx
        simp only [balsI, List.mem_map] at hx
        obtain ⟨y, _, rfl⟩ := hx
        have := balI_bound (fun p hp => (HLP.out p hp).2) (strA y)
        omega
      have HZ : Hid (sumI (balsI L ss) = 0) := accts_zero ss HSO.out L (fun s hs => (HMEM.out _).2 (by simpa using hs))
      have HSZ : Hid (∀ x ∈ ss, (strA x).size ≤ 9223372036854775807) := by
        intro x hx
        have h := (HMEM.out x).1 hx
        unfold acctB at h
        rw [List.any_eq_true] at h
        obtain ⟨p, hp, h⟩ := h
        simp only [Bool.or_eq_true, decide_eq_true_eq] at h
        have hfp := (HLP.out p hp).1
        rcases h with h | h
        · unfold strA; rw [h]; exact hfp.2.1
        · unfold strA; rw [h]; exact hfp.2.2.1
      have hrow2 : RowAt w5.heap.size w5 v8 ss.length (ss.map encStr) := hrow
      obtain ⟨ao8, cap8, rfl, hc8⟩ := hrow2
      have HC8 := Lib.hid hc8
      have hssl : ss.length ≤ 80 := by omega
      clear hb hrow hsort hmem hc8 hss HAC
      go_wp2_with fail
      go_loopw [7, 9] (fun t i wr => ∃ j : Nat, j ≤ ss.length ∧ i = .int .i64 j ∧ t = .int .i64 (sumI ((balsI L ss).take j)) ∧ Drew w5 wr) (fun _ i _ => ss.length - (intOf i).toNat)
      case atStart => exact ⟨0, Nat.zero_le _, rfl, rfl, Drew.refl _⟩
      case round =>
        obtain ⟨j, hj, rfl, rfl, nd, rfl⟩ := hrel
        by_cases hjl : j < ss.length
        · have hjz : (j : Int) < ss.length := by omega
          obtain ⟨b, off, rfl, _, x0⟩ := HC8.out j (encStr ss[j]) (by rw [List.getElem?_map, List.getElem?_eq_getElem hjl]; rfl)
          have hbal := Lib.hid (fun n => balance_any _ _ _ L (strA ss[j]) (w5.drewN n) (HSZ.out _ (List.getElem_mem _)) (HX.out.led.below ((Drew.n w5 n).below _)))
          have hsuc := Lib.hid (sumI_take_succ (l := balsI L ss) (k := j) (by simpa [balsI] using hjl))
          have hbl : (balsI L ss).length = ss.length := by simp [balsI]
          have hbd := HBB.out ((balsI L ss)[j]'(by omega)) (List.getElem_mem _)
          have htb := sumI_take_bound HBB.out j (by omega)
          have hnneg := HNN.out (strA ss[j])
          have hsrc := @src_take (strA ss[j])
          have hbj := balsI_at (L := L) hjl
          rw [List.getElem?_eq_getElem (by omega), Option.getD_some] at hbj
          rw [hbj] at hbd
          rw [List.getElem?_eq_getElem (by omega), Option.getD_some, hbj] at hsuc
          have hsl := HSZ.out ss[j] (List.getElem_mem _)
          obtain ⟨s, hs⟩ : ∃ s, s = strA ss[j] := ⟨_, rfl⟩
          have y0 : w5.cell? ⟨b, off + j, none⟩ = some (.string s) := by rw [hs]; exact x0
          clear x0
          have hless : ∀ i, i + 1 = j → ∃ x, w5.cell? ⟨b, off + i, none⟩ = some (.string x) ∧ Op.bytesLess x.toList s.toList = true := by
            intro i hi
            refine ⟨strA (ss[i]'(by omega)), ?_, ?_⟩
            · obtain ⟨b', off', e, _, x1⟩ := HC8.out i (encStr (ss[i]'(by omega))) (by rw [List.getElem?_map, List.getElem?_eq_getElem (by omega)]; rfl)
              simp only [Option.some.injEq, Addr.mk.injEq, and_true] at e
              obtain ⟨rfl, rfl⟩ := e
              exact x1
            · rw [hs, strA_toList, strA_toList, bytesLess_eq, decide_eq_true_eq]
              exact (List.pairwise_iff_getElem.1 HSO.out) i j (by omega) hjl (by omega)
          rw [← hs] at hbal hbd hnneg hsrc hsuc hsl
          clear hs hbj hbl
          obtain ⟨n, hn⟩ : ∃ n, n = balI L s := ⟨_, rfl⟩
          rw [← hn] at hbal hbd hnneg hsuc
          clear hn
          obtain ⟨t, hte⟩ : ∃ t, t = sumI ((balsI L ss).take j) := ⟨_, rfl⟩
          rw [← hte] at hsuc htb ⊢
          clear hte
          obtain ⟨hb0, hb1⟩ := hbd
          obtain ⟨ht0, ht1⟩ := htb
          have ht0 : -3200000000000 ≤ t := by omega
          have ht1 : t ≤ 3200000000000 := by omega
          have hneg : n < 0 → 4 ≤ s.size ∧ s.extract 0 4 = ⟨#[109, 105, 110, 116]⟩ := by
            intro h
            apply hsrc
            cases hb : srcB s with
            | true => rfl
            | false => have := hnneg hb; omega
          clear hnneg hsrc
          go_wp2_with fail
          refine (hbal.out _).mono ?_
          rintro e w' ⟨rfl, rfl⟩
          clear hbal
          go_wp2_with fail
          by_cases hlt0 : n < 0
          · obtain ⟨hs4, hex⟩ := hneg hlt0
            have hd : decide (n < 0) = true := decide_eq_true hlt0
            have hmin : min (s.size : Int) 4 = 4 := by omega
            clear hneg hlt0
            rcases Nat.eq_zero_or_pos j with rfl | hj0
            · clear hless
              simp only [Nat.add_zero] at y0
              go_quiet (fail)
              go_wp2_with fail
              go_roundw
              case rel => exact ⟨0 + 1, by omega, by go_num, by rw [hsuc.out], Drew.n _ _⟩
              case measure => simp [intOf]; omega
            · obtain ⟨i, rfl⟩ : ∃ i, j = i + 1 := ⟨j - 1, by omega⟩
              obtain ⟨x, x1, hls⟩ := hless i rfl
              have hgt : decide (((i + 1 : Nat) : Int) > 0) = true := decide_eq_true (by omega)
              clear hless
              go_quiet (fail)
              go_wp2_with fail
              go_roundw
              case rel => exact ⟨i + 1 + 1, by omega, by go_num, by rw [hsuc.out], Drew.n _ _⟩
              case measure => simp [intOf]; omega
          · have hd : decide (n < 0) = false := decide_eq_false hlt0
            clear hneg
            rcases Nat.eq_zero_or_pos j with rfl | hj0
            · clear hless
              simp only [Nat.add_zero] at y0
              go_quiet (fail)
              go_wp2_with fail
              go_roundw
              case rel => exact ⟨0 + 1, by omega, by go_num, by rw [hsuc.out], Drew.n _ _⟩
              case measure => simp [intOf]; omega
            · obtain ⟨i, rfl⟩ : ∃ i, j = i + 1 := ⟨j - 1, by omega⟩
              obtain ⟨x, x1, hls⟩ := hless i rfl
              have hgt : decide (((i + 1 : Nat) : Int) > 0) = true := decide_eq_true (by omega)
              clear hless
              go_quiet (fail)
              go_wp2_with fail
              go_roundw
              case rel => exact ⟨i + 1 + 1, by omega, by go_num, by rw [hsuc.out], Drew.n _ _⟩
              case measure => simp [intOf]; omega
        · obtain rfl : j = ss.length := by omega
          have hjz : ¬ (ss.length : Int) < ss.length := by omega
          have e0 : sumI ((balsI L ss).take ss.length) = 0 := by rw [List.take_of_length_le (by simp [balsI])]; exact HZ.out
          rw [e0]
          clear e0
          go_wp2_with fail
          go_roundw
          case rel => exact ⟨k + 1, by omega, by go_num, ⟨_, by have h := HX.out.calm ((Drew.n w5 nd).below _); rw [HLE.out] at h; exact h⟩, owns_later HO.out ((Drew.n w5 nd).below _)⟩
          case measure => simp [intOf]; omega
    · obtain rfl : k = m := by omega
      have hlz : ¬ (k : Int) < k := by omega
      obtain ⟨L, hL⟩ : ∃ L, L = runL (ps.take k) := ⟨_, rfl⟩
      rw [← hL] at HX
      have HLP : Hid (∀ p ∈ L, 0 < p.amount ∧ p.amount ≤ 1000000000) := by
        intro p hp
        rw [hL] at hp
        have h2 := rightB_amount (runL_mem p hp).2
        exact ⟨h2.1, h2.2.1⟩
      have hLl : L.length ≤ 40 := by have := runL_length ps k; rw [← hL] at this; omega
      clear hL
      have HPO := Lib.hid (posts_any _ _ _ L wr HX.out.led)
      go_wp2_with fail
      refine HPO.out.mono ?_
      rintro e w5 ⟨v11, rfl, ho, hb⟩
      have HX := Lib.hid (HX.out.calm hb)
      have hform : ∃ ao cap, v11 = .slice ao L.length cap ∧ ∀ j, j < L.length → ∃ g, ao = some ⟨g, 0, none⟩ ∧ ∀ t, t < 4 → w5.cell? ⟨g, j * 4 + t, none⟩ = (L[j]?.getD noPst).cells[t]? := by
        rcases ho.2 with ⟨rfl, r⟩ | ⟨g, cap', cur, rfl, _⟩
        · exact ⟨none, 0, by rw [r], fun j hj => by omega⟩
        · refine ⟨_, _, rfl, fun j hj => ⟨g, rfl, fun t ht => ?_⟩⟩
          rw [World.ownsRow.cellAt ho _ (by omega), pstCells_get L j t ht hj]
      obtain ⟨ao11, cap11, rfl, hc11⟩ := hform
      have HC := Lib.hid hc11
      clear ho hb hc11 HPO HO
      go_wp2_with fail
      go_loopw [12, 13] (fun t i wr => ∃ j : Nat, j ≤ L.length ∧ i = .int .i64 j ∧ t = .int .i64 (balI (L.take j) ⟨#[112, 111, 116]⟩) ∧ wr = w5) (fun _ i _ => L.length - (intOf i).toNat)
      case atStart => exact ⟨0, Nat.zero_le _, rfl, rfl, rfl⟩
      case round =>
        obtain ⟨j, hj, rfl, rfl, rfl⟩ := hrel
        by_cases hjl : j < L.length
        · have hjz : (j : Int) < L.length := by omega
          obtain ⟨g, rfl, hc4⟩ := HC.out j hjl
          have g1 := hc4 1 (by omega)
          have g2 := hc4 2 (by omega)
          have g3 := hc4 3 (by omega)
          have hsuc := Lib.hid (balI_take_succ hjl ⟨#[112, 111, 116]⟩)
          have hbd := balI_bound (L := L.take j) (fun p hp => HLP.out p (List.mem_of_mem_take hp)) ⟨#[112, 111, 116]⟩
          rw [List.length_take] at hbd
          have hpa := HLP.out (L[j]?.getD noPst) (by rw [List.getElem?_eq_getElem hjl]; exact List.getElem_mem _)
          obtain ⟨p, hp⟩ : ∃ p, p = L[j]?.getD noPst := ⟨_, rfl⟩
          rw [← hp] at g1 g2 g3 hsuc hpa
          obtain ⟨t, hte⟩ : ∃ t, t = balI (L.take j) ⟨#[112, 111, 116]⟩ := ⟨_, rfl⟩
          rw [← hte] at hsuc hbd ⊢
          clear hp hte hc4
          obtain ⟨key, src, dst, amount⟩ := p
          unfold Pst.cells at g1 g2 g3
          simp only [List.getElem?_cons_zero, List.getElem?_cons_succ] at g1 g2 g3
          dsimp only at hpa
          have ht0 : -40000000000 ≤ t := by omega
          have ht1 : t ≤ 40000000000 := by omega
          obtain ⟨ha0, ha1⟩ := hpa
          by_cases hd : dst = ⟨#[112, 111, 116]⟩ <;> by_cases hs : src = ⟨#[112, 111, 116]⟩
          all_goals
            have hd1 : (dst.toList == (⟨#[112, 111, 116]⟩ : ByteArray).toList) = decide (dst = ⟨#[112, 111, 116]⟩) := listEq _ _
            have hs1 : (src.toList == (⟨#[112, 111, 116]⟩ : ByteArray).toList) = decide (src = ⟨#[112, 111, 116]⟩) := listEq _ _
            first | rw [decide_eq_true hd] at hd1 | rw [decide_eq_false hd] at hd1
            first | rw [decide_eq_true hs] at hs1 | rw [decide_eq_false hs] at hs1
            have hd2 := hd1
            have hs2 := hs1
            rw [show (⟨#[112, 111, 116]⟩ : ByteArray).toList = [112, 111, 116] from ByteArray.toList_mk [112, 111, 116]] at hd2 hs2
            have hsg : Hid (balI (L.take (j + 1)) ⟨#[112, 111, 116]⟩ = t + ((if dst = ⟨#[112, 111, 116]⟩ then amount else 0) - (if src = ⟨#[112, 111, 116]⟩ then amount else 0))) := hsuc.out
            first | rw [if_pos hd] at hsg | rw [if_neg hd] at hsg
            first | rw [if_pos hs] at hsg | rw [if_neg hs] at hsg
            clear hsuc hd hs hbd
            go_wp2_with fail
            go_roundw
            case rel => exact ⟨j + 1, by omega, by go_num, congrArg (Value.int .i64) (by have h := hsg.out; omega), trivial⟩
            case measure => simp [intOf]; omega
        · obtain rfl : j = L.length := by omega
          have hjz : ¬ (L.length : Int) < L.length := by omega
          rw [List.take_length]
          have hbal := Lib.hid (balance_any _ _ _ L ⟨#[112, 111, 116]⟩ wr (by decide) HX.out.led)
          obtain ⟨x, hx⟩ : ∃ x, x = balI L ⟨#[112, 111, 116]⟩ := ⟨_, rfl⟩
          rw [← hx] at hbal ⊢
          clear hx
          have hxx : (x == x) = true := by simp
          go_wp2_with fail
          refine hbal.out.mono ?_
          rintro e w' ⟨rfl, rfl⟩
          go_wp2_with fail
          go_ret
          exact ⟨rfl, HB.out.trans (HX.out.below.mono HB.out.size)⟩

end Go.Proofs.Ytkimcopmfhjjcaa

/- The law 'LedgerFair': the walk. -/
import Derived.Test.YtkimcopmfhjjcaaSplits
import Derived.Test.YtkimcopmfhjjcaaFairLaw
namespace Go.Proofs.Ytkimcopmfhjjcaa
open Go.RowKit

/-- The weights that the law makes of its list. -/
def wsF (zs : List Int) : List Int := (zs.take 12).map (fun x => x % 1000001)
theorem wsF_length (zs : List Int) : (wsF zs).length = min 12 zs.length := by simp [wsF]
theorem wsF_get {zs : List Int} {k : Nat} (h : k < zs.length) (h12 : k < 12) : (wsF zs)[k]? = some ((zs[k]?.getD 0) % 1000001) := by
  simp [wsF, h12, List.getElem?_eq_getElem h]
theorem wsF_range (zs : List Int) : ∀ x ∈ wsF zs, 0 ≤ x ∧ x ≤ 1000000 := by
  intro x hx
  simp only [wsF, List.mem_map] at hx
  obtain ⟨y, _, rfl⟩ := hx
  have := Int.emod_nonneg y (show (1000001 : Int) ≠ 0 by omega)
  have := Int.emod_lt_of_pos y (show (0 : Int) < 1000001 by omega)
  omega
theorem row_get {B : Nat} {w : World} {v : Value} {n : Nat} {l : List Int} {f : Int → Value} (h : RowAt B w v n (l.map f)) :
    ∃ ao cap, v = .slice ao n cap ∧ ∀ i, i < l.length → ∃ b off, ao = some ⟨b, off, none⟩ ∧ b < B ∧ w.cell? ⟨b, off + i, none⟩ = some (f (l[i]?.getD 0)) := by
  obtain ⟨ao, cap, rfl, hc⟩ := h
  refine ⟨ao, cap, rfl, fun i hi => ?_⟩
  obtain ⟨b, off, rfl, hlt, hcell⟩ := hc i (f l[i]) (by simp [List.getElem?_eq_getElem hi])
  exact ⟨b, off, rfl, hlt, by rw [hcell, List.getElem?_eq_getElem hi]; rfl⟩
theorem sumI_zero {l : List Int} (h : ∀ x ∈ l, 0 ≤ x) (h0 : ¬ 0 < sumI l) : sumI l = 0 := by have := sumI_nonneg h; omega

set_option maxHeartbeats 600000 in
set_option maxRecDepth 100000 in
/-- The loops over the parts: read only. -/
theorem fair_any (a : Int) (v : Value) (zs : List Int) (w : World) (ha : 0 ≤ a) (ha1 : a ≤ 4294967295) (hv : RowAt w.heap.size w v zs.length (zs.map (Value.int .u32))) (hz : ∀ x ∈ zs, 0 ≤ x ∧ x ≤ 4294967295) (hm : zs.length ≤ 9223372036854775807) :
    Calls Try.prog 4 #[.int .u32 a, v] w fun e w' => e = .returned (.bool true) ∧ Below w.heap.size w w' := by
  obtain ⟨i0, hi, hz0, hz1, hz2⟩ := info_parts Try.infoInt
  obtain ⟨ao, cap, rfl, hc⟩ := row_get hv
  have HC := Lib.hid hc
  have HZ := Lib.hid hz
  clear hv hc hz
  have hn0 := Int.emod_nonneg a (show (1000000001 : Int) ≠ 0 by omega)
  have hn1 := Int.emod_lt_of_pos a (show (0 : Int) < 1000000001 by omega)
  obtain ⟨n, hn⟩ : ∃ n, n = a % 1000000001 := ⟨_, rfl⟩
  have HWR := Lib.hid (wsF_range zs)
  have HWL := Lib.hid (wsF_length zs)
  have hml : min 12 zs.length ≤ 12 := by omega
  have hmz : min 12 zs.length ≤ zs.length := by omega
  obtain ⟨m, hm2⟩ : ∃ m, m = min 12 zs.length := ⟨_, rfl⟩
  rw [← hm2] at hml hmz HWL
  have HM := Lib.hid hm2
  clear hm2
  go_enter Try.func4, Try.ntmps4
  go_wp2_with fail
  refine (sanity_any w).mono ?_
  rintro e w1 ⟨rfl, hb⟩
  have HB := Lib.hid hb
  clear hb
  go_wp2_with fail
  go_loopw [7, 8, 9] (fun v s i wr => ∃ k : Nat, k ≤ m ∧ i = .int .i64 k ∧ s = .int .i64 (sumI ((wsF zs).take k)) ∧ Hid (wr.ownsRow w.heap.size 3 1 v k (((wsF zs).take k).map (Value.int .i64))) ∧ Hid (Below w.heap.size w wr)) (fun _ _ i _ => m - (intOf i).toNat)
  case atStart => exact ⟨0, Nat.zero_le _, rfl, by simp [sumI], World.ownsRow_nil _ _ _ _, HB⟩
  case round =>
    clear HB
    obtain ⟨k, hk, rfl, rfl, HO, HB⟩ := hrel
    by_cases hlt : k < m
    · have h1z : (k : Int) < zs.length := by omega
      have h2z : (k : Int) < 12 := by omega
      obtain ⟨b, o, rfl, hbl, cx⟩ := HC.out k (by omega)
      have cx := (HB.out.cell (p := ⟨b, o + k, none⟩) hbl).trans cx
      have hwk := wsF_get (zs := zs) (k := k) (by omega) (by omega)
      have hsuc := Lib.hid (sumI_take_succ (l := wsF zs) (k := k) (by rw [HWL.out]; exact hlt))
      have htak : (wsF zs).take (k + 1) = (wsF zs).take k ++ [(zs[k]?.getD 0) % 1000001] := by rw [List.take_add_one, hwk]; rfl
      rw [hwk, Option.getD_some] at hsuc
      have htak := Lib.hid htak
      have hx := HZ.out (zs[k]?.getD 0) (by rw [List.getElem?_eq_getElem (by omega)]; exact List.getElem_mem _)
      have hsum : 0 ≤ sumI ((wsF zs).take k) ∧ sumI ((wsF zs).take k) ≤ k * 1000000 := by
        have e := sumI_le (l := (wsF zs).take k) (c := 1000000) (fun x hx => (HWR.out x (List.mem_of_mem_take hx)).2)
        rw [List.length_take, Nat.min_eq_left (by rw [HWL.out]; omega)] at e
        exact ⟨sumI_nonneg (fun x hx => (HWR.out x (List.mem_of_mem_take hx)).1), e⟩
      obtain ⟨x, hxe⟩ : ∃ x, x = zs[k]?.getD 0 := ⟨_, rfl⟩
      obtain ⟨t, hte⟩ : ∃ t, t = sumI ((wsF zs).take k) := ⟨_, rfl⟩
      rw [← hxe] at cx hx hsuc htak
      rw [← hte] at hsuc hsum ⊢
      clear hxe hte hwk
      obtain ⟨hx0, hx1⟩ := hx
      obtain ⟨ht0, ht1⟩ := hsum
      have hq0 := Int.emod_nonneg x (show (1000001 : Int) ≠ 0 by omega)
      have hq1 := Int.emod_lt_of_pos x (show (0 : Int) < 1000001 by omega)
      have ht2 : t ≤ 20000000 := by omega
      have hszB := HB.out.size
      obtain ⟨y, hy⟩ : ∃ y, y = x % 1000001 := ⟨_, rfl⟩
      rw [← hy] at hsuc htak hq0 hq1
      go_wp2_with (at_builtin; refine wpList_append_own _ rfl _ _ 22 rfl w.heap.size 3 i0 (.int .i64 0) 1 8 Try.underlying22 hi hz0 hz1 hz2 rfl (by decide) _ _ _ rfl (HO.out.alloc _) ⟨wr.heap.size, 0, none⟩ 1 1 [.int .i64 (x % 1000001)] rfl rfl ?c1 ?c2 ?c3 ?c4 ?c5 ?_)
      case c1 => exact cell_one_new _ _ _
      case c2 => intro u hu; simp at hu; subst hu; rfl
      case c3 => unfold maxLen; omega
      case c4 => omega
      case c5 => simp; omega
      intro v' w2 hown' hgrow _
      rw [← hy] at hown'
      have hb2 : Below w.heap.size w w2 := (HB.out.alloc hszB _).grown hgrow (by simp; omega) (fun j hj => (HO.out.lt j hj).1)
      have hown2 : w2.ownsRow w.heap.size 3 1 v' (k + 1) (((wsF zs).take (k + 1)).map (Value.int .i64)) := by rw [htak.out]; simpa using hown'
      have HO2 := Lib.hid hown2
      have HB2 := Lib.hid hb2
      obtain ⟨g, c2, rfl, hg1, hg2⟩ := owns_form hown2
      have cy : w2.cell? ⟨g, k, none⟩ = some (.int .i64 y) := by
        have := hown2.cells (g := g) rfl k (.int .i64 y) (by rw [htak.out]; exact map_snoc_get _ (by rw [List.length_take, HWL.out]; omega))
        rwa [add_flat, Nat.zero_add] at this
      clear hown' hgrow hb2 hown2 HB HO hszB cx
      go_wp2_with fail
      go_roundw
      case rel => exact ⟨k + 1, by omega, by go_num, by rw [hsuc.out]; go_num, HO2, HB2⟩
      case measure => simp [intOf]; omega
    · obtain rfl : k = m := by omega
      have h1z : ¬ ((k : Int) < zs.length ∧ (k : Int) < 12) := by have := HM.out; omega
      have htk : (wsF zs).take k = wsF zs := by rw [← HWL.out, List.take_length]
      rw [htk] at HO ⊢
      clear htk
      have HWS : Hid (∀ x ∈ wsF zs, 0 ≤ x) := fun x hx => (HWR.out x hx).1
      obtain ⟨ws, hws⟩ : ∃ ws, ws = wsF zs := ⟨_, rfl⟩
      rw [← hws] at HO HWL HWR HWS ⊢
      clear hws
      have HI : Hid (IntsAt wr.heap.size wr u7 ws) := by
        have h := HO.out
        rw [← HWL.out] at h
        exact IntsAt.of_owns h
      obtain ⟨ao7, cap7, rfl, hc7⟩ := HI.out.open
      clear hc7
      have hl20 := HWL.out
      have HK := Lib.hid (split_any n (.slice ao7 ws.length cap7) ws wr HI.out (by omega))
      rw [hl20] at HI HK ⊢
      have hnn : n ≤ 1000000000 := by omega
      have hnn0 : 0 ≤ n := by omega
      have hsb : 0 ≤ sumI ws ∧ sumI ws ≤ 12000000 := by
        have e := sumI_le (l := ws) (c := 1000000) (fun x hx => (HWR.out x hx).2)
        exact ⟨sumI_nonneg HWS.out, by omega⟩
      obtain ⟨s, hse⟩ : ∃ s, s = sumI ws := ⟨_, rfl⟩
      rw [← hse] at hsb ⊢
      have HSE := Lib.hid hse
      obtain ⟨hs0, hs1⟩ := hsb
      have hcase : ((k : Int) < zs.length ∧ ¬ (k : Int) < 12) ∨ ¬ (k : Int) < zs.length := by omega
      have HL20 := Lib.hid hl20
      clear h1z hse hl20
      by_cases hsp : 0 < s
      · have hsz : (s == 0) = false := by simp; omega
        have hok : okB n ws = true := (okB_iff n ws).2 ⟨hnn0, hnn, HWR.out, by rw [← HSE.out]; exact hsp⟩
        have hspr : spR n ws = splitI n ws := by unfold spR; rw [hok]; rfl
        rw [hok, hspr] at HK
        obtain ⟨P, hP⟩ : ∃ P, P = splitI n ws := ⟨_, rfl⟩
        rw [← hP] at HK
        have hPl : P.length = k := by rw [hP, splitI_length]; exact HL20.out
        have HPL := Lib.hid hPl
        have HPS : Hid (sumI P = n) := by rw [hP]; exact splitI_sum (by rw [← HSE.out]; exact hsp)
        have HNE : Hid (∀ i, i < k → 0 ≤ P[i]?.getD 0 ∧ P[i]?.getD 0 * s - n * (ws[i]?.getD 0) < s ∧ - s < P[i]?.getD 0 * s - n * (ws[i]?.getD 0)) := by
          intro i hi
          rw [hP, HSE.out]
          exact split_near hnn0 (by rw [← HSE.out]; exact hsp) HWS.out (by rw [HL20.out]; exact hi)
        have HOR : Hid (∀ j i, j < i → i < k → (ws[j]?.getD 0 < ws[i]?.getD 0 → P[j]?.getD 0 ≤ P[i]?.getD 0) ∧ (ws[j]?.getD 0 = ws[i]?.getD 0 → P[i]?.getD 0 ≤ P[j]?.getD 0)) := by
          intro j i hj hi
          rw [hP]
          exact split_order hnn0 (by rw [← HSE.out]; exact hsp) hj (by rw [HL20.out]; exact hi)
        clear hok hspr hP hPl
        have HPP : Hid (∀ x ∈ P, 0 ≤ x) := by
          intro x hx
          obtain ⟨i, hi, rfl⟩ := List.getElem_of_mem hx
          have := (HNE.out i (by rw [← HPL.out]; exact hi)).1
          rwa [List.getElem?_eq_getElem hi] at this
        rcases hcase with ⟨h1z, h2z⟩ | h1z
        all_goals
          go_wp2_with fail
          rw [← hn]
          clear hn hn0 hn1
          refine HK.out.mono ?_
          rintro e w3 ⟨v3, rfl, hv3, hb3⟩
          have HB3 : Hid (Below w.heap.size w w3) := HB.out.trans (hb3.mono HB.out.size)
          have HI3 := HI.out.mono hb3 hb3.size
          obtain ⟨ao3, cap3, rfl, hc3⟩ := hv3.open
          have HC3 := Lib.hid hc3
          obtain ⟨_, _, e7, hc7⟩ := row_get HI3
          simp only [Value.slice.injEq] at e7
          obtain ⟨rfl, e8, rfl⟩ := e7
          clear e8
          have HC7 := Lib.hid hc7
          rw [HPL.out]
          clear hv3 hb3 hc3 HI3 hc7 HK
          go_wp2_with fail
          go_loopw [12, 13] (fun t i wr => ∃ c : Nat, c ≤ k ∧ i = .int .i64 c ∧ t = .int .i64 (sumI (P.take c)) ∧ Drew w3 wr) (fun _ i _ => k - (intOf i).toNat)
          case atStart => exact ⟨0, Nat.zero_le _, rfl, by simp [sumI], Drew.refl _⟩
          case round =>
            obtain ⟨c, hc, rfl, rfl, nd, rfl⟩ := hrel
            by_cases hlt : c < k
            · have hlz : (c : Int) < k := by omega
              obtain ⟨b1, o1, rfl, _, x1⟩ := HC3.out c (by rw [HPL.out]; exact hlt)
              obtain ⟨b2, o2, rfl, _, x2⟩ := HC7.out c (by rw [HL20.out]; exact hlt)
              obtain ⟨n0, n1, n2⟩ := HNE.out c hlt
              have HORc := Lib.hid (fun j (hj : j < c) => HOR.out j c hj hlt)
              have hsuc := Lib.hid (sumI_take_succ (l := P) (k := c) (by rw [HPL.out]; exact hlt))
              have ht0 := sumI_nonneg (l := P.take c) (fun x hx => HPP.out x (List.mem_of_mem_take hx))
              have ht1 := sumI_take_le HPP.out (c + 1)
              rw [hsuc.out, HPS.out] at ht1
              have hw := HWR.out (ws[c]?.getD 0) (by rw [List.getElem?_eq_getElem (by rw [HL20.out]; exact hlt)]; exact List.getElem_mem _)
              obtain ⟨p, hp⟩ : ∃ p, p = P[c]?.getD 0 := ⟨_, rfl⟩
              obtain ⟨q, hq⟩ : ∃ q, q = ws[c]?.getD 0 := ⟨_, rfl⟩
              obtain ⟨t, hte⟩ : ∃ t, t = sumI (P.take c) := ⟨_, rfl⟩
              rw [← hp] at x1 n0 n1 n2 HORc hsuc ht1
              rw [← hq] at x2 n1 n2 HORc hw
              rw [← hte] at ht0 ht1 hsuc ⊢
              have HPE := Lib.hid hp
              have HQE := Lib.hid hq
              clear hp hq hte
              obtain ⟨hw0, hw1⟩ := hw
              have m0 : 0 ≤ p * s := Int.mul_nonneg n0 hs0
              have m1 : 0 ≤ n * q := Int.mul_nonneg hnn0 hw0
              have m2 : n * q ≤ 1000000000000000 := by
                have e1 := Int.mul_le_mul hnn hw1 hw0 (by omega)
                omega
              have m3 : p * s ≤ 2000000000000000 := by omega
              have d0 : decide (p < 0) = false := decide_eq_false (by omega)
              have d1 : decide (p * s - n * q ≥ s) = false := decide_eq_false (by omega)
              have d2 : decide (p * s - n * q ≤ -s) = false := decide_eq_false (by omega)
              go_wp2_with fail
              go_quiet (fail)
              go_wp2_with fail
              go_loopw [15] (fun j wr => ∃ d : Nat, d ≤ c ∧ j = .int .i64 d ∧ Drew w3 wr) (fun j _ => c - (intOf j).toNat)
              case atStart => exact ⟨0, Nat.zero_le _, rfl, Drew.n _ _⟩
              case round =>
                obtain ⟨d, hd, rfl, nd, rfl⟩ := hrel
                by_cases hdl : d < c
                · have hdz : (d : Int) < c := by omega
                  obtain ⟨_, _, e1, _, x3⟩ := HC3.out d (by rw [HPL.out]; omega)
                  obtain ⟨_, _, e2, _, x4⟩ := HC7.out d (by rw [HL20.out]; omega)
                  simp only [Option.some.injEq, Addr.mk.injEq, and_true] at e1 e2
                  obtain ⟨rfl, rfl⟩ := e1
                  obtain ⟨rfl, rfl⟩ := e2
                  have hor := HORc.out d hdl
                  obtain ⟨p2, hp2⟩ : ∃ p2, p2 = P[d]?.getD 0 := ⟨_, rfl⟩
                  obtain ⟨q2, hq2⟩ : ∃ q2, q2 = ws[d]?.getD 0 := ⟨_, rfl⟩
                  rw [← hp2] at x3 hor
                  rw [← hq2] at x4 hor
                  clear hp2 hq2
                  rcases Int.lt_trichotomy q2 q with hq3 | hq3 | hq3
                  · have g1 : decide (q2 < q) = true := decide_eq_true hq3
                    have g2 : decide (p2 > p) = false := decide_eq_false (by have := hor.1 hq3; omega)
                    have g3 : (q2 == q) = false := by simp; omega
                    clear hor
                    go_wp2_with fail
                    go_quiet (fail)
                    go_wp2_with fail
                    go_roundw
                    case rel => exact ⟨d + 1, by omega, by go_num, Drew.n _ _⟩
                    case measure => simp [intOf]; omega
                  · have g1 : decide (q2 < q) = false := decide_eq_false (by omega)
                    have g2 : decide (p2 < p) = false := decide_eq_false (by have := hor.2 hq3; omega)
                    have g3 : (q2 == q) = true := by simpa using hq3
                    clear hor hq3
                    go_wp2_with fail
                    go_quiet (fail)
                    go_wp2_with fail
                    go_roundw
                    case rel => exact ⟨d + 1, by omega, by go_num, Drew.n _ _⟩
                    case measure => simp [intOf]; omega
                  · have g1 : decide (q2 < q) = false := decide_eq_false (by omega)
                    have g3 : (q2 == q) = false := by simp; omega
                    clear hor
                    go_wp2_with fail
                    go_quiet (fail)
                    go_wp2_with fail
                    go_roundw
                    case rel => exact ⟨d + 1, by omega, by go_num, Drew.n _ _⟩
                    case measure => simp [intOf]; omega
                · obtain rfl : d = c := by omega
                  have hdz : ¬ (d : Int) < d := by omega
                  go_wp2_with fail
                  go_roundw
                  case rel => exact ⟨d + 1, by omega, by go_num, by rw [hsuc.out], Drew.n _ _⟩
                  case measure => simp [intOf]; omega
            · obtain rfl : c = k := by omega
              have hlz : ¬ (c : Int) < c := by omega
              have e : sumI (P.take c) = n := by rw [← HPL.out, List.take_length]; exact HPS.out
              have e2 : (sumI (P.take c) == n) = true := by simpa using e
              clear e
              go_wp2_with fail
              go_ret
              exact ⟨rfl, bl_drews HB3.out (Drew.n _ _)⟩
      · have hsz : (s == 0) = true := by simp; omega
        have hok : okB n ws = false := by
          cases h : okB n ws with
          | false => rfl
          | true => exact absurd (by rw [HSE.out]; exact ((okB_iff n ws).1 h).2.2.2) hsp
        have hspr : spR n ws = [] := by unfold spR; rw [hok]; rfl
        rw [hok, hspr] at HK
        clear hok hspr
        rcases hcase with ⟨h1z, h2z⟩ | h1z
        all_goals
          go_wp2_with fail
          rw [← hn]
          clear hn hn0 hn1
          refine HK.out.mono ?_
          rintro e w3 ⟨v3, rfl, hv3, hb3⟩
          have HB3 : Hid (Below w.heap.size w w3) := HB.out.trans (hb3.mono HB.out.size)
          obtain ⟨ao3, cap3, rfl, hc3⟩ := hv3.open
          rw [List.length_nil]
          clear hv3 hb3 hc3 HK
          go_wp2_with fail
          go_ret
          exact ⟨rfl, HB3.out⟩

end Go.Proofs.Ytkimcopmfhjjcaa

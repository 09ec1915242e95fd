/- The reference's 'Split': it returns what 'ledger.Split' returns. -/
import Derived.Test.YtkimcopmfhjjcaaSplitRefLaw
namespace Go.Proofs.Ytkimcopmfhjjcaa
open Go.RowKit

set_option maxHeartbeats 1000000 in
set_option maxRecDepth 100000 in
theorem ref_split_yes (a : Int) (v : Value) (ws : List Int) (w : World) (hl : IntsAt w.heap.size w v ws) (ha0 : 0 ≤ a) (ha1 : a ≤ 1000000000) (h1 : 1 ≤ ws.length) (h20 : ws.length < 20)
    (hw : ∀ x ∈ ws, 0 ≤ x ∧ x ≤ 1000000) (hs : 0 < sumI ws) :
    Calls Try.prog 9 #[.int .i64 a, v] w fun e w' =>
      ∃ v', e = .returned (.tuple #[v', .bool true]) ∧ w'.ownsRow w.heap.size 3 1 v' ws.length ((splitI a ws).map (Value.int .i64)) ∧ Below w.heap.size w w' := by
  obtain ⟨i0, hi, hz0, hz1, hz2⟩ := info_parts Try.infoInt
  obtain ⟨ao, cap0, rfl, hc⟩ := hl.open
  have HC := Lib.hid hc
  have HW := Lib.hid hw
  clear hl hc hw
  have hl1000 : decide ((ws.length : Int) > 1000) = false := decide_eq_false (by omega)
  have hl1 : decide ((ws.length : Int) < 1) = false := decide_eq_false (by omega)
  have hd0 : decide (a < 0) = false := decide_eq_false (by omega)
  have hd1 : decide (a > 1000000000) = false := decide_eq_false (by omega)
  go_enter Try.func9, Try.ntmps9
  go_wp2
  go_loop [6, 7] (fun s i => ∃ k : Nat, k ≤ ws.length ∧ i = .int .i64 k ∧ s = .int .i64 (sumI (ws.take k))) (fun _ i => ws.length - (intOf i).toNat)
  case atStart => exact ⟨0, Nat.zero_le _, rfl, rfl⟩
  case round =>
    obtain ⟨k, hk, rfl, rfl⟩ := hrel
    by_cases hlt : k < ws.length
    · have hlz : (k : Int) < ws.length := by omega
      obtain ⟨b, o, rfl, hbl, cx⟩ := HC.out k hlt
      have hx : 0 ≤ ws[k]?.getD 0 ∧ ws[k]?.getD 0 ≤ 1000000 := by rw [List.getElem?_eq_getElem hlt]; exact HW.out _ (List.getElem_mem _)
      have hsum : 0 ≤ sumI (ws.take k) ∧ sumI (ws.take k) ≤ k * 1000000 := by
        have e := sumI_le (l := ws.take k) (c := 1000000) (fun x hx => (HW.out x (List.mem_of_mem_take hx)).2)
        rw [List.length_take, Nat.min_eq_left (by omega)] at e
        exact ⟨sumI_nonneg (fun x hx => (HW.out x (List.mem_of_mem_take hx)).1), e⟩
      have hsuc := Lib.hid (sumI_take_succ hlt)
      obtain ⟨x, hxe⟩ : ∃ x, x = ws[k]?.getD 0 := ⟨_, rfl⟩
      rw [← hxe] at cx hx hsuc
      clear hxe
      obtain ⟨t, hte⟩ : ∃ t, t = sumI (ws.take k) := ⟨_, rfl⟩
      rw [← hte] at hsum hsuc ⊢
      clear hte
      obtain ⟨hx0, hx1⟩ := hx
      obtain ⟨hs0, hs1⟩ := hsum
      have hs2 : t ≤ 20000000 := by omega
      have hdx0 : decide (x < 0) = false := decide_eq_false (by omega)
      have hdx1 : decide (x > 1000000) = false := decide_eq_false (by omega)
      go_wp2
      go_round
      case rel => exact ⟨k + 1, by omega, by go_num, by rw [hsuc.out]⟩
      case measure => simp [intOf]; omega
    · obtain rfl : k = ws.length := by omega
      have hlz : ¬ (ws.length : Int) < ws.length := by omega
      rw [List.take_length]
      have hsb : (sumI ws == 0) = false := by simp; omega
      have hpl : (partsI a (sumI ws) ws).length = ws.length := by simp [partsI]
      have HPL := Lib.hid hpl
      have hrl : (restsI a (sumI ws) ws).length = ws.length := by simp [restsI]
      have HRL := Lib.hid hrl
      have hp0 := parts_nonneg (a := a) (s := sumI ws) ha0 hs (fun x hx => (HW.out x hx).1)
      have HP0 := Lib.hid hp0
      have hsle : sumI ws ≤ 20000000 := by
        have e := sumI_le (l := ws) (c := 1000000) (fun x hx => (HW.out x hx).2)
        omega
      have hpsum : sumI (partsI a (sumI ws) ws) ≤ a := by have := (left_range (a := a) hs).1; unfold leftI at this; omega
      have HPS := Lib.hid hpsum
      clear hpl hrl hp0 hpsum
      obtain ⟨s, hse⟩ : ∃ s, s = sumI ws := ⟨_, rfl⟩
      rw [← hse]
      have HSE := Lib.hid hse
      rw [← hse] at HPL HRL HP0 HPS hs hsle hsb
      clear hse
      go_wp2
      go_loopw [8, 9, 10, 11] (fun v r l i wr => ∃ k : Nat, k ≤ ws.length ∧ i = .int .i64 k ∧ l = .int .i64 (a - sumI ((partsI a s ws).take k)) ∧ wr.ownsRow w.heap.size 3 1 v k (((partsI a s ws).take k).map (Value.int .i64)) ∧
          wr.ownsRow w.heap.size 3 1 r k (((restsI a s ws).take k).map (Value.int .i64)) ∧ Apart v r ∧ Below w.heap.size w wr)
        (fun _ _ _ i _ => ws.length - (intOf i).toNat)
      case atStart => exact ⟨0, Nat.zero_le _, rfl, by simp [sumI], World.ownsRow_nil _ _ _ _, World.ownsRow_nil _ _ _ _, Apart.nil _, Below.refl _ _⟩
      case round =>
        obtain ⟨k, hk, rfl, rfl, hown, hownr, HNE, hb⟩ := hrel
        have hsz := hb.size
        by_cases hlt : k < ws.length
        · have hlz2 : (k : Int) < ws.length := by omega
          obtain ⟨b, o, rfl, hbl, cx⟩ := HC.out k hlt
          have cx2 := (hb.cell (p := ⟨b, o + k, none⟩) hbl).trans cx
          have hx : 0 ≤ ws[k]?.getD 0 ∧ ws[k]?.getD 0 ≤ 1000000 := by rw [List.getElem?_eq_getElem hlt]; exact HW.out _ (List.getElem_mem _)
          have hpk : (partsI a s ws)[k]?.getD 0 = a * (ws[k]?.getD 0) / s := by simp [partsI, List.getElem?_eq_getElem hlt]
          have hts := sumI_take_succ (l := partsI a s ws) (k := k) (by rw [HPL.out]; exact hlt)
          have hts2 : (partsI a s ws).take (k + 1) = (partsI a s ws).take k ++ [a * (ws[k]?.getD 0) / s] := by rw [List.take_add_one, ← hpk, List.getElem?_eq_getElem (by rw [HPL.out]; exact hlt)]; rfl
          have hrk : (restsI a s ws)[k]?.getD 0 = a * (ws[k]?.getD 0) % s := by simp [restsI, List.getElem?_eq_getElem hlt]
          have hts3 : (restsI a s ws).take (k + 1) = (restsI a s ws).take k ++ [a * (ws[k]?.getD 0) % s] := by rw [List.take_add_one, ← hrk, List.getElem?_eq_getElem (by rw [HRL.out]; exact hlt)]; rfl
          rw [hpk] at hts
          have hle := sumI_take_le HP0.out (k + 1)
          have hle0 := sumI_nonneg (l := (partsI a s ws).take k) (fun x hx => HP0.out x (List.mem_of_mem_take hx))
          rw [hts] at hle
          have HLE : sumI ((partsI a s ws).take k) + a * (ws[k]?.getD 0) / s ≤ a := Int.le_trans hle HPS.out
          clear hle hpk hrk cx
          obtain ⟨x, hxe⟩ : ∃ x, x = ws[k]?.getD 0 := ⟨_, rfl⟩
          rw [← hxe] at cx2 hx hts hts2 hts3 HLE
          clear hxe
          obtain ⟨hx0, hx1⟩ := hx
          have hax0 : 0 ≤ a * x := Int.mul_nonneg ha0 hx0
          have hax1 : a * x ≤ 1000000000000000 := by
            have e1 := Int.mul_le_mul_of_nonneg_left hx1 ha0
            have e2 : a * 1000000 ≤ 1000000000000000 := by omega
            omega
          have hq0 : 0 ≤ a * x / s := Int.ediv_nonneg hax0 (by omega)
          obtain ⟨p, hpe⟩ : ∃ p, p = sumI ((partsI a s ws).take k) := ⟨_, rfl⟩
          rw [← hpe] at hts hle0 HLE ⊢
          clear hpe
          have HTS := Lib.hid hts
          have HTS2 := Lib.hid hts2
          have HTS3 := Lib.hid hts3
          clear hts hts2 hts3
          have hs1 : 1 ≤ s := by omega
          go_wp2_with (at_builtin; refine wpList_append_own_at _ rfl _ _ 22 rfl w.heap.size 3 i0 (.int .i64 0) 1 8 Try.underlying22 hi hz0 hz1 hz2 rfl (by decide) _ _ _ rfl (hown.alloc _) ⟨wr.heap.size, 0, none⟩ 1 1 [.int .i64 (a * x / s)] rfl rfl ?c1 ?c2 ?c3 ?c4 ?c5 ?_)
          case c1 => exact cell_one_new _ _ _
          case c2 => intro u hu; simp at hu; subst hu; rfl
          case c3 => unfold maxLen; omega
          case c4 => omega
          case c5 => simp; omega
          intro v' w1 hown' hgrow _ hat
          have hap1 : Apart v' u9 := HNE.grow hat (fun j hj => by have := (hownr.lt j hj).2; simp; omega)
          have hnx' : Below w.heap.size w w1 := (hb.alloc (by omega) _).grown hgrow (by simp; omega) (fun j hj => (hown.lt j hj).1)
          have hcx := (Below.cell (B := w.heap.size) (((Below.refl _ wr).alloc (by omega) _).grown hgrow (by simp; omega) (fun j hj => (hown.lt j hj).1)) (p := ⟨b, o + k, none⟩) hbl).trans cx2
          have hownr1 := (hownr.alloc _).kept hgrow HNE.symm.ne
          have hown2 : w1.ownsRow w.heap.size 3 1 v' (k + 1) (((partsI a s ws).take (k + 1)).map (Value.int .i64)) := by rw [HTS2.out]; simpa using hown'
          have hsz1 := hnx'.size
          clear hown' hgrow hown hownr HNE hb cx2 hat
          go_wp2_with (at_builtin; refine wpList_append_own_at _ rfl _ _ 22 rfl w.heap.size 3 i0 (.int .i64 0) 1 8 Try.underlying22 hi hz0 hz1 hz2 rfl (by decide) _ _ _ rfl (hownr1.alloc _) ⟨w1.heap.size, 0, none⟩ 1 1 [.int .i64 (a * x % s)] rfl rfl ?d1 ?d2 ?d3 ?d4 ?d5 ?_)
          case d1 => exact cell_one_new _ _ _
          case d2 => intro u hu; simp at hu; subst hu; rfl
          case d3 => unfold maxLen; omega
          case d4 => omega
          case d5 => simp; omega
          intro r' w2 hownr' hgrow _ hat
          have hap2 : Apart v' r' := (hap1.symm.grow hat (fun j hj => by have := (hown2.lt j hj).2; simp; omega)).symm
          have hnx2 : Below w.heap.size w w2 := (hnx'.alloc (by omega) _).grown hgrow (by simp; omega) (fun j hj => (hownr1.lt j hj).1)
          have hown3 := (hown2.alloc _).kept hgrow hap1.ne
          have hownr2 : w2.ownsRow w.heap.size 3 1 r' (k + 1) (((restsI a s ws).take (k + 1)).map (Value.int .i64)) := by rw [HTS3.out]; simpa using hownr'
          clear hownr' hgrow hown2 hownr1 hap1 hnx' hat hcx
          obtain ⟨g, cap, rfl⟩ : ∃ g cap, v' = .slice (some ⟨g, 0, none⟩) (k + 1) cap := by
            rcases hown3.2 with ⟨_, h⟩ | ⟨g, cap, cur, h, _⟩
            · omega
            · exact ⟨g, cap, h⟩
          have hck : w2.cell? ⟨g, k, none⟩ = some (.int .i64 (a * x / s)) := by
            rw [World.ownsRow.cellAt hown3 k (by omega), HTS2.out]
            exact map_snoc_get _ (by rw [List.length_take, HPL.out]; omega)
          go_wp2
          go_roundw
          case rel => exact ⟨k + 1, by omega, by go_num, by rw [HTS.out]; go_num, hown3, hownr2, hap2, hnx2⟩
          case measure => simp [intOf]; omega
        · obtain rfl : k = ws.length := by omega
          have hlz2 : ¬ (ws.length : Int) < ws.length := by omega
          rw [show (partsI a s ws).take ws.length = partsI a s ws by rw [← HPL.out, List.take_length]] at hown ⊢
          rw [show (restsI a s ws).take ws.length = restsI a s ws by rw [← HRL.out, List.take_length]] at hownr
          obtain ⟨g8, cap8, rfl, hO⟩ : ∃ g cap, u8 = .slice (some ⟨g, 0, none⟩) ws.length cap ∧ OwnInts wr w.heap.size g cap (partsI a s ws) := by
            rcases hown.2 with ⟨_, h⟩ | ⟨g, cap, cur, rfl, _⟩
            · omega
            · exact ⟨g, cap, rfl, by unfold OwnInts; rw [HPL.out]; exact hown⟩
          obtain ⟨g9, cap9, rfl, hO9⟩ : ∃ g cap, u9 = .slice (some ⟨g, 0, none⟩) ws.length cap ∧ OwnInts wr w.heap.size g cap (restsI a s ws) := by
            rcases hownr.2 with ⟨_, h⟩ | ⟨g, cap, cur, rfl, _⟩
            · omega
            · exact ⟨g, cap, rfl, by unfold OwnInts; rw [HRL.out]; exact hownr⟩
          have hgg : g8 ≠ g9 := fun e => HNE g8 rfl (by rw [e]; rfl)
          have HGG := Lib.hid hgg
          have hg8 := hO.lt.1
          have hg9 := hO9.lt.1
          have HO8 : Hid (OwnInts wr w.heap.size g8 cap8 (partsI a s ws)) := hO
          have HO9 : Hid (OwnInts wr w.heap.size g9 cap9 (restsI a s ws)) := hO9
          have HB := Lib.hid hb
          have hlr := left_range (a := a) (ws := ws) (by rw [← HSE.out]; exact hs)
          obtain ⟨m, hm⟩ := Int.eq_ofNat_of_zero_le hlr.1
          have hmn : m ≤ ws.length := by omega
          have hmm : a - sumI (partsI a s ws) = (m : Int) := by rw [HSE.out]; exact hm
          have HMM := Lib.hid hm
          rw [hmm]
          have hpb : ∀ x ∈ partsI a s ws, 0 ≤ x ∧ x ≤ 1000000000 := fun x hx => ⟨HP0.out x hx, by have := sumI_mem_le HP0.out hx; have := HPS.out; omega⟩
          have HPB := Lib.hid hpb
          obtain ⟨L, hLe⟩ : ∃ L, L = orderI (restI a s) ws := ⟨_, rfl⟩
          have hLl : L.length = ws.length := by rw [hLe, orderI_length]
          have hLm : ∀ z ∈ L, 0 ≤ z ∧ z < ws.length := by intro z hz; rw [hLe, orderI_mem] at hz; exact hz
          have hbest : ∀ t, t < ws.length → (bestTo (marks (restsI a s ws) (L.take t)) ws.length : Int) = L[t]?.getD 0 := by intro t ht; rw [hLe]; exact best_order hs t ht
          have HLE := Lib.hid hLe
          have HLL := Lib.hid hLl
          have HLM := Lib.hid hLm
          have HBEST := Lib.hid hbest
          clear hLe hLl hLm hbest hpb hmm hm hlr hgg hO hO9 hown hownr HNE hb hsz
          go_wp2_with fail
          obtain ⟨wo, rfl⟩ : ∃ wo : World, wo = wr := ⟨_, rfl⟩
          go_loopw [10] (fun l wr => ∃ t : Nat, t ≤ m ∧ l = .int .i64 ((m : Int) - t) ∧ Hid (OwnInts wr w.heap.size g8 cap8 (bump (partsI a s ws) (L.take t))) ∧ Hid (OwnInts wr w.heap.size g9 cap9 (marks (restsI a s ws) (L.take t))) ∧ Hid (Below w.heap.size w wr) ∧
              Hid (∀ x ∈ bump (partsI a s ws) (L.take t), 0 ≤ x ∧ x ≤ 1000000000 + t))
            (fun l _ => (intOf l).toNat)
          case atStart => exact ⟨0, Nat.zero_le _, by simp, HO8, HO9, HB, (show ∀ x ∈ _, _ by intro x hx; have := HPB.out x hx; omega)⟩
          case round =>
            clear HO8 HO9 HB HPB
            obtain ⟨t, ht, rfl, HO8, HO9, HB, HPB⟩ := hrel
            by_cases hlt : t < m
            · have htz : (0 : Int) < m - t := by omega
              have htd : decide ((m : Int) - t > 0) = true := decide_eq_true (by omega)
              obtain ⟨R, hR⟩ : ∃ R, R = marks (restsI a s ws) (L.take t) := ⟨_, rfl⟩
              have hRl : R.length = ws.length := by rw [hR, marks_length]; exact HRL.out
              have hbest := HBEST.out t (by omega)
              rw [← hR] at hbest HO9
              have HRE := Lib.hid hR
              have HRLn := Lib.hid hRl
              have HB2 := Lib.hid hbest
              clear hR hRl hbest
              go_wp2
              obtain ⟨wo, rfl⟩ : ∃ wo : World, wo = wr := ⟨_, rfl⟩
              go_loopw [12, 13] (fun b i wr => ∃ (k bn : Nat), k ≤ ws.length ∧ i = .int .i64 k ∧ b = .int .i64 bn ∧ bn < ws.length ∧ Hid (bn = bestTo R k) ∧ Drew wo wr) (fun _ i _ => ws.length - (intOf i).toNat)
              case atStart => exact ⟨0, 0, Nat.zero_le _, rfl, rfl, by omega, rfl, Drew.refl _⟩
              case round =>
                obtain ⟨k, bn, hk, rfl, rfl, hbn, HBN, hdr⟩ := hrel
                by_cases hlk : k < ws.length
                · have hlkz : (k : Int) < ws.length := by omega
                  have hbnz : (bn : Int) < ws.length := by omega
                  have ck := (hdr.cell _).trans (HO9.out.cell (j := k) (by rw [HRLn.out]; omega))
                  have cb := (hdr.cell _).trans (HO9.out.cell (j := bn) (by rw [HRLn.out]; omega))
                  by_cases hgt : R[k]?.getD 0 > R[bn]?.getD 0
                  · have hgd : decide (R[k]?.getD 0 > R[bn]?.getD 0) = true := decide_eq_true hgt
                    have HBN2 : Hid (k = bestTo R (k + 1)) := (show _ = _ by rw [bestTo, ← HBN.out, if_pos hgt])
                    obtain ⟨x, hx⟩ : ∃ x, x = R[k]?.getD 0 := ⟨_, rfl⟩
                    obtain ⟨y, hy⟩ : ∃ y, y = R[bn]?.getD 0 := ⟨_, rfl⟩
                    rw [← hx] at ck hgd hgt
                    rw [← hy] at cb hgd hgt
                    clear hx hy
                    go_wp2
                    go_quiet (fail)
                    go_wp2
                    go_roundw
                    case rel => exact ⟨k + 1, k, by omega, by go_num, rfl, hlk, HBN2, hdr.drewN _⟩
                    case measure => simp [intOf]; omega
                  · have hgd : decide (R[k]?.getD 0 > R[bn]?.getD 0) = false := decide_eq_false hgt
                    have HBN2 : Hid (bn = bestTo R (k + 1)) := (show _ = _ by rw [bestTo, ← HBN.out, if_neg hgt])
                    obtain ⟨x, hx⟩ : ∃ x, x = R[k]?.getD 0 := ⟨_, rfl⟩
                    obtain ⟨y, hy⟩ : ∃ y, y = R[bn]?.getD 0 := ⟨_, rfl⟩
                    rw [← hx] at ck hgd hgt
                    rw [← hy] at cb hgd hgt
                    clear hx hy
                    go_wp2
                    go_quiet (fail)
                    go_wp2
                    go_roundw
                    case rel => exact ⟨k + 1, bn, by omega, by go_num, rfl, hbn, HBN2, hdr.drewN _⟩
                    case measure => simp [intOf]; omega
                · obtain rfl : k = ws.length := by omega
                  have hlkz : ¬ (ws.length : Int) < ws.length := by omega
                  have hbz := HB2.out
                  rw [← HBN.out] at hbz
                  have htL : t < L.length := by rw [HLL.out]; omega
                  have hbs := bump_take_succ (partsI a s ws) L t htL
                  have hms := marks_take_succ (restsI a s ws) L t htL
                  rw [← hbz, Int.toNat_natCast] at hbs hms
                  rw [← HRE.out] at hms
                  obtain ⟨D, hD⟩ : ∃ D, D = bump (partsI a s ws) (L.take t) := ⟨_, rfl⟩
                  have hDl : D.length = ws.length := by rw [hD, bump_length]; exact HPL.out
                  rw [← hD] at HO8 HPB hbs
                  clear hD
                  have hO8 := HO8.out.Drew hdr
                  have hO9 := HO9.out.Drew hdr
                  have cj := hO8.cell (j := bn) (by omega)
                  have fj := hO8.free bn
                  have fj9 := hO9.free bn
                  have hjr := HPB.out (D[bn]?.getD 0) (by rw [List.getElem?_eq_getElem (by omega)]; exact List.getElem_mem _)
                  have hst8 := (hO8.set bn (D[bn]?.getD 0 + 1)).other ⟨g9, bn, none⟩ (.int .i64 (-1)) HGG.out
                  have hst9 := (hO9.other ⟨g8, bn, none⟩ (.int .i64 (D[bn]?.getD 0 + 1)) (Ne.symm HGG.out)).set bn (-1)
                  have hc9 := hO9.other ⟨g8, bn, none⟩ (.int .i64 (D[bn]?.getD 0 + 1)) (Ne.symm HGG.out)
                  have hc9 := hc9.cell (j := bn) (by have := HRLn.out; omega)
                  have hbr := bump_range HPB.out (j := bn) (by omega)
                  have hbl := ((bl_drews HB.out hdr).setCell (p := ⟨g8, bn, none⟩) hg8 (.int .i64 (D[bn]?.getD 0 + 1))).setCell (p := ⟨g9, bn, none⟩) hg9 (.int .i64 (-1))
                  have hbnz : (bn : Int) < ws.length := by omega
                  rw [← hbs] at hst8 hbr
                  rw [← hms] at hst9
                  have HST8 := Lib.hid hst8
                  have HST9 := Lib.hid hst9
                  have HBR := Lib.hid hbr
                  have HBL := Lib.hid hbl
                  clear hst8 hst9 hbr hbl hbs hms hbz hDl htL HPB HO8 HO9 HB hO8 hO9 hdr HBN
                  obtain ⟨y, hy⟩ : ∃ y, y = D[bn]?.getD 0 := ⟨_, rfl⟩
                  rw [← hy] at cj hjr HST8 HST9 HBL hc9
                  clear hy
                  have hy0 := hjr.1
                  have hy1 : y ≤ 1000000020 := by omega
                  clear hjr
                  go_wp2
                  go_roundw
                  case rel => exact ⟨t + 1, by omega, by go_num, HST8.out, HST9.out, HBL.out, (show ∀ x ∈ _, _ by intro x hx; have := HBR.out x hx; omega)⟩
                  case measure => simp [intOf]; omega
            · obtain rfl : t = m := by omega
              have htd : decide ((t : Int) - t > 0) = false := decide_eq_false (by omega)
              go_wp2
              go_ret2
              refine ⟨_, rfl, ?_, HB.out⟩
              have h := HO8.out
              have e : bump (partsI a s ws) (L.take t) = splitI a ws := by
                unfold splitI
                rw [HLE.out, HSE.out, HMM.out]; rfl
              rw [e] at h
              unfold OwnInts at h
              have hl : (splitI a ws).length = ws.length := by rw [← e, bump_length]; exact HPL.out
              rwa [hl] at h

set_option maxHeartbeats 1000000 in
set_option maxRecDepth 100000 in
theorem ref_split_no (a : Int) (v : Value) (ws : List Int) (w : World) (hl : IntsAt w.heap.size w v ws) (h20 : ws.length < 20) (hno : ¬ OkSplit a ws) :
    Calls Try.prog 9 #[.int .i64 a, v] w fun e w' => e = .returned (.tuple #[.slice none 0 0, .bool false]) ∧ w = w' := by
  obtain ⟨ao, cap0, rfl, hc⟩ := hl.open
  have HC := Lib.hid hc
  clear hl hc
  have hl1000 : decide ((ws.length : Int) > 1000) = false := decide_eq_false (by omega)
  by_cases ha0 : a < 0
  · have hd0 : decide (a < 0) = true := decide_eq_true ha0
    clear hno
    go_enter Try.func9, Try.ntmps9
    go_wp2
    go_ret2
    exact ⟨rfl, rfl⟩
  by_cases ha1 : 1000000000 < a
  · have hd0 : decide (a < 0) = false := decide_eq_false ha0
    have hd1 : decide (a > 1000000000) = true := decide_eq_true ha1
    clear hno
    go_enter Try.func9, Try.ntmps9
    go_wp2
    go_ret2
    exact ⟨rfl, rfl⟩
  have hd0 : decide (a < 0) = false := decide_eq_false (by omega)
  have hd1 : decide (a > 1000000000) = false := decide_eq_false (by omega)
  have HN := Lib.hid hno
  clear hno
  by_cases hl0 : (ws.length : Int) < 1
  · have hl1 : decide ((ws.length : Int) < 1) = true := decide_eq_true hl0
    go_enter Try.func9, Try.ntmps9
    go_wp2
    go_ret2
    exact ⟨rfl, rfl⟩
  have hl1 : decide ((ws.length : Int) < 1) = false := decide_eq_false hl0
  go_enter Try.func9, Try.ntmps9
  go_wp2
  go_loop [6, 7] (fun s i => ∃ k : Nat, k ≤ ws.length ∧ i = .int .i64 k ∧ s = .int .i64 (sumI (ws.take k)) ∧ Hid (∀ x ∈ ws.take k, 0 ≤ x ∧ x ≤ 1000000)) (fun _ i => ws.length - (intOf i).toNat)
  case atStart => exact ⟨0, Nat.zero_le _, rfl, rfl, (show ∀ x ∈ _, _ by intro x hx; simp at hx)⟩
  case round =>
    obtain ⟨k, hk, rfl, rfl, HW⟩ := hrel
    by_cases hlt : k < ws.length
    · have hlz : (k : Int) < ws.length := by omega
      obtain ⟨b, o, rfl, hbl, cx⟩ := HC.out k hlt
      have hsum : 0 ≤ sumI (ws.take k) ∧ sumI (ws.take k) ≤ k * 1000000 := by
        have e := sumI_le (l := ws.take k) (c := 1000000) (fun x hx => (HW.out x hx).2)
        rw [List.length_take, Nat.min_eq_left (by omega)] at e
        exact ⟨sumI_nonneg (fun x hx => (HW.out x hx).1), e⟩
      have hsuc := Lib.hid (sumI_take_succ hlt)
      have hall : 0 ≤ ws[k]?.getD 0 → ws[k]?.getD 0 ≤ 1000000 → ∀ x ∈ ws.take (k + 1), 0 ≤ x ∧ x ≤ 1000000 := by
        intro h0 h1 x hx
        rw [List.take_add_one, List.getElem?_eq_getElem hlt] at hx
        rcases List.mem_append.1 hx with hx | hx
        · exact HW.out x hx
        · simp at hx; subst hx; rw [List.getElem?_eq_getElem hlt] at h0 h1; exact ⟨h0, h1⟩
      have HALL := Lib.hid hall
      clear hall
      obtain ⟨x, hxe⟩ : ∃ x, x = ws[k]?.getD 0 := ⟨_, rfl⟩
      rw [← hxe] at cx hsuc HALL
      clear hxe
      obtain ⟨t, hte⟩ : ∃ t, t = sumI (ws.take k) := ⟨_, rfl⟩
      rw [← hte] at hsum hsuc ⊢
      clear hte
      obtain ⟨hs0, hs1⟩ := hsum
      have hs2 : t ≤ 20000000 := by omega
      by_cases hx0 : x < 0
      · have hdx0 : decide (x < 0) = true := decide_eq_true hx0
        go_wp2
        go_ret2
        exact ⟨rfl, rfl⟩
      have hdx0 : decide (x < 0) = false := decide_eq_false hx0
      by_cases hx1 : x > 1000000
      · have hdx1 : decide (x > 1000000) = true := decide_eq_true hx1
        go_wp2
        go_ret2
        exact ⟨rfl, rfl⟩
      have hdx1 : decide (x > 1000000) = false := decide_eq_false hx1
      have hx2 : x ≤ 1000000 := by omega
      have hx3 : 0 ≤ x := by omega
      go_wp2
      go_round
      case rel => exact ⟨k + 1, by omega, by go_num, by rw [hsuc.out], HALL.out hx3 hx2⟩
      case measure => simp [intOf]; omega
    · obtain rfl : k = ws.length := by omega
      have hlz : ¬ (ws.length : Int) < ws.length := by omega
      rw [List.take_length] at HW
      have hz : sumI (ws.take ws.length) = 0 := by
        rw [List.take_length]
        have h0 := sumI_nonneg (fun x hx => (HW.out x hx).1)
        by_cases h : sumI ws = 0
        · exact h
        · exact absurd ⟨by omega, by omega, HW.out, by omega⟩ HN.out
      rw [hz]
      clear hz
      go_wp2
      go_ret2
      exact ⟨rfl, rfl⟩

end Go.Proofs.Ytkimcopmfhjjcaa

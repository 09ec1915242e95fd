/- 'sorteslaw15.QuotaLimits': the whole law, over the contract of its sanity. -/
import Derived.Test.YtebigkjilklodaaDoorLimLaw
import Derived.Test.YtebigkjilklodaaDoorSanity15
import Derived.Test.YtebigkjilklodaaDoorQuoF
import Derived.Deep.DeepCutAuto
set_option linter.unusedVariables false
set_option linter.unusedSimpArgs false
namespace Go.Proofs.YtebigkjilklodaaDoor
open Go.RowKit

/-- The law's draw. -/
def limD (k : Nat) (q : Value) : DrawC := ⟨.string ByteArray.empty, .int .i64 0, .int .i64 0, .int .i64 0, .int .i64 0, .slice none 0 0, .bool false, .slice none 0 0, .int .i64 0, .slice none 0 0, k, 1, q⟩
def limQ (k : Nat) : List (ByteArray × Int × Int) := List.replicate k (strG, 0, 1)
theorem limQ_snoc (k : Nat) : limQ (k + 1) = limQ k ++ [(strG, 0, 1)] := by simp [limQ, List.replicate_succ']

/-- What holds in the region that asks for the best panel, whatever is done already. -/
def I4 (W : World) (DV LV : Value) (n : Nat) (D0 : Bool) (D1 : Bool) (D2 D3 : ByteArray) (BL : List Int) (L : Nat → Bool) (vs : Nat → Value) (w : World) : Prop :=
  Below W.heap.size W w ∧ (L 0 = true → vs 0 = DV) ∧ (L 1 = true → vs 1 = LV) ∧ (L 2 = true → vs 2 = LV) ∧ (L 3 = true → vs 3 = .int .i64 n) ∧
  (L 4 = true → L 5 = false → PricesAt w.heap.size w (vs 4) n (fun _ => zeroQ)) ∧
  (L 5 = true → ∃ b, vs 5 = .tuple #[b, .agg #[.bool D1, .string D2, .string D3], .bool D0] ∧ IntsAt w.heap.size w b BL) ∧
  (L 6 = true → L 5 = true ∧ vs 6 = vs 5) ∧ (L 7 = true → L 5 = true ∧ vs 7 = tup0 (vs 5)) ∧ (L 8 = true → L 5 = true ∧ vs 8 = .agg #[.bool D1, .string D2, .string D3]) ∧ (L 9 = true → vs 9 = .bool D0) ∧
  (L 10 = true → ∃ pb, vs 10 = .pointer (some ⟨pb, 0, none⟩) ∧ W.heap.size ≤ pb ∧ (L 12 = false → w.heap[pb]? = some zeroR) ∧ (L 12 = true → Cells3 pb w (.bool D1) (.string D2) (.string D3))) ∧
  (L 11 = true → L 7 = true ∧ vs 11 = vs 7) ∧ (L 12 = true → L 5 = true ∧ L 10 = true) ∧ (L 13 = true → vs 13 = .bool D0)
theorem I4.later {W : World} {DV LV : Value} {n : Nat} {D0 D1 : Bool} {D2 D3 : ByteArray} {BL : List Int} {L : Nat → Bool} {vs : Nat → Value} {w w' : World} (h : I4 W DV LV n D0 D1 D2 D3 BL L vs w) (hb : Below w.heap.size w w') : I4 W DV LV n D0 D1 D2 D3 BL L vs w' := by
  obtain ⟨hB, h0, h1, h2, h3, h4, h5, h6, h7, h8, h9, h10, h11, h12, h13⟩ := h
  refine ⟨below_next hB hb, h0, h1, h2, h3, fun a b => (h4 a b).mono hb hb.size, fun a => ?_, h6, h7, h8, h9, fun a => ?_, h11, h12, h13⟩
  · obtain ⟨b, e, hi⟩ := h5 a
    exact ⟨b, e, hi.mono hb hb.size⟩
  · obtain ⟨pb, e, hp, hz, hc⟩ := h10 a
    exact ⟨pb, e, hp, fun h => zero_at (hz h) hb, fun h => zero_at (hc h) hb⟩
theorem Tryd.infoRat : (Tryd.prog.info? 63).map (fun i => (i.zero, i.size, i.bytes)) = some (some (.agg #[.bool false, .string ByteArray.empty, .string ByteArray.empty]), 3, 40) := by kernel_rfl

set_option maxHeartbeats 4000000 in
set_option maxRecDepth 100000 in
theorem limits_any (x y z : Int) (w : World) (hx : 0 ≤ x ∧ x ≤ 255) (hy : 0 ≤ y ∧ y ≤ 255) (hz : 0 ≤ z ∧ z ≤ 255) (HSAN : SanityOk) :
    Calls Tryd.prog 8 #[.int .u8 x, .int .u8 y, .int .u8 z] w fun e w' => e = .returned (.bool true) ∧ Below w.heap.size w w' := by
  obtain ⟨i0, hi, hz0, hz1, hz2⟩ := info_parts Tryd.infoQuo
  obtain ⟨i1, hj, hj0, hj1, hj2⟩ := info_parts Tryd.infoEnt
  obtain ⟨i2, hr, hr0, hr1, hr2⟩ := info_parts Tryd.infoRat
  have HI := Lib.hid (⟨hi, hz0, hz1, hz2⟩ : Tryd.prog.info? 52 = some i0 ∧ i0.zero = some _ ∧ i0.size = 3 ∧ i0.bytes = 32)
  have HJ := Lib.hid (⟨hj, hj0, hj1, hj2⟩ : Tryd.prog.info? 56 = some i1 ∧ i1.zero = some _ ∧ i1.size = 6 ∧ i1.bytes = 96)
  have HR := Lib.hid (⟨hr, hr0, hr1, hr2⟩ : Tryd.prog.info? 63 = some i2 ∧ i2.zero = some _ ∧ i2.size = 3 ∧ i2.bytes = 40)
  clear hi hz0 hz1 hz2 hj hj0 hj1 hj2 hr hr0 hr1 hr2
  obtain ⟨hx0, hx1⟩ := hx
  obtain ⟨hy0, hy1⟩ := hy
  obtain ⟨hz0, hz1⟩ := hz
  obtain ⟨kd, hkd⟩ : ∃ a : Nat, z % 5 = a := ⟨(z % 5).toNat, by omega⟩
  obtain ⟨K, hK⟩ : ∃ a : Nat, 10 + y % 4 = a := ⟨(10 + y % 4).toNat, by omega⟩
  obtain ⟨N, hN⟩ : ∃ a : Nat, 38 + x % 4 = a := ⟨(38 + x % 4).toNat, by omega⟩
  have kK : 10 ≤ K ∧ K ≤ 13 := by omega
  have kN : 38 ≤ N ∧ N ≤ 41 := by omega
  have HKD := Lib.hid hkd
  have HK := Lib.hid hK
  have HN := Lib.hid hN
  clear hkd hK hN
  obtain ⟨hK0, hK1⟩ := kK
  obtain ⟨hN0, hN1⟩ := kN
  go_enter Tryd.func8, Tryd.ntmps8
  go_wp2_with fail
  refine (HSAN _).mono ?_
  rintro e w1 ⟨rfl, hb1⟩
  have HB1 := Lib.hid hb1
  have hs1 := hb1.size
  clear hb1
  go_wp2_with fail
  rw [HKD.out]
  have HT0 : Hid ((w1.alloc (.cells (limD kd (.slice none 0 0)).arr 33)).heap[w1.heap.size]? = some (.cells (limD kd (.slice none 0 0)).arr 33 (0, 0))) := heap_alloc_new w1 _
  go_loopw [9] (fun i wr => ∃ k : Nat, k ≤ K ∧ i = .int .i64 k ∧ ∃ v, Hid (wr.heap[w1.heap.size]? = some (.cells (limD kd v).arr 33 (0, 0))) ∧ Hid (wr.ownsRow (w1.heap.size + 1) 52 3 v k (quosV (limQ k))) ∧ Hid (Below w.heap.size w wr)) (fun i _ => K - (intOf i).toNat)
  case atStart => exact ⟨0, by omega, rfl, .slice none 0 0, HT0, World.ownsRow_nil _ _ _ _, HB1.out.alloc hs1 _⟩
  case round =>
    obtain ⟨k, hk, rfl, v, HT, HO, HB⟩ := hrel
    have ht := HT.out
    unfold limD DrawC.arr at ht
    dsimp only at ht
    obtain ⟨c0, c1, c2, c3, c4, c5, c6, c7, c8, c9, c10, c11, c12⟩ := cells13 ht
    have clt := cell_lt c0
    have f11 := frozen_of_row wr w1.heap.size 11 _ _ ht
    clear ht
    by_cases hkt : k < K
    · have hkz : (k : Int) < 10 + y % 4 := by rw [HK.out]; omega
      have hsz := HB.out.size
      go_wp2_with (at_builtin; refine wpList_append_own _ rfl _ _ 31 rfl (w1.heap.size + 1) 52 i0 _ 3 32 Tryd.underlying31 HI.out.1 HI.out.2.1 HI.out.2.2.1 HI.out.2.2.2 rfl (by decide) v k (quosV (limQ k)) rfl (HO.out.alloc _) ⟨wr.heap.size, 0, none⟩ 1 1 [.string strG, .int .i64 0, .int .i64 1] rfl rfl ?c1 ?c2 ?c3 ?c4 ?c5 ?_)
      case c1 => exact cells_new wr [.string strG, .int .i64 0, .int .i64 1] _
      case c2 => intro u hu; simp at hu; rcases hu with rfl | rfl | rfl <;> rfl
      case c3 => unfold maxLen; omega
      case c4 => omega
      case c5 => simp; omega
      intro v' w2 hown' hgrow _
      obtain ⟨g2, cp2, rfl, hg2, hg2'⟩ := owns_form hown'
      have hnb : ∀ j, v.ownBlock = some j → w1.heap.size + 1 ≤ j := fun j hj => (HO.out.lt j hj).1
      have ht2 : w2.heap[w1.heap.size]? = some (.cells (limD kd v).arr 33 (0, 0)) := (hgrow.block _ (by simp; omega) (fun e => by have := hnb _ e.symm; omega)).trans ((Below.heap_alloc _ _ _ clt).trans HT.out)
      have HT2 : Hid ((w2.setCell ⟨w1.heap.size, 11, none⟩ (.slice (some ⟨g2, 0, none⟩) (k + 1) cp2)).heap[w1.heap.size]? = some (.cells (limD kd (.slice (some ⟨g2, 0, none⟩) (k + 1) cp2)).arr 33 (0, 0))) := heap_setCell_same w2 w1.heap.size 11 _ _ _ ht2
      have HO2 : Hid ((w2.setCell ⟨w1.heap.size, 11, none⟩ (.slice (some ⟨g2, 0, none⟩) (k + 1) cp2)).ownsRow (w1.heap.size + 1) 52 3 (.slice (some ⟨g2, 0, none⟩) (k + 1) cp2) (k + 1) (quosV (limQ (k + 1)))) := by
        have h : w2.ownsRow (w1.heap.size + 1) 52 3 (.slice (some ⟨g2, 0, none⟩) (k + 1) cp2) (k + 1) (quosV (limQ (k + 1))) := by
          rw [limQ_snoc, quosV_snoc]; exact hown'
        exact own_keep h fun b hb => heap_setCell_other _ _ _ _ (by have := (World.ownsRow.lt h b hb).1; show b ≠ w1.heap.size; omega)
      have HB2 : Hid (Below w.heap.size w (w2.setCell ⟨w1.heap.size, 11, none⟩ (.slice (some ⟨g2, 0, none⟩) (k + 1) cp2))) := ((HB.out.alloc hsz _).grown hgrow (by simp; omega) (fun j hj => by have := hnb j hj; omega)).setCell hs1 _
      have g11 := frozen_of_row w2 w1.heap.size 11 _ _ ht2
      have e11 : w2.cell? ⟨w1.heap.size, 11, none⟩ = some v := by rw [cell_of_row w2 _ _ _ _ _ ht2]; rfl
      clear hown' hgrow hnb ht2 c0 c1 c2 c3 c4 c5 c6 c7 c8 c9 c10 c11 c12 f11
      go_wp2_with fail
      go_roundw
      case rel => exact ⟨k + 1, by omega, by go_num, _, HT2, HO2, HB2⟩
      case measure => simp [intOf]; omega
    · have hkz : ¬ (k : Int) < 10 + y % 4 := by rw [HK.out]; omega
      have HKK : Hid (k = K) := by show k = K; omega
      have hbr := HN.out
      go_wp2_with (at_make; refine wpList_make_full _ rfl _ _ 34 rfl w1.heap.size 56 i1 _ 6 Tryd.underlying34 HJ.out.1 HJ.out.2.1 HJ.out.2.2.1 _ _ _ _ N rfl rfl ?m1 ?m2 ?m3 ?m4 ?m5 ?_)
      case m1 => rfl
      case m2 => rfl
      case m3 => rw [HJ.out.2.2.2]; omega
      case m4 => unfold maxLen; omega
      case m5 => omega
      intro w3 hown3 hgrow3
      have hB3 : Below wr.heap.size wr w3 := (Below.refl _ _).grown hgrow3 (Nat.le_refl _) (fun j hj => by cases hj)
      have HEN : Hid (EntAt w3.heap.size w3 (.slice (some ⟨wr.heap.size, 0, none⟩) N N) N (fun _ => [])) := ents_made hown3
      rcases own_get HO.out with ⟨_, h0⟩ | ⟨gq, cpq, rfl, _, _, _⟩
      · have := HKK.out; omega
      have HQ : Hid (QuoAt w3.heap.size w3 (.slice (some ⟨gq, 0, none⟩) k cpq) k (fun _ => strG) (fun _ => 0) (fun _ => 1)) := by
        have hl : (limQ k).length = k := by simp [limQ]
        have h := quos_at (l := limQ k) (g := fun _ => strG) (low := fun _ => 0) (high := fun _ => 1) (by rw [hl]; exact ownsRow_below HO.out hB3) (fun i p hp => by
          have := List.mem_of_getElem? hp
          unfold limQ at this
          obtain rfl := List.eq_of_mem_replicate this
          exact ⟨rfl, rfl, rfl⟩)
        rw [hl] at h
        exact h
      have ht3 := (hB3.block _ clt).trans HT.out
      have HT3 : Hid (∀ W, Below w3.heap.size w3 W → W.heap[w1.heap.size]? = some (.cells (limD kd (.slice (some ⟨gq, 0, none⟩) k cpq)).arr 33 (0, 0))) := fun W hW => zero_at ht3 hW
      have HB3 : Hid (Below w.heap.size w w3) := HB.out.trans (hB3.mono HB.out.size)
      have HDI : Hid (∀ W, Below w3.heap.size w3 W → DrawIn W (limD kd (.slice (some ⟨gq, 0, none⟩) k cpq)) (.slice (some ⟨wr.heap.size, 0, none⟩) N N) N k (fun _ => strG) (fun _ => 0) (fun _ => 1) (fun _ => [])) := fun W hW =>
        ⟨⟨rfl, rfl, rfl, rfl, rfl, rfl, rfl, rfl, rfl, rfl⟩, HQ.out.mono hW hW.size, HEN.out.mono hW hW.size, fun _ => by simp⟩
      clear hown3 hgrow3 hB3 hbr c0 c1 c2 c3 c4 c5 c6 c7 c8 c9 c10 c11 c12 f11 clt HO HT
      have hk13 : 10 ≤ k ∧ k ≤ 13 := by have := HKK.out; omega
      obtain ⟨hk10, hk13⟩ := hk13
      obtain ⟨ps, hps⟩ : ∃ ps, ps = pans (limD kd (.slice (some ⟨gq, 0, none⟩) k cpq)) N k (fun _ => strG) (fun _ => 0) (fun _ => 1) (fun _ => []) := ⟨_, rfl⟩
      have HPS := Lib.hid hps
      have HF : Hid (∀ W, Below w3.heap.size w3 W → Calls Tryd.prog 16 #[.agg #[.string ByteArray.empty, .int .i64 kd, .int .i64 0, .int .i64 0, .int .i64 0, .int .i64 0, .slice none 0 0, .bool false, .slice none 0 0, .int .i64 0, .int .i64 1, .slice (some ⟨gq, 0, none⟩) k cpq, .slice none 0 0], .slice (some ⟨wr.heap.size, 0, none⟩) N N] W fun e w' => ∃ v, e = .returned (.tuple #[v, .bool (!ps.isEmpty)]) ∧ IntsAt w'.heap.size w' v (firstOf ps) ∧ Below W.heap.size W w') := fun W hW => by
        have h := qFirst_any _ _ _ _ _ _ _ _ W (HDI.out W hW)
        rw [← hps] at h
        exact h
      have HA : Hid (∀ W, Below w3.heap.size w3 W → Calls Tryd.prog 15 #[.agg #[.string ByteArray.empty, .int .i64 kd, .int .i64 0, .int .i64 0, .int .i64 0, .int .i64 0, .slice none 0 0, .bool false, .slice none 0 0, .int .i64 0, .int .i64 1, .slice (some ⟨gq, 0, none⟩) k cpq, .slice none 0 0], .slice (some ⟨wr.heap.size, 0, none⟩) N N, .int .i64 100] W fun e w' => ∃ v, e = .returned (.tuple #[v, .bool (decide (ps.length ≤ 100))]) ∧ RowsAt w'.heap.size w' v ((ps.take 100).map intsOf) ∧ Below W.heap.size W w') := fun W hW => by
        have h := qAll_any _ _ _ _ _ _ _ _ 100 W (HDI.out W hW)
        rw [← hps] at h
        exact h
      have HC : Hid (∀ W, Below w3.heap.size w3 W → Calls Tryd.prog 17 #[.agg #[.string ByteArray.empty, .int .i64 kd, .int .i64 0, .int .i64 0, .int .i64 0, .int .i64 0, .slice none 0 0, .bool false, .slice none 0 0, .int .i64 0, .int .i64 1, .slice (some ⟨gq, 0, none⟩) k cpq, .slice none 0 0], .slice (some ⟨wr.heap.size, 0, none⟩) N N] W fun e w' => e = .returned (.string (natS ps.length)) ∧ Below W.heap.size W w') := fun W hW => by
        have h := qCount_any _ _ _ _ _ _ _ _ W (HDI.out W hW)
        rw [← hps] at h
        exact h
      have HFE : Hid (∀ W pv l, Below w3.heap.size w3 W → IntsAt W.heap.size W pv l → l.length ≤ 1000000 → Calls Tryd.prog 13 #[.agg #[.string ByteArray.empty, .int .i64 kd, .int .i64 0, .int .i64 0, .int .i64 0, .int .i64 0, .slice none 0 0, .bool false, .slice none 0 0, .int .i64 0, .int .i64 1, .slice (some ⟨gq, 0, none⟩) k cpq, .slice none 0 0], .slice (some ⟨wr.heap.size, 0, none⟩) N N, pv] W fun e w' => e = .returned (.bool (isPan ps l)) ∧ Below W.heap.size W w') := fun W pv l hW hp hl => by
        have h := qFeas_any _ _ pv l _ _ _ _ _ _ W (HDI.out W hW) hp hl
        rw [← hps] at h
        exact h
      obtain ⟨D0, D1, D2, D3, BL, hD0, hBL, HBEST⟩ : ∃ (D0 D1 : Bool) (D2 D3 : ByteArray) (BL : List Int), D0 = !ps.isEmpty ∧ BL = firstOf ps ∧ Hid (∀ W pv, Below w3.heap.size w3 W → PricesAt W.heap.size W pv N (fun _ => zeroQ) → Calls Tryd.prog 24 #[.agg #[.string ByteArray.empty, .int .i64 kd, .int .i64 0, .int .i64 0, .int .i64 0, .int .i64 0, .slice none 0 0, .bool false, .slice none 0 0, .int .i64 0, .int .i64 1, .slice (some ⟨gq, 0, none⟩) k cpq, .slice none 0 0], .slice (some ⟨wr.heap.size, 0, none⟩) N N, pv] W fun e w' => ∃ v, e = .returned (.tuple #[v, .agg #[.bool D1, .string D2, .string D3], .bool D0]) ∧ IntsAt w'.heap.size w' v BL ∧ Below W.heap.size W w') := by
        have hb := fun W pv (hW : Below w3.heap.size w3 W) (hp : PricesAt W.heap.size W pv N (fun _ => zeroQ)) => qBest_any _ _ pv N k N _ _ _ _ (fun _ => zeroQ) W (HDI.out W hW) hp (by omega) (fun _ => ⟨by show (0 : Nat) ≤ _; omega, by show (0 : Nat) ≤ _; omega⟩) (fun _ x hx _ => by
          have e : price (fun k => ((fun _ => zeroQ : Nat → RatG) k).rat) x = 0 := price_zero _ (fun _ => zeroQ_rat) x
          rw [e]
          exact ratLe_mono ratLe_zero (by decide))
        unfold bestOf at hb
        rw [if_pos rfl, ← hps] at hb
        cases ps with
        | nil =>
          refine ⟨false, false, ⟨#[]⟩, ⟨#[]⟩, [], rfl, rfl, fun W pv hW hp => (hb W pv hW hp).mono ?_⟩
          rintro e w' ⟨rfl, h⟩
          exact ⟨_, rfl, RowAt.nil _ _, h⟩
        | cons y l =>
          rw [top_zero _ (fun _ => zeroQ_rat)] at hb
          refine ⟨true, (ratG 0).neg, (ratG 0).num, (ratG 0).den, intsOf y, rfl, rfl, fun W pv hW hp => (hb W pv hW hp).mono ?_⟩
          rintro e w' ⟨v, rfl, h1, h2⟩
          exact ⟨v, rfl, h1, h2⟩
      obtain ⟨bad, hbad⟩ : ∃ bad : Bool, bad = decide (¬ (kd = 3 ∧ N ≤ 40 ∧ k ≤ 12)) := ⟨_, rfl⟩
      have HBAD := Lib.hid hbad
      obtain ⟨U, hU⟩ : ∃ U : Bool, U = !ps.isEmpty := ⟨_, rfl⟩
      obtain ⟨XL, hXL⟩ : ∃ XL, XL = firstOf ps := ⟨_, rfl⟩
      obtain ⟨V, hV⟩ : ∃ V : Bool, V = decide (ps.length ≤ 100) := ⟨_, rfl⟩
      obtain ⟨AL, hAL⟩ : ∃ AL, AL = (ps.take 100).map intsOf := ⟨_, rfl⟩
      obtain ⟨PN, hPN⟩ : ∃ PN, PN = ps.length := ⟨_, rfl⟩
      rw [← hU, ← hXL] at HF
      rw [← hV, ← hAL] at HA
      rw [← hPN] at HC
      have HCASE : Hid ((bad = true → U = false ∧ XL = [] ∧ V = true ∧ AL.length = 0 ∧ D0 = false ∧ BL = [] ∧ PN = 0 ∧ isPan ps [0] = false) ∧ (bad = false → U = true ∧ XL = [0] ∧ V = true ∧ AL.length = N ∧ D0 = true ∧ BL = [0] ∧ PN = N)) := by
        refine ⟨fun hb => ?_, fun hb => ?_⟩
        · have hno : ¬ (kd = 3 ∧ N ≤ 40 ∧ k ≤ 12) := of_decide_eq_true (hbad.symm.trans hb)
          have e : ps = [] := by rw [hps]; exact pans_bad _ _ _ _ _ _ _ (fun h => hno ⟨by have := h.1; simp only [limD] at this; omega, h.2.1, h.2.2⟩)
          subst e
          exact ⟨hU, hXL, hV, by rw [hAL]; rfl, hD0, hBL, hPN, rfl⟩
        · have hyes : kd = 3 ∧ N ≤ 40 ∧ k ≤ 12 := by have := of_decide_eq_false (hbad.symm.trans hb); exact Decidable.not_not.1 this
          have e : ps = (List.range N).map fun j => [j] := by rw [hps]; exact pans_single _ _ _ _ _ _ _ (by simp only [limD]; omega) hyes.2.1 hyes.2.2 rfl (by omega) (fun _ => rfl) (fun _ => rfl) (fun _ => rfl)
          have hlen : ps.length = N := by rw [e]; simp
          obtain ⟨N', rfl⟩ : ∃ N', N = N' + 1 := ⟨N - 1, by omega⟩
          have e2 : ps = [0] :: ((List.range N').map Nat.succ).map fun j => [j] := by rw [e, List.range_succ_eq_map]; rfl
          refine ⟨by rw [hU, e2]; rfl, by rw [hXL, e2]; rfl, by rw [hV, hlen]; exact decide_eq_true (by omega), by rw [hAL, List.length_map, List.length_take, hlen]; omega, by rw [hD0, e2]; rfl, by rw [hBL, e2]; rfl, by rw [hPN, hlen]⟩
      clear hbad hU hXL hV hAL hPN hD0 hBL hps
      have hbadB : (decide (40 < N) || decide (12 < k) || !decide (kd = 3)) = bad := by
        rw [HBAD.out]
        by_cases h1 : 40 < N <;> by_cases h2 : 12 < k <;> by_cases h3 : kd = 3 <;> simp [h1, h2, h3] <;> omega
      have HBB := Lib.hid hbadB
      clear hbadB
      go_upto_region 8 with (fail)
      have ht := HT3.out w3 (Below.refl _ _)
      unfold limD DrawC.arr at ht
      dsimp only at ht
      obtain ⟨c0, c1, c2, c3, c4, c5, c6, c7, c8, c9, c10, c11, c12⟩ := cells13 ht
      have clt := cell_lt c0
      clear ht
      go_cut [11] (fun v wx => v = .bool bad ∧ w3 = wx)
      case first =>
        by_cases h1 : 40 < N
        · have h1z : (40 : Int) < N := by omega
          have hb : Hid (bad = true) := by show _ = _; rw [← HBB.out]; simp [h1]
          go_wp2_with fail
          go_meet
          exact ⟨by rw [hb.out], rfl⟩
        · have h1z : ¬ (40 : Int) < N := by omega
          by_cases h2 : 12 < k
          · have h2z : (12 : Int) < k := by omega
            have hb : Hid (bad = true) := by show _ = _; rw [← HBB.out]; simp [h2]
            go_wp2_with fail
            go_meet
            exact ⟨by rw [hb.out], rfl⟩
          · have h2z : ¬ (12 : Int) < k := by omega
            by_cases h3 : kd = 3
            · have hb : Hid (bad = false) := by show _ = _; rw [← HBB.out]; simp [h1, h2, h3]
              have h3z : ((kd : Int) == 3) = true := by simp [h3]
              have h3y : ((kd : Int) != 3) = false := by simp [h3]
              clear h3
              go_wp2_with fail
              go_meet
              exact ⟨by rw [hb.out], rfl⟩
            · have hb : Hid (bad = true) := by show _ = _; rw [← HBB.out]; simp [h3]
              have h3z : ((kd : Int) == 3) = false := by simp; omega
              have h3y : ((kd : Int) != 3) = true := by simp; omega
              clear h3
              go_wp2_with fail
              go_meet
              exact ⟨by rw [hb.out], rfl⟩
      case rest =>
        obtain ⟨rfl, rfl⟩ := hcut
        go_wp2_with fail
        refine (HF.out _ (Below.refl _ _)).mono ?_
        rintro e w4 ⟨v4, rfl, hi4, hb4⟩
        have HB4 : Hid (Below w3.heap.size w3 w4) := hb4
        have HI4 := Lib.hid hi4
        clear c0 c1 c2 c3 c4 c5 c6 c7 c8 c9 c10 c11 c12 clt hi4 hb4
        have ht := HT3.out w4 HB4.out
        unfold limD DrawC.arr at ht
        dsimp only at ht
        obtain ⟨c0, c1, c2, c3, c4, c5, c6, c7, c8, c9, c10, c11, c12⟩ := cells13 ht
        have clt := cell_lt c0
        clear ht
        go_wp2_with fail
        refine (HA.out _ HB4.out).mono ?_
        rintro e w5 ⟨v5, rfl, hr5, hb5⟩
        have HB5 : Hid (Below w3.heap.size w3 w5) := HB4.out.trans (hb5.mono HB4.out.size)
        have HI5 := Lib.hid (HI4.out.mono hb5 hb5.size)
        have HR5 := Lib.hid hr5
        clear c0 c1 c2 c3 c4 c5 c6 c7 c8 c9 c10 c11 c12 clt hr5 hb5
        have ht := HT3.out w5 HB5.out
        unfold limD DrawC.arr at ht
        dsimp only at ht
        obtain ⟨c0, c1, c2, c3, c4, c5, c6, c7, c8, c9, c10, c11, c12⟩ := cells13 ht
        have clt := cell_lt c0
        clear ht
        go_upto_region 11 with (fail)
        go_cut [16, 17, 18] (fun b q v wx => ∃ pb : Nat, q = .pointer (some ⟨pb, 0, none⟩) ∧ v = .bool D0 ∧ Hid (IntsAt wx.heap.size wx b BL) ∧ Hid (Below w5.heap.size w5 wx))
        case first =>
          clear c0 c1 c2 c3 c4 c5 c6 c7 c8 c9 c10 c11 c12
          have HDV : Hid (∀ W, Below w5.heap.size w5 W → W.heap[w1.heap.size]? = some (.cells (limD kd (.slice (some ⟨gq, 0, none⟩) k cpq)).arr 33 (0, 0))) := fun W hW => HT3.out W (HB5.out.trans (hW.mono HB5.out.size))
          refine wp_region_inv (I4 w5 (.agg (limD kd (.slice (some ⟨gq, 0, none⟩) k cpq)).arr) (.slice (some ⟨wr.heap.size, 0, none⟩) N N) N D0 D1 D2 D3 BL) (by kernel_rfl) (by kernel_rfl) (by kernel_rfl) ?_ ?_ ?_
          · intro L hL
            simp [I4, hL]
            exact Below.drew (Below.refl _ _)
          · refine ⟨?_, ?_, ?_, ?_, ?_, ?_, ?_, ?_, ?_, ?_, ?_, ?_, ?_, ?_, trivial⟩
            all_goals (intro L vs w' a' hI hev hold hL hd)
            all_goals (simp only [Nat.zero_add, Nat.reduceAdd] at *)
            all_goals (refine ⟨rfl, ?_⟩)
            all_goals (obtain ⟨hB, h0, h1, h2, h3, h4, h5, h6, h7, h8, h9, h10, h11, h12, h13⟩ := id hI)
            all_goals (obtain ⟨ev, hev'⟩ : ∃ ev, a'.eval = ev := ⟨_, rfl⟩)
            all_goals (have evc : ∀ v, ev (.const v) = v := fun v => by rw [← hev']; rfl)
            all_goals (have evf : ∀ f, ev (.func f) = .func (.func f) #[] #[] := fun v => by rw [← hev']; rfl)
            all_goals (have evt : ∀ t, ev (.tmp t) = a'.tmps.getD t undef := fun v => by rw [← hev']; rfl)
            all_goals (have e8 : ev (.tmp 8) = .pointer (some ⟨w1.heap.size, 0, none⟩) := (evt 8).trans (hold 8 (by decide)))
            all_goals (have ea : ev (.tmp 10) = (.slice (some ⟨wr.heap.size, 0, none⟩) N N) := (evt 10).trans (hold 10 (by decide)))
            all_goals (have evd : ∀ j p t, _ → _ → L j = true → _ → ev (.tmp t) = vs j := fun j p t x1 x2 x3 x4 => (evt t).trans (hev j p t x1 x2 x3 x4))
            all_goals (simp [Region.binds] at hd)
            all_goals (rw [hev'])
            all_goals (clear hev' hold evt hev)
            · -- load
              have hrun : ∀ o : Oper, o.op = Op.load 33 (Operand.tmp 8) → (execOp ev o).run Tryd.prog w' = .ok (.value (.agg (limD kd (.slice (some ⟨gq, 0, none⟩) k cpq)).arr)) w' := fun o ho => by
                obtain ⟨c0, c1, c2, c3, c4, c5, c6, c7, c8, c9, c10, c11, c12⟩ := cells13 (HDV.out w' hB)
                simp [go_sem, ho, e8, evc, c0, c1, c2, c3, c4, c5, c6, c7, c8, c9, c10, c11, c12]
                rfl
              rw [hrun _ rfl]
              exact ⟨hB, fun _ => updv_self _ _ _, h1, h2, h3, h4, h5, h6, h7, h8, h9, h10, h11, h12, h13⟩
            · rw [BigFrame.run_move (Operand.tmp 10) rfl, ea]
              exact ⟨hB, h0, fun _ => updv_self _ _ _, h2, h3, h4, h5, h6, h7, h8, h9, h10, h11, h12, h13⟩
            · rw [BigFrame.run_move (Operand.tmp 10) rfl, ea]
              exact ⟨hB, h0, h1, fun _ => updv_self _ _ _, h3, h4, h5, h6, h7, h8, h9, h10, h11, h12, h13⟩
            · -- how many
              have e72 := (evd 2 _ 72 rfl rfl (by simp [hd]) (by show _ < 157; decide)).trans (h2 (by simp [hd]))
              have hrun : ∀ o : Oper, o.op = Op.call { callee := Callee.builtin Builtin.len, args := #[Operand.tmp 72], argTypes := #[34] } → (execOp ev o).run Tryd.prog w' = .ok (.value (.int .i64 N)) w' := fun o ho => by
                simp [go_sem, ho, e72]
              rw [hrun _ rfl]
              exact ⟨hB, h0, h1, h2, fun _ => updv_self _ _ _, h4, h5, h6, h7, h8, h9, h10, h11, h12, h13⟩
            · -- the prices
              have e73 := (evd 3 _ 73 rfl rfl (by simp [hd]) (by show _ < 157; decide)).trans (h3 (by simp [hd]))
              obtain ⟨wm, hrm, hom, hgm⟩ := run_make_full (P := Tryd.prog) w' w'.heap.size 66 63 i2 _ 3 Tryd.underlying66 HR.out.1 HR.out.2.1 HR.out.2.2.1 .i64 .i64 N (by rw [HR.out.2.2.2]; omega) (by unfold maxLen; omega) (Nat.le_refl _)
              have hrun : ∀ o : Oper, o.op = Op.makeSlice 66 (Operand.tmp 73) (Operand.tmp 73) → (execOp ev o).run Tryd.prog w' = .ok (.value (.slice (some ⟨w'.heap.size, 0, none⟩) N N)) wm := fun o ho => by
                simp [execOp, ho, e73, hrm, Result.andThen]
              rw [hrun _ rfl]
              have hbm : Below w'.heap.size w' wm := (Below.refl _ _).grown hgm (Nat.le_refl _) (fun j hj => by cases hj)
              obtain ⟨hB, h0, h1, h2, h3, h4, h5, h6, h7, h8, h9, h10, h11, h12, h13⟩ := hI.later hbm
              exact ⟨hB, h0, h1, h2, h3, fun _ _ => prices_made hom, h5, h6, h7, h8, h9, h10, h11, h12, h13⟩
            · -- the best panel
              have e70 := (evd 0 _ 70 rfl rfl (by simp [hd]) (by show _ < 157; decide)).trans (h0 (by simp [hd]))
              have e71 := (evd 1 _ 71 rfl rfl (by simp [hd]) (by show _ < 157; decide)).trans (h1 (by simp [hd]))
              have e74 := evd 4 _ 74 rfl rfl (by simp [hd]) (by show _ < 157; decide)
              have hrun : ∀ o : Oper, o.op = Op.call { callee := Callee.value (Operand.func 24), args := #[Operand.tmp 70, Operand.tmp 71, Operand.tmp 74], argTypes := #[33, 34, 66] } → (execOp ev o).run Tryd.prog w' = .ok (.enter 24 #[.agg (limD kd (.slice (some ⟨gq, 0, none⟩) k cpq)).arr, (.slice (some ⟨wr.heap.size, 0, none⟩) N N), vs 4]) w' := fun o ho => by
                simp [go_sem, ho, evf, e70, e71, e74]
              rw [hrun _ rfl]
              refine (HBEST.out w' (vs 4) (HB5.out.trans (hB.mono HB5.out.size)) (h4 (by simp [hd]) hL)).mono ?_
              rintro e w'' ⟨v, rfl, hi, hb⟩
              obtain ⟨hB, h0, h1, h2, h3, h4, h5, h6, h7, h8, h9, h10, h11, h12, h13⟩ := hI.later hb
              have q6 : L 6 = true → False := fun h => by have := (h6 h).1; rw [hL] at this; cases this
              have q7 : L 7 = true → False := fun h => by have := (h7 h).1; rw [hL] at this; cases this
              have q8 : L 8 = true → False := fun h => by have := (h8 h).1; rw [hL] at this; cases this
              have q12 : L 12 = true → False := fun h => by have := (h12 h).1; rw [hL] at this; cases this
              exact ⟨_, rfl, hB, h0, h1, h2, h3, fun _ h => absurd h (by rw [upd_self]; decide), fun _ => ⟨v, updv_self _ _ _, hi⟩, fun h => (q6 h).elim, fun h => (q7 h).elim, fun h => (q8 h).elim, h9, h10, h11, fun h => (q12 h).elim, h13⟩
            · have d5 : L 5 = true := by simp [hd]
              rw [BigFrame.run_move (Operand.tmp 75) rfl, evd 5 _ 75 rfl rfl d5 (by show _ < 157; decide)]
              exact ⟨hB, h0, h1, h2, h3, h4, h5, fun _ => ⟨d5, updv_self _ _ _⟩, h7, h8, h9, h10, h11, h12, h13⟩
            · have d6 : L 6 = true := by simp [hd]
              have d5 : L 5 = true := (h6 d6).1
              obtain ⟨b, eb, hi⟩ := h5 d5
              have e69 := ((evd 6 _ 69 rfl rfl d6 (by show _ < 157; decide)).trans (h6 d6).2).trans eb
              have hrun : ∀ o : Oper, o.op = Op.extract (Operand.tmp 69) 0 → (execOp ev o).run Tryd.prog w' = .ok (.value b) w' := fun o ho => by
                simp [go_sem, ho, e69]
              rw [hrun _ rfl]
              exact ⟨hB, h0, h1, h2, h3, h4, h5, h6, fun _ => ⟨d5, (updv_self _ _ _).trans (by show b = tup0 (vs 5); rw [eb]; rfl)⟩, h8, h9, h10, fun h => (by have := (h11 h).1; rw [hL] at this; cases this), h12, h13⟩
            · have d6 : L 6 = true := by simp [hd]
              have d5 : L 5 = true := (h6 d6).1
              obtain ⟨b, eb, hi⟩ := h5 d5
              have e69 := ((evd 6 _ 69 rfl rfl d6 (by show _ < 157; decide)).trans (h6 d6).2).trans eb
              have hrun : ∀ o : Oper, o.op = Op.extract (Operand.tmp 69) 1 → (execOp ev o).run Tryd.prog w' = .ok (.value (.agg #[.bool D1, .string D2, .string D3])) w' := fun o ho => by
                simp [go_sem, ho, e69]
              rw [hrun _ rfl]
              exact ⟨hB, h0, h1, h2, h3, h4, h5, h6, h7, fun _ => ⟨d5, updv_self _ _ _⟩, h9, h10, h11, h12, h13⟩
            · have d6 : L 6 = true := by simp [hd]
              have d5 : L 5 = true := (h6 d6).1
              obtain ⟨b, eb, hi⟩ := h5 d5
              have e69 := ((evd 6 _ 69 rfl rfl d6 (by show _ < 157; decide)).trans (h6 d6).2).trans eb
              have hrun : ∀ o : Oper, o.op = Op.extract (Operand.tmp 69) 2 → (execOp ev o).run Tryd.prog w' = .ok (.value (.bool D0)) w' := fun o ho => by
                simp [go_sem, ho, e69]
              rw [hrun _ rfl]
              exact ⟨hB, h0, h1, h2, h3, h4, h5, h6, h7, h8, fun _ => updv_self _ _ _, h10, h11, h12, h13⟩
            · -- the price's cell
              have hrun : ∀ o : Oper, o.op = Op.alloc 63 → (execOp ev o).run Tryd.prog w' = .ok (.value (.pointer (some ⟨w'.heap.size, 0, none⟩))) (w'.alloc zeroR) := fun o ho => by
                simp [go_sem, ho, zeroR]
              rw [hrun _ rfl]
              obtain ⟨hB', h0, h1, h2, h3, h4, h5, h6, h7, h8, h9, h10, h11, h12, h13⟩ := hI.later ((Below.refl _ _).alloc (Nat.le_refl _) zeroR)
              exact ⟨hB', h0, h1, h2, h3, h4, h5, h6, h7, h8, h9, fun _ => ⟨_, updv_self _ _ _, hB.size, fun _ => heap_alloc_new _ _, fun h => (by have := (h12 h).2; rw [hL] at this; cases this)⟩, h11, fun h => (by have := (h12 h).2; rw [hL] at this; cases this), h13⟩
            · have d7 : L 7 = true := by simp [hd]
              rw [BigFrame.run_assign (Operand.tmp 76) rfl, evd 7 _ 76 rfl rfl d7 (by show _ < 157; decide)]
              exact ⟨hB, h0, h1, h2, h3, h4, h5, h6, h7, h8, h9, h10, fun _ => ⟨d7, updv_self _ _ _⟩, h12, h13⟩
            · -- the price is stored
              have d5 : L 5 = true := by simp [hd]
              have d8 : L 8 = true := by simp [hd]
              have d10 : L 10 = true := by simp [hd]
              obtain ⟨pb, ep, hp, hz, _⟩ := h10 d10
              have hz := hz hL
              have e17 := (evd 10 _ 17 rfl rfl d10 (by show _ < 157; decide)).trans ep
              have e77 := (evd 8 _ 77 rfl rfl d8 (by show _ < 157; decide)).trans (h8 d8).2
              obtain ⟨z0, z1, z2, f0, f1, f2, zl⟩ := (show Cells3 pb w' (.bool false) (.string ⟨#[]⟩) (.string ⟨#[]⟩) from hz).at
              have hrun : ∀ o : Oper, o.op = Op.store 63 (Operand.tmp 17) (Operand.tmp 77) → (execOp ev o).run Tryd.prog w' = .ok .skip (((w'.setCell ⟨pb, 0, none⟩ (.bool D1)).setCell ⟨pb, 1, none⟩ (.string D2)).setCell ⟨pb, 2, none⟩ (.string D3)) := fun o ho => by
                simp [go_sem, ho, e17, e77, z0, z1, z2, f0, f1, f2]
              rw [hrun _ rfl]
              have hc3 : Cells3 pb (((w'.setCell ⟨pb, 0, none⟩ (.bool D1)).setCell ⟨pb, 1, none⟩ (.string D2)).setCell ⟨pb, 2, none⟩ (.string D3)) (.bool D1) (.string D2) (.string D3) := heap_setCell_same _ pb 2 _ _ _ (heap_setCell_same _ pb 1 _ _ _ (heap_setCell_same w' pb 0 _ _ _ hz))
              have hBs : Below w5.heap.size w5 (((w'.setCell ⟨pb, 0, none⟩ (.bool D1)).setCell ⟨pb, 1, none⟩ (.string D2)).setCell ⟨pb, 2, none⟩ (.string D3)) := ((hB.setCell hp _).setCell hp _).setCell hp _
              have hoth : ∀ k, k ≠ pb → (((w'.setCell ⟨pb, 0, none⟩ (.bool D1)).setCell ⟨pb, 1, none⟩ (.string D2)).setCell ⟨pb, 2, none⟩ (.string D3)).heap[k]? = w'.heap[k]? := fun k hk => by
                rw [heap_setCell_other _ _ _ _ hk, heap_setCell_other _ _ _ _ hk, heap_setCell_other _ _ _ _ hk]
              have hsz3 : (((w'.setCell ⟨pb, 0, none⟩ (.bool D1)).setCell ⟨pb, 1, none⟩ (.string D2)).setCell ⟨pb, 2, none⟩ (.string D3)).heap.size = w'.heap.size := by simp
              exact ⟨hBs, h0, h1, h2, h3, fun _ h => (by have h' : L 5 = false := h; rw [d5] at h'; cases h'), fun _ => (by
                  obtain ⟨b, eb, hi⟩ := h5 d5
                  exact ⟨b, eb, by rw [hsz3]; exact ints_other hi hz hoth⟩), h6, h7, h8, h9, fun _ => ⟨pb, ep, hp, fun h => absurd h (by rw [upd_self]; decide), fun _ => hc3⟩, h11, fun _ => ⟨d5, d10⟩, h13⟩
            · have d9 : L 9 = true := by simp [hd]
              rw [BigFrame.run_assign (Operand.tmp 78) rfl, evd 9 _ 78 rfl rfl d9 (by show _ < 157; decide)]
              exact ⟨hB, h0, h1, h2, h3, h4, h5, h6, h7, h8, h9, h10, h11, h12, fun _ => (updv_self _ _ _).trans (h9 d9)⟩
          · intro L vs w' hL hI
            have q : ∀ i, i < 14 → L i = true := hL
            obtain ⟨hB, h0, h1, h2, h3, h4, h5, h6, h7, h8, h9, h10, h11, h12, h13⟩ := hI
            obtain ⟨b5, e5, hi5⟩ := h5 (q 5 (by decide))
            have e9 : vs 11 = b5 := by rw [(h11 (q 11 (by decide))).2, (h7 (q 7 (by decide))).2, e5]; rfl
            obtain ⟨pb, e12, hp, _, hc3⟩ := h10 (q 10 (by decide))
            have e15 := h13 (q 13 (by decide))
            have HIN := Lib.hid hi5
            have HBB5 := Lib.hid hB
            simp only [putAll, q 0 (by decide), q 1 (by decide), q 2 (by decide), q 3 (by decide), q 4 (by decide), q 5 (by decide), q 6 (by decide), q 7 (by decide), q 8 (by decide), q 9 (by decide), q 10 (by decide), q 11 (by decide), q 12 (by decide), q 13 (by decide), if_true, Nat.zero_add, Nat.reduceAdd, Act.put, List.setIfInBounds_toArray, List.set_cons_zero, List.set_cons_succ]
            clear h0 h1 h2 h3 h4 h5 h6 h7 h8 h9 h10 h11 h12 h13 hL hi5 hB q
            rw [e9, e12, e15]
            clear e9 e12 e15
            go_wp2_with fail
            go_meet
            exact ⟨pb, rfl, rfl, HIN, HBB5⟩
        case rest =>
          obtain ⟨pb, rfl, rfl, HI6, HB6⟩ := hcut
          have HW : Hid (Below w3.heap.size w3 wc) := HB5.out.trans (HB6.out.mono HB5.out.size)
          have HCELL : Hid (∀ W, Below w3.heap.size w3 W → W.cell? ⟨w1.heap.size, 0, none⟩ = some (.string ByteArray.empty) ∧ W.cell? ⟨w1.heap.size, 1, none⟩ = some (.int .i64 kd) ∧ W.cell? ⟨w1.heap.size, 2, none⟩ = some (.int .i64 0) ∧ W.cell? ⟨w1.heap.size, 3, none⟩ = some (.int .i64 0) ∧ W.cell? ⟨w1.heap.size, 4, none⟩ = some (.int .i64 0) ∧ W.cell? ⟨w1.heap.size, 5, none⟩ = some (.int .i64 0) ∧ W.cell? ⟨w1.heap.size, 6, none⟩ = some (.slice none 0 0) ∧ W.cell? ⟨w1.heap.size, 7, none⟩ = some (.bool false) ∧ W.cell? ⟨w1.heap.size, 8, none⟩ = some (.slice none 0 0) ∧ W.cell? ⟨w1.heap.size, 9, none⟩ = some (.int .i64 0) ∧ W.cell? ⟨w1.heap.size, 10, none⟩ = some (.int .i64 1) ∧ W.cell? ⟨w1.heap.size, 11, none⟩ = some (.slice (some ⟨gq, 0, none⟩) k cpq) ∧ W.cell? ⟨w1.heap.size, 12, none⟩ = some (.slice none 0 0)) := fun W hW => by
            have h := HT3.out W hW
            exact cells13 h
          have HLI : Hid (∀ (W : World) (xs : List Int), IntsAt (W.alloc (.cells (xs.map (Value.int .i64)).toArray 3)).heap.size (W.alloc (.cells (xs.map (Value.int .i64)).toArray 3)) (.slice (some ⟨W.heap.size, 0, none⟩) xs.length xs.length) xs) := fun W xs => by
            refine ⟨_, _, rfl, fun j u hu => ⟨W.heap.size, 0, rfl, by simp, ?_⟩⟩
            have h := cells_new W _ 3 j u hu
            rwa [show (⟨W.heap.size, 0, none⟩ : Addr).add j = ⟨W.heap.size, 0 + j, none⟩ by unfold Addr.add; split <;> simp_all] at h
          have HAL : Hid (∀ W, Below w3.heap.size w3 W → Below w3.heap.size w3 (W.alloc (.cells #[.int .i64 0] 3))) := fun W hW => hW.alloc hW.size _
          obtain ⟨c0, c1, c2, c3, c4, c5, c6, c7, c8, c9, c10, c11, c12⟩ := HCELL.out _ HW.out; have clt := cell_lt c0
          clear c0 c1 c2 c3 c4 c5 c6 c7 c8 c9 c10 c11 c12 clt
          have ha4 := HI5.out.open
          obtain ⟨a4, p4, rfl, _⟩ := ha4
          obtain ⟨a5, p5, rfl, _⟩ := id HR5.out
          have ha6 := HI6.out.open
          obtain ⟨a6, p6, rfl, _⟩ := ha6
          obtain ⟨c0, c1, c2, c3, c4, c5, c6, c7, c8, c9, c10, c11, c12⟩ := HCELL.out _ HW.out; have clt := cell_lt c0
          cases bad with
          | true =>
            obtain ⟨rfl, rfl, rfl, hal, rfl, rfl, rfl, hpan⟩ := HCASE.out.1 rfl
            rw [hal]
            have HFF : Hid (∀ W, Below w3.heap.size w3 W → Calls Tryd.prog 13 #[.agg #[.string ByteArray.empty, .int .i64 kd, .int .i64 0, .int .i64 0, .int .i64 0, .int .i64 0, .slice none 0 0, .bool false, .slice none 0 0, .int .i64 0, .int .i64 1, .slice (some ⟨gq, 0, none⟩) k cpq, .slice none 0 0], .slice (some ⟨wr.heap.size, 0, none⟩) N N, .slice (some ⟨W.heap.size, 0, none⟩) 1 1] (W.alloc (.cells #[.int .i64 0] 3)) fun e w' => e = .returned (.bool false) ∧ Below (W.alloc (.cells #[.int .i64 0] 3)).heap.size (W.alloc (.cells #[.int .i64 0] 3)) w') := fun W hW => by
              have h := HFE.out _ _ [0] (HAL.out W hW) (HLI.out W [0]) (by decide)
              rw [hpan] at h
              exact h
            have HN0 : Hid (∀ W, Calls Tryd.prog 18 #[.int .i64 0] W fun e w' => e = .returned (.string (natS 0)) ∧ Below W.heap.size W w') := fun W => pOf_any 0 W (by decide)
            clear hal hpan HCASE HF HA HFE HBEST
            go_wp2_with (first
              | (go_at_call 17; (with_reducible refine (HC.out _ HW.out).mono ?_); rintro e wq ⟨rfl, hbq⟩; have HW := Lib.hid (HW.out.trans (hbq.mono HW.out.size)); clear hbq; obtain ⟨c0, c1, c2, c3, c4, c5, c6, c7, c8, c9, c10, c11, c12⟩ := HCELL.out _ HW.out; have clt := cell_lt c0)
              | (go_at_call 18; (with_reducible refine (HN0.out _).mono ?_); rintro e wq ⟨rfl, hbq⟩; have HW := Lib.hid (HW.out.trans (hbq.mono HW.out.size)); clear hbq; obtain ⟨c0, c1, c2, c3, c4, c5, c6, c7, c8, c9, c10, c11, c12⟩ := HCELL.out _ HW.out; have clt := cell_lt c0)
              | (go_at_call 13; (with_reducible refine (HFF.out _ HW.out).mono ?_); rintro e wq ⟨rfl, hbq⟩; have HW := Lib.hid ((HAL.out _ HW.out).trans (hbq.mono (HAL.out _ HW.out).size)); clear hbq; obtain ⟨c0, c1, c2, c3, c4, c5, c6, c7, c8, c9, c10, c11, c12⟩ := HCELL.out _ HW.out; have clt := cell_lt c0))
            go_ret
            exact ⟨rfl, HB3.out.trans (HW.out.mono HB3.out.size)⟩
          | false =>
            obtain ⟨rfl, rfl, rfl, hal, rfl, rfl, rfl, _⟩ : U = true ∧ XL = [0] ∧ V = true ∧ AL.length = PN ∧ D0 = true ∧ BL = [0] ∧ N = PN ∧ True := by
              obtain ⟨h1, h2, h3, h4, h5, h6, h7⟩ := HCASE.out.2 rfl
              exact ⟨h1, h2, h3, by rw [h4, h7], h5, h6, h7.symm, trivial⟩
            rw [hal]
            have HX : Hid (IntsAt wc.heap.size wc (.slice a4 1 p4) [0]) := HI5.out.mono HB6.out HB6.out.size
            have HY : Hid (IntsAt wc.heap.size wc (.slice a6 1 p6) [0]) := HI6.out
            have HII : Hid (∀ W v, Below wc.heap.size wc W → IntsAt wc.heap.size wc v [0] → Calls Tryd.prog 19 #[v, .slice (some ⟨W.heap.size, 0, none⟩) 1 1] (W.alloc (.cells #[.int .i64 0] 3)) fun e w' => e = .returned (.bool true) ∧ Below (W.alloc (.cells #[.int .i64 0] 3)).heap.size (W.alloc (.cells #[.int .i64 0] 3)) w') := fun W v hW hv => by
              have hW2 := hW.alloc hW.size (.cells #[.int .i64 0] 3)
              have h := ints_any v _ [0] [0] _ (hv.mono hW2 hW2.size) (HLI.out W [0]) (by decide)
              rwa [decide_eq_true rfl] at h
            have HNN : Hid (∀ W, Calls Tryd.prog 18 #[.int .i64 N] W fun e w' => e = .returned (.string (natS N)) ∧ Below W.heap.size W w') := fun W => pOf_any N W (by omega)
            have HV : Hid (Below wc.heap.size wc wc) := Below.refl _ _
            clear hal HCASE HF HA HFE HBEST
            go_wp2_with (first
              | (go_at_call 17; (with_reducible refine (HC.out _ HW.out).mono ?_); rintro e wq ⟨rfl, hbq⟩; have HW := Lib.hid (HW.out.trans (hbq.mono HW.out.size)); have HV := Lib.hid (HV.out.trans (hbq.mono HV.out.size)); clear hbq; obtain ⟨c0, c1, c2, c3, c4, c5, c6, c7, c8, c9, c10, c11, c12⟩ := HCELL.out _ HW.out; have clt := cell_lt c0)
              | (go_at_call 18; (with_reducible refine (HNN.out _).mono ?_); rintro e wq ⟨rfl, hbq⟩; have HW := Lib.hid (HW.out.trans (hbq.mono HW.out.size)); have HV := Lib.hid (HV.out.trans (hbq.mono HV.out.size)); clear hbq; obtain ⟨c0, c1, c2, c3, c4, c5, c6, c7, c8, c9, c10, c11, c12⟩ := HCELL.out _ HW.out; have clt := cell_lt c0)
              | (go_at_call 19; (first | (with_reducible refine (HII.out _ _ HV.out HX.out).mono ?_) | (with_reducible refine (HII.out _ _ HV.out HY.out).mono ?_)); rintro e wq ⟨rfl, hbq⟩; have HW := Lib.hid ((HAL.out _ HW.out).trans (hbq.mono (HAL.out _ HW.out).size)); have HV := Lib.hid ((HV.out.alloc HV.out.size (.cells #[.int .i64 0] 3)).trans (hbq.mono (HV.out.alloc HV.out.size (.cells #[.int .i64 0] 3)).size)); clear hbq; obtain ⟨c0, c1, c2, c3, c4, c5, c6, c7, c8, c9, c10, c11, c12⟩ := HCELL.out _ HW.out; have clt := cell_lt c0))
            go_ret
            exact ⟨rfl, HB3.out.trans (HW.out.mono HB3.out.size)⟩

end Go.Proofs.YtebigkjilklodaaDoor

/- The laws 'LedgerSplits' and 'LedgerFair': the walks. -/
import Derived.Test.YtkimcopmfhjjcaaSanity
import Derived.Test.YtkimcopmfhjjcaaSplitRef
import Derived.Deep.DeepCutAuto
import Derived.Laws.AppendOwnNone
namespace Go.Proofs.Ytkimcopmfhjjcaa
open Go.RowKit

def okB (a : Int) (ws : List Int) : Bool := decide (0 ≤ a) && decide (a ≤ 1000000000) && ws.all (fun x => decide (0 ≤ x) && decide (x ≤ 1000000)) && decide (0 < sumI ws)
theorem okB_iff (a : Int) (ws : List Int) : okB a ws = true ↔ OkSplit a ws := by
  unfold okB OkSplit
  simp only [Bool.and_eq_true, decide_eq_true_eq, List.all_eq_true]
  constructor
  · rintro ⟨⟨⟨h1, h2⟩, h3⟩, h4⟩; exact ⟨h1, h2, h3, h4⟩
  · rintro ⟨h1, h2, h3, h4⟩; exact ⟨⟨⟨h1, h2⟩, h3⟩, h4⟩
def spR (a : Int) (ws : List Int) : List Int := if okB a ws then splitI a ws else []
theorem splitI_length (a : Int) (ws : List Int) : (splitI a ws).length = ws.length := by unfold splitI; rw [bump_length]; simp [partsI]
theorem spR_length (a : Int) (ws : List Int) : (spR a ws).length ≤ ws.length := by unfold spR; split; rw [splitI_length]; exact Nat.le_refl _; simp
theorem ok_pos {a : Int} {ws : List Int} (h : OkSplit a ws) : 1 ≤ ws.length := by
  cases ws with
  | nil => have := h.2.2.2; simp [sumI] at this
  | cons x l => simp
theorem split_any (a : Int) (v : Value) (ws : List Int) (w : World) (hl : IntsAt w.heap.size w v ws) (h20 : ws.length < 20) :
    Calls Try.prog 8 #[.int .i64 a, v] w fun e w' => ∃ v', e = .returned (.tuple #[v', .bool (okB a ws)]) ∧ IntsAt w'.heap.size w' v' (spR a ws) ∧ Below w.heap.size w w' := by
  cases ho : okB a ws with
  | true =>
    have h := (okB_iff a ws).1 ho
    refine (split_yes a v ws w hl h.1 h.2.1 (ok_pos h) h20 h.2.2.1 h.2.2.2).mono ?_
    rintro e w' ⟨v', rfl, hw, hb⟩
    have e : spR a ws = splitI a ws := by unfold spR; rw [ho]; rfl
    rw [← splitI_length a ws] at hw
    exact ⟨v', rfl, by rw [e]; exact IntsAt.of_owns hw, hb⟩
  | false =>
    have h : ¬ OkSplit a ws := fun h => by rw [(okB_iff a ws).2 h] at ho; cases ho
    refine (split_no a v ws w hl h20 h).mono ?_
    rintro e w' ⟨rfl, hb⟩
    have e : spR a ws = [] := by unfold spR; rw [ho]; rfl
    exact ⟨_, rfl, by rw [e]; exact RowAt.nil _ _, hb⟩
theorem ref_split_any (a : Int) (v : Value) (ws : List Int) (w : World) (hl : IntsAt w.heap.size w v ws) (h20 : ws.length < 20) :
    Calls Try.prog 9 #[.int .i64 a, v] w fun e w' => ∃ v', e = .returned (.tuple #[v', .bool (okB a ws)]) ∧ IntsAt w'.heap.size w' v' (spR a ws) ∧ Below w.heap.size w w' := by
  cases ho : okB a ws with
  | true =>
    have h := (okB_iff a ws).1 ho
    refine (ref_split_yes a v ws w hl h.1 h.2.1 (ok_pos h) h20 h.2.2.1 h.2.2.2).mono ?_
    rintro e w' ⟨v', rfl, hw, hb⟩
    have e : spR a ws = splitI a ws := by unfold spR; rw [ho]; rfl
    rw [← splitI_length a ws] at hw
    exact ⟨v', rfl, by rw [e]; exact IntsAt.of_owns hw, hb⟩
  | false =>
    have h : ¬ OkSplit a ws := fun h => by rw [(okB_iff a ws).2 h] at ho; cases ho
    refine (ref_split_no a v ws w hl h20 h).mono ?_
    rintro e w' ⟨rfl, rfl⟩
    have e : spR a ws = [] := by unfold spR; rw [ho]; rfl
    exact ⟨_, rfl, by rw [e]; exact RowAt.nil _ _, Below.refl _ _⟩
theorem ints_same (v1 v2 : Value) (l : List Int) (w : World) (h1 : IntsAt w.heap.size w v1 l) (h2 : IntsAt w.heap.size w v2 l) (hl : l.length ≤ 1000) :
    Calls Try.prog 10 #[v1, v2] w fun e w' => e = .returned (.bool true) ∧ Below w.heap.size w w' :=
  (ints14_any _ _ v1 v2 l l w h1 h2 (by omega) (by omega)).mono fun _ _ ⟨he, hd⟩ => ⟨by rw [he]; exact ret_bool (by simp), hd.below _⟩

set_option maxHeartbeats 4000000 in
set_option maxRecDepth 100000 in
/-- The law behind its first list: the rest of the walk, over the list that the call itself has made. -/
theorem splits_any (a more : Int) (ao : Option Addr) (cap : Nat) (zs : List Int) (w : World) (hn : zs.length ≤ cap) (hz : IntsAt w.heap.size w (.slice ao zs.length cap) zs) (hnone : ao = none → cap = 0) (hm : cap ≤ 9223372036854775807) :
    Calls Try.prog 3 #[.int .i64 a, .slice ao zs.length cap, .int .i64 more] w fun e w' => e = .returned (.bool true) ∧ Below w.heap.size w w' := by
  obtain ⟨i0, hi, hz0, hz1, hz2⟩ := info_parts Try.infoInt
  have HZ := Lib.hid hz
  clear hz
  obtain ⟨m, hm⟩ : ∃ m : Nat, m = (zs.take 12).length := ⟨_, rfl⟩
  have hm2 : m = min 12 zs.length := by rw [hm, List.length_take]
  have hmin : min (zs.length : Int) 12 = (m : Int) := by omega
  have hmc : m ≤ cap := by omega
  have hmcz : (m : Int) ≤ cap := by omega
  have hm12 : m ≤ 12 := by omega
  have HM := Lib.hid hm
  have HM2 := Lib.hid hm2
  clear hm hm2
  go_enter Try.func3, Try.ntmps3
  go_wp2_with fail
  refine (sanity_any w).mono ?_
  rintro e w1 ⟨rfl, hb⟩
  have HB := Lib.hid hb
  have hs1 := hb.size
  clear hb
  go_upto_region 2 with fail
  go_cut [8] (fun s wx => ∃ g cap', s = .slice (some ⟨g, 0, none⟩) m cap' ∧ Hid (OwnInts wx w.heap.size g cap' (zs.take 12)) ∧ Hid (Below w.heap.size w wx))
  case first =>
    cases ao with
    | none =>
      obtain rfl : cap = 0 := hnone rfl
      obtain rfl : m = 0 := by omega
      go_wp2_with (at_builtin; refine wpList_append_own_none rfl _ _ 22 rfl w.heap.size 3 i0 1 Try.underlying22 hi (.slice (some ⟨w1.heap.size, 0, none⟩) 0 0) 0 [] rfl (World.ownsRow_made w1 #[] 0 hs1 (Nat.zero_le _) rfl) rfl ?_)
      go_wp2_with fail
      go_meet
      have hz0 : zs.take 12 = [] := List.eq_nil_of_length_eq_zero HM.out.symm
      refine ⟨w1.heap.size, 0, rfl, ?_, HB.out.alloc hs1 _⟩
      show OwnInts _ _ _ _ _
      rw [hz0]
      exact World.ownsRow_made w1 #[] 0 hs1 (Nat.zero_le _) rfl
    | some ad =>
      have hnews : ∀ j u, ((zs.take 12).map (Value.int .i64))[j]? = some u → w1.cell? (ad.add j) = some u := by
        intro j u hu
        obtain ⟨ao, cap', e, hc⟩ := HZ.out
        simp only [Value.slice.injEq] at e
        obtain ⟨rfl, _, rfl⟩ := e
        have hj : (zs.map (Value.int .i64))[j]? = some u := by
          rw [List.map_take, List.getElem?_take] at hu
          split at hu
          · exact hu
          · cases hu
        obtain ⟨b, off, e, hb, hcell⟩ := hc j u hj
        simp only [Option.some.injEq] at e
        subst e
        rw [add_flat]
        exact (HB.out.cell (p := ⟨b, off + j, none⟩) hb).trans hcell
      have HN := Lib.hid hnews
      have hlt1 : ∀ j u, ((zs.take 12).map (Value.int .i64))[j]? = some u → (ad.add j).block < w1.heap.size := fun j u hu => World.block_lt_of_cell? w1 _ (HN.out j u hu)
      have HLT := Lib.hid hlt1
      clear hnews hlt1
      go_wp2_with (at_builtin; refine wpList_append_own_at _ rfl _ _ 22 rfl w.heap.size 3 i0 (.int .i64 0) 1 8 Try.underlying22 hi hz0 hz1 hz2 rfl (by decide) (.slice (some ⟨w1.heap.size, 0, none⟩) 0 0) 0 [] rfl (World.ownsRow_made w1 #[] 0 hs1 (Nat.zero_le _) rfl) ad m cap ((zs.take 12).map (Value.int .i64)) rfl ?c0 ?c1 ?c2 ?c3 ?c4 ?c5 ?_)
      case c0 => rw [List.length_map, ← HM.out]; omega
      case c1 => intro j u hu; exact (World.cell?_alloc_lt w1 _ _ (HLT.out j u hu)).trans (HN.out j u hu)
      case c2 => exact ints_one _
      case c3 => unfold maxLen; omega
      case c4 => omega
      case c5 => simp; omega
      intro v' w2 hown hgrow hnil hat
      have hb2 : Below w.heap.size w w2 := (HB.out.alloc hs1 _).grown hgrow (by simp; omega) (fun j hj => by simp [Value.ownBlock] at hj; omega)
      have HB2 := Lib.hid hb2
      have HOW := Lib.hid hown
      obtain ⟨g, cap', rfl⟩ : ∃ g cap', v' = .slice (some ⟨g, 0, none⟩) m cap' := by
        rcases hown.2 with ⟨h, _⟩ | ⟨g, cap', cur, h, _⟩
        · exact (hnil h).elim
        · exact ⟨g, cap', by simpa using h⟩
      clear hown hgrow hnil hat hb2
      go_wp2_with fail
      go_meet
      refine ⟨g, cap', rfl, ?_, HB2.out⟩
      show OwnInts _ _ _ _ _
      unfold OwnInts
      rw [← HM.out]
      simpa using HOW.out
  case rest =>
    obtain ⟨g, cap8, rfl, HO, HB⟩ := hcut
    have hO8 : IntsAt wc.heap.size wc (.slice (some ⟨g, 0, none⟩) m cap8) (zs.take 12) := by
      have h := HO.out
      unfold OwnInts at h
      rw [← HM.out] at h
      refine IntsAt.of_owns (base := w.heap.size) (e := 3) ?_
      rw [← HM.out]; exact h
    have HO8 := Lib.hid hO8
    have hl12 : (zs.take 12).length < 20 := by rw [← HM.out]; omega
    have HL12 := Lib.hid hl12
    clear hO8 hl12
    go_wp2_with fail
    refine (split_any a _ (zs.take 12) wc HO8.out HL12.out).mono ?_
    rintro e w3 ⟨v9, rfl, hv9, hb⟩
    have HB3 := Lib.hid hb
    have V9 := Lib.hid hv9
    clear hb hv9
    go_wp2_with fail
    refine (ref_split_any a _ (zs.take 12) w3 (HO8.out.mono HB3.out HB3.out.size) HL12.out).mono ?_
    rintro e w4 ⟨v11, rfl, hv11, hb⟩
    have HB4 := Lib.hid (HB3.out.trans (hb.mono HB3.out.size))
    have V9 := Lib.hid (V9.out.mono hb hb.size)
    have V11 := Lib.hid hv11
    have hxx : (okB a (zs.take 12) != okB a (zs.take 12)) = false := by simp
    clear hb hv11 HB3
    go_wp2_with fail
    refine (ints_same v9 v11 _ w4 V9.out V11.out (by have := spR_length a (zs.take 12); have := HL12.out; omega)).mono ?_
    rintro e w5 ⟨rfl, hb⟩
    have HB5 := Lib.hid (HB4.out.trans (hb.mono HB4.out.size))
    clear hb hxx V9 V11 HB4 HO8
    go_wp2_with fail
    have hg := HO.out.lt
    have HO5 : Hid (OwnInts w5 w.heap.size g cap8 (zs.take 12)) := HO.out.later HB5.out hg.2
    have hB5 : Hid (Below w.heap.size w w5) := HB.out.trans (HB5.out.mono (by have := HB.out.size; omega))
    have hm0 : Int.emod 0 0 = 0 := rfl
    clear hm0 HB5 HB
    go_loopw [13] (fun i wr => ∃ (k : Nat) (D : List Int), k ≤ m ∧ i = .int .i64 k ∧ Hid (D.length = m) ∧ Hid (OwnInts wr w.heap.size g cap8 D) ∧ Hid (Below w.heap.size w wr)) (fun i _ => m - (intOf i).toNat)
    case atStart => exact ⟨0, zs.take 12, Nat.zero_le _, rfl, HM.out.symm, HO5, hB5⟩
    case round =>
      clear HO5 hB5
      obtain ⟨k, D, hk, rfl, HD, HO5, HB5⟩ := hrel
      by_cases hlt : k < m
      · have hlz : (k : Int) < m := by omega
        have hkD : k < D.length := by rw [HD.out]; exact hlt
        have ck := HO5.out.cell hkD
        have fk := HO5.out.free k
        have b1 : 0 ≤ modI (D[k]?.getD 0) 1000001 ∧ modI (D[k]?.getD 0) 1000001 ≤ 1000000 := by
          rw [modI_eq _ _ (by omega)]; have := Int.emod_nonneg (D[k]?.getD 0) (show (1000001 : Int) ≠ 0 by omega); have := Int.emod_lt_of_pos (D[k]?.getD 0) (show (0 : Int) < 1000001 by omega); omega
        have b2 : 0 ≤ modI more 2 ∧ modI more 2 ≤ 1 := by
          rw [modI_eq _ _ (by omega)]; omega
        have hset := HO5.out.set k (modI (D[k]?.getD 0) 1000001 * modI more 2)
        have HSET := Lib.hid hset
        clear hset hkD
        obtain ⟨x, hx⟩ : ∃ x, x = D[k]?.getD 0 := ⟨_, rfl⟩
        rw [← hx] at ck b1 HSET
        clear hx
        have K1 := Lib.hid (fun w => mod14_any x 1000001 w (by omega) (by omega))
        have K2 := Lib.hid (fun w => mod14_any more 2 w (by omega) (by omega))
        obtain ⟨p, hp⟩ : ∃ p, p = modI x 1000001 := ⟨_, rfl⟩
        obtain ⟨q, hq⟩ : ∃ q, q = modI more 2 := ⟨_, rfl⟩
        rw [← hp] at b1 HSET K1
        rw [← hq] at b2 HSET K2
        clear hp hq
        obtain ⟨p0, p1⟩ := b1
        obtain ⟨q0, q1⟩ := b2
        have r0 : 0 ≤ p * q := Int.mul_nonneg p0 q0
        have r1 : p * q ≤ 1000000 := by
          have := Int.mul_le_mul p1 q1 q0 (by omega)
          omega
        go_wp2_with fail
        refine (K1.out _).mono ?_
        rintro e w' ⟨rfl, rfl⟩
        go_wp2_with fail
        refine (K2.out _).mono ?_
        rintro e w' ⟨rfl, rfl⟩
        go_wp2_with fail
        go_roundw
        case rel => exact ⟨k + 1, D.set k (p * q), by omega, by go_num, (show _ = _ by rw [List.length_set]; exact HD.out), HSET.out, HB5.out.setCell (p := ⟨g, k, none⟩) (by show w.heap.size ≤ g; exact hg.1) _⟩
        case measure => simp [intOf]; omega
      · obtain rfl : k = m := by omega
        have hlz : ¬ (k : Int) < k := by omega
        have K1 := Lib.hid (fun w => mod14_any a 1000000001 w (by omega) (by omega))
        obtain ⟨n, hn⟩ : ∃ n, n = modI a 1000000001 := ⟨_, rfl⟩
        rw [← hn] at K1
        clear hn
        have hO8 : IntsAt wr.heap.size wr (.slice (some ⟨g, 0, none⟩) k cap8) D := by
          have h := HO5.out
          unfold OwnInts at h
          rw [HD.out] at h
          refine IntsAt.of_owns (base := w.heap.size) (e := 3) ?_
          rw [HD.out]; exact h
        have HO8 := Lib.hid hO8
        have hl12 : D.length < 20 := by rw [HD.out]; omega
        have HL12 := Lib.hid hl12
        clear hO8 hl12
        go_wp2_with fail
        refine (K1.out _).mono ?_
        rintro e w' ⟨rfl, rfl⟩
        go_wp2_with fail
        refine (split_any n _ D wr HO8.out HL12.out).mono ?_
        rintro e w3 ⟨v15, rfl, hv, hb⟩
        have HB3 := Lib.hid hb
        have V15 := Lib.hid hv
        clear hb hv
        go_wp2_with fail
        refine (ref_split_any n _ D w3 (HO8.out.mono HB3.out HB3.out.size) HL12.out).mono ?_
        rintro e w4 ⟨v17, rfl, hv, hb⟩
        have HB4 := Lib.hid (HB3.out.trans (hb.mono HB3.out.size))
        have V15 := Lib.hid (V15.out.mono hb hb.size)
        have V17 := Lib.hid hv
        have hxx : (okB n D == okB n D) = true := by simp
        clear hb hv HB3
        go_wp2_with fail
        refine (ints_same v15 v17 _ w4 V15.out V17.out (by have := spR_length n D; have := HL12.out; omega)).mono ?_
        rintro e w6 ⟨rfl, hb⟩
        have HB6 := Lib.hid (HB5.out.trans ((HB4.out.trans (hb.mono HB4.out.size)).mono HB5.out.size))
        clear hb
        go_wp2_with fail
        go_ret
        exact ⟨rfl, HB6.out⟩

end Go.Proofs.Ytkimcopmfhjjcaa

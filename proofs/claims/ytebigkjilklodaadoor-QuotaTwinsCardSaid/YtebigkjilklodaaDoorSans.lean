/- The reference's panels: Ints, Same. -/
import Derived.Test.YtebigkjilklodaaDoorQuoVs
import Derived.Test.YtebigkjilklodaaDoorRegs
import Derived.Test.YtebigkjilklodaaDoorQuoZs
import Derived.Test.YtebigkjilklodaaDoorAllocs
set_option linter.unusedVariables false
set_option linter.unusedSimpArgs false
namespace Go.Proofs.YtebigkjilklodaaDoor
open Go.RowKit

set_option maxHeartbeats 1000000 in
set_option maxRecDepth 100000 in
theorem ints_any (v u : Value) (l k : List Int) (w : World) (hv : IntsAt w.heap.size w v l) (hu : IntsAt w.heap.size w u k) (hl : l.length ≤ 1000000) :
    Calls Tryd.prog 19 #[v, u] w fun e w' => e = .returned (.bool (decide (l = k))) ∧ Below w.heap.size w w' := by
  obtain ⟨ao, cap, rfl, hc⟩ := hv.open
  obtain ⟨bo, cap2, rfl, hd⟩ := hu.open
  have HC := Lib.hid hc
  have HD := Lib.hid hd
  clear hc hd hv hu
  by_cases hlen : l.length = k.length
  · have hlen' : (l.length : Int) = k.length := by omega
    have HLEN := Lib.hid hlen
    clear hlen
    rw [← HLEN.out] at hlen' ⊢
    clear hlen'
    go_enter Tryd.func19, Tryd.ntmps19
    go_wp2_with fail
    go_loopw [5] (fun x wr => ∃ j : Nat, j ≤ l.length ∧ x = .int .i64 j ∧ Hid (Below w.heap.size w wr) ∧ Hid (∀ t, t < j → l[t]? = k[t]?)) (fun x _ => l.length - (intOf x).toNat)
    case atStart => exact ⟨0, Nat.zero_le _, rfl, Below.refl _ _, fun t ht => by omega⟩
    case round =>
      obtain ⟨j, hj, rfl, hb, hsame⟩ := hrel
      by_cases hlt : j < l.length
      · have hlz : (j : Int) < l.length := by omega
        obtain ⟨b, off, rfl, hb1, h1⟩ := HC.out j hlt
        obtain ⟨b2, off2, rfl, hb2, h2⟩ := HD.out j (by rw [← HLEN.out]; exact hlt)
        have c1 := (hb.out.cell (p := ⟨b, off + j, none⟩) hb1).trans h1
        have c2 := (hb.out.cell (p := ⟨b2, off2 + j, none⟩) hb2).trans h2
        have l1 := cell_lt c1
        have l2 := cell_lt c2
        have HX : Hid (l[j]? = some (l[j]?.getD 0)) := by show l[j]? = _; rw [List.getElem?_eq_getElem hlt]; rfl
        have HY : Hid (k[j]? = some (k[j]?.getD 0)) := by show k[j]? = _; rw [List.getElem?_eq_getElem (by rw [← HLEN.out]; exact hlt)]; rfl
        obtain ⟨p, hp⟩ : ∃ p, p = l[j]?.getD 0 := ⟨_, rfl⟩
        obtain ⟨q, hq⟩ : ∃ q, q = k[j]?.getD 0 := ⟨_, rfl⟩
        rw [← hp] at c1 HX
        rw [← hq] at c2 HY
        clear hp hq h1 h2
        by_cases hpq : p = q
        · subst hpq
          go_wp2_with fail
          refine wp_region_class (Kept _) (by kernel_rfl) (by kernel_rfl) (Kept.drew _) ?_
          repeat (first
            | go_big_quiet_skip
            | (refine BigFrame.wpQuiet_want (by rfl) (fun K hK => ?_)
               first
                 | (refine BigFrame.quiet_move _ rfl ?_; refine hK _ ?_)
                 | (refine BigFrame.quiet_assign _ rfl ?_; refine hK _ ?_)
                 | (apply Exists.intro; refine ⟨fun w' hC => ?_, hK _ ?_⟩
                    · (obtain ⟨hcl, hfr⟩ := bcell hC.1; unfold Oper.quietAt; go_simp; first | rfl | fail))
               simp only [Act.put, Act.eval, List.setIfInBounds_toArray, List.set_cons_zero, List.set_cons_succ, Array.getD_eq_getD_getElem?, List.getElem?_toArray, List.getElem?_cons_succ, List.getElem?_cons_zero, Option.getD_some]
               clear hK K))
          refine wpQuiet_nil ?_
          intro wq hCq
          have HB := Lib.hid (hCq.below hb.out hb.out.size)
          clear hCq c1 c2
          go_wp2_with fail
          go_roundw
          case rel =>
            refine ⟨j + 1, by omega, by go_num, HB, fun t ht => ?_⟩
            by_cases e : t = j
            · subst e; rw [HX.out, HY.out]
            · exact hsame.out t (by omega)
          case measure => simp [intOf]; omega
        · have hpq' : (p == q) = false := by simp [hpq]
          have HNE : Hid (decide (l = k) = false) := decide_eq_false fun e => hpq (by have h := HX.out; rw [e, HY.out] at h; exact (Option.some.inj h).symm)
          go_wp2_with fail
          refine wp_region_class (Kept _) (by kernel_rfl) (by kernel_rfl) (Kept.drew _) ?_
          repeat (first
            | go_big_quiet_skip
            | (refine BigFrame.wpQuiet_want (by rfl) (fun K hK => ?_)
               first
                 | (refine BigFrame.quiet_move _ rfl ?_; refine hK _ ?_)
                 | (refine BigFrame.quiet_assign _ rfl ?_; refine hK _ ?_)
                 | (apply Exists.intro; refine ⟨fun w' hC => ?_, hK _ ?_⟩
                    · (obtain ⟨hcl, hfr⟩ := bcell hC.1; unfold Oper.quietAt; go_simp; first | rfl | fail))
               simp only [Act.put, Act.eval, List.setIfInBounds_toArray, List.set_cons_zero, List.set_cons_succ, Array.getD_eq_getD_getElem?, List.getElem?_toArray, List.getElem?_cons_succ, List.getElem?_cons_zero, Option.getD_some]
               clear hK K))
          refine wpQuiet_nil ?_
          intro wq hCq
          have HB := Lib.hid (hCq.below hb.out hb.out.size)
          clear hCq c1 c2
          go_wp2_with fail
          go_ret
          exact ⟨by rw [HNE.out]; rfl, HB.out⟩
      · obtain rfl : j = l.length := by omega
        have HEQ : Hid (decide (l = k) = true) := decide_eq_true (List.ext_getElem? fun t => by
          by_cases ht : t < l.length
          · exact hsame.out t ht
          · rw [List.getElem?_eq_none (by omega), List.getElem?_eq_none (by rw [← HLEN.out]; omega)])
        go_wp2_with fail
        go_ret
        exact ⟨by rw [HEQ.out]; rfl, hb.out⟩
  · have hlen' : ¬ (l.length : Int) = k.length := by omega
    have HNE : Hid (decide (l = k) = false) := decide_eq_false fun e => hlen (by rw [e])
    clear hlen
    go_enter Tryd.func19, Tryd.ntmps19
    go_wp2_with fail
    go_ret
    exact ⟨by rw [HNE.out]; rfl, Below.refl _ _⟩

set_option maxHeartbeats 1000000 in
set_option maxRecDepth 100000 in
theorem same_any (v u : Value) (l k : List (List Int)) (w : World) (hv : RowsAt w.heap.size w v l) (hu : RowsAt w.heap.size w u k) (hl : l.length ≤ 1000000) (hll : ∀ x ∈ l, x.length ≤ 1000000) :
    Calls Tryd.prog 31 #[v, u] w fun e w' => e = .returned (.bool (decide (l = k))) ∧ Below w.heap.size w w' := by
  obtain ⟨ao, cap, rfl, hc⟩ := hv
  obtain ⟨bo, cap2, rfl, hd⟩ := hu
  have HC := Lib.hid hc
  have HD := Lib.hid hd
  have HLL := Lib.hid hll
  clear hc hd hll
  by_cases hlen : l.length = k.length
  · have HLEN := Lib.hid hlen
    rw [← hlen]
    clear hlen
    go_enter Tryd.func31, Tryd.ntmps31
    go_wp2_with fail
    go_loopw [5] (fun x wr => ∃ j : Nat, j ≤ l.length ∧ x = .int .i64 j ∧ Hid (Below w.heap.size w wr) ∧ Hid (∀ t, t < j → l[t]? = k[t]?)) (fun x _ => l.length - (intOf x).toNat)
    case atStart => exact ⟨0, Nat.zero_le _, rfl, Below.refl _ _, fun t ht => by omega⟩
    case round =>
      obtain ⟨j, hj, rfl, hb, hsame⟩ := hrel
      by_cases hlt : j < l.length
      · have hlz : (j : Int) < l.length := by omega
        obtain ⟨p, hX⟩ : ∃ p, l[j]? = some p := ⟨_, List.getElem?_eq_getElem hlt⟩
        obtain ⟨q, hY⟩ : ∃ q, k[j]? = some q := ⟨_, List.getElem?_eq_getElem (by rw [← HLEN.out]; exact hlt)⟩
        obtain ⟨b, off, a, rfl, hb1, h1, hia⟩ := HC.out j p hX
        obtain ⟨b2, off2, a2, rfl, hb2, h2, hib⟩ := HD.out j q hY
        have c1 := (hb.out.cell (p := ⟨b, off + j, none⟩) hb1).trans h1
        have c2 := (hb.out.cell (p := ⟨b2, off2 + j, none⟩) hb2).trans h2
        have l1 := cell_lt c1
        have l2 := cell_lt c2
        have HX := Lib.hid hX
        have HY := Lib.hid hY
        have HINTS : Hid (∀ w', Kept wr w' → Calls Tryd.prog 19 #[a, a2] w' fun e w'' => e = .returned (.bool (decide (p = q))) ∧ Below w'.heap.size w' w'') := fun w' hC => by
          have hw := hC.below hb.out hb.out.size
          exact ints_any a a2 p q w' (hia.mono hw hw.size) (hib.mono hw hw.size) (HLL.out p (List.mem_of_getElem? hX))
        clear h1 h2 hX hY hia hib
        obtain ⟨eq, heq⟩ : ∃ eq, eq = decide (p = q) := ⟨_, rfl⟩
        rw [← heq] at HINTS
        have HEQ := Lib.hid heq
        clear heq
        go_wp2_with fail
        refine wp_region_class (Kept _) (by kernel_rfl) (by kernel_rfl) (Kept.drew _) ?_
        repeat (first
          | go_big_quiet_skip
          | (refine BigFrame.wpQuiet_want (by rfl) (fun K hK => ?_)
             first
               | (refine BigFrame.quiet_move _ rfl ?_; refine hK _ ?_)
               | (refine BigFrame.quiet_assign _ rfl ?_; refine hK _ ?_)
               | (apply Exists.intro; refine ⟨fun w' hC => ?_, hK _ ?_⟩
                  · (obtain ⟨hcl, hfr⟩ := bcell hC.1; unfold Oper.quietAt; go_simp; first | rfl | (go_at_call 19; with_reducible refine (HINTS.out w' hC).mono ?_; exact fun e w'' ⟨he, hb⟩ => ⟨he, hC.next hb⟩)))
             simp only [Act.put, Act.eval, List.setIfInBounds_toArray, List.set_cons_zero, List.set_cons_succ, Array.getD_eq_getD_getElem?, List.getElem?_toArray, List.getElem?_cons_succ, List.getElem?_cons_zero, Option.getD_some]
             clear hK K))
        refine wpQuiet_nil ?_
        intro wq hCq
        have HB := Lib.hid (hCq.below hb.out hb.out.size)
        clear hCq c1 c2
        cases eq with
        | true =>
          have hpq : p = q := of_decide_eq_true HEQ.out.symm
          have HS : Hid (∀ t, t < j + 1 → l[t]? = k[t]?) := fun t ht => by
            by_cases e : t = j
            · subst e; rw [HX.out, HY.out, hpq]
            · exact hsame.out t (by omega)
          clear hpq
          go_wp2_with fail
          go_roundw
          case rel => exact ⟨j + 1, by omega, by go_num, HB, HS⟩
          case measure => simp [intOf]; omega
        | false =>
          have hpq : p ≠ q := of_decide_eq_false HEQ.out.symm
          have HNE : Hid (decide (l = k) = false) := decide_eq_false fun e => hpq (by have h := HX.out; rw [e, HY.out] at h; exact (Option.some.inj h).symm)
          clear hpq
          go_wp2_with fail
          go_ret
          exact ⟨by rw [HNE.out]; rfl, HB.out⟩
      · obtain rfl : j = l.length := by omega
        have HEQ : Hid (decide (l = k) = true) := decide_eq_true (List.ext_getElem? fun t => by
          by_cases ht : t < l.length
          · exact hsame.out t ht
          · rw [List.getElem?_eq_none (by omega), List.getElem?_eq_none (by rw [← HLEN.out]; omega)])
        go_wp2_with fail
        go_ret
        exact ⟨by rw [HEQ.out]; rfl, hb.out⟩
  · have hlen' : ¬ (l.length : Int) = k.length := by omega
    have HNE : Hid (decide (l = k) = false) := decide_eq_false fun e => hlen (by rw [e])
    clear hlen
    go_enter Tryd.func31, Tryd.ntmps31
    go_wp2_with fail
    go_ret
    exact ⟨by rw [HNE.out]; rfl, Below.refl _ _⟩

end Go.Proofs.YtebigkjilklodaaDoor

/- The chapter's example. -/
namespace Go.Proofs.YtebigkjilklodaaDoor
open Go.RowKit

def strA : ByteArray := ⟨#[97]⟩
def strB : ByteArray := ⟨#[98]⟩
/-- The chapter's draw; its quotas are at q. -/
def exD (q : Value) : DrawC := ⟨.string ⟨#[]⟩, .int .i64 0, .int .i64 0, .int .i64 0, .int .i64 0, .slice none 0 0, .bool false, .slice none 0 0, .int .i64 0, .slice none 0 0, 3, 2, q⟩
def exG (k : Nat) : ByteArray := if k = 0 then strA else strB
def exL (_ : Nat) : Int := 1
def exH (k : Nat) : Int := if k = 0 then 1 else 2
def exGs (i : Nat) : List ByteArray := if i = 0 then [strA] else if i = 1 then [strA, strB] else if i = 2 then [strB] else []

set_option maxHeartbeats 1000000 in
set_option maxRecDepth 100000 in
theorem four_any (w : World) : Calls Tryd.prog 30 #[] w fun e w' => ∃ qv lv, e = .returned (.tuple #[.agg (exD qv).arr, lv]) ∧ DrawIn w' (exD qv) lv 4 1 exG exL exH exGs ∧ Below w.heap.size w w' ∧ qv = .slice (some ⟨w.heap.size + 1, 0, none⟩) 1 1 := by
  go_enter Tryd.func30, Tryd.ntmps30
  go_wp2_with fail
  generalize hW : World.alloc _ _ = W
  obtain ⟨os, hos⟩ : ∃ os : List Obj, os = [
    .cells (exD (.slice (some ⟨w.heap.size + 1, 0, none⟩) 1 1)).arr 33,
    .cells #[.string strA, .int .i64 1, .int .i64 1] 52,
    .cells #[.string strA] 9, .cells #[.string strA, .string strB] 9, .cells #[.string strB] 9,
    .cells #[.int .i64 0, .int .i64 0, .int .i64 0, .slice none 0 0, .slice none 0 0, .slice (some ⟨w.heap.size + 1 + 1, 0, none⟩) 1 1, .int .i64 0, .int .i64 0, .int .i64 0, .slice none 0 0, .slice none 0 0, .slice (some ⟨w.heap.size + 1 + 1 + 1, 0, none⟩) 2 2,
      .int .i64 0, .int .i64 0, .int .i64 0, .slice none 0 0, .slice none 0 0, .slice (some ⟨w.heap.size + 1 + 1 + 1 + 1, 0, none⟩) 1 1, .int .i64 0, .int .i64 0, .int .i64 0, .slice none 0 0, .slice none 0 0, .slice none 0 0] 56] := ⟨_, rfl⟩
  have hWW : W = allocs w os := by rw [← hW, hos]; rfl
  have hB : Below w.heap.size w W := by rw [hWW]; exact allocs_below os w
  have hsz : W.heap.size = w.heap.size + 6 := by rw [hWW, allocs_size, hos]; rfl
  have h0 : W.heap[w.heap.size]? = some (.cells (exD (.slice (some ⟨w.heap.size + 1, 0, none⟩) 1 1)).arr 33 (0, 0)) := by rw [hWW]; exact allocs_get os w 0 _ (by rw [hos]; rfl)
  have h1 : W.heap[w.heap.size + 1]? = some (.cells #[.string strA, .int .i64 1, .int .i64 1] 52 (0, 0)) := by rw [hWW]; exact allocs_get os w 1 _ (by rw [hos]; rfl)
  have h2 : W.heap[w.heap.size + 2]? = some (.cells #[.string strA] 9 (0, 0)) := by rw [hWW]; exact allocs_get os w 2 _ (by rw [hos]; rfl)
  have h3 : W.heap[w.heap.size + 3]? = some (.cells #[.string strA, .string strB] 9 (0, 0)) := by rw [hWW]; exact allocs_get os w 3 _ (by rw [hos]; rfl)
  have h4 : W.heap[w.heap.size + 4]? = some (.cells #[.string strB] 9 (0, 0)) := by rw [hWW]; exact allocs_get os w 4 _ (by rw [hos]; rfl)
  have h5 := allocs_get os w 5 _ (by rw [hos]; rfl)
  rw [← hWW] at h5
  clear hW hWW hos
  have hd : DrawIn W (exD (.slice (some ⟨w.heap.size + 1, 0, none⟩) 1 1)) (.slice (some ⟨w.heap.size + 5, 0, none⟩) 4 4) 4 1 exG exL exH exGs := by
    refine ⟨⟨rfl, rfl, rfl, rfl, rfl, rfl, rfl, rfl, rfl, rfl⟩, ⟨_, _, rfl, fun k hk => ?_⟩, ⟨_, _, rfl, fun i hi => ?_⟩, fun i => ?_⟩
    · obtain rfl : k = 0 := by omega
      exact ⟨_, _, rfl, by omega, by rw [cell_of_row W _ _ _ _ _ h1]; rfl, by rw [cell_of_row W _ _ _ _ _ h1]; rfl, by rw [cell_of_row W _ _ _ _ _ h1]; rfl⟩
    · have hc : ∀ o, W.cell? ⟨w.heap.size + 5, o, none⟩ = _ := fun o => cell_of_row W (w.heap.size + 5) o _ _ _ h5
      match i, hi with
      | 0, _ =>
        refine ⟨w.heap.size + 5, 0, .int .i64 0, .int .i64 0, .int .i64 0, .slice none 0 0, .slice none 0 0, .slice (some ⟨w.heap.size + 1 + 1, 0, none⟩) 1 1, rfl, by omega, by rw [hc]; rfl, by rw [hc]; rfl, by rw [hc]; rfl, by rw [hc]; rfl, by rw [hc]; rfl, by rw [hc]; rfl, ⟨_, _, rfl, fun j s hs => ?_⟩, rfl, rfl, rfl, rfl, rfl⟩
        match j, hs with
        | 0, hs => obtain rfl := Option.some.inj hs; exact ⟨_, _, rfl, by omega, by rw [cell_of_row W _ _ _ _ _ h2]; rfl⟩
      | 1, _ =>
        refine ⟨w.heap.size + 5, 0, .int .i64 0, .int .i64 0, .int .i64 0, .slice none 0 0, .slice none 0 0, .slice (some ⟨w.heap.size + 1 + 1 + 1, 0, none⟩) 2 2, rfl, by omega, by rw [hc]; rfl, by rw [hc]; rfl, by rw [hc]; rfl, by rw [hc]; rfl, by rw [hc]; rfl, by rw [hc]; rfl, ⟨_, _, rfl, fun j s hs => ?_⟩, rfl, rfl, rfl, rfl, rfl⟩
        match j, hs with
        | 0, hs => obtain rfl := Option.some.inj hs; exact ⟨_, _, rfl, by omega, by rw [cell_of_row W _ _ _ _ _ h3]; rfl⟩
        | 1, hs => obtain rfl := Option.some.inj hs; exact ⟨_, _, rfl, by omega, by rw [cell_of_row W _ _ _ _ _ h3]; rfl⟩
      | 2, _ =>
        refine ⟨w.heap.size + 5, 0, .int .i64 0, .int .i64 0, .int .i64 0, .slice none 0 0, .slice none 0 0, .slice (some ⟨w.heap.size + 1 + 1 + 1 + 1, 0, none⟩) 1 1, rfl, by omega, by rw [hc]; rfl, by rw [hc]; rfl, by rw [hc]; rfl, by rw [hc]; rfl, by rw [hc]; rfl, by rw [hc]; rfl, ⟨_, _, rfl, fun j s hs => ?_⟩, rfl, rfl, rfl, rfl, rfl⟩
        match j, hs with
        | 0, hs => obtain rfl := Option.some.inj hs; exact ⟨_, _, rfl, by omega, by rw [cell_of_row W _ _ _ _ _ h4]; rfl⟩
      | 3, _ =>
        exact ⟨w.heap.size + 5, 0, .int .i64 0, .int .i64 0, .int .i64 0, .slice none 0 0, .slice none 0 0, .slice none 0 0, rfl, by omega, by rw [hc]; rfl, by rw [hc]; rfl, by rw [hc]; rfl, by rw [hc]; rfl, by rw [hc]; rfl, by rw [hc]; rfl, ⟨none, 0, rfl, fun j s hs => by cases hs⟩, rfl, rfl, rfl, rfl, rfl⟩
    · unfold exGs
      split
      · decide
      · split
        · decide
        · split <;> decide
  have hcells := cells13 h0
  obtain ⟨c0, c1, c2, c3, c4, c5, c6, c7, c8, c9, c10, c11, c12⟩ := hcells
  exact bodyPost_ret (v := .tuple #[.agg (exD (.slice (some ⟨w.heap.size + 1, 0, none⟩) 1 1)).arr, .slice (some ⟨w.heap.size + 5, 0, none⟩) 4 4])
    (by simp [results, Tryd.results30, go_sem, c0, c1, c2, c3, c4, c5, c6, c7, c8, c9, c10, c11, c12, exD, DrawC.arr]) rfl ⟨_, _, rfl, hd, hB, rfl⟩

end Go.Proofs.YtebigkjilklodaaDoor

/- What the chapter's example gives. No program in sight. -/
namespace Go.Proofs.YtebigkjilklodaaDoor
open Go.RowKit

def exPans : List (List Nat) := [[0, 2], [0, 3], [1, 2], [1, 3]]
theorem ex_pans (q : Value) : pans (exD q) 4 1 exG exL exH exGs = exPans := by
  unfold pans
  rw [if_pos (by refine ⟨rfl, by decide, by decide, by show (0 : Int) ≤ 2; decide, by show (2 : Int) ≤ 4; decide⟩)]
  show (pdOf 2 1 exG exL exH exGs).all 4 = exPans
  decide
theorem ex_pans2 (q : Value) : (pans (exD q) 4 2 exG exL exH exGs).length = 3 := by
  unfold pans
  rw [if_pos (by refine ⟨rfl, by decide, by decide, by show (0 : Int) ≤ 2; decide, by show (2 : Int) ≤ 4; decide⟩)]
  show ((pdOf 2 2 exG exL exH exGs).all 4).length = 3
  decide
def exP (k : Nat) : Rat := if k = 0 then 1 else if k = 1 then 1 else 2
theorem ex_top : top exP exPans = some (3, [0, 2]) := by decide +kernel

/-- Sizes of sums of prices. -/
def bnd (c : Nat) : Nat → Nat
  | 0 => 1
  | r + 1 => 2 * (bnd c r + c) + 1
theorem ratLe_mono {k l : Nat} {r : Rat} (h : RatLe k r) (hkl : k ≤ l) : RatLe l r := ⟨Nat.le_trans h.1 hkl, Nat.le_trans h.2 hkl⟩
theorem natS_le {n k : Nat} (h : n < 256 ^ k) : (natS n).size ≤ k := by rw [natS_size]; exact natB_length_le h
theorem ratLe_zero : RatLe 1 0 := ⟨natS_le (by decide), natS_le (by decide)⟩
theorem price_le {c : Nat} {p : Nat → Rat} (h : ∀ j, RatLe c (p j)) (x : List Nat) : RatLe (bnd c x.length) (price p x) := by
  induction x with
  | nil => exact ratLe_zero
  | cons i x ih => rw [price_cons, List.length_cons]; exact ratLe_add ih (h i)
theorem bnd_mono (c : Nat) : ∀ r s, r ≤ s → bnd c r ≤ bnd c s := by
  intro r s h
  induction h with
  | refl => exact Nat.le_refl _
  | step _ ih => refine Nat.le_trans ih ?_; show _ ≤ 2 * (bnd c _ + c) + 1; omega
/-- The chapter's prices. -/
def exPs (k : Nat) : RatG := ratG (exP k)
theorem exP_le (k : Nat) : RatLe 1 (exP k) := by
  unfold exP
  split
  · exact ⟨natS_le (by decide), natS_le (by decide)⟩
  · split <;> exact ⟨natS_le (by decide), natS_le (by decide)⟩
theorem exPs_rat : (fun k => (exPs k).rat) = exP := by funext k; exact ratG_rat _
theorem ex_best (q al : Value) (W : World) (pv : Value) (hd : DrawIn W (exD q) al 4 1 exG exL exH exGs) (hp : PricesAt W.heap.size W pv 4 exPs) :
    Calls Tryd.prog 24 #[.agg (exD q).arr, al, pv] W fun e w' => ∃ v, e = .returned (.tuple #[v, .agg #[.bool (ratG 3).neg, .string (ratG 3).num, .string (ratG 3).den], .bool true]) ∧ IntsAt w'.heap.size w' v [0, 2] ∧ Below W.heap.size W w' := by
  have h := qBest_any (exD q) al pv 4 1 4 exG exL exH exGs exPs W hd hp (by decide)
    (fun k => ⟨Nat.le_trans (exP_le k).1 (by decide), Nat.le_trans (exP_le k).2 (by decide)⟩)
    (fun _ x hx _ => by
      rw [exPs_rat]
      exact ratLe_mono (price_le exP_le x) (Nat.le_trans (bnd_mono 1 _ _ hx) (by decide)))
  have e : bestOf (exD q) 4 1 exG exL exH exGs 4 exPs = some (3, [0, 2]) := by
    unfold bestOf
    rw [if_pos rfl, exPs_rat, ex_pans, ex_top]
  rw [e] at h
  exact h

end Go.Proofs.YtebigkjilklodaaDoor

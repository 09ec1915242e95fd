/- 'sortesref15.groups': names of groups by the bits of a number. -/
import Derived.Test.YtebigkjilklodaaDoorEntC
set_option linter.unusedVariables false
set_option linter.unusedSimpArgs false
namespace Go.Proofs.YtebigkjilklodaaDoor
open Go.RowKit

def nmG (k : Nat) : ByteArray := if k = 0 then ⟨#[119, 111, 109, 101, 110]⟩ else if k = 1 then ⟨#[121, 111, 117, 110, 103]⟩ else if k = 2 then ⟨#[110, 111, 114, 116, 104]⟩ else if k = 3 then ⟨#[114, 101, 110, 116]⟩ else ⟨#[111, 116, 104, 101, 114, 115]⟩
def bitG (n k : Nat) : Bool := decide ((n / 2 ^ k) % 2 = 1)
def dupG (n : Nat) : Bool := decide ((n / 16) % 4 = 3)
def grpsTo (n : Nat) : Nat → List ByteArray
  | 0 => []
  | k + 1 => if bitG n k then grpsTo n k ++ [nmG k] else grpsTo n k
def grpsOf (n : Nat) : List ByteArray := if dupG n then grpsTo n 4 ++ (grpsTo n 4).take 1 else grpsTo n 4
theorem grpsTo_length (n : Nat) : ∀ k, (grpsTo n k).length ≤ k := by
  intro k
  induction k with
  | zero => exact Nat.le_refl _
  | succ k ih =>
    unfold grpsTo
    split
    · simp; omega
    · omega
theorem grpsOf_length (n : Nat) : (grpsOf n).length ≤ 5 := by
  have h := grpsTo_length n 4
  unfold grpsOf
  split
  · simp; omega
  · omega
theorem Tryd.infoStr : (Tryd.prog.info? 9).map (fun i => (i.zero, i.size, i.bytes)) = some (some (.string ByteArray.empty), 1, 16) := by kernel_rfl

theorem own_base {w : World} {e : TypeId} {B C s n : Nat} {v : Value} {xs : List Value} (h : w.ownsRow B e s v n xs) (hC : C ≤ B) : w.ownsRow C e s v n xs := by
  refine ⟨h.1, ?_⟩
  rcases h.2 with h3 | ⟨g, cap, cur, h3, h4, h5⟩
  · exact .inl h3
  · exact .inr ⟨g, cap, cur, h3, by omega, h5⟩
theorem bitG_bits : ∀ n : Nat, n < 256 → ∀ k : Nat, k < 4 → (bits .and .i64 ((n : Int) / 2 ^ k) 1 == 1) = bitG n k := by decide +kernel
theorem dupG_bits : ∀ n : Nat, n < 256 → (bits .and .i64 ((n : Int) / 16) 3 == 3) = dupG n := by decide +kernel

set_option maxHeartbeats 1000000 in
set_option maxRecDepth 100000 in
theorem groups_any (n : Nat) (w : World) (hn : n ≤ 255) : Calls Tryd.prog 32 #[.int .i64 n] w fun e w' => ∃ v, e = .returned v ∧ w'.ownsRow w.heap.size 9 1 v (grpsOf n).length ((grpsOf n).map .string) ∧ Below w.heap.size w w' := by
  obtain ⟨i0, hi, hz0, hz1, hz2⟩ := info_parts Tryd.infoStr
  have HI := Lib.hid (⟨hi, hz0, hz1, hz2⟩ : Tryd.prog.info? 9 = some i0 ∧ i0.zero = some _ ∧ i0.size = 1 ∧ i0.bytes = 16)
  clear hi hz0 hz1 hz2
  go_enter Tryd.func32, Tryd.ntmps32
  go_wp2_with fail
  obtain ⟨W1, hW1⟩ : ∃ W1, W1 = w.alloc (.cells #[.string (nmG 0), .string (nmG 1), .string (nmG 2), .string (nmG 3)] 9) := ⟨_, rfl⟩
  have HB1 : Hid (Below w.heap.size w W1) := by show Below _ _ _; rw [hW1]; exact (Below.refl _ _).alloc (Nat.le_refl _) _
  have HT : Hid (W1.heap[w.heap.size]? = some (.cells #[.string (nmG 0), .string (nmG 1), .string (nmG 2), .string (nmG 3)] 9 (0, 0))) := by show _ = _; rw [hW1]; exact heap_alloc_new w _
  have HW1 := Lib.hid hW1
  clear hW1
  go_loopw [3, 5] (fun v i wr => ∃ k : Nat, k ≤ 4 ∧ i = .int .i64 k ∧ Hid (wr.ownsRow W1.heap.size 9 1 v (grpsTo n k).length ((grpsTo n k).map .string)) ∧ Hid (Below W1.heap.size W1 wr)) (fun _ i _ => 4 - (intOf i).toNat)
  case atStart => exact ⟨0, by omega, rfl, World.ownsRow_nil _ _ _ _, by rw [HW1.out]; exact Below.refl _ _⟩
  case round =>
    obtain ⟨k, hk, rfl, HO, HB⟩ := hrel
    by_cases hkt : k < 4
    · have hkz : (k : Int) < 4 := by omega
      have hs1 := HB1.out.size
      have hsB := HB.out.size
      have HC : Hid (wr.heap[w.heap.size]? = some (.cells #[.string (nmG 0), .string (nmG 1), .string (nmG 2), .string (nmG 3)] 9 (0, 0))) := (HB.out.block _ (Array.getElem?_eq_some_iff.1 HT.out).1).trans HT.out
      have hb := bitG_bits n (by omega) k hkt
      cases hbit : bitG n k with
      | false =>
        rw [hbit] at hb
        have HG : Hid (grpsTo n (k + 1) = grpsTo n k) := by show _ = _; rw [grpsTo, hbit]; rfl
        have HO2 : Hid (wr.ownsRow W1.heap.size 9 1 u3 (grpsTo n (k + 1)).length ((grpsTo n (k + 1)).map .string)) := by show wr.ownsRow _ _ _ _ _ _; rw [HG.out]; exact HO.out
        clear hbit
        go_wp2_with fail
        go_roundw
        case rel => exact ⟨k + 1, by omega, by go_num, HO2, HB⟩
        case measure => simp [intOf]; omega
      | true =>
        rw [hbit] at hb
        have HG : Hid (grpsTo n (k + 1) = grpsTo n k ++ [nmG k]) := by show _ = _; rw [grpsTo, hbit]; rfl
        have hc : wr.cell? ⟨w.heap.size, k, none⟩ = some (.string (nmG k)) := by
          rw [cell_of_row wr w.heap.size k _ _ _ HC.out]
          match k, hkt with
          | 0, _ => rfl
          | 1, _ => rfl
          | 2, _ => rfl
          | 3, _ => rfl
        have hlt := cell_lt hc
        have HL := Lib.hid (grpsTo_length n k)
        clear hbit
        go_wp2_with (at_builtin; refine wpList_append_own _ rfl _ _ 50 rfl W1.heap.size 9 i0 _ 1 16 Tryd.underlying50 HI.out.1 HI.out.2.1 HI.out.2.2.1 HI.out.2.2.2 rfl (by decide) _ _ _ rfl (HO.out.alloc _) ⟨wr.heap.size, 0, none⟩ 1 1 [.string (nmG k)] rfl rfl ?c1 ?c2 ?c3 ?c4 ?c5 ?_)
        case c1 => exact cell_one_new _ _ _
        case c2 => intro u hu; simp at hu; subst hu; rfl
        case c3 => have := HL.out; unfold maxLen; omega
        case c4 => have := HL.out; omega
        case c5 => simp; omega
        intro v' w2 hown' hgrow _
        have HO2 : Hid (w2.ownsRow W1.heap.size 9 1 v' (grpsTo n (k + 1)).length ((grpsTo n (k + 1)).map .string)) := by
          show w2.ownsRow _ _ _ _ _ _
          rw [HG.out, List.length_append, List.map_append]; exact hown'
        have HB2 : Hid (Below W1.heap.size W1 w2) := (HB.out.alloc hsB _).grown hgrow (by simp; omega) (fun j hj => (HO.out.lt j hj).1)
        clear hown' hgrow hc
        go_wp2_with fail
        go_roundw
        case rel => exact ⟨k + 1, by omega, by go_num, HO2, HB2⟩
        case measure => simp [intOf]; omega
    · obtain rfl : k = 4 := by omega
      have hs1 := HB1.out.size
      have hsB := HB.out.size
      have hd := dupG_bits n (by omega)
      have HB3 : Hid (Below w.heap.size w wr) := HB1.out.trans (HB.out.mono hs1)
      have HL := Lib.hid (grpsTo_length n 4)
      cases hdup : dupG n with
      | false =>
        rw [hdup] at hd
        have HG : Hid (grpsOf n = grpsTo n 4) := by show _ = _; unfold grpsOf; rw [hdup]; rfl
        clear hdup
        go_wp2_with fail
        go_ret
        exact ⟨_, rfl, by rw [HG.out]; exact own_base HO.out hs1, HB3.out⟩
      | true =>
        rw [hdup] at hd
        cases hg : grpsTo n 4 with
        | nil =>
          have HG : Hid (grpsOf n = []) := by show _ = _; unfold grpsOf; rw [hdup, hg]; rfl
          have HO2 := HO.out
          rw [hg] at HO2
          rcases own_get HO2 with ⟨rfl, _⟩ | ⟨g, cap, rfl, h1, h2, h3⟩
          · clear hdup hg HO2 HO
            go_wp2_with fail
            go_ret
            exact ⟨_, rfl, by rw [HG.out]; exact World.ownsRow_nil _ _ _ _, HB3.out⟩
          · have HO3 := Lib.hid HO2
            clear hdup hg HO2 HO h3
            go_wp2_with fail
            go_ret
            exact ⟨_, rfl, by rw [HG.out]; exact own_base HO3.out hs1, HB3.out⟩
        | cons s l =>
          have HG : Hid (grpsOf n = (s :: l) ++ [s]) := by show _ = _; unfold grpsOf; rw [hdup, hg]; rfl
          have HO2 := HO.out
          have HL2 : Hid (l.length ≤ 3) := by have := HL.out; rw [hg] at this; simp at this; exact this
          obtain ⟨ll, hll⟩ : ∃ ll, ll = (s :: l).length := ⟨_, rfl⟩
          have HLL := Lib.hid hll
          have hl0 : 0 < ll := by rw [hll]; simp
          have hlz : (0 : Int) < ll := by omega
          have hl4 : ll ≤ 4 := by have := HL2.out; rw [hll]; simp; omega
          rw [hg, ← hll] at HO2
          clear hll
          rcases own_get HO2 with ⟨h0, h0'⟩ | ⟨g, cap, rfl, h1', h2', h3⟩
          · omega
          have hc := h3 0 (.string s) rfl
          have HO3 := Lib.hid HO2
          clear hdup hg HO2 HO h3 HL
          go_upto_region 9 with (fail)
          go_wp2_with (at_builtin; refine wpList_append_own _ rfl _ _ 50 rfl W1.heap.size 9 i0 _ 1 16 Tryd.underlying50 HI.out.1 HI.out.2.1 HI.out.2.2.1 HI.out.2.2.2 rfl (by decide) _ _ _ rfl (HO3.out.alloc _) ⟨wr.heap.size, 0, none⟩ 1 1 [.string s] rfl rfl ?e1 ?e2 ?e3 ?e4 ?e5 ?_)
          case e1 => exact cell_one_new _ _ _
          case e2 => intro u hu; simp at hu; subst hu; rfl
          case e3 => unfold maxLen; omega
          case e4 => omega
          case e5 => simp; omega
          intro v' w2 hown' hgrow _
          have HO4 : Hid (w2.ownsRow W1.heap.size 9 1 v' (grpsOf n).length ((grpsOf n).map .string)) := by
            show w2.ownsRow _ _ _ _ _ _
            rw [HG.out, List.length_append, List.map_append, ← HLL.out]; exact hown'
          have HB2 : Hid (Below w.heap.size w w2) := (HB3.out.alloc HB3.out.size _).grown hgrow (by have := HB3.out.size; simp; omega) (fun j hj => by have := (HO3.out.lt j hj).1; omega)
          clear hown' hgrow
          go_wp2_with fail
          go_ret
          exact ⟨_, rfl, own_base HO4.out hs1, HB2.out⟩

end Go.Proofs.YtebigkjilklodaaDoor

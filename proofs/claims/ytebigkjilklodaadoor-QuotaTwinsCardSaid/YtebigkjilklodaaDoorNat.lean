/- The reference's natural numbers: contracts of Canon, Of, Int, small, and Quo of small numbers. -/
import Derived.Test.YtebigkjilklodaaDoorLaws
import Derived.Laws.BytesArg
import Derived.Test.YtebigkjilklodaaDoorBase
set_option linter.unusedVariables false
set_option linter.unusedSimpArgs false
namespace Go.Proofs.YtebigkjilklodaaDoor
open Go.RowKit

/-- How many zeros stand in front. -/
def zerosB (l : List UInt8) : Nat := (l.takeWhile (· == 0)).length
theorem zerosB_le (l : List UInt8) : zerosB l ≤ l.length := List.Sublist.length_le (List.takeWhile_sublist _)
theorem zerosB_at {l : List UInt8} (h : zerosB l < l.length) : l[zerosB l]?.getD 0 ≠ 0 := by
  unfold zerosB at *
  induction l with
  | nil => simp at h
  | cons b l ih =>
    by_cases hb : b = 0
    · subst hb; simpa using ih (by simpa using h)
    · simp [hb]
theorem zerosB_below {l : List UInt8} {k : Nat} (h : k < zerosB l) : l[k]?.getD 1 = 0 := by
  unfold zerosB at *
  induction l generalizing k with
  | nil => simp at h
  | cons b l ih =>
    by_cases hb : b = 0
    · subst hb
      cases k with
      | zero => simp
      | succ k => simpa using ih (k := k) (by simpa using h)
    · simp [hb] at h
theorem dropZ_drop (l : List UInt8) : dropZ l = l.drop (zerosB l) := by
  unfold dropZ zerosB
  induction l with
  | nil => rfl
  | cons b l ih =>
    by_cases hb : b = 0
    · subst hb; simpa using ih
    · simp [hb]
theorem list_len (s : ByteArray) : s.data.toList.length = s.size := Array.length_toList
theorem mk_list (s : ByteArray) : ByteArray.mk s.data.toList.toArray = s := by rw [Array.toArray_toList]
theorem extract_drop (s : ByteArray) (k : Nat) : s.extract k s.size = ⟨(s.data.toList.drop k).toArray⟩ := by
  have := ByteArray.extract_mk s.data.toList k s.size
  rw [mk_list] at this
  rw [this, List.take_of_length_le]
  rw [List.length_drop, list_len]
  omega
theorem byte_at {s : ByteArray} {k : Nat} (h : k < s.size) : s[k] = s.data.toList[k]?.getD 0 := by
  have h2 : k < s.data.size := h
  rw [List.getElem?_eq_getElem (by simpa using h2)]
  simp [ByteArray.getElem_eq_getElem_data]

set_option maxHeartbeats 400000 in
theorem canon_any (s : ByteArray) (w : World) (hs : s.size ≤ 9223372036854775807) :
    Calls Tryd.prog 76 #[.string s] w fun e w' => e = .returned (.string (natS (valB s.data.toList))) ∧ w = w' := by
  have hz := zerosB_le s.data.toList
  have hsz := list_len s
  rw [hsz] at hz
  have hres : (s.extract (zerosB s.data.toList) s.size) = natS (valB s.data.toList) := by
    rw [extract_drop, ← dropZ_drop, dropZ_eq]; rfl
  have HR := Lib.hid hres
  have HB := Lib.hid (fun k (h : k < zerosB s.data.toList) => zerosB_below h)
  have HA := Lib.hid (fun (h : zerosB s.data.toList < s.data.toList.length) => zerosB_at h)
  obtain ⟨z, hz2⟩ : ∃ z, z = zerosB s.data.toList := ⟨_, rfl⟩
  rw [← hz2] at hz HR HB HA
  clear hres hz2
  go_enter Tryd.func76, Tryd.ntmps76
  go_wp2
  go_loopw [3] (fun i wr => ∃ k : Nat, k ≤ z ∧ i = .int .i64 k ∧ wr = w) (fun i _ => z - (intOf i).toNat)
  case atStart => exact ⟨0, Nat.zero_le _, rfl, rfl⟩
  case round =>
    obtain ⟨k, hk, rfl, rfl⟩ := hrel
    by_cases hlt : k < z
    · have h1 : (k : Int) < s.size := by omega
      have hb := HB.out k hlt
      have hks : k < s.size := by omega
      have hb2 : s[k] = 0 := by
        rw [byte_at hks]
        rw [List.getElem?_eq_getElem (by omega)] at hb ⊢
        exact hb
      go_wp2
      go_roundw
      case rel => exact ⟨k + 1, by omega, by go_num, trivial⟩
      case measure => simp [intOf]; omega
    · obtain rfl : k = z := by omega
      by_cases hks : k < s.size
      · have h1 : (k : Int) < s.size := by omega
        have hb2 : s[k] ≠ 0 := by
          rw [byte_at hks]; exact HA.out (by omega)
        have hb3 : ¬ (s[k].toNat : Int) = 0 := fun e => hb2 (UInt8.toNat_inj.1 (by simpa using e))
        clear hb2
        go_wp2
        go_ret
        exact ⟨by rw [HR.out]; rfl, rfl⟩
      · have h1 : ¬ (k : Int) < s.size := by omega
        go_wp2
        go_ret
        exact ⟨by rw [HR.out]; rfl, rfl⟩

theorem Tryd.infoU8 : (Tryd.prog.info? 5).map (fun i => (i.zero, i.size, i.bytes)) = some (some (.int .u8 0), 1, 1) := by kernel_rfl
theorem strOfNums_be8 (n : Nat) : strOfNums ((be8 n).map Int.ofNat) = ⟨((be8 n).map UInt8.ofNat).toArray⟩ := rfl
def be8I (n : Nat) : List Int := (be8 n).map Int.ofNat
theorem be8I_at (n j : Nat) (h : j < 8) : (be8I n)[j]? = some (((n / 2 ^ (56 - 8 * j) % 256 : Nat) : Int)) := by
  have : j = 0 ∨ j = 1 ∨ j = 2 ∨ j = 3 ∨ j = 4 ∨ j = 5 ∨ j = 6 ∨ j = 7 := by omega
  rcases this with rfl | rfl | rfl | rfl | rfl | rfl | rfl | rfl <;> rfl

theorem own_snoc {w : World} {base n : Nat} {e : TypeId} {v : Value} {l : List Value} {k : IntKind} {x y : Int} (h : w.ownsRow base e 1 v n (l ++ [.int k x])) (hxy : x = y) : w.ownsRow base e 1 v n (l ++ [.int k y]) := hxy ▸ h
theorem take_snoc {l : List Int} {j : Nat} {x : Int} (h : l[j]? = some x) : l.take (j + 1) = l.take j ++ [x] := by rw [List.take_add_one, h]; rfl

set_option maxHeartbeats 1000000 in
set_option maxRecDepth 100000 in
theorem of_any (n : Int) (w : World) (hn : n ≤ 9223372036854775807) :
    Calls Tryd.prog 60 #[.int .i64 n] w fun e w' => e = .returned (.string (natS n.toNat)) ∧ Below w.heap.size w w' := by
  obtain ⟨i0, hi, hz0, hz1, hz2⟩ := info_parts Tryd.infoU8
  by_cases hpos : 0 < n
  · obtain ⟨m, rfl⟩ := Int.eq_ofNat_of_zero_le (Int.le_of_lt hpos)
    have hm : m ≤ 9223372036854775807 := by omega
    go_enter Tryd.func60, Tryd.ntmps60
    go_wp2
    go_loopw [3, 4] (fun v i wr => ∃ j : Nat, j ≤ 8 ∧ i = .int .i64 (56 - 8 * (j : Int)) ∧ Hid (wr.ownsRow w.heap.size 5 1 v j (((be8I m).take j).map (Value.int .u8))) ∧ Hid (Below w.heap.size w wr)) (fun _ i _ => (intOf i + 8).toNat)
    case atStart => exact ⟨0, Nat.zero_le _, rfl, World.ownsRow_nil _ _ _ _, Below.refl _ _⟩
    case round =>
      obtain ⟨j, hj, rfl, HO, HB⟩ := hrel
      have hszB := HB.out.size
      by_cases hj8 : j = 8
      · subst hj8
        have hO := HO.out
        obtain ⟨g, cap, rfl, _, _⟩ := owns_form hO
        have hcv : (convert 23 45 (.slice (some ⟨g, 0, none⟩) 8 cap)).run Tryd.prog wr = .ok (.string ⟨((be8 m).map UInt8.ofNat).toArray⟩) wr := by
          refine run_convert_bytes_arg wr 23 5 Tryd.underlying23 Tryd.underlying5 g 0 8 cap (be8I m) rfl (fun i hi => ?_) 45 Tryd.underlying45
          have := hO.cells (g := g) rfl i (.int .u8 ((be8I m).getD i 0)) (by
            rw [show (be8I m).take 8 = be8I m from rfl, List.getElem?_map, List.getD_eq_getElem?_getD, List.getElem?_eq_getElem (by show i < 8; exact hi)]; rfl)
          rwa [add_flat] at this
        clear hO
        have hval : valB ((be8 m).map UInt8.ofNat) = m := be8_val (by omega)
        have HV := Lib.hid hval
        have hbs : (⟨((be8 m).map UInt8.ofNat).toArray⟩ : ByteArray).size = 8 := rfl
        obtain ⟨s, hs⟩ : ∃ s : ByteArray, s = ⟨((be8 m).map UInt8.ofNat).toArray⟩ := ⟨_, rfl⟩
        have hsl : valB s.data.toList = m := by rw [hs]; simpa using hval
        rw [← hs] at hcv hbs
        have HSL := Lib.hid hsl
        clear hval hs hsl
        go_wp2_with fail
        refine (canon_any s wr (by rw [hbs]; decide)).mono ?_
        rintro e w' ⟨rfl, rfl⟩
        go_wp2_with fail
        go_ret
        exact ⟨by rw [HSL.out]; rfl, HB.out⟩
      · have hat := be8I_at m j (by omega)
        have hcases : j = 0 ∨ j = 1 ∨ j = 2 ∨ j = 3 ∨ j = 4 ∨ j = 5 ∨ j = 6 ∨ j = 7 := by omega
        rcases hcases with rfl | rfl | rfl | rfl | rfl | rfl | rfl | rfl
        · have hat : (be8I m)[0]? = some ((m : Int) / 72057594037927936) := by rw [be8I_at m 0 (by omega)]; simp only [Nat.reduceMul, Nat.reduceSub, Nat.reducePow]; exact congrArg some (by omega)
          have HAT := Lib.hid (take_snoc hat)
          clear hat
          go_wp2_with (at_builtin; refine wpList_append_own _ rfl _ _ 23 rfl w.heap.size 5 i0 (.int .u8 0) 1 1 Tryd.underlying23 hi hz0 hz1 hz2 rfl (by decide) _ _ _ rfl (HO.out.alloc _) ⟨wr.heap.size, 0, none⟩ 1 1 [.int .u8 ((m : Int) / 72057594037927936)] rfl rfl ?c1 ?c2 ?c3 ?c4 ?c5 ?_)
          case c1 => exact cell_one_new _ _ _
          case c2 => intro u hu; simp at hu; subst hu; rfl
          case c3 => unfold maxLen; omega
          case c4 => omega
          case c5 => simp; omega
          intro v' w2 hown' hgrow _
          have HB2 : Hid (Below w.heap.size w w2) := (HB.out.alloc hszB _).grown hgrow (by simp; omega) (fun j hj => (HO.out.lt j hj).1)
          have HO2 : Hid (w2.ownsRow w.heap.size 5 1 v' 1 (((be8I m).take 1).map (Value.int .u8))) := by
            show w2.ownsRow _ _ _ _ _ _
            rw [HAT.out, List.map_append]; exact hown'
          clear hown' hgrow HB HO
          go_wp2
          go_roundw
          case rel => exact ⟨1, by omega, by go_num, HO2, HB2⟩
          case measure => simp [intOf]
        · have hat : (be8I m)[1]? = some ((m : Int) / 281474976710656 % 256) := by rw [be8I_at m 1 (by omega)]; simp only [Nat.reduceMul, Nat.reduceSub, Nat.reducePow]; exact congrArg some (by omega)
          have HAT := Lib.hid (take_snoc hat)
          clear hat
          go_wp2_with (at_builtin; refine wpList_append_own _ rfl _ _ 23 rfl w.heap.size 5 i0 (.int .u8 0) 1 1 Tryd.underlying23 hi hz0 hz1 hz2 rfl (by decide) _ _ _ rfl (HO.out.alloc _) ⟨wr.heap.size, 0, none⟩ 1 1 [.int .u8 ((m : Int) / 281474976710656 % 256)] rfl rfl ?c1 ?c2 ?c3 ?c4 ?c5 ?_)
          case c1 => exact cell_one_new _ _ _
          case c2 => intro u hu; simp at hu; subst hu; rfl
          case c3 => unfold maxLen; omega
          case c4 => omega
          case c5 => simp; omega
          intro v' w2 hown' hgrow _
          have HB2 : Hid (Below w.heap.size w w2) := (HB.out.alloc hszB _).grown hgrow (by simp; omega) (fun j hj => (HO.out.lt j hj).1)
          have HO2 : Hid (w2.ownsRow w.heap.size 5 1 v' 2 (((be8I m).take 2).map (Value.int .u8))) := by
            show w2.ownsRow _ _ _ _ _ _
            rw [HAT.out, List.map_append]; exact hown'
          clear hown' hgrow HB HO
          go_wp2
          go_roundw
          case rel => exact ⟨2, by omega, by go_num, HO2, HB2⟩
          case measure => simp [intOf]
        · have hat : (be8I m)[2]? = some ((m : Int) / 1099511627776 % 256) := by rw [be8I_at m 2 (by omega)]; simp only [Nat.reduceMul, Nat.reduceSub, Nat.reducePow]; exact congrArg some (by omega)
          have HAT := Lib.hid (take_snoc hat)
          clear hat
          go_wp2_with (at_builtin; refine wpList_append_own _ rfl _ _ 23 rfl w.heap.size 5 i0 (.int .u8 0) 1 1 Tryd.underlying23 hi hz0 hz1 hz2 rfl (by decide) _ _ _ rfl (HO.out.alloc _) ⟨wr.heap.size, 0, none⟩ 1 1 [.int .u8 ((m : Int) / 1099511627776 % 256)] rfl rfl ?c1 ?c2 ?c3 ?c4 ?c5 ?_)
          case c1 => exact cell_one_new _ _ _
          case c2 => intro u hu; simp at hu; subst hu; rfl
          case c3 => unfold maxLen; omega
          case c4 => omega
          case c5 => simp; omega
          intro v' w2 hown' hgrow _
          have HB2 : Hid (Below w.heap.size w w2) := (HB.out.alloc hszB _).grown hgrow (by simp; omega) (fun j hj => (HO.out.lt j hj).1)
          have HO2 : Hid (w2.ownsRow w.heap.size 5 1 v' 3 (((be8I m).take 3).map (Value.int .u8))) := by
            show w2.ownsRow _ _ _ _ _ _
            rw [HAT.out, List.map_append]; exact hown'
          clear hown' hgrow HB HO
          go_wp2
          go_roundw
          case rel => exact ⟨3, by omega, by go_num, HO2, HB2⟩
          case measure => simp [intOf]
        · have hat : (be8I m)[3]? = some ((m : Int) / 4294967296 % 256) := by rw [be8I_at m 3 (by omega)]; simp only [Nat.reduceMul, Nat.reduceSub, Nat.reducePow]; exact congrArg some (by omega)
          have HAT := Lib.hid (take_snoc hat)
          clear hat
          go_wp2_with (at_builtin; refine wpList_append_own _ rfl _ _ 23 rfl w.heap.size 5 i0 (.int .u8 0) 1 1 Tryd.underlying23 hi hz0 hz1 hz2 rfl (by decide) _ _ _ rfl (HO.out.alloc _) ⟨wr.heap.size, 0, none⟩ 1 1 [.int .u8 ((m : Int) / 4294967296 % 256)] rfl rfl ?c1 ?c2 ?c3 ?c4 ?c5 ?_)
          case c1 => exact cell_one_new _ _ _
          case c2 => intro u hu; simp at hu; subst hu; rfl
          case c3 => unfold maxLen; omega
          case c4 => omega
          case c5 => simp; omega
          intro v' w2 hown' hgrow _
          have HB2 : Hid (Below w.heap.size w w2) := (HB.out.alloc hszB _).grown hgrow (by simp; omega) (fun j hj => (HO.out.lt j hj).1)
          have HO2 : Hid (w2.ownsRow w.heap.size 5 1 v' 4 (((be8I m).take 4).map (Value.int .u8))) := by
            show w2.ownsRow _ _ _ _ _ _
            rw [HAT.out, List.map_append]; exact hown'
          clear hown' hgrow HB HO
          go_wp2
          go_roundw
          case rel => exact ⟨4, by omega, by go_num, HO2, HB2⟩
          case measure => simp [intOf]
        · have hat : (be8I m)[4]? = some ((m : Int) / 16777216 % 256) := by rw [be8I_at m 4 (by omega)]; simp only [Nat.reduceMul, Nat.reduceSub, Nat.reducePow]; exact congrArg some (by omega)
          have HAT := Lib.hid (take_snoc hat)
          clear hat
          go_wp2_with (at_builtin; refine wpList_append_own _ rfl _ _ 23 rfl w.heap.size 5 i0 (.int .u8 0) 1 1 Tryd.underlying23 hi hz0 hz1 hz2 rfl (by decide) _ _ _ rfl (HO.out.alloc _) ⟨wr.heap.size, 0, none⟩ 1 1 [.int .u8 ((m : Int) / 16777216 % 256)] rfl rfl ?c1 ?c2 ?c3 ?c4 ?c5 ?_)
          case c1 => exact cell_one_new _ _ _
          case c2 => intro u hu; simp at hu; subst hu; rfl
          case c3 => unfold maxLen; omega
          case c4 => omega
          case c5 => simp; omega
          intro v' w2 hown' hgrow _
          have HB2 : Hid (Below w.heap.size w w2) := (HB.out.alloc hszB _).grown hgrow (by simp; omega) (fun j hj => (HO.out.lt j hj).1)
          have HO2 : Hid (w2.ownsRow w.heap.size 5 1 v' 5 (((be8I m).take 5).map (Value.int .u8))) := by
            show w2.ownsRow _ _ _ _ _ _
            rw [HAT.out, List.map_append]; exact hown'
          clear hown' hgrow HB HO
          go_wp2
          go_roundw
          case rel => exact ⟨5, by omega, by go_num, HO2, HB2⟩
          case measure => simp [intOf]
        · have hat : (be8I m)[5]? = some ((m : Int) / 65536 % 256) := by rw [be8I_at m 5 (by omega)]; simp only [Nat.reduceMul, Nat.reduceSub, Nat.reducePow]; exact congrArg some (by omega)
          have HAT := Lib.hid (take_snoc hat)
          clear hat
          go_wp2_with (at_builtin; refine wpList_append_own _ rfl _ _ 23 rfl w.heap.size 5 i0 (.int .u8 0) 1 1 Tryd.underlying23 hi hz0 hz1 hz2 rfl (by decide) _ _ _ rfl (HO.out.alloc _) ⟨wr.heap.size, 0, none⟩ 1 1 [.int .u8 ((m : Int) / 65536 % 256)] rfl rfl ?c1 ?c2 ?c3 ?c4 ?c5 ?_)
          case c1 => exact cell_one_new _ _ _
          case c2 => intro u hu; simp at hu; subst hu; rfl
          case c3 => unfold maxLen; omega
          case c4 => omega
          case c5 => simp; omega
          intro v' w2 hown' hgrow _
          have HB2 : Hid (Below w.heap.size w w2) := (HB.out.alloc hszB _).grown hgrow (by simp; omega) (fun j hj => (HO.out.lt j hj).1)
          have HO2 : Hid (w2.ownsRow w.heap.size 5 1 v' 6 (((be8I m).take 6).map (Value.int .u8))) := by
            show w2.ownsRow _ _ _ _ _ _
            rw [HAT.out, List.map_append]; exact hown'
          clear hown' hgrow HB HO
          go_wp2
          go_roundw
          case rel => exact ⟨6, by omega, by go_num, HO2, HB2⟩
          case measure => simp [intOf]
        · have hat : (be8I m)[6]? = some ((m : Int) / 256 % 256) := by rw [be8I_at m 6 (by omega)]; simp only [Nat.reduceMul, Nat.reduceSub, Nat.reducePow]; exact congrArg some (by omega)
          have HAT := Lib.hid (take_snoc hat)
          clear hat
          go_wp2_with (at_builtin; refine wpList_append_own _ rfl _ _ 23 rfl w.heap.size 5 i0 (.int .u8 0) 1 1 Tryd.underlying23 hi hz0 hz1 hz2 rfl (by decide) _ _ _ rfl (HO.out.alloc _) ⟨wr.heap.size, 0, none⟩ 1 1 [.int .u8 ((m : Int) / 256 % 256)] rfl rfl ?c1 ?c2 ?c3 ?c4 ?c5 ?_)
          case c1 => exact cell_one_new _ _ _
          case c2 => intro u hu; simp at hu; subst hu; rfl
          case c3 => unfold maxLen; omega
          case c4 => omega
          case c5 => simp; omega
          intro v' w2 hown' hgrow _
          have HB2 : Hid (Below w.heap.size w w2) := (HB.out.alloc hszB _).grown hgrow (by simp; omega) (fun j hj => (HO.out.lt j hj).1)
          have HO2 : Hid (w2.ownsRow w.heap.size 5 1 v' 7 (((be8I m).take 7).map (Value.int .u8))) := by
            show w2.ownsRow _ _ _ _ _ _
            rw [HAT.out, List.map_append]; exact hown'
          clear hown' hgrow HB HO
          go_wp2
          go_roundw
          case rel => exact ⟨7, by omega, by go_num, HO2, HB2⟩
          case measure => simp [intOf]
        · have hat : (be8I m)[7]? = some ((m : Int) % 256) := by rw [be8I_at m 7 (by omega)]; simp only [Nat.reduceMul, Nat.reduceSub, Nat.reducePow]; exact congrArg some (by omega)
          have HAT := Lib.hid (take_snoc hat)
          clear hat
          go_wp2_with (at_builtin; refine wpList_append_own _ rfl _ _ 23 rfl w.heap.size 5 i0 (.int .u8 0) 1 1 Tryd.underlying23 hi hz0 hz1 hz2 rfl (by decide) _ _ _ rfl (HO.out.alloc _) ⟨wr.heap.size, 0, none⟩ 1 1 [.int .u8 ((m : Int) % 256)] rfl rfl ?c1 ?c2 ?c3 ?c4 ?c5 ?_)
          case c1 => exact cell_one_new _ _ _
          case c2 => intro u hu; simp at hu; subst hu; rfl
          case c3 => unfold maxLen; omega
          case c4 => omega
          case c5 => simp; omega
          intro v' w2 hown' hgrow _
          have HB2 : Hid (Below w.heap.size w w2) := (HB.out.alloc hszB _).grown hgrow (by simp; omega) (fun j hj => (HO.out.lt j hj).1)
          have HO2 : Hid (w2.ownsRow w.heap.size 5 1 v' 8 (((be8I m).take 8).map (Value.int .u8))) := by
            show w2.ownsRow _ _ _ _ _ _
            rw [HAT.out, List.map_append]; exact hown'
          clear hown' hgrow HB HO
          go_wp2
          go_roundw
          case rel => exact ⟨8, by omega, by go_num, HO2, HB2⟩
          case measure => simp [intOf]
  · have hn0 : n.toNat = 0 := by omega
    rw [hn0]
    have hcv := run_convert_bytes_nil (P := Tryd.prog) w 23 5 Tryd.underlying23 Tryd.underlying5 0 0 45 Tryd.underlying45
    have hcn := Lib.hid (canon_any ByteArray.empty w (by decide))
    go_enter Tryd.func60, Tryd.ntmps60
    go_wp2
    refine wp_loop_rounds 1 ?_
    rw [rounds_succ]
    go_wp2_with fail
    refine hcn.out.mono ?_
    rintro e w' ⟨rfl, rfl⟩
    go_wp2_with fail
    go_ret
    exact ⟨rfl, Below.refl _ _⟩

theorem natB_at {n k : Nat} (h : k < (natB n).length) : valB ((natB n).take (k + 1)) = valB ((natB n).take k) * 256 + ((natB n)[k]?.getD 0).toNat := by
  rw [List.take_add_one, List.getElem?_eq_getElem h]
  show valB (_ ++ [_]) = _
  rw [valB_snoc]; rfl
theorem valB_take_le (l : List UInt8) (k : Nat) : valB (l.take k) ≤ valB l := by
  generalize hn : l.length = n
  induction n generalizing l with
  | zero => have : l = [] := List.eq_nil_of_length_eq_zero hn; subst this; simp
  | succ n ih =>
    rcases snoc_cases l with rfl | ⟨r, b, rfl⟩
    · simp at hn
    · have hr := ih r (by simpa using hn)
      rw [valB_snoc]
      by_cases hk : k ≤ r.length
      · rw [List.take_append_of_le_length hk]; omega
      · rw [List.take_of_length_le (by simp; omega), valB_snoc]; omega

set_option maxHeartbeats 1000000 in
theorem int_any (s : ByteArray) (w : World) (hs : s.size ≤ 9223372036854775807) (hv : valB s.data.toList < 72057594037927936) :
    Calls Tryd.prog 88 #[.string s] w fun e w' => e = .returned (.tuple #[.int .i64 (valB s.data.toList), .bool true]) ∧ w = w' := by
  obtain ⟨n, hn⟩ : ∃ n, n = valB s.data.toList := ⟨_, rfl⟩
  have HC := Lib.hid (canon_any s w hs)
  rw [← hn] at hv HC ⊢
  clear hn
  have hl7 : (natB n).length ≤ 7 := natB_length_le (by omega)
  have hsz := natS_size n
  obtain ⟨L, hL⟩ : ∃ L, L = (natB n).length := ⟨_, rfl⟩
  rw [← hL] at hsz hl7
  have hLE := Lib.hid hL
  clear hL
  go_enter Tryd.func88, Tryd.ntmps88
  go_wp2_with fail
  refine HC.out.mono ?_
  rintro e w' ⟨rfl, rfl⟩
  have hb8 : ¬ ((L : Int) = 8) := by omega
  have hd8 : decide ((L : Int) > 8) = false := decide_eq_false (by omega)
  have he8 : ((L : Int) == 8) = false := by simp; omega
  clear HC
  go_wp2_with fail
  go_loopw [4, 5] (fun v i wr => ∃ k : Nat, k ≤ L ∧ i = .int .i64 k ∧ v = .int .i64 (valB ((natB n).take k)) ∧ wr = w) (fun _ i _ => L - (intOf i).toNat)
  case atStart => exact ⟨0, Nat.zero_le _, rfl, rfl, rfl⟩
  case round =>
    obtain ⟨k, hk, rfl, rfl, rfl⟩ := hrel
    by_cases hlt : k < L
    · have h1 : (k : Int) < L := by omega
      have hks : k < (natS n).size := by rw [hsz]; exact hlt
      have hat : (natS n)[k] = (natB n)[k]?.getD 0 := by rw [byte_at hks, natS_list]
      have hsuc := Lib.hid (natB_at (n := n) (k := k) (by have := hLE.out; omega))
      have hle := valB_take_le (natB n) (k + 1)
      rw [valB_natB, hsuc.out] at hle
      obtain ⟨b, hb⟩ : ∃ b, b = (natB n)[k]?.getD 0 := ⟨_, rfl⟩
      obtain ⟨t, ht⟩ : ∃ t, t = valB ((natB n).take k) := ⟨_, rfl⟩
      rw [← hb] at hat hsuc hle
      rw [← ht] at hsuc hle ⊢
      clear hb ht
      have hb1 := b.toNat_lt
      have hle2 : (t : Int) * 256 + b.toNat < 72057594037927936 := by omega
      go_wp2
      go_roundw
      case rel => exact ⟨k + 1, by omega, by go_num, by rw [hsuc.out]; go_num, trivial⟩
      case measure => simp [intOf]; omega
    · obtain rfl : k = L := by omega
      have h1 : ¬ (k : Int) < k := by omega
      have ht : valB ((natB n).take k) = n := by rw [hLE.out, List.take_length, valB_natB]
      rw [ht]
      go_wp2
      go_ret2
      exact ⟨rfl, rfl⟩

end Go.Proofs.YtebigkjilklodaaDoor

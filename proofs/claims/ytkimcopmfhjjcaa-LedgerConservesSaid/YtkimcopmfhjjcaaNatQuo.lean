/- The reference's natural numbers: Quo of small numbers, and decimals. -/
import Derived.Test.YtkimcopmfhjjcaaNat
import Derived.Deep.RegionWith
import Derived.Deep.DeepCutAuto
namespace Go.Proofs.Ytkimcopmfhjjcaa
open Go.RowKit

/-- What stays true from world to world where a region calls what only makes memory. -/
def OnB (B : Nat) (w wx : World) : Prop := Below B w wx ∧ B ≤ wx.heap.size
theorem OnB.refl (w : World) : OnB w.heap.size w w := ⟨Below.refl _ _, Nat.le_refl _⟩
theorem OnB.next {B : Nat} {w wx w' : World} (h : OnB B w wx) (hb : Below wx.heap.size wx w') : OnB B w w' := ⟨h.1.trans (hb.mono h.2), Nat.le_trans h.2 hb.size⟩
theorem OnB.below {B : Nat} {w wx : World} (h : OnB B w wx) : Below B w wx := h.1
theorem OnB.drew {B : Nat} {w wx : World} (h : OnB B w wx) : OnB B w wx.drew := ⟨bl_drews h.1 (Drew.n _ 1), h.2⟩
theorem OnB.of {B : Nat} {w wx : World} (h : Below B w wx) (hB : B ≤ w.heap.size) : OnB B w wx := ⟨h, Nat.le_trans hB h.size⟩

set_option maxHeartbeats 1000000 in
theorem small7_any (s : ByteArray) (w : World) (hs : s.size ≤ 9223372036854775807) (hv : valB s.data.toList < 72057594037927936) :
    Calls Try.prog 58 #[.string s, .int .i64 7] w fun e w' => e = .returned (.tuple #[.int .i64 (valB s.data.toList), .bool true]) ∧ w = w' := by
  have HC := Lib.hid (canon_any s w hs)
  have HI := Lib.hid (int_any s w hs hv)
  have hl7 : (natS (valB s.data.toList)).size ≤ 7 := by rw [natS_size]; exact natB_length_le (by omega)
  obtain ⟨x, hx⟩ : ∃ x, x = natS (valB s.data.toList) := ⟨_, rfl⟩
  rw [← hx] at HC hl7
  clear hx
  have hd : decide ((x.size : Int) > 7) = false := decide_eq_false (by omega)
  go_enter Try.func58, Try.ntmps58
  go_wp2_with fail
  refine HC.out.mono ?_
  rintro e w' ⟨rfl, rfl⟩
  clear HC
  go_wp2_with fail
  refine HI.out.mono ?_
  rintro e w' ⟨rfl, rfl⟩
  clear HI
  go_wp2_with fail
  go_ret2
  exact ⟨rfl, rfl⟩

set_option maxHeartbeats 1000000 in
theorem quo_small (s t : ByteArray) (w : World) (hs : s.size ≤ 9223372036854775807) (ht : t.size ≤ 9223372036854775807) (hv : valB s.data.toList < 72057594037927936) (hu : valB t.data.toList < 72057594037927936) (h0 : 0 < valB t.data.toList) :
    Calls Try.prog 56 #[.string s, .string t] w fun e w' => e = .returned (.tuple #[.string (natS (valB s.data.toList / valB t.data.toList)), .string (natS (valB s.data.toList % valB t.data.toList)), .bool true]) ∧ Below w.heap.size w w' := by
  obtain ⟨x, hx⟩ : ∃ x, x = valB s.data.toList := ⟨_, rfl⟩
  obtain ⟨y, hy⟩ : ∃ y, y = valB t.data.toList := ⟨_, rfl⟩
  have HC := Lib.hid (canon_any t w ht)
  have HS := Lib.hid (small7_any s w hs hv)
  rw [← hy] at hu h0 HC ⊢
  rw [← hx] at hv HS ⊢
  have hsz := natS_size y
  have hpos : 0 < (natB y).length := by
    rcases Nat.eq_zero_or_pos (natB y).length with h | h
    · exact absurd (List.eq_nil_of_length_eq_zero h) (natB_ne h0)
    · exact h
  have hl7 : (natB y).length ≤ 7 := natB_length_le (by omega)
  have hy2 : valB (natS y).data.toList = y := by rw [natS_list, valB_natB]
  have HS2 := small7_any (natS y) w (by omega) (by omega)
  rw [hy2] at HS2
  have HS2 := Lib.hid HS2
  clear hx hy hy2
  obtain ⟨L, hL⟩ : ∃ L, L = (natB y).length := ⟨_, rfl⟩
  rw [← hL] at hsz hpos hl7
  clear hL
  have hL0 : ((L : Int) == 0) = false := by simp; omega
  have hy0 : ¬ ((y : Int) = 0) := by omega
  have hyb : ((y : Int) == 0) = false := by simp; omega
  have hy1 : 1 ≤ (y : Int) := by omega
  have hym : ¬ ((y : Int) = -1) := by omega
  have hxy : x / y ≤ x := Nat.div_le_self _ _
  have hxm : x % y < y := Nat.mod_lt _ h0
  have tq : ((x : Int) / y).toNat = x / y := by rw [← Int.natCast_ediv, Int.toNat_natCast]
  have tr : ((x : Int) % y).toNat = x % y := by rw [← Int.natCast_emod, Int.toNat_natCast]
  have q0 : 0 ≤ (x : Int) / y := by rw [← Int.natCast_ediv]; omega
  have q1 : (x : Int) / y ≤ 72057594037927936 := by rw [← Int.natCast_ediv]; omega
  have r0 : 0 ≤ (x : Int) % y := by rw [← Int.natCast_emod]; omega
  have r1 : (x : Int) % y ≤ 72057594037927936 := by rw [← Int.natCast_emod]; omega
  have wq : IntKind.i64.wrap ((x : Int) / y) = (x : Int) / y := by rw [IntKind.wrap_i64]; omega
  have tm : (x : Int).tmod y = (x : Int) % y := Int.tmod_eq_emod_of_nonneg (by omega)
  have TQ := Lib.hid tq
  have TR := Lib.hid tr
  clear tq tr hxy hxm
  go_enter Try.func56, Try.ntmps56
  go_wp2_with fail
  refine HC.out.mono ?_
  rintro e w' ⟨rfl, rfl⟩
  clear HC
  go_wp2_with fail
  refine HS.out.mono ?_
  rintro e w' ⟨rfl, rfl⟩
  clear HS
  go_wp2_with fail
  refine HS2.out.mono ?_
  rintro e w' ⟨rfl, rfl⟩
  clear HS2
  go_wp2_with fail
  have hS0 := OnB.refl w
  go_region_with (first | (go_at_call 47; refine (of_any _ _ (by omega)).mono ?_; rintro e w' ⟨rfl, hb⟩))
  all_goals
    go_wp2_with fail
    go_ret3
    exact ⟨by rw [TQ.out, TR.out]; rfl, (OnB.next (OnB.next hS0.drew (by assumption)) hb).1⟩

theorem natS_one {d : Nat} (h0 : 0 < d) (h : d < 256) : natS d = ⟨#[UInt8.ofNat d]⟩ := by
  unfold natS
  rw [natB_pos h0, show d / 256 = 0 by omega, natB_zero, show d % 256 = d by omega]; rfl
theorem natS_10 : natS 10 = ⟨#[10]⟩ := natS_one (by omega) (by omega)
theorem val_natS (n : Nat) : valB (natS n).data.toList = n := by rw [natS_list, valB_natB]
theorem natS_len (n : Nat) (h : n < 72057594037927936) : (natS n).size ≤ 7 := by rw [natS_size]; exact natB_length_le (by omega)
theorem conv_one (x : Int) (b : UInt8) (hb : x = b.toNat) (w : World) :
    (convert 34 9 (.slice (some ⟨w.heap.size, 0, none⟩) 1 1)).run Try.prog (w.alloc (.cells #[.int .u8 x] 5)) = .ok (.string ⟨#[b]⟩) (w.alloc (.cells #[.int .u8 x] 5)) := by
  subst hb
  have := run_convert_bytes_back (P := Try.prog) (w.alloc (.cells #[.int .u8 (b.toNat : Int)] 5)) 34 9 5 ⟨w.heap.size, 0, none⟩ 1 [b] Try.underlying34 Try.underlying5 Try.underlying9 (fun j hj => by
    have hj0 : j = 0 := by simpa using hj
    subst hj0
    rw [add_flat, Nat.zero_add, World.cell?_alloc_at _ _ _ _ rfl]; rfl)
  exact this

set_option maxHeartbeats 2000000 in
set_option maxRecDepth 100000 in
theorem text_any (n : Nat) (w : World) (hn : n < 72057594037927936) :
    Calls Try.prog 46 #[.string (natS n)] w fun e w' => e = .returned (.string (decS n)) ∧ Below w.heap.size w w' := by
  have HC := Lib.hid (canon_any (natS n) w (by have := natS_len n hn; omega))
  rw [val_natS] at HC
  have hsz := natS_size n
  obtain ⟨L, hL⟩ : ∃ L, L = (natB n).length := ⟨_, rfl⟩
  rw [← hL] at hsz
  have hl7 : L ≤ 7 := by rw [← hsz]; exact natS_len n hn
  by_cases h0 : n = 0
  · subst h0
    have hL0 : L = 0 := by rw [hL, natB_zero]; rfl
    subst hL0
    clear hL
    have hd : decS 0 = ⟨#[48]⟩ := rfl
    rw [hd]
    go_enter Try.func46, Try.ntmps46
    go_wp2_with fail
    refine HC.out.mono ?_
    rintro e w' ⟨rfl, rfl⟩
    go_wp2_with fail
    go_ret
    exact ⟨rfl, Below.refl _ _⟩
  · have hL1 : 0 < L := by
      rcases Nat.eq_zero_or_pos L with h | h
      · exact absurd (List.eq_nil_of_length_eq_zero (hL.symm.trans h)) (natB_ne (by omega))
      · exact h
    have hLb : ((L : Int) == 0) = false := by simp; omega
    have hd : decS n = ⟨(decP n).toArray⟩ := by unfold decS decB; rw [if_neg h0]
    rw [hd]
    have HL := Lib.hid hL
    clear hL hd
    go_enter Try.func46, Try.ntmps46
    go_wp2_with fail
    refine HC.out.mono ?_
    rintro e w' ⟨rfl, rfl⟩
    clear HC
    go_wp2_with fail
    go_loopw [0, 3] (fun a s wr => ∃ (m : Nat) (l : List UInt8), a = .string (natS m) ∧ s = .string ⟨l.toArray⟩ ∧ Hid (m ≤ n) ∧ Hid (decP n = decP m ++ l) ∧ Hid (OnB w.heap.size w wr)) (fun a _ _ => match a with | .string s => valB s.data.toList | _ => 0)
    case atStart => exact ⟨n, [], rfl, rfl, Nat.le_refl n, (List.append_nil _).symm, OnB.refl w⟩
    case round =>
      obtain ⟨m, l, rfl, rfl, HM, HD, HB⟩ := hrel
      have hsm : (natS m).size ≤ 7 := natS_len m (by have := HM.out; omega)
      by_cases hm : m = 0
      · subst hm
        have hz : (natS 0).size = 0 := by rw [natS_size, natB_zero]; rfl
        have hl : decP n = l := by rw [HD.out, decP_zero]; rfl
        have HLL := Lib.hid hl
        clear hl
        go_wp2_with fail
        go_ret
        exact ⟨by rw [HLL.out]; rfl, HB.out.1⟩
      · have hp : 0 < (natS m).size := by
          rw [natS_size]
          rcases Nat.eq_zero_or_pos (natB m).length with h | h
          · exact absurd (List.eq_nil_of_length_eq_zero h) (natB_ne (by omega))
          · exact h
        have hpz : decide (((natS m).size : Int) > 0) = true := decide_eq_true (by omega)
        have hr := Nat.mod_lt m (show 0 < 10 by omega)
        have hll : l.length ≤ n := by
          have h1 := decP_length n
          rw [HD.out, List.length_append] at h1; omega
        have hls : (⟨l.toArray⟩ : ByteArray).size = l.length := by simp [ByteArray.size]
        have hmn := HM.out
        have HQ := Lib.hid (fun w => quo_small (natS m) (natS 10) w (by omega) (by decide +kernel) (by rw [val_natS]; omega) (by rw [val_natS]; omega) (by rw [val_natS]; omega))
        simp only [val_natS] at HQ
        have HI := Lib.hid (fun w => int_any (natS (m % 10)) w (by have := natS_len (m % 10) (by omega); omega) (by rw [val_natS]; omega))
        simp only [val_natS] at HI
        have HDP : Hid (decP n = decP (m / 10) ++ (UInt8.ofNat (48 + m % 10) :: l)) := by
          show decP n = _
          rw [HD.out, decP_pos (show 0 < m by omega)]; simp
        have hdig : ((48 + ((m % 10 : Nat) : Int))) = ((UInt8.ofNat (48 + m % 10)).toNat : Int) := by rw [byte_toNat (by omega)]; omega
        obtain ⟨d, hd⟩ : ∃ d, d = m % 10 := ⟨_, rfl⟩
        rw [← hd] at hr HQ HI HDP hdig
        obtain ⟨s, hs⟩ : ∃ s : ByteArray, s = ⟨l.toArray⟩ := ⟨_, rfl⟩
        rw [← hs] at hls ⊢
        have HSS := Lib.hid hs
        clear hd hs
        have hof := Lib.hid (fun w => of_any 10 w (by decide))
        have cv1 := conv_one (48 + d) (UInt8.ofNat (48 + d)) hdig
        clear hdig
        go_wp2_with fail
        refine (hof.out _).mono ?_
        rintro e w1 ⟨rfl, hb⟩
        have HB1 := Lib.hid (HB.out.next hb)
        clear hb
        go_wp2_with fail
        refine (HQ.out _).mono ?_
        rintro e w2 ⟨rfl, hb⟩
        have HB2 := Lib.hid (HB1.out.next hb)
        clear hb HB1
        go_wp2_with fail
        refine (HI.out _).mono ?_
        rintro e w3 ⟨rfl, rfl⟩
        go_wp2_with fail
        go_roundw
        case rel => exact ⟨m / 10, (48 + UInt8.ofNat d) :: l, rfl, by rw [HSS.out]; exact congrArg Value.string (ByteArray.mk_append_mk [48 + UInt8.ofNat d] l), (show m / 10 ≤ n by omega), HDP.out.trans (by rw [UInt8.ofNat_add]; rfl), (HB2.out.next ((Below.refl _ _).alloc (Nat.le_refl _) _))⟩
        case measure =>
          show valB (natS (m / 10)).data.toList < valB (natS m).data.toList
          rw [val_natS, val_natS]; omega

/-- A number in decimal, with its sign. -/
def decZ (n : Int) : ByteArray := if 0 ≤ n then decS n.toNat else ⟨#[45]⟩ ++ decS (-n).toNat

set_option maxHeartbeats 1000000 in
theorem decimal_pos (n : Nat) (w : World) (hn : n < 72057594037927936) :
    Calls Try.prog 38 #[.int .i64 n] w fun e w' => e = .returned (.string (decS n)) ∧ Below w.heap.size w w' := by
  have HO := Lib.hid (of_any n w (by omega))
  have HT := Lib.hid (fun w => text_any n w hn)
  rw [Int.toNat_natCast] at HO
  go_enter Try.func38, Try.ntmps38
  go_wp2_with fail
  refine HO.out.mono ?_
  rintro e w1 ⟨rfl, hb⟩
  have HB := Lib.hid ((OnB.refl w).next hb)
  clear hb HO
  go_wp2_with fail
  refine (HT.out _).mono ?_
  rintro e w2 ⟨rfl, hb⟩
  have HB := Lib.hid (HB.out.next hb)
  clear hb
  go_wp2_with fail
  go_ret
  exact ⟨rfl, HB.out.1⟩

end Go.Proofs.Ytkimcopmfhjjcaa

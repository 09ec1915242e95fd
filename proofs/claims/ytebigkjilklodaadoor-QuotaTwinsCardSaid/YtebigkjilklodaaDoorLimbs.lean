/- The program's natural numbers: digits of a string, and the string of digits. -/
import Derived.IntWalk
import Derived.StillTailTactics
import Derived.Test.YtebigkjilklodaaDoorOwns
import Derived.Test.YtebigkjilklodaaDoorNat
import Derived.Test.YtebigkjilklodaaDoorShelf
import Derived.Test.YtebigkjilklodaaDoorLaws
set_option linter.unusedVariables false
set_option linter.unusedSimpArgs false
namespace Go.Proofs.YtebigkjilklodaaDoor
open Go.RowKit

theorem Tryd.infoU32 : (Tryd.prog.info? 101).map (fun i => (i.zero, i.size, i.bytes)) = some (some (.int .u32 0), 1, 4) := by kernel_rfl
theorem Tryd.infoByte : (Tryd.prog.info? 5).map (fun i => (i.zero, i.size, i.bytes)) = some (some (.int .u8 0), 1, 1) := by kernel_rfl

theorem or_byte {y b k : Nat} (hy : y < 4294967296) (hb : b < 256) : bits .or .u32 (y : Int) ((b : Int) * 2 ^ (8 * (k % 4)) % 4294967296) = ((y ||| b * 256 ^ (k % 4) : Nat) : Int) := by
  have e : (2 : Int) ^ (8 * (k % 4)) = ((256 ^ (k % 4) : Nat) : Int) := by rw [Int.natCast_pow, Int.pow_mul]; rfl
  have h : k % 4 = 0 ∨ k % 4 = 1 ∨ k % 4 = 2 ∨ k % 4 = 3 := by omega
  have hlt : b * 256 ^ (k % 4) < 4294967296 := by rcases h with h | h | h | h <;> rw [h] <;> omega
  have e2 : (b : Int) * 2 ^ (8 * (k % 4)) % 4294967296 = ((b * 256 ^ (k % 4) : Nat) : Int) := by
    rw [e, ← Int.natCast_mul]
    omega
  rw [e2, u32_or_nat _ _ hy hlt]

set_option maxHeartbeats 1000000 in
set_option maxRecDepth 100000 in
theorem pof_any (s : ByteArray) (w : World) (hs : s.size ≤ 1000000000) :
    Calls Tryd.prog 45 #[.string s] w fun e w' => ∃ v, e = .returned v ∧ NatAt w'.heap.size w' v (valB s.data.toList) ∧ Below w.heap.size w w' := by
  obtain ⟨i0, hi, hz0, hz1, hz2⟩ := info_parts Tryd.infoU32
  obtain ⟨m, hm⟩ : ∃ m, m = (s.size + 3) / 4 := ⟨_, rfl⟩
  have hm4 : s.size ≤ 4 * m := by omega
  have hm1 : 4 * m ≤ s.size + 3 := by omega
  clear hm
  go_enter Tryd.func45, Tryd.ntmps45
  go_wp2_with (at_make; refine wpList_make_full _ rfl _ _ 104 rfl w.heap.size 101 i0 (.int .u32 0) 1 Tryd.underlying104 hi hz0 hz1 _ _ _ _ m rfl rfl ?c1 ?c2 ?b2 ?b3 ?b4 ?_)
  case c1 => omega
  case c2 => omega
  case b2 => rw [hz2]; omega
  case b3 => unfold maxLen; omega
  case b4 => omega
  intro w1 hown hgrow
  have HO := Lib.hid (OwnL.made hown)
  have HB : Hid (Below w.heap.size w w1) := (Below.refl _ _).grown hgrow (Nat.le_refl _) (fun j hj => by cases hj)
  clear hown hgrow
  go_wp2
  go_loopw [13] (fun i wr => ∃ k : Nat, k ≤ s.size ∧ i = .int .i64 k ∧ Hid (OwnL 101 wr w.heap.size w.heap.size m (u32s (digs m (valB (s.data.toList.drop (s.size - k)))))) ∧ Hid (Below w.heap.size w wr)) (fun i _ => s.size - (intOf i).toNat)
  case atStart =>
    refine ⟨0, Nat.zero_le _, rfl, ?_, HB⟩
    have h := HO.out
    rw [Nat.sub_zero, ← list_len, List.drop_length, valB_nil, digs_zero, u32s_zeros]
    exact h
  case round =>
    clear HO HB
    obtain ⟨k, hk, rfl, HO, HB⟩ := hrel
    by_cases hlt : k < s.size
    · have h1 : (k : Int) < s.size := by omega
      obtain ⟨x, hx⟩ : ∃ x, x = valB (s.data.toList.drop (s.size - k)) := ⟨_, rfl⟩
      have hcell := HO.out.cell (u32s_get _ (k / 4) (by rw [digs_length]; omega))
      have hfree := HO.out.free (k / 4)
      rw [← hx, digs_at (by omega)] at hcell
      obtain ⟨y, hy⟩ : ∃ y, y = x / 4294967296 ^ (k / 4) % 4294967296 := ⟨_, rfl⟩
      rw [← hy] at hcell
      have hyl : y < 4294967296 := by rw [hy]; exact Nat.mod_lt _ (by omega)
      have HX := Lib.hid hx
      have HY := Lib.hid hy
      clear hx hy
      have e1 : IntKind.i64.wrap ((k : Int) / 4) = (k : Int) / 4 := IntWalk.i64_in _ (by omega)
      have e2 : ((k : Int) / 4).toNat = k / 4 := by omega
      have e3 : (0 : Int) ≤ (k : Int) / 4 := by omega
      have e4 : (k : Int) / 4 < (m : Int) := by omega
      have e5 : (0 : Int) ≤ (s.size : Int) - 1 - k := by omega
      have e6 : (s.size : Int) - 1 - k < s.size := by omega
      have e7 : ((s.size : Int) - 1 - k).toNat = s.size - 1 - k := by omega
      have e8 : 0 ≤ (k : Int) % 4 := by omega
      have e9 : (k : Int) % 4 < 4 := by omega
      have e12 : (k : Int) ≤ (s.size : Int) - 1 := by omega
      have e10 : IntKind.i64.wrap ((s.size : Int) - 1) = (s.size : Int) - 1 := IntWalk.i64_in _ (by omega)
      have e11 : IntKind.i64.wrap ((s.size : Int) - 1 - k) = (s.size : Int) - 1 - k := IntWalk.i64_in _ (by omega)
      have hks : s.size - 1 - k < s.size := by omega
      have hat := byte_at hks
      have hbl := (s[s.size - 1 - k]).toNat_lt
      have HN := Lib.hid (valB_drop_next s.data.toList k (by rw [list_len]; exact hlt))
      rw [list_len, ← HX.out, ← hat] at HN
      clear hat
      go_wp2
      go_region
      obtain ⟨b, hb⟩ : ∃ b, b = (s[s.size - 1 - k]).toNat := ⟨_, rfl⟩
      rw [← hb] at hbl HN ⊢
      clear hb e1 e2 e3 e4 e5 e6 e7 e8 e9 e10 e11 e12
      rw [or_byte hyl hbl]
      have HO2 := Lib.hid (HO.out.set (k / 4) (.int .u32 ((y ||| b * 256 ^ (k % 4) : Nat) : Int))).drew
      have HB2 : Hid (Below w.heap.size w _) := (HB.out.setCell (p := ⟨w.heap.size, k / 4, none⟩) (Nat.le_refl _) (.int .u32 ((y ||| b * 256 ^ (k % 4) : Nat) : Int))).drew
      go_wp2
      go_roundw
      case rel =>
        refine ⟨k + 1, by omega, by go_num, ?_, HB2⟩
        have h2 := HO2.out
        have hd := digs_or (m := m) (k := k) (x := x) (b := b) (by rw [HX.out]; have := valB_drop_lt s.data.toList k (by rw [list_len]; exact hk); rwa [list_len] at this) hbl
        rw [← HY.out] at hd
        rw [u32s_set, ← HX.out, hd, ← HN.out] at h2
        exact h2
      case measure => simp [intOf]; omega
    · obtain rfl : k = s.size := by omega
      have h1 : ¬ (s.size : Int) < s.size := by omega
      have hlt := valB_lt s.data.toList
      rw [list_len] at hlt
      have hfit : valB s.data.toList < 4294967296 ^ m := by
        rw [← pow256]
        exact Nat.lt_of_lt_of_le hlt (Nat.pow_le_pow_right (by omega) hm4)
      have HT := trim_any wr.heap.size (some ⟨w.heap.size, 0, none⟩) m (digs m (valB s.data.toList)) wr
      rw [Nat.sub_self, List.drop_zero] at HO
      have hrow := LimbsAt.of_own HO.out
      have hres := hrow.trimmed (digs_dig _ _)
      rw [digs_length] at HT hrow
      rw [limbs_digs hfit] at HT hres
      rw [digs_val, Nat.mod_eq_of_lt hfit] at hres
      have HT := Lib.hid (HT hrow (digs_dig _ _) (by omega))
      have HR := Lib.hid hres
      clear hrow hres hlt hfit
      go_wp2_with fail
      refine HT.out.mono ?_
      rintro e w' ⟨rfl, rfl⟩
      go_wp2_with fail
      go_ret
      exact ⟨_, rfl, HR.out, HB.out⟩

end Go.Proofs.YtebigkjilklodaaDoor

/- The program's natural numbers: the string of digits. -/
namespace Go.Proofs.YtebigkjilklodaaDoor
open Go.RowKit

theorem limbs_at : ∀ (j n : Nat), (limbs n)[j]?.getD 0 = n / 4294967296 ^ j % 4294967296
  | 0, n => by
    by_cases h : n = 0
    · subst h; rw [limbs_zero]; simp
    · rw [limbs_pos (by omega)]; simp
  | j + 1, n => by
    by_cases h : n = 0
    · subst h; rw [limbs_zero]; simp
    · rw [limbs_pos (by omega), List.getElem?_cons_succ, limbs_at j, Nat.pow_succ, Nat.mul_comm, Nat.div_div_eq_div_mul]
def u8s (l : List UInt8) : List Value := l.map fun b : UInt8 => Value.int .u8 (b.toNat : Int)
theorem u8s_length (l : List UInt8) : (u8s l).length = l.length := by simp [u8s]
theorem u8s_get (l : List UInt8) (j : Nat) (h : j < l.length) : (u8s l)[j]? = some (.int .u8 ((l[j]'h).toNat : Int)) := by
  unfold u8s; rw [List.getElem?_map, List.getElem?_eq_getElem h]; rfl
theorem u8s_set (l : List UInt8) (j d : Nat) (hd : d < 256) : (u8s l).set j (.int .u8 (d : Int)) = u8s (l.set j (UInt8.ofNat d)) := by
  unfold u8s; rw [List.map_set, byte_toNat hd]
theorem u8s_zeros (k : Nat) : u8s (List.replicate k 0) = List.replicate k (.int .u8 0) := by simp [u8s]
theorem be_set {m k d : Nat} {l : List UInt8} (hk : k < m) : (List.replicate (m - k) (0 : UInt8) ++ l).set (m - 1 - k) (UInt8.ofNat d) = List.replicate (m - (k + 1)) 0 ++ (UInt8.ofNat d :: l) := by
  obtain ⟨r, hr⟩ : ∃ r, m - k = r + 1 := ⟨m - k - 1, by omega⟩
  rw [hr, show m - 1 - k = r by omega, show m - (k + 1) = r by omega, List.replicate_succ', List.append_assoc, List.set_append_right _ _ (by simp)]
  simp
theorem byte_shift {y k : Nat} : (y : Int) / 2 ^ (8 * (k % 4)) % 256 = ((y / 256 ^ (k % 4) % 256 : Nat) : Int) := by
  rw [Int.natCast_emod, Int.natCast_ediv, Int.natCast_pow, Int.pow_mul]; rfl

set_option maxHeartbeats 1000000 in
set_option maxRecDepth 100000 in
theorem pnum_any (l : List Nat) (v : Value) (w : World) (h : LimbsAt w.heap.size w v l) (hd : Dig l) (hn : l.length ≤ 250000000) :
    Calls Tryd.prog 43 #[v] w fun e w' => e = .returned (.string (natS (valL l))) ∧ Below w.heap.size w w' := by
  obtain ⟨i0, hi, hz0, hz1, hz2⟩ := info_parts Tryd.infoByte
  obtain ⟨ao, cap, rfl, hl, _⟩ := h.open
  have hr := (digits_split l hd).1
  have hN := h.trimmed hd
  have HT := Lib.hid (trim_any w.heap.size ao cap l w h hd (by omega))
  clear h hd
  obtain ⟨X, hX⟩ : ∃ X, X = valL l := ⟨_, rfl⟩
  rw [← hX] at hr hN HT ⊢
  have hM : X < 4294967296 ^ (limbs X).length := by have := valL_lt (limbs_dig X); rwa [valL_limbs] at this
  obtain ⟨_, _, e, hlc, HC⟩ := hN.open
  simp only [Value.slice.injEq, true_and] at e
  obtain ⟨rfl, rfl⟩ := e
  obtain ⟨K, hK⟩ : ∃ K, K = (limbs X).length := ⟨_, rfl⟩
  rw [← hK] at hr HT hlc HC hM
  have HM := Lib.hid hM
  have HC := Lib.hid HC
  clear hX hN hK hM
  go_enter Tryd.func43, Tryd.ntmps43
  go_wp2_with fail
  refine HT.out.mono ?_
  rintro e w' ⟨rfl, rfl⟩
  clear HT
  go_wp2_with (at_make; refine wpList_make_full _ rfl _ _ 23 rfl w.heap.size 5 i0 (.int .u8 0) 1 Tryd.underlying23 hi hz0 hz1 _ _ _ _ (4 * K) rfl rfl ?c1 ?c2 ?b2 ?b3 ?b4 ?_)
  case c1 => omega
  case c2 => omega
  case b2 => rw [hz2]; omega
  case b3 => unfold maxLen; omega
  case b4 => omega
  intro w1 hown hgrow
  have HO := Lib.hid (OwnL.made hown)
  have HB : Hid (Below w.heap.size w w1) := (Below.refl _ _).grown hgrow (Nat.le_refl _) (fun j hj => by cases hj)
  clear hown hgrow
  go_wp2
  go_loopw [13] (fun i wr => ∃ k : Nat, k ≤ 4 * K ∧ i = .int .i64 k ∧ Hid (OwnL 5 wr w.heap.size w.heap.size (4 * K) (u8s (List.replicate (4 * K - k) 0 ++ beB k X))) ∧ Hid (Below w.heap.size w wr)) (fun i _ => 4 * K - (intOf i).toNat)
  case atStart =>
    refine ⟨0, Nat.zero_le _, rfl, ?_, HB⟩
    have h := HO.out
    rw [Nat.sub_zero, beB, List.append_nil, u8s_zeros]
    exact h
  case round =>
    clear HO HB
    obtain ⟨k, hk, rfl, HO, HB⟩ := hrel
    by_cases hlt : k < 4 * K
    · have h1 : (k : Int) < 4 * (K : Int) := by omega
      obtain ⟨b, off, rfl, hbl, hc0⟩ := HC.out (k / 4) (by omega)
      have hcell := (HB.out.cell (p := ⟨b, off + k / 4, none⟩) hbl).trans hc0
      rw [limbs_at] at hcell
      have hold := HO.out.cell (j := 4 * K - 1 - k) (u8s_get _ (4 * K - 1 - k) (by simp [beB_length]; omega))
      have hfree := HO.out.free (4 * K - 1 - k)
      have HY := Lib.hid (byte_of_digit X k)
      obtain ⟨y, hy⟩ : ∃ y, y = X / 4294967296 ^ (k / 4) % 4294967296 := ⟨_, rfl⟩
      rw [← hy] at hcell HY
      have hyl : y < 4294967296 := by rw [hy]; exact Nat.mod_lt _ (by omega)
      obtain ⟨z, hz⟩ : ∃ z : Int, z = ((List.replicate (4 * K - k) (0 : UInt8) ++ beB k X)[4 * K - 1 - k]'(by simp [beB_length]; omega)).toNat := ⟨_, rfl⟩
      rw [← hz] at hold
      clear hy hz hc0
      have e1 : IntKind.i64.wrap ((k : Int) / 4) = (k : Int) / 4 := IntWalk.i64_in _ (by omega)
      have e2 : ((k : Int) / 4).toNat = k / 4 := by omega
      have e3 : (0 : Int) ≤ (k : Int) / 4 := by omega
      have e4 : (k : Int) / 4 < (K : Int) := by omega
      have e5 : (0 : Int) ≤ 4 * (K : Int) - 1 - k := by omega
      have e6 : 4 * (K : Int) - 1 - k < 4 * (K : Int) := by omega
      have e7 : (4 * (K : Int) - 1 - k).toNat = 4 * K - 1 - k := by omega
      have e8 : 0 ≤ (k : Int) % 4 := by omega
      have e9 : (k : Int) % 4 < 4 := by omega
      have e12 : (k : Int) ≤ 4 * (K : Int) - 1 := by omega
      go_wp2
      have HO2 := HO.out.set (4 * K - 1 - k) (.int .u8 ((y / 256 ^ (k % 4) % 256 : Nat) : Int))
      rw [u8s_set _ _ _ (Nat.mod_lt _ (by omega)), be_set hlt, HY.out] at HO2
      have HB2 : Hid (Below w.heap.size w _) := HB.out.setCell (p := ⟨w.heap.size, 4 * K - 1 - k, none⟩) (Nat.le_refl _) (.int .u8 ((y / 256 ^ (k % 4) % 256 : Nat) : Int))
      clear e1 e2 e3 e4 e5 e6 e7 e8 e9 e12
      rw [byte_shift]
      go_roundw
      case rel =>
        refine ⟨k + 1, by omega, by go_num, ?_, HB2⟩
        rw [HY.out]
        exact HO2
      case measure => simp [intOf]; omega
    · obtain rfl : k = 4 * K := by omega
      have h1 : ¬ 4 * (K : Int) < 4 * (K : Int) := by omega
      have hM := HM.out
      rw [← pow256] at hM
      have hd := dropZ_beB hM
      rw [Nat.sub_self, List.replicate_zero, List.nil_append] at HO
      have hcv : (convert 23 9 (.slice (some ⟨w.heap.size, 0, none⟩) (4 * K) (4 * K))).run Tryd.prog wr = .ok (.string ⟨(beB (4 * K) X).toArray⟩) wr := by
        have := run_convert_bytes_back (P := Tryd.prog) wr 23 9 5 ⟨w.heap.size, 0, none⟩ (4 * K) (beB (4 * K) X) Tryd.underlying23 Tryd.underlying5 Tryd.underlying9 (fun j hj => by
          rw [add_flat, Nat.zero_add]; exact HO.out.cell (u8s_get _ j hj))
        rw [beB_length] at this
        exact this
      have HS := Lib.hid (Tryd.strings_TrimLeft_one ⟨(beB (4 * K) X).toArray⟩ 0 (by decide) wr)
      have HD : Hid ((⟨(Lib.trimLeftB (⟨(beB (4 * K) X).toArray⟩ : ByteArray).data.toList 0).toArray⟩ : ByteArray) = natS X) := by
        show _ = _
        have e : Lib.trimLeftB (⟨(beB (4 * K) X).toArray⟩ : ByteArray).data.toList 0 = natB X := hd
        rw [e]; rfl
      clear hM hd
      go_wp2_with fail
      refine HS.out.mono ?_
      rintro e w' ⟨rfl, rfl⟩
      go_wp2_with fail
      go_ret
      exact ⟨congrArg (fun s => Ending.returned (.string s)) HD.out, HB.out⟩

end Go.Proofs.YtebigkjilklodaaDoor

/- The program's natural numbers: comparison, sum, difference of digits. -/
namespace Go.Proofs.YtebigkjilklodaaDoor
open Go.RowKit

/-- Which of two numbers is less. -/
def cmpN (a b : Nat) : Int := if a < b then -1 else if b < a then 1 else 0
theorem cmpN_lt {a b : Nat} (h : a < b) : cmpN a b = -1 := if_pos h
theorem cmpN_gt {a b : Nat} (h : b < a) : cmpN a b = 1 := by unfold cmpN; rw [if_neg (by omega), if_pos h]
theorem cmpN_eq (a : Nat) : cmpN a a = 0 := by unfold cmpN; rw [if_neg (by omega), if_neg (by omega)]
theorem limbs_mono {a b : Nat} (h : a ≤ b) : (limbs a).length ≤ (limbs b).length := by
  have := valL_lt (limbs_dig b)
  rw [valL_limbs] at this
  exact limbs_len_le (by omega)
theorem drop_lt {a b j : Nat} (hl : (limbs a).length = (limbs b).length) (hj : j < (limbs a).length) (h : (limbs a).drop (j + 1) = (limbs b).drop (j + 1)) (hx : (limbs a)[j]?.getD 0 < (limbs b)[j]?.getD 0) : a < b := by
  have e1 := valL_take_drop (limbs a) j (by omega)
  have e2 := valL_take_drop (limbs b) j (by omega)
  have t1 := valL_lt ((limbs_dig a).take j)
  rw [List.length_take, Nat.min_eq_left (by omega)] at t1
  rw [List.drop_eq_getElem_cons (by omega), valL] at e1
  rw [List.drop_eq_getElem_cons (by omega), valL, ← h] at e2
  rw [List.getElem?_eq_getElem (by omega), List.getElem?_eq_getElem (by omega)] at hx
  simp only [Option.getD_some] at hx
  rw [valL_limbs] at e1 e2
  generalize valL ((limbs a).drop (j + 1)) = d at e1 e2
  generalize 4294967296 ^ j = P at *
  have k1 : P * ((limbs a)[j] + 4294967296 * d + 1) ≤ P * ((limbs b)[j] + 4294967296 * d) := Nat.mul_le_mul_left _ (by omega)
  rw [Nat.mul_add, Nat.mul_one] at k1
  omega

set_option maxHeartbeats 1000000 in
theorem pcmpl_any (B1 B2 : Nat) (v1 v2 : Value) (a b : Nat) (w : World) (h1 : NatAt B1 w v1 a) (h2 : NatAt B2 w v2 b) (hn : (limbs a).length ≤ 1000000000) :
    Calls Tryd.prog 46 #[v1, v2] w fun e w' => e = .returned (.int .i64 (cmpN a b)) ∧ Drew w w' := by
  obtain ⟨ao1, cap1, rfl, _, hc1⟩ := h1.open
  obtain ⟨ao2, cap2, rfl, _, hc2⟩ := h2.open
  have HC1 := Lib.hid hc1
  have HC2 := Lib.hid hc2
  clear hc1 hc2 h1 h2
  by_cases hlen : (limbs a).length = (limbs b).length
  · have HX := Lib.hid (fun j (hj : j < (limbs a).length) (h : (limbs a).drop (j + 1) = (limbs b).drop (j + 1)) (hx : (limbs a)[j]?.getD 0 < (limbs b)[j]?.getD 0) => drop_lt hlen hj h hx)
    have HY := Lib.hid (fun j (hj : j < (limbs b).length) (h : (limbs b).drop (j + 1) = (limbs a).drop (j + 1)) (hx : (limbs b)[j]?.getD 0 < (limbs a)[j]?.getD 0) => drop_lt hlen.symm hj h hx)
    rw [← hlen] at HC2 HY ⊢
    obtain ⟨L, hL⟩ : ∃ L, L = (limbs a).length := ⟨_, rfl⟩
    rw [← hL] at HC1 HC2 HX HY hn ⊢
    have HL := Lib.hid hL
    have HLE := Lib.hid hlen
    clear hL hlen
    go_enter Tryd.func46, Tryd.ntmps46
    go_wp2
    go_loopw [5] (fun i wr => ∃ (j : Nat) (z : Int), j ≤ L ∧ i = .int .i64 z ∧ Hid (z = (j : Int) - 1) ∧ -1 ≤ z ∧ z < L ∧ Hid ((limbs a).drop j = (limbs b).drop j) ∧ Drew w wr) (fun i _ => (intOf i + 1).toNat)
    case atStart => exact ⟨L, (L : Int) - 1, Nat.le_refl _, rfl, rfl, by omega, by omega, (by show _ = _; rw [List.drop_eq_nil_of_le (by have := HL.out; omega), List.drop_eq_nil_of_le (by have := HL.out; have := HLE.out; omega)]), Drew.refl _⟩
    case round =>
      obtain ⟨j, z, hj, rfl, HZ, hz1, hz2, HD, n, rfl⟩ := hrel
      by_cases hz : 0 ≤ z
      · obtain ⟨r, rfl⟩ := Int.eq_ofNat_of_zero_le hz
        obtain rfl : j = r + 1 := by have := HZ.out; omega
        obtain ⟨b1, o1, rfl, _, g1⟩ := HC1.out r (by omega)
        obtain ⟨b2, o2, rfl, _, g2⟩ := HC2.out r (by omega)
        have HX1 := Lib.hid (HX.out r (by omega) HD.out)
        have HY1 := Lib.hid (HY.out r (by omega) HD.out.symm)
        have HE : Hid ((limbs a)[r]?.getD 0 = (limbs b)[r]?.getD 0 → (limbs a).drop r = (limbs b).drop r) := by
          intro h
          have l1 : r < (limbs a).length := by have := HL.out; omega
          have l2 : r < (limbs b).length := by have := HLE.out; omega
          rw [List.drop_eq_getElem_cons l1, List.drop_eq_getElem_cons l2, HD.out]
          rw [List.getElem?_eq_getElem l1, List.getElem?_eq_getElem l2] at h
          simp only [Option.getD_some] at h
          rw [h]
        obtain ⟨x, hx⟩ : ∃ x, x = (limbs a)[r]?.getD 0 := ⟨_, rfl⟩
        obtain ⟨y, hy⟩ : ∃ y, y = (limbs b)[r]?.getD 0 := ⟨_, rfl⟩
        rw [← hx] at g1
        rw [← hy] at g2
        rw [← hx, ← hy] at HX1 HY1 HE
        clear hx hy
        have hr1 : (r : Int) < L := by omega
        by_cases hlt : x < y
        · have hlt2 : (x : Int) < y := by omega
          have HR := Lib.hid (cmpN_lt (HX1.out hlt))
          go_wp2
          go_quiet (fail)
          go_wp2
          go_ret
          exact ⟨ret_int HR.out.symm, (Drew.n _ _).drewN _⟩
        · have hlt2 : ¬ (x : Int) < y := by omega
          by_cases hgt : y < x
          · have hgt2 : (x : Int) > y := by omega
            have HR := Lib.hid (cmpN_gt (HY1.out hgt))
            go_wp2
            go_quiet (fail)
            go_wp2
            go_quiet (fail)
            go_wp2
            go_ret
            exact ⟨ret_int HR.out.symm, ((Drew.n _ _).drewN _).drewN _⟩
          · have hgt2 : ¬ (x : Int) > y := by omega
            have HE2 := Lib.hid (HE.out (by omega))
            go_wp2
            go_quiet (fail)
            go_wp2
            go_quiet (fail)
            go_wp2
            go_roundw
            case rel => exact ⟨r, (r : Int) - 1, by omega, rfl, rfl, by omega, by omega, HE2, Drew.n _ _⟩
            case measure => simp [intOf]
      · obtain rfl : z = -1 := by omega
        obtain rfl : j = 0 := by have := HZ.out; omega
        have hab : a = b := limbs_inj (by have := HD.out; simpa using this)
        subst hab
        clear HX HY HD HLE
        go_wp2
        go_ret
        exact ⟨ret_int (cmpN_eq _).symm, Drew.n _ _⟩
  · have hb : (((limbs a).length : Int) != (limbs b).length) = true := by simp; omega
    by_cases hlt : (limbs a).length < (limbs b).length
    · have hlt2 : ((limbs a).length : Int) < (limbs b).length := by omega
      have hres := cmpN_lt (a := a) (b := b) (by rcases Nat.lt_or_ge a b with h | h; · exact h
                                                 · have := limbs_mono h; omega)
      rw [hres]
      clear hres
      go_enter Tryd.func46, Tryd.ntmps46
      go_wp2
      go_ret
      exact ⟨rfl, Drew.refl _⟩
    · have hlt2 : ¬ ((limbs a).length : Int) < (limbs b).length := by omega
      have hres := cmpN_gt (a := a) (b := b) (by rcases Nat.lt_or_ge b a with h | h; · exact h
                                                 · have := limbs_mono h; omega)
      rw [hres]
      clear hres
      go_enter Tryd.func46, Tryd.ntmps46
      go_wp2
      go_ret
      exact ⟨rfl, Drew.refl _⟩

theorem u64_mod (x : Nat) : ((x : Int) % 4294967296) = ((x % 4294967296 : Nat) : Int) := (Int.natCast_emod _ _).symm
theorem u64_div (x : Nat) : ((x : Int) / 4294967296) = ((x / 4294967296 : Nat) : Int) := (Int.natCast_ediv _ _).symm

set_option maxHeartbeats 1000000 in
set_option maxRecDepth 100000 in
theorem psum_any (v1 v2 : Value) (l1 l2 : List Nat) (w : World) (h1 : LimbsAt w.heap.size w v1 l1) (h2 : LimbsAt w.heap.size w v2 l2) (d1 : Dig l1) (d2 : Dig l2) (n1 : l1.length ≤ 250000000) (n2 : l2.length ≤ 250000000) :
    Calls Tryd.prog 44 #[v1, v2] w fun e w' => ∃ v, e = .returned v ∧ NatAt w'.heap.size w' v (valL l1 + valL l2) ∧ Below w.heap.size w w' := by
  obtain ⟨i0, hi, hz0, hz1, hz2⟩ := info_parts Tryd.infoU32
  obtain ⟨ao1, cap1, rfl, _, _⟩ := h1.open
  obtain ⟨ao2, cap2, rfl, _, _⟩ := h2.open
  have H1 := Lib.hid h1
  have H2 := Lib.hid h2
  have D1 := Lib.hid d1
  have D2 := Lib.hid d2
  clear h1 h2 d1 d2
  go_enter Tryd.func44, Tryd.ntmps44
  go_upto_if 13 with fail
  go_cut [0, 1] (fun p q wx => ∃ (m1 m2 : List Nat) (ap aq : Option Addr) (cp cq : Nat), p = .slice ap m1.length cp ∧ q = .slice aq m2.length cq ∧ wx = w ∧ Hid (LimbsAt w.heap.size w (.slice ap m1.length cp) m1) ∧ Hid (LimbsAt w.heap.size w (.slice aq m2.length cq) m2) ∧ Hid (Dig m1) ∧ Hid (Dig m2) ∧ m1.length ≤ 250000000 ∧ m2.length ≤ m1.length ∧ Hid (valL m1 + valL m2 = valL l1 + valL l2))
  case first =>
    by_cases hlt : l1.length < l2.length
    · have hlt2 : (l1.length : Int) < l2.length := by omega
      go_wp2_with fail
      go_meet
      exact ⟨l2, l1, ao2, ao1, cap2, cap1, rfl, rfl, rfl, H2, H1, D2, D1, n2, by omega, Nat.add_comm _ _⟩
    · have hlt2 : ¬ (l1.length : Int) < l2.length := by omega
      go_wp2_with fail
      go_meet
      exact ⟨l1, l2, ao1, ao2, cap1, cap2, rfl, rfl, rfl, H1, H2, D1, D2, n1, by omega, rfl⟩
  case rest =>
    clear H1 H2 D1 D2
    obtain ⟨m1, m2, ap, aq, cp, cq, rfl, rfl, rfl, H1, H2, D1, D2, k1, k2, HS⟩ := hcut
    obtain ⟨L1, e1⟩ : ∃ L, L = m1.length := ⟨_, rfl⟩
    obtain ⟨L2, e2⟩ : ∃ L, L = m2.length := ⟨_, rfl⟩
    obtain ⟨_, _, e, _, hc1⟩ := H1.out.open
    simp only [Value.slice.injEq, true_and] at e
    obtain ⟨rfl, rfl⟩ := e
    obtain ⟨_, _, e, _, hc2⟩ := H2.out.open
    simp only [Value.slice.injEq, true_and] at e
    obtain ⟨rfl, rfl⟩ := e
    have HC1 := Lib.hid hc1
    have HC2 := Lib.hid hc2
    rw [← e1] at H1 HC1 k1 k2 ⊢
    rw [← e2] at H2 HC2 k2 ⊢
    have E1 := Lib.hid e1
    have E2 := Lib.hid e2
    clear e1 e2 hc1 hc2 n1 n2
    go_wp2_with (at_make; refine wpList_make_full _ rfl _ _ 104 rfl wc.heap.size 101 i0 (.int .u32 0) 1 Tryd.underlying104 hi hz0 hz1 _ _ _ _ (L1 + 1) rfl rfl ?c1 ?c2 ?b2 ?b3 ?b4 ?_)
    case c1 => omega
    case c2 => omega
    case b2 => rw [hz2]; omega
    case b3 => unfold maxLen; omega
    case b4 => omega
    intro w1 hown hgrow
    have HO := Lib.hid (OwnL.made hown)
    have HB : Hid (Below wc.heap.size wc w1) := (Below.refl _ _).grown hgrow (Nat.le_refl _) (fun j hj => by cases hj)
    clear hown hgrow
    go_wp2
    go_loopw [22, 6] (fun i c wr => ∃ (k : Nat) (y : Nat) (o : List Nat), k ≤ L1 ∧ i = .int .i64 k ∧ c = .int .u64 y ∧ y ≤ 1 ∧ Hid (o.length = k) ∧ Hid (Dig o) ∧ Hid (valL o + y * 4294967296 ^ k = valL (m1.take k) + valL (m2.take k)) ∧ Hid (OwnL 101 wr wc.heap.size wc.heap.size (L1 + 1) (u32s (o ++ List.replicate (L1 + 1 - k) 0))) ∧ Hid (Below wc.heap.size wc wr)) (fun i _ _ => L1 - (intOf i).toNat)
    case atStart =>
      refine ⟨0, 0, [], Nat.zero_le _, rfl, rfl, Nat.zero_le _, rfl, Dig.nil, rfl, ?_, HB⟩
      rw [List.nil_append, u32s_zeros]
      exact HO
    case round =>
      clear HO HB
      obtain ⟨k, y, o, hk, rfl, rfl, hy1, OL, OD, OV, HO, HB⟩ := hrel
      by_cases hlt : k < L1
      · have hlz : (k : Int) < L1 := by omega
        obtain ⟨b1, o1, rfl, hb1, g1⟩ := HC1.out k hlt
        have hcell1 := (HB.out.cell (p := ⟨b1, o1 + k, none⟩) hb1).trans g1
        have hx1 := D1.out.at k
        have hx2 := D2.out.at k
        have hold := HO.out.cell (j := k) (by rw [u32s_get _ k (by simp; have := OL.out; omega), pad_at OL.out (by omega)])
        have hfree := HO.out.free k
        have HSTEP := Lib.hid (fun s hs => step_sum (a := m1[k]?.getD 0) (b := m2[k]?.getD 0) (s := s) OV.out hs)
        have HN1 := Lib.hid (valL_take_next m1 k)
        have HN2 := Lib.hid (valL_take_next m2 k)
        rw [← HN1.out, ← HN2.out] at HSTEP
        obtain ⟨x1, hx1e⟩ : ∃ x, x = m1[k]?.getD 0 := ⟨_, rfl⟩
        rw [← hx1e] at hcell1 hx1 HSTEP
        clear hx1e g1
        have HOX := Lib.hid (fun d : Nat => (HO.out.set k (.int .u32 (d : Int))))
        by_cases hlt2 : k < L2
        · have hlz2 : (k : Int) < L2 := by omega
          obtain ⟨b2, o2, rfl, hb2, g2⟩ := HC2.out k hlt2
          have hcell2 := (HB.out.cell (p := ⟨b2, o2 + k, none⟩) hb2).trans g2
          obtain ⟨x2, hx2e⟩ : ∃ x, x = m2[k]?.getD 0 := ⟨_, rfl⟩
          rw [← hx2e] at hcell2 hx2 HSTEP
          clear hx2e g2
          go_wp2
          rw [show ((x1 : Int) + y + x2) % 4294967296 = (((x1 + y + x2) % 4294967296 : Nat) : Int) by omega, show ((x1 : Int) + y + x2) / 4294967296 = (((x1 + y + x2) / 4294967296 : Nat) : Int) by omega]
          go_roundw
          case rel =>
            refine ⟨k + 1, (x1 + y + x2) / 4294967296, o ++ [(x1 + y + x2) % 4294967296], by omega, by go_num, rfl, by omega, ?_, OD.out.append (Dig.one (Nat.mod_lt _ (by omega))), ?_, ?_, HB.out.setCell (p := ⟨wc.heap.size, k, none⟩) (Nat.le_refl _) _⟩
            · show (o ++ [_]).length = k + 1
              have := OL.out; simp; omega
            · show valL (o ++ [_]) + _ = _
              rw [valL_snoc, OL.out, Nat.pow_succ]
              exact HSTEP.out (x1 + y + x2) (by omega)
            · have := HOX.out ((x1 + y + x2) % 4294967296)
              rw [u32s_set, set_pad OL.out (by omega)] at this
              exact this
          case measure => simp [intOf]; omega
        · have hlz2 : ¬ (k : Int) < L2 := by omega
          have hx2 : m2[k]?.getD 0 = 0 := by rw [List.getElem?_eq_none (by have := E2.out; omega)]; rfl
          rw [hx2] at HSTEP
          clear hx2
          go_wp2
          rw [show ((x1 : Int) + y) % 4294967296 = (((x1 + y) % 4294967296 : Nat) : Int) by omega, show ((x1 : Int) + y) / 4294967296 = (((x1 + y) / 4294967296 : Nat) : Int) by omega]
          go_roundw
          case rel =>
            refine ⟨k + 1, (x1 + y) / 4294967296, o ++ [(x1 + y) % 4294967296], by omega, by go_num, rfl, by omega, ?_, OD.out.append (Dig.one (Nat.mod_lt _ (by omega))), ?_, ?_, HB.out.setCell (p := ⟨wc.heap.size, k, none⟩) (Nat.le_refl _) _⟩
            · show (o ++ [_]).length = k + 1
              have := OL.out; simp; omega
            · show valL (o ++ [_]) + _ = _
              rw [valL_snoc, OL.out, Nat.pow_succ]
              exact HSTEP.out (x1 + y) (by omega)
            · have := HOX.out ((x1 + y) % 4294967296)
              rw [u32s_set, set_pad OL.out (by omega)] at this
              exact this
          case measure => simp [intOf]; omega
      · obtain rfl : k = L1 := by omega
        have hlz : ¬ (k : Int) < k := by omega
        have hold := HO.out.cell (j := k) (by rw [u32s_get _ k (by simp; have := OL.out; omega), pad_at OL.out (by omega)])
        have hfree := HO.out.free k
        have hset := HO.out.set k (.int .u32 (y : Int))
        rw [u32s_set, set_pad OL.out (by omega), Nat.sub_self, List.replicate_zero, List.append_nil] at hset
        have hov := OV.out
        rw [List.take_of_length_le (by have := E1.out; omega), List.take_of_length_le (by have := E2.out; omega)] at hov
        have hval : valL (o ++ [y]) = valL l1 + valL l2 := by
          rw [valL_snoc, OL.out, ← HS.out, ← hov, Nat.mul_comm]
        have hdig : Dig (o ++ [y]) := OD.out.append (Dig.one (by omega))
        have hrow := LimbsAt.of_own hset
        have hlen : (o ++ [y]).length = k + 1 := by have := OL.out; simp; omega
        have HT := trim_any _ (some ⟨wc.heap.size, 0, none⟩) (k + 1) (o ++ [y]) (wr.setCell ⟨wc.heap.size, k, none⟩ (.int .u32 (y : Int))) hrow hdig (by omega)
        have HR := hrow.trimmed hdig
        rw [hlen] at HT
        rw [hval] at HR HT
        have HR := Lib.hid HR
        have HT := Lib.hid HT
        have HB2 : Hid (Below wc.heap.size wc _) := HB.out.setCell (p := ⟨wc.heap.size, k, none⟩) (Nat.le_refl _) (.int .u32 (y : Int))
        clear hset hov hval hdig hrow hlen
        go_wp2_with fail
        refine HT.out.mono ?_
        rintro e w' ⟨rfl, rfl⟩
        go_wp2_with fail
        go_ret
        exact ⟨_, rfl, HR.out, HB2.out⟩

end Go.Proofs.YtebigkjilklodaaDoor

/- The program's natural numbers: difference of digits. -/
namespace Go.Proofs.YtebigkjilklodaaDoor
open Go.RowKit

theorem sub_u64 {x1 x2 y : Nat} (h1 : x1 < 4294967296) (h2 : x2 < 4294967296) (hy : y ≤ 1) : ∃ b o : Nat, b ≤ 1 ∧ o < 4294967296 ∧ x1 + b * 4294967296 = o + x2 + y ∧
    IntKind.u64.wrap (IntKind.u64.wrap ((x1 : Int) - y) - x2) % 4294967296 = (o : Int) ∧ IntKind.u64.wrap (IntKind.u64.wrap ((x1 : Int) - y) - x2) / 9223372036854775808 = (b : Int) := by
  simp only [IntKind.wrap_u64]
  by_cases h : x2 + y ≤ x1
  · exact ⟨0, x1 - x2 - y, by omega, by omega, by omega, by omega, by omega⟩
  · exact ⟨1, x1 + 4294967296 - x2 - y, by omega, by omega, by omega, by omega, by omega⟩
theorem sub_u64' {x1 y : Nat} (h1 : x1 < 4294967296) (hy : y ≤ 1) : ∃ b o : Nat, b ≤ 1 ∧ o < 4294967296 ∧ x1 + b * 4294967296 = o + 0 + y ∧
    IntKind.u64.wrap ((x1 : Int) - y) % 4294967296 = (o : Int) ∧ IntKind.u64.wrap ((x1 : Int) - y) / 9223372036854775808 = (b : Int) := by
  simp only [IntKind.wrap_u64]
  by_cases h : y ≤ x1
  · exact ⟨0, x1 - y, by omega, by omega, by omega, by omega, by omega⟩
  · exact ⟨1, x1 + 4294967296 - y, by omega, by omega, by omega, by omega, by omega⟩

set_option maxHeartbeats 1000000 in
set_option maxRecDepth 100000 in
theorem pless_any (v1 v2 : Value) (l1 l2 : List Nat) (w : World) (h1 : LimbsAt w.heap.size w v1 l1) (h2 : LimbsAt w.heap.size w v2 l2) (d1 : Dig l1) (d2 : Dig l2) (n1 : l1.length ≤ 250000000) (n2 : l2.length ≤ l1.length) (hle : valL l2 ≤ valL l1) :
    Calls Tryd.prog 69 #[v1, v2] w fun e w' => ∃ v, e = .returned v ∧ NatAt w'.heap.size w' v (valL l1 - valL l2) ∧ Below w.heap.size w w' := by
  obtain ⟨i0, hi, hz0, hz1, hz2⟩ := info_parts Tryd.infoU32
  obtain ⟨ao1, cap1, rfl, _, hc1⟩ := h1.open
  obtain ⟨ao2, cap2, rfl, _, hc2⟩ := h2.open
  have HC1 := Lib.hid hc1
  have HC2 := Lib.hid hc2
  have D1 := Lib.hid d1
  have D2 := Lib.hid d2
  have HLE := Lib.hid hle
  obtain ⟨L1, e1⟩ : ∃ L, L = l1.length := ⟨_, rfl⟩
  obtain ⟨L2, e2⟩ : ∃ L, L = l2.length := ⟨_, rfl⟩
  rw [← e1] at HC1 n1 n2 ⊢
  rw [← e2] at HC2 n2 ⊢
  have E1 := Lib.hid e1
  have E2 := Lib.hid e2
  clear h1 h2 hc1 hc2 d1 d2 hle e1 e2
  go_enter Tryd.func69, Tryd.ntmps69
  go_wp2_with (at_make; refine wpList_make_full _ rfl _ _ 104 rfl w.heap.size 101 i0 (.int .u32 0) 1 Tryd.underlying104 hi hz0 hz1 _ _ _ _ L1 rfl rfl ?c1 ?c2 ?b2 ?b3 ?b4 ?_)
  case c1 => rfl
  case c2 => rfl
  case b2 => rw [hz2]; omega
  case b3 => unfold maxLen; omega
  case b4 => omega
  intro w1 hown hgrow
  have HO := Lib.hid (OwnL.made hown)
  have HB : Hid (Below w.heap.size w w1) := (Below.refl _ _).grown hgrow (Nat.le_refl _) (fun j hj => by cases hj)
  clear hown hgrow
  go_wp2
  go_loopw [14, 6] (fun i c wr => ∃ (k : Nat) (y : Nat) (o : List Nat), k ≤ L1 ∧ i = .int .i64 k ∧ c = .int .u64 y ∧ y ≤ 1 ∧ Hid (o.length = k) ∧ Hid (Dig o) ∧ Hid (valL o + valL (l2.take k) = valL (l1.take k) + y * 4294967296 ^ k) ∧ Hid (OwnL 101 wr w.heap.size w.heap.size L1 (u32s (o ++ List.replicate (L1 - k) 0))) ∧ Hid (Below w.heap.size w wr)) (fun i _ _ => L1 - (intOf i).toNat)
  case atStart =>
    refine ⟨0, 0, [], Nat.zero_le _, rfl, rfl, Nat.zero_le _, rfl, Dig.nil, rfl, ?_, HB⟩
    rw [List.nil_append, u32s_zeros]
    exact HO
  case round =>
    clear HO HB
    obtain ⟨k, y, o, hk, rfl, rfl, hy1, OL, OD, OV, HO, HB⟩ := hrel
    by_cases hlt : k < L1
    · have hlz : (k : Int) < L1 := by omega
      obtain ⟨b1, o1, rfl, hb1, g1⟩ := HC1.out k hlt
      have hcell1 := (HB.out.cell (p := ⟨b1, o1 + k, none⟩) hb1).trans g1
      have hx1 := D1.out.at k
      have hx2 := D2.out.at k
      have hold := HO.out.cell (j := k) (by rw [u32s_get _ k (by simp; have := OL.out; omega), pad_at OL.out (by omega)])
      have hfree := HO.out.free k
      have HSTEP := Lib.hid (fun b' o hs => step_less (a := l1[k]?.getD 0) (c := l2[k]?.getD 0) (b' := b') (o := o) OV.out hs)
      have HN1 := Lib.hid (valL_take_next l1 k)
      have HN2 := Lib.hid (valL_take_next l2 k)
      rw [← HN1.out, ← HN2.out] at HSTEP
      obtain ⟨x1, hx1e⟩ : ∃ x, x = l1[k]?.getD 0 := ⟨_, rfl⟩
      rw [← hx1e] at hcell1 hx1 HSTEP
      clear hx1e g1
      have HOX := Lib.hid (fun d : Nat => (HO.out.set k (.int .u32 (d : Int))))
      by_cases hlt2 : k < L2
      · have hlz2 : (k : Int) < L2 := by omega
        obtain ⟨b2, o2, rfl, hb2, g2⟩ := HC2.out k hlt2
        have hcell2 := (HB.out.cell (p := ⟨b2, o2 + k, none⟩) hb2).trans g2
        obtain ⟨x2, hx2e⟩ : ∃ x, x = l2[k]?.getD 0 := ⟨_, rfl⟩
        rw [← hx2e] at hcell2 hx2 HSTEP
        clear hx2e g2
        obtain ⟨b', d, hb', hd, hsum, q1, q2⟩ := sub_u64 hx1 hx2 hy1
        have Q1 := Lib.hid q1
        have Q2 := Lib.hid q2
        have HSUM := Lib.hid hsum
        clear q1 q2 hsum
        go_wp2
        rw [Q1.out, Q2.out]
        go_roundw
        case rel =>
          refine ⟨k + 1, b', o ++ [d], by omega, by go_num, rfl, hb', ?_, OD.out.append (Dig.one hd), ?_, ?_, HB.out.setCell (p := ⟨w.heap.size, k, none⟩) (Nat.le_refl _) _⟩
          · show (o ++ [_]).length = k + 1
            have := OL.out; simp; omega
          · show valL (o ++ [_]) + _ = _
            rw [valL_snoc, OL.out, Nat.pow_succ]
            exact HSTEP.out b' d HSUM.out
          · have := HOX.out d
            rw [u32s_set, set_pad OL.out (by omega)] at this
            exact this
        case measure => simp [intOf]; omega
      · have hlz2 : ¬ (k : Int) < L2 := by omega
        have hx2 : l2[k]?.getD 0 = 0 := by rw [List.getElem?_eq_none (by have := E2.out; omega)]; rfl
        rw [hx2] at HSTEP
        clear hx2
        obtain ⟨b', d, hb', hd, hsum, q1, q2⟩ := sub_u64' hx1 hy1
        have Q1 := Lib.hid q1
        have Q2 := Lib.hid q2
        have HSUM := Lib.hid hsum
        clear q1 q2 hsum
        go_wp2
        rw [Q1.out, Q2.out]
        go_roundw
        case rel =>
          refine ⟨k + 1, b', o ++ [d], by omega, by go_num, rfl, hb', ?_, OD.out.append (Dig.one hd), ?_, ?_, HB.out.setCell (p := ⟨w.heap.size, k, none⟩) (Nat.le_refl _) _⟩
          · show (o ++ [_]).length = k + 1
            have := OL.out; simp; omega
          · show valL (o ++ [_]) + _ = _
            rw [valL_snoc, OL.out, Nat.pow_succ]
            exact HSTEP.out b' d HSUM.out
          · have := HOX.out d
            rw [u32s_set, set_pad OL.out (by omega)] at this
            exact this
        case measure => simp [intOf]; omega
    · obtain rfl : k = L1 := by omega
      have hlz : ¬ (k : Int) < k := by omega
      rw [Nat.sub_self, List.replicate_zero, List.append_nil] at HO
      have hov := OV.out
      rw [List.take_of_length_le (by have := E2.out; omega), List.take_of_length_le (by have := E1.out; omega)] at hov
      have hval : valL o = valL l1 - valL l2 := by
        have h1 := HLE.out
        have h2 := valL_lt OD.out
        rw [OL.out] at h2
        have h3 : y = 0 ∨ y = 1 := by omega
        rcases h3 with rfl | rfl
        · omega
        · have h4 := valL_lt D1.out
          omega
      have hrow := LimbsAt.of_own HO.out
      have HT := trim_any _ (some ⟨w.heap.size, 0, none⟩) k o wr hrow OD.out (by have := OL.out; omega)
      have HR := hrow.trimmed OD.out
      rw [OL.out] at HT
      rw [hval] at HR HT
      have HR := Lib.hid HR
      have HT := Lib.hid HT
      clear hov hval hrow
      go_wp2_with fail
      refine HT.out.mono ?_
      rintro e w' ⟨rfl, rfl⟩
      go_wp2_with fail
      go_ret
      exact ⟨_, rfl, HR.out, HB.out⟩

end Go.Proofs.YtebigkjilklodaaDoor

/- The program's natural numbers: products and short divisions of digits. -/
namespace Go.Proofs.YtebigkjilklodaaDoor
open Go.RowKit

/-- What the outer loop of a product has at hand. -/
theorem mul_fits {x y o c : Nat} (hx : x < 4294967296) (hy : y < 4294967296) (ho : o < 4294967296) (hc : c < 4294967296) : x * y + o + c < 18446744073709551616 ∧ x * y ≤ 18446744065119617025 := by
  have : x * y ≤ 4294967295 * 4294967295 := Nat.mul_le_mul (by omega) (by omega)
  omega
theorem set_at {l : List Nat} {k d : Nat} (h : k < l.length) : (l.set k d)[k]?.getD 0 = d := by simp [h]
theorem set_at_other {l : List Nat} {k j d : Nat} (h : k ≠ j) : (l.set k d)[j]?.getD 0 = l[j]?.getD 0 := by rw [List.getElem?_set_ne h]
/-- One step of the inner loop. -/
theorem mul_inner {A A' O V P Q x y z c s : Nat} (h : A + c * (P * Q) = O + x * P * V) (hs : s = x * y + z + c) (hset : A' + P * Q * z = A + P * Q * (s % 4294967296)) :
    A' + s / 4294967296 * (P * Q * 4294967296) = O + x * P * (V + Q * y) := by
  have key : s % 4294967296 + 4294967296 * (s / 4294967296) = x * y + z + c := by omega
  have k2 := congrArg (P * Q * ·) key
  simp only [Nat.mul_add] at k2 ⊢
  have e1 : s / 4294967296 * (P * Q * 4294967296) = P * Q * (4294967296 * (s / 4294967296)) := by rw [Nat.mul_comm, Nat.mul_assoc (P * Q)]
  have e2 : c * (P * Q) = P * Q * c := Nat.mul_comm _ _
  have e3 : x * P * (Q * y) = P * Q * (x * y) := by rw [Nat.mul_comm x P, Nat.mul_assoc, Nat.mul_left_comm x Q y, ← Nat.mul_assoc]
  omega

set_option maxHeartbeats 2000000 in
set_option maxRecDepth 100000 in
theorem pprod_any (v1 v2 : Value) (l1 l2 : List Nat) (w : World) (h1 : LimbsAt w.heap.size w v1 l1) (h2 : LimbsAt w.heap.size w v2 l2) (d1 : Dig l1) (d2 : Dig l2) (n1 : l1.length ≤ 100000000) (n2 : l2.length ≤ 100000000) :
    Calls Tryd.prog 66 #[v1, v2] w fun e w' => ∃ v, e = .returned v ∧ NatAt w'.heap.size w' v (valL l1 * valL l2) ∧ Below w.heap.size w w' := by
  obtain ⟨i0, hi, hz0, hz1, hz2⟩ := info_parts Tryd.infoU32
  obtain ⟨ao1, cap1, rfl, _, hc1⟩ := h1.open
  obtain ⟨ao2, cap2, rfl, _, hc2⟩ := h2.open
  have HC1 := Lib.hid hc1
  have HC2 := Lib.hid hc2
  have D1 := Lib.hid d1
  have D2 := Lib.hid d2
  obtain ⟨L1, e1⟩ : ∃ L, L = l1.length := ⟨_, rfl⟩
  obtain ⟨L2, e2⟩ : ∃ L, L = l2.length := ⟨_, rfl⟩
  rw [← e1] at HC1 n1 ⊢
  rw [← e2] at HC2 n2 ⊢
  have E1 := Lib.hid e1
  have E2 := Lib.hid e2
  clear h1 h2 hc1 hc2 d1 d2 e1 e2
  go_enter Tryd.func66, Tryd.ntmps66
  go_wp2_with (at_make; refine wpList_make_full _ rfl _ _ 104 rfl w.heap.size 101 i0 (.int .u32 0) 1 Tryd.underlying104 hi hz0 hz1 _ _ _ _ (L1 + L2) rfl rfl ?c1 ?c2 ?b2 ?b3 ?b4 ?_)
  case c1 => omega
  case c2 => omega
  case b2 => rw [hz2]; omega
  case b3 => unfold maxLen; omega
  case b4 => omega
  intro w1 hown hgrow
  have HO := Lib.hid (OwnL.made hown)
  have HB : Hid (Below w.heap.size w w1) := (Below.refl _ _).grown hgrow (Nat.le_refl _) (fun j hj => by cases hj)
  clear hown hgrow
  go_wp2
  go_loopw [20] (fun iv wr => ∃ (i : Nat) (o : List Nat), i ≤ L1 ∧ iv = .int .i64 i ∧ Hid (o.length = i + L2) ∧ Hid (Dig o) ∧ Hid (valL o = valL (l1.take i) * valL l2) ∧ Hid (OwnL 101 wr w.heap.size w.heap.size (L1 + L2) (u32s (o ++ List.replicate (L1 + L2 - (i + L2)) 0))) ∧ Hid (Below w.heap.size w wr)) (fun iv _ => L1 - (intOf iv).toNat)
  case atStart =>
    refine ⟨0, List.replicate L2 0, Nat.zero_le _, rfl, ?_, Dig.zeros _, ?_, ?_, HB⟩
    · show (List.replicate L2 0).length = _; simp
    · show valL _ = _; rw [valL_zeros]; simp [valL]
    · rw [u32s_append, u32s_zeros, u32s_zeros, List.replicate_append_replicate, show L2 + (L1 + L2 - (0 + L2)) = L1 + L2 by omega]
      exact HO
  case round =>
    clear HO HB
    obtain ⟨i, o, hi1, rfl, OL, OD, OV, HO, HB⟩ := hrel
    by_cases hlt : i < L1
    · have hlz : (i : Int) < L1 := by omega
      obtain ⟨b1, o1, rfl, hb1, g1⟩ := HC1.out i hlt
      have hcell1 := (HB.out.cell (p := ⟨b1, o1 + i, none⟩) hb1).trans g1
      have hx1 := D1.out.at i
      have HN1 := Lib.hid (valL_take_next l1 i)
      obtain ⟨x, hx⟩ : ∃ x, x = l1[i]?.getD 0 := ⟨_, rfl⟩
      rw [← hx] at hcell1 hx1 HN1
      clear hx g1
      go_wp2
      obtain ⟨wo, rfl⟩ : ∃ wo : World, wo = wr := ⟨_, rfl⟩
      go_loopw [27, 8] (fun jv cv wr => ∃ (j c : Nat) (p : List Nat), j ≤ L2 ∧ jv = .int .i64 j ∧ cv = .int .u64 c ∧ c < 4294967296 ∧ Hid (p.length = i + L2) ∧ Hid (Dig p) ∧ Hid (valL p + c * 4294967296 ^ (i + j) = valL o + x * 4294967296 ^ i * valL (l2.take j)) ∧ Hid (OwnL 101 wr w.heap.size w.heap.size (L1 + L2) (u32s (p ++ List.replicate (L1 + L2 - (i + L2)) 0))) ∧ Hid (Below w.heap.size w wr)) (fun jv _ _ => L2 - (intOf jv).toNat)
      case atStart => exact ⟨0, 0, o, Nat.zero_le _, rfl, rfl, by omega, OL, OD, (by show _ = _; simp [valL]), HO, HB⟩
      case round =>
        clear HO HB hcell1
        obtain ⟨j, c, p, hj1, rfl, rfl, hc, PL, PD, PV, HO, HB⟩ := hrel
        by_cases hltj : j < L2
        · have hljz : (j : Int) < L2 := by omega
          obtain ⟨b2, o2, rfl, hb2, g2⟩ := HC2.out j hltj
          have hcell2 := (HB.out.cell (p := ⟨b2, o2 + j, none⟩) hb2).trans g2
          have hy1 := D2.out.at j
          have hp1 := PD.out.at (i + j)
          have HN2 := Lib.hid (valL_take_next l2 j)
          have hold := HO.out.cell (j := i + j) (u32s_get _ (i + j) (by simp; have := PL.out; omega))
          rw [List.getElem?_append_left (by have := PL.out; omega)] at hold
          have hfree := HO.out.free (i + j)
          obtain ⟨y, hy⟩ : ∃ y, y = l2[j]?.getD 0 := ⟨_, rfl⟩
          rw [← hy] at hcell2 hy1 HN2
          obtain ⟨z, hz⟩ : ∃ z, z = p[i + j]?.getD 0 := ⟨_, rfl⟩
          rw [← hz] at hold hp1
          have HZ := Lib.hid hz
          clear hy hz g2
          obtain ⟨f1, f2⟩ := mul_fits hx1 hy1 hp1 hc
          have hxy : ((x : Int) * y) = ((x * y : Nat) : Int) := (Int.natCast_mul _ _).symm
          obtain ⟨m, hm⟩ : ∃ m, m = x * y := ⟨_, rfl⟩
          rw [← hm] at f1 f2 hxy
          have HM := Lib.hid hm
          clear hm
          have hset := valL_set ((m + z + c) % 4294967296) (show i + j < p.length by have := PL.out; omega)
          rw [← HZ.out, Nat.pow_add] at hset
          have hpv := PV.out
          rw [Nat.pow_add] at hpv
          have HSTEP := Lib.hid (mul_inner (y := y) hpv (by rw [HM.out]) hset)
          have HOX := HO.out.set (i + j) (.int .u32 (((m + z + c) % 4294967296 : Nat) : Int))
          rw [u32s_set, List.set_append_left _ _ (by have := PL.out; omega)] at HOX
          have HOX := Lib.hid HOX
          clear hset hpv
          go_wp2
          rw [show ((m : Int) + z + c) % 4294967296 = (((m + z + c) % 4294967296 : Nat) : Int) by omega, show ((m : Int) + z + c) / 4294967296 = (((m + z + c) / 4294967296 : Nat) : Int) by omega]
          go_roundw
          case rel =>
            refine ⟨j + 1, (m + z + c) / 4294967296, p.set (i + j) ((m + z + c) % 4294967296), by omega, by go_num, rfl, by omega, ?_, PD.out.set _ _ (Nat.mod_lt _ (by omega)), ?_, HOX, HB.out.setCell (p := ⟨w.heap.size, i + j, none⟩) (Nat.le_refl _) _⟩
            · show (p.set _ _).length = _
              rw [List.length_set]; exact PL.out
            · show valL (p.set _ _) + _ = _
              rw [HN2.out, ← Nat.add_assoc, Nat.pow_succ, Nat.pow_add]
              exact HSTEP.out
          case measure => simp [intOf]; omega
        · obtain rfl : j = L2 := by omega
          have hljz : ¬ (j : Int) < j := by omega
          have hold := HO.out.cell (j := i + j) (by rw [u32s_get _ (i + j) (by simp; have := PL.out; omega), pad_at PL.out (by omega)])
          have hfree := HO.out.free (i + j)
          have hset := HO.out.set (i + j) (.int .u32 (c : Int))
          rw [u32s_set, set_pad PL.out (by omega)] at hset
          have HS2 := Lib.hid hset
          have hpv := PV.out
          rw [List.take_of_length_le (by have := E2.out; omega)] at hpv
          have hval : valL (p ++ [c]) = valL (l1.take (i + 1)) * valL l2 := by
            rw [valL_snoc, PL.out, HN1.out, Nat.add_mul, ← OV.out, Nat.mul_comm _ x, ← hpv, Nat.mul_comm c]
          have HV := Lib.hid hval
          clear hset hpv hval
          go_wp2
          go_roundw
          case rel =>
            refine ⟨i + 1, p ++ [c], by omega, by go_num, ?_, PD.out.append (Dig.one hc), HV, ?_, HB.out.setCell (p := ⟨w.heap.size, i + j, none⟩) (Nat.le_refl _) _⟩
            · show (p ++ [_]).length = _
              have := PL.out; simp; omega
            · rw [show i + 1 + j = i + j + 1 by omega]
              exact HS2
          case measure => simp [intOf]; omega
    · obtain rfl : i = L1 := by omega
      have hlz : ¬ (i : Int) < i := by omega
      rw [Nat.sub_self, List.replicate_zero, List.append_nil] at HO
      have hov := OV.out
      rw [List.take_of_length_le (by have := E1.out; omega)] at hov
      have hrow := LimbsAt.of_own HO.out
      have HT := trim_any _ (some ⟨w.heap.size, 0, none⟩) (i + L2) o wr hrow OD.out (by have := OL.out; omega)
      have HR := hrow.trimmed OD.out
      rw [OL.out] at HT
      rw [hov] at HR HT
      have HR := Lib.hid HR
      have HT := Lib.hid HT
      clear hov hrow
      go_wp2_with fail
      refine HT.out.mono ?_
      rintro e w' ⟨rfl, rfl⟩
      go_wp2_with fail
      go_ret
      exact ⟨_, rfl, HR.out, HB.out⟩

end Go.Proofs.YtebigkjilklodaaDoor

/- The program's natural numbers: short divisions of digits. -/
namespace Go.Proofs.YtebigkjilklodaaDoor
open Go.RowKit

theorem or_high {r a : Nat} (hr : r < 4294967296) (ha : a < 4294967296) : bits .or .u64 ((r : Int) * 4294967296) (a : Int) = ((r * 4294967296 + a : Nat) : Int) := by
  have e : ((r : Int) * 4294967296) = ((r * 4294967296 : Nat) : Int) := by rw [Int.natCast_mul]; rfl
  rw [e, u64_or_nat _ _ (by omega) (by omega)]
  congr 1
  have := Nat.two_pow_add_eq_or_of_lt (i := 32) (b := a) ha r
  rw [show (2 : Nat) ^ 32 = 4294967296 from rfl, Nat.mul_comm] at this
  exact this.symm
theorem set_front {j d : Nat} {o : List Nat} (hj : 0 < j) : (List.replicate j 0 ++ o).set (j - 1) d = List.replicate (j - 1) 0 ++ (d :: o) := by
  obtain ⟨r, rfl⟩ : ∃ r, j = r + 1 := ⟨j - 1, by omega⟩
  rw [Nat.add_sub_cancel, List.replicate_succ', List.append_assoc, List.set_append_right _ _ (by simp)]
  simp
theorem front_at {j : Nat} {o : List Nat} (hj : 0 < j) : (List.replicate j 0 ++ o)[j - 1]? = some 0 := by
  rw [List.getElem?_append_left (by simp; omega), List.getElem?_replicate, if_pos (by omega)]

set_option maxHeartbeats 1000000 in
set_option maxRecDepth 100000 in
theorem pshort_any (v1 : Value) (l : List Nat) (b : Nat) (w : World) (h1 : LimbsAt w.heap.size w v1 l) (d1 : Dig l) (n1 : l.length ≤ 100000000) (hb0 : 0 < b) (hbl : b < 4294967296) :
    Calls Tryd.prog 94 #[v1, .int .u32 b] w fun e w' => ∃ v, e = .returned (.tuple #[v, .int .u32 ((valL l % b : Nat) : Int)]) ∧ NatAt w'.heap.size w' v (valL l / b) ∧ Below w.heap.size w w' := by
  obtain ⟨i0, hi, hz0, hz1, hz2⟩ := info_parts Tryd.infoU32
  obtain ⟨ao1, cap1, rfl, _, hc1⟩ := h1.open
  have HC1 := Lib.hid hc1
  have D1 := Lib.hid d1
  obtain ⟨L1, e1⟩ : ∃ L, L = l.length := ⟨_, rfl⟩
  rw [← e1] at HC1 n1 ⊢
  have E1 := Lib.hid e1
  clear h1 hc1 d1 e1
  have hbz : ¬ (b : Int) = 0 := by omega
  have hbz2 : ((b : Int) == 0) = false := by simp; omega
  go_enter Tryd.func94, Tryd.ntmps94
  go_wp2_with (at_make; refine wpList_make_full _ rfl _ _ 104 rfl w.heap.size 101 i0 (.int .u32 0) 1 Tryd.underlying104 hi hz0 hz1 _ _ _ _ L1 rfl rfl ?c1 ?c2 ?b2 ?b3 ?b4 ?_)
  case c1 => rfl
  case c2 => rfl
  case b2 => rw [hz2]; omega
  case b3 => unfold maxLen; omega
  case b4 => omega
  intro w1 hown hgrow
  have HO := Lib.hid (OwnL.made hown)
  have HB : Hid (Below w.heap.size w w1) := (Below.refl _ _).grown hgrow (Nat.le_refl _) (fun j hj => by cases hj)
  clear hown hgrow
  go_wp2
  go_loopw [8, 7] (fun i c wr => ∃ (j : Nat) (z : Int) (r : Nat) (o : List Nat), j ≤ L1 ∧ i = .int .i64 z ∧ Hid (z = (j : Int) - 1) ∧ -1 ≤ z ∧ z < L1 ∧ c = .int .u64 r ∧ r < b ∧ Hid (o.length = L1 - j) ∧ Hid (Dig o) ∧ Hid (valL (l.drop j) = valL o * b + r) ∧ Hid (OwnL 101 wr w.heap.size w.heap.size L1 (u32s (List.replicate j 0 ++ o))) ∧ Hid (Below w.heap.size w wr)) (fun i _ _ => (intOf i + 1).toNat)
  case atStart =>
    refine ⟨L1, (L1 : Int) - 1, 0, [], Nat.le_refl _, rfl, rfl, by omega, by omega, rfl, hb0, ?_, Dig.nil, ?_, ?_, HB⟩
    · show ([] : List Nat).length = _; simp
    · show valL _ = _; rw [List.drop_eq_nil_of_le (by have := E1.out; omega)]; simp [valL]
    · rw [List.append_nil, u32s_zeros]
      exact HO
  case round =>
    clear HO HB
    obtain ⟨j, z, r, o, hj, rfl, HZ, hz1, hz2, rfl, hr, OL, OD, OV, HO, HB⟩ := hrel
    by_cases hz : 0 ≤ z
    · obtain ⟨k, rfl⟩ := Int.eq_ofNat_of_zero_le hz
      obtain rfl : j = k + 1 := by have := HZ.out; omega
      obtain ⟨b1, o1, rfl, hb1, g1⟩ := HC1.out k (by omega)
      have hcell1 := (HB.out.cell (p := ⟨b1, o1 + k, none⟩) hb1).trans g1
      have hx1 := D1.out.at k
      have hkl : k < l.length := by have := E1.out; omega
      have hdk : l.drop k = (l[k]?.getD 0) :: l.drop (k + 1) := by rw [List.drop_eq_getElem_cons hkl, List.getElem?_eq_getElem hkl]; rfl
      have HDK := Lib.hid hdk
      obtain ⟨a, ha⟩ : ∃ a, a = l[k]?.getD 0 := ⟨_, rfl⟩
      rw [← ha] at hcell1 hx1 HDK
      clear hdk ha g1 hkl
      have hold := HO.out.cell (j := k) (by
        have h := front_at (j := k + 1) (o := o) (by omega)
        rw [Nat.add_sub_cancel] at h
        rw [u32s_get _ k (by rw [List.length_append, List.length_replicate]; omega), h])
      have hfree := HO.out.free k
      obtain ⟨x, hx⟩ : ∃ x, x = r * 4294967296 + a := ⟨_, rfl⟩
      have hor := or_high (show r < 4294967296 by omega) hx1
      rw [← hx] at hor
      have hxb : x < b * 4294967296 := by omega
      have hq : x / b < 4294967296 := by rw [Nat.div_lt_iff_lt_mul hb0, Nat.mul_comm]; exact hxb
      have hqr := Nat.mod_lt x hb0
      have HOX := HO.out.set k (.int .u32 ((x / b : Nat) : Int))
      have hsf := set_front (j := k + 1) (d := x / b) (o := o) (by omega)
      rw [Nat.add_sub_cancel] at hsf
      rw [u32s_set, hsf] at HOX
      have HOX := Lib.hid HOX
      have HV : Hid (valL (l.drop k) = valL (x / b :: o) * b + x % b) := by
        show _ = _
        rw [HDK.out, valL, valL]
        exact step_short hb0 OV.out hx
      have e1 : (x : Int) / b < 4294967296 := by rw [← Int.natCast_ediv]; omega
      have e2 : 0 ≤ (x : Int) / b := Int.ediv_nonneg (by omega) (by omega)
      have HX := Lib.hid hx
      clear hx hsf
      have hxu : x < 18446744073709551616 := by omega
      have hk1 : (k : Int) < L1 := by omega
      go_wp2

      go_region
      rw [← Int.natCast_ediv, ← Int.natCast_emod]
      clear e1 e2 hor
      go_wp2
      go_roundw
      case rel =>
        exact ⟨k, (k : Int) - 1, x % b, (x / b) :: o, by omega, rfl, rfl, by omega, by omega, rfl, hqr, (by show (_ :: o).length = _; have := OL.out; simp; omega), Dig.cons hq OD.out, HV, HOX.drew, (HB.out.setCell (p := ⟨w.heap.size, k, none⟩) (Nat.le_refl _) _).drew⟩
      case measure => simp [intOf]
    · obtain rfl : z = -1 := by omega
      obtain rfl : j = 0 := by have := HZ.out; omega
      rw [List.replicate_zero, List.nil_append] at HO
      have hov := OV.out
      rw [List.drop_zero] at hov
      have hq : valL o = valL l / b := by
        rw [hov, Nat.mul_comm, Nat.mul_add_div hb0, Nat.div_eq_of_lt hr]; omega
      have hm : valL l % b = r := by rw [hov, Nat.mul_comm, Nat.mul_add_mod, Nat.mod_eq_of_lt hr]
      have hrow := LimbsAt.of_own HO.out
      have HT := trim_any _ (some ⟨w.heap.size, 0, none⟩) L1 o wr hrow OD.out (by have := OL.out; omega)
      have HR := hrow.trimmed OD.out
      rw [show o.length = L1 by have := OL.out; omega] at HT
      rw [hq] at HR HT
      have HR := Lib.hid HR
      have HT := Lib.hid HT
      have HM := Lib.hid hm
      clear hov hq hm hrow
      go_wp2_with fail
      refine HT.out.mono ?_
      rintro e w' ⟨rfl, rfl⟩
      go_wp2_with fail
      go_ret2
      exact ⟨.slice (some ⟨w.heap.size, 0, none⟩) (limbs (valL l / b)).length L1, congrArg (fun r : Nat => Ending.returned (.tuple #[.slice (some ⟨w.heap.size, 0, none⟩) (limbs (valL l / b)).length L1, .int .u32 (r : Int)])) HM.out.symm, HR.out, HB.out⟩

end Go.Proofs.YtebigkjilklodaaDoor

/- The program's natural numbers: digits shifted by a few bits. -/
namespace Go.Proofs.YtebigkjilklodaaDoor
open Go.RowKit

theorem shift_parts {n : Nat} (hn : n ≤ 31) : 2 ^ n * 2 ^ (32 - n) = 4294967296 := by rw [← Nat.pow_add, show n + (32 - n) = 32 by omega]
theorem two_le {n : Nat} (hn : n ≤ 31) : 2 ^ n ≤ 2147483648 := by
  have := Nat.pow_le_pow_right (show 0 < 2 by omega) hn
  exact this
theorem or_low {n c x : Nat} (hn : n ≤ 31) (hc : c < 2 ^ n) : (c ||| x * 2 ^ n % 4294967296) = c + x * 2 ^ n % 4294967296 := by
  have e : x * 2 ^ n % 4294967296 = 2 ^ n * (x % 2 ^ (32 - n)) := by
    rw [← shift_parts hn, Nat.mul_comm x, Nat.mul_mod_mul_left]
  rw [e]
  have := Nat.two_pow_add_eq_or_of_lt (i := n) (b := c) hc (x % 2 ^ (32 - n))
  rw [Nat.or_comm, ← this, Nat.add_comm]
theorem up_carry {n x : Nat} (hn : n ≤ 31) (hx : x < 4294967296) : x * 2 ^ n / 4294967296 < 2 ^ n := by
  rw [Nat.div_lt_iff_lt_mul (by omega), Nat.mul_comm]
  exact Nat.mul_lt_mul_of_pos_left hx (Nat.pow_pos (by omega))
theorem up_fits {n c x : Nat} (hn : n ≤ 31) (hc : c < 2 ^ n) : c + x * 2 ^ n % 4294967296 < 4294967296 := by
  have e : x * 2 ^ n % 4294967296 = 2 ^ n * (x % 2 ^ (32 - n)) := by
    rw [← shift_parts hn, Nat.mul_comm x, Nat.mul_mod_mul_left]
  rw [e]
  have h := Nat.mod_lt x (show 0 < 2 ^ (32 - n) from Nat.pow_pos (by omega))
  have h2 : 2 ^ n * (x % 2 ^ (32 - n) + 1) ≤ 2 ^ n * 2 ^ (32 - n) := Nat.mul_le_mul_left _ h
  rw [shift_parts hn, Nat.mul_add, Nat.mul_one] at h2
  omega
theorem up_step {O A P N c x : Nat} (h : O + P * c = A * N) : (O + P * (c + x * N % 4294967296)) + P * 4294967296 * (x * N / 4294967296) = (A + P * x) * N := by
  have key : x * N % 4294967296 + 4294967296 * (x * N / 4294967296) = x * N := by omega
  have k2 := congrArg (P * ·) key
  simp only [Nat.mul_add, Nat.add_mul] at k2 ⊢
  have e1 : P * 4294967296 * (x * N / 4294967296) = P * (4294967296 * (x * N / 4294967296)) := Nat.mul_assoc _ _ _
  have e2 : P * x * N = P * (x * N) := Nat.mul_assoc _ _ _
  omega

theorem up_vals {n c x : Nat} (hn : n ≤ 31) (hc : c < 2 ^ n) (hx : x < 4294967296) :
    bits .or .u32 (c : Int) (IntKind.u64.wrap ((x : Int) * 2 ^ n) % 4294967296) = ((c + x * 2 ^ n % 4294967296 : Nat) : Int) ∧ IntKind.u64.wrap ((x : Int) * 2 ^ n) / 4294967296 % 4294967296 = ((x * 2 ^ n / 4294967296 : Nat) : Int) := by
  have e : ((x : Int) * 2 ^ n) = ((x * 2 ^ n : Nat) : Int) := by rw [Int.natCast_mul, Int.natCast_pow]; rfl
  have hN := two_le hn
  have hm : x * 2 ^ n ≤ 4294967295 * 2147483648 := Nat.mul_le_mul (by omega) hN
  have hor := or_low (x := x) hn hc
  rw [e]
  generalize x * 2 ^ n = y at *
  have e2 : IntKind.u64.wrap (y : Int) = y := by rw [IntKind.wrap_u64]; omega
  rw [e2]
  constructor
  · rw [u64_mod, u32_or_nat _ _ (by omega) (Nat.mod_lt _ (by omega)), hor]
  · omega

set_option maxHeartbeats 1000000 in
set_option maxRecDepth 100000 in
theorem pup_any (v1 : Value) (l : List Nat) (n : Nat) (w : World) (h1 : LimbsAt w.heap.size w v1 l) (d1 : Dig l) (n1 : l.length ≤ 100000000) (hn : n ≤ 31) :
    Calls Tryd.prog 96 #[v1, .int .i64 n] w fun e w' => ∃ (o : List Nat), e = .returned (.slice (some ⟨w.heap.size, 0, none⟩) (l.length + 1) (l.length + 1)) ∧ o.length = l.length + 1 ∧ Dig o ∧ valL o = valL l * 2 ^ n ∧ OwnL 101 w' w.heap.size w.heap.size (l.length + 1) (u32s o) ∧ Below w.heap.size w w' := by
  obtain ⟨i0, hi, hz0, hz1, hz2⟩ := info_parts Tryd.infoU32
  obtain ⟨ao1, cap1, rfl, _, hc1⟩ := h1.open
  have HC1 := Lib.hid hc1
  have D1 := Lib.hid d1
  obtain ⟨L1, e1⟩ : ∃ L, L = l.length := ⟨_, rfl⟩
  rw [← e1] at HC1 n1 ⊢
  have E1 := Lib.hid e1
  clear h1 hc1 d1 e1
  go_enter Tryd.func96, Tryd.ntmps96
  go_wp2_with (at_make; refine wpList_make_full _ rfl _ _ 104 rfl w.heap.size 101 i0 (.int .u32 0) 1 Tryd.underlying104 hi hz0 hz1 _ _ _ _ (L1 + 1) rfl rfl ?c1 ?c2 ?b2 ?b3 ?b4 ?_)
  case c1 => omega
  case c2 => omega
  case b2 => rw [hz2]; omega
  case b3 => unfold maxLen; omega
  case b4 => omega
  intro w1 hown hgrow
  have HO := Lib.hid (OwnL.made hown)
  have HB : Hid (Below w.heap.size w w1) := (Below.refl _ _).grown hgrow (Nat.le_refl _) (fun j hj => by cases hj)
  clear hown hgrow
  go_wp2
  go_loopw [15] (fun i wr => ∃ (k c : Nat) (o : List Nat), k ≤ L1 ∧ i = .int .i64 k ∧ Hid (c < 2 ^ n) ∧ Hid (o.length = k) ∧ Hid (Dig o) ∧ Hid (valL o + 4294967296 ^ k * c = valL (l.take k) * 2 ^ n) ∧ Hid (OwnL 101 wr w.heap.size w.heap.size (L1 + 1) (u32s (o ++ c :: List.replicate (L1 - k) 0))) ∧ Hid (Below w.heap.size w wr)) (fun i _ => L1 - (intOf i).toNat)
  case atStart =>
    refine ⟨0, 0, [], Nat.zero_le _, rfl, Nat.pow_pos (by omega), rfl, Dig.nil, (by show _ = _; simp [valL]), ?_, HB⟩
    have := HO.out
    rw [← u32s_zeros, List.replicate_succ] at this
    exact this
  case round =>
    clear HO HB
    obtain ⟨k, c, o, hk, rfl, HC, OL, OD, OV, HO, HB⟩ := hrel
    by_cases hlt : k < L1
    · have hlz : (k : Int) < L1 := by omega
      obtain ⟨b1, o1, rfl, hb1, g1⟩ := HC1.out k hlt
      have hcell1 := (HB.out.cell (p := ⟨b1, o1 + k, none⟩) hb1).trans g1
      have hx1 := D1.out.at k
      have HN1 := Lib.hid (valL_take_next l k)
      obtain ⟨x, hx⟩ : ∃ x, x = l[k]?.getD 0 := ⟨_, rfl⟩
      rw [← hx] at hcell1 hx1 HN1
      clear hx g1
      have hkl : k < (o ++ c :: List.replicate (L1 - k) 0).length := by have := OL.out; simp; omega
      have hold := HO.out.cell (j := k) (u32s_get _ k hkl)
      rw [show (o ++ c :: List.replicate (L1 - k) 0)[k]?.getD 0 = c by rw [List.getElem?_append_right (by have := OL.out; omega), OL.out, Nat.sub_self]; rfl] at hold
      have hfree := HO.out.free k
      have hkl2 : k + 1 < (o ++ c :: List.replicate (L1 - k) 0).length := by have := OL.out; simp; omega
      have hold2 := HO.out.cell (j := k + 1) (u32s_get _ (k + 1) hkl2)
      have hfree2 := HO.out.free (k + 1)
      have hN := two_le hn
      obtain ⟨q1, q2⟩ := up_vals hn HC.out hx1
      have hset := (HO.out.set k (.int .u32 ((c + x * 2 ^ n % 4294967296 : Nat) : Int))).set (k + 1) (.int .u32 ((x * 2 ^ n / 4294967296 : Nat) : Int))
      rw [u32s_set, u32s_set] at hset
      have hl : (((o ++ c :: List.replicate (L1 - k) 0).set k (c + x * 2 ^ n % 4294967296)).set (k + 1) (x * 2 ^ n / 4294967296)) = (o ++ [c + x * 2 ^ n % 4294967296]) ++ (x * 2 ^ n / 4294967296) :: List.replicate (L1 - (k + 1)) 0 := by
        obtain ⟨r, hr⟩ : ∃ r, L1 - k = r + 1 := ⟨L1 - k - 1, by omega⟩
        rw [hr, show L1 - (k + 1) = r by omega, List.replicate_succ]
        have := OL.out
        subst this
        simp
      rw [hl] at hset
      have HSET := Lib.hid hset
      have Q1 := Lib.hid q1
      have Q2 := Lib.hid q2
      have HSTEP := Lib.hid (up_step (x := x) OV.out)
      clear hset hl q1 q2
      go_wp2
      rw [Q1.out, Q2.out]
      go_roundw
      case rel =>
        refine ⟨k + 1, x * 2 ^ n / 4294967296, o ++ [c + x * 2 ^ n % 4294967296], by omega, by go_num, up_carry hn hx1, ?_, OD.out.append (Dig.one (up_fits hn HC.out)), ?_, HSET, (HB.out.setCell (p := ⟨w.heap.size, k, none⟩) (Nat.le_refl _) _).setCell (p := ⟨w.heap.size, k + 1, none⟩) (Nat.le_refl _) _⟩
        · show (o ++ [_]).length = _
          have := OL.out; simp; omega
        · show valL (o ++ [_]) + _ = _
          rw [valL_snoc, OL.out, HN1.out, Nat.pow_succ]
          exact HSTEP.out
      case measure => simp [intOf]; omega
    · obtain rfl : k = L1 := by omega
      have hlz : ¬ (k : Int) < k := by omega
      rw [Nat.sub_self, List.replicate_zero] at HO
      have hov := OV.out
      rw [List.take_of_length_le (by have := E1.out; omega)] at hov
      have hval : valL (o ++ [c]) = valL l * 2 ^ n := by rw [valL_snoc, OL.out]; exact hov
      have HV := Lib.hid hval
      clear hov hval
      go_wp2
      go_ret
      exact ⟨rfl, o ++ [c], by have := OL.out; simp; omega, OD.out.append (Dig.one (by have := HC.out; have := two_le hn; omega)), HV.out, HO.out, HB.out⟩

/-- One step of a shift to the right. -/
theorem down_digit {l : List Nat} (hd : Dig l) {n k : Nat} (hn : n ≤ 31) (hk : k < l.length) :
    valL l / 2 ^ n / 4294967296 ^ k % 4294967296 = ((l[k]?.getD 0) / 2 ^ n ||| (l[k + 1]?.getD 0) * 2 ^ (32 - n) % 4294967296) := by
  have e1 : valL l / 2 ^ n / 4294967296 ^ k = valL (l.drop k) / 2 ^ n := by
    rw [Nat.div_div_eq_div_mul, Nat.mul_comm, ← Nat.div_div_eq_div_mul, valL_div hd (by omega)]
  have hx := hd.at k
  have e2 : l.drop k = l[k]?.getD 0 :: l.drop (k + 1) := by rw [List.drop_eq_getElem_cons hk, List.getElem?_eq_getElem hk]; rfl
  have e3 : valL (l.drop (k + 1)) % 4294967296 = l[k + 1]?.getD 0 := by
    by_cases h : k + 1 < l.length
    · rw [List.drop_eq_getElem_cons h, valL, List.getElem?_eq_getElem h]
      have := hd l[k + 1] (List.getElem_mem _)
      simp only [Option.getD_some]
      omega
    · rw [List.drop_eq_nil_of_le (by omega), List.getElem?_eq_none (by omega)]; rfl
  rw [e1, e2, valL, ← e3]
  generalize l[k]?.getD 0 = x at *
  generalize valL (l.drop (k + 1)) = y
  have hsp := shift_parts hn
  have hlow : x / 2 ^ n < 2 ^ (32 - n) := by
    rw [Nat.div_lt_iff_lt_mul (Nat.pow_pos (by omega)), Nat.mul_comm, hsp]; exact hx
  have e4 : (x + 4294967296 * y) / 2 ^ n = x / 2 ^ n + 2 ^ (32 - n) * y := by
    rw [← hsp, Nat.mul_assoc, Nat.add_mul_div_left _ _ (Nat.pow_pos (by omega))]
  rw [e4]
  have hm : 2 ^ (32 - n) * y % 4294967296 = 2 ^ (32 - n) * (y % 2 ^ n) := by
    rw [← hsp, Nat.mul_comm (2 ^ n), Nat.mul_mod_mul_left]
  have hm2 : y % 4294967296 * 2 ^ (32 - n) % 4294967296 = 2 ^ (32 - n) * (y % 2 ^ n) := by
    rw [← hm, Nat.mul_comm, Nat.mul_mod, Nat.mod_mod, ← Nat.mul_mod]
  rw [hm2]
  have hor := Nat.two_pow_add_eq_or_of_lt (i := 32 - n) (b := x / 2 ^ n) hlow (y % 2 ^ n)
  rw [Nat.or_comm, ← hor]
  have hy := Nat.mod_lt y (show 0 < 2 ^ n from Nat.pow_pos (by omega))
  have hle : 2 ^ (32 - n) * (y % 2 ^ n + 1) ≤ 2 ^ (32 - n) * 2 ^ n := Nat.mul_le_mul_left _ hy
  rw [Nat.mul_comm _ (2 ^ n), hsp, Nat.mul_add, Nat.mul_one] at hle
  have := Nat.div_add_mod (2 ^ (32 - n) * y) 4294967296
  rw [hm] at this
  omega

end Go.Proofs.YtebigkjilklodaaDoor

/- The program's natural numbers: digits shifted back. -/
namespace Go.Proofs.YtebigkjilklodaaDoor
open Go.RowKit

theorem digs_pad_at {k m x : Nat} (hk : k < m) : (digs k x ++ List.replicate (m - k) 0)[k]? = some 0 := pad_at (digs_length k x) hk
theorem digs_pad_set {k m x : Nat} (hk : k < m) : (digs k x ++ List.replicate (m - k) 0).set k (x / 4294967296 ^ k % 4294967296) = digs (k + 1) x ++ List.replicate (m - (k + 1)) 0 := by
  rw [set_pad (digs_length k x) hk, digs_succ]
theorem down_vals {n x y : Nat} (hn : n ≤ 31) (hx : x < 4294967296) (hy : y < 4294967296) :
    bits .or .u32 ((x : Int) / 2 ^ n) (IntKind.u64.wrap ((y : Int) * 2 ^ (32 - n)) % 4294967296) = ((x / 2 ^ n ||| y * 2 ^ (32 - n) % 4294967296 : Nat) : Int) := by
  have e : ((y : Int) * 2 ^ (32 - n)) = ((y * 2 ^ (32 - n) : Nat) : Int) := by rw [Int.natCast_mul, Int.natCast_pow]; rfl
  have e0 : ((x : Int) / 2 ^ n) = ((x / 2 ^ n : Nat) : Int) := by rw [Int.natCast_ediv, Int.natCast_pow]; rfl
  have hN : 2 ^ (32 - n) ≤ 4294967296 := Nat.pow_le_pow_right (show 0 < 2 by omega) (show 32 - n ≤ 32 by omega)
  have hm : y * 2 ^ (32 - n) ≤ 4294967295 * 4294967296 := Nat.mul_le_mul (by omega) hN
  have hd : x / 2 ^ n ≤ x := Nat.div_le_self _ _
  rw [e, e0]
  generalize y * 2 ^ (32 - n) = z at *
  have e2 : IntKind.u64.wrap (z : Int) = z := by rw [IntKind.wrap_u64]; omega
  rw [e2, u64_mod, u32_or_nat _ _ (by omega) (Nat.mod_lt _ (by omega))]

set_option maxHeartbeats 1000000 in
set_option maxRecDepth 100000 in
theorem pdown_any (v1 : Value) (l : List Nat) (n : Nat) (w : World) (h1 : LimbsAt w.heap.size w v1 l) (d1 : Dig l) (n1 : l.length ≤ 100000000) (hn : n ≤ 31) :
    Calls Tryd.prog 100 #[v1, .int .i64 n] w fun e w' => ∃ v, e = .returned v ∧ NatAt w'.heap.size w' v (valL l / 2 ^ n) ∧ Below w.heap.size w w' := by
  obtain ⟨i0, hi, hz0, hz1, hz2⟩ := info_parts Tryd.infoU32
  obtain ⟨ao1, cap1, rfl, _, hc1⟩ := h1.open
  have HC1 := Lib.hid hc1
  have D1 := Lib.hid d1
  have HD := Lib.hid (fun k (hk : k < l.length) => down_digit d1 hn hk)
  have hX : valL l / 2 ^ n < 4294967296 ^ l.length := Nat.lt_of_le_of_lt (Nat.div_le_self _ _) (valL_lt d1)
  obtain ⟨X, hXe⟩ : ∃ X, X = valL l / 2 ^ n := ⟨_, rfl⟩
  rw [← hXe] at HD hX ⊢
  obtain ⟨L1, e1⟩ : ∃ L, L = l.length := ⟨_, rfl⟩
  rw [← e1] at HC1 HD hX n1 ⊢
  have E1 := Lib.hid e1
  have HX := Lib.hid hX
  clear h1 hc1 d1 e1 hXe hX
  go_enter Tryd.func100, Tryd.ntmps100
  go_wp2_with (at_make; refine wpList_make_full _ rfl _ _ 104 rfl w.heap.size 101 i0 (.int .u32 0) 1 Tryd.underlying104 hi hz0 hz1 _ _ _ _ L1 rfl rfl ?c1 ?c2 ?b2 ?b3 ?b4 ?_)
  case c1 => rfl
  case c2 => rfl
  case b2 => rw [hz2]; omega
  case b3 => unfold maxLen; omega
  case b4 => omega
  intro w1 hown hgrow
  have HO := Lib.hid (OwnL.made hown)
  have HB : Hid (Below w.heap.size w w1) := (Below.refl _ _).grown hgrow (Nat.le_refl _) (fun j hj => by cases hj)
  clear hown hgrow
  go_wp2
  go_loopw [13] (fun i wr => ∃ (k : Nat), k ≤ L1 ∧ i = .int .i64 k ∧ Hid (OwnL 101 wr w.heap.size w.heap.size L1 (u32s (digs k X ++ List.replicate (L1 - k) 0))) ∧ Hid (Below w.heap.size w wr)) (fun i _ => L1 - (intOf i).toNat)
  case atStart =>
    refine ⟨0, Nat.zero_le _, rfl, ?_, HB⟩
    have := HO.out
    rw [← u32s_zeros] at this
    exact this
  case round =>
    clear HO HB
    obtain ⟨k, hk, rfl, HO, HB⟩ := hrel
    by_cases hlt : k < L1
    · have hlz : (k : Int) < L1 := by omega
      obtain ⟨b1, o1, rfl, hb1, g1⟩ := HC1.out k hlt
      have hcell1 := (HB.out.cell (p := ⟨b1, o1 + k, none⟩) hb1).trans g1
      have hx1 := D1.out.at k
      have hy1 := D1.out.at (k + 1)
      have HD1 := Lib.hid (HD.out k hlt)
      have hold := HO.out.cell (j := k) (by rw [u32s_get _ k (by simp [digs_length]; omega), digs_pad_at hlt])
      have hfree := HO.out.free k
      have hne : b1 ≠ w.heap.size := by omega
      obtain ⟨x, hx⟩ : ∃ x, x = l[k]?.getD 0 := ⟨_, rfl⟩
      rw [← hx] at hcell1 hx1 HD1
      clear hx g1
      by_cases hlt2 : k + 1 < L1
      · have hlz2 : (k : Int) + 1 < L1 := by omega
        obtain ⟨b2, o2, eo, hb2, g2⟩ := HC1.out (k + 1) hlt2
        simp only [Option.some.injEq, Addr.mk.injEq, and_true] at eo
        obtain ⟨rfl, rfl⟩ := eo
        have hcell2 := (HB.out.cell (p := ⟨b1, o1 + (k + 1), none⟩) hb1).trans g2
        obtain ⟨y, hy⟩ : ∃ y, y = l[k + 1]?.getD 0 := ⟨_, rfl⟩
        rw [← hy] at hcell2 hy1 HD1
        clear hy g2
        have hv := down_vals hn hx1 hy1
        rw [← HD1.out] at hv
        have HV := Lib.hid hv
        have hset := HO.out.set k (.int .u32 ((x : Int) / 2 ^ n))
        have hset := hset.set k (.int .u32 ((X / 4294967296 ^ k % 4294967296 : Nat) : Int))
        rw [List.set_set, u32s_set, digs_pad_set hlt] at hset
        have HSET := Lib.hid hset
        have e1 : 0 ≤ (k : Int) + 1 := by omega
        have e2 : IntKind.i64.wrap ((k : Int) + 1) = (k : Int) + 1 := IntWalk.i64_in _ (by omega)
        have e3 : ((k : Int) + 1).toNat = k + 1 := by omega
        have e4 : 0 ≤ (32 : Int) - n := by omega
        have e5 : IntKind.i64.wrap ((32 : Int) - n) = 32 - n := IntWalk.i64_in _ (by omega)
        clear hv hset
        go_wp2
        go_region
        rw [HV.out]
        clear e1 e2 e3 e4 e5
        go_wp2
        go_roundw
        case rel => exact ⟨k + 1, by omega, by go_num, HSET.drew, ((HB.out.setCell (p := ⟨w.heap.size, k, none⟩) (Nat.le_refl _) _).setCell (p := ⟨w.heap.size, k, none⟩) (Nat.le_refl _) _).drew⟩
        case measure => simp [intOf]; omega
      · have hlz2 : ¬ (k : Int) + 1 < L1 := by omega
        have hy : l[k + 1]?.getD 0 = 0 := by rw [List.getElem?_eq_none (by have := E1.out; omega)]; rfl
        rw [hy, Nat.zero_mul, Nat.zero_mod, Nat.or_zero] at HD1
        have hv : ((x : Int) / 2 ^ n) = ((X / 4294967296 ^ k % 4294967296 : Nat) : Int) := by rw [HD1.out, Int.natCast_ediv, Int.natCast_pow]; rfl
        have hset := HO.out.set k (.int .u32 ((X / 4294967296 ^ k % 4294967296 : Nat) : Int))
        rw [u32s_set, digs_pad_set hlt] at hset
        have HSET := Lib.hid hset
        have HV := Lib.hid hv
        clear hv hset hy hy1
        go_wp2
        rw [HV.out]
        go_roundw
        case rel => exact ⟨k + 1, by omega, by go_num, HSET, HB.out.setCell (p := ⟨w.heap.size, k, none⟩) (Nat.le_refl _) _⟩
        case measure => simp [intOf]; omega
    · obtain rfl : k = L1 := by omega
      have hlz : ¬ (k : Int) < k := by omega
      rw [Nat.sub_self, List.replicate_zero, List.append_nil] at HO
      have hrow := LimbsAt.of_own HO.out
      have hdd := digs_dig k X
      have HT := trim_any _ (some ⟨w.heap.size, 0, none⟩) k (digs k X) wr hrow hdd (by rw [digs_length]; omega)
      have HR := hrow.trimmed hdd
      rw [digs_length] at HT
      rw [digs_val, Nat.mod_eq_of_lt HX.out] at HR HT
      have HR := Lib.hid HR
      have HT := Lib.hid HT
      clear hrow hdd
      go_wp2_with fail
      refine HT.out.mono ?_
      rintro e w' ⟨rfl, rfl⟩
      go_wp2_with fail
      go_ret
      exact ⟨_, rfl, HR.out, HB.out⟩

end Go.Proofs.YtebigkjilklodaaDoor

/- The program's natural numbers: the estimate of a digit of a quotient. -/
namespace Go.Proofs.YtebigkjilklodaaDoor
open Go.RowKit

set_option maxHeartbeats 1000000 in
set_option maxRecDepth 100000 in
theorem pest_any (u0 u1 u2 v0 v1 v2 : Nat) (w : World) (hu0 : u0 ≤ v0) (hu1 : u1 < 4294967296) (hu2 : u2 < 4294967296) (hv0 : v0 < 4294967296) (hv1 : v1 < 4294967296) (hv : 2147483648 ≤ v0) :
    Calls Tryd.prog 97 #[.agg #[.int .u32 u0, .int .u32 u1, .int .u32 u2], .agg #[.int .u32 v0, .int .u32 v1, .int .u32 v2]] w fun e w' =>
      e = .returned (.int .u64 ((min (((u0 * 4294967296 + u1) * 4294967296 + u2) / (v0 * 4294967296 + v1)) 4294967295 : Nat) : Int)) ∧ Below w.heap.size w w' := by
  have hor := or_high (r := u0) (a := u1) (by omega) hu1
  have hf := est_first (u1 := u1) hu0 hu1 hv
  obtain ⟨top, htop⟩ : ∃ top, top = u0 * 4294967296 + u1 := ⟨_, rfl⟩
  rw [← htop] at hor hf
  have htl : top < 18446744073709551616 := by omega
  have hdm := Nat.div_add_mod top v0
  rw [Nat.mul_comm] at hdm
  have hml := Nat.mod_lt top (show 0 < v0 by omega)
  obtain ⟨R, hR⟩ : ∃ R, R = min (((u0 * 4294967296 + u1) * 4294967296 + u2) / (v0 * 4294967296 + v1)) 4294967295 := ⟨_, rfl⟩
  rw [← hR]
  rw [← htop] at hR
  have hRq : R ≤ top / v0 := by
    rw [hR]
    refine Nat.le_trans (Nat.min_le_left _ _) ?_
    rw [Nat.le_div_iff_mul_le (by omega)]
    have h1 := Nat.div_mul_le_self (top * 4294967296 + u2) (v0 * 4294967296 + v1)
    generalize (top * 4294967296 + u2) / (v0 * 4294967296 + v1) = q at h1
    rw [Nat.mul_add, ← Nat.mul_assoc] at h1
    have h2 : q * v0 * 4294967296 < (top + 1) * 4294967296 := by omega
    have := Nat.lt_of_mul_lt_mul_right h2
    omega
  have HT := Lib.hid htop
  have HR := Lib.hid hR
  obtain ⟨q0, hq0⟩ : ∃ q, q = top / v0 := ⟨_, rfl⟩
  obtain ⟨r0, hr0⟩ : ∃ r, r = top % v0 := ⟨_, rfl⟩
  have e1 : IntKind.u64.wrap ((top : Int) / v0) = q0 := by rw [hq0, ← Int.natCast_ediv, IntKind.wrap_u64]; rw [← hq0] at hf ⊢; omega
  have e2 : ((top : Int) % v0) = r0 := by rw [hr0, Int.natCast_emod]
  rw [← hq0] at hf hRq hdm
  rw [← hr0] at hml hdm
  have HDM := Lib.hid hdm
  have E1 := Lib.hid e1
  have E2 := Lib.hid e2
  clear htop hR hq0 hr0 hdm e1 e2
  have hvz : ¬ (v0 : Int) = 0 := by omega
  have hvz2 : ((v0 : Int) == 0) = false := by simp; omega
  go_enter Tryd.func97, Tryd.ntmps97
  go_wp2
  go_step3
  go_wp2
  go_quiet (fail)
  go_wp2
  go_step3
  go_wp2
  rw [E1.out, E2.out]
  obtain ⟨W0, hW0⟩ : ∃ W0, W0 = ((w.alloc (Obj.cells #[.int .u32 (u0 : Int), .int .u32 u1, .int .u32 u2] 160)).alloc (Obj.cells #[.int .u32 (v0 : Int), .int .u32 v1, .int .u32 v2] 160)).drewN nq := ⟨_, rfl⟩
  have HB : Hid (Below w.heap.size w W0) := by rw [hW0]; exact bl_drews (((Below.refl _ _).alloc (Nat.le_refl _) _).alloc (by simp) _) (Drew.n _ _)
  have c0 : W0.cell? ⟨w.heap.size + 1, 0, none⟩ = some (.int .u32 v0) := by rw [hW0]; simp [go_sem]
  have c1 : W0.cell? ⟨w.heap.size + 1, 1, none⟩ = some (.int .u32 v1) := by rw [hW0]; simp [go_sem]
  have c2 : W0.cell? ⟨w.heap.size, 2, none⟩ = some (.int .u32 u2) := by rw [hW0]; simp [go_sem]
  rw [← hW0]
  clear hW0 hor
  go_loopw [6, 7] (fun a b wr => ∃ q r : Nat, a = .int .u64 q ∧ b = .int .u64 r ∧ q ≤ 4294967297 ∧ r ≤ 4294967295 ∧ Hid (q * v0 + r = top) ∧ Hid (R ≤ q) ∧ wr = W0) (fun a _ _ => (intOf a).toNat)
  case atStart => exact ⟨q0, r0, rfl, rfl, hf, by omega, HDM, hRq, rfl⟩
  case round =>
    obtain ⟨q, r, rfl, rfl, hq1, hr1, HI, HRQ, rfl⟩ := hrel
    have HMORE := Lib.hid (fun hg => est_more (u2 := u2) (v0 := v0) (v1 := v1) HI.out (by rw [← HR.out]; exact HRQ.out) (by omega) hg)
    rw [← HR.out] at HMORE
    have HDONE := Lib.hid (fun hg h2 => est_done (u2 := u2) (v0 := v0) (v1 := v1) HI.out (by rw [← HR.out]; exact HRQ.out) (by omega) hg h2)
    rw [← HR.out] at HDONE
    have hor2 := or_high (r := r) (a := u2) (by omega) hu2
    have hm : q * v1 ≤ 4294967297 * 4294967295 := Nat.mul_le_mul hq1 (by omega)
    have hqv : ((q : Int) * v1) = ((q * v1 : Nat) : Int) := (Int.natCast_mul _ _).symm
    obtain ⟨m, hme⟩ : ∃ m, m = q * v1 := ⟨_, rfl⟩
    rw [← hme] at hm hqv HMORE HDONE
    clear hme
    obtain ⟨t, hte⟩ : ∃ t, t = r * 4294967296 + u2 := ⟨_, rfl⟩
    rw [← hte] at hor2 HMORE HDONE
    have htl2 : t < 18446744073709551616 := by omega
    clear hte
    by_cases hg : 4294967295 < q ∨ t < m
    · obtain ⟨g1, g2, g3⟩ := HMORE.out hg
      obtain ⟨p, hp⟩ : ∃ p, p = q - 1 := ⟨_, rfl⟩
      rw [← hp] at g2 g3
      have hpe : (q : Int) - 1 = p := by omega
      have hpq : (p : Int) < q := by omega
      have G2 := Lib.hid g2
      have G3 := Lib.hid g3
      clear g2 g3 HMORE HDONE hp
      by_cases hbr : 4294967295 < r + v0
      · have hbr2 : (r : Int) + v0 > 4294967295 := by omega
        have HBR : Hid (p = R) := by
          show p = R
          have h1 := G2.out
          rw [HT.out] at h1
          have h2 := G3.out
          rw [HR.out, HT.out] at h2
          rw [est_broke h1 h2 hu0 hu1 (by omega) hv1 hbr, ← HT.out, ← HR.out]
        by_cases hq : 4294967295 < q
        · have hq2 : (q : Int) > 4294967295 := by omega
          clear hor2 hqv
          go_wp2
          try rw [Exit.noGoto_ret]
          go_ret
          exact ⟨congrArg (fun n : Nat => Ending.returned (.int .u64 (n : Int))) HBR.out, HB.out⟩
        · have hq2 : ¬ (q : Int) > 4294967295 := by omega
          have hmt : (m : Int) > t := by omega
          go_wp2
          try rw [Exit.noGoto_ret]
          go_ret
          exact ⟨congrArg (fun n : Nat => Ending.returned (.int .u64 (n : Int))) HBR.out, HB.out⟩
      · have hbr2 : ¬ (r : Int) + v0 > 4294967295 := by omega
        by_cases hq : 4294967295 < q
        · have hq2 : (q : Int) > 4294967295 := by omega
          clear hor2 hqv
          go_wp2
          go_roundw
          case rel => exact ⟨p, r + v0, rfl, by go_num, by omega, by omega, G2, G3, trivial⟩
          case measure => simp [intOf]; omega
        · have hq2 : ¬ (q : Int) > 4294967295 := by omega
          have hmt : (m : Int) > t := by omega
          go_wp2
          go_roundw
          case rel => exact ⟨p, r + v0, rfl, by go_num, by omega, by omega, G2, G3, trivial⟩
          case measure => simp [intOf]; omega
    · have hq : ¬ 4294967295 < q := fun h => hg (.inl h)
      have ht : ¬ t < m := fun h => hg (.inr h)
      have hq2 : ¬ (q : Int) > 4294967295 := by omega
      have hmt : ¬ (m : Int) > t := by omega
      have HE := Lib.hid (HDONE.out (by omega) (by omega))
      clear HMORE HDONE hg hq ht
      go_wp2
      try rw [Exit.noGoto_ret]
      go_ret
      exact ⟨congrArg (fun n : Nat => Ending.returned (.int .u64 (n : Int))) HE.out, HB.out⟩

end Go.Proofs.YtebigkjilklodaaDoor

/- The program's natural numbers: a multiple of the divisor is taken from a window, or given back. -/
namespace Go.Proofs.YtebigkjilklodaaDoor
open Go.RowKit

theorem win_set {lo y x hi : List Nat} {j k d : Nat} (hj : lo.length = j) (hy : y.length = k) (hk : k < x.length) : (lo ++ (y ++ x.drop k) ++ hi).set (j + k) d = lo ++ ((y ++ [d]) ++ x.drop (k + 1)) ++ hi := by
  subst hj hy
  rw [List.drop_eq_getElem_cons hk]
  generalize x[y.length] = h
  generalize x.drop (y.length + 1) = r
  simp [List.append_assoc]
theorem win_at {lo y x hi : List Nat} {j k : Nat} (hj : lo.length = j) (hy : y.length = k) (hk : k < x.length) : (lo ++ (y ++ x.drop k) ++ hi)[j + k]?.getD 0 = x[k]?.getD 0 := by
  subst hj hy
  rw [List.drop_eq_getElem_cons hk, List.getElem?_eq_getElem hk]
  generalize x[y.length] = h
  generalize x.drop (y.length + 1) = r
  simp [List.append_assoc, List.getElem?_append_right]
theorem win_len {lo y x hi : List Nat} {j k n : Nat} (hj : lo.length = j) (hy : y.length = k) (hx : x.length = n) (hk : k ≤ n) : (lo ++ (y ++ x.drop k) ++ hi).length = j + n + hi.length := by
  simp; omega
theorem and_mask {p : Nat} (hp : p < 18446744073709551616) : bits .and .u64 (p : Int) 4294967295 = ((p % 4294967296 : Nat) : Int) := by
  have := u64_and_nat p 4294967295 hp (by omega)
  rw [show (p &&& 4294967295) = p % 4294967296 from Nat.and_two_pow_sub_one_eq_mod p 32] at this
  exact this
theorem sub_u64b {x lo b : Nat} (h1 : x < 4294967296) (h2 : lo < 4294967296) (hb : b ≤ 1) : ∃ b' o : Nat, b' ≤ 1 ∧ o < 4294967296 ∧ x + b' * 4294967296 = o + lo + b ∧
    IntKind.u64.wrap (IntKind.u64.wrap ((x : Int) - lo) - b) % 4294967296 = (o : Int) ∧ IntKind.u64.wrap (IntKind.u64.wrap ((x : Int) - lo) - b) / 9223372036854775808 = (b' : Int) := by
  simp only [IntKind.wrap_u64]
  by_cases h : lo + b ≤ x
  · exact ⟨0, x - lo - b, by omega, by omega, by omega, by omega, by omega⟩
  · exact ⟨1, x + 4294967296 - lo - b, by omega, by omega, by omega, by omega, by omega⟩

/-- Only one block has changed. -/
def Only (g : Nat) (w w' : World) : Prop := ∀ k, k ≠ g → w'.heap[k]? = w.heap[k]?
theorem Only.refl (g : Nat) (w : World) : Only g w w := fun _ _ => rfl
theorem Only.drewN {g : Nat} {w w' : World} (h : Only g w w') (n : Nat) : Only g w (w'.drewN n) := h
theorem Only.set {g : Nat} {w w' : World} (h : Only g w w') (j : Nat) (u : Value) : Only g w (w'.setCell ⟨g, j, none⟩ u) := fun k hk => (heap_setCell_other w' ⟨g, j, none⟩ k u hk).trans (h k hk)

def TakeEnd (B g cap Bv gv capv n : Nat) (lo x hi v zs : List Nat) (q : Nat) (w : World) (e : Ending) (w' : World) : Prop :=
  ∃ (more : Bool) (y : List Nat), e = .returned (.bool more) ∧ y.length = n + 1 ∧ Dig y ∧ valL x + (if more then 4294967296 ^ (n + 1) else 0) = valL y + q * valL v ∧
    OwnL 101 w' B g cap (u32s (lo ++ y ++ hi)) ∧ OwnL 101 w' Bv gv capv (u32s (v ++ zs)) ∧ Below B w w' ∧ w'.heap.size = w.heap.size ∧ Only g w w'

set_option maxHeartbeats 1000000 in
set_option maxRecDepth 100000 in
theorem ptake_any (B g cap j cu Bv gv capv cv n : Nat) (lo x hi v zs : List Nat) (q : Nat) (w : World) (hu : OwnL 101 w B g cap (u32s (lo ++ x ++ hi))) (hv : OwnL 101 w Bv gv capv (u32s (v ++ zs)))
    (hne : gv ≠ g) (hj : lo.length = j) (hx : x.length = n + 1) (hvl : v.length = n) (dx : Dig x) (dv : Dig v) (hq : q < 4294967296) (hjs : j ≤ 1000000000) (hns : n ≤ 100000000) :
    Calls Tryd.prog 98 #[.slice (some ⟨g, j, none⟩) (n + 1) cu, .slice (some ⟨gv, 0, none⟩) n cv, .int .u64 q] w (TakeEnd B g cap Bv gv capv n lo x hi v zs q w) := by
  have HU : Hid (OwnL 101 w B g cap (u32s (lo ++ ([] ++ x.drop 0) ++ hi))) := by rw [List.drop_zero, List.nil_append]; exact hu
  have HV := Lib.hid hv
  have DX := Lib.hid dx
  have DV := Lib.hid dv
  have LO := Lib.hid hj
  have LX := Lib.hid hx
  have LV := Lib.hid hvl
  have hBg := hu.lt.1
  clear hu hv hj hx hvl dx dv
  go_enter Tryd.func98, Tryd.ntmps98
  go_wp2
  go_loopw [15, 7, 8] (fun iv cv bv wr => ∃ (k c b : Nat) (y : List Nat), k ≤ n ∧ iv = .int .i64 k ∧ cv = .int .u64 c ∧ bv = .int .u64 b ∧ c < 4294967296 ∧ b ≤ 1 ∧ Hid (y.length = k) ∧ Hid (Dig y) ∧ Hid (valL (x.take k) + (c + b) * 4294967296 ^ k = valL y + q * valL (v.take k)) ∧
    Hid (OwnL 101 wr B g cap (u32s (lo ++ (y ++ x.drop k) ++ hi))) ∧ Hid (OwnL 101 wr Bv gv capv (u32s (v ++ zs))) ∧ Hid (Below B w wr) ∧ Hid (wr.heap.size = w.heap.size) ∧ Hid (Only g w wr)) (fun iv _ _ _ => n - (intOf iv).toNat)
  case atStart => exact ⟨0, 0, 0, [], Nat.zero_le _, rfl, rfl, rfl, by omega, by omega, rfl, Dig.nil, (by show _ = _; simp [valL]), HU, HV, Below.refl _ _, rfl, Only.refl _ _⟩
  case round =>
    clear HU HV
    obtain ⟨k, c, b, y, hk, rfl, rfl, rfl, hc, hb, LY, DY, VY, HU, HV, HB, HS, HN⟩ := hrel
    by_cases hlt : k < n
    · have hlz : (k : Int) < n := by omega
      have hkx : k < x.length := by have := LX.out; omega
      have hcellu := HU.out.cell (j := j + k) (u32s_get _ (j + k) (by rw [win_len LO.out LY.out LX.out (by omega)]; omega))
      rw [win_at LO.out LY.out hkx] at hcellu
      have hfree := HU.out.free (j + k)
      have hcellv := HV.out.cell (j := k) (u32s_get _ k (by have := LV.out; simp; omega))
      rw [List.getElem?_append_left (by have := LV.out; omega)] at hcellv
      have hx1 := DX.out.at k
      have hv1 := DV.out.at k
      have HN1 := Lib.hid (valL_take_next x k)
      have HN2 := Lib.hid (valL_take_next v k)
      have HSTEP := Lib.hid (fun b' c' o l h1 h2 => step_take (x := x[k]?.getD 0) (v := v[k]?.getD 0) (b' := b') (c' := c') (y := o) (lo := l) VY.out h1 h2)
      rw [← HN1.out, ← HN2.out] at HSTEP
      obtain ⟨a, ha⟩ : ∃ a, a = x[k]?.getD 0 := ⟨_, rfl⟩
      obtain ⟨z, hz⟩ : ∃ z, z = v[k]?.getD 0 := ⟨_, rfl⟩
      rw [← ha] at hcellu hx1 HSTEP
      rw [← hz] at hcellv hv1 HSTEP
      clear ha hz
      have hm : q * z ≤ 4294967295 * 4294967295 := Nat.mul_le_mul (by omega) (by omega)
      have hqz : ((q : Int) * z) = ((q * z : Nat) : Int) := (Int.natCast_mul _ _).symm
      obtain ⟨m, hme⟩ : ∃ m, m = q * z := ⟨_, rfl⟩
      rw [← hme] at hm hqz HSTEP
      clear hme
      obtain ⟨p, hp⟩ : ∃ p, p = m + c := ⟨_, rfl⟩
      have hpz : (m : Int) + c = p := by omega
      have hpl : p < 18446744073709551616 := by omega
      have hmask := and_mask hpl
      have hlo : p % 4294967296 < 4294967296 := Nat.mod_lt _ (by omega)
      have hc' : p / 4294967296 < 4294967296 := by omega
      obtain ⟨l, hl⟩ : ∃ l, l = p % 4294967296 := ⟨_, rfl⟩
      rw [← hl] at hmask hlo
      obtain ⟨b', d, hb', hd, hsum, q1, q2⟩ := sub_u64b hx1 hlo hb
      have HST := Lib.hid (HSTEP.out b' (p / 4294967296) d l hsum (by omega))
      have Q1 := Lib.hid q1
      have Q2 := Lib.hid q2
      have hset := HU.out.set (j + k) (.int .u32 (d : Int))
      rw [u32s_set, win_set LO.out LY.out hkx] at hset
      have HSET := Lib.hid hset
      have hpd : ((p : Int) / 4294967296) = ((p / 4294967296 : Nat) : Int) := by omega
      have HPD := Lib.hid hpd
      have e1 : (k : Int) < (n : Int) + 1 := by omega
      clear HSTEP hp hl hsum q1 q2 hset hpd hkx
      go_wp2
      rw [Q1.out, Q2.out, HPD.out]
      go_roundw
      case rel =>
        refine ⟨k + 1, p / 4294967296, b', y ++ [d], by omega, by go_num, rfl, rfl, hc', hb', ?_, DY.out.append (Dig.one hd), ?_, HSET, HV.out.other _ _ hne, HB.out.setCell (p := ⟨g, j + k, none⟩) hBg _, ?_, HN.out.set _ _⟩
        · show (y ++ [_]).length = _
          have := LY.out; simp; omega
        · show _ = valL (y ++ [_]) + _
          rw [valL_snoc, LY.out, Nat.pow_succ]
          exact HST.out
        · show (World.setCell _ _ _).heap.size = _
          rw [World.size_setCell]; exact HS.out
      case measure => simp [intOf]; omega
    · obtain rfl : k = n := by omega
      have hlz : ¬ (k : Int) < k := by omega
      have hkx : k < x.length := by have := LX.out; omega
      have hcellu := HU.out.cell (j := j + k) (u32s_get _ (j + k) (by rw [win_len LO.out LY.out LX.out (by omega)]; omega))
      rw [win_at LO.out LY.out hkx] at hcellu
      have hfree := HU.out.free (j + k)
      have hx1 := DX.out.at k
      have HN1 := Lib.hid (valL_take_next x k)
      obtain ⟨a, ha⟩ : ∃ a, a = x[k]?.getD 0 := ⟨_, rfl⟩
      rw [← ha] at hcellu hx1 HN1
      clear ha
      obtain ⟨b', d, hb', hd, hsum, q1, q2⟩ := sub_u64b hx1 hc hb
      have hset := HU.out.set (j + k) (.int .u32 (d : Int))
      rw [u32s_set, win_set LO.out LY.out hkx, List.drop_eq_nil_of_le (by have := LX.out; omega), List.append_nil] at hset
      have HSET := Lib.hid hset
      have hval : valL x + b' * 4294967296 ^ (k + 1) = valL (y ++ [d]) + q * valL v := by
        have h1 := VY.out
        have h2 := HN1.out
        rw [List.take_of_length_le (by have := LX.out; omega)] at h2
        rw [List.take_of_length_le (l := v) (by have := LV.out; omega)] at h1
        rw [valL_snoc, LY.out, Nat.pow_succ]
        have key : a + b' * 4294967296 = d + c + b := hsum
        have k2 := congrArg (4294967296 ^ k * ·) key
        simp only [Nat.mul_add, Nat.add_mul] at k2 h1
        have e1 : b' * (4294967296 ^ k * 4294967296) = 4294967296 ^ k * (b' * 4294967296) := Nat.mul_left_comm _ _ _
        have e2 : c * 4294967296 ^ k = 4294967296 ^ k * c := Nat.mul_comm _ _
        have e3 : b * 4294967296 ^ k = 4294967296 ^ k * b := Nat.mul_comm _ _
        omega
      have HVAL := Lib.hid hval
      have Q1 := Lib.hid q1
      have hdl : Dig (y ++ [d]) := DY.out.append (Dig.one hd)
      have HDL := Lib.hid hdl
      have hll : (y ++ [d]).length = k + 1 := by have := LY.out; simp; omega
      have HLL := Lib.hid hll
      have HVO := Lib.hid (HV.out.other ⟨g, j + k, none⟩ (.int .u32 (d : Int)) hne)
      have HBO : Hid (Below B w _) := HB.out.setCell (p := ⟨g, j + k, none⟩) hBg (.int .u32 (d : Int))
      have HSO : Hid ((wr.setCell ⟨g, j + k, none⟩ (.int .u32 (d : Int))).heap.size = w.heap.size) := by
        show _ = _
        rw [World.size_setCell]; exact HS.out
      have e1 : (k : Int) < (k : Int) + 1 := by omega
      have Q2 := Lib.hid q2
      clear hset hval hsum hdl hll VY HN1 hkx q1 q2
      go_wp2
      rw [Q1.out, Q2.out]
      go_ret
      refine ⟨((b' : Int) != 0), y ++ [d], rfl, HLL.out, HDL.out, ?_, HSET.out, HVO.out, HBO.out, HSO.out, HN.out.set _ _⟩
      rw [← HVAL.out]
      have hcase : b' = 0 ∨ b' = 1 := by omega
      rcases hcase with rfl | rfl <;> simp

def GiveEnd (B g cap Bv gv capv n : Nat) (lo x hi v zs : List Nat) (w : World) (e : Ending) (w' : World) : Prop :=
  ∃ (y : List Nat), e = .returned (.tuple #[]) ∧ y.length = n + 1 ∧ Dig y ∧ valL y = (valL x + valL v) % 4294967296 ^ (n + 1) ∧
    OwnL 101 w' B g cap (u32s (lo ++ y ++ hi)) ∧ OwnL 101 w' Bv gv capv (u32s (v ++ zs)) ∧ Below B w w' ∧ w'.heap.size = w.heap.size ∧ Only g w w'

set_option maxHeartbeats 1000000 in
set_option maxRecDepth 100000 in
theorem pgive_any (B g cap j cu Bv gv capv cv n : Nat) (lo x hi v zs : List Nat) (w : World) (hu : OwnL 101 w B g cap (u32s (lo ++ x ++ hi))) (hv : OwnL 101 w Bv gv capv (u32s (v ++ zs)))
    (hne : gv ≠ g) (hj : lo.length = j) (hx : x.length = n + 1) (hvl : v.length = n) (dx : Dig x) (dv : Dig v) (hjs : j ≤ 1000000000) (hns : n ≤ 100000000) :
    Calls Tryd.prog 99 #[.slice (some ⟨g, j, none⟩) (n + 1) cu, .slice (some ⟨gv, 0, none⟩) n cv] w (GiveEnd B g cap Bv gv capv n lo x hi v zs w) := by
  have HU : Hid (OwnL 101 w B g cap (u32s (lo ++ ([] ++ x.drop 0) ++ hi))) := by rw [List.drop_zero, List.nil_append]; exact hu
  have HV := Lib.hid hv
  have DX := Lib.hid dx
  have DV := Lib.hid dv
  have LO := Lib.hid hj
  have LX := Lib.hid hx
  have LV := Lib.hid hvl
  have hBg := hu.lt.1
  clear hu hv hj hx hvl dx dv
  go_enter Tryd.func99, Tryd.ntmps99
  go_wp2
  go_loopw [9, 4] (fun iv cv wr => ∃ (k c : Nat) (y : List Nat), k ≤ n ∧ iv = .int .i64 k ∧ cv = .int .u64 c ∧ c ≤ 1 ∧ Hid (y.length = k) ∧ Hid (Dig y) ∧ Hid (valL y + c * 4294967296 ^ k = valL (x.take k) + valL (v.take k)) ∧
    Hid (OwnL 101 wr B g cap (u32s (lo ++ (y ++ x.drop k) ++ hi))) ∧ Hid (OwnL 101 wr Bv gv capv (u32s (v ++ zs))) ∧ Hid (Below B w wr) ∧ Hid (wr.heap.size = w.heap.size) ∧ Hid (Only g w wr)) (fun iv _ _ => n - (intOf iv).toNat)
  case atStart => exact ⟨0, 0, [], Nat.zero_le _, rfl, rfl, by omega, rfl, Dig.nil, (by show _ = _; simp [valL]), HU, HV, Below.refl _ _, rfl, Only.refl _ _⟩
  case round =>
    clear HU HV
    obtain ⟨k, c, y, hk, rfl, rfl, hc, LY, DY, VY, HU, HV, HB, HS, HN⟩ := hrel
    by_cases hlt : k < n
    · have hlz : (k : Int) < n := by omega
      have hkx : k < x.length := by have := LX.out; omega
      have hcellu := HU.out.cell (j := j + k) (u32s_get _ (j + k) (by rw [win_len LO.out LY.out LX.out (by omega)]; omega))
      rw [win_at LO.out LY.out hkx] at hcellu
      have hfree := HU.out.free (j + k)
      have hcellv := HV.out.cell (j := k) (u32s_get _ k (by have := LV.out; simp; omega))
      rw [List.getElem?_append_left (by have := LV.out; omega)] at hcellv
      have hx1 := DX.out.at k
      have hv1 := DV.out.at k
      have HN1 := Lib.hid (valL_take_next x k)
      have HN2 := Lib.hid (valL_take_next v k)
      have HSTEP := Lib.hid (fun s hs => step_sum (a := x[k]?.getD 0) (b := v[k]?.getD 0) (s := s) VY.out hs)
      rw [← HN1.out, ← HN2.out] at HSTEP
      obtain ⟨a, ha⟩ : ∃ a, a = x[k]?.getD 0 := ⟨_, rfl⟩
      obtain ⟨z, hz⟩ : ∃ z, z = v[k]?.getD 0 := ⟨_, rfl⟩
      rw [← ha] at hcellu hx1 HSTEP
      rw [← hz] at hcellv hv1 HSTEP
      clear ha hz
      have HST := Lib.hid (HSTEP.out (a + z + c) rfl)
      have e1 : (k : Int) < (n : Int) + 1 := by omega
      clear HSTEP
      go_wp2
      go_quiet (fail)
      go_wp2
      rw [show ((a : Int) + z + c) % 4294967296 = (((a + z + c) % 4294967296 : Nat) : Int) by omega, show ((a : Int) + z + c) / 4294967296 = (((a + z + c) / 4294967296 : Nat) : Int) by omega]
      have hset := (HU.out.drewN nq).set (j + k) (.int .u32 (((a + z + c) % 4294967296 : Nat) : Int))
      rw [u32s_set, win_set LO.out LY.out hkx] at hset
      have HSET := Lib.hid hset
      clear hset
      go_roundw
      case rel =>
        refine ⟨k + 1, (a + z + c) / 4294967296, y ++ [(a + z + c) % 4294967296], by omega, by go_num, rfl, by omega, ?_, DY.out.append (Dig.one (Nat.mod_lt _ (by omega))), ?_, HSET, (HV.out.drewN nq).other _ _ hne, (bl_drews HB.out (Drew.n _ nq)).setCell (p := ⟨g, j + k, none⟩) hBg _, ?_, (HN.out.drewN nq).set _ _⟩
        · show (y ++ [_]).length = _
          have := LY.out; simp; omega
        · show valL (y ++ [_]) + _ = _
          rw [valL_snoc, LY.out, Nat.pow_succ]
          exact HST.out
        · show (World.setCell _ _ _).heap.size = _
          rw [World.size_setCell]; exact HS.out
      case measure => simp [intOf]; omega
    · obtain rfl : k = n := by omega
      have hlz : ¬ (k : Int) < k := by omega
      have hkx : k < x.length := by have := LX.out; omega
      have hcellu := HU.out.cell (j := j + k) (u32s_get _ (j + k) (by rw [win_len LO.out LY.out LX.out (by omega)]; omega))
      rw [win_at LO.out LY.out hkx] at hcellu
      have hfree := HU.out.free (j + k)
      have hx1 := DX.out.at k
      have HN1 := Lib.hid (valL_take_next x k)
      obtain ⟨a, ha⟩ : ∃ a, a = x[k]?.getD 0 := ⟨_, rfl⟩
      rw [← ha] at hcellu hx1 HN1
      clear ha
      have hset := HU.out.set (j + k) (.int .u32 (((a + c) % 4294967296 : Nat) : Int))
      rw [u32s_set, win_set LO.out LY.out hkx, List.drop_eq_nil_of_le (by have := LX.out; omega), List.append_nil] at hset
      have HSET := Lib.hid hset
      have hdl : Dig (y ++ [(a + c) % 4294967296]) := DY.out.append (Dig.one (Nat.mod_lt _ (by omega)))
      have hll : (y ++ [(a + c) % 4294967296]).length = k + 1 := by have := LY.out; simp; omega
      have hval : valL (y ++ [(a + c) % 4294967296]) = (valL x + valL v) % 4294967296 ^ (k + 1) := by
        have h1 := VY.out
        have h2 := HN1.out
        have h3 := valL_lt hdl
        rw [hll] at h3
        rw [List.take_of_length_le (by have := LX.out; omega)] at h2
        rw [List.take_of_length_le (l := v) (by have := LV.out; omega)] at h1
        rw [valL_snoc, LY.out] at h3 ⊢
        have key : (a + c) % 4294967296 + 4294967296 * ((a + c) / 4294967296) = a + c := by omega
        have k2 := congrArg (4294967296 ^ k * ·) key
        simp only [Nat.mul_add] at k2
        have e2 : c * 4294967296 ^ k = 4294967296 ^ k * c := Nat.mul_comm _ _
        have e3 : valL x + valL v = valL y + 4294967296 ^ k * ((a + c) % 4294967296) + 4294967296 ^ (k + 1) * ((a + c) / 4294967296) := by
          rw [Nat.pow_succ, Nat.mul_assoc]; omega
        rw [e3, Nat.add_mul_mod_self_left, Nat.mod_eq_of_lt h3]
      have HVAL := Lib.hid hval
      have HDL := Lib.hid hdl
      have HLL := Lib.hid hll
      have HVO := Lib.hid (HV.out.other ⟨g, j + k, none⟩ (.int .u32 (((a + c) % 4294967296 : Nat) : Int)) hne)
      have HBO : Hid (Below B w _) := HB.out.setCell (p := ⟨g, j + k, none⟩) hBg (.int .u32 (((a + c) % 4294967296 : Nat) : Int))
      have HSO : Hid ((wr.setCell ⟨g, j + k, none⟩ (.int .u32 (((a + c) % 4294967296 : Nat) : Int))).heap.size = w.heap.size) := by
        show _ = _
        rw [World.size_setCell]; exact HS.out
      have e1 : (k : Int) < (k : Int) + 1 := by omega
      have hac : ((a : Int) + c) % 4294967296 = (((a + c) % 4294967296 : Nat) : Int) := by omega
      have HAC := Lib.hid hac
      clear hset hdl hll hval VY HN1 hkx hac
      go_wp2
      go_end0
      exact ⟨_, rfl, HLL.out, HDL.out, HVAL.out, HSET.out, HVO.out, HBO.out, HSO.out, HN.out.set _ _⟩

end Go.Proofs.YtebigkjilklodaaDoor

/- The program's natural numbers: long division. -/
namespace Go.Proofs.YtebigkjilklodaaDoor
open Go.RowKit

/-- What a division leaves. -/
def DivEnd (a b : Nat) (w : World) (e : Ending) (w' : World) : Prop :=
  ∃ q r, e = .returned (.tuple #[q, r]) ∧ NatAt w'.heap.size w' q (a / b) ∧ NatAt w'.heap.size w' r (a % b) ∧ Below w.heap.size w w'

set_option maxHeartbeats 1000000 in
set_option maxRecDepth 100000 in
theorem pdiv_less (v1 v2 : Value) (a b : Nat) (w : World) (h1 : NatAt w.heap.size w v1 a) (h2 : NatAt w.heap.size w v2 b) (hl : a < b) (n1 : (limbs a).length ≤ 1000000) :
    Calls Tryd.prog 84 #[v1, v2] w (DivEnd a b w) := by
  have H1 := Lib.hid h1
  have HC := Lib.hid (pcmpl_any _ _ v1 v2 a b w h1 h2 (by omega))
  rw [cmpN_lt hl] at HC
  have HB := Lib.hid hl
  clear h1 h2 hl
  go_enter Tryd.func84, Tryd.ntmps84
  go_wp2_with fail
  refine HC.out.mono ?_
  rintro e w' ⟨rfl, n, rfl⟩
  go_wp2_with fail
  go_ret2
  exact ⟨_, _, rfl, (by rw [Nat.div_eq_of_lt HB.out]; unfold NatAt; rw [limbs_zero]; exact RowC.nil _ _), (by rw [Nat.mod_eq_of_lt HB.out]; exact H1.out), Drew.below (Drew.n _ _) _⟩

set_option maxHeartbeats 1000000 in
set_option maxRecDepth 100000 in
theorem pdiv_short (v1 v2 : Value) (a b : Nat) (w : World) (h1 : NatAt w.heap.size w v1 a) (h2 : NatAt w.heap.size w v2 b) (hl : b ≤ a) (hb0 : 0 < b) (hb : b < 4294967296) (n1 : (limbs a).length ≤ 1000000) :
    Calls Tryd.prog 84 #[v1, v2] w (DivEnd a b w) := by
  have H1 := Lib.hid h1
  have HC := Lib.hid (pcmpl_any _ _ v1 v2 a b w h1 h2 (by omega))
  have hcmp : decide (cmpN a b < 0) = false := by
    apply decide_eq_false
    unfold cmpN
    rw [if_neg (by omega)]
    split <;> omega
  obtain ⟨c, hc⟩ : ∃ c, c = cmpN a b := ⟨_, rfl⟩
  rw [← hc] at HC hcmp
  obtain ⟨ao, cap, rfl, _, hc2⟩ := h2.open
  rw [limbs_small hb0 hb] at hc2 HC ⊢
  simp only [List.length_singleton] at hc2 HC ⊢
  obtain ⟨b0, o0, rfl, hbl, hcell⟩ := hc2 0 (by simp)
  simp only [List.getElem?_cons_zero, Option.getD_some, Nat.add_zero] at hcell
  have HN := Lib.hid n1
  clear h1 h2 hc hc2 n1
  go_enter Tryd.func84, Tryd.ntmps84
  go_wp2_with fail
  refine HC.out.mono ?_
  rintro e w' ⟨rfl, n, rfl⟩
  go_wp2_with fail
  refine (pshort_any v1 (limbs a) b (w.drewN n) H1.out (limbs_dig a) (by have := HN.out; omega) hb0 hb).mono ?_
  rintro e w2 ⟨v, rfl, hv, hbw⟩
  rw [valL_limbs] at hv ⊢
  have HV := Lib.hid hv
  have HBW := Lib.hid hbw
  obtain ⟨r, hr⟩ : ∃ r, r = a % b := ⟨_, rfl⟩
  have hrl : r < 4294967296 := by rw [hr]; exact Nat.lt_trans (Nat.mod_lt _ hb0) hb
  rw [← hr]
  have HR := Lib.hid hr
  clear hv hbw hr
  have hrow : LimbsAt (w2.alloc (.cells #[.int .u32 (r : Int)] 101)).heap.size (w2.alloc (.cells #[.int .u32 (r : Int)] 101)) (.slice (some ⟨w2.heap.size, 0, none⟩) [r].length 1) [r] := by
    refine ⟨_, _, rfl, Nat.le_refl _, fun j u hu => ⟨w2.heap.size, 0, rfl, by simp, ?_⟩⟩
    have := cells_new w2 [.int .u32 (r : Int)] 101 j u hu
    rw [add_flat] at this
    exact this
  have hd1 : Dig [r] := Dig.one hrl
  have HT := trim_any _ _ 1 [r] _ hrow hd1 (by simp)
  have HRW := Lib.hid (hrow.trimmed hd1)
  have hv1 : valL [r] = r := by simp [valL]
  rw [hv1] at HT HRW
  have HT := Lib.hid HT
  clear hrow hd1 hv1
  go_wp2_with fail
  refine HT.out.mono ?_
  rintro e w' ⟨rfl, rfl⟩
  go_wp2_with fail
  go_ret2
  exact ⟨_, _, rfl, HV.out.mono ((Below.refl _ _).alloc (Nat.le_refl _) _) (by simp), (by rw [← HR.out]; exact HRW.out), ((Drew.n w n).below _).trans (HBW.out.alloc (by have := HBW.out.size; simpa using this) _)⟩

/-- What the loop of a long division keeps. -/
def DivInv (B gu capu gv capv gq n lq : Nat) (v zs : List Nat) (U0 : Nat) (w wr : World) (J : Nat) (us qs : List Nat) : Prop :=
  us.length = lq + n ∧ Dig us ∧ qs.length = lq - J ∧ Dig qs ∧ OwnL 101 wr B gu capu (u32s us) ∧ OwnL 101 wr B gv capv (u32s (v ++ zs)) ∧ OwnL 101 wr B gq lq (u32s (List.replicate J 0 ++ qs)) ∧
    Below B w wr ∧ valL us < 4294967296 ^ J * valL v ∧ U0 = valL us + valL v * 4294967296 ^ J * valL qs

/-- One round of it. -/
theorem DivInv.next {B gu capu gv capv gq n lq : Nat} {v zs : List Nat} {U0 : Nat} {w wr w' : World} {j : Nat} {lo x hi y qs : List Nat} (h : DivInv B gu capu gv capv gq n lq v zs U0 w wr (j + 1) (lo ++ x ++ hi) qs)
    (hj : j < lq) (ll : lo.length = j) (lx : x.length = n + 1) (ly : y.length = n + 1) (dl : Dig lo) (dh : Dig hi) (dy : Dig y) (hlo : valL lo < 4294967296 ^ j) (hval : valL (lo ++ x ++ hi) = valL lo + 4294967296 ^ j * valL x)
    (hvy : valL (lo ++ y ++ hi) = valL lo + 4294967296 ^ j * valL y) (hV : 0 < valL v) (hy : valL y = valL x % valL v) (hqd : valL x / valL v < 4294967296)
    (hu : OwnL 101 w' B gu capu (u32s (lo ++ y ++ hi))) (hv : OwnL 101 w' B gv capv (u32s (v ++ zs))) (hq : OwnL 101 w' B gq lq (u32s (List.replicate j 0 ++ (valL x / valL v) :: qs))) (hb : Below B w w') :
    DivInv B gu capu gv capv gq n lq v zs U0 w w' j (lo ++ y ++ hi) ((valL x / valL v) :: qs) := by
  obtain ⟨i1, i2, i3, i4, _, _, _, _, _, i10⟩ := h
  refine ⟨by rw [← i1]; simp; omega, (dl.append dy).append dh, by rw [List.length_cons, i3]; omega, Dig.cons hqd i4, hu, hv, hq, hb, ?_, ?_⟩
  · rw [hvy, hy]; exact rest_lt hV hlo
  · rw [hvy, hy, valL]
    refine div_round (R := valL (lo ++ x ++ hi)) ?_ hval rfl
    rw [i10, Nat.pow_succ]

end Go.Proofs.YtebigkjilklodaaDoor

/- Postings by numbers: what they are, and that the law's functions make them. -/
import Derived.Test.YtkimcopmfhjjcaaNatQuo
import Derived.Test.YtkimcopmfhjjcaaName
import Derived.Deep.RegionWith
import Derived.Deep.DeepCutAuto
namespace Go.Proofs.Ytkimcopmfhjjcaa
open Go.RowKit

def acctS (k : Nat) : ByteArray := [⟨#[109, 105, 110, 116]⟩, ⟨#[112, 111, 116]⟩, ⟨#[111, 102, 102, 105, 99, 101]⟩, ⟨#[109, 105, 110, 116, 115]⟩, ⟨#[97]⟩, ⟨#[98]⟩, ⟨#[]⟩][k]?.getD ⟨#[]⟩
/-- The account of a number. -/
def acctI (n : Int) : ByteArray := acctS ((n.tmod 7 + 7).tmod 7).toNat
theorem acctS_size (k : Nat) : (acctS k).size ≤ 6 := by
  have h : k = 0 ∨ k = 1 ∨ k = 2 ∨ k = 3 ∨ k = 4 ∨ k = 5 ∨ 6 ≤ k := by omega
  rcases h with rfl | rfl | rfl | rfl | rfl | rfl | h
  iterate 6 decide
  have : acctS k = ⟨#[]⟩ := by
    unfold acctS
    by_cases h6 : k = 6
    · subst h6; rfl
    · rw [List.getElem?_eq_none (by simp; omega)]; rfl
  rw [this]; decide
theorem mod_in (n m : Int) (hm : 0 < m) : 0 ≤ (n.tmod m + m).tmod m ∧ (n.tmod m + m).tmod m < m ∧ -m < n.tmod m ∧ n.tmod m < m := by
  have h1 := Int.tmod_lt_of_pos n hm
  have h2 := Int.lt_tmod_of_pos n hm
  have h3 := Int.tmod_nonneg m (show 0 ≤ n.tmod m + m by omega)
  have h4 := Int.tmod_lt_of_pos (n.tmod m + m) hm
  omega

set_option maxHeartbeats 1000000 in
theorem account_any (n : Int) (w : World) :
    Calls Try.prog 39 #[.int .i64 n] w fun e w' => e = .returned (.string (acctI n)) ∧ Below w.heap.size w w' := by
  obtain ⟨h1, h2, h3, h4⟩ := mod_in n 7 (by omega)
  obtain ⟨k, hk⟩ := Int.eq_ofNat_of_zero_le h1
  have hres : acctI n = acctS k := by unfold acctI; rw [hk]; rfl
  rw [hres]
  have hcase : k = 0 ∨ k = 1 ∨ k = 2 ∨ k = 3 ∨ k = 4 ∨ k = 5 ∨ k = 6 := by omega
  clear hres h1 h2
  rcases hcase with rfl | rfl | rfl | rfl | rfl | rfl | rfl
  all_goals
    go_enter Try.func39, Try.ntmps39
    go_wp2
    go_ret
    exact ⟨rfl, (Below.refl _ _).alloc (Nat.le_refl _) _⟩

structure ActN where
  key : Int
  src : Int
  dst : Int
  amount : Int
def ActN.val (a : ActN) : Value := .agg #[.int .i64 a.key, .int .i64 a.src, .int .i64 a.dst, .int .i64 a.amount]
def ActN.cells (a : ActN) : List Value := [.int .i64 a.key, .int .i64 a.src, .int .i64 a.dst, .int .i64 a.amount]
def keyI (n : Int) : ByteArray := if n.tmod 31 = 30 then ⟨#[]⟩ else ⟨#[107]⟩ ++ decS ((n.tmod 12 + 12).tmod 12).toNat
/-- The posting of numbers. -/
def ActN.pst (a : ActN) : Pst := ⟨keyI a.key, acctI a.src, acctI a.dst, a.amount⟩

/-- What a region of 'Posting' knows of its two blocks. -/
def ActS (B : Nat) (w : World) (a : ActN) (wx : World) : Prop :=
  wx.heap[B]? = some (.cells a.cells.toArray 64 (0, 0)) ∧ wx.heap[B + 1]? = some (.cells #[.string ⟨#[]⟩, .string ⟨#[]⟩, .string ⟨#[]⟩, .int .i64 0] 40 (0, 0)) ∧ OnB B w wx ∧ B + 2 ≤ wx.heap.size
theorem ActS.next {B : Nat} {w wx w' : World} {a : ActN} (h : ActS B w a wx) (hb : Below wx.heap.size wx w') : ActS B w a w' := by
  obtain ⟨h0, h1, h2, h3⟩ := h
  exact ⟨(hb.block B (by omega)).trans h0, (hb.block (B + 1) (by omega)).trans h1, h2.next hb, Nat.le_trans h3 hb.size⟩
theorem ActS.drew {B : Nat} {w wx : World} {a : ActN} (h : ActS B w a wx) : ActS B w a wx.drew := h.next ((Drew.n wx 1).below _)
theorem ActS.open {B : Nat} {w wx : World} {k s d m : Int} (h : ActS B w ⟨k, s, d, m⟩ wx) :
    wx.cell? ⟨B, 0, none⟩ = some (.int .i64 k) ∧ wx.cell? ⟨B, 1, none⟩ = some (.int .i64 s) ∧ wx.cell? ⟨B, 2, none⟩ = some (.int .i64 d) ∧ wx.cell? ⟨B, 3, none⟩ = some (.int .i64 m) ∧
    wx.cell? ⟨B + 1, 0, none⟩ = some (.string ⟨#[]⟩) ∧ wx.cell? ⟨B + 1, 1, none⟩ = some (.string ⟨#[]⟩) ∧ wx.cell? ⟨B + 1, 2, none⟩ = some (.string ⟨#[]⟩) ∧ wx.cell? ⟨B + 1, 3, none⟩ = some (.int .i64 0) ∧
    wx.frozen? ⟨B + 1, 0, none⟩ = false ∧ wx.frozen? ⟨B + 1, 1, none⟩ = false ∧ wx.frozen? ⟨B + 1, 2, none⟩ = false ∧ wx.frozen? ⟨B + 1, 3, none⟩ = false ∧ ActS B w ⟨k, s, d, m⟩ wx := by
  have h0 := h.1
  have h1 := h.2.1
  refine ⟨?_, ?_, ?_, ?_, ?_, ?_, ?_, ?_, frozen_of_row wx (B + 1) 0 _ _ h1, frozen_of_row wx (B + 1) 1 _ _ h1, frozen_of_row wx (B + 1) 2 _ _ h1, frozen_of_row wx (B + 1) 3 _ _ h1, h⟩
  iterate 4 (rw [cell_of_row wx B _ _ _ _ h0]; rfl)
  iterate 4 (rw [cell_of_row wx (B + 1) _ _ _ _ h1]; rfl)
theorem ActS.shut {B : Nat} {w wx : World} {a : ActN} {p1 p2 p3 p4 p5 p6 p7 p8 p9 p10 p11 p12 : Prop} (h : p1 ∧ p2 ∧ p3 ∧ p4 ∧ p5 ∧ p6 ∧ p7 ∧ p8 ∧ p9 ∧ p10 ∧ p11 ∧ p12 ∧ ActS B w a wx) : ActS B w a wx := h.2.2.2.2.2.2.2.2.2.2.2.2

set_option maxHeartbeats 2000000 in
set_option maxRecDepth 100000 in
theorem act_any (a : ActN) (w : World) :
    Calls Try.prog 27 #[a.val] w fun e w' => e = .returned a.pst.val ∧ Below w.heap.size w w' := by
  obtain ⟨key, src, dst, amount⟩ := a
  obtain ⟨h1, h2, h3, h4⟩ := mod_in key 12 (by omega)
  obtain ⟨k, hk⟩ := Int.eq_ofNat_of_zero_le h1
  have hkey : keyI key = if key.tmod 31 = 30 then ⟨#[]⟩ else ⟨#[107]⟩ ++ decS k := by unfold keyI; rw [hk]; rfl
  have hds : (decS k).size ≤ 13 := by
    have := decB_length k
    simp [decS, ByteArray.size]; omega
  have HD := Lib.hid (fun w => decimal_pos k w (by omega))
  have HK := Lib.hid hkey
  obtain ⟨d, hd⟩ : ∃ d, d = decS k := ⟨_, rfl⟩
  rw [← hd] at hds HD HK
  clear hkey hd h1 h2
  unfold ActN.pst ActN.val Pst.val
  dsimp only
  obtain ⟨K, hK⟩ : ∃ K, K = keyI key := ⟨_, rfl⟩
  rw [← hK] at HK ⊢
  clear hK
  go_enter Try.func27, Try.ntmps27
  go_wp2_with fail
  obtain ⟨W0, hW0⟩ : ∃ W0, W0 = (w.alloc (Obj.cells #[.int .i64 key, .int .i64 src, .int .i64 dst, .int .i64 amount] 64)).alloc (Obj.cells #[.string ⟨#[]⟩, .string ⟨#[]⟩, .string ⟨#[]⟩, .int .i64 0] 40) := ⟨_, rfl⟩
  have hS : ActS w.heap.size w ⟨key, src, dst, amount⟩ W0 := by
    rw [hW0]
    exact ⟨(Below.heap_alloc _ _ _ (by simp)).trans (heap_alloc_new w _), by have := heap_alloc_new (w.alloc (Obj.cells #[.int .i64 key, .int .i64 src, .int .i64 dst, .int .i64 amount] 64)) (Obj.cells #[.string ⟨#[]⟩, .string ⟨#[]⟩, .string ⟨#[]⟩, .int .i64 0] 40); simpa using this, ⟨((Below.refl _ _).alloc (Nat.le_refl _) _).alloc (by simp) _, by simp; omega⟩, by simp⟩
  rw [← hW0]
  clear hW0
  refine (HD.out W0).mono ?_
  rintro e w2 ⟨rfl, hb⟩
  have HS := Lib.hid (hS.next hb)
  obtain ⟨c0, c1, c2, c3, _⟩ := HS.out.open
  clear hS hb HD
  go_upto_if 14 with fail
  go_cut [3] (fun v wx => v = .string K ∧ wx = w2)
  case first =>
    by_cases h30 : key.tmod 31 = 30
    · have hb30 : (key.tmod 31 == 30) = true := by simpa using h30
      go_wp2_with fail
      go_meet
      exact ⟨by rw [HK.out, if_pos h30], rfl⟩
    · have hb30 : (key.tmod 31 == 30) = false := by simpa using h30
      go_wp2_with fail
      go_meet
      exact ⟨by rw [HK.out, if_neg h30], rfl⟩
  case rest =>
    obtain ⟨rfl, rfl⟩ := hcut
    have hSd := HS.out.drew
    obtain ⟨c0, c1, c2, c3, c4, c5, c6, c7, c8, c9, c10, c11, _⟩ := hSd.open
    clear HS
    go_wp2_with fail
    go_region_with (first | (go_at_call 39; refine (account_any _ _).mono ?_; rintro e w' ⟨rfl, hb⟩; have hS2 := ActS.next (by assumption) hb; obtain ⟨d0, d1, d2, d3, d4, d5, d6, d7, d8, d9, d10, d11, _⟩ := hS2.open))
    all_goals
      have hB := hS2.2.2.1.1
      go_wp2_with fail
      exact bodyPost_ret (v := .agg #[.string K, .string (acctI src), .string (acctI dst), .int .i64 amount]) (by simp [results, Try.results27, go_sem, d4, d5, d6, d7]) rfl
        ⟨rfl, (((hB.setCell (p := ⟨w.heap.size + 1, 0, none⟩) (by show w.heap.size ≤ w.heap.size + 1; omega) _).setCell (p := ⟨w.heap.size + 1, 1, none⟩) (by show w.heap.size ≤ w.heap.size + 1; omega) _).setCell (p := ⟨w.heap.size + 1, 2, none⟩) (by show w.heap.size ≤ w.heap.size + 1; omega) _).setCell (p := ⟨w.heap.size + 1, 3, none⟩) (by show w.heap.size ≤ w.heap.size + 1; omega) _⟩

end Go.Proofs.Ytkimcopmfhjjcaa

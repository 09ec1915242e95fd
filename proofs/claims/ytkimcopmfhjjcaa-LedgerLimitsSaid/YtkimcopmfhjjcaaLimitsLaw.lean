/- The plain law of the limits of names and amounts. -/
import Derived.Test.YtkimcopmfhjjcaaLed
import Derived.Laws.BytesArg
import Derived.Laws.MakeOwn
import Derived.Lib.IndexLaws
namespace Go.Proofs.Ytkimcopmfhjjcaa
open Go.RowKit

/-- A string of n bytes 0. -/
def zb (n : Nat) : ByteArray := ⟨(List.replicate n (0 : UInt8)).toArray⟩
theorem zb_size (n : Nat) : (zb n).size = n := by simp [zb, ByteArray.size]
theorem zb_list (n : Nat) : (zb n).data.toList = List.replicate n 0 := by simp [zb]
/-- The string with a byte 10 at k. -/
def lineS (n k : Nat) : ByteArray := (zb n).extract 0 k ++ ⟨#[10]⟩ ++ (zb n).extract (k + 1) n
theorem lineS_mem (n k : Nat) : (10 : UInt8) ∈ (lineS n k).data.toList := by
  unfold lineS
  simp [ByteArray.data_append]
theorem lineS_size {n k : Nat} (h : k < n) : (lineS n k).size = n := by
  unfold lineS
  simp [ByteArray.size_append, ByteArray.size_extract, zb_size]
  have : (ByteArray.mk #[10]).size = 1 := rfl
  omega
theorem index_none {l : List UInt8} {c : UInt8} (h : ∀ x ∈ l, x ≠ c) : ¬ 0 ≤ Lib.indexByte l c := by
  intro h0
  obtain ⟨o, ho⟩ := Int.eq_ofNat_of_zero_le h0
  have := (Lib.indexByte_some ho).1
  obtain ⟨hlt, e⟩ := List.getElem?_eq_some_iff.1 this
  exact h _ (List.getElem_mem hlt) e
theorem index_mem {l : List UInt8} {c : UInt8} (h : c ∈ l) : 0 ≤ Lib.indexByte l c := by
  have := Lib.indexByte_ge l c
  by_cases h0 : Lib.indexByte l c = -1
  · obtain ⟨k, hk, e⟩ := List.getElem_of_mem h
    exact absurd (by rw [List.getElem?_eq_getElem hk, e]) (Lib.indexByte_none h0 k)
  · omega
theorem name_zb (n : Nat) : nameB (zb n) = (decide (1 ≤ n) && decide (n ≤ 100)) := by
  unfold nameB
  rw [zb_size, zb_list, decide_eq_false (index_none (l := List.replicate n 0) (c := 10) (fun x hx => by rw [List.eq_of_mem_replicate hx]; decide))]
  simp [Nat.lt_iff_add_one_le]
theorem name_line (n k : Nat) : nameB (lineS n k) = false := by
  unfold nameB
  rw [decide_eq_true (index_mem (lineS_mem n k))]
  simp

def sMint : ByteArray := ⟨#[109, 105, 110, 116]⟩
def sOther : ByteArray := ⟨#[111, 116, 104, 101, 114]⟩
def sMore : ByteArray := ⟨#[109, 111, 114, 101]⟩
def sX : ByteArray := ⟨#[120]⟩
theorem zb_ne (n : Nat) {s : ByteArray} {c : UInt8} {l : List UInt8} (h : s.data.toList = c :: l) (hc : c ≠ 0) : zb n ≠ s := by
  intro e
  have h2 := zb_list n
  rw [e, h] at h2
  have : c ∈ List.replicate n (0 : UInt8) := by rw [← h2]; exact List.mem_cons_self
  exact hc (List.eq_of_mem_replicate this)
theorem line_ne (n k : Nat) {s : ByteArray} (h : (10 : UInt8) ∉ s.data.toList) : lineS n k ≠ s := fun e => h (e ▸ lineS_mem n k)
theorem name_mint : nameB sMint = true := by decide +kernel
theorem name_x : nameB sX = true := by decide +kernel
theorem name_other : nameB sOther = true := by decide +kernel
theorem toList_ne {a b : ByteArray} (h : a ≠ b) : (a.toList == b.toList) = false := by
  rw [beq_eq_false_iff_ne]
  intro e
  rw [ByteArray.toList_eq, ByteArray.toList_eq] at e
  exact h (by cases a; cases b; simp at e; simp [Array.toList_inj.1 (by simpa using e)])
/-- What the first posting gives. -/
theorem limits_one (key dst : ByteArray) (a : Int) (hd : dst ≠ sMint) :
    postE [] ⟨key, sMint, dst, a⟩ = (if (nameB key && nameB dst && decide (1 ≤ a) && decide (a ≤ 1000000000)) = true then 0 else 1) := by
  have hr : rightB ⟨key, sMint, dst, a⟩ = (nameB key && nameB dst && decide (1 ≤ a) && decide (a ≤ 1000000000)) := by
    unfold rightB
    dsimp only
    rw [name_mint, toList_ne (Ne.symm hd)]
    simp [Int.lt_iff_add_one_le]
  unfold postE
  rw [hr]
  have hk : keyIdx [] key = none := rfl
  have hs : srcB sMint = true := by decide +kernel
  dsimp only
  rw [hk, hs]
  cases nameB key && nameB dst && decide (1 ≤ a) && decide (a ≤ 1000000000) <;> simp

def pOther : Pst := ⟨sOther, sMint, sX, 1000000000⟩
def pMore : Pst := ⟨sMore, sMint, sX, 1000000001⟩
theorem limits_more (L : List Pst) : postE L pMore = 1 := by
  have : rightB pMore = false := by decide +kernel
  unfold postE; rw [this]; rfl
theorem keyIdx_one {p : Pst} {k : ByteArray} (h : p.key ≠ k) : keyIdx [p] k = none := by simp [keyIdx, h]
theorem keyIdx_two (p : Pst) (L : List Pst) : (keyIdx (p :: L) p.key).isSome = true := by simp [keyIdx]
theorem limits_two {L : List Pst} (h : keyIdx L sOther = none) (hl : L.length < 100000) : postE L pOther = 0 := by
  have hr : rightB pOther = true := by decide +kernel
  have hs : srcB sMint = true := by decide +kernel
  unfold postE
  rw [hr]
  show (match keyIdx L sOther with | some i => _ | none => _) = (0 : Int)
  rw [h]
  show (if 100000 ≤ L.length then 2 else if srcB pOther.src = false ∧ _ then 52 else 0) = (0 : Int)
  rw [if_neg (by omega), if_neg (fun e => by rw [show srcB pOther.src = true from hs] at e; cases e.1)]
/-- The whole of the law: what the three postings and 'Paid' give. -/
theorem limits_all (key dst : ByteArray) (a : Int) (hd : dst ≠ sMint) (hk : key ≠ sOther) (b : Bool) (hb : (nameB key && nameB dst && decide (1 ≤ a) && decide (a ≤ 1000000000)) = b) :
    ∃ L1, postE [] ⟨key, sMint, dst, a⟩ = (if b then 0 else 1) ∧ postL [] ⟨key, sMint, dst, a⟩ = L1 ∧ postE L1 pOther = 0 ∧ postL L1 pOther = L1 ++ [pOther] ∧ postE (L1 ++ [pOther]) pMore = 1 ∧ postL (L1 ++ [pOther]) pMore = L1 ++ [pOther] ∧ (keyIdx (L1 ++ [pOther]) key).isSome = b := by
  have e1 := limits_one key dst a hd
  rw [hb] at e1
  cases b with
  | false =>
    have e0 : postL [] ⟨key, sMint, dst, a⟩ = [] := postL_err (by rw [e1]; decide)
    have k0 : keyIdx [] sOther = none := rfl
    have e2 := limits_two (L := []) k0 (by simp)
    refine ⟨[], by simpa using e1, e0, e2, by unfold postL; rw [if_pos ⟨e2, k0⟩], limits_more _, postL_err (by rw [limits_more]; decide), ?_⟩
    show (keyIdx [pOther] key).isSome = false
    rw [keyIdx_one (p := pOther) (Ne.symm hk)]; rfl
  | true =>
    have e0 : postL [] ⟨key, sMint, dst, a⟩ = [⟨key, sMint, dst, a⟩] := by unfold postL; rw [if_pos ⟨by simpa using e1, rfl⟩]; rfl
    have k0 : keyIdx [⟨key, sMint, dst, a⟩] sOther = none := keyIdx_one hk
    have e2 := limits_two (L := [⟨key, sMint, dst, a⟩]) k0 (by simp)
    exact ⟨[⟨key, sMint, dst, a⟩], by simpa using e1, e0, e2, by unfold postL; rw [if_pos ⟨e2, k0⟩], limits_more _, postL_err (by rw [limits_more]; decide), keyIdx_two ⟨key, sMint, dst, a⟩ [pOther]⟩

section
variable {P : Program}
/-- 'make([]byte, n)', and the string that is made of it. -/
theorem make_zb (t e : TypeId) (i : TypeInfo) (ht : P.underlying t = some (.slice e)) (hi : P.info? e = some i) (hz : i.zero = some (.int .u8 0)) (hsz : i.size = 1) (hb : i.bytes = 1) (n : Nat) (hn : n ≤ 1000) (w : World) :
    (Instr.makeSlice t (.int .i64 n) (.int .i64 n)).run P w = .ok (.slice (some ⟨w.heap.size, 0, none⟩) n n) (w.alloc (.cells (madeCells #[.int .u8 0] n) e)) := by
  have := run_make (P := P) w t e i (.int .u8 0) ht hi hz .i64 .i64 n n (by omega) (Int.le_refl _) (by rw [hb]; omega) (by omega)
  rw [this, hsz]
  simp [Value.cells]
theorem conv_zb (t s e : TypeId) (ht : P.underlying t = some (.slice e)) (he : P.underlying e = some (.int .u8)) (hs : P.underlying s = some .string) (n : Nat) (w : World) :
    (convert t s (.slice (some ⟨w.heap.size, 0, none⟩) n n)).run P (w.alloc (.cells (madeCells #[.int .u8 0] n) e)) = .ok (.string (zb n)) (w.alloc (.cells (madeCells #[.int .u8 0] n) e)) := by
  have := run_convert_bytes_back (P := P) (w.alloc (.cells (madeCells #[.int .u8 0] n) e)) t s e ⟨w.heap.size, 0, none⟩ n (List.replicate n 0) ht he hs (fun j hj => by
    rw [add_flat, Nat.zero_add, World.cell?_alloc_at _ _ _ _ rfl]
    have hj2 : j < n := by simpa using hj
    have : (madeCells #[.int .u8 0] n)[j]? = some (.int .u8 0) := by
      rw [Array.getElem?_eq_getElem (by rw [size_madeCells]; exact hj2)]
      unfold madeCells
      simp [Nat.mod_one]
    rw [this]
    simp)
  rw [List.length_replicate] at this
  exact this
end

end Go.Proofs.Ytkimcopmfhjjcaa

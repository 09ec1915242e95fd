/- A slice of integers that came in, as a row. -/
import Derived.Test.YtebigkjilklodaaDoorData
set_option linter.unusedVariables false
set_option linter.unusedSimpArgs false
namespace Go.Proofs.YtebigkjilklodaaDoor

/-- A slice of integers of kind k that came in, cut to its length. -/
theorem row_kind {k : IntKind} {w : World} {x : Addr} {len cap : Nat} {zs : List Int} (hl : len ≤ cap) (hz : zs.length = cap) (hc : ∀ i, i < zs.length → w.cell? (x.add i) = some (.int k (zs.getD i 0))) :
    RowAt w.heap.size w (.slice (some x) (zs.take len).length cap) (zs.take len).length ((zs.take len).map (Value.int k)) := by
  refine ⟨_, _, rfl, fun j u hu => ?_⟩
  have hj : j < (zs.take len).length := by
    rcases Nat.lt_or_ge j (zs.take len).length with h | h
    · exact h
    · rw [List.getElem?_eq_none (by simpa using h)] at hu; cases hu
  have hjz : j < zs.length := by rw [List.length_take] at hj; omega
  have hjl : j < len := by rw [List.length_take] at hj; omega
  have hcell := hc j hjz
  have hu2 : u = .int k (zs.getD j 0) := by
    rw [List.map_take, List.getElem?_take, if_pos hjl, List.getElem?_map, List.getElem?_eq_getElem hjz] at hu
    simp at hu
    rw [← hu, List.getD_eq_getElem?_getD, List.getElem?_eq_getElem hjz]
    rfl
  obtain ⟨b, off, s⟩ := x
  cases s with
  | none => exact ⟨b, off, rfl, World.block_lt_of_cell? w ⟨b, off + j, none⟩ (by rw [← add_flat]; exact hcell), by rw [← add_flat, hu2]; exact hcell⟩
  | some s =>
    have h0 := hc 0 (by omega)
    have e : (⟨b, off, some s⟩ : Addr).add 0 = ⟨b, off, some s⟩ := rfl
    rw [e] at h0
    unfold World.cell? at h0
    cases hh : w.heap[b]? with
    | none => simp [hh] at h0
    | some o => cases o <;> simp [hh] at h0
theorem wf_u32 {n : Int} (h : (Lit.int .u32 n).wf = true) : 0 ≤ n ∧ n ≤ 4294967295 := by
  simp [Lit.wf, IntKind.min, IntKind.max, IntKind.signed, IntKind.bits] at h; omega
theorem wf_u8 {n : Int} (h : (Lit.int .u8 n).wf = true) : 0 ≤ n ∧ n ≤ 255 := by
  simp [Lit.wf, IntKind.min, IntKind.max, IntKind.signed, IntKind.bits] at h; omega
theorem wf_u16 {n : Int} (h : (Lit.int .u16 n).wf = true) : 0 ≤ n ∧ n ≤ 65535 := by
  simp [Lit.wf, IntKind.min, IntKind.max, IntKind.signed, IntKind.bits] at h; omega
theorem wf_i64 {n : Int} (h : (Lit.int .i64 n).wf = true) : -9223372036854775808 ≤ n ∧ n ≤ 9223372036854775807 := by
  simp [Lit.wf, IntKind.min, IntKind.max, IntKind.signed, IntKind.bits] at h; omega
theorem wf_u64 {n : Int} (h : (Lit.int .u64 n).wf = true) : 0 ≤ n ∧ n ≤ 18446744073709551615 := by
  simp [Lit.wf, IntKind.min, IntKind.max, IntKind.signed, IntKind.bits] at h; omega

end Go.Proofs.YtebigkjilklodaaDoor

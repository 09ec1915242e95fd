/- A ledger in memory, and what it stands for. -/
import Derived.Test.YtkimcopmfhjjcaaMaps
import Derived.Test.YtkimcopmfhjjcaaSplitLaw
namespace Go.Proofs.Ytkimcopmfhjjcaa
open Go.RowKit

def mintS : List UInt8 := [109, 105, 110, 116]
/-- An account that is a source. -/
def srcB (s : ByteArray) : Bool := Lib.hasPrefix s.data.toList mintS
/-- The index of the posting with a key. -/
def keyIdx (L : List Pst) (k : ByteArray) : Option Int := (L.findIdx? (fun p => decide (p.key = k))).map Int.ofNat
def signed (a : ByteArray) (p : Pst) : Int := (if p.dst = a then p.amount else 0) - (if p.src = a then p.amount else 0)
/-- The balance of an account. -/
def balI (L : List Pst) (a : ByteArray) : Int := sumI (L.map (signed a))
def pstEq (p q : Pst) : Bool := (p.key.toList == q.key.toList) && (p.src.toList == q.src.toList) && (p.dst.toList == q.dst.toList) && (p.amount == q.amount)
def noPst : Pst := ⟨ByteArray.empty, ByteArray.empty, ByteArray.empty, 0⟩
/-- What 'Post' returns. -/
def postE (L : List Pst) (p : Pst) : Int :=
  if rightB p = false then 1 else
  match keyIdx L p.key with
  | some i => if pstEq (L[i.toNat]?.getD noPst) p then 0 else 33
  | none => if 100000 ≤ L.length then 2 else if srcB p.src = false ∧ balI L p.src < p.amount then 52 else 0
/-- The postings after 'Post'. -/
def postL (L : List Pst) (p : Pst) : List Pst := if postE L p = 0 ∧ keyIdx L p.key = none then L ++ [p] else L

def pstCells (L : List Pst) : List Value := L.flatMap Pst.cells

/-- The ledger at block lb. -/
structure LedgerIs (w : World) (lb c : Nat) (pv kv bv : Value) (L : List Pst) : Prop where
  head : w.heap[lb]? = some (.cells #[pv, kv, bv] 58 (0, 0))
  row : w.ownsRow 0 40 4 pv L.length (pstCells L)
  maps : (kv = .map none ∧ bv = .map none ∧ L = []) ∨ ∃ kb bb, kv = .map (some kb) ∧ bv = .map (some bb) ∧ kb ≠ bb ∧ IMap w kb c (keyIdx L) ∧ ∃ f, IMap w bb c f ∧ ∀ s, (f s).getD 0 = balI L s
  good : ∀ p ∈ L, rightB p = true
  few : L.length ≤ 100000

theorem lk_le {L : List Pst} {k : ByteArray} {i : Int} (h : keyIdx L k = some i) : 0 ≤ i ∧ i < L.length ∧ (L[i.toNat]?.getD noPst).key = k := by
  unfold keyIdx at h
  rw [Option.map_eq_some_iff] at h
  obtain ⟨j, hj, rfl⟩ := h
  rw [List.findIdx?_eq_some_iff_getElem] at hj
  obtain ⟨hlt, hp, _⟩ := hj
  refine ⟨Int.natCast_nonneg _, by simpa using hlt, ?_⟩
  rw [show (Int.ofNat j).toNat = j from rfl, List.getElem?_eq_getElem hlt]
  simpa using hp

theorem LedgerIs.cells {w : World} {lb c : Nat} {pv kv bv : Value} {L : List Pst} (h : LedgerIs w lb c pv kv bv L) :
    w.cell? ⟨lb, 0, none⟩ = some pv ∧ w.cell? ⟨lb, 1, none⟩ = some kv ∧ w.cell? ⟨lb, 2, none⟩ = some bv ∧ (∀ j, w.frozen? ⟨lb, j, none⟩ = false) := by
  have := h.head
  refine ⟨?_, ?_, ?_, fun j => frozen_of_row w lb j _ _ h.head⟩ <;> rw [cell_of_row w lb _ _ _ _ h.head] <;> rfl
theorem LedgerIs.lt {w : World} {lb c : Nat} {pv kv bv : Value} {L : List Pst} (h : LedgerIs w lb c pv kv bv L) : lb < w.heap.size := (Array.getElem?_eq_some_iff.1 h.head).1
/-- The ledger stays what it is where its blocks are kept. -/
theorem LedgerIs.keep {w w' : World} {lb c : Nat} {pv kv bv : Value} {L : List Pst} (h : LedgerIs w lb c pv kv bv L) (h1 : w'.heap[lb]? = w.heap[lb]?) (h2 : ∀ g, pv.ownBlock = some g → w'.heap[g]? = w.heap[g]?)
    (h3 : ∀ b, kv = .map (some b) → w'.heap[b]? = w.heap[b]?) (h4 : ∀ b, bv = .map (some b) → w'.heap[b]? = w.heap[b]?) : LedgerIs w' lb c pv kv bv L := by
  refine ⟨h1.trans h.head, ⟨h.row.1, ?_⟩, ?_, h.good, h.few⟩
  · rcases h.row.2 with r | ⟨g, cap, cur, rfl, hb, hg, r⟩
    · exact .inl r
    · exact .inr ⟨g, cap, cur, rfl, hb, (h2 g rfl).trans hg, r⟩
  · rcases h.maps with r | ⟨kb, bb, rfl, rfl, hne, m1, f, m2, hf⟩
    · exact .inl r
    · exact .inr ⟨kb, bb, rfl, rfl, hne, m1.block (h3 _ rfl), f, m2.block (h4 _ rfl), hf⟩
/-- The blocks of a ledger. -/
def Holds (S : Nat → Prop) (lb : Nat) (pv kv bv : Value) : Prop :=
  S lb ∧ (∀ g, pv.ownBlock = some g → S g) ∧ (∀ b, kv = .map (some b) → S b) ∧ (∀ b, bv = .map (some b) → S b)
/-- A ledger that stands for L, all its blocks in S. -/
def LedgerIn (S : Nat → Prop) (w : World) (lb c : Nat) (L : List Pst) : Prop := ∃ pv kv bv, LedgerIs w lb c pv kv bv L ∧ Holds S lb pv kv bv
/-- Outside of S nothing that was there has changed. -/
structure Keeps (S : Nat → Prop) (w w' : World) : Prop where
  os : w'.os = w.os
  tape : w'.tape = w.tape
  output : w'.output = w.output
  size : w.heap.size ≤ w'.heap.size
  block : ∀ k, k < w.heap.size → ¬ S k → w'.heap[k]? = w.heap[k]?
theorem Keeps.of_below {S : Nat → Prop} {w w' : World} (h : Below w.heap.size w w') : Keeps S w w' := ⟨h.os, h.tape, h.output, h.size, fun k hk _ => h.block k hk⟩
theorem Keeps.trans {S : Nat → Prop} {a b c : World} (h : Keeps S a b) (k : Keeps S b c) : Keeps S a c :=
  ⟨k.os.trans h.os, k.tape.trans h.tape, k.output.trans h.output, Nat.le_trans h.size k.size, fun i hi hn => (k.block i (Nat.lt_of_lt_of_le hi h.size) hn).trans (h.block i hi hn)⟩
theorem Keeps.refl (S : Nat → Prop) (w : World) : Keeps S w w := ⟨rfl, rfl, rfl, Nat.le_refl _, fun _ _ _ => rfl⟩
theorem Keeps.weaken {S T : Nat → Prop} {w w' : World} (h : Keeps S w w') (hST : ∀ k, k < w.heap.size → S k → T k) : Keeps T w w' :=
  ⟨h.os, h.tape, h.output, h.size, fun k hk hn => h.block k hk fun hs => hn (hST k hk hs)⟩
theorem Keeps.below {B : Nat} {S : Nat → Prop} {w w' : World} (h : Keeps S w w') (hB : B ≤ w.heap.size) (hS : ∀ k, S k → B ≤ k) : Below B w w' :=
  ⟨h.os, h.tape, h.output, h.size, fun k hk => h.block k (by omega) fun hs => by have := hS k hs; omega⟩
theorem Keeps.grown {S : Nat → Prop} {a w w' : World} {row : Option Nat} (h : Keeps S a w) (hg : w.grownBy w' row) (hr : ∀ k, row = some k → k < a.heap.size → S k) : Keeps S a w' :=
  ⟨hg.os.trans h.os, hg.tape.trans h.tape, hg.output.trans h.output, Nat.le_trans h.size hg.size, fun k hk hn =>
    (hg.block k (Nat.lt_of_lt_of_le hk h.size) (fun e => hn (hr k e.symm hk))).trans (h.block k hk hn)⟩
theorem LedgerIs.below {w w' : World} {lb c : Nat} {pv kv bv : Value} {L : List Pst} (h : LedgerIs w lb c pv kv bv L) (hb : Below w.heap.size w w') : LedgerIs w' lb c pv kv bv L := by
  refine h.keep (hb.block _ h.lt) (fun g hg => hb.block g (World.ownsRow.lt h.row g hg).2) (fun b hb' => ?_) (fun b hb' => ?_)
  · rcases h.maps with ⟨r, _⟩ | ⟨kb, bb, rfl, rfl, _, m1, f, m2, _⟩
    · rw [r] at hb'; simp at hb'
    · simp at hb'; subst hb'; exact hb.block _ m1.lt
  · rcases h.maps with ⟨_, r, _⟩ | ⟨kb, bb, rfl, rfl, _, m1, f, m2, _⟩
    · rw [r] at hb'; simp at hb'
    · simp at hb'; subst hb'; exact hb.block _ m2.lt
theorem LedgerIs.mono {w : World} {lb c d : Nat} {pv kv bv : Value} {L : List Pst} (h : LedgerIs w lb c pv kv bv L) (hc : c ≤ d) : LedgerIs w lb d pv kv bv L := by
  refine ⟨h.head, h.row, ?_, h.good, h.few⟩
  rcases h.maps with r | ⟨kb, bb, e1, e2, hne, m1, f, m2, hf⟩
  · exact .inl r
  · exact .inr ⟨kb, bb, e1, e2, hne, m1.mono hc, f, m2.mono hc, hf⟩

theorem pstCells_length : ∀ L : List Pst, (pstCells L).length = L.length * 4
  | [] => rfl
  | p :: L => by
    have e : pstCells (p :: L) = p.cells ++ pstCells L := rfl
    rw [e, List.length_append, pstCells_length L]; simp [Pst.cells]; omega
theorem pstCells_get : ∀ (L : List Pst) (j t : Nat), t < 4 → j < L.length → (pstCells L)[j * 4 + t]? = (L[j]?.getD noPst).cells[t]?
  | [], j, t, _, h => by simp at h
  | p :: L, 0, t, ht, _ => by
    have e : pstCells (p :: L) = p.cells ++ pstCells L := rfl
    rw [e, List.getElem?_append_left (by simp [Pst.cells]; omega)]; simp
  | p :: L, j + 1, t, ht, h => by
    have e : pstCells (p :: L) = p.cells ++ pstCells L := rfl
    rw [e, List.getElem?_append_right (by simp [Pst.cells]; omega)]
    have := pstCells_get L j t ht (by simpa using h)
    rw [show (j + 1) * 4 + t - p.cells.length = j * 4 + t by simp [Pst.cells]; omega, this]
    simp
/-- The cells of posting j. -/
theorem LedgerIs.at {w : World} {lb c : Nat} {pv kv bv : Value} {L : List Pst} (h : LedgerIs w lb c pv kv bv L) {j : Nat} (hj : j < L.length) :
    ∃ g cap, pv = .slice (some ⟨g, 0, none⟩) L.length cap ∧ g < w.heap.size ∧ w.cell? ⟨g, j * 4, none⟩ = some (.string (L[j]?.getD noPst).key) ∧ w.cell? ⟨g, j * 4 + 1, none⟩ = some (.string (L[j]?.getD noPst).src) ∧
      w.cell? ⟨g, j * 4 + 2, none⟩ = some (.string (L[j]?.getD noPst).dst) ∧ w.cell? ⟨g, j * 4 + 3, none⟩ = some (.int .i64 (L[j]?.getD noPst).amount) := by
  have hrow := h.row
  obtain ⟨g, cap, rfl⟩ : ∃ g cap, pv = .slice (some ⟨g, 0, none⟩) L.length cap := by
    rcases hrow.2 with ⟨_, r⟩ | ⟨g, cap, cur, rfl, _⟩
    · omega
    · exact ⟨g, cap, rfl⟩
  have hlt := (World.ownsRow.lt hrow g rfl).2
  refine ⟨g, cap, rfl, hlt, ?_, ?_, ?_, ?_⟩
  · rw [World.ownsRow.cellAt hrow (j * 4) (by omega)]; exact pstCells_get L j 0 (by omega) hj
  · rw [World.ownsRow.cellAt hrow (j * 4 + 1) (by omega)]; exact pstCells_get L j 1 (by omega) hj
  · rw [World.ownsRow.cellAt hrow (j * 4 + 2) (by omega)]; exact pstCells_get L j 2 (by omega) hj
  · rw [World.ownsRow.cellAt hrow (j * 4 + 3) (by omega)]; exact pstCells_get L j 3 (by omega) hj

/-- What '==' says of two postings. -/
theorem pst_eql (p q : Pst) (w : World) : (binOp .eql 40 (.agg #[.string p.key, .string p.src, .string p.dst, .int .i64 p.amount]) (.agg #[.string q.key, .string q.src, .string q.dst, .int .i64 q.amount])).run Try.prog w = .ok (.bool (pstEq p q)) w := by
  have u3 := Try.underlying3
  have a3 := Try.isAgg3
  have z3 := Try.sizeOf3
  have u9 := Try.underlying9
  have a9 := Try.isAgg9
  have z9 := Try.sizeOf9
  have hS : Try.prog.underlying 40 = some (.struct (Try.prog.fieldsOf 40)) := by kernel_rfl
  have hp : Try.prog.stoodInHeld 40 = false := by kernel_rfl
  rw [run_eql_struct, show (10000 : Nat) = 9999 + 1 from rfl, run_equalIn_agg w 9999 40 _ _ hS hp]
  simp only [Program.fieldsOf, Try.underlying40]
  go_simp
  unfold pstEq
  cases h1 : p.key.toList == q.key.toList <;> cases h2 : p.src.toList == q.src.toList <;> cases h3 : p.dst.toList == q.dst.toList <;> cases h4 : p.amount == q.amount <;> simp_all
theorem pst_guard (x y : Operand) (xs ys : Array Value) (w : World) : (eqGuard .eql 40 x y (.agg xs) (.agg ys)).run Try.prog w = .ok () w := run_eqGuard_agg w .eql 40 x y xs ys (by kernel_rfl)

/-- What look-ups in a ledger's maps give. -/
theorem LedgerIs.lookK {w : World} {lb c : Nat} {pv kv bv : Value} {L : List Pst} (h : LedgerIs w lb c pv kv bv L) (s : ByteArray) (hs : s.size ≤ 9223372036854775807) (n : Nat) :
    (Instr.lookup 56 kv (.string s) true).run Try.prog (w.drewN n) = .ok (.tuple #[.int .i64 ((keyIdx L s).getD 0), .bool (keyIdx L s).isSome]) (w.drewN n) := by
  rcases h.maps with ⟨rfl, _, rfl⟩ | ⟨kb, bb, rfl, _, _, m1, _⟩
  · exact look_ok_nil _ s hs
  · exact (m1.block (w' := w.drewN n) rfl).look_ok s hs
theorem LedgerIs.lookB {w : World} {lb c : Nat} {pv kv bv : Value} {L : List Pst} (h : LedgerIs w lb c pv kv bv L) (s : ByteArray) (hs : s.size ≤ 9223372036854775807) (n : Nat) :
    (Instr.lookup 56 bv (.string s) false).run Try.prog (w.drewN n) = .ok (.int .i64 (balI L s)) (w.drewN n) := by
  rcases h.maps with ⟨_, rfl, rfl⟩ | ⟨kb, bb, _, rfl, _, _, f, m2, hf⟩
  · exact look_nil _ s hs
  · rw [← hf]; exact (m2.block (w' := w.drewN n) rfl).look s hs
theorem LedgerIs.slice {w : World} {lb c : Nat} {pv kv bv : Value} {L : List Pst} (h : LedgerIs w lb c pv kv bv L) : ∃ ao cap, pv = .slice ao L.length cap := by
  rcases h.row.2 with ⟨r, e⟩ | ⟨g, cap, cur, r, _⟩
  · rw [e]; exact ⟨none, 0, r⟩
  · exact ⟨_, _, r⟩

theorem LedgerIs.row_ne {w : World} {lb c : Nat} {pv kv bv : Value} {L : List Pst} (h : LedgerIs w lb c pv kv bv L) {g : Nat} (hg : pv.ownBlock = some g) : g ≠ lb := by
  rintro rfl
  rcases h.row.2 with ⟨r, _⟩ | ⟨g', cap, cur, rfl, _, hh, _⟩
  · rw [r] at hg; simp [Value.ownBlock] at hg
  · simp [Value.ownBlock] at hg
    subst hg
    rw [h.head] at hh
    simp at hh
theorem LedgerIs.map_ne {w : World} {lb c : Nat} {pv kv bv : Value} {L : List Pst} (h : LedgerIs w lb c pv kv bv L) {b n : Nat} {f : ByteArray → Option Int} (hb : IMap w b n f) : b ≠ lb ∧ pv.ownBlock ≠ some b := by
  obtain ⟨D, ⟨es, clock, h1, _⟩, _⟩ := hb
  refine ⟨?_, fun hg => ?_⟩
  · rintro rfl; rw [h.head] at h1; simp at h1
  · rcases h.row.2 with ⟨r, _⟩ | ⟨g', cap, cur, rfl, _, hh, _⟩
    · rw [r] at hg; simp [Value.ownBlock] at hg
    · simp [Value.ownBlock] at hg
      subst hg
      rw [hh] at h1
      simp at h1
/-- The maps are made. -/
theorem LedgerIs.first {w : World} {lb c : Nat} {pv : Value} (h : LedgerIs w lb c pv (.map none) (.map none) []) :
    LedgerIs ((((w.setCell ⟨lb, 1, none⟩ (.map (some w.heap.size))).setCell ⟨lb, 2, none⟩ (.map (some (w.heap.size + 1)))).alloc (.map #[] 0)).alloc (.map #[] 0)) lb c pv (.map (some w.heap.size)) (.map (some (w.heap.size + 1))) [] ∧
    Keeps (fun k => k = lb) w ((((w.setCell ⟨lb, 1, none⟩ (.map (some w.heap.size))).setCell ⟨lb, 2, none⟩ (.map (some (w.heap.size + 1)))).alloc (.map #[] 0)).alloc (.map #[] 0)) := by
  have hlt := h.lt
  have h1 := heap_setCell_same w lb 1 _ _ (.map (some w.heap.size)) h.head
  have h2 := heap_setCell_same _ lb 2 _ _ (.map (some (w.heap.size + 1))) h1
  generalize hA : (w.setCell ⟨lb, 1, none⟩ (.map (some w.heap.size))).setCell ⟨lb, 2, none⟩ (.map (some (w.heap.size + 1))) = A at *
  have hAs : A.heap.size = w.heap.size := by rw [← hA]; simp
  have hAo : ∀ k, k ≠ lb → A.heap[k]? = w.heap[k]? := fun k hk => by rw [← hA]; exact (heap_setCell_other _ _ k _ hk).trans (heap_setCell_other _ _ k _ hk)
  have hold : ∀ k, k < w.heap.size → ((A.alloc (.map #[] 0)).alloc (.map #[] 0)).heap[k]? = A.heap[k]? := fun k hk =>
    (Below.heap_alloc _ _ k (by simp; omega)).trans (Below.heap_alloc _ _ k (by omega))
  refine ⟨⟨(hold lb hlt).trans h2, ?_, ?_, by simp, by simp⟩, ⟨?_, ?_, ?_, ?_, ?_⟩⟩
  · refine ⟨h.row.1, ?_⟩
    rcases h.row.2 with r | ⟨g, cap, cur, rfl, hb, hg, r⟩
    · exact .inl r
    · have hgl : g ≠ lb := h.row_ne rfl
      exact .inr ⟨g, cap, cur, rfl, hb, ((hold g (Array.getElem?_eq_some_iff.1 hg).1).trans (hAo g hgl)).trans hg, r⟩
  · refine .inr ⟨_, _, rfl, rfl, by omega, ?_, fun _ => none, ?_, fun s => rfl⟩
    · have := (IMap.made A).mono (m := c) (by omega)
      rw [hAs] at this
      exact this.block (Below.heap_alloc _ _ _ (by simp [hAs]))
    · have := (IMap.made (A.alloc (.map #[] 0))).mono (m := c) (by omega)
      rw [show (A.alloc (.map #[] 0)).heap.size = w.heap.size + 1 by simp [hAs]] at this
      exact this
  · rw [← hA]; rfl
  · rw [← hA]; rfl
  · rw [← hA]; rfl
  · simp; omega
  · intro k hk hne
    exact (hold k hk).trans (hAo k hne)
theorem keyIdx_snoc {L : List Pst} {p : Pst} (h : keyIdx L p.key = none) : keyIdx (L ++ [p]) = updF (keyIdx L) p.key (some (L.length : Int)) := by
  funext s
  unfold keyIdx updF at *
  rw [List.findIdx?_append]
  by_cases hs : s = p.key
  · subst hs
    rw [if_pos rfl]
    simp only [Option.map_eq_none_iff] at h
    rw [h]
    simp [List.findIdx?_cons]
  · rw [if_neg hs]
    have : ([p] : List Pst).findIdx? (fun q => decide (q.key = s)) = none := by
      simp [List.findIdx?_cons]; exact fun e => hs e.symm
    rw [this]
    simp
theorem balI_snoc (L : List Pst) (p : Pst) (s : ByteArray) : balI (L ++ [p]) s = balI L s + signed s p := by
  unfold balI
  rw [List.map_append, sumI_append]
  simp [sumI]
theorem rightB_amount {p : Pst} (h : rightB p = true) : 0 < p.amount ∧ p.amount ≤ 1000000000 ∧ p.src ≠ p.dst := by
  unfold rightB at h
  simp only [Bool.and_eq_true, decide_eq_true_eq, Bool.not_eq_true', beq_eq_false_iff_ne] at h
  exact ⟨h.1.2, h.2, fun e => h.1.1.2 (by rw [e])⟩
theorem balI_range {L : List Pst} (h : ∀ p ∈ L, rightB p = true) (s : ByteArray) : -(L.length * 1000000000 : Int) ≤ balI L s ∧ balI L s ≤ L.length * 1000000000 := by
  induction L with
  | nil => simp [balI, sumI]
  | cons p L ih =>
    have ih := ih (fun q hq => h q (List.mem_cons_of_mem _ hq))
    have hp := rightB_amount (h p List.mem_cons_self)
    have e : balI (p :: L) s = signed s p + balI L s := rfl
    have hsg : -1000000000 ≤ signed s p ∧ signed s p ≤ 1000000000 := by unfold signed; split <;> split <;> omega
    rw [e, List.length_cons, show ((L.length + 1 : Nat) : Int) = (L.length : Int) + 1 from rfl, Int.add_mul]
    omega

end Go.Proofs.Ytkimcopmfhjjcaa

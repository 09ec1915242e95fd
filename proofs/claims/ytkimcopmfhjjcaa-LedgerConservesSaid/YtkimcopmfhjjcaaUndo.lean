/- 'slices.Clone' at postings; '(*Ledger).undo'. -/
import Derived.Test.YtkimcopmfhjjcaaPostAny
import Derived.Deep.DeepCutAuto
import Derived.Deep.RegionLaw
namespace Go.Proofs.Ytkimcopmfhjjcaa
open Go.RowKit

theorem pst_one {L : List Pst} : ∀ u ∈ pstCells L, u.oneCell' = true := by
  intro u hu
  simp only [pstCells, List.mem_flatMap] at hu
  obtain ⟨p, _, hu⟩ := hu
  simp [Pst.cells] at hu
  rcases hu with rfl | rfl | rfl | rfl <;> rfl

set_option maxHeartbeats 1000000 in
set_option maxRecDepth 100000 in
theorem clone_pst (g off cap : Nat) (L : List Pst) (w : World) (hc : ∀ j u, (pstCells L)[j]? = some u → w.cell? ((⟨g, off, none⟩ : Addr).add j) = some u) (hg : g < w.heap.size) (hn : L.length ≤ 1000000) :
    Calls Try.prog 30 #[.slice (some ⟨g, off, none⟩) L.length cap] w fun e w' =>
      ∃ v, e = .returned v ∧ w'.ownsRow w.heap.size 40 4 v L.length (pstCells L) ∧ Below w.heap.size w w' := by
  obtain ⟨i0, hi, hz0, hz1, hz2⟩ := info_parts Try.infoPst
  have hnil := fun (w : World) (a : Option Addr) (n c : Nat) => Lib.run_eql_slice_nil (P := Try.prog) w 45 40 a n c 0 0 Try.underlying45
  have HC := Lib.hid hc
  clear hc
  go_enter Try.func30, Try.ntmps30
  go_wp2_with (at_builtin; go_loud (refine wpList_append_own_at _ rfl _ _ 45 rfl w.heap.size 40 i0 _ 4 56 Try.underlying45 hi hz0 hz1 hz2 rfl (by decide) (.slice (some ⟨w.heap.size, 0, none⟩) 0 0) 0 [] rfl (World.ownsRow_made w #[] 0 (Nat.le_refl _) (Nat.zero_le _) rfl) ⟨g, off, none⟩ L.length cap (pstCells L) rfl (pstCells_length L) ?c1 pst_one ?c3 ?c4 ?c5 ?_))
  case c1 => intro j u hu; exact (World.cell?_alloc_lt w _ _ (by rw [add_block]; exact hg)).trans (HC.out j u hu)
  case c3 => unfold maxLen; omega
  case c4 => omega
  case c5 => simp
  intro v' w1 hown hgrow _ _
  have hown2 : w1.ownsRow w.heap.size 40 4 v' L.length (pstCells L) := by simpa using hown
  have hb : Below w.heap.size w w1 := ((Below.refl _ _).alloc (Nat.le_refl _) _).grown hgrow (by simp) (fun j hj => by simp [Value.ownBlock] at hj; omega)
  clear hown hgrow
  go_wp2
  go_ret
  exact ⟨v', rfl, hown2, hb⟩

set_option maxHeartbeats 1000000 in
theorem clone_nil (w : World) :
    Calls Try.prog 30 #[.slice none 0 0] w fun e w' => e = .returned (.slice none 0 0) ∧ w' = w := by
  have hnil := fun (w : World) (a : Option Addr) (n c : Nat) => Lib.run_eql_slice_nil (P := Try.prog) w 45 40 a n c 0 0 Try.underlying45
  go_enter Try.func30, Try.ntmps30
  go_wp2
  go_ret
  exact ⟨rfl, rfl⟩

/-- The postings ahead of index n. -/
theorem take_cells {L : List Pst} {n : Nat} : pstCells (L.take n) = (pstCells L).take (n * 4) := by
  induction L generalizing n with
  | nil => simp [pstCells]
  | cons p L ih =>
    cases n with
    | zero => simp [pstCells]
    | succ n =>
      have e : pstCells (p :: L) = p.cells ++ pstCells L := rfl
      have e2 : pstCells ((p :: L).take (n + 1)) = p.cells ++ pstCells (L.take n) := rfl
      have hl : p.cells.length = 4 := rfl
      rw [e2, ih, e, List.take_append, List.take_of_length_le (l := p.cells) (by omega), hl, show (n + 1) * 4 - 4 = n * 4 by omega]

/-- 'delete' as one step of a region that draws its order. -/
theorem step_delete {P : Program} {ops : Array Oper} {o : Oper} {a : Act} {w w1 : World} {K : Act → World → Prop} {Q : Exit → Act → World → Prop} {E : Prop}
    (hgd : o.guard = none) (m x : Operand) (t k : TypeId) (hop : o.op = Op.call { callee := Callee.builtin Builtin.delete, args := #[m, x], argTypes := #[t, k] }) (mv xv : Value) (hm : a.eval m = mv) (hx : a.eval x = xv)
    (hr : (Builtin.delete_ #[t, k] o.type #[mv, xv]).run P w = .ok (.tuple #[]) w1) (hK : K (a.put o.dst (.tuple #[])) w1) :
    if Region.wanted o (yielded ops a.tmps) = true then Oper.wp P o a w K Q else E := by
  have hw : Region.wanted o (yielded ops a.tmps) = true := by simp [Region.wanted, hgd]
  rw [if_pos hw]
  unfold Oper.wp
  simp [execOp, hop, resolve, invoke, builtin, hm, hx, hr, Result.andThen]
  exact hK

/-- The keys that are left when those of D are taken out. -/
def minusK (L D : List Pst) (s : ByteArray) : Option Int := if D.any (fun p => decide (p.key = s)) then none else keyIdx L s
theorem minusK_snoc (L D : List Pst) (p : Pst) : updF (minusK L D) p.key none = minusK L (D ++ [p]) := by
  funext s
  unfold updF minusK
  by_cases h : s = p.key
  · simp [h]
  · have h2 : ¬ p.key = s := fun e => h e.symm
    simp [h, h2]
theorem minusK_all {L M : List Pst} (h : ∀ q ∈ L, ∀ p ∈ M, q.key ≠ p.key) : minusK (L ++ M) M = keyIdx L := by
  funext s
  unfold minusK keyIdx
  rw [List.findIdx?_append]
  split
  · rename_i hs
    obtain ⟨p, hp, hps⟩ := List.any_eq_true.1 hs
    have hps : p.key = s := by simpa using hps
    subst hps
    have : L.findIdx? (fun q => decide (q.key = p.key)) = none := by
      rw [List.findIdx?_eq_none_iff]; intro q hq; simpa using h q hq p hp
    rw [this]; rfl
  · rename_i hs
    have : M.findIdx? (fun q => decide (q.key = s)) = none := by
      rw [List.findIdx?_eq_none_iff]; intro q hq
      cases hd : decide (q.key = s)
      · rfl
      · exact absurd (List.any_eq_true.2 ⟨q, hq, hd⟩) hs
    rw [this]; simp
theorem balI_take_succ {L : List Pst} {k : Nat} (h : k < L.length) (s : ByteArray) : balI (L.take (k + 1)) s = balI (L.take k) s + signed s (L[k]?.getD noPst) := by
  rw [List.take_add_one, List.getElem?_eq_getElem h]
  exact balI_snoc _ _ _
theorem balI_append (L M : List Pst) (s : ByteArray) : balI (L ++ M) s = balI L s + balI M s := by
  unfold balI; rw [List.map_append, sumI_append]

/-- The ledger while its last postings are taken back: k of them are. -/
structure UndoIs (w0 w : World) (S : Nat → Prop) (lb c kb bb : Nat) (pv : Value) (L M : List Pst) (k : Nat) : Prop where
  head : w.heap[lb]? = some (.cells #[pv, .map (some kb), .map (some bb)] 58 (0, 0))
  row : w.ownsRow 0 40 4 pv (L ++ M).length (pstCells (L ++ M))
  keys : IMap w kb c (minusK (L ++ M) (M.take k))
  bals : ∃ f, IMap w bb (c + 2 * k) f ∧ ∀ s, (f s).getD 0 = balI (L ++ M) s - balI (M.take k) s
  keeps : Keeps S w0 w

theorem UndoIs.facts {w0 w : World} {S : Nat → Prop} {lb c kb bb g cap n : Nat} {L M : List Pst} {k : Nat} (h : UndoIs w0 w S lb c kb bb (.slice (some ⟨g, 0, none⟩) n cap) L M k) (hn : n = (L ++ M).length) (hk : k < M.length) :
    w.cell? ⟨lb, 0, none⟩ = some (.slice (some ⟨g, 0, none⟩) n cap) ∧ w.cell? ⟨lb, 1, none⟩ = some (.map (some kb)) ∧ w.cell? ⟨lb, 2, none⟩ = some (.map (some bb)) ∧
    w.cell? ⟨g, L.length * 4 + k * 4, none⟩ = some (.string (M[k]?.getD noPst).key) ∧ w.cell? ⟨g, L.length * 4 + k * 4 + 1, none⟩ = some (.string (M[k]?.getD noPst).src) ∧
    w.cell? ⟨g, L.length * 4 + k * 4 + 2, none⟩ = some (.string (M[k]?.getD noPst).dst) ∧ w.cell? ⟨g, L.length * 4 + k * 4 + 3, none⟩ = some (.int .i64 (M[k]?.getD noPst).amount) := by
  subst hn
  have hrow := h.row
  have hj : L.length + k < (L ++ M).length := by simp; omega
  have hget : (L ++ M)[L.length + k]?.getD noPst = M[k]?.getD noPst := by rw [List.getElem?_append_right (by omega)]; simp
  have hc : ∀ t, t < 4 → w.cell? ⟨g, L.length * 4 + k * 4 + t, none⟩ = (M[k]?.getD noPst).cells[t]? := by
    intro t ht
    rw [← Nat.add_mul, World.ownsRow.cellAt hrow _ (by omega), pstCells_get _ _ t ht hj, hget]
  refine ⟨?_, ?_, ?_, hc 0 (by omega), hc 1 (by omega), hc 2 (by omega), hc 3 (by omega)⟩ <;> rw [cell_of_row w lb _ _ _ _ h.head] <;> rfl
theorem UndoIs.lt {w0 w : World} {S : Nat → Prop} {lb c kb bb : Nat} {pv : Value} {L M : List Pst} {k : Nat} (h : UndoIs w0 w S lb c kb bb pv L M k) : lb < w.heap.size := (Array.getElem?_eq_some_iff.1 h.head).1
theorem imap_ne_cells {w : World} {b n g : Nat} {f : ByteArray → Option Int} {cs : Array Value} {t : TypeId} {fr : Nat × Nat} (h : IMap w b n f) (hg : w.heap[g]? = some (.cells cs t fr)) : g ≠ b := by
  obtain ⟨D, ⟨es, clock, h1, _⟩, _⟩ := h
  rintro rfl; rw [hg] at h1; simp at h1
/-- One posting is taken back. -/
theorem UndoIs.step {w0 w w5 w9 : World} {S : Nat → Prop} {lb c kb bb g cap n : Nat} {L M : List Pst} {k : Nat} {o : Obj} {f : ByteArray → Option Int}
    (h : UndoIs w0 w S lb c kb bb (.slice (some ⟨g, 0, none⟩) n cap) L M k) (hS : S kb ∧ S bb) (hk : k < M.length) (hne : kb ≠ bb)
    (hf : IMap w bb (c + 2 * k) f ∧ ∀ s, (f s).getD 0 = balI (L ++ M) s - balI (M.take k) s)
    (m5 : IMap w5 kb c (updF (minusK (L ++ M) (M.take k)) (M[k]?.getD noPst).key none)) (g5 : (w.alloc o).drew.grownBy w5 (some kb))
    (m9 : IMap w9 bb (c + 2 * k + 2) (moveF f (M[k]?.getD noPst).dst (M[k]?.getD noPst).src (M[k]?.getD noPst).amount)) (g9 : w5.grownBy w9 (some bb)) (hsd : (M[k]?.getD noPst).dst ≠ (M[k]?.getD noPst).src) :
    UndoIs w0 w9 S lb c kb bb (.slice (some ⟨g, 0, none⟩) n cap) L M (k + 1) := by
  have s5 : w.heap.size ≤ w5.heap.size := by have := g5.size; simp at this; omega
  have h9 : ∀ j, j < w.heap.size → j ≠ kb → j ≠ bb → w9.heap[j]? = w.heap[j]? := fun j hj h1 h2 =>
    ((g9.block j (by omega) (by simpa using h2)).trans (g5.block j (by simp; omega) (by simpa using h1))).trans (Below.heap_alloc w o j hj)
  have hle := h.lt
  have hts : M.take (k + 1) = M.take k ++ [M[k]?.getD noPst] := by rw [List.take_add_one, List.getElem?_eq_getElem hk]; rfl
  refine ⟨?_, ?_, ?_, ⟨_, m9, fun s => ?_⟩, ?_⟩
  · exact (h9 lb hle (imap_ne_cells h.keys h.head) (imap_ne_cells hf.1 h.head)).trans h.head
  · refine ⟨h.row.1, ?_⟩
    rcases h.row.2 with r | ⟨g', cap', cur, e, hb, hg, r⟩
    · exact .inl r
    · exact .inr ⟨g', cap', cur, e, hb, (h9 g' (Array.getElem?_eq_some_iff.1 hg).1 (imap_ne_cells h.keys hg) (imap_ne_cells hf.1 hg)).trans hg, r⟩
  · have := m5.block (g9.block kb m5.lt (by simpa using hne))
    rw [minusK_snoc, ← hts] at this
    exact this
  · rw [moveF_get _ _ _ _ hsd, hf.2 s, balI_take_succ hk]
    unfold signed
    omega
  · exact ((h.keeps.alloc o).drew.grown g5 (fun j hj _ => by simp at hj; subst hj; exact hS.1)).grown g9 (fun j hj _ => by simp at hj; subst hj; exact hS.2)
theorem UndoIs.bounds {w0 w : World} {S : Nat → Prop} {lb c kb bb : Nat} {pv : Value} {L M : List Pst} {k : Nat} {f : ByteArray → Option Int} (hg : ∀ p ∈ L ++ M, rightB p = true) (hfew : (L ++ M).length ≤ 100000)
    (_h : UndoIs w0 w S lb c kb bb pv L M k) (hf : ∀ s, (f s).getD 0 = balI (L ++ M) s - balI (M.take k) s) (s : ByteArray) : -1000000000000000 ≤ (f s).getD 0 ∧ (f s).getD 0 ≤ 1000000000000000 := by
  have h1 := balI_range hg s
  have h2 := balI_range (L := M.take k) (fun p hp => hg p (List.mem_append_right _ (List.mem_of_mem_take hp))) s
  have h3 : (M.take k).length ≤ (L ++ M).length := by rw [List.length_take, List.length_append]; omega
  rw [hf s]
  omega

theorem UndoIs.final {w0 w w1 : World} {S : Nat → Prop} {lb c kb bb g1 n1 cap1 : Nat} {pv pv0 kv0 bv0 : Value} {L M : List Pst} (h0 : LedgerIs w0 lb c pv0 kv0 bv0 (L ++ M)) (h : UndoIs w0 w S lb c kb bb pv L M M.length) (hne : kb ≠ bb) (hS : S lb)
    (hu : ∀ q ∈ L, ∀ p ∈ M, q.key ≠ p.key) (hn : n1 = L.length) (hb : Below w.heap.size w w1) (hg : w.heap.size ≤ g1) (ho : w1.ownsRow w.heap.size 40 4 (.slice (some ⟨g1, 0, none⟩) n1 cap1) L.length (pstCells L)) :
    LedgerIs (w1.setCell ⟨lb, 0, none⟩ (.slice (some ⟨g1, 0, none⟩) n1 cap1)) lb (c + 2 * M.length) (.slice (some ⟨g1, 0, none⟩) n1 cap1) (.map (some kb)) (.map (some bb)) L ∧
      Keeps S w0 (w1.setCell ⟨lb, 0, none⟩ (.slice (some ⟨g1, 0, none⟩) n1 cap1)) ∧ (∀ g, (Value.slice (some ⟨g1, 0, none⟩) n1 cap1).ownBlock = some g → w0.heap.size ≤ g) := by
  subst hn
  obtain ⟨f, hfm, hf⟩ := h.bals
  have hlt := h.lt
  have h1 : ∀ j, j < w.heap.size → j ≠ lb → (w1.setCell ⟨lb, 0, none⟩ (.slice (some ⟨g1, 0, none⟩) L.length cap1)).heap[j]? = w.heap[j]? := fun j hj hn => (heap_setCell_other w1 ⟨lb, 0, none⟩ j _ hn).trans (hb.block j hj)
  have hsz := h.keeps.size
  refine ⟨⟨heap_setCell_same w1 lb 0 _ _ _ ((hb.block lb hlt).trans h.head), ?_, ?_, fun p hp => h0.good p (List.mem_append_left _ hp), ?_⟩, ?_, ?_⟩
  · refine ⟨ho.1, ?_⟩
    rcases ho.2 with ⟨r, _⟩ | ⟨g, cap, cur, e, hgb, hgg, r⟩
    · simp at r
    · refine .inr ⟨g, cap, cur, e, Nat.zero_le _, (heap_setCell_other w1 ⟨lb, 0, none⟩ g _ ?_).trans hgg, r⟩
      show g ≠ lb
      omega
  · have e := minusK_all hu
    have hk := h.keys
    rw [List.take_length, e] at hk
    refine .inr ⟨kb, bb, rfl, rfl, hne, (hk.block (h1 kb hk.lt (fun e => imap_ne_cells hk h.head e.symm))).mono (by omega), f, hfm.block (h1 bb hfm.lt (fun e => imap_ne_cells hfm h.head e.symm)), fun s => ?_⟩
    rw [hf s, List.take_length, balI_append]
    omega
  · have := h0.few; rw [List.length_append] at this; omega
  · exact (h.keeps.trans (Keeps.of_below hb)).setCell ⟨lb, 0, none⟩ _ (fun _ => hS)
  · intro g hg'; simp [Value.ownBlock] at hg'; omega

set_option maxHeartbeats 2000000 in
set_option maxRecDepth 100000 in
theorem undo_any (S : Nat → Prop) (lb c kb bb : Nat) (pv : Value) (L M : List Pst) (w : World) (hL : LedgerIs w lb c pv (.map (some kb)) (.map (some bb)) (L ++ M)) (hne : kb ≠ bb)
    (hS : S lb ∧ S kb ∧ S bb) (h1 : 1 ≤ L.length) (h2 : 1 ≤ M.length) (hu : ∀ q ∈ L, ∀ p ∈ M, q.key ≠ p.key) (hfit : ∀ p ∈ M, p.fits) (hc : c < 1000000000000) :
    Calls Try.prog 32 #[.pointer (some ⟨lb, 0, none⟩), .int .i64 L.length] w fun e w' => e = .returned (.tuple #[]) ∧
      ∃ pv', LedgerIs w' lb (c + 2 * M.length) pv' (.map (some kb)) (.map (some bb)) L ∧ Keeps S w w' ∧ (∀ g, pv'.ownBlock = some g → w.heap.size ≤ g) := by
  have hat := hL.at (j := 0) (by simp; omega)
  obtain ⟨g, cap, rfl, hg, _⟩ := hat
  have hbr := balI_range hL.good
  have hfew := hL.few
  obtain ⟨l0, l1, l2, lf⟩ := hL.cells
  have hcap : (L ++ M).length ≤ cap := by
    rcases hL.row.2 with ⟨h, _⟩ | ⟨g', cap', cur, h, _, _, h2, _⟩
    · simp at h
    · simp only [Value.slice.injEq] at h; omega
  have HL := Lib.hid hL
  have HU := Lib.hid hu
  have HF := Lib.hid hfit
  have HS := Lib.hid hS
  have HNE := Lib.hid hne
  have HBR := Lib.hid hbr
  have hlen : (L ++ M).length = L.length + M.length := List.length_append
  have HLEN := Lib.hid hlen
  obtain ⟨n, hn⟩ : ∃ n, n = (L ++ M).length := ⟨_, rfl⟩
  rw [← hn] at l0 hcap hfew HLEN
  have HN := Lib.hid hn
  have hnL : L.length ≤ n := by omega
  clear hL hu hfit hS hne hbr hlen hn
  have hcl : ¬ cap = L.length := by have := HLEN.out; omega
  have hU0 : UndoIs w w S lb c kb bb (.slice (some ⟨g, 0, none⟩) n cap) L M 0 := by
    rw [HN.out]
    have h := HL.out
    obtain ⟨kb', bb', e1, e2, _, m1, f, m2, hf⟩ : ∃ kb' bb', Value.map (some kb) = .map (some kb') ∧ Value.map (some bb) = .map (some bb') ∧ kb' ≠ bb' ∧ IMap w kb' c (keyIdx (L ++ M)) ∧ ∃ f, IMap w bb' c f ∧ ∀ s, (f s).getD 0 = balI (L ++ M) s := by
      rcases h.maps with ⟨h, _⟩ | h
      · simp at h
      · exact h
    obtain rfl : kb = kb' := by simpa using e1
    obtain rfl : bb = bb' := by simpa using e2
    refine ⟨h.head, h.row, ?_, ⟨f, m2, fun s => by rw [hf s]; simp [balI, sumI]⟩, Keeps.refl _ _⟩
    have e : minusK (L ++ M) (M.take 0) = keyIdx (L ++ M) := by funext s; simp [minusK]
    rw [e]; exact m1
  have HU0 : Hid (UndoIs w w S lb c kb bb (.slice (some ⟨g, 0, none⟩) n cap) L M 0) := hU0
  clear hU0
  go_enter Try.func32, Try.ntmps32
  go_wp2_with fail
  have hml : n - L.length = M.length := by have := HLEN.out; omega
  have HML := Lib.hid hml
  clear hml
  clear l0 l1 l2 lf
  go_loopw [13] (fun i wr => ∃ k : Nat, k ≤ M.length ∧ i = .int .i64 k ∧ Hid (UndoIs w wr S lb c kb bb (.slice (some ⟨g, 0, none⟩) n cap) L M k)) (fun i _ => M.length - (intOf i).toNat)
  case atStart => exact ⟨0, Nat.zero_le _, rfl, HU0⟩
  case round =>
    clear HU0
    obtain ⟨k, hk, rfl, HU1⟩ := hrel
    by_cases hlt : k < M.length
    · have hlz : (k : Int) < ((n - L.length : Nat) : Int) := by have := HML.out; omega
      obtain ⟨l0, l1, l2, q0, q1, q2, q3⟩ := HU1.out.facts HN.out hlt
      have hfp := HF.out (M[k]?.getD noPst) (by rw [List.getElem?_eq_getElem hlt]; exact List.getElem_mem _)
      have hrp := HL.out.good (M[k]?.getD noPst) (List.mem_append_right _ (by rw [List.getElem?_eq_getElem hlt]; exact List.getElem_mem _))
      have hap := rightB_amount hrp
      obtain ⟨f, hfm, hfb⟩ := HU1.out.bals
      have hfr := HU1.out.bounds HL.out.good HL.out.few hfb
      have hstep := fun w5 w9 o => UndoIs.step (w5 := w5) (w9 := w9) (o := o) (f := f) HU1.out HS.out.2 hlt HNE.out ⟨hfm, hfb⟩
      have HSTEP := Lib.hid hstep
      obtain ⟨p, hp⟩ : ∃ p, p = M[k]?.getD noPst := ⟨_, rfl⟩
      rw [← hp] at q0 q1 q2 q3 hfp hrp hap
      rw [← hp] at HSTEP
      clear hstep hp
      obtain ⟨key, src, dst, amount⟩ := p
      dsimp only at *
      have hlb := HU1.out.lt
      have hlw := HU1.out.keeps.size
      obtain ⟨Wa, hWa⟩ : ∃ Wa, Wa = wr.alloc (.cells #[.string key, .string src, .string dst, .int .i64 amount] 40) := ⟨_, rfl⟩
      have hal : ∀ j, j < wr.heap.size → Wa.heap[j]? = wr.heap[j]? := fun j hj => by rw [hWa]; exact Below.heap_alloc wr _ j hj
      have a1 : Wa.cell? ⟨lb, 1, none⟩ = some (.map (some kb)) := (World.cell?_of_block (a := ⟨lb, 1, none⟩) (hal lb hlb)).trans l1
      have a2 : Wa.cell? ⟨lb, 2, none⟩ = some (.map (some bb)) := (World.cell?_of_block (a := ⟨lb, 2, none⟩) (hal lb hlb)).trans l2
      have b0 : Wa.cell? ⟨wr.heap.size, 0, none⟩ = some (.string key) := by rw [hWa]; simp [go_sem]
      have b1 : Wa.cell? ⟨wr.heap.size, 1, none⟩ = some (.string src) := by rw [hWa]; simp [go_sem]
      have b2 : Wa.cell? ⟨wr.heap.size, 2, none⟩ = some (.string dst) := by rw [hWa]; simp [go_sem]
      have b3 : Wa.cell? ⟨wr.heap.size, 3, none⟩ = some (.int .i64 amount) := by rw [hWa]; simp [go_sem]
      have hwa : wr.heap.size < Wa.heap.size := by rw [hWa]; simp
      have hkl := HU1.out.keys.lt
      have hbl := hfm.lt
      obtain ⟨w5, u5, m5, g5⟩ := (HU1.out.keys.block (w' := Wa.drew) (hal kb hkl)).del key hfp.1 0
      have hlk : some lb ≠ some kb := by simp; exact imap_ne_cells HU1.out.keys HU1.out.head
      have hwk : some wr.heap.size ≠ some kb := by simp; omega
      have c1 : w5.cell? ⟨wr.heap.size, 1, none⟩ = some (.string src) := g5.cell b1 hwk
      have c2 : w5.cell? ⟨wr.heap.size, 2, none⟩ = some (.string dst) := g5.cell b2 hwk
      have c3 : w5.cell? ⟨wr.heap.size, 3, none⟩ = some (.int .i64 amount) := g5.cell b3 hwk
      have c4 : w5.cell? ⟨lb, 2, none⟩ = some (.map (some bb)) := g5.cell a2 hlk
      have mb : IMap w5 bb (c + 2 * k) f := hfm.block ((g5.block bb (by show bb < Wa.heap.size; omega) (by simp; exact fun e => HNE.out e.symm)).trans (hal bb hbl))
      have KM := move_any lb bb (c + 2 * k) f dst src amount w5 hfp.2.2.1 hfp.2.1 c4 mb (by have := HL.out.few; have := HLEN.out; omega) (by omega) (by omega) hfr
      have KMH := Lib.hid KM
      have HW := Lib.hid hWa
      have M5 := Lib.hid m5
      have G5 := Lib.hid g5
      have U5 := Lib.hid u5
      have HNS := Lib.hid hap.2.2
      clear KM m5 g5 mb hfm hfb hfr hwk hlk hkl hbl hal hap hrp hWa u5 c4 hlb hlw
      go_wp2_with fail
      rw [← HW.out]
      go_region_law (refine step_delete rfl (.tmp 20) (.tmp 22) 56 9 rfl (.map (some kb)) (.string key) (by simp [Act.eval]) (by simp [Act.eval]) U5.out ?_)
      all_goals
        go_wp2_with fail
        refine KMH.out.mono ?_
        rintro e w9 ⟨rfl, m9, g9⟩
        have HN9 := Lib.hid (HSTEP.out w5 w9 (.cells #[.string key, .string src, .string dst, .int .i64 amount] 40) M5.out (by rw [← HW.out]; exact G5.out) m9 g9 (fun e => HNS.out e.symm))
        clear m9 g9 KMH
        go_wp2_with fail
        go_roundw
        case rel => exact ⟨k + 1, by omega, by go_num, HN9⟩
        case measure => simp [intOf]; omega
    · obtain rfl : k = M.length := by omega
      have hlz : ¬ (M.length : Int) < ((n - L.length : Nat) : Int) := by have := HML.out; omega
      have hU := HU1.out
      have lf0 : wr.frozen? ⟨lb, 0, none⟩ = false := frozen_of_row wr lb 0 _ _ hU.head
      have l0 : wr.cell? ⟨lb, 0, none⟩ = some (.slice (some ⟨g, 0, none⟩) n cap) := by rw [cell_of_row wr lb _ _ _ _ hU.head]; rfl
      have hrow := hU.row
      have hgl := (World.ownsRow.lt hrow g rfl).2
      have hcc : ∀ j u, (pstCells L)[j]? = some u → wr.cell? ((⟨g, 0, none⟩ : Addr).add j) = some u := by
        intro j u hu
        have hj : j < (pstCells L).length := by
          rcases Nat.lt_or_ge j (pstCells L).length with h | h
          · exact h
          · rw [List.getElem?_eq_none (by omega)] at hu; simp at hu
        refine hrow.cells (g := g) rfl j u ?_
        have e : pstCells (L ++ M) = pstCells L ++ pstCells M := by simp [pstCells]
        rw [e, List.getElem?_append_left hj]
        exact hu
      have KC := clone_pst g 0 cap L wr hcc hgl (by omega)
      have KCH := Lib.hid KC
      have HHD := Lib.hid hU.head
      have hLc : (L.length : Int) ≤ cap := by omega
      have hlb := hU.lt
      clear KC hcc hrow hU
      go_wp2_with fail
      refine KCH.out.mono ?_
      rintro e w1 ⟨v, rfl, hown, hb⟩
      obtain ⟨m, hm⟩ : ∃ m, m + 1 = L.length := ⟨L.length - 1, by omega⟩
      have hown' := hown
      rw [← hm] at hown'
      obtain ⟨g1, cap1, rfl, hg1, _⟩ := owns_form hown'
      have e0 := (hb.cell (p := ⟨lb, 0, none⟩) hlb).trans l0
      have ef := (hb.frozen (p := ⟨lb, 0, none⟩) hlb).trans lf0
      have HO := Lib.hid hown
      have HB := Lib.hid hb
      clear hown hown' hb KCH
      have hm1 : ((m : Int) + 1) = L.length := by omega
      go_wp2_with fail
      go_end0
      exact ⟨rfl, _, UndoIs.final HL.out HU1.out HNE.out HS.out.1 HU.out rfl HB.out hg1 (by have := HO.out; rwa [hm] at this)⟩

end Go.Proofs.Ytkimcopmfhjjcaa

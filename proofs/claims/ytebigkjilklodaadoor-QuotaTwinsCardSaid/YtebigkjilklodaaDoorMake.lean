/- 'sortesref15.(Plan).Make': a draw and entrants by numbers. -/
import Derived.Test.YtebigkjilklodaaDoorGrp
import Derived.Test.YtebigkjilklodaaDoorAllocs
set_option linter.unusedVariables false
set_option linter.unusedSimpArgs false
namespace Go.Proofs.YtebigkjilklodaaDoor
open Go.RowKit

def q8 (q : Nat × Nat × Nat) : List Value := [.int .u8 q.1, .int .u8 q.2.1, .int .u8 q.2.2]
/-- The quotas of a plan. -/
def planQ (QL : List (Nat × Nat × Nat)) : List (ByteArray × Int × Int) := (QL.take 4).map fun q => (nmG (q.1 % 5), ((q.2.1 % 4 : Nat) : Int), ((q.2.1 % 4 : Nat) : Int) + ((q.2.2 % 4 : Nat) : Int))
def planD (size : Nat) (q : Value) : DrawC := ⟨.string ⟨#[112, 97, 110, 101, 108]⟩, .int .i64 5, .int .i64 0, .int .i64 0, .int .i64 0, .slice none 0 0, .bool false, .slice none 0 0, .int .i64 0, .slice none 0 0, 3, size, q⟩
/-- What Make returns. -/
def MakeRet (sz : Nat) (QL : List (Nat × Nat × Nat)) (EL : List Nat) (w : World) (e : Ending) (w' : World) : Prop :=
  ∃ q lv L, e = .returned (.tuple #[.agg (planD (sz % 7) q).arr, lv]) ∧ w'.ownsRow w.heap.size 52 3 q (planQ QL).length (quosV (planQ QL)) ∧ w'.ownsRow w.heap.size 56 6 lv L.length (entsV L) ∧
    L.length = (EL.take 10).length ∧ (∀ (i : Nat) p, L[i]? = some p → p.1 = (i : Int) + 1 ∧ ∃ e, EL[i]? = some e ∧ GrpAt w' p.2 (grpsOf e)) ∧ Below w.heap.size w w'

theorem planQ_snoc {QL : List (Nat × Nat × Nat)} {k : Nat} {q : Nat × Nat × Nat} (h : QL[k]? = some q) (hk : k < 4) : (planQ QL).take (k + 1) = (planQ QL).take k ++ [(nmG (q.1 % 5), ((q.2.1 % 4 : Nat) : Int), ((q.2.1 % 4 : Nat) : Int) + ((q.2.2 % 4 : Nat) : Int))] := by
  have e : (planQ QL)[k]? = some (nmG (q.1 % 5), ((q.2.1 % 4 : Nat) : Int), ((q.2.1 % 4 : Nat) : Int) + ((q.2.2 % 4 : Nat) : Int)) := by
    unfold planQ
    rw [List.getElem?_map, List.getElem?_take, if_pos hk, h]; rfl
  have hl := (List.getElem?_eq_some_iff.1 e)
  obtain ⟨hl, he⟩ := hl
  rw [List.take_succ_eq_append_getElem hl, he]
theorem planQ_length (QL : List (Nat × Nat × Nat)) : (planQ QL).length = min 4 QL.length := by simp [planQ]

/-- What stays while a plan is made: the blocks that came first, but for the draw's. -/
def Stays (w W1 wr : World) : Prop := (∀ b, b < w.heap.size + 4 → b ≠ w.heap.size + 2 → wr.heap[b]? = W1.heap[b]?) ∧ Below w.heap.size w wr ∧ w.heap.size + 4 ≤ wr.heap.size
theorem Stays.later {w W1 a b : World} (h : Stays w W1 a) (hb : Below a.heap.size a b) : Stays w W1 b :=
  ⟨fun k hk hn => (hb.block k (by have := h.2.2; omega)).trans (h.1 k hk hn), h.2.1.trans (hb.mono h.2.1.size), Nat.le_trans h.2.2 hb.size⟩
theorem Stays.grown {w W1 a b : World} {row : Option Nat} (h : Stays w W1 a) (hg : a.grownBy b row) (hr : ∀ j, row = some j → w.heap.size + 4 ≤ j) : Stays w W1 b :=
  ⟨fun k hk hn => (hg.block k (by have := h.2.2; omega) (fun e => by have := hr k e.symm; omega)).trans (h.1 k hk hn), h.2.1.grown hg h.2.1.size (fun j hj => by have := hr j hj; omega), Nat.le_trans h.2.2 hg.size⟩
theorem Stays.set {w W1 a : World} (h : Stays w W1 a) (o : Nat) (v : Value) : Stays w W1 (a.setCell ⟨w.heap.size + 2, o, none⟩ v) :=
  ⟨fun k hk hn => (heap_setCell_other _ _ _ _ hn).trans (h.1 k hk hn), h.2.1.setCell (by simp) _, by have := h.2.2; simpa using this⟩

set_option maxHeartbeats 2000000 in
set_option maxRecDepth 100000 in
theorem make_any (sz : Nat) (qv ev : Value) (QL : List (Nat × Nat × Nat)) (EL : List Nat) (w : World) (hsz : sz ≤ 255) (hq : RowAt w.heap.size w qv QL.length (QL.flatMap q8)) (he : RowAt w.heap.size w ev EL.length (EL.map fun e : Nat => .int .u8 (e : Int)))
    (hQ : ∀ q ∈ QL, q.1 ≤ 255 ∧ q.2.1 ≤ 255 ∧ q.2.2 ≤ 255) (hE : ∀ e ∈ EL, e ≤ 255) :
    Calls Tryd.prog 11 #[.agg #[.int .u8 sz, qv, ev]] w (MakeRet sz QL EL w) := by
  obtain ⟨i0, hi, hz0, hz1, hz2⟩ := info_parts Tryd.infoQuo
  obtain ⟨i1, hj, hj0, hj1, hj2⟩ := info_parts Tryd.infoEnt
  have HI := Lib.hid (⟨hi, hz0, hz1, hz2⟩ : Tryd.prog.info? 52 = some i0 ∧ i0.zero = some _ ∧ i0.size = 3 ∧ i0.bytes = 32)
  have HJ := Lib.hid (⟨hj, hj0, hj1, hj2⟩ : Tryd.prog.info? 56 = some i1 ∧ i1.zero = some _ ∧ i1.size = 6 ∧ i1.bytes = 96)
  clear hi hz0 hz1 hz2 hj hj0 hj1 hj2
  obtain ⟨aq, cq, rfl, hqc⟩ := hq
  obtain ⟨ae, ce, rfl, hec⟩ := he
  have HQC := Lib.hid hqc
  have HEC := Lib.hid hec
  have HQ := Lib.hid hQ
  have HE := Lib.hid hE
  clear hqc hec hQ hE
  go_enter Tryd.func11, Tryd.ntmps11
  go_wp2_with fail
  obtain ⟨S, hS⟩ : ∃ S : Nat, S = sz % 7 := ⟨_, rfl⟩
  have hS' : ((sz : Nat) : Int) % 7 = (S : Int) := by omega
  rw [hS']
  have HS := Lib.hid hS
  clear hS hS'
  generalize hW : World.alloc _ _ = W1
  obtain ⟨os, hos⟩ : ∃ os : List Obj, os = [.cells #[.int .u8 sz, .slice aq QL.length cq, .slice ae EL.length ce] 25,
    .cells #[.string ⟨#[]⟩, .int .i64 0, .int .i64 0, .int .i64 0, .int .i64 0, .int .i64 0, .slice none 0 0, .bool false, .slice none 0 0, .int .i64 0, .int .i64 0, .slice none 0 0, .slice none 0 0] 33,
    .cells (planD S (.slice none 0 0)).arr 33, .cells #[.string (nmG 0), .string (nmG 1), .string (nmG 2), .string (nmG 3), .string (nmG 4)] 9] := ⟨_, rfl⟩
  have hWW : W1 = allocs w os := by rw [← hW, hos]; rfl
  have hB1 : Below w.heap.size w W1 := by rw [hWW]; exact allocs_below os w
  have hs1 : W1.heap.size = w.heap.size + 4 := by rw [hWW, allocs_size, hos]; rfl
  have HG0 : Hid (W1.heap[w.heap.size]? = some (.cells #[.int .u8 sz, .slice aq QL.length cq, .slice ae EL.length ce] 25 (0, 0))) := by show _ = _; rw [hWW]; exact allocs_get os w 0 _ (by rw [hos]; rfl)
  have HG1 := Lib.hid (allocs_get os w 1 _ (by rw [hos]; rfl))
  have HG2 : Hid (W1.heap[w.heap.size + 2]? = some (.cells (planD S (.slice none 0 0)).arr 33 (0, 0))) := by show _ = _; rw [hWW]; exact allocs_get os w 2 _ (by rw [hos]; rfl)
  have HG3 : Hid (W1.heap[w.heap.size + 3]? = some (.cells #[.string (nmG 0), .string (nmG 1), .string (nmG 2), .string (nmG 3), .string (nmG 4)] 9 (0, 0))) := by show _ = _; rw [hWW]; exact allocs_get os w 3 _ (by rw [hos]; rfl)
  rw [← hWW] at HG1
  have HST : Hid (Stays w W1 W1) := ⟨fun _ _ _ => rfl, hB1, by omega⟩
  clear hW hWW hos hB1 hs1
  obtain ⟨m, hm⟩ : ∃ m, m = min 4 QL.length := ⟨_, rfl⟩
  have hm4 : m ≤ 4 := by omega
  have hmQ : m ≤ QL.length := by omega
  have HM := Lib.hid hm
  clear hm
  go_loopw [6] (fun i wr => ∃ k : Nat, k ≤ m ∧ i = .int .i64 k ∧ ∃ v, Hid (wr.heap[w.heap.size + 2]? = some (.cells (planD S v).arr 33 (0, 0))) ∧ Hid (wr.ownsRow (w.heap.size + 4) 52 3 v k (quosV ((planQ QL).take k))) ∧ Hid (Stays w W1 wr)) (fun i _ => m - (intOf i).toNat)
  case atStart => exact ⟨0, by omega, rfl, .slice none 0 0, HG2, World.ownsRow_nil _ _ _ _, HST⟩
  case round =>
    obtain ⟨k, hk, rfl, v, HT, HO, HSR⟩ := hrel
    have hsz3 := HSR.out.2.2
    have hb0 := (HSR.out.1 w.heap.size (by omega) (by omega)).trans HG0.out
    have e0 : wr.cell? ⟨w.heap.size, 0, none⟩ = some (.int .u8 sz) := by rw [cell_of_row wr _ _ _ _ _ hb0]; rfl
    have e1 : wr.cell? ⟨w.heap.size, 1, none⟩ = some (.slice aq QL.length cq) := by rw [cell_of_row wr _ _ _ _ _ hb0]; rfl
    have e2 : wr.cell? ⟨w.heap.size, 2, none⟩ = some (.slice ae EL.length ce) := by rw [cell_of_row wr _ _ _ _ _ hb0]; rfl
    have lt0 := cell_lt e0
    clear hb0
    by_cases hkt : k < m
    · have hkz : (k : Int) < QL.length := by omega
      have hkz4 : (k : Int) < 4 := by omega
      obtain ⟨q, hq⟩ : ∃ q, QL[k]? = some q := ⟨_, List.getElem?_eq_getElem (by omega)⟩
      have hqv := HQ.out q (List.mem_of_getElem? hq)
      obtain ⟨hq1, hq2, hq3⟩ := hqv
      have hfl : ∀ j, j < 3 → (QL.flatMap q8)[k * 3 + j]? = (q8 q)[j]? := fun j hj => flat_get q8 3 (fun _ => rfl) QL k j q hq hj
      obtain ⟨bq, off, rfl, hbq, r0⟩ := HQC.out _ _ ((hfl 0 (by decide)).trans rfl)
      obtain ⟨b', o', e, _, r1⟩ := HQC.out _ _ ((hfl 1 (by decide)).trans rfl)
      injection e with e
      injection e with e3 e4 _
      subst e3 e4
      obtain ⟨b', o', e, _, r2⟩ := HQC.out _ _ ((hfl 2 (by decide)).trans rfl)
      injection e with e
      injection e with e3 e4 _
      subst e3 e4
      have hBw := HSR.out.2.1
      have p0 := (hBw.cell (p := ⟨bq, off + (k * 3 + 0), none⟩) hbq).trans r0
      have p1 := (hBw.cell (p := ⟨bq, off + (k * 3 + 1), none⟩) hbq).trans r1
      have p2 := (hBw.cell (p := ⟨bq, off + (k * 3 + 2), none⟩) hbq).trans r2
      have lt1 := cell_lt p0
      rw [Nat.add_zero] at p0
      rw [← Nat.add_assoc] at p1 p2
      have hn5 : q.1 % 5 < 5 := Nat.mod_lt _ (by decide)
      have hb3 := (HSR.out.1 (w.heap.size + 3) (by omega) (by omega)).trans HG3.out
      have c5 : wr.cell? ⟨w.heap.size + 1 + 1 + 1, q.1 % 5, none⟩ = some (.string (nmG (q.1 % 5))) := by
        show wr.cell? ⟨w.heap.size + 3, q.1 % 5, none⟩ = _
        rw [cell_of_row wr _ _ _ _ _ hb3]
        match q.1 % 5, hn5 with
        | 0, _ => rfl
        | 1, _ => rfl
        | 2, _ => rfl
        | 3, _ => rfl
        | 4, _ => rfl
      have lt3 := cell_lt c5
      have d11 : wr.cell? ⟨w.heap.size + 1 + 1, 11, none⟩ = some v := by
        show wr.cell? ⟨w.heap.size + 2, 11, none⟩ = _
        rw [cell_of_row wr _ _ _ _ _ HT.out]; rfl
      have lt2 := cell_lt d11
      obtain ⟨x0, x1, x2⟩ := q
      dsimp only at *
      obtain ⟨y0, hy0⟩ : ∃ y : Nat, y = x0 % 5 := ⟨_, rfl⟩
      obtain ⟨y1, hy1⟩ : ∃ y : Nat, y = x1 % 4 := ⟨_, rfl⟩
      obtain ⟨y2, hy2⟩ : ∃ y : Nat, y = x2 % 4 := ⟨_, rfl⟩
      have z0 : ((x0 : Nat) : Int) % 5 = y0 := by omega
      have z1 : ((x1 : Nat) : Int) % 4 = y1 := by omega
      have z2 : ((x2 : Nat) : Int) % 4 = y2 := by omega
      have HSN : Hid ((planQ QL).take (k + 1) = (planQ QL).take k ++ [(nmG y0, (y1 : Int), (y1 : Int) + (y2 : Int))]) := by
        have h := planQ_snoc hq (by omega)
        dsimp only at h
        rw [← hy0, ← hy1, ← hy2] at h
        exact h
      have ly0 : y0 < 5 := by omega
      have ly1 : y1 < 4 := by omega
      have ly2 : y2 < 4 := by omega
      rw [← hy0] at c5
      have HZ := Lib.hid (And.intro z0 (And.intro z1 z2))
      clear hy0 hy1 hy2 hn5 hb3 hfl r0 r1 r2 hq hBw
      have ly0z : (y0 : Int) < 5 := by omega
      have t0 : ((x0 : Nat) : Int).tmod 5 = y0 := by rw [Int.tmod_eq_emod_of_nonneg (by omega)]; exact z0
      have t2 : ((x2 : Nat) : Int).tmod 4 = y2 := by rw [Int.tmod_eq_emod_of_nonneg (by omega)]; exact z2
      have hsw : IntKind.i64.wrap ((y1 : Int) + (y2 : Int)) = (y1 : Int) + y2 := IntWalk.i64_in _ (by omega)
      have lt2b : w.heap.size + 1 + 1 < wr.heap.size := lt2
      have lt2' : w.heap.size + 1 + 1 < wr.heap.size + 1 := by omega
      have lt3b : w.heap.size + 1 + 1 + 1 < wr.heap.size := lt3
      have lt3' : w.heap.size + 1 + 1 + 1 < wr.heap.size + 1 := by omega
      have hw2 : IntKind.i64.wrap (y2 : Int) = (y2 : Int) := IntWalk.i64_in _ (by omega)
      have hLk : Hid (k ≤ 4) := by show k ≤ 4; omega
      have HLT : Hid (w.heap.size + 2 < wr.heap.size) := lt2
      have HOA : Hid (((wr.alloc (.cells #[.int .u8 x0, .int .u8 x1, .int .u8 x2] 27)).alloc (.cells #[.string (nmG y0), .int .i64 y1, .int .i64 ((y1 : Int) + y2)] 52)).ownsRow (w.heap.size + 4) 52 3 v k (quosV ((planQ QL).take k))) := (HO.out.alloc _).alloc _
      have HBS : Hid (w.heap.size + 4 ≤ ((wr.alloc (.cells #[.int .u8 x0, .int .u8 x1, .int .u8 x2] 27)).alloc (.cells #[.string (nmG y0), .int .i64 y1, .int .i64 ((y1 : Int) + y2)] 52)).heap.size) := by show _ ≤ _; simp; omega
      have HNW : Hid (∀ j u, [Value.string (nmG y0), .int .i64 y1, .int .i64 ((y1 : Int) + y2)][j]? = some u → ((wr.alloc (.cells #[.int .u8 x0, .int .u8 x1, .int .u8 x2] 27)).alloc (.cells #[.string (nmG y0), .int .i64 y1, .int .i64 ((y1 : Int) + y2)] 52)).cell? ((⟨wr.heap.size + 1, 0, none⟩ : Addr).add j) = some u) := by
        have h := cells_new (wr.alloc (.cells #[.int .u8 x0, .int .u8 x1, .int .u8 x2] 27)) [Value.string (nmG y0), .int .i64 y1, .int .i64 ((y1 : Int) + y2)] 52
        rw [World.size_alloc] at h
        exact h
      have HT2 : Hid (((wr.alloc (.cells #[.int .u8 x0, .int .u8 x1, .int .u8 x2] 27)).alloc (.cells #[.string (nmG y0), .int .i64 y1, .int .i64 ((y1 : Int) + y2)] 52)).heap[w.heap.size + 2]? = some (.cells (planD S v).arr 33 (0, 0))) :=
        (Below.heap_alloc _ _ _ (by have := HLT.out; simp; omega)).trans ((Below.heap_alloc _ _ _ HLT.out).trans HT.out)
      have HS2 : Hid (Stays w W1 ((wr.alloc (.cells #[.int .u8 x0, .int .u8 x1, .int .u8 x2] 27)).alloc (.cells #[.string (nmG y0), .int .i64 y1, .int .i64 ((y1 : Int) + y2)] 52))) := HSR.out.later (((Below.refl _ _).alloc (Nat.le_refl _) _).alloc (by simp) _)
      have HSZ2 : Hid (w.heap.size + 2 < ((wr.alloc (.cells #[.int .u8 x0, .int .u8 x1, .int .u8 x2] 27)).alloc (.cells #[.string (nmG y0), .int .i64 y1, .int .i64 ((y1 : Int) + y2)] 52)).heap.size) := by show _ < _; have := HLT.out; rw [World.size_alloc, World.size_alloc]; omega
      have HNB : Hid (some (w.heap.size + 2) ≠ v.ownBlock) := fun e => by have := (HO.out.lt _ e.symm).1; omega
      have HOL : Hid (∀ j, v.ownBlock = some j → w.heap.size + 4 ≤ j) := fun j hj => (HO.out.lt j hj).1
      go_wp2_with fail
      go_region_law (refine step_append1 rfl (.tmp 38) (.tmp 53) 31 rfl (w.heap.size + 4) 52 i0 _ 3 32 Tryd.underlying31 HI.out.1 HI.out.2.1 HI.out.2.2.1 HI.out.2.2.2 rfl (by decide) v k (quosV ((planQ QL).take k)) (by simp [Act.eval]) (by exact HOA.out) ⟨wr.heap.size + 1, 0, none⟩ 1 1 [.string (nmG y0), .int .i64 y1, .int .i64 ((y1 : Int) + y2)] (by simp [Act.eval]) rfl (by exact HNW.out) (by intro u hu; simp at hu; rcases hu with rfl | rfl | rfl <;> rfl) (by have := hLk.out; unfold maxLen; omega) (by have := hLk.out; omega) (by exact HBS.out) ?_; intro v2 w2 hown2 hgrow2; obtain ⟨g2, cp2, rfl, hg2, hg2'⟩ := owns_form hown2; have ht2 := (hgrow2.block (w.heap.size + 2) (by exact HSZ2.out) (by exact HNB.out)).trans (by exact HT2.out); have d11 : w2.cell? ⟨w.heap.size + 1 + 1, 11, none⟩ = some v := (cell_of_row w2 _ 11 _ _ _ ht2).trans rfl; have f11 : w2.frozen? ⟨w.heap.size + 1 + 1, 11, none⟩ = false := frozen_of_row w2 _ 11 _ _ ht2)
      all_goals
        have ht3 : ((w2.setCell ⟨w.heap.size + 2, 11, none⟩ (.slice (some ⟨g2, 0, none⟩) (k + 1) cp2))).heap[w.heap.size + 2]? = some (.cells (planD S (.slice (some ⟨g2, 0, none⟩) (k + 1) cp2)).arr 33 (0, 0)) := heap_setCell_same w2 (w.heap.size + 2) 11 _ _ _ ht2
        have HT3 := Lib.hid ht3
        have HO3 : Hid ((w2.setCell ⟨w.heap.size + 2, 11, none⟩ (.slice (some ⟨g2, 0, none⟩) (k + 1) cp2)).ownsRow (w.heap.size + 4) 52 3 (.slice (some ⟨g2, 0, none⟩) (k + 1) cp2) (k + 1) (quosV ((planQ QL).take (k + 1)))) := by
          have h : w2.ownsRow (w.heap.size + 4) 52 3 (.slice (some ⟨g2, 0, none⟩) (k + 1) cp2) (k + 1) (quosV ((planQ QL).take (k + 1))) := by
            rw [HSN.out, quosV_snoc]; exact hown2
          exact own_keep h fun b hb => heap_setCell_other _ _ _ _ (by have := (World.ownsRow.lt h b hb).1; show b ≠ w.heap.size + 2; omega)
        have HS3 : Hid (Stays w W1 (w2.setCell ⟨w.heap.size + 2, 11, none⟩ (.slice (some ⟨g2, 0, none⟩) (k + 1) cp2))) := by
          have h : Stays w W1 w2 := Stays.grown (a := (wr.alloc (.cells #[.int .u8 x0, .int .u8 x1, .int .u8 x2] 27)).alloc (.cells #[.string (nmG y0), .int .i64 y1, .int .i64 ((y1 : Int) + y2)] 52)) HS2.out ⟨hgrow2.os, hgrow2.tape, hgrow2.output, hgrow2.size, hgrow2.block⟩ HOL.out
          exact h.set _ _
        clear hown2 hgrow2 ht2 ht3 d11 f11
        go_wp2_with fail
        go_roundw
        case rel => exact ⟨k + 1, by omega, by go_num, _, HT3, HO3, HS3⟩
        case measure => simp [intOf]; omega
    · have hend : ¬ ((k : Int) < QL.length ∧ (k : Int) < 4) := by have := HM.out; omega
      have HKM : Hid (k = m) := by show k = m; omega
      have hk4 : k ≤ 4 := by omega
      obtain ⟨W2, hW2⟩ : ∃ W2, W2 = wr := ⟨_, rfl⟩
      subst hW2
      obtain ⟨va, vn, vc, rfl⟩ : ∃ ga gn gc, v = .slice ga gn gc := by
        rcases HO.out.2 with ⟨rfl, _⟩ | ⟨g', c', cur', rfl, _⟩ <;> exact ⟨_, _, _, rfl⟩
      have HQO : Hid (W2.ownsRow (w.heap.size + 4) 52 3 (.slice va vn vc) (planQ QL).length (quosV (planQ QL))) := by
        have hl : (planQ QL).length = k := by rw [planQ_length, HKM.out, HM.out]
        show W2.ownsRow _ _ _ _ _ _
        have h := HO.out
        rw [List.take_of_length_le (by omega)] at h
        rw [hl]; exact h
      obtain ⟨n, hn⟩ : ∃ n, n = min 10 EL.length := ⟨_, rfl⟩
      have hn10 : n ≤ 10 := by omega
      have hnE : n ≤ EL.length := by omega
      have HNE := Lib.hid hn
      have hway : (k : Int) < QL.length ∧ ¬ (k : Int) < 4 ∨ ¬ (k : Int) < QL.length := by
        by_cases h : (k : Int) < QL.length
        · exact .inl ⟨h, fun h4 => hend ⟨h, h4⟩⟩
        · exact .inr h
      clear hn hend hkt
      rcases hway with ⟨hw1, hw2⟩ | hw1
      all_goals
        go_wp2_with fail
        go_loopw [9, 10] (fun lv i wq => ∃ j : Nat, j ≤ n ∧ i = .int .i64 j ∧ ∃ L : List (Int × Value), L.length = j ∧ Hid (wq.ownsRow (w.heap.size + 4) 56 6 lv j (entsV L)) ∧ Hid (∀ (i : Nat) p, L[i]? = some p → p.1 = (i : Int) + 1 ∧ ∃ e, EL[i]? = some e ∧ GrpAt wq p.2 (grpsOf e)) ∧ Hid (wq.heap[w.heap.size + 2]? = some (.cells (planD S (.slice va vn vc)).arr 33 (0, 0))) ∧ Hid (wq.ownsRow (w.heap.size + 4) 52 3 (.slice va vn vc) (planQ QL).length (quosV (planQ QL))) ∧ Hid (Stays w W1 wq)) (fun _ i _ => n - (intOf i).toNat)
        case atStart => exact ⟨0, by omega, rfl, [], rfl, World.ownsRow_nil _ _ _ _, fun i p h => by simp at h, HT, HQO, HSR⟩
        case round =>
          obtain ⟨j, hj, rfl, L, hL, HOE, HGE, HTE, HQE, HSE⟩ := hrel
          have hsz4 := HSE.out.2.2
          have hb0 := (HSE.out.1 w.heap.size (by omega) (by omega)).trans HG0.out
          have e0 : wr.cell? ⟨w.heap.size, 0, none⟩ = some (.int .u8 sz) := by rw [cell_of_row wr _ _ _ _ _ hb0]; rfl
          have e2 : wr.cell? ⟨w.heap.size, 2, none⟩ = some (.slice ae EL.length ce) := by rw [cell_of_row wr _ _ _ _ _ hb0]; rfl
          have lt0 := cell_lt e0
          clear hb0
          by_cases hjt : j < n
          · have hjz : (j : Int) < EL.length := by omega
            have hjz4 : (j : Int) < 10 := by omega
            obtain ⟨e, he⟩ : ∃ e, EL[j]? = some e := ⟨_, List.getElem?_eq_getElem (by omega)⟩
            have heE := HE.out e (List.mem_of_getElem? he)
            have HEJ := Lib.hid he
            obtain ⟨be, off, rfl, hbe, r0⟩ := HEC.out j (.int .u8 (e : Int)) (by rw [List.getElem?_map, he]; rfl)
            have p0 := (HSE.out.2.1.cell (p := ⟨be, off + j, none⟩) hbe).trans r0
            have lt1 := cell_lt p0
            clear r0 he
            go_wp2_with fail
            refine (groups_any e _ heE).mono ?_
            rintro eg w5 ⟨gv, rfl, hgo, hb5⟩
            obtain ⟨ga, gn, gc, rfl⟩ : ∃ ga gn gc, gv = .slice ga gn gc := by
              rcases hgo.2 with ⟨rfl, _⟩ | ⟨g', c', cur', rfl, _⟩ <;> exact ⟨_, _, _, rfl⟩
            have HGV : Hid (GrpAt w5 (.slice ga gn gc) (grpsOf e)) := own_base hgo (Nat.zero_le _)
            have HO5 := Lib.hid (ownsRow_below HOE.out hb5)
            have HQ5 := Lib.hid (ownsRow_below HQE.out hb5)
            have HS5 := Lib.hid (HSE.out.later hb5)
            have HT5 : Hid (w5.heap[w.heap.size + 2]? = some (.cells (planD S (.slice va vn vc)).arr 33 (0, 0))) := (hb5.block _ (Array.getElem?_eq_some_iff.1 HTE.out).1).trans HTE.out
            have HG5 : Hid (∀ (i : Nat) p, L[i]? = some p → p.1 = (i : Int) + 1 ∧ ∃ e, EL[i]? = some e ∧ GrpAt w5 p.2 (grpsOf e)) := fun i p hp => by
              obtain ⟨h1, e, h2, h3⟩ := HGE.out i p hp
              exact ⟨h1, e, h2, h3.later hb5⟩
            have hs5 := HS5.out.2.2
            clear hgo hb5 p0 e0 e2
            go_wp2_with (at_builtin; refine wpList_append_own _ rfl _ _ 34 rfl (w.heap.size + 4) 56 i1 _ 6 96 Tryd.underlying34 HJ.out.1 HJ.out.2.1 HJ.out.2.2.1 HJ.out.2.2.2 rfl (by decide) _ _ _ rfl (HO5.out.alloc _) ⟨w5.heap.size, 0, none⟩ 1 1 [.int .i64 ((j : Int) + 1), .int .i64 0, .int .i64 0, .slice none 0 0, .slice none 0 0, .slice ga gn gc] rfl rfl ?c1 ?c2 ?c3 ?c4 ?c5 ?_)
            case c1 => exact cells_new w5 [.int .i64 ((j : Int) + 1), .int .i64 0, .int .i64 0, .slice none 0 0, .slice none 0 0, .slice ga gn gc] _
            case c2 => intro u hu; simp at hu; rcases hu with rfl | rfl | rfl | rfl <;> rfl
            case c3 => unfold maxLen; omega
            case c4 => omega
            case c5 => simp; omega
            intro v' w6 hown' hgrow _
            have hga : (w5.alloc (.cells #[.int .i64 ((j : Int) + 1), .int .i64 0, .int .i64 0, .slice none 0 0, .slice none 0 0, .slice ga gn gc] 56)).grownBy w6 u9.ownBlock := hgrow
            have hoa := HO5.out.alloc (.cells #[.int .i64 ((j : Int) + 1), .int .i64 0, .int .i64 0, .slice none 0 0, .slice none 0 0, .slice ga gn gc] 56)
            have hbA : Below w5.heap.size w5 (w5.alloc (.cells #[.int .i64 ((j : Int) + 1), .int .i64 0, .int .i64 0, .slice none 0 0, .slice none 0 0, .slice ga gn gc] 56)) := (Below.refl _ _).alloc (Nat.le_refl _) _
            have hlt2 : w.heap.size + 2 < w5.heap.size := (Array.getElem?_eq_some_iff.1 HT5.out).1
            have HT6 : Hid (w6.heap[w.heap.size + 2]? = some (.cells (planD S (.slice va vn vc)).arr 33 (0, 0))) := (hga.block _ (by rw [World.size_alloc]; omega) (fun e => by have := (hoa.lt _ e.symm).1; omega)).trans ((Below.heap_alloc _ _ _ hlt2).trans HT5.out)
            have HQ6 : Hid (w6.ownsRow (w.heap.size + 4) 52 3 (.slice va vn vc) (planQ QL).length (quosV (planQ QL))) := own_grown (ownsRow_below HQ5.out hbA) hoa (by decide) hga
            have HS6 : Hid (Stays w W1 w6) := (HS5.out.later hbA).grown hga (fun j hj => (hoa.lt j hj).1)
            have HO6 : Hid (w6.ownsRow (w.heap.size + 4) 56 6 v' (j + 1) (entsV (L ++ [((j : Int) + 1, .slice ga gn gc)]))) := by
              show w6.ownsRow _ _ _ _ _ _
              rw [entsV_snoc]; exact hown'
            have HG6 : Hid (∀ (i : Nat) p, (L ++ [((j : Int) + 1, .slice ga gn gc)])[i]? = some p → p.1 = (i : Int) + 1 ∧ ∃ e, EL[i]? = some e ∧ GrpAt w6 p.2 (grpsOf e)) := fun i p hp => by
              rw [List.getElem?_append] at hp
              by_cases hlt : i < L.length
              · rw [if_pos hlt] at hp
                obtain ⟨h1, e, h2, h3⟩ := HG5.out i p hp
                exact ⟨h1, e, h2, (h3.later hbA).grown hoa hga⟩
              · rw [if_neg hlt] at hp
                obtain rfl : i = j := by
                  have := (List.getElem?_eq_some_iff.1 hp).1
                  simp at this; omega
                rw [hL, Nat.sub_self, List.getElem?_cons_zero] at hp
                obtain rfl := Option.some.inj hp
                exact ⟨rfl, e, HEJ.out, (HGV.out.later hbA).grown hoa hga⟩
            clear hown' hgrow hga hoa hbA
            go_wp2_with fail
            go_roundw
            case rel => exact ⟨j + 1, by omega, by go_num, L ++ [((j : Int) + 1, .slice ga gn gc)], by simp [hL], HO6, HG6, HT6, HQ6, HS6⟩
            case measure => simp [intOf]; omega
          · have hendz : (j : Int) < EL.length ∧ ¬ (j : Int) < 10 ∨ ¬ (j : Int) < EL.length := by
              have := HNE.out
              omega
            have HJN : Hid (j = n) := by show j = n; omega
            have ht := HTE.out
            unfold planD DrawC.arr at ht
            dsimp only at ht
            obtain ⟨t0, t1, t2, t3, t4, t5, t6, t7, t8, t9, t10, t11, t12⟩ := cells13 ht
            have hr := (HSE.out.1 (w.heap.size + 1) (by omega) (by omega)).trans HG1.out
            obtain ⟨y0, y1, y2, y3, y4, y5, y6, y7, y8, y9, y10, y11, y12⟩ := cells13 hr
            obtain ⟨f0, f1, f2, f3, f4, f5, f6, f7, f8, f9, f10, f11, f12, _⟩ := frozen14 hr
            have tlt := cell_lt t0
            have elt := cell_lt y0
            have HR := Lib.hid hr
            clear hr ht hjt
            rcases hendz with ⟨hz1, hz2⟩ | hz1
            all_goals
              go_wp2_with fail
              generalize hWE : World.setCell _ _ _ = WE
              obtain ⟨W3, hW3⟩ : ∃ W3, W3 = over (w.heap.size + 1) wr 0 [.string ⟨#[112, 97, 110, 101, 108]⟩, .int .i64 3, .int .i64 5, .int .i64 0, .int .i64 0, .int .i64 0, .slice none 0 0, .bool false, .slice none 0 0, .int .i64 0, .int .i64 S, .slice va vn vc, .slice none 0 0] := ⟨_, rfl⟩
              have hEE : WE = W3 := by rw [← hWE, hW3]; rfl
              have hEH := over_all HR.out [.string ⟨#[112, 97, 110, 101, 108]⟩, .int .i64 3, .int .i64 5, .int .i64 0, .int .i64 0, .int .i64 0, .slice none 0 0, .bool false, .slice none 0 0, .int .i64 0, .int .i64 S, .slice va vn vc, .slice none 0 0] rfl
              have hoth : ∀ c, c ≠ w.heap.size + 1 → W3.heap[c]? = wr.heap[c]? := fun c hc => by rw [hW3]; exact over_other hc _ _ _
              have hbel : Below w.heap.size w W3 := by
                rw [hW3]
                exact over_below (by omega) _ _ _ HSE.out.2.1
              rw [← hW3] at hEH
              clear hWE hW3
              subst hEE
              have hq2 := own_keep HQE.out (w' := WE) (fun b hb => hoth b (by have := (World.ownsRow.lt HQE.out b hb).1; omega))
              have ho2 := own_keep HOE.out (w' := WE) (fun b hb => hoth b (by have := (World.ownsRow.lt HOE.out b hb).1; omega))
              have hg2 : ∀ (i : Nat) p, L[i]? = some p → p.1 = (i : Int) + 1 ∧ ∃ e, EL[i]? = some e ∧ GrpAt WE p.2 (grpsOf e) := fun i p hp => by
                obtain ⟨h1, e, h2, h3⟩ := HGE.out i p hp
                refine ⟨h1, e, h2, own_keep h3 fun b hb => hoth b fun hbe => ?_⟩
                subst hbe
                rcases h3.2 with ⟨e0, _⟩ | ⟨g', c', cur', e0, _, e1, _⟩
                · rw [e0] at hb; cases hb
                · rw [e0] at hb
                  obtain rfl : g' = _ := Option.some.inj hb
                  rw [HR.out] at e1
                  simp at e1
              clear t0 t1 t2 t3 t4 t5 t6 t7 t8 t9 t10 t11 t12 y0 y1 y2 y3 y4 y5 y6 y7 y8 y9 y10 y11 y12
              obtain ⟨z0, z1, z2, z3, z4, z5, z6, z7, z8, z9, z10, z11, z12⟩ := cells13 (show WE.heap[w.heap.size + 1]? = some (.cells #[.string ⟨#[112, 97, 110, 101, 108]⟩, .int .i64 3, .int .i64 5, .int .i64 0, .int .i64 0, .int .i64 0, .slice none 0 0, .bool false, .slice none 0 0, .int .i64 0, .int .i64 S, .slice va vn vc, .slice none 0 0] 33 (0, 0)) from hEH)
              exact bodyPost_ret (v := .tuple #[.agg (planD S (.slice va vn vc)).arr, u9])
                (by simp [results, Tryd.results11, go_sem, z0, z1, z2, z3, z4, z5, z6, z7, z8, z9, z10, z11, z12, planD, DrawC.arr]) rfl
                ⟨_, u9, L, by rw [HS.out], own_base hq2 (by omega), by rw [hL]; exact own_base ho2 (by omega), by rw [hL, HJN.out, HNE.out, List.length_take], hg2, hbel⟩

end Go.Proofs.YtebigkjilklodaaDoor

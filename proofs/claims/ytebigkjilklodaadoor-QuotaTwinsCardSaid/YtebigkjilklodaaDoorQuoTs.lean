/- slices.Index and slices.Contains of strings. -/
import Derived.Deep.LoopGhost
import Derived.Test.YtebigkjilklodaaDoorRats
import Derived.Test.YtebigkjilklodaaDoorQuoCs
import Derived.Test.YtebigkjilklodaaDoorOwns
set_option linter.unusedVariables false
set_option linter.unusedSimpArgs false
namespace Go.Proofs.YtebigkjilklodaaDoor
open Go.RowKit

/-- A slice of strings. -/
def StrsAt (B : Nat) (w : World) (v : Value) (gs : List ByteArray) : Prop :=
  ∃ ao cap, v = .slice ao gs.length cap ∧ ∀ i s, gs[i]? = some s → ∃ b off, ao = some ⟨b, off, none⟩ ∧ b < B ∧ w.cell? ⟨b, off + i, none⟩ = some (.string s)
theorem StrsAt.mono {B B' : Nat} {w w' : World} {v : Value} {gs : List ByteArray} (h : StrsAt B w v gs) (hb : Below B w w') (hB : B ≤ B') : StrsAt B' w' v gs := by
  obtain ⟨ao, cap, rfl, hc⟩ := h
  refine ⟨ao, cap, rfl, fun i s hs => ?_⟩
  obtain ⟨b, off, e, hlt, h1⟩ := hc i s hs
  exact ⟨b, off, e, by omega, (hb.cell (p := ⟨b, _, none⟩) hlt).trans h1⟩

theorem str_eq (a b : ByteArray) : (a.toList == b.toList) = decide (a = b) := by
  by_cases h : a = b
  · rw [h, decide_eq_true rfl]; simp
  · rw [decide_eq_false h]
    cases hh : a.toList == b.toList
    · rfl
    · exact absurd (toList_inj (by simpa using hh)) h

def hasG (gs : List ByteArray) (x : ByteArray) : Bool := gs.any fun g => decide (g = x)
theorem hasG_iff {gs : List ByteArray} {x : ByteArray} : hasG gs x = true ↔ x ∈ gs := by
  unfold hasG
  rw [List.any_eq_true]
  exact ⟨fun ⟨g, h1, h2⟩ => (of_decide_eq_true h2) ▸ h1, fun h => ⟨x, h, decide_eq_true rfl⟩⟩

set_option maxHeartbeats 400000 in
theorem sindex_any (v : Value) (gs : List ByteArray) (x : ByteArray) (w : World) (hv : StrsAt w.heap.size w v gs) (hn : gs.length ≤ 1000000) :
    Calls Tryd.prog 71 #[v, .string x] w fun e w' => (∃ r : Int, e = .returned (.int .i64 r) ∧ (0 ≤ r ↔ x ∈ gs)) ∧ w' = w := by
  obtain ⟨ao, cap, rfl, hc⟩ := hv
  have HC := Lib.hid hc
  clear hc
  go_enter Tryd.func71, Tryd.ntmps71
  go_wp2
  go_loopw [8] (fun v wr => ∃ k : Nat, k ≤ gs.length ∧ v = .int .i64 k ∧ wr = w ∧ Hid (x ∉ gs.take k)) (fun v _ => gs.length - (intOf v).toNat)
  case atStart => exact ⟨0, Nat.zero_le _, rfl, rfl, by show x ∉ gs.take 0; simp⟩
  case round =>
    obtain ⟨k, hk, rfl, rfl, hnot⟩ := hrel
    by_cases hlt : k < gs.length
    · have hlz : (k : Int) < gs.length := by omega
      obtain ⟨b, off, rfl, _, hcell⟩ := HC.out k _ (List.getElem?_eq_getElem hlt)
      have HT := Lib.hid (List.take_succ_eq_append_getElem hlt)
      have HM := Lib.hid (List.getElem_mem hlt)
      obtain ⟨y, hy⟩ : ∃ y, y = gs[k] := ⟨_, rfl⟩
      rw [← hy] at hcell HT HM
      clear hy
      by_cases hxy : x = y
      · subst hxy
        go_wp2
        go_ret
        exact ⟨⟨k, rfl, ⟨fun _ => HM.out, fun _ => by omega⟩⟩, rfl⟩
      · have hse : (x.toList == y.toList) = false := by rw [str_eq]; exact decide_eq_false hxy
        have HXY := Lib.hid hxy
        clear hxy
        go_wp2
        go_roundw
        case rel =>
          refine ⟨k + 1, by omega, by go_num, trivial, ?_⟩
          show x ∉ gs.take (k + 1)
          rw [HT.out, List.mem_append]
          intro h
          rcases h with h | h
          · exact hnot.out h
          · exact HXY.out (by simpa using h)
        case measure => simp [intOf]; omega
    · obtain rfl : k = gs.length := by omega
      have HN : Hid (x ∉ gs) := by
        have := hnot.out
        rwa [List.take_length] at this
      clear hnot
      go_wp2
      go_ret
      exact ⟨⟨-1, rfl, ⟨fun h => by omega, fun h => absurd h HN.out⟩⟩, rfl⟩

set_option maxHeartbeats 400000 in
theorem scontains_any (v : Value) (gs : List ByteArray) (x : ByteArray) (w : World) (hv : StrsAt w.heap.size w v gs) (hn : gs.length ≤ 1000000) :
    Calls Tryd.prog 56 #[v, .string x] w fun e w' => e = .returned (.bool (hasG gs x)) ∧ w' = w := by
  have HI := Lib.hid (sindex_any v gs x w hv hn)
  clear hv
  go_enter Tryd.func56, Tryd.ntmps56
  go_wp2_with fail
  refine HI.out.mono ?_
  rintro e w1 ⟨⟨r, rfl, hr⟩, rfl⟩
  have HR := Lib.hid hr
  clear hr
  go_wp2_with fail
  go_ret
  exact ⟨ret_bool (by have h := HR.out; rw [← hasG_iff] at h; cases hg : hasG gs x <;> rw [hg] at h <;> simp at h ⊢ <;> omega), rfl⟩

end Go.Proofs.YtebigkjilklodaaDoor

/- newTable: who belongs to which quota. -/
namespace Go.Proofs.YtebigkjilklodaaDoor
open Go.RowKit

/-- Entrants: their groups. -/
def EntAt (B : Nat) (w : World) (v : Value) (n : Nat) (gs : Nat → List ByteArray) : Prop :=
  ∃ ao cap, v = .slice ao n cap ∧ ∀ i, i < n → ∃ b off v0 v1 v2 v3 v4 gv, ao = some ⟨b, off, none⟩ ∧ b < B ∧ w.cell? ⟨b, off + i * 6, none⟩ = some v0 ∧ w.cell? ⟨b, off + (i * 6 + 1), none⟩ = some v1 ∧ w.cell? ⟨b, off + (i * 6 + 2), none⟩ = some v2 ∧ w.cell? ⟨b, off + (i * 6 + 3), none⟩ = some v3 ∧ w.cell? ⟨b, off + (i * 6 + 4), none⟩ = some v4 ∧ w.cell? ⟨b, off + (i * 6 + 5), none⟩ = some gv ∧ StrsAt B w gv (gs i) ∧ FlatV v0 ∧ FlatV v1 ∧ FlatV v2 ∧ FlatV v3 ∧ FlatV v4
theorem EntAt.mono {B B' : Nat} {w w' : World} {v : Value} {n : Nat} {gs : Nat → List ByteArray} (h : EntAt B w v n gs) (hb : Below B w w') (hB : B ≤ B') : EntAt B' w' v n gs := by
  obtain ⟨ao, cap, rfl, hc⟩ := h
  refine ⟨ao, cap, rfl, fun i hi => ?_⟩
  obtain ⟨b, off, v0, v1, v2, v3, v4, gv, e, hlt, h0, h1, h2, h3, h4, h5, h6, h7⟩ := hc i hi
  exact ⟨b, off, v0, v1, v2, v3, v4, gv, e, by omega, (hb.cell (p := ⟨b, _, none⟩) hlt).trans h0, (hb.cell (p := ⟨b, _, none⟩) hlt).trans h1, (hb.cell (p := ⟨b, _, none⟩) hlt).trans h2, (hb.cell (p := ⟨b, _, none⟩) hlt).trans h3, (hb.cell (p := ⟨b, _, none⟩) hlt).trans h4, (hb.cell (p := ⟨b, _, none⟩) hlt).trans h5, h6.mono hb hB, h7⟩

/-- A draw's free values are of one cell each. -/
def DrawC.flat (x : DrawC) : Prop := FlatV x.a0 ∧ FlatV x.a2 ∧ FlatV x.a3 ∧ FlatV x.a4 ∧ FlatV x.a5 ∧ FlatV x.a6 ∧ FlatV x.a7 ∧ FlatV x.a8 ∧ FlatV x.a9 ∧ FlatV x.a12

/-- The draw that a table stands for. -/
def pdOf (size : Int) (m : Nat) (g : Nat → ByteArray) (low high : Nat → Int) (gs : Nat → List ByteArray) : PD :=
  { size := size, m := m, row := fun i k => decide (k < m) && hasG (gs i) (g k), low := low, high := high }

theorem Tryd.infoBool : (Tryd.prog.info? 4).map (fun i => (i.zero, i.size, i.bytes)) = some (some (.bool false), 1, 1) := by kernel_rfl
theorem Tryd.infoBools : (Tryd.prog.info? 61).map (fun i => (i.zero, i.size, i.bytes)) = some (some (.slice none 0 0), 1, 24) := by kernel_rfl

/-- A row under way. -/
def rowV (m : Nat) (f : Nat → Bool) (j : Nat) : List Value := (List.range m).map fun k => .bool (decide (k < j) && f k)
theorem rowV_length (m : Nat) (f : Nat → Bool) (j : Nat) : (rowV m f j).length = m := by simp [rowV]
theorem rowV_zero (m : Nat) (f : Nat → Bool) : List.replicate m (Value.bool false) = rowV m f 0 := by
  apply List.ext_getElem?
  intro k
  unfold rowV
  by_cases h : k < m
  · rw [List.getElem?_replicate, if_pos h, List.getElem?_map, List.getElem?_range h]; simp
  · rw [List.getElem?_eq_none (by simp; omega), List.getElem?_eq_none (by simp; omega)]
theorem rowV_get (m : Nat) (f : Nat → Bool) (j k : Nat) (h : k < m) : (rowV m f j)[k]? = some (.bool (decide (k < j) && f k)) := by
  unfold rowV
  rw [List.getElem?_map, List.getElem?_range h]; rfl
theorem rowV_set (m : Nat) (f : Nat → Bool) (j : Nat) (h : j < m) : (rowV m f j).set j (.bool (f j)) = rowV m f (j + 1) := by
  apply List.ext_getElem?
  intro k
  by_cases hk : k < m
  · rw [List.getElem?_set, rowV_length, rowV_get _ _ _ _ hk, rowV_get _ _ _ _ hk]
    by_cases e : j = k
    · subst e; simp [hk]
    · rw [if_neg e]
      by_cases e2 : k < j
      · rw [decide_eq_true e2, decide_eq_true (by omega : k < j + 1)]
      · rw [decide_eq_false e2, decide_eq_false (by omega : ¬ k < j + 1)]
  · rw [List.getElem?_eq_none (by rw [List.length_set, rowV_length]; omega), List.getElem?_eq_none (by rw [rowV_length]; omega)]

/-- Rows of different elements lie apart. -/
theorem own_apart {w : World} {e e' : TypeId} {B B' b cap s n : Nat} {xs ys : List Value} {v : Value} (h : OwnL e w B b cap xs) (k : w.ownsRow B' e' s v n ys) (hne : e ≠ e') (hb : v.ownBlock = some b) : False := by
  rcases h.2 with ⟨h1, _⟩ | ⟨g, c, cur, h1, _, h2, _⟩
  · cases h1
  · simp only [Value.slice.injEq, Option.some.injEq, Addr.mk.injEq, and_true, true_and] at h1
    obtain ⟨rfl, _⟩ := h1
    rcases k.2 with ⟨rfl, _⟩ | ⟨g', c', cur', rfl, _, h3, _⟩
    · cases hb
    · obtain rfl : g' = b := Option.some.inj hb
      rw [h2] at h3
      simp only [Option.some.injEq, Obj.cells.injEq] at h3
      exact hne h3.2.1

/-- Owned rows are a table's rows. -/
theorem ins_of_own {w : World} {B : Nat} {v : Value} {n m : Nat} {bs : List Nat} {g : Nat → ByteArray} {gs : Nat → List ByteArray} (h : w.ownsRow B 61 1 v n (bs.map fun b => .slice (some ⟨b, 0, none⟩) m m)) (hl : bs.length = n)
    (hr : ∀ j b, bs[j]? = some b → OwnL 4 w B b m (rowV m (fun q => hasG (gs j) (g q)) m)) : InsAt w.heap.size w v n m (fun i k => decide (k < m) && hasG (gs i) (g k)) := by
  have hcell : ∀ i, i < n → ∃ b, bs[i]? = some b ∧ (bs.map fun b => Value.slice (some ⟨b, 0, none⟩) m m)[i]? = some (.slice (some ⟨b, 0, none⟩) m m) := fun i hi => by
    refine ⟨bs[i]'(by omega), List.getElem?_eq_getElem (by omega), ?_⟩
    rw [List.getElem?_map, List.getElem?_eq_getElem (by omega)]; rfl
  rcases h.2 with ⟨rfl, h0⟩ | ⟨gb, cap, cur, rfl, h3⟩
  · exact ⟨none, 0, by rw [h0], fun i hi => by omega⟩
  · refine ⟨some ⟨gb, 0, none⟩, cap, rfl, fun i hi => ?_⟩
    obtain ⟨b, hb, hc⟩ := hcell i hi
    have h4 := World.ownsRow.cellAt h i (by omega)
    rw [hc] at h4
    refine ⟨gb, 0, some ⟨b, 0, none⟩, m, rfl, (World.ownsRow.lt h gb rfl).2, by rw [Nat.zero_add]; exact h4, fun k hk => ?_⟩
    exact ⟨b, 0, rfl, (hr i b hb).lt.2, by rw [Nat.zero_add]; exact (hr i b hb).cell (rowV_get m _ m k hk)⟩

set_option maxHeartbeats 1000000 in
set_option maxRecDepth 100000 in
theorem qnew_ok (x : DrawC) (ao : Option Addr) (n cap m : Nat) (g : Nat → ByteArray) (low high : Nat → Int) (gs : Nat → List ByteArray) (w : World) (hx : x.flat) (hq : QuoAt w.heap.size w x.qs m g low high) (he : EntAt w.heap.size w (.slice ao n cap) n gs)
    (hg : ∀ i, (gs i).length ≤ 1000000) (hk : x.kind = 3) (hn : n ≤ 40) (hm : m ≤ 12) (hs : 0 ≤ x.size) (hs2 : x.size ≤ n) :
    Calls Tryd.prog 35 #[.agg x.arr, .slice ao n cap] w fun e w' => (∃ ins, e = .returned (.tuple #[.agg (tabA x ins), .bool true]) ∧ TabAt w'.heap.size w' x ins (pdOf x.size m g low high gs) n) ∧ Below w.heap.size w w' := by
  obtain ⟨i1, hi1, hz10, hz11, hz12⟩ := info_parts Tryd.infoBool
  obtain ⟨i2, hi2, hz20, hz21, hz22⟩ := info_parts Tryd.infoBools
  obtain ⟨aq, cq, hqs, hqc⟩ := id hq
  obtain ⟨ao', cap', e, hec⟩ := he
  simp only [Value.slice.injEq, true_and] at e
  obtain ⟨rfl, rfl⟩ := e
  obtain ⟨a0, a2, a3, a4, a5, a6, a7, a8, a9, a12, kind, size, qs⟩ := x
  obtain ⟨x0, x2, x3, x4, x5, x6, x7, x8, x9, x12⟩ := hx
  dsimp only at hqs hk hs hs2 x0 x2 x3 x4 x5 x6 x7 x8 x9 x12 hq
  have s0 := x0.store
  have s2 := x2.store
  have s3 := x3.store
  have s4 := x4.store
  have s5 := x5.store
  have s6 := x6.store
  have s7 := x7.store
  have s8 := x8.store
  have s9 := x9.store
  have s12 := x12.store
  subst hqs hk
  have HQ := Lib.hid hqc
  have HQA := Lib.hid hq
  have HE := Lib.hid hec
  have HG := Lib.hid hg
  have HS := Lib.hid (And.intro s0 (And.intro s2 (And.intro s3 (And.intro s4 (And.intro s5 (And.intro s6 (And.intro s7 (And.intro s8 (And.intro s9 s12)))))))))
  clear hqc hec hg hq x0 x2 x3 x4 x5 x6 x7 x8 x9 x12
  unfold tabA DrawC.arr
  dsimp only
  go_enter Tryd.func35, Tryd.ntmps35
  go_upto_if 5 with fail
  generalize hW0 : World.alloc _ _ = W0
  obtain ⟨h1, h2, h3, hB0, hs0⟩ := alloc3 _ _ _ _ _ _ _ hW0
  clear hW0
  have HH := Lib.hid (And.intro h1 (And.intro h2 hs0))
  have HB0 := Lib.hid hB0
  have HT3 := Lib.hid h3
  clear h1 h2 h3 hB0 hs0
  clear s0 s2 s3 s4 s5 s6 s7 s8 s9 s12
  go_loopw [43] (fun u wr => ∃ k : Nat, k ≤ n ∧ u = .int .i64 k ∧ ∃ (v : Value) (bs : List Nat), Hid (wr.ownsRow (w.heap.size + 1 + 1 + 1) 61 1 v k (bs.map fun b => .slice (some ⟨b, 0, none⟩) m m)) ∧ Hid (wr.heap[w.heap.size + 1 + 1]? = some (.cells #[a0, .int .i64 3, a2, a3, a4, a5, a6, a7, a8, a9, .int .i64 size, .slice aq m cq, a12, v] 84 (0, 0))) ∧ Hid (Below (w.heap.size + 1 + 1) W0 wr) ∧ Hid (bs.length = k) ∧ Hid (∀ j b, bs[j]? = some b → OwnL 4 wr (w.heap.size + 1 + 1 + 1) b m (rowV m (fun q => hasG (gs j) (g q)) m))) (fun u _ => n - (intOf u).toNat)
  case atStart => exact ⟨0, Nat.zero_le _, rfl, .slice none 0 0, [], World.ownsRow_nil _ _ _ _, HT3, Below.refl _ _, rfl, fun j b h => by simp at h⟩
  case round =>
    obtain ⟨wo, hwo⟩ : ∃ wo, wo = wr := ⟨_, rfl⟩
    subst hwo
    obtain ⟨k, hk, rfl, v, bs, hown, htb, hKr, hlen, hrows⟩ := hrel
    have hszr := hKr.out.size
    have hs0 := HH.out.2.2
    by_cases hlt : k < n
    · have hlz : (k : Int) < n := by omega
      obtain ⟨b, off, v0, v1, v2, v3, v4, gv, rfl, hbB, q0, q1, q2, q3, q4, q5, hgv, r0, r1, r2, r3, r4⟩ := HE.out k hlt
      have hKw := HB0.out.trans (hKr.out.mono (by omega : w.heap.size ≤ w.heap.size + 1 + 1))
      have kk : ∀ o, wo.cell? ⟨b, o, none⟩ = w.cell? ⟨b, o, none⟩ := fun o => hKw.cell (p := ⟨b, o, none⟩) hbB
      have p0 : wo.cell? ⟨b, off + k * 6, none⟩ = some v0 := by rw [kk]; exact q0
      have p1 : wo.cell? ⟨b, off + k * 6 + 1, none⟩ = some v1 := by rw [kk, Nat.add_assoc]; exact q1
      have p2 : wo.cell? ⟨b, off + k * 6 + 2, none⟩ = some v2 := by rw [kk, Nat.add_assoc]; exact q2
      have p3 : wo.cell? ⟨b, off + k * 6 + 3, none⟩ = some v3 := by rw [kk, Nat.add_assoc]; exact q3
      have p4 : wo.cell? ⟨b, off + k * 6 + 4, none⟩ = some v4 := by rw [kk, Nat.add_assoc]; exact q4
      have p5 : wo.cell? ⟨b, off + k * 6 + 5, none⟩ = some gv := by rw [kk, Nat.add_assoc]; exact q5
      obtain ⟨gao, gcap, rfl, hgc⟩ := hgv
      have HGV : Hid (StrsAt w.heap.size w (.slice gao (gs k).length gcap) (gs k)) := ⟨gao, gcap, rfl, hgc⟩
      have z0 := r0.store
      have z1 := r1.store
      have z2 := r2.store
      have z3 := r3.store
      have z4 := r4.store
      have d11 : wo.cell? ⟨w.heap.size, 11, none⟩ = some (.slice aq m cq) := by
        rw [hKr.out.cell (p := ⟨w.heap.size, 11, none⟩) (by show w.heap.size < _; omega), cell_of_row W0 w.heap.size _ _ _ _ HH.out.1]; rfl
      have dlt := cell_lt d11
      have plt := cell_lt p0
      clear kk q0 q1 q2 q3 q4 q5 hgc r0 r1 r2 r3 r4 hKw
      have hmz : (0 : Int) ≤ m := by omega
      go_wp2_with (at_make; refine wpList_make_full _ rfl _ _ 61 rfl (w.heap.size + 1 + 1 + 1) 4 i1 (.bool false) 1 Tryd.underlying61 hi1 hz10 hz11 _ _ _ _ m rfl rfl ?c1 ?c2 ?b2 ?b3 ?b4 ?_)
      case c1 => rfl
      case c2 => rfl
      case b2 => rw [hz12]; omega
      case b3 => unfold maxLen; omega
      case b4 => simp; omega
      intro w1 hown1 hgrow1
      have hE0 := heap_alloc_new wo (.cells #[v0, v1, v2, v3, v4, .slice gao (gs k).length gcap] 56)
      have hO1 : OwnL 4 w1 (w.heap.size + 1 + 1 + 1) (wo.heap.size + 1) m (rowV m (fun q => hasG (gs k) (g q)) 0) := by rw [← rowV_zero]; exact OwnL.made hown1
      have hK1 : Below (wo.heap.size + 1) (wo.alloc (.cells #[v0, v1, v2, v3, v4, .slice gao (gs k).length gcap] 56)) w1 := (Below.refl _ _).grown hgrow1 (by simp) (fun j hj => by cases hj)
      have hE1 : w1.heap[wo.heap.size]? = some (.cells #[v0, v1, v2, v3, v4, .slice gao (gs k).length gcap] 56 (0, 0)) := (hK1.block _ (by omega)).trans hE0
      have hKr1 : Below wo.heap.size wo w1 := ((Below.refl _ _).alloc (Nat.le_refl _) _).trans (hK1.mono (by omega))
      have hsz1 := hKr1.size
      have d11' : w1.cell? ⟨w.heap.size, 11, none⟩ = some (.slice aq m cq) := (hKr1.cell (p := ⟨w.heap.size, 11, none⟩) (by show w.heap.size < _; omega)).trans d11
      have dlt1 := cell_lt d11'
      have HO1 := Lib.hid hO1
      have HE1 := Lib.hid hE1
      have HKR1 := Lib.hid hKr1
      have HCON : Hid (∀ W, Below wo.heap.size wo W → ∀ x, Calls Tryd.prog 56 #[.slice gao (gs k).length gcap, .string x] W fun e w' => e = .returned (.bool (hasG (gs k) x)) ∧ w' = W) := fun W hW x => by
        have hb := (HB0.out.trans (hKr.out.mono (by omega : w.heap.size ≤ w.heap.size + 1 + 1))).trans (hW.mono (by omega))
        exact scontains_any _ _ x W (HGV.out.mono hb hb.size) (HG.out k)
      have HWW : Hid (∀ W, Below wo.heap.size wo W → Below w.heap.size w W) := fun W hW => (HB0.out.trans (hKr.out.mono (by omega : w.heap.size ≤ w.heap.size + 1 + 1))).trans (hW.mono (by omega))
      clear p0 p1 p2 p3 p4 p5 z0 z1 z2 z3 z4 hown1 hgrow1 hO1 hK1 hE0 hE1 hKr1 d11 dlt plt HGV
      obtain ⟨F, hF⟩ : ∃ F : Nat → Bool, F = fun q => hasG (gs k) (g q) := ⟨_, rfl⟩
      have HF : Hid (∀ q, hasG (gs k) (g q) = F q) := fun q => by rw [hF]
      rw [← hF] at HO1
      have HFF := Lib.hid hF
      clear hF
      go_wp2_with fail
      go_loopw [54] (fun u wr => ∃ j : Nat, j ≤ m ∧ u = .int .i64 j ∧ Hid (OwnL 4 wr (w.heap.size + 1 + 1 + 1) (wo.heap.size + 1) m (rowV m F j)) ∧ Hid (Below (wo.heap.size + 1) w1 wr)) (fun u _ => m - (intOf u).toNat)
      case atStart => exact ⟨0, Nat.zero_le _, rfl, HO1, Below.refl _ _⟩
      case round =>
        obtain ⟨j, hj, rfl, hOj, hKj⟩ := hrel
        have hszj := hKj.out.size
        by_cases hjlt : j < m
        · have hjz : (j : Int) < m := by omega
          obtain ⟨bq, oq, rfl, hbq, q0, q1, q2⟩ := HQ.out j hjlt
          have hKrj : Below wo.heap.size wo wr := HKR1.out.trans (hKj.out.mono (by omega))
          have hKw := HWW.out wr hKrj
          have kk : ∀ o, wr.cell? ⟨bq, o, none⟩ = w.cell? ⟨bq, o, none⟩ := fun o => hKw.cell (p := ⟨bq, o, none⟩) hbq
          have p0 : wr.cell? ⟨bq, oq + j * 3, none⟩ = some (.string (g j)) := by rw [kk]; exact q0
          have p1 : wr.cell? ⟨bq, oq + j * 3 + 1, none⟩ = some (.int .i64 (low j)) := by rw [kk, Nat.add_assoc]; exact q1
          have p2 : wr.cell? ⟨bq, oq + j * 3 + 2, none⟩ = some (.int .i64 (high j)) := by rw [kk, Nat.add_assoc]; exact q2
          have e5 : wr.cell? ⟨wo.heap.size, 5, none⟩ = some (.slice gao (gs k).length gcap) := by
            rw [hKj.out.cell (p := ⟨wo.heap.size, 5, none⟩) (by show wo.heap.size < _; omega), cell_of_row w1 wo.heap.size _ _ _ _ HE1.out]; rfl
          have elt := cell_lt e5
          have plt := cell_lt p0
          have rc := hOj.out.cell (rowV_get m F j j hjlt)
          have rf := hOj.out.free j
          have rlt := hOj.out.lt.2
          have HKRJ := Lib.hid hKrj
          clear kk q0 q1 q2 hKrj hKw
          go_wp2_with fail
          have HC := Lib.hid (HCON.out (wr.alloc (.cells #[.string (g j), .int .i64 (low j), .int .i64 (high j)] 52)) (HKRJ.out.alloc (by omega) _) (g j))
          rw [HF.out j] at HC
          refine HC.out.mono ?_
          rintro e w' ⟨rfl, rfl⟩
          have HO2 : Hid (OwnL 4 ((wr.setCell ⟨wo.heap.size + 1, j, none⟩ (.bool (F j))).alloc (.cells #[.string (g j), .int .i64 (low j), .int .i64 (high j)] 52)) (w.heap.size + 1 + 1 + 1) (wo.heap.size + 1) m (rowV m F (j + 1))) := by
            have := hOj.out.set j (.bool (F j))
            rw [rowV_set m F j hjlt] at this
            exact this.later ((Below.refl _ _).alloc (Nat.le_refl _) _) this.lt.2
          have HK2 : Hid (Below (wo.heap.size + 1) w1 ((wr.setCell ⟨wo.heap.size + 1, j, none⟩ (.bool (F j))).alloc (.cells #[.string (g j), .int .i64 (low j), .int .i64 (high j)] 52))) := (hKj.out.setCell (p := ⟨wo.heap.size + 1, j, none⟩) (Nat.le_refl _) _).alloc (by simp; omega) _
          clear HC p0 p1 p2 e5 hOj hKj HKRJ
          go_wp2_with fail
          go_roundw
          case rel => exact ⟨j + 1, by omega, by go_num, HO2, HK2⟩
          case measure => simp [intOf]; omega
        · obtain rfl : m = j := by omega
          have hKo : Below wo.heap.size wo wr := HKR1.out.trans (hKj.out.mono (by omega))
          have ht := (hKo.block (w.heap.size + 1 + 1) (by omega)).trans htb.out
          obtain ⟨_, _, _, _, _, _, _, _, _, _, _, _, _, t13⟩ := cells14 ht
          have tlt := cell_lt t13
          have f13 := frozen_of_row wr (w.heap.size + 1 + 1) 13 _ _ ht
          have hov := World.ownsRow.lt hown.out
          have hown2 : wr.ownsRow (w.heap.size + 1 + 1 + 1) 61 1 v k (bs.map fun b => .slice (some ⟨b, 0, none⟩) m m) := ownsRow_below hown.out (HKR1.out.trans (hKj.out.mono (by omega)))
          go_wp2_with (at_builtin; refine wpList_append_own _ rfl _ _ 82 rfl (w.heap.size + 1 + 1 + 1) 61 i2 (.slice none 0 0) 1 24 Tryd.underlying82 hi2 hz20 hz21 hz22 rfl (by decide) _ _ _ rfl (hown2.alloc _) ⟨wr.heap.size, 0, none⟩ 1 1 [.slice (some ⟨wo.heap.size + 1, 0, none⟩) m m] rfl rfl ?c1 ?c2 ?c3 ?c4 ?c5 ?_)
          case c1 => exact cell_one_new _ _ _
          case c2 => intro u hu; simp at hu; subst hu; rfl
          case c3 => unfold maxLen; omega
          case c4 => omega
          case c5 => simp; omega
          intro v' w2 hown3 hgrow3 _
          obtain ⟨gw, cw, rfl⟩ : ∃ gw cw, v' = .slice (some ⟨gw, 0, none⟩) (k + 1) cw := by
            rcases hown3.2 with ⟨_, h⟩ | ⟨g', c', _, rfl, _⟩
            · omega
            · exact ⟨_, _, rfl⟩
          have hK2 : Below wo.heap.size wo wr := HKR1.out.trans (hKj.out.mono (by omega))
          have hg2 : wo.grownBy w2 v.ownBlock := ((⟨hK2.os, hK2.tape, hK2.output, hK2.size, fun i hi _ => hK2.block i hi⟩ : wo.grownBy wr v.ownBlock).trans (World.grownBy_alloc _ _ _)).trans hgrow3
          have hno : some (w.heap.size + 1 + 1) ≠ v.ownBlock := fun e => by have := hov _ e.symm; omega
          have ht2 := (hg2.block (w.heap.size + 1 + 1) (by omega) hno).trans htb.out
          obtain ⟨_, _, _, _, _, _, _, _, _, _, _, _, _, u13⟩ := cells14 ht2
          have g13 := frozen_of_row w2 (w.heap.size + 1 + 1) 13 _ _ ht2
          have tlt2 := cell_lt u13
          have HOWN : Hid ((w2.setCell ⟨w.heap.size + 1 + 1, 13, none⟩ (.slice (some ⟨gw, 0, none⟩) (k + 1) cw)).ownsRow (w.heap.size + 1 + 1 + 1) 61 1 (.slice (some ⟨gw, 0, none⟩) (k + 1) cw) (k + 1) ((bs ++ [wo.heap.size + 1]).map fun b => .slice (some ⟨b, 0, none⟩) m m)) := by
            rw [List.map_append]
            exact ownsRow_setCell_below hown3 (by show w.heap.size + 1 + 1 < _; omega) _
          have HTB : Hid ((w2.setCell ⟨w.heap.size + 1 + 1, 13, none⟩ (.slice (some ⟨gw, 0, none⟩) (k + 1) cw)).heap[w.heap.size + 1 + 1]? = some (.cells #[a0, .int .i64 3, a2, a3, a4, a5, a6, a7, a8, a9, .int .i64 size, .slice aq m cq, a12, (.slice (some ⟨gw, 0, none⟩) (k + 1) cw)] 84 (0, 0))) := heap_setCell_same w2 _ 13 _ _ (.slice (some ⟨gw, 0, none⟩) (k + 1) cw) ht2
          have HKK : Hid (Below (w.heap.size + 1 + 1) W0 (w2.setCell ⟨w.heap.size + 1 + 1, 13, none⟩ (.slice (some ⟨gw, 0, none⟩) (k + 1) cw))) :=
            (hKr.out.grown hg2 (by omega) (fun j hj => by have := hov j hj; omega)).setCell (p := ⟨w.heap.size + 1 + 1, 13, none⟩) (Nat.le_refl _) _
          have HLEN : Hid ((bs ++ [wo.heap.size + 1]).length = k + 1) := by
            show (bs ++ [wo.heap.size + 1]).length = k + 1
            rw [List.length_append, hlen.out]; rfl
          have HROWS : Hid (∀ j b, (bs ++ [wo.heap.size + 1])[j]? = some b → OwnL 4 (w2.setCell ⟨w.heap.size + 1 + 1, 13, none⟩ (.slice (some ⟨gw, 0, none⟩) (k + 1) cw)) (w.heap.size + 1 + 1 + 1) b m (rowV m (fun q => hasG (gs j) (g q)) m)) := by
            intro j b hj
            have hlast : ∀ b, OwnL 4 w2 (w.heap.size + 1 + 1 + 1) b m (rowV m (fun q => hasG (gs j) (g q)) m) → OwnL 4 (w2.setCell ⟨w.heap.size + 1 + 1, 13, none⟩ (.slice (some ⟨gw, 0, none⟩) (k + 1) cw)) (w.heap.size + 1 + 1 + 1) b m (rowV m (fun q => hasG (gs j) (g q)) m) := fun b h =>
              h.other _ _ (by have := h.lt.1; show b ≠ w.heap.size + 1 + 1; omega)
            apply hlast
            by_cases hjk : j < bs.length
            · rw [List.getElem?_append_left hjk] at hj
              have h := hrows.out j b hj
              exact h.block (hg2.block b h.lt.2 fun e => own_apart h hown.out (by decide) e.symm)
            · rw [List.getElem?_append_right (by omega)] at hj
              have hj0 : j - bs.length = 0 := by
                have := (List.getElem?_eq_some_iff.1 hj).1
                simp at this; omega
              rw [hj0] at hj
              simp only [List.getElem?_cons_zero, Option.some.injEq] at hj
              subst hj
              have hjk2 : j = k := by have := hlen.out; omega
              subst hjk2
              have h := hOj.out
              rw [HFF.out] at h
              exact h.block (((World.grownBy_alloc wr _ v.ownBlock).trans hgrow3).block _ h.lt.2 fun e => by
                have h1 := (World.ownsRow.lt hown.out _ e.symm).2
                omega)
          clear hown3 hgrow3 hg2 ht2 hown2 hov ht t13 f13 hKo hOj hKj hrows htb hown
          go_wp2_with fail
          go_roundw
          case rel => exact ⟨k + 1, by omega, by go_num, (.slice (some ⟨gw, 0, none⟩) (k + 1) cw), bs ++ [wo.heap.size + 1], HOWN, HTB, HKK, HLEN, HROWS⟩
          case measure => simp [intOf]; omega
    · obtain rfl : n = k := by omega
      obtain ⟨t0, t1, t2, t3, t4, t5, t6, t7, t8, t9, t10, t11, t12, t13⟩ := cells14 htb.out
      have hr := (hKr.out.block (w.heap.size + 1) (by omega)).trans HH.out.2.1
      obtain ⟨e0, e1, e2, e3, e4, e5, e6, e7, e8, e9, e10, e11, e12, e13⟩ := cells14 hr
      obtain ⟨f0, f1, f2, f3, f4, f5, f6, f7, f8, f9, f10, f11, f12, f13⟩ := frozen14 hr
      have tlt := cell_lt t0
      have elt := cell_lt e0
      have hfv : FlatV v := by
        rcases hown.out.2 with ⟨rfl, _⟩ | ⟨g', c', cur', rfl, _⟩ <;> rfl
      have s13 := hfv.store
      obtain ⟨s0, s2, s3, s4, s5, s6, s7, s8, s9, s12⟩ := HS.out
      have HR := Lib.hid hr
      clear hr hfv
      go_wp2_with fail
      generalize hWE : World.setCell _ _ _ = WE
      obtain ⟨W1, hW1⟩ : ∃ W1, W1 = over (w.heap.size + 1) wo 0 [a0, .int .i64 3, a2, a3, a4, a5, a6, a7, a8, a9, .int .i64 size, .slice aq m cq, a12, v] := ⟨_, rfl⟩
      have hEE : WE = W1 := by rw [← hWE, hW1]; rfl
      have hE := over_all HR.out [a0, .int .i64 3, a2, a3, a4, a5, a6, a7, a8, a9, .int .i64 size, .slice aq m cq, a12, v] rfl
      have hoth : ∀ c, c ≠ w.heap.size + 1 → W1.heap[c]? = wo.heap[c]? := fun c hc => by rw [hW1]; exact over_other hc _ _ _
      have hbel : Below w.heap.size w W1 := by
        rw [hW1]
        exact over_below (by omega) _ _ _ (HB0.out.trans (hKr.out.mono (by omega)))
      rw [← hW1] at hE
      clear hWE hW1
      subst hEE
      have hown2 := ownsRow_blocks (w' := WE) hown.out (fun g' hg' => hoth g' (by have := (World.ownsRow.lt hown.out g' hg').1; omega))
      have hrows2 : ∀ j b, bs[j]? = some b → OwnL 4 WE (w.heap.size + 1 + 1 + 1) b m (rowV m (fun q => hasG (gs j) (g q)) m) := fun j b hj => (hrows.out j b hj).block (hoth b (by have := (hrows.out j b hj).lt.1; omega))
      clear t0 t1 t2 t3 t4 t5 t6 t7 t8 t9 t10 t11 t12 t13 e0 e1 e2 e3 e4 e5 e6 e7 e8 e9 e10 e11 e12 e13
      obtain ⟨z0, z1, z2, z3, z4, z5, z6, z7, z8, z9, z10, z11, z12, z13⟩ := cells14 (show WE.heap[w.heap.size + 1]? = some (.cells #[a0, .int .i64 3, a2, a3, a4, a5, a6, a7, a8, a9, .int .i64 size, .slice aq m cq, a12, v] 84 (0, 0)) from hE)
      exact bodyPost_ret (v := .tuple #[.agg #[a0, .int .i64 3, a2, a3, a4, a5, a6, a7, a8, a9, .int .i64 size, .slice aq m cq, a12, v], .bool true])
        (by simp [results, Tryd.results35, go_sem, z0, z1, z2, z3, z4, z5, z6, z7, z8, z9, z10, z11, z12, z13]) rfl
        ⟨⟨v, rfl, rfl, hm, fun i k hk => by unfold pdOf; dsimp only; rw [decide_eq_false (by have : m ≤ k := hk; omega), Bool.false_and], ⟨g, HQA.out.mono hbel hbel.size⟩, ins_of_own hown2 hlen.out hrows2⟩, hbel⟩

end Go.Proofs.YtebigkjilklodaaDoor

/- newTable: draws that have no panels. -/
namespace Go.Proofs.YtebigkjilklodaaDoor
open Go.RowKit

set_option maxHeartbeats 1000000 in
set_option maxRecDepth 100000 in
theorem qnew_bad (x : DrawC) (ao aq : Option Addr) (n cap m cq : Nat) (w : World) (hx : x.flat) (hq : x.qs = .slice aq m cq) (hbad : x.kind ≠ 3 ∨ 40 < n ∨ 12 < m ∨ x.size < 0 ∨ (n : Int) < x.size) :
    Calls Tryd.prog 35 #[.agg x.arr, .slice ao n cap] w fun e w' => e = .returned (.tuple #[.agg (tabA x (.slice none 0 0)), .bool false]) ∧ Below w.heap.size w w' := by
  obtain ⟨a0, a2, a3, a4, a5, a6, a7, a8, a9, a12, kind, size, qs⟩ := x
  obtain ⟨x0, x2, x3, x4, x5, x6, x7, x8, x9, x12⟩ := hx
  dsimp only at hq hbad x0 x2 x3 x4 x5 x6 x7 x8 x9 x12
  have s0 := x0.store
  have s2 := x2.store
  have s3 := x3.store
  have s4 := x4.store
  have s5 := x5.store
  have s6 := x6.store
  have s7 := x7.store
  have s8 := x8.store
  have s9 := x9.store
  have s12 := x12.store
  clear x0 x2 x3 x4 x5 x6 x7 x8 x9 x12
  subst hq
  unfold tabA DrawC.arr
  dsimp only
  have HB := Lib.hid hbad
  clear hbad
  by_cases hk : kind = 3
  · subst hk
    go_enter Tryd.func35, Tryd.ntmps35
    go_wp2_with fail
    all_goals first
      | (exfalso; have := HB.out; omega)
      | exact bodyPost_ret (v := .tuple #[.agg #[a0, (.int .i64 3), a2, a3, a4, a5, a6, a7, a8, a9, .int .i64 size, .slice aq m cq, a12, .slice none 0 0], .bool false]) (by simp [results, Tryd.results35, go_sem]) rfl ⟨rfl, (((Below.refl _ _).alloc (Nat.le_refl _) _).alloc (by simp) _).alloc (by simp; omega) _⟩
  · clear HB
    go_enter Tryd.func35, Tryd.ntmps35
    go_wp2_with fail
    all_goals exact bodyPost_ret (v := .tuple #[.agg #[a0, .int .i64 kind, a2, a3, a4, a5, a6, a7, a8, a9, .int .i64 size, .slice aq m cq, a12, .slice none 0 0], .bool false]) (by simp [results, Tryd.results35, go_sem]) rfl ⟨rfl, (((Below.refl _ _).alloc (Nat.le_refl _) _).alloc (by simp) _).alloc (by simp; omega) _⟩

end Go.Proofs.YtebigkjilklodaaDoor

/- The program's panels: counter, Count. -/
namespace Go.Proofs.YtebigkjilklodaaDoor
open Go.RowKit

set_option maxHeartbeats 1000000 in
set_option maxRecDepth 100000 in
theorem qcounter_any (B : Nat) (x : DrawC) (ins : Value) (d : PD) (n : Nat) (w : World) (hx : x.flat) (hB : B ≤ w.heap.size) (ht : TabAt B w x ins d n) (hn : n ≤ 40) (h0 : 0 ≤ d.size) (h1 : d.size ≤ n) :
    Calls Tryd.prog 39 #[.agg (tabA x ins)] w fun e w' => ∃ tb kb fb mb, e = .returned (.func (.func 57) #[] #[.pointer (some ⟨tb, 0, none⟩), .pointer (some ⟨kb, 0, none⟩), .pointer (some ⟨fb, 0, none⟩)]) ∧
      CtrB B w' x ins d n tb kb fb mb ∧ MemoF w' d n mb (fun _ => none) ∧ w.heap.size ≤ mb ∧ Below w.heap.size w w' := by
  have HT := Lib.hid ht
  obtain ⟨a0, a2, a3, a4, a5, a6, a7, a8, a9, a12, kind, size, qs⟩ := x
  clear ht
  have hmf : ∀ (fn : Fn) (first cap : Array Value) (w : World), (Instr.makeFunc fn first cap).run Tryd.prog w = .ok (.func fn first cap) w := fun _ _ _ _ => rfl
  have hmm := @run_makeMap Tryd.prog
  have hsf : ∀ (fn : Fn) (first cap : Array Value) (a : Addr) (m : Mode) (w : World), Sem.run Tryd.prog (store a (.func fn first cap) m) w = stored Tryd.prog w a (.func fn first cap) m := fun fn first cap => FlatV.store (v := .func fn first cap) rfl
  have HW : Hid (∀ W, W = (((w.alloc (.cells (tabA ⟨a0, a2, a3, a4, a5, a6, a7, a8, a9, a12, kind, size, qs⟩ ins) 84)).alloc (.map #[] 0)).alloc (.cells #[.map (some (w.heap.size + 1))] 122)).alloc (.cells #[.func (.func 57) #[] #[.pointer (some ⟨w.heap.size, 0, none⟩), .pointer (some ⟨w.heap.size + 1 + 1, 0, none⟩), .pointer (some ⟨w.heap.size + 1 + 1 + 1, 0, none⟩)]] 94) →
      CtrB B W ⟨a0, a2, a3, a4, a5, a6, a7, a8, a9, a12, kind, size, qs⟩ ins d n w.heap.size (w.heap.size + 1 + 1) (w.heap.size + 1 + 1 + 1) (w.heap.size + 1) ∧ MemoF W d n (w.heap.size + 1) (fun _ => none) ∧ Below w.heap.size w W) := by
    intro W hW
    obtain ⟨W1, hW1⟩ : ∃ W1, W1 = w.alloc (.cells (tabA ⟨a0, a2, a3, a4, a5, a6, a7, a8, a9, a12, kind, size, qs⟩ ins) 84) := ⟨_, rfl⟩
    rw [← hW1] at hW
    have s1 : W1.heap.size = w.heap.size + 1 := by rw [hW1]; simp
    have c1 : TabC w.heap.size W1 ⟨a0, a2, a3, a4, a5, a6, a7, a8, a9, a12, kind, size, qs⟩ ins := by rw [hW1]; exact heap_alloc_new w _
    have b1 : Below w.heap.size w W1 := by rw [hW1]; exact (Below.refl _ _).alloc (Nat.le_refl _) _
    clear hW1
    obtain ⟨W2, hW2⟩ : ∃ W2, W2 = W1.alloc (.map #[] 0) := ⟨_, rfl⟩
    rw [← hW2] at hW
    have s2 : W2.heap.size = w.heap.size + 1 + 1 := by rw [hW2]; simp [s1]
    have m2 : MemoF W2 d n (w.heap.size + 1) (fun _ => none) := by rw [hW2, ← s1]; exact MemoF.made W1 d n
    have b2 : Below W1.heap.size W1 W2 := by rw [hW2]; exact (Below.refl _ _).alloc (Nat.le_refl _) _
    clear hW2
    obtain ⟨W3, hW3⟩ : ∃ W3, W3 = W2.alloc (.cells #[.map (some (w.heap.size + 1))] 122) := ⟨_, rfl⟩
    rw [← hW3] at hW
    have s3 : W3.heap.size = w.heap.size + 1 + 1 + 1 := by rw [hW3]; simp [s2]
    have c3 : W3.heap[w.heap.size + 1 + 1]? = some (.cells #[.map (some (w.heap.size + 1))] 122 (0, 0)) := by rw [hW3, ← s2]; exact heap_alloc_new W2 _
    have b3 : Below W2.heap.size W2 W3 := by rw [hW3]; exact (Below.refl _ _).alloc (Nat.le_refl _) _
    clear hW3
    have c4 := heap_alloc_new W3 (.cells #[.func (.func 57) #[] #[.pointer (some ⟨w.heap.size, 0, none⟩), .pointer (some ⟨w.heap.size + 1 + 1, 0, none⟩), .pointer (some ⟨w.heap.size + 1 + 1 + 1, 0, none⟩)]] 94)
    rw [← hW, s3] at c4
    have b4 : Below W3.heap.size W3 W := by rw [hW]; exact (Below.refl _ _).alloc (Nat.le_refl _) _
    clear hW
    have b13 : Below W1.heap.size W1 W := (b2.trans (b3.mono b2.size)).trans (b4.mono (Nat.le_trans b2.size b3.size))
    have bw : Below w.heap.size w W := b1.trans (b13.mono b1.size)
    refine ⟨⟨c1.later b13 (by omega), HT.out.mono (bw.mono hB) (Nat.le_refl _), (b4.block _ (by omega)).trans c3, c4, by omega, by have := bw.size; omega, by omega, by omega, by omega, hn, h0, h1⟩, (m2.below b3).below b4, bw⟩
  unfold tabA
  dsimp only
  go_enter Tryd.func39, Tryd.ntmps39
  go_wp2_with fail
  go_ret
  obtain ⟨h1, h2, h3⟩ := HW.out _ rfl
  exact ⟨_, _, _, _, rfl, h1, h2, by omega, h3⟩

/-- A draw and entrants as they came in. -/
structure DrawIn (w : World) (x : DrawC) (lv : Value) (n m : Nat) (g : Nat → ByteArray) (low high : Nat → Int) (gs : Nat → List ByteArray) : Prop where
  flat : x.flat
  quo : QuoAt w.heap.size w x.qs m g low high
  ent : EntAt w.heap.size w lv n gs
  few : ∀ i, (gs i).length ≤ 1000000
theorem DrawIn.later {w w' : World} {x : DrawC} {lv : Value} {n m : Nat} {g : Nat → ByteArray} {low high : Nat → Int} {gs : Nat → List ByteArray} (h : DrawIn w x lv n m g low high gs) (hb : Below w.heap.size w w') : DrawIn w' x lv n m g low high gs :=
  ⟨h.flat, h.quo.mono hb hb.size, h.ent.mono hb hb.size, h.few⟩
/-- May there be panels? -/
def okD (x : DrawC) (n m : Nat) : Prop := x.kind = 3 ∧ n ≤ 40 ∧ m ≤ 12 ∧ 0 ≤ x.size ∧ x.size ≤ n
instance (x : DrawC) (n m : Nat) : Decidable (okD x n m) := by unfold okD; exact inferInstance
/-- The panels of a draw. -/
def pans (x : DrawC) (n m : Nat) (g : Nat → ByteArray) (low high : Nat → Int) (gs : Nat → List ByteArray) : List (List Nat) :=
  if okD x n m then (pdOf x.size m g low high gs).all n else []

theorem qnew_any (x : DrawC) (lv : Value) (n m : Nat) (g : Nat → ByteArray) (low high : Nat → Int) (gs : Nat → List ByteArray) (w : World) (h : DrawIn w x lv n m g low high gs) :
    Calls Tryd.prog 35 #[.agg x.arr, lv] w fun e w' => ∃ ins, e = .returned (.tuple #[.agg (tabA x ins), .bool (decide (okD x n m))]) ∧ FlatV ins ∧ (okD x n m → TabAt w'.heap.size w' x ins (pdOf x.size m g low high gs) n) ∧ Below w.heap.size w w' := by
  obtain ⟨aq, cq, hq, _⟩ := id h.quo
  obtain ⟨ao, cap, rfl, _⟩ := id h.ent
  by_cases hok : okD x n m
  · refine (qnew_ok x ao n cap m g low high gs w h.flat h.quo h.ent h.few hok.1 hok.2.1 hok.2.2.1 hok.2.2.2.1 hok.2.2.2.2).mono ?_
    rintro e w' ⟨⟨ins, rfl, ht⟩, hb⟩
    refine ⟨ins, by rw [decide_eq_true hok], ?_, fun _ => ht, hb⟩
    obtain ⟨_, _, rfl, _⟩ := ht.ins
    rfl
  · have hbad : x.kind ≠ 3 ∨ 40 < n ∨ 12 < m ∨ x.size < 0 ∨ (n : Int) < x.size := by
      unfold okD at hok
      omega
    refine (qnew_bad x ao aq n cap m cq w h.flat hq hbad).mono ?_
    rintro e w' ⟨rfl, hb⟩
    exact ⟨.slice none 0 0, by rw [decide_eq_false hok], rfl, fun h => absurd h hok, hb⟩

set_option maxHeartbeats 1000000 in
set_option maxRecDepth 100000 in
theorem qCount_any (x : DrawC) (lv : Value) (n m : Nat) (g : Nat → ByteArray) (low high : Nat → Int) (gs : Nat → List ByteArray) (w : World) (h : DrawIn w x lv n m g low high gs) :
    Calls Tryd.prog 17 #[.agg x.arr, lv] w fun e w' => e = .returned (.string (natS (pans x n m g low high gs).length)) ∧ Below w.heap.size w w' := by
  have HN : Hid (∀ W, Below w.heap.size w W → Calls Tryd.prog 35 #[.agg x.arr, lv] W fun e w' => ∃ ins, e = .returned (.tuple #[.agg (tabA x ins), .bool (decide (okD x n m))]) ∧ FlatV ins ∧ (okD x n m → TabAt w'.heap.size w' x ins (pdOf x.size m g low high gs) n) ∧ Below W.heap.size W w') :=
    fun W hW => qnew_any x lv n m g low high gs W (h.later hW)
  have HX := Lib.hid h.flat
  obtain ⟨x0, x2, x3, x4, x5, x6, x7, x8, x9, x12⟩ := h.flat
  obtain ⟨aq, cq, hqs, _⟩ := h.quo
  clear h
  obtain ⟨a0, a2, a3, a4, a5, a6, a7, a8, a9, a12, kind, size, qs⟩ := x
  dsimp only at x0 x2 x3 x4 x5 x6 x7 x8 x9 x12 hqs
  subst hqs
  have s0 := x0.store
  have s2 := x2.store
  have s3 := x3.store
  have s4 := x4.store
  have s5 := x5.store
  have s6 := x6.store
  have s7 := x7.store
  have s8 := x8.store
  have s9 := x9.store
  have s12 := x12.store
  clear x0 x2 x3 x4 x5 x6 x7 x8 x9 x12
  unfold DrawC.arr
  dsimp only
  go_enter Tryd.func17, Tryd.ntmps17
  go_wp2_with fail
  refine (HN.out _ ((Below.refl _ _).alloc (Nat.le_refl _) _)).mono ?_
  rintro e w1 ⟨ins, rfl, hins, ht, hb⟩
  have s13 := hins.store
  have HB1 := Lib.hid (((Below.refl w.heap.size w).alloc (Nat.le_refl _) (.cells (DrawC.arr ⟨a0, a2, a3, a4, a5, a6, a7, a8, a9, a12, kind, size, .slice aq m cq⟩) 33)).trans (hb.mono (by simp)))
  have HT := Lib.hid ht
  clear hb ht hins
  by_cases hok : okD ⟨a0, a2, a3, a4, a5, a6, a7, a8, a9, a12, kind, size, .slice aq m cq⟩ n m
  · have HV : Hid (pans ⟨a0, a2, a3, a4, a5, a6, a7, a8, a9, a12, kind, size, .slice aq m cq⟩ n m g low high gs = (pdOf size m g low high gs).all n) := if_pos hok
    have ht2 := HT.out hok
    rw [decide_eq_true hok]
    obtain ⟨hk3, hn40, hm12, hs0, hsn⟩ := hok
    dsimp only at hs0 hsn
    have HTT := Lib.hid ht2
    clear ht2 HT
    have HCT : Hid (∀ W, Below w1.heap.size w1 W → Calls Tryd.prog 39 #[.agg (tabA ⟨a0, a2, a3, a4, a5, a6, a7, a8, a9, a12, kind, size, .slice aq m cq⟩ ins)] W fun e w' => ∃ tb kb fb mb, e = .returned (.func (.func 57) #[] #[.pointer (some ⟨tb, 0, none⟩), .pointer (some ⟨kb, 0, none⟩), .pointer (some ⟨fb, 0, none⟩)]) ∧
      CtrB w1.heap.size w' ⟨a0, a2, a3, a4, a5, a6, a7, a8, a9, a12, kind, size, .slice aq m cq⟩ ins (pdOf size m g low high gs) n tb kb fb mb ∧ MemoF w' (pdOf size m g low high gs) n mb (fun _ => none) ∧ W.heap.size ≤ mb ∧ Below W.heap.size W w') :=
      fun W hW => qcounter_any w1.heap.size _ ins _ n W HX.out hW.size (HTT.out.mono hW (Nat.le_refl _)) hn40 hs0 hsn
    clear hn40 hs0 hsn hk3 hm12
    unfold tabA
    dsimp only
    go_wp2_with fail
    refine (HCT.out _ ((Below.refl _ _).alloc (Nat.le_refl _) _)).mono ?_
    rintro e w2 ⟨tb, kb, fb, mb, rfl, hcb, hm, hmb, hb2⟩
    have HCB := Lib.hid hcb
    have HM := Lib.hid hm
    have HMB := Lib.hid hmb
    have HB2 := Lib.hid (HB1.out.trans (((Below.refl w1.heap.size w1).alloc (Nat.le_refl _) (.cells (tabA ⟨a0, a2, a3, a4, a5, a6, a7, a8, a9, a12, kind, size, .slice aq m cq⟩ ins) 84)).trans (hb2.mono (by simp)) |>.mono HB1.out.size))
    clear hcb hm hmb hb2 HCT
    go_wp2_with fail
    have HQ := Lib.hid (qcount_any w1.heap.size _ ins (pdOf size m g low high gs) n tb kb fb mb n 0 [] (fun _ => none) w2 (by omega) (Nat.zero_le _) (by simp [pre]) HCB.out HM.out)
    refine HQ.out.mono ?_
    rintro e w3 ⟨rfl, hk, _⟩
    have HB3 : Hid (Below w.heap.size w w3) := HB2.out.trans (hk.belowB HB2.out.size (fun k hk e => by have h1 := HMB.out; have h2 := HB1.out.size; rw [World.size_alloc] at h1; omega))
    clear hk
    go_wp2_with fail
    go_ret
    exact ⟨by rw [HV.out]; rfl, HB3.out⟩
  · have HV : Hid (pans ⟨a0, a2, a3, a4, a5, a6, a7, a8, a9, a12, kind, size, .slice aq m cq⟩ n m g low high gs = []) := if_neg hok
    rw [decide_eq_false hok]
    have HOF : Hid (∀ w, Calls Tryd.prog 18 #[.int .i64 0] w fun e w' => e = .returned (.string (natS 0)) ∧ Below w.heap.size w w') := fun w => pOf_any 0 w (by decide)
    unfold tabA
    dsimp only
    clear hok HT
    go_wp2_with fail
    refine (HOF.out _).mono ?_
    rintro e w2 ⟨rfl, hb⟩
    have HB2 : Hid (Below w.heap.size w w2) := HB1.out.trans ((((Below.refl w1.heap.size w1).alloc (Nat.le_refl _) (.cells (tabA ⟨a0, a2, a3, a4, a5, a6, a7, a8, a9, a12, kind, size, .slice aq m cq⟩ ins) 84)).trans (hb.mono (by simp))).mono HB1.out.size)
    clear hb
    go_wp2_with fail
    go_ret
    exact ⟨by rw [HV.out]; rfl, HB2.out⟩

end Go.Proofs.YtebigkjilklodaaDoor

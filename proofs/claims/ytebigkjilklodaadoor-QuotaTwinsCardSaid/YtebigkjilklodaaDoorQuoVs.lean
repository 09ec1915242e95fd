/- The program's panels: what the search for all of them holds in memory. -/
import Derived.Deep.AppendLies
import Derived.Deep.RegionLaw
import Derived.Deep.RegionHeld3
import Derived.Deep.LoopGhost
import Derived.Test.YtebigkjilklodaaDoorQuoTs
import Derived.Test.YtebigkjilklodaaDoorShelf
import Derived.Test.YtebigkjilklodaaDoorRegs
import Derived.Test.YtebigkjilklodaaDoorRats
import Derived.Test.YtebigkjilklodaaDoorOwns
import Derived.Test.YtebigkjilklodaaDoorQuoMs
set_option linter.unusedVariables false
set_option linter.unusedSimpArgs false
namespace Go.Proofs.YtebigkjilklodaaDoor
open Go.RowKit

def intV (x : List Nat) : List Value := x.map fun i : Nat => Value.int .i64 (i : Int)
theorem intV_length (x : List Nat) : (intV x).length = x.length := by simp [intV]
theorem intV_append (x y : List Nat) : intV (x ++ y) = intV x ++ intV y := by simp [intV]
/-- The blocks of a search. -/
structure Blk where
  (tb kb fb mb ab cb zb qb wb hb ob : Nat)
/-- The blocks that a search may turn. -/
def Dy (k : Blk) (L j : Nat) : Prop := j = k.mb ∨ j = k.hb ∨ j = k.ob ∨ L ≤ j
def fCount (k : Blk) : Value := .func (.func 57) #[] #[.pointer (some ⟨k.tb, 0, none⟩), .pointer (some ⟨k.kb, 0, none⟩), .pointer (some ⟨k.fb, 0, none⟩)]
def fWalk (k : Blk) : Value := .func (.func 40) #[] #[.pointer (some ⟨k.hb, 0, none⟩), .pointer (some ⟨k.cb, 0, none⟩), .pointer (some ⟨k.zb, 0, none⟩), .pointer (some ⟨k.ab, 0, none⟩), .pointer (some ⟨k.ob, 0, none⟩), .pointer (some ⟨k.qb, 0, none⟩), .pointer (some ⟨k.wb, 0, none⟩)]
/-- What a search has. -/
structure WB (B L : Nat) (w : World) (x : DrawC) (ins : Value) (d : PD) (n : Nat) (k : Blk) (most : Int) : Prop where
  ctr : CtrB B w x ins d n k.tb k.kb k.fb k.mb
  tab : TabC k.ab w x ins
  cc : w.heap[k.cb]? = some (.cells #[fCount k] 94 (0, 0))
  zc : w.heap[k.zb]? = some (.cells #[.string ⟨#[]⟩] 45 (0, 0))
  qc : w.heap[k.qb]? = some (.cells #[.int .i64 most] 3 (0, 0))
  wc : w.heap[k.wb]? = some (.cells #[fWalk k] 96 (0, 0))
  hL : L ≤ w.heap.size
  lt : k.mb < L ∧ k.hb < L ∧ k.ob < L
  low : ¬ k.hb < B ∧ ¬ k.ob < B ∧ B ≤ L
  still : ∀ j, j = k.tb ∨ j = k.kb ∨ j = k.fb ∨ j = k.ab ∨ j = k.cb ∨ j = k.zb ∨ j = k.qb ∨ j = k.wb → ¬ Dy k L j
  apart : k.mb ≠ k.hb ∧ k.mb ≠ k.ob ∧ k.hb ≠ k.ob
theorem CtrB.keepS {B : Nat} {S : Nat → Prop} {w w' : World} {x : DrawC} {ins : Value} {d : PD} {n tb kb fb mb : Nat} (h : CtrB B w x ins d n tb kb fb mb) (k : Keeps S w w') (hS : ∀ j, j < B ∨ j = tb ∨ j = kb ∨ j = fb → ¬ S j) : CtrB B w' x ins d n tb kb fb mb :=
  ⟨(k.block _ h.tab.lt (hS _ (.inr (.inl rfl)))).trans h.tab, h.tat.mono (k.belowB h.hBw (fun j hj => hS j (.inl hj))) (Nat.le_refl _),
   (k.block _ (Array.getElem?_eq_some_iff.1 h.kcell).1 (hS _ (.inr (.inr (.inl rfl))))).trans h.kcell, (k.block _ (Array.getElem?_eq_some_iff.1 h.fcell).1 (hS _ (.inr (.inr (.inr rfl))))).trans h.fcell, h.hB, Nat.le_trans h.hBw k.size, h.htb, h.hkb, h.hfb, h.small, h.pos, h.le⟩
theorem WB.keep {B L : Nat} {w w' : World} {x : DrawC} {ins : Value} {d : PD} {n : Nat} {k : Blk} {most : Int} (h : WB B L w x ins d n k most) (hk : Keeps (Dy k L) w w') : WB B L w' x ins d n k most :=
  ⟨h.ctr.keepS hk (fun j hj => by
      rcases hj with hj | hj
      · have h1 := h.ctr.hB; have h2 := h.low
        rintro (rfl | rfl | rfl | h3) <;> omega
      · exact h.still j (by rcases hj with hj | hj | hj <;> simp [hj])),
    (hk.block _ h.tab.lt (h.still _ (by simp))).trans h.tab, (hk.block _ (Array.getElem?_eq_some_iff.1 h.cc).1 (h.still _ (by simp))).trans h.cc,
    (hk.block _ (Array.getElem?_eq_some_iff.1 h.zc).1 (h.still _ (by simp))).trans h.zc, (hk.block _ (Array.getElem?_eq_some_iff.1 h.qc).1 (h.still _ (by simp))).trans h.qc,
    (hk.block _ (Array.getElem?_eq_some_iff.1 h.wc).1 (h.still _ (by simp))).trans h.wc, Nat.le_trans h.hL hk.size, h.lt, h.low, h.still, h.apart⟩
/-- What the walk reads of a search. -/
theorem WB.cells {B L : Nat} {w : World} {x : DrawC} {ins : Value} {d : PD} {n : Nat} {k : Blk} {most : Int} (h : WB B L w x ins d n k most) :
    w.cell? ⟨k.cb, 0, none⟩ = some (fCount k) ∧ w.cell? ⟨k.zb, 0, none⟩ = some (.string ⟨#[]⟩) ∧ w.cell? ⟨k.qb, 0, none⟩ = some (.int .i64 most) ∧ w.cell? ⟨k.wb, 0, none⟩ = some (fWalk k) := by
  refine ⟨?_, ?_, ?_, ?_⟩
  · rw [cell_of_row w _ _ _ _ _ h.cc]; rfl
  · rw [cell_of_row w _ _ _ _ _ h.zc]; rfl
  · rw [cell_of_row w _ _ _ _ _ h.qc]; rfl
  · rw [cell_of_row w _ _ _ _ _ h.wc]; rfl

/-- A list of lists. -/
def OutIs (L : Nat) (w : World) (ov : Value) (rv : List Value) (ls : List (List Nat)) : Prop :=
  w.ownsRow L 26 1 ov rv.length rv ∧ rv.length = ls.length ∧ ∀ (j : Nat) v l, rv[j]? = some v → ls[j]? = some l → w.ownsRow L 3 1 v l.length (intV l)
theorem OutIs.nil (L : Nat) (w : World) : OutIs L w (.slice none 0 0) [] [] := ⟨World.ownsRow_nil _ _ _ _, rfl, fun j v l h => by simp at h⟩
def Avoid (rv : List Value) (p : Option Nat) : Prop := ∀ v ∈ rv, v.ownBlock = none ∨ v.ownBlock ≠ p
/-- Rows of different elements: by their values. -/
theorem rows_apart {w : World} {e e' : TypeId} {B B' s s' n m b : Nat} {xs ys : List Value} {v u : Value} (h : w.ownsRow B e s v n xs) (k : w.ownsRow B' e' s' u m ys) (hne : e ≠ e') (hv : v.ownBlock = some b) (hu : u.ownBlock = some b) : False := by
  rcases h.2 with ⟨rfl, _⟩ | ⟨g, c, cur, rfl, _, h2, _⟩
  · cases hv
  · obtain rfl : g = b := Option.some.inj hv
    rcases k.2 with ⟨rfl, _⟩ | ⟨g', c', cur', rfl, _, h3, _⟩
    · cases hu
    · obtain rfl : g' = g := Option.some.inj hu
      rw [h2] at h3
      simp only [Option.some.injEq, Obj.cells.injEq] at h3
      exact hne h3.2.1
/-- The rows stay where a step keeps out of them. -/
theorem OutIs.keep {L : Nat} {S : Nat → Prop} {w w' : World} {ov : Value} {rv : List Value} {ls : List (List Nat)} (h : OutIs L w ov rv ls) (hk : Keeps S w w') (ho : ∀ b, ov.ownBlock = some b → ¬ S b) (hr : ∀ v ∈ rv, ∀ b, v.ownBlock = some b → ¬ S b) : OutIs L w' ov rv ls := by
  refine ⟨ownsRow_blocks h.1 (fun g hg => hk.block g (World.ownsRow.lt h.1 g hg).2 (ho g hg)), h.2.1, fun j v l hj hl => ?_⟩
  have h1 := h.2.2 j v l hj hl
  exact ownsRow_blocks h1 (fun g hg => hk.block g (World.ownsRow.lt h1 g hg).2 (hr v (List.mem_of_getElem? hj) g hg))
theorem OutIs.lt {L : Nat} {w : World} {ov : Value} {rv : List Value} {ls : List (List Nat)} (h : OutIs L w ov rv ls) {v : Value} (hv : v ∈ rv) {b : Nat} (hb : v.ownBlock = some b) : L ≤ b ∧ b < w.heap.size := by
  obtain ⟨j, hj, rfl⟩ := List.mem_iff_getElem.1 hv
  exact World.ownsRow.lt (h.2.2 j _ (ls[j]'(by have := h.2.1; omega)) (List.getElem?_eq_getElem hj) (List.getElem?_eq_getElem _)) b hb

/-- The panels that a state leads to. -/
def PD.run (d : PD) (n i : Nat) (y : List Nat) : List (List Nat) := (d.go n i y).map (y ++ ·)
theorem PD.run_length (d : PD) (n i : Nat) (y : List Nat) : (d.run n i y).length = (d.go n i y).length := by unfold PD.run; rw [List.length_map]
theorem PD.run_end (d : PD) (n : Nat) (y : List Nat) : d.run n n y = if d.fits y.length (d.cn y) [] then [y] else [] := by
  unfold PD.run; rw [d.go_end]; split <;> simp
theorem PD.run_step (d : PD) {n i : Nat} (h : i < n) (y : List Nat) : d.run n i y = (if d.may i y.length (d.cn y) then d.run n (i + 1) (y ++ [i]) else []) ++ d.run n (i + 1) y := by
  unfold PD.run
  rw [d.go_step h, List.map_append]
  congr 1
  split
  · rw [List.map_map]
    apply List.map_congr_left
    intro z _
    simp
  · rfl
theorem PD.run_all (d : PD) (n : Nat) : d.run n 0 [] = d.all n := by
  unfold PD.run
  rw [d.go_all]
  simp

/-- What a search ends in. -/
def WalkEnd (L : Nat) (k : Blk) (d : PD) (n : Nat) (M i : Nat) (y : List Nat) (whole : Bool) (ls : List (List Nat)) (rv : List Value) (ov pv : Value) (w : World) (e : Ending) (w' : World) : Prop :=
  e = .returned (.tuple #[]) ∧ Keeps (fun j => j = k.mb ∨ j = k.hb ∨ j = k.ob ∨ ov.ownBlock = some j ∨ pv.ownBlock = some j) w w' ∧ (∃ f, MemoF w' d n k.mb f) ∧
    w'.heap[k.hb]? = some (.cells #[.bool (whole && decide (ls.length + (d.run n i y).length ≤ M))] 4 (0, 0)) ∧ w'.ownsRow L 3 1 pv y.length (intV y) ∧
    ∃ ov' nv, w'.heap[k.ob]? = some (.cells #[ov'] 37 (0, 0)) ∧ OutIs L w' ov' (rv ++ nv) (ls ++ if whole then (d.run n i y).take (M - ls.length) else []) ∧ (∀ v ∈ nv, ∀ b, v.ownBlock = some b → w.heap.size ≤ b) ∧
      ∀ b, ov'.ownBlock = some b → ov.ownBlock = some b ∨ w.heap.size ≤ b

/-- slices.Clone of a slice that is owned. -/
theorem qclone_any (L : Nat) (pv : Value) (y : List Nat) (w : World) (h : w.ownsRow L 3 1 pv y.length (intV y)) (hn : y.length ≤ 1000000) :
    Calls Tryd.prog 41 #[pv] w fun e w' => ∃ v', e = .returned v' ∧ w'.ownsRow w.heap.size 3 1 v' y.length (intV y) ∧ Below w.heap.size w w' := by
  rcases h.2 with ⟨rfl, h0⟩ | ⟨g, cap, cur, rfl, h1⟩
  · refine (Tryd.slices_Clone_int_nil 0 0 w).mono ?_
    rintro e w' ⟨rfl, rfl⟩
    obtain rfl : y = [] := List.eq_nil_of_length_eq_zero h0
    exact ⟨_, rfl, World.ownsRow_nil _ _ _ _, Below.refl _ _⟩
  · refine (Tryd.slices_Clone_int g 0 y.length cap (y.map Int.ofNat) w (by simp) (by omega) (fun j hj => ?_)).mono ?_
    · rw [List.length_map] at hj
      have h4 := World.ownsRow.cellAt h j (by omega)
      rw [Nat.zero_add, h4]
      unfold intV
      simp [List.getElem?_eq_getElem hj, List.getD_eq_getElem?_getD]
    · rintro e w' ⟨v', rfl, h2, _, h3⟩
      refine ⟨v', rfl, ?_, h3⟩
      have e1 : ((y.map Int.ofNat).take y.length).map (Value.int .i64) = intV y := by
        rw [List.take_of_length_le (by simp), List.map_map]; rfl
      rwa [e1] at h2

/-- A panel was put at the list's end. -/
theorem walk_put {L : Nat} {k : Blk} {ls : List (List Nat)} {rv : List Value} {ov v3 : Value} {y : List Nat} {wq w3 w5 : World} {o : Obj} {g cap : Nat} (hO : OutIs L wq ov rv ls) (hob : wq.heap[k.ob]? = some (.cells #[ov] 37 (0, 0))) (hobL : k.ob < L) (hL : L ≤ wq.heap.size)
    (hv3 : w3.ownsRow wq.heap.size 3 1 v3 y.length (intV y)) (hb3 : Below wq.heap.size wq w3) (hown : w5.ownsRow L 26 1 (.slice (some ⟨g, 0, none⟩) (rv.length + 1) cap) (rv.length + 1) (rv ++ [v3]))
    (hgrow : (w3.alloc o).grownBy w5 ov.ownBlock) (hat : ov.ownBlock = some g ∨ wq.heap.size ≤ g) :
    Keeps (fun j => j = k.ob ∨ ov.ownBlock = some j) wq (w5.setCell ⟨k.ob, 0, none⟩ (.slice (some ⟨g, 0, none⟩) (rv.length + 1) cap)) ∧
    (w5.setCell ⟨k.ob, 0, none⟩ (.slice (some ⟨g, 0, none⟩) (rv.length + 1) cap)).heap[k.ob]? = some (.cells #[.slice (some ⟨g, 0, none⟩) (rv.length + 1) cap] 37 (0, 0)) ∧
    OutIs L (w5.setCell ⟨k.ob, 0, none⟩ (.slice (some ⟨g, 0, none⟩) (rv.length + 1) cap)) (.slice (some ⟨g, 0, none⟩) (rv.length + 1) cap) (rv ++ [v3]) (ls ++ [y]) ∧
    (∀ b, v3.ownBlock = some b → wq.heap.size ≤ b) ∧ (ov.ownBlock = some g ∨ wq.heap.size ≤ g) := by
  have hk3 : Keeps (fun j => j = k.ob ∨ ov.ownBlock = some j) wq w5 := ((Keeps.of_below hb3).alloc o).grown hgrow (fun j hj _ => .inr hj)
  have hovL := World.ownsRow.lt hO.1
  have hobn : ∀ b, ov.ownBlock = some b → b ≠ k.ob := fun b hb e => by have := (hovL b hb).1; omega
  have hob5 : w5.heap[k.ob]? = some (.cells #[ov] 37 (0, 0)) := by
    have h1 := (Array.getElem?_eq_some_iff.1 hob).1
    have h2 := hb3.size
    rw [hgrow.block k.ob (by simp; omega) (fun e => hobn _ e.symm rfl), Below.heap_alloc _ _ _ (by omega), hb3.block _ h1]
    exact hob
  have hgL : L ≤ g := (World.ownsRow.lt hown g rfl).1
  have hset : ∀ c, c ≠ k.ob → (w5.setCell ⟨k.ob, 0, none⟩ (.slice (some ⟨g, 0, none⟩) (rv.length + 1) cap)).heap[c]? = w5.heap[c]? := fun c hc => heap_setCell_other _ _ _ _ hc
  have h3b : ∀ b, v3.ownBlock = some b → wq.heap.size ≤ b ∧ b < w3.heap.size := fun b hb => World.ownsRow.lt hv3 b hb
  refine ⟨hk3.setCell (fun _ => .inl rfl) _, heap_setCell_same w5 _ 0 _ _ _ hob5, ⟨?_, ?_, ?_⟩, fun b hb => (h3b b hb).1, ?_⟩
  · have := ownsRow_blocks (w' := w5.setCell ⟨k.ob, 0, none⟩ (.slice (some ⟨g, 0, none⟩) (rv.length + 1) cap)) hown (fun b hb => hset b (by obtain rfl : g = b := Option.some.inj hb; omega))
    simpa using this
  · simp [hO.2.1]
  · intro j v l hj hl
    by_cases hjl : j < rv.length
    · rw [List.getElem?_append_left hjl] at hj
      rw [List.getElem?_append_left (by rw [← hO.2.1]; exact hjl)] at hl
      have h1 := hO.2.2 j v l hj hl
      refine ownsRow_blocks h1 (fun b hb => ?_)
      have h2 := World.ownsRow.lt h1 b hb
      rw [hset b (by omega), hk3.block b h2.2 (fun e => by
        rcases e with e | e
        · omega
        · exact rows_apart hO.1 h1 (by decide) e hb)]
    · rw [List.getElem?_append_right (by omega)] at hj
      rw [List.getElem?_append_right (by rw [← hO.2.1]; omega)] at hl
      have hj0 : j - rv.length = 0 := by
        have := (List.getElem?_eq_some_iff.1 hj).1
        simp at this; omega
      rw [hj0] at hj
      rw [← hO.2.1, hj0] at hl
      simp only [List.getElem?_cons_zero, Option.some.injEq] at hj hl
      subst hj hl
      have h1 : w5.ownsRow wq.heap.size 3 1 v3 y.length (intV y) := ownsRow_blocks hv3 (fun b hb => by
        have h2 := h3b b hb
        rw [hgrow.block b (by simp; omega) (fun e => by have := (hovL b e.symm).2; omega), Below.heap_alloc _ _ _ h2.2])
      have h4 := ownsRow_blocks (w' := w5.setCell ⟨k.ob, 0, none⟩ (.slice (some ⟨g, 0, none⟩) (rv.length + 1) cap)) h1 (fun b hb => hset b (by have := h3b b hb; omega))
      exact ⟨h4.1, h4.2.imp id (fun ⟨g', c', cur', e1, e2, e3⟩ => ⟨g', c', cur', e1, by omega, e3⟩)⟩
  · exact hat

theorem walk_end {B L : Nat} {x : DrawC} {ins : Value} {d : PD} {n : Nat} {k : Blk} {most : Int} {i : Nat} {y : List Nat} {ls : List (List Nat)} {rv : List Value} {ov pv v3 : Value} {w wq w3 w5 : World} {o : Obj} {g cap : Nat} (hR : d.run n i y = [y]) (hW : WB B L wq x ins d n k most) (hK : Keeps (· = k.mb) w wq) (hM : ∃ f, MemoF wq d n k.mb f)
    (hh : wq.heap[k.hb]? = some (.cells #[.bool true] 4 (0, 0))) (hO : OutIs L wq ov rv ls) (hob : wq.heap[k.ob]? = some (.cells #[ov] 37 (0, 0))) (hp : wq.ownsRow L 3 1 pv y.length (intV y)) (hmost : (rv.length : Int) < most)
    (hv3 : w3.ownsRow wq.heap.size 3 1 v3 y.length (intV y)) (hb3 : Below wq.heap.size wq w3) (hown : w5.ownsRow L 26 1 (.slice (some ⟨g, 0, none⟩) (rv.length + 1) cap) (rv.length + 1) (rv ++ [v3]))
    (hgrow : (w3.alloc o).grownBy w5 ov.ownBlock) (hat : ov.ownBlock = some g ∨ wq.heap.size ≤ g) :
    WalkEnd L k d n most.toNat i y true ls rv ov pv w (.returned (.tuple #[])) (w5.setCell ⟨k.ob, 0, none⟩ (.slice (some ⟨g, 0, none⟩) (rv.length + 1) cap)) := by
  have hap := hW.apart
  have hlt := hW.lt
  have hovL := World.ownsRow.lt hO.1
  obtain ⟨h1, h2, h3, h4, h5⟩ := walk_put hO hob hlt.2.2 hW.hL hv3 hb3 hown hgrow hat
  obtain ⟨f, hf⟩ := hM
  have hl := hO.2.1
  have hsz := hK.size
  refine ⟨rfl, (hK.weaken (fun j _ e => .inl e)).trans (h1.weaken (fun j _ e => e.elim (fun e => .inr (.inr (.inl e))) (fun e => .inr (.inr (.inr (.inl e)))))), ⟨f, hf.block (h1.block _ hf.lt (fun e => ?_))⟩, ?_, ownsRow_blocks hp (fun b hb => h1.block b (World.ownsRow.lt hp b hb).2 (fun e => ?_)), _, [v3], h2, ?_, fun v hv b hb => ?_, fun b hb => ?_⟩
  · rcases e with e | e
    · exact hap.2.1 e
    · have := (hovL _ e).1; omega
  · rw [hR, List.length_singleton, decide_eq_true (by omega), Bool.and_true]
    refine (h1.block k.hb (Array.getElem?_eq_some_iff.1 hh).1 (fun e => ?_)).trans hh
    rcases e with e | e
    · exact hap.2.2 e
    · have := (hovL _ e).1; omega
  · rcases e with e | e
    · have := (World.ownsRow.lt hp b hb).1; omega
    · exact rows_apart hO.1 hp (by decide) e hb
  · rw [hR]
    show OutIs L _ _ _ (ls ++ [y].take _)
    rw [List.take_of_length_le (by simp; omega)]
    exact h3
  · simp only [List.mem_singleton] at hv
    subst hv
    have := h4 b hb; omega
  · obtain rfl : g = b := Option.some.inj hb
    rcases h5 with h | h
    · exact .inl h
    · exact .inr (by omega)

end Go.Proofs.YtebigkjilklodaaDoor

/- The program's panels: the search for all of them. -/
namespace Go.Proofs.YtebigkjilklodaaDoor
open Go.RowKit

set_option maxHeartbeats 1000000 in
set_option maxRecDepth 100000 in
/-- A search that has ended. -/
theorem qwalk_no (B L : Nat) (x : DrawC) (ins : Value) (d : PD) (n : Nat) (k : Blk) (most : Int) (i : Nat) (y : List Nat) (pv : Value) (rv : List Value) (ls : List (List Nat)) (ov : Value) (w : World)
    (hw : WB B L w x ins d n k most) (hm : ∃ f, MemoF w d n k.mb f) (hh : w.heap[k.hb]? = some (.cells #[.bool false] 4 (0, 0))) (ho : w.heap[k.ob]? = some (.cells #[ov] 37 (0, 0))) (hO : OutIs L w ov rv ls) (hp : w.ownsRow L 3 1 pv y.length (intV y)) :
    Calls Tryd.prog 40 #[.agg (stA i y.length (d.cn y)), pv, .pointer (some ⟨k.hb, 0, none⟩), .pointer (some ⟨k.cb, 0, none⟩), .pointer (some ⟨k.zb, 0, none⟩), .pointer (some ⟨k.ab, 0, none⟩), .pointer (some ⟨k.ob, 0, none⟩), .pointer (some ⟨k.qb, 0, none⟩), .pointer (some ⟨k.wb, 0, none⟩)] w
      (WalkEnd L k d n most.toNat i y false ls rv ov pv w) := by
  have HEND : Hid (∀ w', Below w.heap.size w w' → WalkEnd L k d n most.toNat i y false ls rv ov pv w (.returned (.tuple #[])) w') := fun w' hb => by
    obtain ⟨f, hm⟩ := hm
    refine ⟨rfl, .of_below hb, ⟨f, hm.below hb⟩, (hb.block _ (Array.getElem?_eq_some_iff.1 hh).1).trans hh, ownsRow_below hp hb, ov, [], (hb.block _ (Array.getElem?_eq_some_iff.1 ho).1).trans ho, ?_, by simp, fun b h => .inl h⟩
    rw [List.append_nil]
    show OutIs L w' ov rv (ls ++ [])
    rw [List.append_nil]
    exact hO.keep (S := fun _ => False) ⟨hb.os, hb.tape, hb.output, hb.size, fun j hj _ => hb.block j hj⟩ (fun _ _ => id) (fun _ _ _ _ => id)
  have h0 : w.cell? ⟨k.hb, 0, none⟩ = some (.bool false) := by rw [cell_of_row w _ _ _ _ _ hh]; rfl
  have hlt := cell_lt h0
  clear hw hm hh ho hO hp
  obtain ⟨tb, kb, fb, mb, ab, cb, zb, qb, wb, hb, ob⟩ := k
  dsimp only at h0 hlt ⊢
  unfold stA
  go_enter Tryd.func40, Tryd.ntmps40
  go_wp2_with fail
  generalize hW0 : World.alloc _ _ = W0
  have hK : Below w.heap.size w W0 := by rw [← hW0]; exact (Below.refl _ _).alloc (Nat.le_refl _) _
  have h1 := (hK.cell (p := ⟨hb, 0, none⟩) hlt).trans h0
  have hlt1 := cell_lt h1
  have HK := Lib.hid hK
  clear hW0 hK
  refine wp_region_class (Kept _) (by kernel_rfl) (by kernel_rfl) (Kept.drew _) ?_
  repeat (first
    | go_big_quiet_skip
    | (refine BigFrame.wpQuiet_want (by rfl) (fun K hK => ?_)
       first
         | (refine BigFrame.quiet_move _ rfl ?_; refine hK _ ?_)
         | (refine BigFrame.quiet_assign _ rfl ?_; refine hK _ ?_)
         | (apply Exists.intro; refine ⟨fun w' hC => ?_, hK _ ?_⟩
            · (obtain ⟨hcl, hfr⟩ := bcell hC.1; unfold Oper.quietAt; go_simp; first | rfl | fail))
       simp only [Act.put, Act.eval, List.setIfInBounds_toArray, List.set_cons_zero, List.set_cons_succ, Array.getD_eq_getD_getElem?, List.getElem?_toArray, List.getElem?_cons_succ, List.getElem?_cons_zero, Option.getD_some]
       clear hK K))
  refine wpQuiet_nil ?_
  intro wq hCq
  have HK2 := Lib.hid (hCq.below HK.out HK.out.size)
  clear hCq
  go_wp2_with fail
  go_end0
  exact HEND.out _ HK2.out

/-- What the first region of a search reads. -/
def SeeC (W0 : World) (d : PD) (n mb : Nat) (w' : World) : Prop := Keeps (· = mb) W0 w' ∧ ∃ g, MemoF w' d n mb g

/-- The search from entrant i on does what it should. -/
def WalkOK (B L : Nat) (x : DrawC) (ins : Value) (d : PD) (n : Nat) (k : Blk) (most : Int) (i : Nat) : Prop :=
  ∀ (y : List Nat) (pv : Value) (rv : List Value) (ls : List (List Nat)) (ov : Value) (w : World), y ∈ pre i →
    WB B L w x ins d n k most → (∃ f, MemoF w d n k.mb f) → w.heap[k.hb]? = some (.cells #[.bool true] 4 (0, 0)) → w.heap[k.ob]? = some (.cells #[ov] 37 (0, 0)) → OutIs L w ov rv ls → w.ownsRow L 3 1 pv y.length (intV y) → Avoid rv pv.ownBlock →
    ls.length ≤ most.toNat → ls.length + (d.run n i y).length ≤ 2 ^ 40 →
    Calls Tryd.prog 40 #[.agg (stA i y.length (d.cn y)), pv, .pointer (some ⟨k.hb, 0, none⟩), .pointer (some ⟨k.cb, 0, none⟩), .pointer (some ⟨k.zb, 0, none⟩), .pointer (some ⟨k.ab, 0, none⟩), .pointer (some ⟨k.ob, 0, none⟩), .pointer (some ⟨k.qb, 0, none⟩), .pointer (some ⟨k.wb, 0, none⟩)] w
      (WalkEnd L k d n most.toNat i y true ls rv ov pv w)

theorem natS_empty (k : Nat) : (natS k).toList.isEmpty = decide (k = 0) := by
  rw [ByteArray.toList_eq, natS_list]
  by_cases h : k = 0
  · subst h; rw [natB_zero]; rfl
  · rw [decide_eq_false h]
    cases hb : natB k with
    | nil => exact absurd hb (natB_ne (by omega))
    | cons _ _ => rfl
theorem Tryd.infoRows : (Tryd.prog.info? 26).map (fun i => (i.zero, i.size, i.bytes)) = some (some (.slice none 0 0), 1, 24) := by kernel_rfl
theorem owns_flat {w : World} {B s n : Nat} {e : TypeId} {v : Value} {xs : List Value} (h : w.ownsRow B e s v n xs) : v.oneCell' = true := by
  rcases h.2 with ⟨rfl, h0⟩ | ⟨g, cap, cur, rfl, _⟩ <;> rfl
theorem owns_slice {w : World} {B s n : Nat} {e : TypeId} {v : Value} {xs : List Value} (h : w.ownsRow B e s v n xs) : ∃ ao cap, v = .slice ao n cap := by
  rcases h.2 with ⟨rfl, h0⟩ | ⟨g, cap, cur, rfl, _⟩
  · exact ⟨none, 0, by rw [h0]⟩
  · exact ⟨_, _, rfl⟩

end Go.Proofs.YtebigkjilklodaaDoor

/- The program's panels: one call of the search inside another. -/
namespace Go.Proofs.YtebigkjilklodaaDoor
open Go.RowKit

/-- The blocks that a search turns. -/
def Fr (k : Blk) (ov pv : Value) (j : Nat) : Prop := j = k.mb ∨ j = k.hb ∨ j = k.ob ∨ ov.ownBlock = some j ∨ pv.ownBlock = some j
/-- A search that has found R so far. -/
def Mid (L : Nat) (k : Blk) (d : PD) (n M : Nat) (R : List (List Nat)) (y : List Nat) (ls : List (List Nat)) (rv : List Value) (ov pv : Value) (w wr : World) : Prop :=
  Keeps (Fr k ov pv) w wr ∧ (∃ f, MemoF wr d n k.mb f) ∧ wr.heap[k.hb]? = some (.cells #[.bool (decide (ls.length + R.length ≤ M))] 4 (0, 0)) ∧ wr.ownsRow L 3 1 pv y.length (intV y) ∧
    ∃ ov' nv, wr.heap[k.ob]? = some (.cells #[ov'] 37 (0, 0)) ∧ OutIs L wr ov' (rv ++ nv) (ls ++ R.take (M - ls.length)) ∧ (∀ v ∈ nv, ∀ b, v.ownBlock = some b → w.heap.size ≤ b) ∧
      ∀ b, ov'.ownBlock = some b → ov.ownBlock = some b ∨ w.heap.size ≤ b
theorem Mid.end {L : Nat} {k : Blk} {d : PD} {n M i : Nat} {y : List Nat} {ls : List (List Nat)} {rv : List Value} {ov pv : Value} {w wr : World} (h : Mid L k d n M (d.run n i y) y ls rv ov pv w wr) :
    WalkEnd L k d n M i y true ls rv ov pv w (.returned (.tuple #[])) wr := by
  obtain ⟨h1, h2, h3, h4, ov', nv, h5, h6, h7, h8⟩ := h
  exact ⟨rfl, h1, h2, h3, h4, ov', nv, h5, h6, h7, h8⟩
theorem Mid.below {L : Nat} {k : Blk} {d : PD} {n M : Nat} {R : List (List Nat)} {y : List Nat} {ls : List (List Nat)} {rv : List Value} {ov pv : Value} {w wr w' : World} (h : Mid L k d n M R y ls rv ov pv w wr) (hb : Below wr.heap.size wr w') : Mid L k d n M R y ls rv ov pv w w' := by
  obtain ⟨h1, ⟨f, hf⟩, h3, h4, ov', nv, h5, h6, h7, h8⟩ := h
  refine ⟨h1.belowS hb, ⟨f, hf.below hb⟩, (hb.block _ (Array.getElem?_eq_some_iff.1 h3).1).trans h3, ownsRow_below h4 hb, ov', nv, (hb.block _ (Array.getElem?_eq_some_iff.1 h5).1).trans h5, ?_, h7, h8⟩
  exact h6.keep (S := fun _ => False) ⟨hb.os, hb.tape, hb.output, hb.size, fun j hj _ => hb.block j hj⟩ (fun _ _ => id) (fun _ _ _ _ => id)
/-- The panel of the next call. -/
def PanRel (L : Nat) (wr w1 : World) (pv pv1 : Value) (y y1 : List Nat) : Prop :=
  w1.ownsRow L 3 1 pv1 y1.length (intV y1) ∧ w1.ownsRow L 3 1 pv y.length (intV y) ∧ ((pv1 = pv ∧ y1 = y) ∨ ∃ i, y1 = y ++ [i] ∧ ∃ H, PanAt pv pv1 y.length H ∧ wr.heap.size ≤ H)
theorem PanRel.block {L : Nat} {wr w1 : World} {pv pv1 : Value} {y y1 : List Nat} (h : PanRel L wr w1 pv pv1 y y1) {b : Nat} (hb : pv1.ownBlock = some b) : pv.ownBlock = some b ∨ wr.heap.size ≤ b := by
  rcases h.2.2 with ⟨rfl, _⟩ | ⟨i, _, H, h1 | h1, hH⟩
  · exact .inl hb
  · obtain ⟨g, cap, rfl, rfl⟩ := h1; exact .inl hb
  · obtain ⟨cap, rfl⟩ := h1
    obtain rfl : H = b := Option.some.inj hb
    exact .inr hH

theorem take_next {α : Type} (ls R1 R2 : List α) (M : Nat) (h : ls.length ≤ M) :
    (ls ++ R1.take (M - ls.length)) ++ (if decide (ls.length + R1.length ≤ M) = true then R2.take (M - (ls ++ R1.take (M - ls.length)).length) else []) = ls ++ (R1 ++ R2).take (M - ls.length) := by
  rw [List.append_assoc, List.take_append]
  congr 2
  by_cases hd : ls.length + R1.length ≤ M
  · rw [if_pos (decide_eq_true hd), List.length_append, List.length_take, Nat.min_eq_right (by omega)]
    congr 1
    omega
  · rw [if_neg (by rw [decide_eq_false hd]; decide), show M - ls.length - R1.length = 0 by omega, List.take_zero]

set_option maxHeartbeats 1000000 in
theorem mid_next (B L : Nat) (x : DrawC) (ins : Value) (d : PD) (n : Nat) (k : Blk) (most : Int) (i1 : Nat) (hok : WalkOK B L x ins d n k most i1) (R1 : List (List Nat)) (y y1 : List Nat) (ls : List (List Nat)) (rv : List Value) (ov pv pv1 : Value) (w wr w1 : World)
    (hW : WB B L w x ins d n k most) (hM : Mid L k d n most.toNat R1 y ls rv ov pv w wr) (hpw : w.ownsRow L 3 1 pv y.length (intV y)) (how : OutIs L w ov rv ls) (hav : Avoid rv pv.ownBlock) (hlM : ls.length ≤ most.toNat)
    (hsz : ls.length + (R1 ++ d.run n i1 y1).length ≤ 2 ^ 40) (hk : Keeps (fun j => pv.ownBlock = some j) wr w1) (hp : PanRel L wr w1 pv pv1 y y1) (hy1 : y1 ∈ pre i1) :
    Calls Tryd.prog 40 #[.agg (stA i1 y1.length (d.cn y1)), pv1, .pointer (some ⟨k.hb, 0, none⟩), .pointer (some ⟨k.cb, 0, none⟩), .pointer (some ⟨k.zb, 0, none⟩), .pointer (some ⟨k.ab, 0, none⟩), .pointer (some ⟨k.ob, 0, none⟩), .pointer (some ⟨k.qb, 0, none⟩), .pointer (some ⟨k.wb, 0, none⟩)] w1
      fun e w' => e = .returned (.tuple #[]) ∧ Mid L k d n most.toNat (R1 ++ d.run n i1 y1) y ls rv ov pv w w' := by
  obtain ⟨h1, ⟨f, hf⟩, h3, h4, ov', nv, h5, h6, h7, h8⟩ := hM
  have hltL := hW.lt
  have hLw := hW.hL
  have hszr := h1.size
  have hsz1 := hk.size
  have hpL := World.ownsRow.lt hpw
  have hovL := World.ownsRow.lt how.1
  have hov' := World.ownsRow.lt h6.1
  have hkD : Keeps (Dy k L) w w1 := (h1.weaken (fun j _ e => by
      rcases e with e | e | e | e | e
      · exact .inl e
      · exact .inr (.inl e)
      · exact .inr (.inr (.inl e))
      · exact .inr (.inr (.inr (hovL j e).1))
      · exact .inr (.inr (.inr (hpL j e).1)))).trans (hk.weaken (fun j _ e => .inr (.inr (.inr (hpL j e).1))))
  have hW1 := hW.keep hkD
  have hnp : ∀ j, j < L → ¬ pv.ownBlock = some j := fun j hj e => by have := (hpL j e).1; omega
  have hf1 : MemoF w1 d n k.mb f := hf.block (hk.block _ hf.lt (hnp _ hltL.1))
  have hh1 := (hk.block _ (Array.getElem?_eq_some_iff.1 h3).1 (hnp _ hltL.2.1)).trans h3
  have ho1 := (hk.block _ (Array.getElem?_eq_some_iff.1 h5).1 (hnp _ hltL.2.2)).trans h5
  have havN : Avoid (rv ++ nv) pv.ownBlock := fun v hv => by
    rcases List.mem_append.1 hv with hv | hv
    · exact hav v hv
    · cases hb : v.ownBlock with
      | none => exact .inl rfl
      | some b => exact .inr (fun e => by have := h7 v hv b hb; have := (hpL b e.symm).2; omega)
  have hO1 : OutIs L w1 ov' (rv ++ nv) (ls ++ R1.take (most.toNat - ls.length)) := h6.keep hk (fun b hb e => rows_apart h6.1 h4 (by decide) hb e) (fun v hv b hb e => by
    rcases havN v hv with h | h
    · rw [h] at hb; cases hb
    · exact h (hb.trans e.symm))
  have hav1 : Avoid (rv ++ nv) pv1.ownBlock := fun v hv => by
    cases hb : v.ownBlock with
    | none => exact .inl rfl
    | some b =>
      refine .inr (fun e => ?_)
      rcases hp.block e.symm with h | h
      · rcases havN v hv with h' | h'
        · rw [h'] at hb; cases hb
        · exact h' (hb.trans h.symm)
      · have := (h6.lt hv hb).2; omega
  have hl1 : (ls ++ R1.take (most.toNat - ls.length)).length ≤ most.toNat := by rw [List.length_append, List.length_take]; omega
  have hl2 : (ls ++ R1.take (most.toNat - ls.length)).length ≤ ls.length + R1.length := by rw [List.length_append, List.length_take]; omega
  have hcall : Calls Tryd.prog 40 #[.agg (stA i1 y1.length (d.cn y1)), pv1, .pointer (some ⟨k.hb, 0, none⟩), .pointer (some ⟨k.cb, 0, none⟩), .pointer (some ⟨k.zb, 0, none⟩), .pointer (some ⟨k.ab, 0, none⟩), .pointer (some ⟨k.ob, 0, none⟩), .pointer (some ⟨k.qb, 0, none⟩), .pointer (some ⟨k.wb, 0, none⟩)] w1
      (WalkEnd L k d n most.toNat i1 y1 (decide (ls.length + R1.length ≤ most.toNat)) (ls ++ R1.take (most.toNat - ls.length)) (rv ++ nv) ov' pv1 w1) := by
    cases hw : decide (ls.length + R1.length ≤ most.toNat)
    · rw [hw] at hh1
      exact qwalk_no B L x ins d n k most i1 y1 pv1 (rv ++ nv) _ ov' w1 hW1 ⟨f, hf1⟩ hh1 ho1 hO1 hp.1
    · rw [hw] at hh1
      exact hok y1 pv1 (rv ++ nv) _ ov' w1 hy1 hW1 ⟨f, hf1⟩ hh1 ho1 hO1 hp.1 hav1 hl1 (by rw [List.length_append] at hsz; omega)
  refine hcall.mono ?_
  rintro e w' ⟨rfl, g1, g2, g3, g4, ov2, nv2, g5, g6, g7, g8⟩
  refine ⟨rfl, ?_, g2, ?_, ?_, ov2, nv ++ nv2, g5, ?_, ?_, ?_⟩
  · refine (h1.trans (hk.weaken (fun j _ e => .inr (.inr (.inr (.inr e)))))).then g1 (fun j hj e => ?_)
    rcases e with e | e | e | e | e
    · exact .inl e
    · exact .inr (.inl e)
    · exact .inr (.inr (.inl e))
    · rcases h8 j e with h | h
      · exact .inr (.inr (.inr (.inl h)))
      · omega
    · rcases hp.block e with h | h
      · exact .inr (.inr (.inr (.inr h)))
      · omega
  · have hbb : (decide (ls.length + R1.length ≤ most.toNat) && decide ((ls ++ R1.take (most.toNat - ls.length)).length + (d.run n i1 y1).length ≤ most.toNat)) = decide (ls.length + (R1 ++ d.run n i1 y1).length ≤ most.toNat) := by
      by_cases hw : ls.length + R1.length ≤ most.toNat
      · rw [decide_eq_true hw, Bool.true_and, List.length_append, List.length_append, List.length_take, Nat.min_eq_right (by omega), Nat.add_assoc]
      · rw [decide_eq_false hw, Bool.false_and, List.length_append]
        exact (decide_eq_false (by omega)).symm
    rw [g3, hbb]
  · rcases hp.2.2 with ⟨e1, e2⟩ | ⟨i, e2, H, h9 | h9, hH⟩
    · rw [← e1, ← e2]; exact g4
    · obtain ⟨g, cap, e3, e4⟩ := h9
      rw [e4, e2, intV_append, List.length_append] at g4
      rw [e3]
      exact ownsRow_front g4
    · obtain ⟨cap, e3⟩ := h9
      refine ownsRow_blocks hp.2.1 (fun b hb => g1.block b (World.ownsRow.lt hp.2.1 b hb).2 (fun e => ?_))
      have hbL := hpL b hb
      rcases e with e | e | e | e | e
      · omega
      · omega
      · omega
      · exact rows_apart hO1.1 hp.2.1 (by decide) e hb
      · rw [e3] at e
        obtain rfl : H = b := Option.some.inj e
        omega
  · rw [← List.append_assoc, ← take_next ls R1 _ _ hlM]
    exact g6
  · intro v hv b hb
    rcases List.mem_append.1 hv with hv | hv
    · exact h7 v hv b hb
    · have := g7 v hv b hb; omega
  · intro b hb
    rcases g8 b hb with h | h
    · exact h8 b h
    · exact .inr (by omega)

end Go.Proofs.YtebigkjilklodaaDoor

/- The program's panels: the search for all of them, one state. -/
namespace Go.Proofs.YtebigkjilklodaaDoor
open Go.RowKit

theorem Tryd.infoI : (Tryd.prog.info? 3).map (fun i => (i.zero, i.size, i.bytes)) = some (some (.int .i64 0), 1, 8) := by kernel_rfl
theorem panrel_of {L H i : Nat} {w3 w5 : World} {pv v5 : Value} {y : List Nat} (h1 : w5.ownsRow L 3 1 v5 (y.length + 1) (intV y ++ [.int .i64 (i : Int)])) (h2 : w5.ownsRow L 3 1 pv y.length (intV y)) (h3 : PanAt pv v5 y.length H) (h4 : w3.heap.size ≤ H) : PanRel L w3 w5 pv v5 y (y ++ [i]) :=
  ⟨by rw [intV_append, List.length_append]; exact h1, h2, .inr ⟨i, rfl, H, h3, h4⟩⟩

set_option maxHeartbeats 20000000 in
set_option maxRecDepth 100000 in
theorem qwalk_step (B L : Nat) (x : DrawC) (ins : Value) (d : PD) (n : Nat) (k : Blk) (most : Int) (i : Nat) (hi : i ≤ n) (ih : i < n → WalkOK B L x ins d n k most (i + 1)) : WalkOK B L x ins d n k most i := by
  intro y pv rv ls ov w hy hw hm hh ho hO hp hav hlM hsz
  have HY := Lib.hid hy
  have HW := Lib.hid hw
  have HM := Lib.hid hm
  have HH := Lib.hid hh
  have HO := Lib.hid ho
  have HOUT := Lib.hid hO
  have HP := Lib.hid hp
  have HAV := Lib.hid hav
  have HSZ := Lib.hid (And.intro hlM hsz)
  have HIH := Lib.hid ih
  clear ih hy hw hm hh ho hO hp hav hlM hsz
  have hsm := HW.out.ctr.small
  have hi40 : i ≤ 40 := by omega
  have hy40 := pre_few HY.out
  obtain ⟨tb, kb, fb, mb, ab, cb, zb, qb, wb, hb, ob⟩ := k
  dsimp only at HIH HW HM HH HO ⊢
  obtain ⟨ao, cap, rfl, _⟩ := HW.out.ctr.tat.ins
  unfold stA
  go_enter Tryd.func40, Tryd.ntmps40
  go_wp2_with fail
  generalize hW0 : World.alloc _ _ = W0
  have hK : Below w.heap.size w W0 := by rw [← hW0]; exact (Below.refl _ _).alloc (Nat.le_refl _) _
  have hS : StAt w.heap.size W0 i y.length (d.cn y) := by rw [← hW0]; exact heap_alloc_new w _
  have hbl := (Array.getElem?_eq_some_iff.1 HH.out).1
  have hobl := (Array.getElem?_eq_some_iff.1 HO.out).1
  have HK0 : Hid (Keeps (fun _ => False) w W0) := .of_below hK
  have HS := Lib.hid hS
  clear hW0 hS
  have HW0 := Lib.hid (HW.out.keep (HK0.out.weaken (fun _ _ h => h.elim)))
  have HM0 : Hid (∃ f, MemoF W0 d n mb f) := by obtain ⟨f, hf⟩ := HM.out; exact ⟨f, hf.below hK⟩
  have HHL := Lib.hid hbl
  have HOL := Lib.hid hobl
  have HF : Hid (∀ w', SeeC W0 d n mb w' → w'.cell? ⟨hb, 0, none⟩ = some (.bool true) ∧ w'.cell? ⟨cb, 0, none⟩ = some (.func (.func 57) #[] #[.pointer (some ⟨tb, 0, none⟩), .pointer (some ⟨kb, 0, none⟩), .pointer (some ⟨fb, 0, none⟩)]) ∧ w'.cell? ⟨zb, 0, none⟩ = some (.string ⟨#[]⟩) ∧ StAt w.heap.size w' i y.length (d.cn y)) := fun w' hC => by
    have hWK := HW0.out.keep (hC.1.weaken (fun j _ e => .inl e))
    have hmw := HM.out
    obtain ⟨f, hf⟩ := hmw
    have h1 := hf.lt
    refine ⟨?_, hWK.cells.1, hWK.cells.2.1, (hC.1.block _ HS.out.lt (by show w.heap.size ≠ mb; omega)).trans HS.out⟩
    rw [cell_of_row w' hb _ _ _ _ ((hC.1.block hb (Nat.lt_of_lt_of_le hbl hK.size) (fun e => HW.out.apart.1 e.symm)).trans ((hK.block _ hbl).trans HH.out))]; rfl
  have HCNT : Hid (∀ w', SeeC W0 d n mb w' → Calls Tryd.prog 57 #[.agg (stA i y.length (d.cn y)), .pointer (some ⟨tb, 0, none⟩), .pointer (some ⟨kb, 0, none⟩), .pointer (some ⟨fb, 0, none⟩)] w' fun e w'' => e = .returned (.string (natS (d.go n i y).length)) ∧ SeeC W0 d n mb w'') := fun w' hC => by
    obtain ⟨g, hg⟩ := hC.2
    refine (qcount_any B x _ d n tb kb fb mb (n - i) i y g w' rfl hi HY.out ((HW0.out.ctr).keep hC.1) hg).mono ?_
    rintro e w'' ⟨rfl, hk, g2, hg2, _⟩
    exact ⟨rfl, hC.1.trans hk, g2, hg2⟩
  obtain ⟨cnt, hcnt⟩ : ∃ cnt, cnt = (d.go n i y).length := ⟨_, rfl⟩
  rw [← hcnt] at HCNT
  have HCN := Lib.hid hcnt
  unfold stA at HCNT
  clear hcnt hbl hobl hK
  refine wp_region_class (SeeC W0 d n mb) (by kernel_rfl) (by kernel_rfl) (⟨Keeps.drew (Keeps.refl _ _), HM0.out⟩) ?_
  repeat (first
    | go_big_quiet_skip
    | (refine BigFrame.wpQuiet_want (by rfl) (fun K hK => ?_)
       first
         | (refine BigFrame.quiet_move _ rfl ?_; refine hK _ ?_)
         | (refine BigFrame.quiet_assign _ rfl ?_; refine hK _ ?_)
         | (apply Exists.intro; refine ⟨fun w' hC => ?_, hK _ ?_⟩
            · (obtain ⟨c1, c2, c3, hst⟩ := HF.out w' hC; obtain ⟨n0, n1, n2, n3, n4, n5, n6, n7, n8, n9, n10, n11, n12, n13⟩ := hst.all; unfold Oper.quietAt; go_simp; first | rfl | exact ⟨rfl, hC⟩ | (go_at_call 57; with_reducible exact (HCNT.out w' hC).mono fun e w'' h => h)))
       simp only [Act.put, Act.eval, List.setIfInBounds_toArray, List.set_cons_zero, List.set_cons_succ, Array.getD_eq_getD_getElem?, List.getElem?_toArray, List.getElem?_cons_succ, List.getElem?_cons_zero, Option.getD_some]
       clear hK K))
  refine wpQuiet_nil ?_
  intro wq hCq
  have HKQ : Hid (Keeps (· = mb) w wq) := (HK0.out.weaken (fun _ _ h => h.elim)).trans hCq.1
  have HMQ : Hid (∃ g, MemoF wq d n mb g) := hCq.2
  have HCQ := Lib.hid hCq
  have hqs : w.heap.size ≤ wq.heap.size := HKQ.out.size
  have HSQ : Hid (StAt w.heap.size wq i y.length (d.cn y)) := (HF.out wq hCq).2.2.2
  have HNB : Hid (∀ b, L ≤ b → b ≠ mb ∧ b ≠ hb ∧ b ≠ ob) := fun b hbL => by have := HW.out.lt; dsimp only at this; omega
  have HHQ : Hid (wq.heap[hb]? = some (.cells #[.bool true] 4 (0, 0))) := (HKQ.out.block hb HHL.out (fun e => HW.out.apart.1 e.symm)).trans HH.out
  have HOQ : Hid (wq.heap[ob]? = some (.cells #[ov] 37 (0, 0))) := (HKQ.out.block ob HOL.out (fun e => HW.out.apart.2.1 e.symm)).trans HO.out
  have HOUTQ : Hid (OutIs L wq ov rv ls) := HOUT.out.keep HKQ.out (fun b hb => (HNB.out b (World.ownsRow.lt HOUT.out.1 b hb).1).1) (fun v hv b hb => (HNB.out b (HOUT.out.lt hv hb).1).1)
  have HPQ : Hid (wq.ownsRow L 3 1 pv y.length (intV y)) := ownsRow_blocks HP.out (fun b hb => HKQ.out.block b (World.ownsRow.lt HP.out b hb).2 (HNB.out b (World.ownsRow.lt HP.out b hb).1).1)
  have HWQ : Hid (WB B L wq x (.slice ao n cap) d n ⟨tb, kb, fb, mb, ab, cb, zb, qb, wb, hb, ob⟩ most) := HW.out.keep (HKQ.out.weaken (fun j _ e => .inl e))
  have hempty := natS_empty cnt
  clear hCq
  by_cases hc0 : cnt = 0
  · have HR : Hid (d.run n i y = []) := by
      apply List.eq_nil_of_length_eq_zero
      rw [d.run_length, ← HCN.out, hc0]
    have HEND : Hid (∀ w', Below wq.heap.size wq w' → WalkEnd L ⟨tb, kb, fb, mb, ab, cb, zb, qb, wb, hb, ob⟩ d n most.toNat i y true ls rv ov pv w (.returned (.tuple #[])) w') := fun w' hb' => by
      obtain ⟨g, hg⟩ := HMQ.out
      refine ⟨rfl, (HKQ.out.weaken (fun j _ e => .inl e)).belowS hb', ⟨g, hg.below hb'⟩, ?_, ownsRow_below HPQ.out hb', ov, [], (hb'.block _ (Array.getElem?_eq_some_iff.1 HOQ.out).1).trans HOQ.out, ?_, by simp, fun b h => .inl h⟩
      · rw [HR.out]
        have h1 := HSZ.out.1
        rw [List.length_nil, Nat.add_zero, decide_eq_true h1]
        exact (hb'.block _ (Array.getElem?_eq_some_iff.1 HHQ.out).1).trans HHQ.out
      · rw [List.append_nil, HR.out]
        show OutIs L w' ov rv (ls ++ List.take _ [])
        rw [List.take_nil, List.append_nil]
        exact HOUTQ.out.keep (S := fun _ => False) ⟨hb'.os, hb'.tape, hb'.output, hb'.size, fun j hj _ => hb'.block j hj⟩ (fun _ _ => id) (fun _ _ _ _ => id)
    rw [decide_eq_true hc0] at hempty
    rw [hempty]
    clear hc0 hempty
    go_wp2_with fail
    go_end0
    exact HEND.out _ (Below.refl _ _)
  · rw [decide_eq_false hc0] at hempty
    rw [hempty]
    clear hempty
    obtain ⟨n0, n1, n2, n3, n4, n5, n6, n7, n8, n9, n10, n11, n12, n13⟩ := HSQ.out.all
    have slt := HSQ.out.lt
    have hTT := HWQ.out.tab
    unfold TabC tabA at hTT
    dsimp only at hTT
    obtain ⟨t0, t1, t2, t3, t4, t5, t6, t7, t8, t9, t10, t11, t12, t13⟩ := cells14 hTT
    have tlt := cell_lt t0
    obtain ⟨_, _, hq, hwk⟩ := HWQ.out.cells
    dsimp only [fWalk] at hq hwk
    have qlt := cell_lt hq
    have wlt := cell_lt hwk
    have ho0 : wq.cell? ⟨ob, 0, none⟩ = some ov := by rw [cell_of_row wq ob _ _ _ _ HOQ.out]; rfl
    have olt := cell_lt ho0
    have hof := frozen_of_row wq ob 0 _ _ HOQ.out
    have hh0 : wq.cell? ⟨hb, 0, none⟩ = some (.bool true) := by rw [cell_of_row wq hb _ _ _ _ HHQ.out]; rfl
    have hlt := cell_lt hh0
    have hhf := frozen_of_row wq hb 0 _ _ HHQ.out
    clear hTT
    by_cases hin : i = n
    · have hin' : (i : Int) = n := by omega
      have HR : Hid (d.run n i y = [y]) := by
        subst hin
        have h1 := d.run_length i i y
        show d.run i i y = [y]
        rw [d.run_end] at h1 ⊢
        split
        · rfl
        · rename_i hf
          rw [if_neg hf, ← HCN.out] at h1
          exact absurd h1.symm hc0
      obtain ⟨oo, oc, rfl⟩ := owns_slice HOUTQ.out.1
      have HLEN := Lib.hid HOUTQ.out.2.1
      clear hin
      by_cases hmost : most ≤ (rv.length : Int)
      · have hmost2 : ¬ (rv.length : Int) < most := by omega
        have HEND : Hid (WalkEnd L ⟨tb, kb, fb, mb, ab, cb, zb, qb, wb, hb, ob⟩ d n most.toNat i y true ls rv (.slice oo rv.length oc) pv w (.returned (.tuple #[])) (wq.setCell ⟨hb, 0, none⟩ (.bool false))) := by
          obtain ⟨f, hf⟩ := HMQ.out
          have hap := HW.out.apart
          have hltL := HW.out.lt
          dsimp only at hap hltL
          have hset : ∀ c, c ≠ hb → (wq.setCell ⟨hb, 0, none⟩ (.bool false)).heap[c]? = wq.heap[c]? := fun c hc => heap_setCell_other _ _ _ _ hc
          have h1 := HSZ.out.1
          have h3 := HLEN.out
          have h2 : most.toNat = ls.length := by omega
          refine ⟨rfl, (HKQ.out.weaken (fun j _ e => .inl e)).setCell (fun _ => .inr (.inl rfl)) _, ⟨f, hf.block (hset _ hap.1)⟩, ?_, ownsRow_blocks HPQ.out (fun b hb' => hset b (by have := (World.ownsRow.lt HPQ.out b hb').1; omega)), _, [], (hset _ (fun e => hap.2.2 e.symm)).trans HOQ.out, ?_, by simp, fun b h => .inl h⟩
          · rw [HR.out, List.length_singleton, decide_eq_false (by omega), Bool.and_false]
            exact heap_setCell_same wq _ 0 _ _ _ HHQ.out
          · rw [List.append_nil, HR.out, h2, Nat.sub_self]
            show OutIs L _ _ rv (ls ++ List.take 0 [y])
            rw [List.take_zero, List.append_nil]
            exact HOUTQ.out.keep (S := fun j => j = hb) ⟨rfl, rfl, rfl, by simp [World.setCell], fun j _ hj => hset j hj⟩ (fun b hb' e => by have := (World.ownsRow.lt HOUTQ.out.1 b hb').1; omega) (fun v hv b hb' e => by have := (HOUTQ.out.lt hv hb').1; omega)
        clear hc0
        go_wp2_with fail
        go_end0
        exact HEND.out
      · have hmost2 : (rv.length : Int) < most := by omega
        have HHM := Lib.hid hmost2
        obtain ⟨i2, hi2, hz20, hz21, hz22⟩ := info_parts Tryd.infoRows
        have HI := Lib.hid (And.intro hi2 (And.intro hz20 (And.intro hz21 hz22)))
        have hbig : rv.length ≤ 2 ^ 40 := by have := HSZ.out.2; have h3 := HLEN.out; omega
        clear hc0 hi2 hz20 hz21 hz22
        go_wp2_with fail
        clear t0 t1 t2 t3 t4 t5 t6 t7 t8 t9 t10 t11 t12 t13 n0 n1 n2 n3 n4 n5 n6 n7 n8 n9 n10 n11 n12 n13 hq hwk hh0 hhf
        have HCL : Hid (∀ q, Calls Tryd.prog 41 #[pv] (wq.drewN q) fun e w3 => ∃ a3 c3, e = .returned (.slice a3 y.length c3) ∧ Hid (w3.ownsRow wq.heap.size 3 1 (.slice a3 y.length c3) y.length (intV y)) ∧ Hid (Below wq.heap.size wq w3) ∧ w3.cell? ⟨ob, 0, none⟩ = some (.slice oo rv.length oc) ∧ Hid (w3.ownsRow L 26 1 (.slice oo rv.length oc) rv.length rv) ∧ Hid (L ≤ (w3.alloc (.cells #[.slice a3 y.length c3] 26)).heap.size) ∧ ob < w3.heap.size ∧ Hid ((w3.alloc (.cells #[.slice a3 y.length c3] 26)).cell? ⟨ob, 0, none⟩ = some (.slice oo rv.length oc)) ∧ Hid ((w3.alloc (.cells #[.slice a3 y.length c3] 26)).frozen? ⟨ob, 0, none⟩ = false) ∧ Hid (ob < (w3.alloc (.cells #[.slice a3 y.length c3] 26)).heap.size)) := fun q => by
          refine (qclone_any L pv y (wq.drewN q) HPQ.out (by omega)).mono ?_
          rintro e w3 ⟨v3, rfl, hv3, hb3⟩
          have hb4 : Below wq.heap.size wq w3 := ⟨hb3.os, hb3.tape, hb3.output, hb3.size, hb3.block⟩
          obtain ⟨a3, c3, rfl⟩ := owns_slice hv3
          refine ⟨a3, c3, rfl, hv3, hb4, (hb4.cell (p := ⟨ob, 0, none⟩) olt).trans ho0, ownsRow_below HOUTQ.out.1 hb4, ?_, Nat.lt_of_lt_of_le olt hb4.size, ?_, ?_, ?_⟩
          · have h1 := HWQ.out.hL
            have h2 := hb4.size
            show _ ≤ _
            rw [World.size_alloc]; omega
          · exact (((Below.refl _ _).alloc (Nat.le_refl _) (.cells #[.slice a3 y.length c3] 26)).cell (p := ⟨ob, 0, none⟩) (Nat.lt_of_lt_of_le olt hb4.size)).trans ((hb4.cell (p := ⟨ob, 0, none⟩) olt).trans ho0)
          · exact (((Below.refl _ _).alloc (Nat.le_refl _) (.cells #[.slice a3 y.length c3] 26)).frozen (p := ⟨ob, 0, none⟩) (Nat.lt_of_lt_of_le olt hb4.size)).trans ((hb4.frozen (p := ⟨ob, 0, none⟩) olt).trans hof)
          · have h2 := hb4.size
            show _ < _
            rw [World.size_alloc]; omega
        have HNOB : Hid (some ob ≠ (Value.slice oo rv.length oc).ownBlock) := fun e => by
          have h1 := (World.ownsRow.lt HOUTQ.out.1 ob e.symm).1
          have h2 := HW.out.lt
          dsimp only at h2
          omega
        go_region_law (first
          | (refine step_append_lies _ rfl (.tmp 34) (.tmp 37) 37 rfl L 26 i2 (.slice none 0 0) 1 24 Tryd.underlying37 HI.out.1 HI.out.2.1 HI.out.2.2.1 HI.out.2.2.2 rfl (by decide) (.slice oo rv.length oc) rv.length rv (by simp [Act.eval]) (by exact HO3.out.alloc _) ⟨w3.heap.size, 0, none⟩ 1 1 [.slice a3 y.length c3] (by simp [Act.eval]) rfl (by exact cells_new w3 [.slice a3 y.length c3] 26) (by intro u hu; simp at hu; subst hu; rfl) (by decide) (by unfold maxLen; omega) (by omega) (by exact HL3.out) (w3.heap.size + 1) (by simp) ?_; intro g cap w5 hown5 hgrow5 hat5 hlt5; have o5 : w5.cell? ⟨ob, 0, none⟩ = some (.slice oo rv.length oc) := hgrow5.cell (by exact HA3.out) HNOB.out; have of5 : w5.frozen? ⟨ob, 0, none⟩ = false := (World.frozen?_of_block (hgrow5.block ob (by exact HLA3.out) HNOB.out)).trans (by exact HFA3.out); have olt5 := cell_lt o5)
          | (go_simp; go_at_call 41; refine (HCL.out _).mono ?_; rintro e w3 ⟨a3, c3, rfl, HV3, HB3, o3, HO3, HL3, ol3, HA3, HFA3, HLA3⟩))
        all_goals
          have HG5 := Lib.hid hgrow5
          have HW5 := Lib.hid hown5
          have HT5 := Lib.hid hat5
          clear hgrow5 hown5 hat5 o5 of5 o3
          go_wp2_with fail
          go_end0
          exact walk_end (v3 := .slice a3 y.length c3) (w3 := w3) (o := .cells #[.slice a3 y.length c3] 26) HR.out HWQ.out HKQ.out HMQ.out HHQ.out HOUTQ.out HOQ.out HPQ.out HHM.out HV3.out HB3.out HW5.out ⟨HG5.out.os, HG5.out.tape, HG5.out.output, HG5.out.size, HG5.out.block⟩ (HT5.out.imp id (fun h => by have h2 := HB3.out.size; omega))
    · have hin' : ¬ (i : Int) = n := by omega
      have hlt2 : i < n := by omega
      have HMID0 : Hid (Mid L ⟨tb, kb, fb, mb, ab, cb, zb, qb, wb, hb, ob⟩ d n most.toNat [] y ls rv ov pv wq wq) := by
        refine ⟨Keeps.refl _ _, HMQ.out, ?_, HPQ.out, ov, [], HOQ.out, ?_, by simp, fun b h => .inl h⟩
        · rw [List.length_nil, Nat.add_zero, decide_eq_true HSZ.out.1]; exact HHQ.out
        · rw [List.take_nil, List.append_nil, List.append_nil]; exact HOUTQ.out
      have HSTEP := Lib.hid (d.run_step hlt2 y)
      have HEND : Hid (∀ w', Mid L ⟨tb, kb, fb, mb, ab, cb, zb, qb, wb, hb, ob⟩ d n most.toNat (d.run n i y) y ls rv ov pv wq w' → WalkEnd L ⟨tb, kb, fb, mb, ab, cb, zb, qb, wb, hb, ob⟩ d n most.toNat i y true ls rv ov pv w (.returned (.tuple #[])) w') := fun w' h => by
        obtain ⟨h1, h2, h3, h4, ov', nv, h5, h6, h7, h8⟩ := h
        exact ⟨rfl, (HKQ.out.weaken (fun j _ e => .inl e)).trans h1, h2, h3, h4, ov', nv, h5, h6, fun v hv b hb => Nat.le_trans hqs (h7 v hv b hb), fun b hb => (h8 b hb).imp id (fun h => Nat.le_trans hqs h)⟩
      have HBOX : Hid (∀ R w', Mid L ⟨tb, kb, fb, mb, ab, cb, zb, qb, wb, hb, ob⟩ d n most.toNat R y ls rv ov pv wq w' → StAt w.heap.size w' i y.length (d.cn y)) := fun R w' h => by
        refine (h.1.block _ HSQ.out.lt (fun e => ?_)).trans HSQ.out
        have h1 := HW.out.lt
        have h2 := HW.out.hL
        dsimp only at h1
        rcases e with e | e | e | e | e
        · dsimp only at e; omega
        · dsimp only at e; omega
        · dsimp only at e; omega
        · have := (World.ownsRow.lt HOUT.out.1 _ e).2; omega
        · have := (World.ownsRow.lt HP.out _ e).2; omega
      have HWB : Hid (∀ R w', Mid L ⟨tb, kb, fb, mb, ab, cb, zb, qb, wb, hb, ob⟩ d n most.toNat R y ls rv ov pv wq w' → WB B L w' x (.slice ao n cap) d n ⟨tb, kb, fb, mb, ab, cb, zb, qb, wb, hb, ob⟩ most) := fun R w' h => by
        refine HWQ.out.keep (h.1.weaken (fun j _ e => ?_))
        rcases e with e | e | e | e | e
        · exact .inl e
        · exact .inr (.inl e)
        · exact .inr (.inr (.inl e))
        · exact .inr (.inr (.inr (World.ownsRow.lt HOUTQ.out.1 j e).1))
        · exact .inr (.inr (.inr (World.ownsRow.lt HPQ.out j e).1))
      have HAVQ : Hid (Avoid rv pv.ownBlock) := HAV
      obtain ⟨R1, hR1⟩ : ∃ R1, R1 = (if d.may i y.length (d.cn y) = true then d.run n (i + 1) (y ++ [i]) else []) := ⟨_, rfl⟩
      obtain ⟨R2, hR2⟩ : ∃ R2, R2 = d.run n (i + 1) y := ⟨_, rfl⟩
      rw [← hR1, ← hR2] at HSTEP
      have hsm2 := hsm
      have HSIZE : Hid (ls.length + (R1 ++ R2).length ≤ 2 ^ 40) := by
        have := HSZ.out.2
        rw [HSTEP.out] at this
        exact this
      obtain ⟨a0, a2, a3, a4, a5, a6, a7, a8, a9, a12, kind, size, qs⟩ := x
      have hsz := HWQ.out.ctr.tat.size
      dsimp only at hsz
      subst hsz
      have HADY : Hid (∀ R W, Mid L ⟨tb, kb, fb, mb, ab, cb, zb, qb, wb, hb, ob⟩ d n most.toNat R y ls rv ov pv wq W → Calls Tryd.prog 36 #[.agg (tabA ⟨a0, a2, a3, a4, a5, a6, a7, a8, a9, a12, kind, d.size, qs⟩ (.slice ao n cap)), .agg (stA i y.length (d.cn y)), .bool true] W (AddEnd d i y.length (d.cn y) W)) :=
        fun R W hW => qadd_yes B n _ _ d i y.length (d.cn y) W (HWB.out R W hW).ctr.hBw (HWB.out R W hW).ctr.tat hlt2 (by omega) (by omega) (fun k => by have := d.cn_le y k; omega)
      have HADN : Hid (∀ W, Calls Tryd.prog 36 #[.agg (tabA ⟨a0, a2, a3, a4, a5, a6, a7, a8, a9, a12, kind, d.size, qs⟩ (.slice ao n cap)), .agg (stA i y.length (d.cn y)), .bool false] W fun e w' => e = .returned (.tuple #[.agg (stA (i + 1) y.length (d.cn y)), .bool true]) ∧ Below W.heap.size W w') :=
        fun W => qadd_no _ _ i y.length (d.cn y) W (by omega)
      have HNX2 : Hid (∀ w1, Mid L ⟨tb, kb, fb, mb, ab, cb, zb, qb, wb, hb, ob⟩ d n most.toNat R1 y ls rv ov pv wq w1 → Calls Tryd.prog 40 #[.agg #[.int .i64 ((i : Int) + 1), .int .i64 (y.length : Int), .int .i64 (d.cn y 0 : Int), .int .i64 (d.cn y 1 : Int), .int .i64 (d.cn y 2 : Int), .int .i64 (d.cn y 3 : Int), .int .i64 (d.cn y 4 : Int), .int .i64 (d.cn y 5 : Int), .int .i64 (d.cn y 6 : Int), .int .i64 (d.cn y 7 : Int), .int .i64 (d.cn y 8 : Int), .int .i64 (d.cn y 9 : Int), .int .i64 (d.cn y 10 : Int), .int .i64 (d.cn y 11 : Int)], pv, .pointer (some ⟨hb, 0, none⟩), .pointer (some ⟨cb, 0, none⟩), .pointer (some ⟨zb, 0, none⟩), .pointer (some ⟨ab, 0, none⟩), .pointer (some ⟨ob, 0, none⟩), .pointer (some ⟨qb, 0, none⟩), .pointer (some ⟨wb, 0, none⟩)] w1
          fun e w' => e = .returned (.tuple #[]) ∧ Mid L ⟨tb, kb, fb, mb, ab, cb, zb, qb, wb, hb, ob⟩ d n most.toNat (R1 ++ R2) y ls rv ov pv wq w') := by
        intro w1 hM
        have h := mid_next B L _ _ d n ⟨tb, kb, fb, mb, ab, cb, zb, qb, wb, hb, ob⟩ most (i + 1) (HIH.out hlt2) R1 y y ls rv ov pv pv wq w1 w1 HWQ.out hM HPQ.out HOUTQ.out HAVQ.out HSZ.out.1 (by rw [← hR2]; exact HSIZE.out) (Keeps.refl _ _) ⟨hM.2.2.2.1, hM.2.2.2.1, .inl ⟨rfl, rfl⟩⟩ (pre_no HY.out)
        have e1 : ((i + 1 : Nat) : Int) = (i : Int) + 1 := by omega
        unfold stA at h
        rw [e1, ← hR2] at h
        exact h
      have HNX1 : Hid (d.may i y.length (d.cn y) = true → ∀ (w3 : World) (c' : Nat → Nat) (v5 : Value) (w5 : World), (∀ j, c' j = d.up i (d.cn y) j) → Mid L ⟨tb, kb, fb, mb, ab, cb, zb, qb, wb, hb, ob⟩ d n most.toNat [] y ls rv ov pv wq w3 → Keeps (fun j => pv.ownBlock = some j) w3 w5 → PanRel L w3 w5 pv v5 y (y ++ [i]) → ∀ q, Calls Tryd.prog 40 #[.agg #[.int .i64 ((i : Int) + 1), .int .i64 ((y.length : Int) + 1), .int .i64 (c' 0 : Int), .int .i64 (c' 1 : Int), .int .i64 (c' 2 : Int), .int .i64 (c' 3 : Int), .int .i64 (c' 4 : Int), .int .i64 (c' 5 : Int), .int .i64 (c' 6 : Int), .int .i64 (c' 7 : Int), .int .i64 (c' 8 : Int), .int .i64 (c' 9 : Int), .int .i64 (c' 10 : Int), .int .i64 (c' 11 : Int)], v5, .pointer (some ⟨hb, 0, none⟩), .pointer (some ⟨cb, 0, none⟩), .pointer (some ⟨zb, 0, none⟩), .pointer (some ⟨ab, 0, none⟩), .pointer (some ⟨ob, 0, none⟩), .pointer (some ⟨qb, 0, none⟩), .pointer (some ⟨wb, 0, none⟩)] (w5.drewN q)
          fun e w' => e = .returned (.tuple #[]) ∧ Mid L ⟨tb, kb, fb, mb, ab, cb, zb, qb, wb, hb, ob⟩ d n most.toNat R1 y ls rv ov pv wq w') := by
        intro hmay w3 c' v5 w5 hc hM hk hp q
        rw [if_pos hmay] at hR1
        obtain rfl : c' = d.cn (y ++ [i]) := by funext j; rw [hc j, d.up_cn]
        have h := mid_next B L _ _ d n ⟨tb, kb, fb, mb, ab, cb, zb, qb, wb, hb, ob⟩ most (i + 1) (HIH.out hlt2) [] y (y ++ [i]) ls rv ov pv v5 wq w3 (w5.drewN q) HWQ.out hM HPQ.out HOUTQ.out HAVQ.out HSZ.out.1 (by
          rw [List.nil_append, ← hR1]
          have := HSIZE.out
          rw [List.length_append] at this
          omega) ⟨hk.os, hk.tape, hk.output, hk.size, hk.block⟩ ⟨hp.1, hp.2.1, hp.2.2⟩ (pre_yes HY.out)
        have e1 : ((i + 1 : Nat) : Int) = (i : Int) + 1 := by omega
        have e2 : (((y ++ [i]).length : Nat) : Int) = (y.length : Int) + 1 := by simp
        unfold stA at h
        rw [e1, e2, List.nil_append, ← hR1] at h
        exact h
      obtain ⟨mq, hmq⟩ : ∃ mq, mq = d.may i y.length (d.cn y) := ⟨_, rfl⟩
      have HR1 : Hid (mq = false → R1 = []) := fun h => by rw [hR1, ← hmq, h]; rfl
      rw [← hmq] at HNX1
      have HMQ2 := Lib.hid hmq
      clear hR1 hR2 hmq hc0 HIH
      go_wp2_with fail
      refine (qchoices_any _).mono ?_
      rintro e w2 ⟨rfl, hb⟩
      have HMID := Lib.hid (HMID0.out.below hb)
      clear hb HMID0 t0 t1 t2 t3 t4 t5 t6 t7 t8 t9 t10 t11 t12 t13 n0 n1 n2 n3 n4 n5 n6 n7 n8 n9 n10 n11 n12 n13 slt tlt hq hwk ho0 olt hof hh0 hlt hhf qlt wlt
      go_wp2_with fail
      go_loopw [40] (fun u wr => ∃ r : Nat, r ≤ 2 ∧ u = .int .i64 r ∧ Hid (Mid L ⟨tb, kb, fb, mb, ab, cb, zb, qb, wb, hb, ob⟩ d n most.toNat ((if 1 ≤ r then R1 else []) ++ if 2 ≤ r then R2 else []) y ls rv ov pv wq wr)) (fun u _ => 2 - (intOf u).toNat)
      case atStart => exact ⟨0, Nat.zero_le _, rfl, HMID⟩
      case round =>
        obtain ⟨r, hr, rfl, hMr⟩ := hrel
        have hWr := HWB.out _ wr hMr.out
        have hSr := HBOX.out _ wr hMr.out
        have hTT := hWr.tab
        unfold TabC tabA at hTT
        dsimp only at hTT
        obtain ⟨t0, t1, t2, t3, t4, t5, t6, t7, t8, t9, t10, t11, t12, t13⟩ := cells14 hTT
        have tlt := cell_lt t0
        obtain ⟨n0, n1, n2, n3, n4, n5, n6, n7, n8, n9, n10, n11, n12, n13⟩ := hSr.all
        have slt := hSr.lt
        obtain ⟨_, _, hq, hwk⟩ := hWr.cells
        dsimp only [fWalk] at hq hwk
        have wlt := cell_lt hwk
        have i0 := idx0
        have i1 := idx1
        have HSR := Lib.hid hSr
        have HWR := Lib.hid hWr
        clear hTT hSr hWr hq
        match r, hr with
        | 0, _ =>
          go_wp2_with fail
          refine (HADY.out _ _ hMr.out).mono ?_
          rintro e w3 ⟨⟨c', rfl, hc'⟩, hb3⟩
          rw [← HMQ2.out] at hc' ⊢
          have HM3 := Lib.hid (hMr.out.below hb3)
          have HC' := Lib.hid hc'
          clear t0 t1 t2 t3 t4 t5 t6 t7 t8 t9 t10 t11 t12 t13 n0 n1 n2 n3 n4 n5 n6 n7 n8 n9 n10 n11 n12 n13 slt tlt hb3 hc' hMr hwk wlt
          unfold stA
          cases mq with
          | false =>
            have HM4 : Hid (∀ o, Mid L ⟨tb, kb, fb, mb, ab, cb, zb, qb, wb, hb, ob⟩ d n most.toNat ((if 1 ≤ 1 then R1 else []) ++ if 2 ≤ 1 then R2 else []) y ls rv ov pv wq (w3.alloc o)) := fun o => by
              rw [HR1.out rfl]
              exact HM3.out.below ((Below.refl _ _).alloc (Nat.le_refl _) _)
            go_wp2_with fail
            go_roundw
            case rel => exact ⟨1, by omega, by go_num, HM4.out _⟩
            case measure => simp [intOf]
          | true =>
            have hS3 := HBOX.out _ w3 HM3.out
            have hW3 := HWB.out _ w3 HM3.out
            have q0 := hS3.next
            have qlt := hS3.lt
            obtain ⟨_, _, _, hwk⟩ := hW3.cells
            dsimp only [fWalk] at hwk
            have wlt := cell_lt hwk
            clear hS3 hW3
            go_upto_if 52 with fail
            generalize hW4 : World.alloc _ _ = W4
            have hs4 : W4.heap.size = w3.heap.size + 1 := by rw [← hW4]; simp
            have hS4 : StAt w3.heap.size W4 (i + 1) (y.length + 1) c' := by rw [← hW4]; exact heap_alloc_new w3 _
            have hB4 : Below w3.heap.size w3 W4 := by rw [← hW4]; exact (Below.refl _ _).alloc (Nat.le_refl _) _
            clear hW4
            have q4 := (hB4.cell (p := ⟨w.heap.size, 0, none⟩) qlt).trans q0
            have k4 := (hB4.cell (p := ⟨wb, 0, none⟩) wlt).trans hwk
            have qlt4 := cell_lt q4
            have klt4 := cell_lt k4
            obtain ⟨i3, hi3, hz30, hz31, hz32⟩ := info_parts Tryd.infoI
            have HI := Lib.hid (And.intro hi3 (And.intro hz30 (And.intro hz31 hz32)))
            have hBA : Below W4.heap.size W4 (W4.alloc (.cells #[.int .i64 (i : Int)] 3)) := (Below.refl _ _).alloc (Nat.le_refl _) _
            have HPA : Hid ((W4.alloc (.cells #[.int .i64 (i : Int)] 3)).ownsRow L 3 1 pv y.length (intV y)) := ownsRow_below (ownsRow_below HM3.out.2.2.2.1 hB4) hBA
            have HS4A : Hid (StAt w3.heap.size (W4.alloc (.cells #[.int .i64 (i : Int)] 3)) (i + 1) (y.length + 1) c') := hS4.later hBA hS4.lt
            have HK4A := Lib.hid ((hBA.cell (p := ⟨wb, 0, none⟩) klt4).trans k4)
            have HLTA : Hid (w3.heap.size < (W4.alloc (.cells #[.int .i64 (i : Int)] 3)).heap.size) := by show _ < _; simp; omega
            have HLA : Hid (L ≤ (W4.alloc (.cells #[.int .i64 (i : Int)] 3)).heap.size) := by
              have h1 := (HWB.out _ w3 HM3.out).hL
              show _ ≤ _
              simp; omega
            have hpb := World.ownsRow.lt HM3.out.2.2.2.1
            have HN1 : Hid (some w3.heap.size ≠ pv.ownBlock) := fun e => by have := (hpb _ e.symm).2; omega
            have HN2 : Hid (some wb ≠ pv.ownBlock) := fun e => by
              have h1 := (hpb _ e.symm).1
              have h2 := HW.out.still wb (by simp)
              exact h2 (.inr (.inr (.inr h1)))
            have HKA : Hid (Keeps (fun j => pv.ownBlock = some j) w3 (W4.alloc (.cells #[.int .i64 (i : Int)] 3))) := (Keeps.of_below hB4).belowS hBA
            obtain ⟨m0, m1, m2, m3, m4, m5, m6, m7, m8, m9, m10, m11, m12, m13⟩ := hS4.all
            have mlt := hS4.lt
            have HN3 := Lib.hid (HNX1.out trivial)
            clear hs4 hS4 hB4 hi3 hz30 hz31 hz32 hBA hpb HNX1 HNX2 q0 qlt hwk wlt
            go_wp2_with fail
            go_region_law (first
              | (refine step_append_pan rfl (.tmp 55) (.tmp 58) 26 rfl L 3 i3 (.int .i64 0) 8 Tryd.underlying26 HI.out.1 HI.out.2.1 HI.out.2.2.1 HI.out.2.2.2 rfl pv y.length (intV y) (by simp [Act.eval]) (by exact HPA.out) ⟨W4.heap.size, 0, none⟩ 1 (.int .i64 (i : Int)) (by simp [Act.eval]) (by exact cells_new W4 [.int .i64 (i : Int)] 3) rfl (by unfold maxLen; omega) (by omega) (by exact HLA.out) ?_; intro v5 w5 hown5 hold5 hgrow5 hat5; have hS5 : StAt w3.heap.size w5 (i + 1) (y.length + 1) c' := (hgrow5.block _ (by exact HLTA.out) HN1.out).trans (by exact HS4A.out); obtain ⟨g0, g1, g2, g3, g4, g5, g6, g7, g8, g9, g10, g11, g12, g13⟩ := hS5.all; have k5 := hgrow5.cell (by exact HK4A.out) HN2.out; have lt5a := hS5.lt; have lt5b := cell_lt k5; have HK5 : Hid (Keeps (fun j => pv.ownBlock = some j) w3 w5) := HKA.out.trans ⟨hgrow5.os, hgrow5.tape, hgrow5.output, hgrow5.size, fun j hj hn => hgrow5.block j hj (fun e => hn e.symm)⟩; have HPR : Hid (PanRel L w3 w5 pv v5 y (y ++ [i])) := panrel_of hown5 hold5 hat5 (by exact Nat.le_of_lt HLTA.out); clear hown5 hold5 hgrow5 hat5 hS5)
              | (go_simp; go_at_call 40; (first | (refine (HN3.out w3 c' v5 w5 (HC'.out trivial) HM3.out HK5.out HPR.out 0).mono ?_) | (refine (HN3.out w3 c' v5 w5 (HC'.out trivial) HM3.out HK5.out HPR.out _).mono ?_)); rintro e w6 ⟨rfl, hM6⟩))
            all_goals
              have HM6 : Hid (Mid L ⟨tb, kb, fb, mb, ab, cb, zb, qb, wb, hb, ob⟩ d n most.toNat ((if 1 ≤ 1 then R1 else []) ++ if 2 ≤ 1 then R2 else []) y ls rv ov pv wq w6) := by
                rw [if_pos (Nat.le_refl 1), if_neg (by decide), List.append_nil]
                exact hM6
              clear hM6
              go_wp2_with fail
              go_roundw
              case rel => exact ⟨1, by omega, by go_num, HM6⟩
              case measure => simp [intOf]
        | 1, _ =>
          go_wp2_with fail
          refine (HADN.out _).mono ?_
          rintro e w3 ⟨rfl, hb3⟩
          have HM3 := Lib.hid (hMr.out.below hb3)
          clear t0 t1 t2 t3 t4 t5 t6 t7 t8 t9 t10 t11 t12 t13 n0 n1 n2 n3 n4 n5 n6 n7 n8 n9 n10 n11 n12 n13 slt tlt hb3 hMr hwk wlt
          have hW3 := HWB.out _ w3 HM3.out
          obtain ⟨_, _, _, hwk⟩ := hW3.cells
          dsimp only [fWalk] at hwk
          have wlt := cell_lt hwk
          clear hW3
          unfold stA
          have HM4 : Hid (∀ o, Mid L ⟨tb, kb, fb, mb, ab, cb, zb, qb, wb, hb, ob⟩ d n most.toNat R1 y ls rv ov pv wq (w3.alloc o)) := fun o => by
            have h := HM3.out.below ((Below.refl _ _).alloc (Nat.le_refl _) o)
            simpa using h
          go_wp2_with fail
          refine (HNX2.out _ (HM4.out _)).mono ?_
          rintro e w5 ⟨rfl, hM5⟩
          have HM5 := Lib.hid hM5
          clear hM5 hwk wlt
          go_wp2_with fail
          go_roundw
          case rel => exact ⟨2, by omega, by go_num, HM5⟩
          case measure => simp [intOf]
        | 2, _ =>
          have HFIN := Lib.hid (HEND.out wr (by rw [HSTEP.out]; exact hMr.out))
          clear hMr
          go_wp2_with fail
          go_end0
          exact HFIN.out

end Go.Proofs.YtebigkjilklodaaDoor

/- The program's panels: All, First. -/
namespace Go.Proofs.YtebigkjilklodaaDoor
open Go.RowKit

/-- The search does what it should, from every state. -/
theorem qwalk_any (B L : Nat) (x : DrawC) (ins : Value) (d : PD) (n : Nat) (k : Blk) (most : Int) : ∀ (r i : Nat), n - i = r → i ≤ n → WalkOK B L x ins d n k most i := by
  intro r
  induction r with
  | zero => intro i hr hi; exact qwalk_step B L x ins d n k most i hi (fun h => by omega)
  | succ r ih => intro i hr hi; exact qwalk_step B L x ins d n k most i hi (fun h => ih (i + 1) (by omega) (by omega))

/-- Four new blocks. -/
theorem alloc4 (w : World) (A1 A2 A3 A4 : Array Value) (t1 t2 t3 t4 : TypeId) {W : World} (h : (((w.alloc (.cells A1 t1)).alloc (.cells A2 t2)).alloc (.cells A3 t3)).alloc (.cells A4 t4) = W) :
    W.heap[w.heap.size]? = some (.cells A1 t1 (0, 0)) ∧ W.heap[w.heap.size + 1]? = some (.cells A2 t2 (0, 0)) ∧ W.heap[w.heap.size + 1 + 1]? = some (.cells A3 t3 (0, 0)) ∧ W.heap[w.heap.size + 1 + 1 + 1]? = some (.cells A4 t4 (0, 0)) ∧ Below w.heap.size w W ∧ W.heap.size = w.heap.size + 1 + 1 + 1 + 1 := by
  subst h
  have h1 := heap_alloc_new w (.cells A1 t1)
  have h2 := heap_alloc_new (w.alloc (.cells A1 t1)) (.cells A2 t2)
  have h3 := heap_alloc_new ((w.alloc (.cells A1 t1)).alloc (.cells A2 t2)) (.cells A3 t3)
  have h4 := heap_alloc_new (((w.alloc (.cells A1 t1)).alloc (.cells A2 t2)).alloc (.cells A3 t3)) (.cells A4 t4)
  rw [World.size_alloc] at h2
  rw [World.size_alloc, World.size_alloc] at h3
  rw [World.size_alloc, World.size_alloc, World.size_alloc] at h4
  refine ⟨?_, ?_, ?_, h4, ((((Below.refl _ _).alloc (Nat.le_refl _) _).alloc (by simp only [World.size_alloc]; omega) _).alloc (by simp only [World.size_alloc]; omega) _).alloc (by simp only [World.size_alloc]; omega) _, by simp⟩
  · rw [Below.heap_alloc _ _ _ (by simp only [World.size_alloc]; omega), Below.heap_alloc _ _ _ (by simp only [World.size_alloc]; omega), Below.heap_alloc _ _ _ (by simp only [World.size_alloc]; omega)]; exact h1
  · rw [Below.heap_alloc _ _ _ (by simp only [World.size_alloc]; omega), Below.heap_alloc _ _ _ (by simp only [World.size_alloc]; omega)]; exact h2
  · rw [Below.heap_alloc _ _ _ (by simp only [World.size_alloc]; omega)]; exact h3
/-- A list of lists of numbers, to be read. -/
def RowsAt (B : Nat) (w : World) (v : Value) (ls : List (List Int)) : Prop :=
  ∃ ao cap, v = .slice ao ls.length cap ∧ ∀ j l, ls[j]? = some l → ∃ b off u, ao = some ⟨b, off, none⟩ ∧ b < B ∧ w.cell? ⟨b, off + j, none⟩ = some u ∧ IntsAt B w u l
theorem RowsAt.mono {B B' : Nat} {w w' : World} {v : Value} {ls : List (List Int)} (h : RowsAt B w v ls) (hb : Below B w w') (hB : B ≤ B') : RowsAt B' w' v ls := by
  obtain ⟨ao, cap, rfl, hc⟩ := h
  refine ⟨ao, cap, rfl, fun j l hl => ?_⟩
  obtain ⟨b, off, u, e, hlt, h1, h2⟩ := hc j l hl
  exact ⟨b, off, u, e, by omega, (hb.cell (p := ⟨b, _, none⟩) hlt).trans h1, h2.mono hb hB⟩
theorem RowsAt.nil (B : Nat) (w : World) : RowsAt B w (.slice none 0 0) [] := ⟨none, 0, rfl, fun j l h => by simp at h⟩
theorem intV_ints (x : List Nat) : intV x = (intsOf x).map (Value.int .i64) := by
  unfold intV intsOf; rw [List.map_map]; rfl
theorem RowsAt.of_out {L : Nat} {w : World} {ov : Value} {rv : List Value} {ls : List (List Nat)} (h : OutIs L w ov rv ls) : RowsAt w.heap.size w ov (ls.map intsOf) := by
  have hrow : ∀ j v l, rv[j]? = some v → ls[j]? = some l → IntsAt w.heap.size w v (intsOf l) := fun j v l hj hl => by
    have h1 := h.2.2 j v l hj hl
    rw [intV_ints] at h1
    exact IntsAt.of_owns (base := L) (e := 3) (by rw [intsOf_length]; exact h1)
  have hl := h.2.1
  rcases h.1.2 with ⟨rfl, h0⟩ | ⟨g, cap, cur, rfl, h3⟩
  · have : ls = [] := List.eq_nil_of_length_eq_zero (by omega)
    subst this
    exact RowsAt.nil _ _
  · refine ⟨_, _, by rw [List.length_map, ← hl], fun j l hj => ?_⟩
    rw [List.getElem?_map] at hj
    cases hx : ls[j]? with
    | none => rw [hx] at hj; cases hj
    | some x =>
      rw [hx] at hj
      obtain rfl : intsOf x = l := Option.some.inj hj
      have hjl := (List.getElem?_eq_some_iff.1 hx).1
      have h4 := World.ownsRow.cellAt h.1 j (by omega)
      rw [List.getElem?_eq_getElem (by omega)] at h4
      have hj2 : j < rv.length := by omega
      exact ⟨g, 0, rv[j], rfl, (World.ownsRow.lt h.1 g rfl).2, by rw [Nat.zero_add]; exact h4, hrow j _ x (List.getElem?_eq_getElem hj2) hx⟩

set_option maxHeartbeats 2000000 in
set_option maxRecDepth 100000 in
theorem qAll_any (x : DrawC) (lv : Value) (n m : Nat) (g : Nat → ByteArray) (low high : Nat → Int) (gs : Nat → List ByteArray) (most : Int) (w : World) (h : DrawIn w x lv n m g low high gs) :
    Calls Tryd.prog 15 #[.agg x.arr, lv, .int .i64 most] w fun e w' => ∃ v, e = .returned (.tuple #[v, .bool (decide ((pans x n m g low high gs).length ≤ most.toNat))]) ∧ RowsAt w'.heap.size w' v (((pans x n m g low high gs).take most.toNat).map intsOf) ∧ Below w.heap.size w w' := by
  have HN : Hid (∀ W, Below w.heap.size w W → Calls Tryd.prog 35 #[.agg x.arr, lv] W fun e w' => ∃ ins, e = .returned (.tuple #[.agg (tabA x ins), .bool (decide (okD x n m))]) ∧ FlatV ins ∧ (okD x n m → TabAt w'.heap.size w' x ins (pdOf x.size m g low high gs) n) ∧ Below W.heap.size W w') :=
    fun W hW => qnew_any x lv n m g low high gs W (h.later hW)
  have HX := Lib.hid h.flat
  obtain ⟨x0, x2, x3, x4, x5, x6, x7, x8, x9, x12⟩ := h.flat
  obtain ⟨aq, cq, hqs, _⟩ := h.quo
  clear h
  obtain ⟨a0, a2, a3, a4, a5, a6, a7, a8, a9, a12, kind, size, qs⟩ := x
  dsimp only at x0 x2 x3 x4 x5 x6 x7 x8 x9 x12 hqs
  subst hqs
  have s0 := x0.store
  have s2 := x2.store
  have s3 := x3.store
  have s4 := x4.store
  have s5 := x5.store
  have s6 := x6.store
  have s7 := x7.store
  have s8 := x8.store
  have s9 := x9.store
  have s12 := x12.store
  clear x0 x2 x3 x4 x5 x6 x7 x8 x9 x12
  have hmf : ∀ (fn : Fn) (first cap : Array Value) (w : World), (Instr.makeFunc fn first cap).run Tryd.prog w = .ok (.func fn first cap) w := fun _ _ _ _ => rfl
  have hsf : ∀ (fn : Fn) (first cap : Array Value) (a : Addr) (m : Mode) (w : World), Sem.run Tryd.prog (store a (.func fn first cap) m) w = stored Tryd.prog w a (.func fn first cap) m := fun fn first cap => FlatV.store (v := .func fn first cap) rfl
  unfold DrawC.arr
  dsimp only
  go_enter Tryd.func15, Tryd.ntmps15
  go_wp2_with fail
  generalize hWA : World.alloc _ _ = WA
  have hBA : Below w.heap.size w WA := by rw [← hWA]; exact ((Below.refl _ _).alloc (Nat.le_refl _) _).alloc (by simp) _
  have hQA : WA.heap[w.heap.size + 1]? = some (.cells #[.int .i64 most] 3 (0, 0)) := by
    have := heap_alloc_new (w.alloc (.cells (DrawC.arr ⟨a0, a2, a3, a4, a5, a6, a7, a8, a9, a12, kind, size, .slice aq m cq⟩) 33)) (.cells #[.int .i64 most] 3)
    rw [World.size_alloc] at this
    rw [← hWA]; exact this
  clear hWA
  refine (HN.out _ hBA).mono ?_
  rintro e w1 ⟨ins, rfl, hins, ht, hb⟩
  have s13 := hins.store
  have HB1 := Lib.hid (hBA.trans (hb.mono hBA.size))
  have HQ1 := Lib.hid ((hb.block _ (Array.getElem?_eq_some_iff.1 hQA).1).trans hQA)
  have HT := Lib.hid ht
  clear hb ht hins hBA hQA
  by_cases hok : okD ⟨a0, a2, a3, a4, a5, a6, a7, a8, a9, a12, kind, size, .slice aq m cq⟩ n m
  · have HV : Hid (pans ⟨a0, a2, a3, a4, a5, a6, a7, a8, a9, a12, kind, size, .slice aq m cq⟩ n m g low high gs = (pdOf size m g low high gs).all n) := if_pos hok
    have ht2 := HT.out hok
    rw [decide_eq_true hok]
    obtain ⟨hk3, hn40, hm12, hs0, hsn⟩ := hok
    dsimp only at hs0 hsn
    have HTT := Lib.hid ht2
    clear ht2 HT
    have HCT : Hid (∀ W, Below w1.heap.size w1 W → Calls Tryd.prog 39 #[.agg (tabA ⟨a0, a2, a3, a4, a5, a6, a7, a8, a9, a12, kind, size, .slice aq m cq⟩ ins)] W fun e w' => ∃ tb kb fb mb, e = .returned (.func (.func 57) #[] #[.pointer (some ⟨tb, 0, none⟩), .pointer (some ⟨kb, 0, none⟩), .pointer (some ⟨fb, 0, none⟩)]) ∧
      CtrB w1.heap.size w' ⟨a0, a2, a3, a4, a5, a6, a7, a8, a9, a12, kind, size, .slice aq m cq⟩ ins (pdOf size m g low high gs) n tb kb fb mb ∧ MemoF w' (pdOf size m g low high gs) n mb (fun _ => none) ∧ W.heap.size ≤ mb ∧ Below W.heap.size W w') :=
      fun W hW => qcounter_any w1.heap.size _ ins _ n W HX.out hW.size (HTT.out.mono hW (Nat.le_refl _)) hn40 hs0 hsn
    clear hn40 hs0 hsn hk3 hm12
    unfold tabA
    dsimp only
    go_wp2_with fail
    generalize hWB : World.alloc _ _ = WB1
    have hsB : WB1.heap.size = w1.heap.size + 1 := by rw [← hWB]; simp
    have hBB : Below w1.heap.size w1 WB1 := by rw [← hWB]; exact (Below.refl _ _).alloc (Nat.le_refl _) _
    have hTB : TabC w1.heap.size WB1 ⟨a0, a2, a3, a4, a5, a6, a7, a8, a9, a12, kind, size, .slice aq m cq⟩ ins := by rw [← hWB]; exact heap_alloc_new w1 _
    clear hWB
    refine (HCT.out _ hBB).mono ?_
    rintro e w2 ⟨tb, kb, fb, mb, rfl, hcb, hm, hmb, hb2⟩
    have HF2 := Lib.hid (And.intro hsB (And.intro hBB (And.intro hTB (And.intro hcb (And.intro hm (And.intro hmb hb2))))))
    clear hsB hBB hTB hcb hm hmb hb2 HCT
    go_wp2_with fail
    generalize hWC : World.alloc _ _ = WC
    have hsC : WC.heap.size = w2.heap.size + 1 := by rw [← hWC]; simp
    have hBC : Below w2.heap.size w2 WC := by rw [← hWC]; exact (Below.refl _ _).alloc (Nat.le_refl _) _
    have hCC : WC.heap[w2.heap.size]? = some (.cells #[.func (.func 57) #[] #[.pointer (some ⟨tb, 0, none⟩), .pointer (some ⟨kb, 0, none⟩), .pointer (some ⟨fb, 0, none⟩)]] 94 (0, 0)) := by rw [← hWC]; exact heap_alloc_new w2 _
    clear hWC
    refine (pOf_any 0 _ (by decide)).mono ?_
    rintro e w3 ⟨rfl, hb3⟩
    have HF3 := Lib.hid (And.intro hsC (And.intro hBC (And.intro hCC hb3)))
    clear hsC hBC hCC hb3
    rw [show (0 : Int).toNat = 0 from rfl, natS_zero]
    go_wp2_with fail
    generalize hWD : World.alloc _ _ = WD
    obtain ⟨hz, ho, hh, hw, hBD, hsD⟩ := alloc4 _ _ _ _ _ _ _ _ _ hWD
    clear hWD
    obtain ⟨hsB, hBB, hTB, hcb, hm, hmb, hb2⟩ := HF2.out
    obtain ⟨hsC, hBC, hCC, hb3⟩ := HF3.out
    have hz2 := hb2.size
    have hz3 := hb3.size
    have hz1 := HB1.out.size
    have hmlt := hm.lt
    have hq1lt := (Array.getElem?_eq_some_iff.1 HQ1.out).1
    have htlt := hcb.tab.lt
    have hklt := (Array.getElem?_eq_some_iff.1 hcb.kcell).1
    have hflt := (Array.getElem?_eq_some_iff.1 hcb.fcell).1
    have h2D : Below w2.heap.size w2 WD := (hBC.trans (hb3.mono (by omega))).trans (hBD.mono (by omega))
    have hBD2 : Below WB1.heap.size WB1 WD := hb2.trans (h2D.mono hz2)
    have hwD : Below w.heap.size w WD := HB1.out.trans ((hBB.trans (hBD2.mono (by omega))).mono hz1)
    obtain ⟨k, hk⟩ : ∃ k : Blk, k = ⟨tb, kb, fb, mb, w1.heap.size, w2.heap.size, w3.heap.size, w.heap.size + 1, w3.heap.size + 1 + 1 + 1, w3.heap.size + 1 + 1, w3.heap.size + 1⟩ := ⟨_, rfl⟩
    have hWB : WB w1.heap.size WD.heap.size WD ⟨a0, a2, a3, a4, a5, a6, a7, a8, a9, a12, kind, size, .slice aq m cq⟩ ins (pdOf size m g low high gs) n k most := by
      subst hk
      refine ⟨?_, ?_, ?_, hz, ?_, hw, Nat.le_refl _, ⟨by show mb < _; omega, by show w3.heap.size + 1 + 1 < _; omega, by show w3.heap.size + 1 < _; omega⟩, ⟨by show ¬ w3.heap.size + 1 + 1 < _; omega, by show ¬ w3.heap.size + 1 < _; omega, by omega⟩, ?_, ⟨by show mb ≠ w3.heap.size + 1 + 1; omega, by show mb ≠ w3.heap.size + 1; omega, by show w3.heap.size + 1 + 1 ≠ w3.heap.size + 1; omega⟩⟩
      · exact hcb.keepS (S := fun _ => False) ⟨h2D.os, h2D.tape, h2D.output, h2D.size, fun j hj _ => h2D.block j hj⟩ (fun _ _ => id)
      · exact hTB.later hBD2 (by show w1.heap.size < _; omega)
      · exact (hBD.block w2.heap.size (by omega)).trans ((hb3.block w2.heap.size (by omega)).trans hCC)
      · exact (((hBB.trans (hBD2.mono (by omega))).block (w.heap.size + 1) (by omega)).trans HQ1.out)
      · intro j hj
        have h1 := hcb.htb
        have h2 := hcb.hkb
        have h3 := hcb.hfb
        dsimp only at hj
        unfold Dy
        dsimp only
        omega
    have hMD : MemoF WD (pdOf size m g low high gs) n k.mb (fun _ => none) := by subst hk; exact hm.below h2D
    have hlen : ((pdOf size m g low high gs).all n).length ≤ 2 ^ 40 := Nat.le_trans ((pdOf size m g low high gs).go_length n 0 []) (Nat.pow_le_pow_right (by decide) hcb.small)
    have HCALL := Lib.hid (qwalk_any w1.heap.size WD.heap.size _ ins (pdOf size m g low high gs) n k most n 0 (by omega) (Nat.zero_le _) [] (.slice none 0 0) [] [] (.slice none 0 0) WD (by simp [pre]) hWB ⟨_, hMD⟩ (by subst hk; exact hh) (by subst hk; exact ho) (OutIs.nil _ _) (World.ownsRow_nil _ _ _ _) (fun v hv => by simp at hv) (Nat.zero_le _) (by rw [PD.run_all]; simpa using hlen))
    have HWD := Lib.hid hwD
    have HKK : Hid (w.heap.size ≤ k.mb ∧ w.heap.size ≤ k.hb ∧ w.heap.size ≤ k.ob) := by subst hk; exact ⟨by show w.heap.size ≤ mb; omega, by show w.heap.size ≤ w3.heap.size + 1 + 1; omega, by show w.heap.size ≤ w3.heap.size + 1; omega⟩
    have hhb : k.hb = w3.heap.size + 1 + 1 := by rw [hk]
    have hob : k.ob = w3.heap.size + 1 := by rw [hk]
    have HHB := Lib.hid (And.intro hhb hob)
    have HCALL2 : Hid (Calls Tryd.prog 40 #[.agg (stA 0 0 (fun _ => 0)), .slice none 0 0, .pointer (some ⟨w3.heap.size + 1 + 1, 0, none⟩), .pointer (some ⟨w2.heap.size, 0, none⟩), .pointer (some ⟨w3.heap.size, 0, none⟩), .pointer (some ⟨w1.heap.size, 0, none⟩), .pointer (some ⟨w3.heap.size + 1, 0, none⟩), .pointer (some ⟨w.heap.size + 1, 0, none⟩), .pointer (some ⟨w3.heap.size + 1 + 1 + 1, 0, none⟩)] WD
      (WalkEnd WD.heap.size k (pdOf size m g low high gs) n most.toNat 0 [] true [] [] (.slice none 0 0) (.slice none 0 0) WD)) := by
      have h := HCALL.out
      subst hk
      exact h
    clear hz ho hh hw hBD hsD hsB hBB hTB hcb hm hmb hb2 hsC hBC hCC hb3 hz2 hz3 hz1 hmlt hq1lt htlt hklt hflt h2D hBD2 hwD hWB hMD hlen hk hhb hob HCALL
    refine HCALL2.out.mono ?_
    rintro e w6 ⟨rfl, g1, _, g3, _, ov', nv, g5, g6, _, _⟩
    rw [HHB.out.1] at g3
    rw [HHB.out.2] at g5
    have hBF : Below w.heap.size w w6 := HWD.out.trans ⟨g1.os, g1.tape, g1.output, g1.size, fun j hj => g1.block j (by have := HWD.out.size; omega) (fun e => by
      have h1 := HKK.out
      rcases e with e | e | e | e | e
      · omega
      · omega
      · omega
      · cases e
      · cases e)⟩
    have hRows := RowsAt.of_out g6
    rw [List.nil_append, if_pos rfl, PD.run_all, List.length_nil, Nat.sub_zero] at hRows
    rw [PD.run_all, List.length_nil, Nat.zero_add, Bool.true_and] at g3
    have HROWS := Lib.hid hRows
    have HBF := Lib.hid hBF
    have c1 : w6.cell? ⟨w3.heap.size + 1 + 1, 0, none⟩ = some (.bool (decide (((pdOf size m g low high gs).all n).length ≤ most.toNat))) := by rw [cell_of_row w6 _ _ _ _ _ g3]; rfl
    have c2 : w6.cell? ⟨w3.heap.size + 1, 0, none⟩ = some ov' := by rw [cell_of_row w6 _ _ _ _ _ g5]; rfl
    obtain ⟨wh, hwh⟩ : ∃ wh, wh = decide (((pdOf size m g low high gs).all n).length ≤ most.toNat) := ⟨_, rfl⟩
    rw [← hwh] at c1
    have HWH := Lib.hid hwh
    have l1 := cell_lt c1
    have l2 := cell_lt c2
    clear g1 g3 g5 g6 hBF hRows hwh
    go_wp2_with fail
    refine wp_region_class (Kept _) (by kernel_rfl) (by kernel_rfl) (Kept.drew _) ?_
    repeat (first
      | go_big_quiet_skip
      | (refine BigFrame.wpQuiet_want (by rfl) (fun K hK => ?_)
         first
           | (refine BigFrame.quiet_move _ rfl ?_; refine hK _ ?_)
           | (refine BigFrame.quiet_assign _ rfl ?_; refine hK _ ?_)
           | (apply Exists.intro; refine ⟨fun w' hC => ?_, hK _ ?_⟩
              · (obtain ⟨hcl, hfr⟩ := bcell hC.1; unfold Oper.quietAt; go_simp; first | rfl | fail))
         simp only [Act.put, Act.eval, List.setIfInBounds_toArray, List.set_cons_zero, List.set_cons_succ, Array.getD_eq_getD_getElem?, List.getElem?_toArray, List.getElem?_cons_succ, List.getElem?_cons_zero, Option.getD_some]
         clear hK K))
    refine wpQuiet_nil ?_
    intro wq hCq
    have HK7 := Lib.hid hCq.1
    clear hCq c1 c2
    go_wp2_with fail
    refine bodyPost_ret (v := .tuple #[ov', .bool wh]) (by simp [results, Tryd.results15, go_sem]) rfl ⟨ov', by rw [HV.out, HWH.out], ?_, HBF.out.trans (HK7.out.mono HBF.out.size)⟩
    rw [HV.out]
    exact HROWS.out.mono HK7.out HK7.out.size
  · have HV : Hid (pans ⟨a0, a2, a3, a4, a5, a6, a7, a8, a9, a12, kind, size, .slice aq m cq⟩ n m g low high gs = []) := if_neg hok
    rw [decide_eq_false hok]
    unfold tabA
    dsimp only
    clear hok HT
    go_wp2_with fail
    refine bodyPost_ret (v := .tuple #[.slice none 0 0, .bool true]) (by simp [results, Tryd.results15, go_sem]) rfl ⟨.slice none 0 0, by rw [HV.out]; simp, ?_, HB1.out.alloc HB1.out.size _⟩
    rw [HV.out, List.take_nil]
    exact RowsAt.nil _ _

end Go.Proofs.YtebigkjilklodaaDoor

/- The program's panels: First. -/
namespace Go.Proofs.YtebigkjilklodaaDoor
open Go.RowKit

/-- The first panel. -/
def firstOf (ps : List (List Nat)) : List Int := (ps.map intsOf).headD []

set_option maxHeartbeats 1000000 in
set_option maxRecDepth 100000 in
theorem qFirst_any (x : DrawC) (lv : Value) (n m : Nat) (g : Nat → ByteArray) (low high : Nat → Int) (gs : Nat → List ByteArray) (w : World) (h : DrawIn w x lv n m g low high gs) :
    Calls Tryd.prog 16 #[.agg x.arr, lv] w fun e w' => ∃ v, e = .returned (.tuple #[v, .bool (!(pans x n m g low high gs).isEmpty)]) ∧ IntsAt w'.heap.size w' v (firstOf (pans x n m g low high gs)) ∧ Below w.heap.size w w' := by
  have HALL : Hid (∀ W, Below w.heap.size w W → Calls Tryd.prog 15 #[.agg x.arr, lv, .int .i64 1] W fun e w' => ∃ v, e = .returned (.tuple #[v, .bool (decide ((pans x n m g low high gs).length ≤ 1))]) ∧ RowsAt w'.heap.size w' v (((pans x n m g low high gs).take 1).map intsOf) ∧ Below W.heap.size W w') :=
    fun W hW => qAll_any x lv n m g low high gs 1 W (h.later hW)
  clear h
  obtain ⟨ps, hps⟩ : ∃ ps, ps = pans x n m g low high gs := ⟨_, rfl⟩
  rw [← hps] at HALL ⊢
  clear hps
  obtain ⟨a0, a2, a3, a4, a5, a6, a7, a8, a9, a12, kind, size, qs⟩ := x
  unfold DrawC.arr at *
  dsimp only at *
  go_enter Tryd.func16, Tryd.ntmps16
  go_wp2_with fail
  refine (HALL.out _ ((Below.refl _ _).alloc (Nat.le_refl _) _)).mono ?_
  rintro e w1 ⟨v, rfl, hr, hb⟩
  have HB1 := Lib.hid (((Below.refl w.heap.size w).alloc (Nat.le_refl _) (.cells #[a0, .int .i64 kind, a2, a3, a4, a5, a6, a7, a8, a9, .int .i64 size, qs, a12] 33)).trans (hb.mono (by simp)))
  clear hb
  cases ps with
  | nil =>
    obtain ⟨ao, cap, rfl, _⟩ := hr
    simp only [List.take_nil, List.map_nil, List.length_nil]
    go_wp2_with fail
    exact bodyPost_ret (v := .tuple #[.slice none 0 0, .bool false]) (by simp [results, Tryd.results16, go_sem]) rfl ⟨.slice none 0 0, rfl, RowAt.nil _ _, HB1.out⟩
  | cons p l =>
    obtain ⟨ao, cap, rfl, hc⟩ := hr
    obtain ⟨b, off, u, rfl, hlt, hcell, hu⟩ := hc 0 (intsOf p) rfl
    have HU := Lib.hid hu
    rw [show (((p :: l).take 1).map intsOf).length = 1 from rfl]
    clear hc hu
    have hlt2 := cell_lt hcell
    have hcell' : w1.cell? ⟨b, off, none⟩ = some u := hcell
    go_wp2_with fail
    exact bodyPost_ret (v := .tuple #[u, .bool true]) (by simp [results, Tryd.results16, go_sem]) rfl ⟨u, rfl, HU.out, HB1.out⟩

end Go.Proofs.YtebigkjilklodaaDoor

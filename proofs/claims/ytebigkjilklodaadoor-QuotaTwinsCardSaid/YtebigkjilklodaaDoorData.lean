/- How lists lie in memory, and what a call leaves as it was: plain facts on worlds, no program in sight. -/
import Derived.WalkKit
import Derived.WalkSpells
import Derived.WalkLawsBesides
import Derived.Deep.QuietTactic
import Derived.BigQuiet
import Derived.Lib.Hide
import Derived.Maps.AppendAt
set_option linter.unusedVariables false
set_option linter.unusedSimpArgs false
namespace Go.Proofs.YtebigkjilklodaaDoor
open Go.RowKit

theorem ret_int {k : IntKind} {a b : Int} (h : a = b) : Ending.returned (.int k a) = .returned (.int k b) := by rw [h]
theorem ret_bool {a b : Bool} (h : a = b) : Ending.returned (.bool a) = .returned (.bool b) := by rw [h]

/-- Nothing but the count of answers has changed. -/
def Drew (w w' : World) : Prop := ∃ n, w' = w.drewN n
theorem Drew.refl (w : World) : Drew w w := ⟨0, rfl⟩
theorem Drew.same {w w' : World} (h : w = w') : Drew w w' := ⟨0, h.symm⟩
theorem Drew.trans {a b c : World} (h : Drew a b) (k : Drew b c) : Drew a c := by
  obtain ⟨n, rfl⟩ := h; obtain ⟨m, rfl⟩ := k; exact ⟨n + m, World.drewN_drewN ..⟩
theorem Drew.n (w : World) (n : Nat) : Drew w (w.drewN n) := ⟨n, rfl⟩
theorem Drew.drewN {a b : World} (h : Drew a b) (n : Nat) : Drew a (b.drewN n) := h.trans (Drew.n _ _)
theorem Drew.drew {a b : World} (h : Drew a b) : Drew a b.drew := h.trans (Drew.n _ 1)
theorem Drew.heap {w w' : World} (h : Drew w w') : w'.heap = w.heap := by obtain ⟨n, rfl⟩ := h; rfl
theorem Drew.cell {w w' : World} (h : Drew w w') (a : Addr) : w'.cell? a = w.cell? a := by obtain ⟨n, rfl⟩ := h; rfl
theorem Drew.below {w w' : World} (h : Drew w w') (B : Nat) : Below B w w' := by obtain ⟨n, rfl⟩ := h; exact below_drewN (Below.refl _ _) n
theorem quiet_again {P : Program} {f : FuncId} {args : Array Value} {w : World} {a n : Nat} {v : Value}
    (h : Calls P f args (w.drewN (a + n)) fun e w' => e = .returned v ∧ Drew (w.drewN (a + n)) w') :
    Calls P f args (w.drewN (a + n)) fun e w'' => e = .returned v ∧ ∃ m, w'' = w.drewN (a + m) :=
  h.mono fun _ _ ⟨he, m, hm⟩ => ⟨he, n + m, by rw [hm, World.drewN_drewN, Nat.add_assoc]⟩
theorem quiet_again_same {P : Program} {f : FuncId} {args : Array Value} {w : World} {a n : Nat} {v : Value}
    (h : Calls P f args (w.drewN (a + n)) fun e w' => e = .returned v ∧ w' = w.drewN (a + n)) :
    Calls P f args (w.drewN (a + n)) fun e w'' => e = .returned v ∧ ∃ m, w'' = w.drewN (a + m) :=
  h.mono fun _ _ ⟨he, hm⟩ => ⟨he, n, hm⟩
theorem bl_drews {B : Nat} {a w w' : World} (h : Below B a w) (k : Drew w w') : Below B a w' := h.trans (k.below B)
theorem bcell {B : Nat} {W w1 : World} (hb : Below B W w1) : (∀ b o, b < B → w1.cell? ⟨b, o, none⟩ = W.cell? ⟨b, o, none⟩) ∧ (∀ b o, b < B → w1.frozen? ⟨b, o, none⟩ = W.frozen? ⟨b, o, none⟩) :=
  ⟨fun b o h => hb.cell (p := ⟨b, o, none⟩) h, fun b o h => hb.frozen (p := ⟨b, o, none⟩) h⟩
theorem cell_lt {w : World} {b o : Nat} {s : Option Nat} {v : Value} (h : w.cell? ⟨b, o, s⟩ = some v) : b < w.heap.size := World.block_lt_of_cell? w _ h

/-- The cells at an address read as xs; all of them in blocks below B. -/
def CellsAt (B : Nat) (w : World) (ao : Option Addr) (xs : List Value) : Prop :=
  ∀ j u, xs[j]? = some u → ∃ b off, ao = some ⟨b, off, none⟩ ∧ b < B ∧ w.cell? ⟨b, off + j, none⟩ = some u
/-- v is a slice of n elements that reads as xs. -/
def RowAt (B : Nat) (w : World) (v : Value) (n : Nat) (xs : List Value) : Prop :=
  ∃ ao cap, v = .slice ao n cap ∧ CellsAt B w ao xs
/-- v is a slice of ints that reads as l. -/
def IntsAt (B : Nat) (w : World) (v : Value) (l : List Int) : Prop := RowAt B w v l.length (l.map (Value.int .i64))

theorem CellsAt.mono {B B' : Nat} {w w' : World} {ao : Option Addr} {xs : List Value} (h : CellsAt B w ao xs) (hb : Below B w w') (hB : B ≤ B') : CellsAt B' w' ao xs := by
  intro j u hu
  obtain ⟨b, off, rfl, hlt, hc⟩ := h j u hu
  exact ⟨b, off, rfl, Nat.lt_of_lt_of_le hlt hB, (hb.cell (p := ⟨b, off + j, none⟩) hlt).trans hc⟩
theorem RowAt.mono {B B' : Nat} {w w' : World} {v : Value} {n : Nat} {xs : List Value} (h : RowAt B w v n xs) (hb : Below B w w') (hB : B ≤ B') : RowAt B' w' v n xs := by
  obtain ⟨ao, cap, rfl, hc⟩ := h; exact ⟨ao, cap, rfl, hc.mono hb hB⟩
theorem IntsAt.mono {B B' : Nat} {w w' : World} {v : Value} {l : List Int} (h : IntsAt B w v l) (hb : Below B w w') (hB : B ≤ B') : IntsAt B' w' v l := RowAt.mono h hb hB
theorem RowAt.nil (B : Nat) (w : World) : RowAt B w (.slice none 0 0) 0 [] := ⟨none, 0, rfl, fun j u h => by simp at h⟩
theorem RowAt.of_owns {base : Nat} {e : TypeId} {size : Nat} {w : World} {v : Value} {n : Nat} {xs : List Value} (h : w.ownsRow base e size v n xs) : RowAt w.heap.size w v n xs := by
  rcases h.2 with ⟨rfl, rfl⟩ | ⟨g, cap, cur, rfl, hb, hg, h1, h2, h3, h4⟩
  · have : xs = [] := List.eq_nil_of_length_eq_zero (by simpa using h.1)
    subst this; exact RowAt.nil _ _
  · refine ⟨_, _, rfl, fun j u hu => ⟨g, 0, rfl, (Array.getElem?_eq_some_iff.1 hg).1, ?_⟩⟩
    have := h.cells (g := g) rfl j u hu
    rw [Nat.zero_add]
    have hadd : (⟨g, 0, none⟩ : Addr).add j = ⟨g, j, none⟩ := by unfold Addr.add; split <;> simp_all
    rwa [hadd] at this
theorem IntsAt.of_owns {base : Nat} {e : TypeId} {w : World} {v : Value} {l : List Int} (h : w.ownsRow base e 1 v l.length (l.map (Value.int .i64))) : IntsAt w.heap.size w v l := RowAt.of_owns h
theorem IntsAt.new (w : World) (l : List Int) (t : TypeId) (cap : Nat) : IntsAt (w.alloc (.cells (l.map (Value.int .i64)).toArray t)).heap.size (w.alloc (.cells (l.map (Value.int .i64)).toArray t)) (.slice (some ⟨w.heap.size, 0, none⟩) l.length cap) l := by
  refine ⟨_, _, rfl, fun j u hu => ⟨w.heap.size, 0, rfl, by simp, ?_⟩⟩
  rw [World.cell?_alloc_at _ _ _ _ rfl]
  simpa using hu
/-- What the walk wants of a slice of ints: its one form, and each cell under its condition. -/
theorem IntsAt.open {B : Nat} {w : World} {v : Value} {l : List Int} (h : IntsAt B w v l) :
    ∃ ao cap, v = .slice ao l.length cap ∧ ∀ i, i < l.length → ∃ b off, ao = some ⟨b, off, none⟩ ∧ b < B ∧ w.cell? ⟨b, off + i, none⟩ = some (.int .i64 (l[i]?.getD 0)) := by
  obtain ⟨ao, cap, rfl, hc⟩ := h
  refine ⟨ao, cap, rfl, fun i hi => ?_⟩
  obtain ⟨b, off, rfl, hlt, hcell⟩ := hc i (.int .i64 l[i]) (by simp [List.getElem?_eq_getElem hi])
  exact ⟨b, off, rfl, hlt, by rw [hcell, List.getElem?_eq_getElem hi]; rfl⟩

/-- The cells of a block that has just been laid. -/
theorem cells_new (w : World) (xs : List Value) (t : TypeId) : ∀ j u, xs[j]? = some u → (w.alloc (.cells xs.toArray t)).cell? ((⟨w.heap.size, 0, none⟩ : Addr).add j) = some u := by
  intro j u hu
  have hadd : (⟨w.heap.size, 0, none⟩ : Addr).add j = ⟨w.heap.size, j, none⟩ := by unfold Addr.add; split <;> simp_all
  rw [hadd, World.cell?_alloc_at _ _ _ _ rfl]
  simpa using hu
theorem owns_form {base : Nat} {e : TypeId} {size : Nat} {w : World} {v : Value} {n : Nat} {xs : List Value} (h : w.ownsRow base e size v (n + 1) xs) : ∃ g cap, v = .slice (some ⟨g, 0, none⟩) (n + 1) cap ∧ base ≤ g ∧ g < w.heap.size := by
  rcases h.2 with ⟨_, r⟩ | ⟨g, cap, cur, rfl, hb, hg, _⟩
  · omega
  · exact ⟨g, cap, rfl, hb, (Array.getElem?_eq_some_iff.1 hg).1⟩

theorem add_block (a : Addr) (j : Nat) : (a.add j).block = a.block := by unfold Addr.add; split <;> rfl
theorem add_flat (b off j : Nat) : (⟨b, off, none⟩ : Addr).add j = ⟨b, off + j, none⟩ := by unfold Addr.add; split <;> simp_all
theorem ints_one (l : List Int) : ∀ u ∈ l.map (Value.int .i64), u.oneCell' = true := by
  intro u hu
  obtain ⟨x, _, rfl⟩ := List.mem_map.1 hu
  rfl
/-- Two slices that do not lie in one row. -/
def Apart (v r : Value) : Prop := ∀ g, v.ownBlock = some g → r.ownBlock = some g → False
theorem Apart.symm {v r : Value} (h : Apart v r) : Apart r v := fun g h1 h2 => h g h2 h1
theorem Apart.nil (v : Value) : Apart (.slice none 0 0) v := fun g h => by simp [Value.ownBlock] at h
theorem Apart.ne {v r : Value} (h : Apart v r) : v.ownBlock = none ∨ v.ownBlock ≠ r.ownBlock := by
  cases hv : v.ownBlock with
  | none => exact .inl rfl
  | some g => exact .inr fun e => h g hv e.symm
theorem Apart.grow {v v' r : Value} {N : Nat} (h : Apart v r) (hat : v'.ownBlock = v.ownBlock ∨ v'.ownBlock = some N) (hr : ∀ k, r.ownBlock = some k → k < N) : Apart v' r := by
  intro g h1 h2
  rcases hat with e | e
  · exact h g (e ▸ h1) h2
  · rw [e] at h1; have := hr g h2; simp at h1; omega

theorem map_snoc_get {α β : Type} (f : α → β) {l : List α} {k : Nat} {x : α} (h : l.length = k) : ((l ++ [x]).map f)[k]? = some (f x) := by
  subst h; simp
theorem take_eq_succ {α : Type} {l1 l2 : List α} {k : Nat} (h : l1.take k = l2.take k) (h1 : k < l1.length) (h2 : k < l2.length) (he : l1[k] = l2[k]) : l1.take (k + 1) = l2.take (k + 1) := by
  rw [List.take_add_one, List.take_add_one, h, List.getElem?_eq_getElem h1, List.getElem?_eq_getElem h2, he]

end Go.Proofs.YtebigkjilklodaaDoor

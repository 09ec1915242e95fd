/- A map from strings to ints, said as a function: look-ups, stores, deletions. -/
import Derived.Test.YtkimcopmfhjjcaaName
import Derived.Maps.OwnSet
import Derived.Maps.OwnOps
namespace Go.Proofs.Ytkimcopmfhjjcaa
open Go.RowKit Go.Maps Go.WideMaps

theorem ba_ext {a b : ByteArray} (h : a.data.toList = b.data.toList) : a = b := by
  cases a; cases b; congr 1; exact Array.toList_inj.1 h
theorem strLaw : Keyed Try.prog 9 := string_keyed Try.underlying9
theorem zeroInt (w : World) : (zeroValue 3).run Try.prog w = .ok (.int .i64 0) w := by kernel_rfl

def lk (s : ByteArray) : Lit := .string s.data.toList
theorem lk_inj {a b : ByteArray} (h : lk a = lk b) : a = b := ba_ext (by simpa [lk] using h)
theorem lk_key (s : ByteArray) : WideAt.IsKeyLit (lk s) := trivial

/-- Block b is a map of at most n entries: what it says of each string. -/
def IMap (w : World) (b n : Nat) (f : ByteArray → Option Int) : Prop :=
  ∃ D : DataW Unit, w.ownsMap Try.prog 9 (plainElem Try.prog 3) b n D ∧
    ∀ s : ByteArray, Maps.has D (lk s) = (f s).isSome ∧ D.atKey (lk s) (.lit (.int .i64 0)) = .lit (.int .i64 ((f s).getD 0))

theorem IMap.lt {w : World} {b n : Nat} {f : ByteArray → Option Int} (h : IMap w b n f) : b < w.heap.size := by obtain ⟨D, h, _⟩ := h; exact h.lt
theorem IMap.mono {w : World} {b n m : Nat} {f : ByteArray → Option Int} (h : IMap w b n f) (hm : n ≤ m) : IMap w b m f := by obtain ⟨D, h, r⟩ := h; exact ⟨D, h.mono hm, r⟩
theorem IMap.made (w : World) : IMap (w.alloc (.map #[] 0)) w.heap.size 0 (fun _ => none) :=
  ⟨.map [], World.ownsMap_made _ _ _ _, fun _ => ⟨rfl, rfl⟩⟩
theorem IMap.block {w w' : World} {b n : Nat} {f : ByteArray → Option Int} (h : IMap w b n f) (hb : w'.heap[b]? = w.heap[b]?) : IMap w' b n f := by
  obtain ⟨D, ⟨es, clock, h1, h2⟩, r⟩ := h; exact ⟨D, ⟨es, clock, hb.trans h1, h2⟩, r⟩
theorem IMap.look_ok {w : World} {b n : Nat} {f : ByteArray → Option Int} (h : IMap w b n f) (s : ByteArray) (hs : s.size ≤ 9223372036854775807) :
    (Instr.lookup 56 (.map (some b)) (.string s) true).run Try.prog w = .ok (.tuple #[.int .i64 ((f s).getD 0), .bool (f s).isSome]) w := by
  obtain ⟨D, hown, r⟩ := h
  obtain ⟨v, ps, hrun, hR⟩ := hown.look_ok strLaw Try.underlying56 (zeroInt w) (plainElem_int Try.underlying3 (by decide)) (keyOf_string_mk Try.underlying9 hs)
  obtain ⟨c, rfl, hc, _⟩ := plainElem_int_inv Try.underlying3 hR
  have h1 := (r s).1
  have h2 := (r s).2
  unfold lk at h1 h2
  rw [hrun, h1]
  rw [h2] at hc
  simp only [Prod.mk.injEq, DataW.lit.injEq, Lit.int.injEq, true_and] at hc
  rw [hc.1]
theorem IMap.look {w : World} {b n : Nat} {f : ByteArray → Option Int} (h : IMap w b n f) (s : ByteArray) (hs : s.size ≤ 9223372036854775807) :
    (Instr.lookup 56 (.map (some b)) (.string s) false).run Try.prog w = .ok (.int .i64 ((f s).getD 0)) w := by
  obtain ⟨D, hown, r⟩ := h
  obtain ⟨c, hrun, hat, _⟩ := hown.lookup_int strLaw Try.underlying56 Try.underlying3 (zeroInt w) (keyOf_string_mk Try.underlying9 hs)
  have h2 := (r s).2
  unfold lk at h2
  rw [h2] at hat
  simp only [DataW.lit.injEq, Lit.int.injEq, true_and] at hat
  rw [hrun, hat]
theorem look_ok_nil (w : World) (s : ByteArray) (hs : s.size ≤ 9223372036854775807) :
    (Instr.lookup 56 (.map none) (.string s) true).run Try.prog w = .ok (.tuple #[.int .i64 0, .bool false]) w := by
  simpa using Maps.look_nil true strLaw Try.underlying56 (zeroInt w) (keyOf_string_mk Try.underlying9 hs)
theorem look_nil (w : World) (s : ByteArray) (hs : s.size ≤ 9223372036854775807) :
    (Instr.lookup 56 (.map none) (.string s) false).run Try.prog w = .ok (.int .i64 0) w := by
  simpa using Maps.look_nil false strLaw Try.underlying56 (zeroInt w) (keyOf_string_mk Try.underlying9 hs)
def updF (f : ByteArray → Option Int) (s : ByteArray) (v : Option Int) : ByteArray → Option Int := fun x => if x = s then v else f x
theorem IMap.put {w : World} {b n : Nat} {f : ByteArray → Option Int} (h : IMap w b n f) (s : ByteArray) (hs : s.size ≤ 9223372036854775807) (v : Int) (h1 : -9223372036854775808 ≤ v) (h2 : v ≤ 9223372036854775807) (hn : n < 4611686018427387904) :
    ∃ w', (Instr.mapUpdate 56 (.map (some b)) (.string s) (.int .i64 v)).run Try.prog w = .ok () w' ∧ IMap w' b (n + 1) (updF f s (some v)) ∧ w.grownBy w' (some b) := by
  obtain ⟨D, hown, r⟩ := h
  have hD := hown.isMap
  obtain ⟨w', hrun, hown', hg⟩ := hown.update strLaw Try.underlying56 (by unfold maxLen; omega) (keyOf_string_mk Try.underlying9 hs) (plainElem_int Try.underlying3 (WalkArith.wf_i64 ⟨h1, h2⟩))
  refine ⟨w', hrun, ⟨_, hown', fun x => ?_⟩, hg⟩
  unfold updF
  by_cases hx : x = s
  · subst hx
    rw [if_pos rfl]
    exact ⟨has_put_same hD (lk_key x) _, atKey_put_same hD (lk_key x) _ _⟩
  · rw [if_neg hx]
    have hne : lk x ≠ lk s := fun e => hx (lk_inj e)
    exact ⟨(has_put_other hne _).trans (r x).1, (atKey_put_other hne _ _).trans (r x).2⟩
theorem IMap.del {w : World} {b n : Nat} {f : ByteArray → Option Int} (h : IMap w b n f) (s : ByteArray) (hs : s.size ≤ 9223372036854775807) (ty : TypeId) :
    ∃ w', (Builtin.delete_ #[56, 9] ty #[.map (some b), .string s]).run Try.prog w = .ok (.tuple #[]) w' ∧ IMap w' b n (updF f s none) ∧ w.grownBy w' (some b) := by
  obtain ⟨D, hown, r⟩ := h
  obtain ⟨w', hrun, hown', hg⟩ := hown.drop strLaw Try.underlying56 (keyOf_string_mk Try.underlying9 hs) ty
  refine ⟨w', hrun, ⟨_, hown', fun x => ?_⟩, hg.grown⟩
  unfold updF
  by_cases hx : x = s
  · subst hx
    rw [if_pos rfl]
    exact ⟨has_del_same, atKey_del_same _⟩
  · rw [if_neg hx]
    have hne : lk x ≠ lk s := fun e => hx (lk_inj e)
    exact ⟨(has_del_other hne).trans (r x).1, (atKey_del_other hne _).trans (r x).2⟩

end Go.Proofs.Ytkimcopmfhjjcaa

/- The accounts of a ledger, in order. -/
import Derived.Test.YtkimcopmfhjjcaaLed
import Derived.Test.YtkimcopmfhjjcaaIter
import Derived.Sort.KeysCollected
namespace Go.Proofs.Ytkimcopmfhjjcaa
open Go.RowKit Go.Maps Go.WideMaps

/-- Block b is a set of strings of at most n entries: which strings it holds. -/
def SMap (w : World) (b n : Nat) (f : ByteArray → Bool) : Prop :=
  ∃ D : DataW Unit, w.ownsMap Try.prog 9 (plainElem Try.prog 4) b n D ∧ ∀ s : ByteArray, Maps.has D (lk s) = f s
theorem SMap.lt {w : World} {b n : Nat} {f : ByteArray → Bool} (h : SMap w b n f) : b < w.heap.size := by obtain ⟨D, h, _⟩ := h; exact h.lt
theorem SMap.made (w : World) : SMap (w.alloc (.map #[] 0)) w.heap.size 0 (fun _ => false) := ⟨.map [], World.ownsMap_made _ _ _ _, fun _ => rfl⟩
theorem SMap.block {w w' : World} {b n : Nat} {f : ByteArray → Bool} (h : SMap w b n f) (hb : w'.heap[b]? = w.heap[b]?) : SMap w' b n f := by
  obtain ⟨D, ⟨es, clock, h1, h2⟩, r⟩ := h; exact ⟨D, ⟨es, clock, hb.trans h1, h2⟩, r⟩
theorem SMap.put {w : World} {b n : Nat} {f : ByteArray → Bool} (h : SMap w b n f) (s : ByteArray) (hs : s.size ≤ 9223372036854775807) (hn : n < 4611686018427387904) :
    ∃ w', (Instr.mapUpdate 66 (.map (some b)) (.string s) (.bool true)).run Try.prog w = .ok () w' ∧ SMap w' b (n + 1) (fun x => decide (x = s) || f x) ∧ w.grownBy w' (some b) := by
  obtain ⟨D, hown, r⟩ := h
  have hD := hown.isMap
  obtain ⟨w', hrun, hown', hg⟩ := hown.update strLaw Try.underlying66 (by unfold maxLen; omega) (keyOf_string_mk Try.underlying9 hs) (plainElem_bool Try.underlying4 true)
  refine ⟨w', hrun, ⟨_, hown', fun x => ?_⟩, hg⟩
  by_cases hx : x = s
  · subst hx
    exact (has_put_same hD (lk_key x) _).trans (by simp)
  · have hne : lk x ≠ lk s := fun e => hx (lk_inj e)
    exact ((has_put_other hne _).trans (r x)).trans (by simp [hx])
/-- The strings of a set: each once. -/
theorem SMap.keys {w : World} {b n : Nat} {f : ByteArray → Bool} {D : DataW Unit} (hown : w.ownsMap Try.prog 9 (plainElem Try.prog 4) b n D) (r : ∀ s : ByteArray, Maps.has D (lk s) = f s) :
    (strKeys D).Nodup ∧ ∀ x : List UInt8, x ∈ strKeys D ↔ f ⟨x.toArray⟩ = true := by
  obtain ⟨es, hD, hpw, _⟩ := hown.entries strLaw
  obtain ⟨es', hD', hko⟩ := hown.keysOf
  obtain rfl : es = es' := by rw [hD] at hD'; simpa using hD'
  subst hD
  have hk : ∀ p ∈ es, ∃ x, p.1 = .string x := fun p hp => by
    obtain ⟨v, hv⟩ := hko p hp
    obtain ⟨x, _, hx, _⟩ := Maps.keyOf_str Try.underlying9 hv
    exact ⟨x, hx⟩
  constructor
  · show (es.map fun p => strOf p.1).Nodup
    refine List.pairwise_map.2 (hpw.imp_of_mem fun {p q} hp' hq' hne e => hne ?_)
    obtain ⟨a, ha⟩ := hk p hp'
    obtain ⟨b, hb⟩ := hk q hq'
    rw [ha, hb] at e ⊢
    exact congrArg _ e
  · intro x
    have h1 := r ⟨x.toArray⟩
    rw [← h1, show lk ⟨x.toArray⟩ = .string x by simp [lk], has_eq, List.any_eq_true]
    show x ∈ es.map (fun p => strOf p.1) ↔ _
    rw [List.mem_map]
    constructor
    · rintro ⟨p, hp', rfl⟩
      obtain ⟨a, ha⟩ := hk p hp'
      exact ⟨p, hp', by rw [ha]; simp [Lit.sameKey, strOf]⟩
    · rintro ⟨p, hp', hs⟩
      obtain ⟨a, ha⟩ := hk p hp'
      rw [ha] at hs
      exact ⟨p, hp', by rw [ha]; simpa [Lit.sameKey, strOf] using hs⟩

/-- A string is an account of the postings. -/
def acctB (L : List Pst) (s : ByteArray) : Bool := L.any (fun p => decide (s = p.src) || decide (s = p.dst))
theorem acctB_snoc (L : List Pst) (p : Pst) (s : ByteArray) : acctB (L ++ [p]) s = (decide (s = p.dst) || (decide (s = p.src) || acctB L s)) := by
  unfold acctB
  rw [List.any_append]
  simp only [List.any_cons, List.any_nil, Bool.or_false]
  cases L.any (fun p => decide (s = p.src) || decide (s = p.dst)) <;> cases decide (s = p.src) <;> cases decide (s = p.dst) <;> rfl

/-- The accounts, in order. -/
def AcctsAt (w : World) (v : Value) (L : List Pst) (ss : List (List UInt8)) : Prop :=
  RowAt w.heap.size w v ss.length (ss.map encStr) ∧ ss.Pairwise (fun x y => x < y) ∧ ∀ x : List UInt8, x ∈ ss ↔ acctB L ⟨x.toArray⟩ = true
theorem sorted_strict {ss : List (List UInt8)} (h : ss.Nodup) : (ss.mergeSort (fun x y => decide (x ≤ y))).Pairwise (fun x y => x < y) := by
  have tr : ∀ a b c : List UInt8, decide (a ≤ b) = true → decide (b ≤ c) = true → decide (a ≤ c) = true := fun a b c h1 h2 => by simp only [decide_eq_true_eq] at *; exact List.le_trans h1 h2
  have tt : ∀ a b : List UInt8, (decide (a ≤ b) || decide (b ≤ a)) = true := fun a b => by simp only [Bool.or_eq_true, decide_eq_true_eq]; exact List.le_total a b
  have hp := List.pairwise_mergeSort tr tt ss
  have hn := ((List.mergeSort_perm ss (fun x y => decide (x ≤ y))).nodup_iff).2 h
  refine (hp.and hn).imp fun {a b} ⟨h1, h2⟩ => ?_
  have h1 : a ≤ b := by simpa using h1
  exact Decidable.byContradiction fun h => h2 (List.le_antisymm h1 (List.not_lt.1 h))

end Go.Proofs.Ytkimcopmfhjjcaa

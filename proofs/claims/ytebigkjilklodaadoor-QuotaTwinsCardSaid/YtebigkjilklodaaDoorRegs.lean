/- Regions whose operations only read, and whose callees only make memory: one walk of the text's order serves every order. -/
import Derived.BigQuiet
import Derived.StillTail
import Derived.Test.YtebigkjilklodaaDoorData
set_option linter.unusedVariables false
set_option linter.unusedSimpArgs false
namespace Go.Proofs.YtebigkjilklodaaDoor
open Go.RowKit

/-- All blocks of a world are as they were. -/
def Kept (w w' : World) : Prop := Below w.heap.size w w' ∧ w.heap.size ≤ w'.heap.size
theorem Kept.refl (w : World) : Kept w w := ⟨Below.refl _ _, Nat.le_refl _⟩
theorem Kept.drew (w : World) : Kept w w.drew := ⟨(Drew.drew (Drew.refl w)).below _, Nat.le_refl _⟩
theorem Kept.next {w w1 w2 : World} (h : Kept w w1) (hb : Below w1.heap.size w1 w2) : Kept w w2 := ⟨h.1.trans (hb.mono h.2), Nat.le_trans h.2 hb.size⟩
theorem Kept.draws {w w1 w2 : World} (h : Kept w w1) (hd : Drew w1 w2) : Kept w w2 := h.next (hd.below _)
theorem Kept.below {B : Nat} {w0 w w1 : World} (h : Kept w w1) (h0 : Below B w0 w) (hB : B ≤ w.heap.size) : Below B w0 w1 := h0.trans (h.1.mono hB)
/-- One walk of the text's order serves every order, in a class of worlds. -/
theorem wp_region_class {P : Program} (C : World → Prop) {id : Nat} {Q : Exit → Act → World → Prop} {a : Act} {w : World} {l : List Oper} (hm : P.follows .mixedOrders = true) (hB : Region.lexB .any l.toArray = true) (hC : C w.drew)
    (h : wpQuiet P l.toArray C (fun a' => ∀ w', C w' → Q .normal a' w') l a) : (Code.region id l.toArray true).wp P Q a w :=
  wp_region_quiet hm hB hC (by simpa using h)

end Go.Proofs.YtebigkjilklodaaDoor

/- Regions whose operations only read and whose callees only make memory, but for a last row of writes: one walk of the text's order serves every order. -/
namespace Go.Proofs.YtebigkjilklodaaDoor
open Go.RowKit

section
variable {P : Program} {ops : Array Oper} {md : Region.Mode} {C : World → Prop}

/-- Whatever order is picked among the first n operations. -/
def wpHead (P : Program) (md : Region.Mode) (ops : Array Oper) (C : World → Prop) (n : Nat) (L : Array Bool → Act → Prop) : Nat → Array Bool → Act → Prop
  | 0, listed, a => L listed a
  | f + 1, listed, a =>
    Region.ready md ops listed ≠ [] ∧ ∀ i ∈ Region.ready md ops listed, i < n ∧ qOp P ops C i (wpHead P md ops C n L f (listed.setIfInBounds i true)) a

theorem wpAny_of_wpHead {n g : Nat} {L : Array Bool → Act → Prop} {Q' : Exit → Act → World → Prop} (hL : ∀ listed a w, C w → L listed a → wpAny P md ops Q' g listed a w) :
    ∀ (f : Nat) (listed : Array Bool) (a : Act) (w : World), C w → wpHead P md ops C n L f listed a → wpAny P md ops Q' (f + g) listed a w
  | 0, listed, a, w, hw, h => by rw [Nat.zero_add]; exact hL _ _ _ hw h
  | f + 1, listed, a, w, hw, h => by
    rw [show f + 1 + g = (f + g) + 1 by omega]
    exact ⟨fun h0 => absurd h0 h.1, fun i hi => wpOp_of_qOp hw (fun a' w' hw' h' => wpAny_of_wpHead hL f _ a' w' hw' h') (h.2 i hi).2⟩

theorem wpHead_first {n i : Nat} {oi : Oper} {v : Value} {L : Array Bool → Act → Prop} (hi : ops[i]? = some oi) (hsel : ∀ (j : Nat) (o : Oper) cs b, ops[j]? = some o → o.op ≠ .select cs b)
    (hs : Region.sinkB md ops n = true) (hc : Region.chainB md ops n = true) (hn : n < ops.size) (hin : i < n)
    (hdone : ∀ listed a, L listed a → ∀ j ∈ Region.ready md ops listed, n ≤ j) :
    ∀ (f : Nat) (listed : Array Bool) (a : Act), HeadInv md ops n listed →
      (∀ j oj, ops[j]? = some oj → j ≠ i → listed.getD j true = false → (∀ e ∈ oj.after, Region.binds md e = true → e.on ≠ i) → oi.apart ops oj = true) →
      i ∈ Region.ready md ops listed → YieldsIn P ops C oi v a →
      wpHead P md ops C n L f (listed.setIfInBounds i true) (a.put oi.dst v) → wpHead P md ops C n L (f + 1) listed a := by
  intro f
  induction f with
  | zero =>
    intro listed a inv _ hr hy H
    have hun := (mem_ready.1 hr).1
    refine ⟨fun h => (by rw [h] at hr; cases hr), fun j hj => ?_⟩
    have hjn : j < n := by
      rcases Nat.lt_or_ge j n with h | h
      · exact h
      · exact absurd hj (tail_waits hs hc hn inv _ i rfl hin hun j h)
    refine ⟨hjn, ?_⟩
    by_cases hji : j = i
    · subst hji; exact hy.qOp hi H
    · have := hdone _ _ H j (ready_mono hj hji)
      omega
  | succ f ih =>
    intro listed a inv hfree hr hy H
    have hun := (mem_ready.1 hr).1
    refine ⟨fun h => (by rw [h] at hr; cases hr), fun j hj => ?_⟩
    have hjn : j < n := by
      rcases Nat.lt_or_ge j n with h | h
      · exact h
      · exact absurd hj (tail_waits hs hc hn inv _ i rfl hin hun j h)
    refine ⟨hjn, ?_⟩
    by_cases hji : j = i
    · subst hji; exact hy.qOp hi H
    · have h1 := (H.2 j (ready_mono hj hji)).2
      obtain ⟨hjun, oj, hoj, hall⟩ := mem_ready.1 hj
      have hnot : ∀ e ∈ oj.after, Region.binds md e = true → e.on ≠ i := fun e he hb heq => by
        have h1 := hall e he hb
        rw [heq, getD_both hun] at h1
        cases h1
      have h2 := qOp_put hoj (hfree j oj hoj hji hjun hnot) (fun cs b => hsel i oi cs b hi) (fun cs b => hsel j oj cs b hoj) hy h1
      have hfree' : ∀ k ok, ops[k]? = some ok → k ≠ i → (listed.setIfInBounds j true).getD k true = false →
          (∀ e ∈ ok.after, Region.binds md e = true → e.on ≠ i) → oi.apart ops ok = true := fun k ok hk hki hun hno => by
        refine hfree k ok hk hki ?_ hno
        by_cases hjk : j = k
        · subst hjk; exact hjun
        · rw [getD_set_ne true hjk] at hun; exact hun
      refine qOp_mono (fun a' h3 => ih (listed.setIfInBounds j true) a' (inv.set hj hjn) hfree' (ready_mono hr (Ne.symm hji)) h3.1 ?_) h2
      rw [Array.setIfInBounds_comm _ _ hji]
      exact h3.2


theorem wpHead_lex {n g : Nat} {Lq : Act → Prop} (hsel : Region.noSelect ops = true) (hs : Region.sinkB md ops n = true) (hc : Region.chainB md ops n = true) (hn : n < ops.size) :
    ∀ (l : List Oper) (k : Nat) (listed : Array Bool) (a : Act), (∀ j, j < l.length → l[j]? = ops[k + j]?) → k + l.length = n → HeadInv md ops n listed →
    Region.lexHead md ops g l.length k listed = true → wpQuiet P ops C Lq l a →
    wpHead P md ops C n (fun listed' a' => Region.seqB md ops g n listed' = true ∧ Lq a') l.length listed a
  | [], k, listed, a, _, hk, _, hB, h => by
    have : k = n := by simpa using hk
    subst this
    exact ⟨by simpa [Region.lexHead] using hB, h⟩
  | o :: l, k, listed, a, hl, hk, inv, hB, h => by
    have h0 : ops[k]? = some o := by simpa using (hl 0 (by simp)).symm
    simp only [List.length_cons, Region.lexHead, Bool.and_eq_true] at hB
    obtain ⟨⟨hr, hf⟩, hB'⟩ := hB
    have hkn : k < n := by simp only [List.length_cons] at hk; omega
    have hr' : k ∈ Region.ready md ops listed := by simpa using hr
    have hst : qOp P ops C k (wpQuiet P ops C Lq l) a := by unfold qOp; simp only [h0]; exact h
    obtain ⟨v, hy, hK⟩ := yieldsIn_of_qOp h0 hst
    exact wpHead_first h0 (Region.noSelect_spec hsel) hs hc hn hkn (fun listed' a' hL => seqB_ready hL.1) l.length listed a inv (Region.free_spec h0 hf) hr' hy
      (wpHead_lex hsel hs hc hn l (k + 1) _ _ (fun j hj => by have := hl (j + 1) (by simp; omega); simpa [Nat.add_assoc, Nat.add_comm 1 j] using this) (by simp only [List.length_cons] at hk; omega) (inv.set hr' hkn) hB' hK)


/-- One walk of the text's order serves every order, in a class of worlds; the last operations come one after the other. -/
theorem wp_region_class_tail (C : World → Prop) {id : Nat} {Q : Exit → Act → World → Prop} {a : Act} {w : World} {l : List Oper} (n : Nat) (hm : P.follows .mixedOrders = true) (hB : Region.lexTailB .any l.toArray n = true) (hC : C w.drew)
    (h : wpQuiet P l.toArray C (fun a' => ∀ w', C w' → wpList P l.toArray Q (l.drop n) a' w') (l.take n) a) : (Code.region id l.toArray true).wp P Q a w := by
  simp only [Region.lexTailB, Bool.and_eq_true, decide_eq_true_eq] at hB
  obtain ⟨⟨⟨⟨hsel, hn⟩, hs⟩, hc⟩, hlex⟩ := hB
  have hn' : n < l.length := by simpa using hn
  have htl : (l.take n).length = n := by simp; omega
  have hdl : (l.drop n).length = l.toArray.size - n := by simp
  have inv0 : HeadInv .any l.toArray n (Array.replicate l.toArray.size false) :=
    ⟨by simp, fun j oj _ hl => (by rw [getD_replicate_false] at hl; cases hl), fun t _ ht => getD_in (by simpa using ht) (getD_replicate_false _ _)⟩
  have H := wpHead_lex (md := .any) (g := l.toArray.size - n) hsel hs hc hn (l.take n) 0 _ a (fun j hj => by
    have hj' : j < n := by rw [htl] at hj; exact hj
    simp [hj']) (by simpa using htl) inv0 (by rw [htl]; exact hlex) h
  refine wp_region_any hm ?_
  have := wpAny_of_wpHead (Q' := Q) (g := l.toArray.size - n) (fun listed a' w' hw' hL => by
    have := wpAny_of_seq (md := .any) (Q' := Q) (l.drop n) n listed a' w' (fun j => by simp [List.getElem?_drop]) (by rw [hdl]; exact hL.1) (hL.2 w' hw')
    rwa [hdl] at this) _ _ _ _ (show C { w with drawn := w.drawn + 1 } from hC) H
  rw [htl, show n + (l.toArray.size - n) = l.toArray.size by omega] at this
  exact this
/-- An operation leads to another by the edges that bind. -/
def leads (md : Region.Mode) (ops : Array Oper) : Nat → Nat → Nat → Bool
  | 0, _, _ => false
  | f + 1, t, i => Region.waitsFor md ops t i || (List.range ops.size).any fun j => Region.waitsFor md ops t j && leads md ops f j i
theorem leads_listed {n : Nat} {listed : Array Bool} (inv : HeadInv md ops n listed) (i : Nat) : ∀ (f t : Nat), listed.getD t false = true → leads md ops f t i = true → listed.getD i false = true
  | 0, _, _, h => by simp [leads] at h
  | f + 1, t, hl, h => by
    simp only [leads, Bool.or_eq_true, List.any_eq_true, List.mem_range, Bool.and_eq_true] at h
    rcases h with h | ⟨j, _, h1, h2⟩
    · obtain ⟨ot, hot, e, he, hb, rfl⟩ := Region.waitsFor_spec h
      exact inv.closed t ot hot hl e he hb
    · obtain ⟨ot, hot, e, he, hb, rfl⟩ := Region.waitsFor_spec h1
      exact leads_listed inv i f _ (inv.closed t ot hot hl e he hb) h2
theorem leads_ready {n f t i : Nat} {listed : Array Bool} (inv : HeadInv md ops n listed) (hr : t ∈ Region.ready md ops listed) (h : leads md ops (f + 1) t i = true) : listed.getD i false = true := by
  obtain ⟨_, ot, hot, hall⟩ := mem_ready.1 hr
  simp only [leads, Bool.or_eq_true, List.any_eq_true, List.mem_range, Bool.and_eq_true] at h
  rcases h with h | ⟨j, _, h1, h2⟩
  · obtain ⟨o', ho', e, he, hb, rfl⟩ := Region.waitsFor_spec h
    obtain rfl : o' = ot := Option.some.inj (ho'.symm.trans hot)
    exact hall e he hb
  · obtain ⟨o', ho', e, he, hb, rfl⟩ := Region.waitsFor_spec h1
    obtain rfl : o' = ot := Option.some.inj (ho'.symm.trans hot)
    exact leads_listed inv i f _ (hall e he hb) h2
/-- All operations from n on come behind all earlier ones. -/
def behindB (md : Region.Mode) (ops : Array Oper) (n : Nat) : Bool := (List.range ops.size).all fun t => decide (t < n) || (List.range n).all fun i => leads md ops (ops.size + 1) t i
theorem behind_waits {n : Nat} {listed : Array Bool} (hs : behindB md ops n = true) (inv : HeadInv md ops n listed) {i : Nat} (hi : i < n) (hun : listed.getD i true = false) {t : Nat} (ht : n ≤ t) : t ∉ Region.ready md ops listed := by
  intro hr
  obtain ⟨_, ot, hot, _⟩ := mem_ready.1 hr
  have htlt : t < ops.size := (Array.getElem?_eq_some_iff.1 hot).1
  have h1 := List.all_eq_true.1 hs t (List.mem_range.2 htlt)
  simp only [Bool.or_eq_true, decide_eq_true_eq] at h1
  rcases h1 with h1 | h1
  · omega
  · have h2 := leads_ready inv hr (List.all_eq_true.1 h1 i (List.mem_range.2 hi))
    rw [getD_both hun] at h2
    cases h2
/-- Two operations are left, in either order. -/
def pairB (md : Region.Mode) (ops : Array Oper) (n : Nat) (listed : Array Bool) : Bool :=
  decide (Region.ready md ops listed = [n, n + 1]) && Region.seqB md ops 1 (n + 1) (listed.setIfInBounds n true) && Region.seqB md ops 1 n (listed.setIfInBounds (n + 1) true)
def lexPair (md : Region.Mode) (ops : Array Oper) : Nat → Nat → Array Bool → Bool
  | 0, k, listed => pairB md ops k listed
  | f + 1, k, listed => (Region.ready md ops listed).contains k && Region.free md ops listed k && lexPair md ops f (k + 1) (listed.setIfInBounds k true)
theorem pairB_ready {k : Nat} {listed : Array Bool} (h : pairB md ops k listed = true) : ∀ j ∈ Region.ready md ops listed, k ≤ j := by
  intro j hj
  simp only [pairB, Bool.and_eq_true, decide_eq_true_eq] at h
  rw [h.1.1] at hj
  simp at hj
  omega
theorem wpHead_first2 {n i : Nat} {oi : Oper} {v : Value} {L : Array Bool → Act → Prop} (hi : ops[i]? = some oi) (hsel : ∀ (j : Nat) (o : Oper) cs b, ops[j]? = some o → o.op ≠ .select cs b)
    (hs : behindB md ops n = true) (hin : i < n)
    (hdone : ∀ listed a, L listed a → ∀ j ∈ Region.ready md ops listed, n ≤ j) :
    ∀ (f : Nat) (listed : Array Bool) (a : Act), HeadInv md ops n listed →
      (∀ j oj, ops[j]? = some oj → j ≠ i → listed.getD j true = false → (∀ e ∈ oj.after, Region.binds md e = true → e.on ≠ i) → oi.apart ops oj = true) →
      i ∈ Region.ready md ops listed → YieldsIn P ops C oi v a →
      wpHead P md ops C n L f (listed.setIfInBounds i true) (a.put oi.dst v) → wpHead P md ops C n L (f + 1) listed a := by
  intro f
  induction f with
  | zero =>
    intro listed a inv _ hr hy H
    have hun := (mem_ready.1 hr).1
    refine ⟨fun h => (by rw [h] at hr; cases hr), fun j hj => ?_⟩
    have hjn : j < n := by
      rcases Nat.lt_or_ge j n with h | h
      · exact h
      · exact absurd hj (behind_waits hs inv hin hun h)
    refine ⟨hjn, ?_⟩
    by_cases hji : j = i
    · subst hji; exact hy.qOp hi H
    · have := hdone _ _ H j (ready_mono hj hji)
      omega
  | succ f ih =>
    intro listed a inv hfree hr hy H
    have hun := (mem_ready.1 hr).1
    refine ⟨fun h => (by rw [h] at hr; cases hr), fun j hj => ?_⟩
    have hjn : j < n := by
      rcases Nat.lt_or_ge j n with h | h
      · exact h
      · exact absurd hj (behind_waits hs inv hin hun h)
    refine ⟨hjn, ?_⟩
    by_cases hji : j = i
    · subst hji; exact hy.qOp hi H
    · have h1 := (H.2 j (ready_mono hj hji)).2
      obtain ⟨hjun, oj, hoj, hall⟩ := mem_ready.1 hj
      have hnot : ∀ e ∈ oj.after, Region.binds md e = true → e.on ≠ i := fun e he hb heq => by
        have h1 := hall e he hb
        rw [heq, getD_both hun] at h1
        cases h1
      have h2 := qOp_put hoj (hfree j oj hoj hji hjun hnot) (fun cs b => hsel i oi cs b hi) (fun cs b => hsel j oj cs b hoj) hy h1
      have hfree' : ∀ k ok, ops[k]? = some ok → k ≠ i → (listed.setIfInBounds j true).getD k true = false →
          (∀ e ∈ ok.after, Region.binds md e = true → e.on ≠ i) → oi.apart ops ok = true := fun k ok hk hki hun hno => by
        refine hfree k ok hk hki ?_ hno
        by_cases hjk : j = k
        · subst hjk; exact hjun
        · rw [getD_set_ne true hjk] at hun; exact hun
      refine qOp_mono (fun a' h3 => ih (listed.setIfInBounds j true) a' (inv.set hj hjn) hfree' (ready_mono hr (Ne.symm hji)) h3.1 ?_) h2
      rw [Array.setIfInBounds_comm _ _ hji]
      exact h3.2


theorem wpHead_lex2 {n : Nat} {Lq : Act → Prop} (hsel : Region.noSelect ops = true) (hs : behindB md ops n = true) :
    ∀ (l : List Oper) (k : Nat) (listed : Array Bool) (a : Act), (∀ j, j < l.length → l[j]? = ops[k + j]?) → k + l.length = n → HeadInv md ops n listed →
    lexPair md ops l.length k listed = true → wpQuiet P ops C Lq l a →
    wpHead P md ops C n (fun listed' a' => pairB md ops n listed' = true ∧ Lq a') l.length listed a
  | [], k, listed, a, _, hk, _, hB, h => by
    have : k = n := by simpa using hk
    subst this
    exact ⟨by simpa [lexPair] using hB, h⟩
  | o :: l, k, listed, a, hl, hk, inv, hB, h => by
    have h0 : ops[k]? = some o := by simpa using (hl 0 (by simp)).symm
    simp only [List.length_cons, lexPair, Bool.and_eq_true] at hB
    obtain ⟨⟨hr, hf⟩, hB'⟩ := hB
    have hkn : k < n := by simp only [List.length_cons] at hk; omega
    have hr' : k ∈ Region.ready md ops listed := by simpa using hr
    have hst : qOp P ops C k (wpQuiet P ops C Lq l) a := by unfold qOp; simp only [h0]; exact h
    obtain ⟨v, hy, hK⟩ := yieldsIn_of_qOp h0 hst
    exact wpHead_first2 h0 (Region.noSelect_spec hsel) hs hkn (fun listed' a' hL => pairB_ready hL.1) l.length listed a inv (Region.free_spec h0 hf) hr' hy
      (wpHead_lex2 hsel hs l (k + 1) _ _ (fun j hj => by have := hl (j + 1) (by simp; omega); simpa [Nat.add_assoc, Nat.add_comm 1 j] using this) (by simp only [List.length_cons] at hk; omega) (inv.set hr' hkn) hB' hK)



theorem two_of_length {α : Type} {l : List α} (h : l.length = 2) : ∃ x y, l = [x, y] := by
  match l, h with
  | [x, y], _ => exact ⟨x, y, rfl⟩
theorem wpAny_one {Q' : Exit → Act → World → Prop} {k : Nat} {o : Oper} {listed : Array Bool} {a : Act} {w : World} (h0 : ops[k]? = some o) (hB : Region.seqB md ops 1 k listed = true) (h : wpList P ops Q' [o] a w) : wpAny P md ops Q' 1 listed a w := by
  simp only [Region.seqB, Bool.and_eq_true, decide_eq_true_eq, List.isEmpty_iff] at hB
  refine ⟨fun h1 => (by rw [hB.1] at h1; cases h1), fun i hi => ?_⟩
  rw [hB.1] at hi
  obtain rfl : i = k := by simpa using hi
  have hw : wpOp P ops Q' i (wpList P ops Q' []) a w := by unfold wpOp; simp only [h0]; exact h
  exact wpOp_mono (fun a' w' h' => ⟨hB.2, h'⟩) hw

def pairAllB (md : Region.Mode) (ops : Array Oper) (n : Nat) : Bool := Region.noSelect ops && decide (n + 2 = ops.size) && behindB md ops n && lexPair md ops n 0 (Array.replicate ops.size false)

/-- One walk of the text's order serves every order, in a class of worlds; the last two operations come in either order. -/
theorem wp_region_class_pair (C : World → Prop) {id : Nat} {Q : Exit → Act → World → Prop} {a : Act} {w : World} {l : List Oper} (n : Nat) (hm : P.follows .mixedOrders = true) (hB : pairAllB .any l.toArray n = true) (hC : C w.drew)
    (h : wpQuiet P l.toArray C (fun a' => ∀ w', C w' → wpList P l.toArray Q (l.drop n) a' w' ∧ wpList P l.toArray Q (l.drop (n + 1) ++ (l.drop n).take 1) a' w') (l.take n) a) : (Code.region id l.toArray true).wp P Q a w := by
  simp only [pairAllB, Bool.and_eq_true, decide_eq_true_eq] at hB
  obtain ⟨⟨⟨hsel, hn⟩, hs⟩, hlex⟩ := hB
  have hn' : n + 2 = l.length := by simpa using hn
  have htl : (l.take n).length = n := by simp; omega
  obtain ⟨o1, o2, hd⟩ : ∃ o1 o2, l.drop n = [o1, o2] := two_of_length (by simp; omega)
  have hd1 : l.drop (n + 1) = [o2] := by rw [← List.drop_drop, hd]; rfl
  have g1 : l.toArray[n]? = some o1 := by have := congrArg (·[0]?) hd; simpa [List.getElem?_drop] using this
  have g2 : l.toArray[n + 1]? = some o2 := by have := congrArg (·[1]?) hd; simpa [List.getElem?_drop] using this
  rw [hd, hd1] at h
  have inv0 : HeadInv .any l.toArray n (Array.replicate l.toArray.size false) :=
    ⟨by simp, fun j oj _ hl => (by rw [getD_replicate_false] at hl; cases hl), fun t _ ht => getD_in (by simpa using ht) (getD_replicate_false _ _)⟩
  have H := wpHead_lex2 (md := .any) hsel hs (l.take n) 0 _ a (fun j hj => by
    have hj' : j < n := by rw [htl] at hj; exact hj
    simp [hj']) (by simpa using htl) inv0 (by rw [htl]; exact hlex) h
  refine wp_region_any hm ?_
  have := wpAny_of_wpHead (Q' := Q) (g := 2) (fun listed a' w' hw' hL => by
    obtain ⟨hp, hQ⟩ := hL
    simp only [pairB, Bool.and_eq_true, decide_eq_true_eq] at hp
    obtain ⟨q1, q2⟩ := hQ w' hw'
    refine ⟨fun h0 => (by rw [hp.1.1] at h0; cases h0), fun i hi => ?_⟩
    rw [hp.1.1] at hi
    simp only [List.mem_cons, List.not_mem_nil, or_false] at hi
    rcases hi with rfl | rfl
    · have hw : wpOp P l.toArray Q i (wpList P l.toArray Q [o2]) a' w' := by unfold wpOp; simp only [g1]; exact q1
      exact wpOp_mono (fun a2 w2 h2 => wpAny_one g2 hp.1.2 h2) hw
    · have hw : wpOp P l.toArray Q (n + 1) (wpList P l.toArray Q [o1]) a' w' := by unfold wpOp; simp only [g2]; exact q2
      exact wpOp_mono (fun a2 w2 h2 => wpAny_one g1 hp.2 h2) hw) _ _ _ _ (show C { w with drawn := w.drawn + 1 } from hC) H
  rw [htl, show n + 2 = l.toArray.size by simpa using hn'] at this
  exact this
end

end Go.Proofs.YtebigkjilklodaaDoor

/- Regions with one write that may come up early: one walk of the text's order serves every order. -/
namespace Go.Proofs.YtebigkjilklodaaDoor
open Go.RowKit

section
variable {P : Program} {ops : Array Oper} {md : Region.Mode} {C : Bool → World → Prop} {s : Nat}

/-- An operation leaves a value and a world of a class. -/
def upon2 (P : Program) (D : World → Prop) (w : World) (v : Value) : Result Next → Prop
  | .ok (.value u) w' => u = v ∧ D w'
  | .ok .skip w' => v = undef ∧ D w'
  | .ok (.enter f args) w' => w' = w ∧ Calls P f args w fun e w'' => e = .returned v ∧ D w''
  | _ => False
/-- Operation number i, before and behind the write (number s). -/
def step2 (P : Program) (C : Bool → World → Prop) (s i : Nat) (o : Oper) (a : Act) (v : Value) : Prop :=
  ∀ b w, (i = s → b = false) → C b w → upon2 P (C (b || decide (i = s))) w v ((execOp a.eval o).run P w)
def Yields2 (P : Program) (ops : Array Oper) (C : Bool → World → Prop) (s i : Nat) (o : Oper) (v : Value) (a : Act) : Prop :=
  (Region.wanted o (yielded ops a.tmps) = true ∧ step2 P C s i o a v) ∨ (Region.wanted o (yielded ops a.tmps) = false ∧ v = undef ∧ i ≠ s)
def qOp2 (P : Program) (ops : Array Oper) (C : Bool → World → Prop) (s i : Nat) (K : Act → Prop) (a : Act) : Prop :=
  ∃ o v, ops[i]? = some o ∧ Yields2 P ops C s i o v a ∧ K (a.put o.dst v)
def wpAnyQ2 (P : Program) (md : Region.Mode) (ops : Array Oper) (C : Bool → World → Prop) (s : Nat) (Q : Act → Prop) : Nat → Array Bool → Act → Prop
  | 0, listed, a => Region.ready md ops listed = [] ∧ listed.getD s false = true ∧ Q a
  | fuel + 1, listed, a =>
    (Region.ready md ops listed = [] → listed.getD s false = true ∧ Q a) ∧
    ∀ i ∈ Region.ready md ops listed, qOp2 P ops C s i (wpAnyQ2 P md ops C s Q fuel (listed.setIfInBounds i true)) a

theorem Yields2.of_same {i : Nat} {o : Oper} {v : Value} {a a' : Act} (hy : Yields2 P ops C s i o v a) (he : execOp a'.eval o = execOp a.eval o)
    (hw : Region.wanted o (yielded ops a'.tmps) = Region.wanted o (yielded ops a.tmps)) : Yields2 P ops C s i o v a' := by
  unfold Yields2 step2 at *
  rw [he, hw]
  exact hy

theorem wpOp_of_qOp2 {i : Nat} {a : Act} {K : Act → Prop} {K' : Act → World → Prop} {Q' : Exit → Act → World → Prop} {b : Bool} {w : World} (hs : i = s → b = false) (hC : C b w)
    (h : ∀ a w', C (b || decide (i = s)) w' → K a → K' a w') (hh : qOp2 P ops C s i K a) : wpOp P ops Q' i K' a w := by
  obtain ⟨o, v, ho, hy, hK⟩ := hh
  unfold wpOp
  simp only [ho]
  rcases hy with ⟨hw, hst⟩ | ⟨hw, rfl, hne⟩
  · simp only [hw, if_true]
    refine .inl ?_
    have h3 := hst b w hs hC
    unfold Oper.wp
    generalize (execOp a.eval o).run P w = r at *
    cases r with
    | ok n w' =>
      cases n <;> simp only [upon2] at h3 <;> simp only [Oper.upon]
      case value u => rw [h3.1]; exact h _ _ h3.2 hK
      case skip => rw [← h3.1]; exact h _ _ h3.2 hK
      case enter f args =>
        obtain ⟨e1, hc⟩ := h3
        rw [e1]
        exact hc.mono fun e w'' ⟨he, hw''⟩ => by subst he; exact h _ _ hw'' hK
    | halt x w' => simp only [upon2] at h3
  · simp only [hw, Bool.false_eq_true, if_false]
    have : (b || decide (i = s)) = b := by rw [decide_eq_false hne, Bool.or_false]
    rw [this] at h
    exact h _ _ hC hK

theorem getD_set (listed : Array Bool) {i s : Nat} (hi : i < listed.size) : (listed.setIfInBounds i true).getD s false = (listed.getD s false || decide (i = s)) := by
  by_cases e : i = s
  · subst e
    simp [hi]
  · rw [getD_set_ne false e, decide_eq_false e, Bool.or_false]

theorem wpAny_of_quiet2 {Q : Act → Prop} {Q' : Exit → Act → World → Prop} (hQ : ∀ a w, C true w → Q a → Q' .normal a w) : ∀ (fuel : Nat) (listed : Array Bool) (a : Act) (w : World), listed.size = ops.size →
    C (listed.getD s false) w → wpAnyQ2 P md ops C s Q fuel listed a → wpAny P md ops Q' fuel listed a w
  | 0, listed, a, w, _, hw, h => ⟨h.1, hQ _ _ (by rw [h.2.1] at hw; exact hw) h.2.2⟩
  | fuel + 1, listed, a, w, hsz, hw, h => by
    refine ⟨fun h0 => ?_, fun i hi => ?_⟩
    · have := h.1 h0
      exact hQ _ _ (by rw [this.1] at hw; exact hw) this.2
    · obtain ⟨hun, oi, hoi, _⟩ := mem_ready.1 hi
      have hlt : i < listed.size := by rw [hsz]; exact (Array.getElem?_eq_some_iff.1 hoi).1
      refine wpOp_of_qOp2 (fun e => by rw [← e]; exact getD_both hun) hw (fun a' w' hw' hK => ?_) (h.2 i hi)
      rw [← getD_set listed hlt] at hw'
      exact wpAny_of_quiet2 hQ fuel _ a' w' (by simp [hsz]) hw' hK

theorem wpAnyQ2_first {Q : Act → Prop} {i : Nat} {oi : Oper} {v : Value} (hi : ops[i]? = some oi) (hsel : ∀ (j : Nat) (o : Oper) cs b, ops[j]? = some o → o.op ≠ .select cs b) :
    ∀ (fuel : Nat) (listed : Array Bool) (a : Act),
      (∀ j oj, ops[j]? = some oj → j ≠ i → listed.getD j true = false → (∀ e ∈ oj.after, Region.binds md e = true → e.on ≠ i) → oi.apart ops oj = true) →
      i ∈ Region.ready md ops listed → Yields2 P ops C s i oi v a →
      wpAnyQ2 P md ops C s Q fuel (listed.setIfInBounds i true) (a.put oi.dst v) → wpAnyQ2 P md ops C s Q (fuel + 1) listed a := by
  intro fuel
  induction fuel with
  | zero =>
    intro listed a _ hr hy H
    refine ⟨fun h => (by rw [h] at hr; cases hr), fun j hj => ?_⟩
    by_cases hji : j = i
    · subst hji; exact ⟨oi, v, hi, hy, H⟩
    · have := ready_mono hj hji
      rw [H.1] at this
      cases this
  | succ fuel ih =>
    intro listed a hfree hr hy H
    refine ⟨fun h => (by rw [h] at hr; cases hr), fun j hj => ?_⟩
    by_cases hji : j = i
    · subst hji; exact ⟨oi, v, hi, hy, H⟩
    · obtain ⟨oj, u, hoj, hyj, hK⟩ := H.2 j (ready_mono hj hji)
      obtain ⟨hjun, oj', hoj', hall⟩ := mem_ready.1 hj
      obtain rfl : oj' = oj := Option.some.inj (hoj'.symm.trans hoj)
      have hnot : ∀ e ∈ oj'.after, Region.binds md e = true → e.on ≠ i := fun e he hb heq => by
        have h1 := hall e he hb
        have h0 := (mem_ready.1 hr).1
        rw [heq, getD_both h0] at h1
        cases h1
      obtain ⟨a1, a2, a3⟩ := Oper.apart_spec (hfree j oj' hoj hji hjun hnot)
      have hfree' : ∀ k ok, ops[k]? = some ok → k ≠ i → (listed.setIfInBounds j true).getD k true = false →
          (∀ e ∈ ok.after, Region.binds md e = true → e.on ≠ i) → oi.apart ops ok = true := fun k ok hk hki hun hno => by
        refine hfree k ok hk hki ?_ hno
        by_cases hjk : j = k
        · subst hjk; exact hjun
        · rw [getD_set_ne true hjk] at hun; exact hun
      refine ⟨oj', u, hoj, hyj.of_same (execOp_put oj' (fun cs b => hsel j oj' cs b hoj) a oi.dst v a1).symm (wanted_put oj' a oi.dst v a1).symm, ?_⟩
      refine ih (listed.setIfInBounds j true) _ hfree' (ready_mono hr (Ne.symm hji)) (hy.of_same (execOp_put oi (fun cs b => hsel i oi cs b hi) a oj'.dst u a3) (wanted_put oi a oj'.dst u a3)) ?_
      rw [Array.setIfInBounds_comm _ _ hji, ← Act.put_comm a v u a2]
      exact hK

/-- The walk of the text's order. -/
def wpQuiet2 (P : Program) (ops : Array Oper) (C : Bool → World → Prop) (s : Nat) (Q : Act → Prop) : Nat → List Oper → Act → Prop
  | _, [], a => Q a
  | k, o :: rest, a => ∃ v, Yields2 P ops C s k o v a ∧ wpQuiet2 P ops C s Q (k + 1) rest (a.put o.dst v)

theorem wpAnyQ2_lex {Q : Act → Prop} (hsel : Region.noSelect ops = true) : ∀ (l : List Oper) (k : Nat) (listed : Array Bool) (a : Act), (∀ j, l[j]? = ops[k + j]?) → listed.size = ops.size → k + l.length = ops.size → s < ops.size →
    (∀ j, j < k → listed.getD j false = true) → Region.lexFrom md ops l.length k listed = true → wpQuiet2 P ops C s Q k l a → wpAnyQ2 P md ops C s Q l.length listed a
  | [], k, listed, a, _, _, hk, hs, hall, hB, h => ⟨by simpa [Region.lexFrom] using hB, hall s (by simp at hk; omega), h⟩
  | o :: l, k, listed, a, hl, hsz, hk, hs, hall, hB, h => by
    have h0 : ops[k]? = some o := by simpa using (hl 0).symm
    simp only [List.length_cons, Region.lexFrom, Bool.and_eq_true] at hB
    obtain ⟨⟨hr, hf⟩, hB'⟩ := hB
    obtain ⟨v, hy, hK⟩ := h
    have hlt : k < listed.size := by rw [hsz]; exact (Array.getElem?_eq_some_iff.1 h0).1
    exact wpAnyQ2_first h0 (Region.noSelect_spec hsel) l.length listed a (Region.free_spec h0 hf) (by simpa using hr) hy
      (wpAnyQ2_lex hsel l (k + 1) _ _ (fun j => by have := hl (j + 1); simpa [Nat.add_assoc, Nat.add_comm 1 j] using this) (by simp [hsz]) (by simp only [List.length_cons] at hk; omega) hs (fun j hj => by
        rw [getD_set listed hlt]
        by_cases e : k = j
        · rw [decide_eq_true e, Bool.or_true]
        · rw [hall j (by omega), Bool.true_or]) hB' hK)

theorem quiet2_read {Q : Act → Prop} {k : Nat} {o : Oper} {rest : List Oper} {a : Act} {v : Value} (hks : k ≠ s) (hw : Region.wanted o (yielded ops a.tmps) = true)
    (h : ∀ b w, C b w → upon2 P (C b) w v ((execOp a.eval o).run P w)) (hK : wpQuiet2 P ops C s Q (k + 1) rest (a.put o.dst v)) : wpQuiet2 P ops C s Q k (o :: rest) a :=
  ⟨v, .inl ⟨hw, fun b w _ hC => by rw [decide_eq_false hks, Bool.or_false]; exact h b w hC⟩, hK⟩
theorem quiet2_write {Q : Act → Prop} {o : Oper} {rest : List Oper} {a : Act} {v : Value} (hw : Region.wanted o (yielded ops a.tmps) = true)
    (h : ∀ w, C false w → upon2 P (C true) w v ((execOp a.eval o).run P w)) (hK : wpQuiet2 P ops C s Q (s + 1) rest (a.put o.dst v)) : wpQuiet2 P ops C s Q s (o :: rest) a :=
  ⟨v, .inl ⟨hw, fun b w hb hC => by rw [hb rfl] at hC ⊢; rw [decide_eq_true rfl]; exact h w hC⟩, hK⟩

/-- One walk of the text's order serves every order: C false holds before the write (operation number s), C true behind it. -/
theorem wp_region_early (C : Bool → World → Prop) (s : Nat) {id : Nat} {Q : Exit → Act → World → Prop} {a : Act} {w : World} {l : List Oper} (hm : P.follows .mixedOrders = true) (hB : Region.lexB .any l.toArray = true) (hs : s < l.length) (hC : C false w.drew)
    (h : wpQuiet2 P l.toArray C s (fun a' => ∀ w', C true w' → Q .normal a' w') 0 l a) : (Code.region id l.toArray true).wp P Q a w := by
  simp only [Region.lexB, Bool.and_eq_true] at hB
  refine wp_region_any hm (wpAny_of_quiet2 (s := s) (Q := fun a' => ∀ w', C true w' → Q .normal a' w') (fun _ w' hw' h => h w' hw') _ _ _ _ (by simp) (by rw [getD_replicate_false]; exact hC) ?_)
  have := wpAnyQ2_lex (C := C) (s := s) (md := .any) hB.1 l 0 (Array.replicate l.toArray.size false) a (by simp) (by simp) (by simp) (by simpa using hs) (fun j hj => absurd hj (by omega)) (by simpa using hB.2) h
  simpa using this
end

/-- Below R all is as it was; behind the write Y holds, before it X. -/
def EarlyC (R : Nat) (W : World) (X Y : World → Prop) (b : Bool) (w' : World) : Prop := Below R W w' ∧ (if b then Y w' else X w')

end Go.Proofs.YtebigkjilklodaaDoor

/- Regions in any order, by an invariant over the operations that are done and their values. -/
namespace Go.Proofs.YtebigkjilklodaaDoor
open Go.RowKit

def upd (L : Nat → Bool) (i : Nat) : Nat → Bool := fun k => if k = i then true else L k
def updv (vs : Nat → Value) (i : Nat) (v : Value) : Nat → Value := fun k => if k = i then v else vs k
theorem upd_self (L : Nat → Bool) (i : Nat) : upd L i i = true := by simp [upd]
theorem upd_ne (L : Nat → Bool) {i k : Nat} (h : k ≠ i) : upd L i k = L k := by simp [upd, h]
theorem updv_self (vs : Nat → Value) (i : Nat) (v : Value) : updv vs i v i = v := by simp [updv]
theorem updv_ne (vs : Nat → Value) (v : Value) {i k : Nat} (h : k ≠ i) : updv vs i v k = vs k := by simp [updv, h]

/-- The values of the operations that are done, in their slots. -/
def putAll (L : Nat → Bool) (vs : Nat → Value) : Nat → List Oper → Act → Act
  | _, [], a => a
  | k, o :: os, a => putAll L vs (k + 1) os (if L k then a.put o.dst (vs k) else a)

def apart1 (x y : Option Tmp) : Bool := match x, y with
  | some d, some e => d != e
  | _, _ => true
def apartL : List Oper → Bool
  | [] => true
  | o :: os => os.all (fun p => apart1 o.dst p.dst) && apartL os

theorem apart1_spec {x y : Option Tmp} (h : apart1 x y = true) : ∀ d, x = some d → y ≠ some d := by
  intro d hx hy
  subst hx hy
  simp [apart1] at h

theorem putAll_put (L : Nat → Bool) (vs : Nat → Value) : ∀ (os : List Oper) (k : Nat) (a : Act) (d : Option Tmp) (v : Value), (∀ p ∈ os, apart1 d p.dst = true) →
    putAll L vs k os (a.put d v) = (putAll L vs k os a).put d v := by
  intro os
  induction os with
  | nil => intro k a d v _; rfl
  | cons o os ih =>
    intro k a d v h
    simp only [putAll]
    split
    · rw [Act.put_comm a v (vs k) (apart1_spec (h o (List.mem_cons_self ..)))]
      exact ih _ _ _ _ fun p hp => h p (List.mem_cons_of_mem _ hp)
    · exact ih _ _ _ _ fun p hp => h p (List.mem_cons_of_mem _ hp)

theorem putAll_ext {L L' : Nat → Bool} {vs vs' : Nat → Value} : ∀ (os : List Oper) (k : Nat) (a : Act), (∀ j, k ≤ j → L j = L' j ∧ vs j = vs' j) →
    putAll L vs k os a = putAll L' vs' k os a := by
  intro os
  induction os with
  | nil => intro k a _; rfl
  | cons o os ih =>
    intro k a h
    simp only [putAll]
    rw [(h k (Nat.le_refl _)).1, (h k (Nat.le_refl _)).2]
    exact ih _ _ fun j hj => h j (by omega)

theorem putAll_upd (L : Nat → Bool) (vs : Nat → Value) (v : Value) : ∀ (os : List Oper) (k i : Nat) (a : Act) (o : Oper), os[i]? = some o → L (k + i) = false → apartL os = true →
    putAll (upd L (k + i)) (updv vs (k + i) v) k os a = (putAll L vs k os a).put o.dst v := by
  intro os
  induction os with
  | nil => intro k i a o h; simp at h
  | cons p os ih =>
    intro k i a o h hL hA
    simp only [apartL, Bool.and_eq_true, List.all_eq_true] at hA
    cases i with
    | zero =>
      rw [List.getElem?_cons_zero] at h
      obtain rfl := Option.some.inj h
      simp only [putAll]
      rw [Nat.add_zero] at hL ⊢
      rw [upd_self, updv_self, hL, if_pos rfl, if_neg (by decide), putAll_put _ _ _ _ _ _ _ hA.1]
      rw [putAll_ext os (k + 1) a (L' := L) (vs' := vs) (fun j hj => ⟨upd_ne _ (by omega), updv_ne _ _ (by omega)⟩)]
    | succ i =>
      rw [List.getElem?_cons_succ] at h
      simp only [putAll]
      rw [upd_ne _ (by omega), updv_ne _ _ (by omega)]
      have := ih (k + 1) i (if L k = true then a.put p.dst (vs k) else a) o h (by rw [← hL]; congr 1; omega) hA.2
      rw [show k + 1 + i = k + (i + 1) by omega] at this
      exact this

theorem put_get_ne (a : Act) {d : Option Tmp} {v : Value} {t : Nat} (h : d ≠ some t) : (a.put d v).tmps.getD t undef = a.tmps.getD t undef := by
  cases d with
  | none => rfl
  | some d =>
    have hd : d ≠ t := fun e => h (by rw [e])
    show (a.tmps.setIfInBounds d v).getD t undef = _
    simp only [Array.getD_eq_getD_getElem?]
    rw [Array.getElem?_setIfInBounds_ne hd]
theorem put_get (a : Act) {v : Value} {t : Nat} (h : t < a.tmps.size) : (a.put (some t) v).tmps.getD t undef = v := by
  show (a.tmps.setIfInBounds t v).getD t undef = _
  simp [Array.getD_eq_getD_getElem?, h]
theorem put_size (a : Act) (d : Option Tmp) (v : Value) : (a.put d v).tmps.size = a.tmps.size := by
  cases d with
  | none => rfl
  | some d => exact Array.size_setIfInBounds

theorem putAll_old (L : Nat → Bool) (vs : Nat → Value) (t : Nat) : ∀ (os : List Oper) (k : Nat) (a : Act), (os.all fun p => p.dst != some t) = true →
    (putAll L vs k os a).tmps.getD t undef = a.tmps.getD t undef := by
  intro os
  induction os with
  | nil => intro k a _; rfl
  | cons o os ih =>
    intro k a h
    simp only [List.all_cons, Bool.and_eq_true, bne_iff_ne, ne_eq] at h
    simp only [putAll]
    rw [ih _ _ h.2]
    split
    · exact put_get_ne a h.1
    · rfl
theorem putAll_get (L : Nat → Bool) (vs : Nat → Value) (t : Nat) : ∀ (os : List Oper) (k i : Nat) (a : Act) (o : Oper), os[i]? = some o → o.dst = some t → L (k + i) = true → t < a.tmps.size → apartL os = true →
    (putAll L vs k os a).tmps.getD t undef = vs (k + i) := by
  intro os
  induction os with
  | nil => intro k i a o h; simp at h
  | cons p os ih =>
    intro k i a o h hd hL ht hA
    simp only [apartL, Bool.and_eq_true, List.all_eq_true] at hA
    simp only [putAll]
    cases i with
    | zero =>
      rw [List.getElem?_cons_zero] at h
      obtain rfl := Option.some.inj h
      rw [Nat.add_zero] at hL ⊢
      rw [hL, if_pos rfl, hd, putAll_old _ _ _ _ _ _ ?_, put_get _ ht, Nat.add_zero]
      rw [List.all_eq_true]
      intro q hq
      have := hA.1 q hq
      rw [hd] at this
      simp only [bne_iff_ne, ne_eq]
      exact apart1_spec this t rfl
    | succ i =>
      rw [List.getElem?_cons_succ] at h
      have hs : t < (if L k = true then a.put p.dst (vs k) else a).tmps.size := by
        split
        · rw [put_size]; exact ht
        · exact ht
      rw [ih (k + 1) i _ o h hd (by rw [← hL]; congr 1; omega) hs hA.2]
      congr 1
      omega

/-- What an operation ends in: a value and a world. -/
def uponI (P : Program) (R : Value → World → Prop) : Result Next → Prop
  | .ok (.value u) w' => R u w'
  | .ok .skip w' => R undef w'
  | .ok (.enter f args) w' => Calls P f args w' fun e w'' => ∃ v, e = .returned v ∧ R v w''
  | _ => False

section
variable {P : Program}

/-- The edges of an operation point back. -/
def backFrom : Nat → List Oper → Bool
  | _, [] => true
  | k, o :: os => (o.after.all fun e => !Region.binds .any e || decide (e.on < k)) && backFrom (k + 1) os
theorem back_spec : ∀ (os : List Oper) (k i : Nat) (o : Oper), backFrom k os = true → os[i]? = some o → ∀ e ∈ o.after, Region.binds .any e = true → e.on < k + i := by
  intro os
  induction os with
  | nil => intro k i o _ h; simp at h
  | cons p os ih =>
    intro k i o hb h e he hbd
    simp only [backFrom, Bool.and_eq_true, Array.all_eq_true_iff_forall_mem, Bool.or_eq_true, decide_eq_true_eq] at hb
    cases i with
    | zero =>
      rw [List.getElem?_cons_zero] at h
      obtain rfl := Option.some.inj h
      exact (hb.1 e he).resolve_left (by rw [hbd]; decide)
    | succ i =>
      rw [List.getElem?_cons_succ] at h
      have := ih (k + 1) i o hb.2 h e he hbd
      omega
theorem ready_nil {l : List Oper} {listed : Array Bool} (hb : backFrom 0 l = true) (hr : Region.ready .any l.toArray listed = []) : ∀ i, i < l.length → listed.getD i true = true := by
  intro i
  induction i using Nat.strongRecOn with
  | _ i ih =>
    intro hi
    cases hc : listed.getD i true with
    | true => rfl
    | false =>
      exfalso
      have ho : l.toArray[i]? = some l[i] := by simp [hi]
      have : i ∈ Region.ready .any l.toArray listed := by
        refine mem_ready.2 ⟨hc, _, ho, fun e he hbd => ?_⟩
        have hlt := back_spec l 0 i l[i] hb (by simp [hi]) e he hbd
        rw [Nat.zero_add] at hlt
        have hsz : i < listed.size := by
          rcases Nat.lt_or_ge i listed.size with h | h
          · exact h
          · rw [Array.getD_eq_getD_getElem?, Array.getElem?_eq_none h] at hc
            cases hc
        have h1 := ih e.on hlt (by omega)
        rw [Array.getD_eq_getD_getElem?] at h1 ⊢
        rw [Array.getElem?_eq_getElem (by omega)] at h1 ⊢
        exact h1
      rw [hr] at this
      cases this

def doneOf (listed : Array Bool) : Nat → Bool := fun i => listed.getD i true
theorem doneOf_set (listed : Array Bool) {i : Nat} (h : i < listed.size) : doneOf (listed.setIfInBounds i true) = upd (doneOf listed) i := by
  funext k
  unfold doneOf upd
  split
  · next e => subst e; simp [Array.getD_eq_getD_getElem?, h]
  · next e =>
    show _ = listed.getD k true
    rw [Array.getD_eq_getD_getElem?, Array.getD_eq_getD_getElem?, Array.getElem?_setIfInBounds_ne (fun h => e h.symm)]

theorem wpAny_inv {l : List Oper} {Q' : Exit → Act → World → Prop} (I : (Nat → Bool) → (Nat → Value) → World → Prop) (a : Act) (hA : apartL l = true) (hb : backFrom 0 l = true)
    (hstep : ∀ L vs w' a', I L vs w' → a' = putAll L vs 0 l a → ∀ i o, l[i]? = some o → L i = false → (∀ e ∈ o.after, Region.binds .any e = true → L e.on = true) →
      Region.wanted o (yielded l.toArray a'.tmps) = true ∧ uponI P (fun v w'' => I (upd L i) (updv vs i v) w'') ((execOp a'.eval o).run P w'))
    (hend : ∀ L vs w', (∀ i, i < l.length → L i = true) → I L vs w' → Q' .normal (putAll L vs 0 l a) w') :
    ∀ (fuel : Nat) (listed : Array Bool) (vs : Nat → Value) (w : World), listed.size = l.length → listed.toList.countP (fun b => !b) = fuel → I (doneOf listed) vs w →
      wpAny P .any l.toArray Q' fuel listed (putAll (doneOf listed) vs 0 l a) w := by
  intro fuel
  induction fuel with
  | zero =>
    intro listed vs w hsz hc hI
    have hall : ∀ i, i < l.length → doneOf listed i = true := fun i hi => by
      rw [List.countP_eq_zero] at hc
      have := hc (listed[i]'(by omega)) (by simp)
      unfold doneOf
      rw [Array.getD_eq_getD_getElem?, Array.getElem?_eq_getElem (by omega)]
      simpa using this
    refine ⟨?_, hend _ _ _ hall hI⟩
    cases hr : Region.ready .any l.toArray listed with
    | nil => rfl
    | cons x xs =>
      exfalso
      have hx : x ∈ Region.ready .any l.toArray listed := by rw [hr]; exact List.mem_cons_self ..
      obtain ⟨h0, o, ho, _⟩ := mem_ready.1 hx
      have hlt := (Array.getElem?_eq_some_iff.1 ho).1
      have := hall x (by simpa using hlt)
      unfold doneOf at this
      rw [h0] at this
      cases this
  | succ fuel ih =>
    intro listed vs w hsz hc hI
    refine ⟨fun hr => hend _ _ _ (ready_nil hb hr) hI, fun i hi => ?_⟩
    obtain ⟨h0, o, ho, hall⟩ := mem_ready.1 hi
    have hlt : i < listed.size := by rw [hsz]; simpa using (Array.getElem?_eq_some_iff.1 ho).1
    have hol : l[i]? = some o := by simpa using ho
    obtain ⟨hw, hu⟩ := hstep _ _ _ _ hI rfl i o hol h0 (fun e he hb' => by
      have := hall e he hb'
      unfold doneOf
      rw [Array.getD_eq_getD_getElem?] at this ⊢
      cases hg : listed[e.on]? with
      | none => rfl
      | some b => rw [hg] at this; exact this)
    have hcnt : (listed.setIfInBounds i true).toList.countP (fun b => !b) = fuel := by
      rw [Array.toList_setIfInBounds, List.countP_set (by simpa using hlt)]
      have h0' : listed.toList[i]'(by simpa using hlt) = false := by
        rw [Array.getD_eq_getD_getElem?, Array.getElem?_eq_getElem hlt] at h0
        simpa using h0
      rw [h0', hc]
      simp
    have key : ∀ v w'', I (upd (doneOf listed) i) (updv vs i v) w'' → wpAny P .any l.toArray Q' fuel (listed.setIfInBounds i true) ((putAll (doneOf listed) vs 0 l a).put o.dst v) w'' := fun v w'' h => by
      have hp := putAll_upd (doneOf listed) vs v l 0 i a o hol (by rw [Nat.zero_add]; exact h0) hA
      rw [Nat.zero_add] at hp
      rw [← hp, ← doneOf_set listed hlt]
      rw [← doneOf_set listed hlt] at h
      exact ih _ _ _ (by simp [hsz]) hcnt h
    unfold wpOp
    simp only [ho]
    rw [if_pos hw]
    refine .inl ?_
    unfold Oper.wp
    generalize (execOp (putAll (doneOf listed) vs 0 l a).eval o).run P w = r at *
    cases r with
    | ok n w' =>
      cases n <;> simp only [uponI] at hu <;> simp only [Oper.upon]
      case value u => exact key _ _ hu
      case skip => exact key _ _ hu
      case enter f args => exact hu.mono fun e w'' ⟨v, he, h⟩ => by subst he; exact key _ _ h
    | halt x w' => simp only [uponI] at hu

/-- The steps, one by one. -/
def stepsI (P : Program) (I : (Nat → Bool) → (Nat → Value) → World → Prop) (l : List Oper) (a : Act) : Nat → List Oper → Prop
  | _, [] => True
  | k, o :: os => (∀ (L : Nat → Bool) (vs : Nat → Value) (w' : World) (a' : Act), I L vs w' → (∀ j p t, l[j]? = some p → p.dst = some t → L j = true → t < a.tmps.size → a'.tmps.getD t undef = vs j) →
      (∀ t, (l.all fun p => p.dst != some t) = true → a'.tmps.getD t undef = a.tmps.getD t undef) → L k = false → (o.after.all fun e => !Region.binds .any e || L e.on) = true →
      Region.wanted o (yielded l.toArray a'.tmps) = true ∧ uponI P (fun v w'' => I (upd L k) (updv vs k v) w'') ((execOp a'.eval o).run P w')) ∧ stepsI P I l a (k + 1) os
theorem steps_at {I : (Nat → Bool) → (Nat → Value) → World → Prop} {l : List Oper} {a : Act} : ∀ (os : List Oper) (k i : Nat) (o : Oper), stepsI P I l a k os → os[i]? = some o →
    (∀ (L : Nat → Bool) (vs : Nat → Value) (w' : World) (a' : Act), I L vs w' → (∀ j p t, l[j]? = some p → p.dst = some t → L j = true → t < a.tmps.size → a'.tmps.getD t undef = vs j) →
      (∀ t, (l.all fun p => p.dst != some t) = true → a'.tmps.getD t undef = a.tmps.getD t undef) → L (k + i) = false → (o.after.all fun e => !Region.binds .any e || L e.on) = true →
      Region.wanted o (yielded l.toArray a'.tmps) = true ∧ uponI P (fun v w'' => I (upd L (k + i)) (updv vs (k + i) v) w'') ((execOp a'.eval o).run P w')) := by
  intro os
  induction os with
  | nil => intro k i o _ h; simp at h
  | cons p os ih =>
    intro k i o hs h
    cases i with
    | zero =>
      rw [List.getElem?_cons_zero] at h
      obtain rfl := Option.some.inj h
      exact hs.1
    | succ i =>
      rw [List.getElem?_cons_succ] at h
      have := ih (k + 1) i o hs.2 h
      rw [show k + 1 + i = k + (i + 1) by omega] at this
      exact this

/-- A region in any order, none of its operations guarded: an invariant over what is done. -/
theorem wp_region_inv (I : (Nat → Bool) → (Nat → Value) → World → Prop) {id : Nat} {Q : Exit → Act → World → Prop} {a : Act} {w : World} {l : List Oper} (hm : P.follows .mixedOrders = true)
    (hA : apartL l = true) (hb : backFrom 0 l = true) (h0 : ∀ L, (∀ i, i < l.length → L i = false) → I L (fun _ => undef) w.drew) (hs : stepsI P I l a 0 l)
    (hend : ∀ L vs w', (∀ i, i < l.length → L i = true) → I L vs w' → Q .normal (putAll L vs 0 l a) w') : (Code.region id l.toArray true).wp P Q a w := by
  have hL0 : ∀ i, i < l.length → doneOf (Array.replicate l.toArray.size false) i = false := fun i hi => by
    unfold doneOf
    simp [Array.getD_eq_getD_getElem?, hi]
  have ha : putAll (doneOf (Array.replicate l.toArray.size false)) (fun _ => undef) 0 l a = a := by
    have : ∀ (os : List Oper) (k : Nat) (a : Act), k + os.length = l.length → putAll (doneOf (Array.replicate l.toArray.size false)) (fun _ => undef) k os a = a := by
      intro os
      induction os with
      | nil => intro k a _; rfl
      | cons o os ih =>
        intro k a hk
        simp only [putAll]
        rw [hL0 k (by simp at hk; omega), if_neg (by decide)]
        exact ih _ _ (by simp at hk; omega)
    exact this l 0 a (by simp)
  refine wp_region_any hm ?_
  have h := wpAny_inv (P := P) I a hA hb (Q' := Q) (fun L vs w' a' hI ha' i o ho hLi hd => by
    have h := steps_at l 0 i o hs ho L vs w' a' hI
    rw [Nat.zero_add] at h
    refine h (fun j p t hp hpt hLj ht => ?_) (fun t ht => ?_) hLi ?_
    · rw [ha']
      have := putAll_get L vs t l 0 j a p hp hpt (by rw [Nat.zero_add]; exact hLj) ht hA
      rwa [Nat.zero_add] at this
    · rw [ha']; exact putAll_old L vs t l 0 a ht
    · rw [Array.all_eq_true_iff_forall_mem]
      intro e he
      cases hbd : Region.binds .any e with
      | false => rfl
      | true => rw [hd e he hbd]; rfl) hend l.toArray.size (Array.replicate l.toArray.size false) (fun _ => undef) w.drew (by simp) (by simp [List.countP_replicate]) (h0 _ hL0)
  rw [ha] at h
  exact h
end

end Go.Proofs.YtebigkjilklodaaDoor

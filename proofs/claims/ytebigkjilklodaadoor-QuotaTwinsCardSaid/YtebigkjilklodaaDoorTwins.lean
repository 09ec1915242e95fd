/- 'sorteslaw15.QuotaTwins': the whole law, over the contract of its sanity. -/
import Derived.Test.YtebigkjilklodaaDoorPans
set_option linter.unusedVariables false
set_option linter.unusedSimpArgs false
namespace Go.Proofs.YtebigkjilklodaaDoor
open Go.RowKit

theorem entsV_length (L : List (Int × Value)) : (entsV L).length = L.length * 6 := flat_length entV 6 (fun _ => rfl) L
/-- An entrant's groups are put in the place of others. -/
theorem entsV_set (v : Value) : ∀ (L : List (Int × Value)) (b : Nat) (p : Int × Value), L[b]? = some p → (entsV L).set (b * 6 + 5) v = entsV (L.set b (p.1, v)) := by
  intro L
  induction L with
  | nil => intro b p h; simp at h
  | cons q L ih =>
    intro b p h
    cases b with
    | zero =>
      rw [List.getElem?_cons_zero] at h
      obtain rfl := Option.some.inj h
      rfl
    | succ b =>
      rw [List.getElem?_cons_succ] at h
      have h2 := ih b p h
      show (entV q ++ entsV L).set ((b + 1) * 6 + 5) v = entV q ++ entsV (L.set b (p.1, v))
      rw [← h2, List.set_append_right _ _ (by show 6 ≤ _; omega)]
      congr 2
      show (b + 1) * 6 + 5 - 6 = _
      omega
/-- The groups when those of a are put in the place of those of b. -/
def twinS (EL : List Nat) (a b : Nat) (i : Nat) : List ByteArray := if i = b then planS EL a else planS EL i
/-- The panels then. -/
def twinP (sz : Nat) (QL : List (Nat × Nat × Nat)) (EL : List Nat) (a b : Nat) : List (List Nat) := pans (planD (sz % 7) undef) (EL.take 10).length (planQ QL).length (planG QL) (planL QL) (planH QL) (twinS EL a b)
theorem twinP_mem {sz : Nat} {QL : List (Nat × Nat × Nat)} {EL : List Nat} {a b : Nat} {x : List Nat} (h : x ∈ twinP sz QL EL a b) : x.length = sz % 7 ∧ (∀ j ∈ x, j < (EL.take 10).length) ∧ x.Pairwise (· < ·) := by
  unfold twinP pans at h
  split at h
  · obtain ⟨h1, h2, h3⟩ := (PD.all_mem _).1 h
    have h4 : (x.length : Int) = ((sz % 7 : Nat) : Int) := PD.feas_length _ h3
    exact ⟨by omega, h2, h1⟩
  · cases h
theorem twinP_few (sz : Nat) (QL : List (Nat × Nat × Nat)) (EL : List Nat) (a b : Nat) : (twinP sz QL EL a b).length ≤ 252 := by
  unfold twinP pans
  split
  · exact PD.all_few _ _ (sz % 7) rfl (by simp; omega)
  · simp
theorem twinP_swap {sz : Nat} {QL : List (Nat × Nat × Nat)} {EL : List Nat} {a b : Nat} {x : List Nat} (ha : a < (EL.take 10).length) (hb : b < (EL.take 10).length) (h : x ∈ twinP sz QL EL a b) :
    marked (swapB (fun i => decide (i ∈ x)) a b) (EL.take 10).length ∈ twinP sz QL EL a b := by
  unfold twinP pans at h ⊢
  split at h
  · next hok =>
    rw [if_pos hok]
    refine PD.all_twins _ ha hb (fun k => ?_) h
    unfold pdOf twinS
    by_cases e : a = b
    · rw [e]
    · simp [e]
  · cases h

/-- A row of marks: 'in' while the panel is walked. -/
def markV (f : Nat → Bool) (n : Nat) : List Value := (List.range n).map fun i => .bool (f i)
theorem markV_length (f : Nat → Bool) (n : Nat) : (markV f n).length = n := by simp [markV]
theorem markV_get (f : Nat → Bool) {n i : Nat} (h : i < n) : (markV f n)[i]? = some (.bool (f i)) := by simp [markV, h]
theorem markV_none (n : Nat) : List.replicate n (Value.bool false) = markV (fun _ => false) n := by
  apply List.ext_getElem?
  intro i
  by_cases h : i < n
  · rw [markV_get _ h]; simp [h]
  · rw [List.getElem?_eq_none (by simp; omega), List.getElem?_eq_none (by rw [markV_length]; omega)]
theorem markV_set (f : Nat → Bool) {n a : Nat} (h : a < n) (v : Bool) : (markV f n).set a (.bool v) = markV (fun i => if i = a then v else f i) n := by
  apply List.ext_getElem?
  intro i
  by_cases hi : i < n
  · rw [markV_get _ hi, List.getElem?_set]
    by_cases e : a = i
    · subst e
      simp [hi, markV_length]
    · have e2 : ¬ i = a := fun h => e h.symm
      rw [if_neg e, markV_get _ hi, if_neg e2]
  · rw [List.getElem?_eq_none (by simp [markV_length]; omega), List.getElem?_eq_none (by rw [markV_length]; omega)]
def inTo (x : List Nat) (k : Nat) (i : Nat) : Bool := decide (i ∈ x.take k)
theorem inTo_succ {x : List Nat} {k j : Nat} (h : x[k]? = some j) : (fun i => if i = j then true else inTo x k i) = inTo x (k + 1) := by
  funext i
  obtain ⟨hk, e⟩ := List.getElem?_eq_some_iff.1 h
  unfold inTo
  rw [List.take_succ_eq_append_getElem hk, e]
  by_cases hi : i = j
  · subst hi; simp
  · simp [hi]
theorem inTo_all (x : List Nat) : inTo x x.length = fun i => decide (i ∈ x) := by funext i; unfold inTo; rw [List.take_length]
theorem inTo_none (x : List Nat) : inTo x 0 = fun _ => false := by funext i; simp [inTo]
theorem swap_set (f : Nat → Bool) (a b : Nat) : (fun i => if i = b then f a else if i = a then f b else f i) = swapB f a b := by
  funext i
  unfold swapB
  by_cases h1 : i = b
  · subst h1
    by_cases h2 : i = a
    · subst h2; simp
    · simp [h2]
  · simp [h1]
theorem marked_succ (f : Nat → Bool) (n : Nat) : marked f (n + 1) = if f n then marked f n ++ [n] else marked f n := by
  unfold marked
  rw [List.range_succ, List.filter_append]
  cases h : f n <;> simp [h]

set_option maxHeartbeats 2000000 in
set_option maxRecDepth 100000 in
theorem twins_any (sz : Nat) (qv ev : Value) (QL : List (Nat × Nat × Nat)) (EL : List Nat) (q0 q1 q2 : Int) (w : World) (hsz : sz ≤ 255) (hq : RowAt w.heap.size w qv QL.length (QL.flatMap q8)) (he : RowAt w.heap.size w ev EL.length (EL.map fun e : Nat => .int .u8 (e : Int)))
    (hQ : ∀ q ∈ QL, q.1 ≤ 255 ∧ q.2.1 ≤ 255 ∧ q.2.2 ≤ 255) (hE : ∀ e ∈ EL, e ≤ 255) (h0 : 0 ≤ q0 ∧ q0 ≤ 255) (h1 : 0 ≤ q1 ∧ q1 ≤ 255) (h2 : 0 ≤ q2 ∧ q2 ≤ 255) (HSAN : SanityOk) :
    Calls Tryd.prog 7 #[.agg #[.int .u8 sz, qv, ev], .agg #[.int .u8 q0, .int .u8 q1, .int .u8 q2]] w fun e w' => e = .returned (.bool true) ∧ Below w.heap.size w w' := by
  obtain ⟨h00, h01⟩ := h0
  obtain ⟨h10, h11⟩ := h1
  obtain ⟨h20, h21⟩ := h2
  have HMK : Hid (∀ W, Below w.heap.size w W → Calls Tryd.prog 11 #[.agg #[.int .u8 sz, qv, ev]] W (MakeRet sz QL EL W)) := fun W hW => make_any sz qv ev QL EL W hsz (hq.mono hW hW.size) (he.mono hW hW.size) hQ hE
  obtain ⟨aq, cq, rfl, _⟩ := hq
  obtain ⟨ae, ce, rfl, _⟩ := he
  clear hQ hE
  go_enter Tryd.func7, Tryd.ntmps7
  go_wp2_with fail
  have HB0 : Hid (Below w.heap.size w ((w.alloc (.cells #[.int .u8 sz, .slice aq QL.length cq, .slice ae EL.length ce] 25)).alloc (.cells #[.int .u8 q0, .int .u8 q1, .int .u8 q2] 27))) := ((Below.refl w.heap.size w).alloc (Nat.le_refl _) _).alloc (by simp) _
  have hbox : ((w.alloc (.cells #[.int .u8 sz, .slice aq QL.length cq, .slice ae EL.length ce] 25)).alloc (.cells #[.int .u8 q0, .int .u8 q1, .int .u8 q2] 27)).heap[w.heap.size + 1]? = some (.cells #[.int .u8 q0, .int .u8 q1, .int .u8 q2] 27 (0, 0)) := by
    have h := heap_alloc_new (w.alloc (.cells #[.int .u8 sz, .slice aq QL.length cq, .slice ae EL.length ce] 25)) (.cells #[.int .u8 q0, .int .u8 q1, .int .u8 q2] 27)
    rwa [World.size_alloc] at h
  have hbox0 : ((w.alloc (.cells #[.int .u8 sz, .slice aq QL.length cq, .slice ae EL.length ce] 25)).alloc (.cells #[.int .u8 q0, .int .u8 q1, .int .u8 q2] 27)).heap[w.heap.size]? = some (.cells #[.int .u8 sz, .slice aq QL.length cq, .slice ae EL.length ce] 25 (0, 0)) :=
    (Below.heap_alloc _ _ _ (by simp)).trans (heap_alloc_new w _)
  refine (HSAN _).mono ?_
  rintro e w1 ⟨rfl, hb1⟩
  have HB1 : Hid (Below w.heap.size w w1) := HB0.out.trans (hb1.mono HB0.out.size)
  have hx1 := (hb1.block (w.heap.size + 1) (by simp)).trans hbox
  have hx0 := (hb1.block w.heap.size (by simp; omega)).trans hbox0
  have hz : w.heap.size + 1 < w1.heap.size := (Array.getElem?_eq_some_iff.1 hx1).1
  have p0 : w1.cell? ⟨w.heap.size, 0, none⟩ = some (.int .u8 sz) := by rw [cell_of_row w1 _ _ _ _ _ hx0]; rfl
  have p1 : w1.cell? ⟨w.heap.size, 1, none⟩ = some (.slice aq QL.length cq) := by rw [cell_of_row w1 _ _ _ _ _ hx0]; rfl
  have p2 : w1.cell? ⟨w.heap.size, 2, none⟩ = some (.slice ae EL.length ce) := by rw [cell_of_row w1 _ _ _ _ _ hx0]; rfl
  have plt := cell_lt p0
  have HBOX : Hid (∀ W, Below w1.heap.size w1 W → W.cell? ⟨w.heap.size + 1, 0, none⟩ = some (.int .u8 q0) ∧ W.cell? ⟨w.heap.size + 1, 1, none⟩ = some (.int .u8 q1) ∧ W.cell? ⟨w.heap.size + 1, 2, none⟩ = some (.int .u8 q2)) := fun W hW => by
    have h := (hW.block _ hz).trans hx1
    exact ⟨by rw [cell_of_row W _ _ _ _ _ h]; rfl, by rw [cell_of_row W _ _ _ _ _ h]; rfl, by rw [cell_of_row W _ _ _ _ _ h]; rfl⟩
  clear hb1 hbox hbox0 hx1 hx0
  go_wp2_with fail
  refine (HMK.out _ HB1.out).mono ?_
  rintro e w2 ⟨q, lv, L, rfl, hqo, hlo, hL, hg, hb2⟩
  have HB2 := Lib.hid (HB1.out.trans (hb2.mono HB1.out.size))
  have HB12 : Hid (Below w1.heap.size w1 w2) := hb2
  have hs2 := HB2.out.size
  have hs12 := hb2.size
  obtain ⟨S, hS⟩ : ∃ S, S = sz % 7 := ⟨_, rfl⟩
  obtain ⟨n, hn⟩ : ∃ n, n = L.length := ⟨_, rfl⟩
  obtain ⟨m, hm⟩ : ∃ m, m = (planQ QL).length := ⟨_, rfl⟩
  have hn10 : n ≤ 10 := by rw [hn, hL]; simp; omega
  have hS6 : S ≤ 6 := by omega
  have hLn : L.length = n := hn.symm
  have HNE : Hid (n = (EL.take 10).length) := by show _ = _; rw [hn, hL]
  have HQO : Hid (w2.ownsRow w1.heap.size 52 3 q (planQ QL).length (quosV (planQ QL))) := hqo
  have HLO : Hid (w2.ownsRow w1.heap.size 56 6 lv n (entsV L)) := by show w2.ownsRow _ _ _ _ _ _; rw [hn]; exact hlo
  have HG := Lib.hid hg
  have HLN := Lib.hid hLn
  obtain ⟨aqq, cqq, hqq, _⟩ := plan_quo hqo
  obtain ⟨al, cl, hll, _⟩ := plan_ent hlo hg
  rw [← hm] at hqq
  rw [← hn] at hll
  subst hqq hll
  have HMM := Lib.hid hm
  have HSS := Lib.hid hS
  rw [← hS]
  clear hn hm hS hL hqo hlo hg hb2 hLn
  have HDR : Hid (∀ (gs : Nat → List ByteArray) (W : World), W.ownsRow w1.heap.size 52 3 (.slice aqq m cqq) (planQ QL).length (quosV (planQ QL)) → EntAt W.heap.size W (.slice al n cl) n gs → (∀ i, (gs i).length ≤ 1000000) → DrawIn W (planD S (.slice aqq m cqq)) (.slice al n cl) n m (planG QL) (planL QL) (planH QL) gs) := fun gs W h1 h2 h3 =>
    ⟨plan_flat _ _, by have h := plan_quo h1; rw [← HMM.out] at h; exact h, h2, h3⟩
  obtain ⟨ps, hps⟩ : ∃ ps, ps = planP sz QL EL := ⟨_, rfl⟩
  obtain ⟨np, hnp⟩ : ∃ np, np = ps.length := ⟨_, rfl⟩
  have hfew : np ≤ 252 := by rw [hnp, hps]; exact planP_few _ _ _
  have HNP := Lib.hid hnp
  have HPS := Lib.hid hps
  clear hnp hps
  have HALL : Hid (∀ W, Below w2.heap.size w2 W → Calls Tryd.prog 15 #[.agg #[.string ⟨#[112, 97, 110, 101, 108]⟩, .int .i64 3, .int .i64 5, .int .i64 0, .int .i64 0, .int .i64 0, .slice none 0 0, .bool false, .slice none 0 0, .int .i64 0, .int .i64 S, .slice aqq m cqq, .slice none 0 0], .slice al n cl, .int .i64 1000] W fun e w' => ∃ v, e = .returned (.tuple #[v, .bool true]) ∧ RowsAt w'.heap.size w' v (ps.map intsOf) ∧ Below W.heap.size W w') := fun W hW => by
    have hD := HDR.out (planS EL) W (ownsRow_below HQO.out hW) (by
      have h := plan_ent (EL := EL) (w := W) (B := w1.heap.size) (lv := .slice al n cl) (L := L) (by rw [HLN.out]; exact ownsRow_below HLO.out hW) (fun i p hp => by
        obtain ⟨h1, e, h2, h3⟩ := HG.out i p hp
        exact ⟨h1, e, h2, h3.later hW⟩)
      rwa [HLN.out] at h) (fun i => by have := grpsOf_length (EL[i]?.getD 0); unfold planS; omega)
    have h := qAll_any _ _ _ _ _ _ _ _ 1000 W hD
    have e0 : pans (planD S (.slice aqq m cqq)) n m (planG QL) (planL QL) (planH QL) (planS EL) = ps := by rw [HPS.out, HSS.out, HNE.out, HMM.out]; rfl
    have e1 : ps.length ≤ (1000 : Int).toNat := by rw [← HNP.out]; show np ≤ 1000; omega
    rw [e0, List.take_of_length_le e1, decide_eq_true e1] at h
    exact h
  unfold planD DrawC.arr
  dsimp only
  go_wp2_with fail
  have HB3 : Hid (Below w2.heap.size w2 (w2.alloc (.cells #[.string ⟨#[112, 97, 110, 101, 108]⟩, .int .i64 3, .int .i64 5, .int .i64 0, .int .i64 0, .int .i64 0, .slice none 0 0, .bool false, .slice none 0 0, .int .i64 0, .int .i64 S, .slice aqq m cqq, .slice none 0 0] 33))) := (Below.refl _ _).alloc (Nat.le_refl _) _
  have ht2 : (w2.alloc (.cells #[.string ⟨#[112, 97, 110, 101, 108]⟩, .int .i64 3, .int .i64 5, .int .i64 0, .int .i64 0, .int .i64 0, .slice none 0 0, .bool false, .slice none 0 0, .int .i64 0, .int .i64 S, .slice aqq m cqq, .slice none 0 0] 33)).heap[w2.heap.size]? = some (.cells #[.string ⟨#[112, 97, 110, 101, 108]⟩, .int .i64 3, .int .i64 5, .int .i64 0, .int .i64 0, .int .i64 0, .slice none 0 0, .bool false, .slice none 0 0, .int .i64 0, .int .i64 S, .slice aqq m cqq, .slice none 0 0] 33 (0, 0)) := heap_alloc_new w2 _
  refine (HALL.out _ HB3.out).mono ?_
  rintro e w4 ⟨v4, rfl, hr4, hb4⟩
  have HB4 : Hid (Below w2.heap.size w2 w4) := HB3.out.trans (hb4.mono HB3.out.size)
  have ht4 := (hb4.block _ (by simp)).trans ht2
  have HT4 := Lib.hid ht4
  obtain ⟨ar, cr, hv4, _⟩ := id hr4
  rw [List.length_map, ← HNP.out] at hv4
  subst hv4
  have hs4 := HB4.out.size
  clear hr4 hb4 ht2 ht4 p0 p1 p2
  by_cases hnp0 : np = 0
  · subst hnp0
    go_wp2_with fail
    go_ret
    exact ⟨rfl, HB2.out.trans (HB4.out.mono HB2.out.size)⟩
  by_cases hn2 : n < 2
  · have hnp1 : ((np : Int) == 0) = false := by simp; omega
    have hn2z : (n : Int) < 2 := by omega
    clear hnp0
    go_wp2_with fail
    go_ret
    exact ⟨rfl, HB2.out.trans (HB4.out.mono HB2.out.size)⟩
  have hnp1 : ((np : Int) == 0) = false := by simp; omega
  have hn2z : ¬ (n : Int) < 2 := by omega
  clear hnp0
  rcases own_get HLO.out with ⟨_, h⟩ | ⟨lb, cl', e, hlb1, hlb2, _⟩
  · omega
  injection e with e1 _ e2
  subst e1 e2
  obtain ⟨a, ha⟩ : ∃ a : Nat, q1 % (n : Int) = a := ⟨(q1 % (n : Int)).toNat, by have := Int.emod_nonneg q1 (show (n : Int) ≠ 0 by omega); omega⟩
  obtain ⟨b, hb⟩ : ∃ b : Nat, q2 % (n : Int) = b := ⟨(q2 % (n : Int)).toNat, by have := Int.emod_nonneg q2 (show (n : Int) ≠ 0 by omega); omega⟩
  have han : a < n := by have := Int.emod_lt_of_pos q1 (show (0 : Int) < n by omega); omega
  have hbn : b < n := by have := Int.emod_lt_of_pos q2 (show (0 : Int) < n by omega); omega
  have ta : q1.tmod (n : Int) = a := by rw [Int.tmod_eq_emod_of_nonneg h10]; exact ha
  have tb : q2.tmod (n : Int) = b := by rw [Int.tmod_eq_emod_of_nonneg h20]; exact hb
  have hn0 : ((n : Int) == 0) = false := by simp; omega
  obtain ⟨k0, k1, k2⟩ := HBOX.out w4 (HB12.out.trans (HB4.out.mono hs12))
  have klt := cell_lt k0
  have hnz : ¬ n = 0 := by omega
  have hw1 : IntKind.i64.wrap q1 = q1 := IntWalk.i64_in _ (by omega)
  have hw2 : IntKind.i64.wrap q2 = q2 := IntWalk.i64_in _ (by omega)
  go_wp2_with fail
  refine wp_region_class (Kept _) (by kernel_rfl) (by kernel_rfl) (Kept.drew _) ?_
  repeat (first
    | go_big_quiet_skip
    | (refine BigFrame.wpQuiet_want (by rfl) (fun K hK => ?_)
       first
         | (refine BigFrame.quiet_move _ rfl ?_; refine hK _ ?_)
         | (refine BigFrame.quiet_assign _ rfl ?_; refine hK _ ?_)
         | (apply Exists.intro; refine ⟨fun w' hC => ?_, hK _ ?_⟩
            · (obtain ⟨hcl, hfr⟩ := bcell hC.1; unfold Oper.quietAt; go_simp; first | rfl | fail))
       simp only [Act.put, Act.eval, List.setIfInBounds_toArray, List.set_cons_zero, List.set_cons_succ, Array.getD_eq_getD_getElem?, List.getElem?_toArray, List.getElem?_cons_succ, List.getElem?_cons_zero, Option.getD_some]
       clear hK K))
  refine wpQuiet_nil ?_
  intro wq hCq
  have HBQ : Hid (Below w2.heap.size w2 wq) := hCq.below HB4.out HB4.out.size
  have hsq := HBQ.out.size
  have HTQ : Hid (wq.heap[w2.heap.size]? = some (.cells #[.string ⟨#[112, 97, 110, 101, 108]⟩, .int .i64 3, .int .i64 5, .int .i64 0, .int .i64 0, .int .i64 0, .slice none 0 0, .bool false, .slice none 0 0, .int .i64 0, .int .i64 S, .slice aqq m cqq, .slice none 0 0] 33 (0, 0))) := by
    have h := (hCq.below (Below.refl w4.heap.size w4) (Nat.le_refl _)).block w2.heap.size (Array.getElem?_eq_some_iff.1 HT4.out).1
    exact h.trans HT4.out
  clear hCq k0 k1 k2 klt hw1 hw2 ta tb ha hb
  -- the groups of a are put in the place of those of b
  obtain ⟨pa, hpa⟩ : ∃ p, L[a]? = some p := ⟨_, List.getElem?_eq_getElem (by rw [HLN.out]; exact han)⟩
  obtain ⟨pb, hpb⟩ : ∃ p, L[b]? = some p := ⟨_, List.getElem?_eq_getElem (by rw [HLN.out]; exact hbn)⟩
  have HLQ := Lib.hid (ownsRow_below HLO.out HBQ.out)
  have HQQ := Lib.hid (ownsRow_below HQO.out HBQ.out)
  rcases own_get HLQ.out with ⟨h, _⟩ | ⟨lb', cl', e, _, hlq, hcell⟩
  · cases h
  injection e with e1 _ e2
  injection e1 with e1
  injection e1 with e1 _ _
  subst e1 e2
  have ca := hcell (a * 6 + 5) pa.2 ((flat_get entV 6 (fun _ => rfl) L a 5 pa hpa (by decide)).trans rfl)
  have cb := hcell (b * 6 + 5) pb.2 ((flat_get entV 6 (fun _ => rfl) L b 5 pb hpb (by decide)).trans rfl)
  have fb := World.ownsRow.frozenAt HLQ.out (b * 6 + 5)
  obtain ⟨ga, gn, gc, hga⟩ : ∃ ga gn gc, pa.2 = .slice ga gn gc := by
    obtain ⟨_, e, _, h⟩ := HG.out a pa hpa
    rcases h.2 with ⟨h, _⟩ | ⟨g', c', cur', h, _⟩ <;> exact ⟨_, _, _, h⟩
  rw [hga] at ca
  have hanz : (a : Int) < n := by omega
  have hbnz : (b : Int) < n := by omega
  have HPA := Lib.hid hpa
  have HPB := Lib.hid hpb
  have HGA := Lib.hid hga
  clear hpa hpb hga hcell
  go_upto_region 8 with (fail)
  obtain ⟨W5, hW5⟩ : ∃ W5, W5 = wq.setCell ⟨lb, b * 6 + 5, none⟩ (.slice ga gn gc) := ⟨_, rfl⟩
  rw [← hW5]
  have hne : ∀ {e : TypeId} {B s k : Nat} {v : Value} {xs : List Value}, wq.ownsRow B e s v k xs → e ≠ 56 → W5.ownsRow B e s v k xs := fun h hd => by
    rw [hW5]
    exact own_keep h fun bb hb => heap_setCell_other _ _ _ _ fun e => own_apart2 h HLQ.out hd hb (by rw [e]; rfl)
  have HLS : Hid (W5.ownsRow w1.heap.size 56 6 (.slice (some ⟨lb, 0, none⟩) n cl) n (entsV (L.set b (pb.1, .slice ga gn gc)))) := by
    show W5.ownsRow _ _ _ _ _ _
    rw [hW5, ← entsV_set _ L b pb HPB.out]
    exact (World.ownsRow.stored HLQ.out _ _).1
  have HQS : Hid (W5.ownsRow w1.heap.size 52 3 (.slice aqq m cqq) (planQ QL).length (quosV (planQ QL))) := hne HQQ.out (by decide)
  have HGS : Hid (∀ (i : Nat) p, (L.set b (pb.1, .slice ga gn gc))[i]? = some p → GrpAt W5 p.2 (twinS EL a b i)) := fun i p hp => by
    have hk : ∀ {v : Value} {gs : List ByteArray}, GrpAt w2 v gs → GrpAt W5 v gs := fun h => hne (h.later HBQ.out) (by decide)
    rw [List.getElem?_set] at hp
    unfold twinS planS
    by_cases e : b = i
    · subst e
      rw [if_pos rfl, if_pos (by rw [HLN.out]; exact hbn)] at hp
      obtain rfl := Option.some.inj hp
      obtain ⟨_, e, h2, h3⟩ := HG.out a pa HPA.out
      rw [if_pos rfl, h2, ← HGA.out]
      exact hk h3
    · rw [if_neg e] at hp
      obtain ⟨_, e', h2, h3⟩ := HG.out i p hp
      rw [if_neg (fun h => e h.symm), h2]
      exact hk h3
  have HBS : Hid (Below w1.heap.size w1 W5) := by
    show Below _ _ _
    rw [hW5]
    exact (HB12.out.trans (HBQ.out.mono hs12)).setCell hlb1 _
  have ht5 : W5.heap[w2.heap.size]? = some (.cells #[.string ⟨#[112, 97, 110, 101, 108]⟩, .int .i64 3, .int .i64 5, .int .i64 0, .int .i64 0, .int .i64 0, .slice none 0 0, .bool false, .slice none 0 0, .int .i64 0, .int .i64 S, .slice aqq m cqq, .slice none 0 0] 33 (0, 0)) := by
    rw [hW5]
    exact (heap_setCell_other _ _ _ _ (by show w2.heap.size ≠ lb; omega)).trans HTQ.out
  have HT5 : Hid (∀ W, Below W5.heap.size W5 W → W.heap[w2.heap.size]? = some (.cells #[.string ⟨#[112, 97, 110, 101, 108]⟩, .int .i64 3, .int .i64 5, .int .i64 0, .int .i64 0, .int .i64 0, .slice none 0 0, .bool false, .slice none 0 0, .int .i64 0, .int .i64 S, .slice aqq m cqq, .slice none 0 0] 33 (0, 0))) := fun W hW => (hW.block _ (Array.getElem?_eq_some_iff.1 ht5).1).trans ht5
  clear hW5 hne ca cb fb
  obtain ⟨ps2, hps2⟩ : ∃ ps, ps = twinP sz QL EL a b := ⟨_, rfl⟩
  obtain ⟨np2, hnp2⟩ : ∃ np, np = ps2.length := ⟨_, rfl⟩
  have hfew2 : np2 ≤ 252 := by rw [hnp2, hps2]; exact twinP_few _ _ _ _ _
  have HMEM2 : Hid (∀ x ∈ ps2, x.length = S ∧ (∀ j ∈ x, j < n) ∧ marked (swapB (fun i => decide (i ∈ x)) a b) n ∈ ps2) := fun x hx => by
    rw [hps2] at hx ⊢
    have h := twinP_mem hx
    rw [HSS.out, HNE.out]
    exact ⟨h.1, h.2.1, twinP_swap (by rw [← HNE.out]; exact han) (by rw [← HNE.out]; exact hbn) hx⟩
  have HNP2 := Lib.hid hnp2
  have HPS2 := Lib.hid hps2
  have HD2 : Hid (∀ W, Below W5.heap.size W5 W → DrawIn W (planD S (.slice aqq m cqq)) (.slice (some ⟨lb, 0, none⟩) n cl) n m (planG QL) (planL QL) (planH QL) (twinS EL a b)) := fun W hW => by
    have hl : (L.set b (pb.1, .slice ga gn gc)).length = n := by rw [List.length_set]; exact HLN.out
    refine HDR.out (twinS EL a b) W (ownsRow_below HQS.out hW) ?_ (fun i => ?_)
    · have h := ents_at (gs := twinS EL a b) (l := L.set b (pb.1, .slice ga gn gc)) (w := W) (B := w1.heap.size) (v := .slice (some ⟨lb, 0, none⟩) n cl) (by rw [hl]; exact ownsRow_below HLS.out hW) (fun i p hp => ((HGS.out i p hp).later hW).strs)
      rwa [hl] at h
    · unfold twinS planS
      split
      · have := grpsOf_length (EL[a]?.getD 0); omega
      · have := grpsOf_length (EL[i]?.getD 0); omega
  have HPE2 : Hid (pans (planD S (.slice aqq m cqq)) n m (planG QL) (planL QL) (planH QL) (twinS EL a b) = ps2) := by show _ = _; rw [HPS2.out, HSS.out, HNE.out, HMM.out]; rfl
  have HALL2 : Hid (∀ W, Below W5.heap.size W5 W → Calls Tryd.prog 15 #[.agg #[.string ⟨#[112, 97, 110, 101, 108]⟩, .int .i64 3, .int .i64 5, .int .i64 0, .int .i64 0, .int .i64 0, .slice none 0 0, .bool false, .slice none 0 0, .int .i64 0, .int .i64 S, .slice aqq m cqq, .slice none 0 0], .slice (some ⟨lb, 0, none⟩) n cl, .int .i64 1000] W fun e w' => ∃ v, e = .returned (.tuple #[v, .bool true]) ∧ RowsAt w'.heap.size w' v (ps2.map intsOf) ∧ Below W.heap.size W w') := fun W hW => by
    have h := qAll_any _ _ _ _ _ _ _ _ 1000 W (HD2.out W hW)
    have e1 : ps2.length ≤ (1000 : Int).toNat := by rw [← HNP2.out]; show np2 ≤ 1000; omega
    rw [HPE2.out, List.take_of_length_le e1, decide_eq_true e1] at h
    exact h
  have HFEA2 : Hid (∀ W pv y, Below W5.heap.size W5 W → y ∈ ps2 → y.length ≤ 1000000 → IntsAt W.heap.size W pv (intsOf y) → Calls Tryd.prog 13 #[.agg #[.string ⟨#[112, 97, 110, 101, 108]⟩, .int .i64 3, .int .i64 5, .int .i64 0, .int .i64 0, .int .i64 0, .slice none 0 0, .bool false, .slice none 0 0, .int .i64 0, .int .i64 S, .slice aqq m cqq, .slice none 0 0], .slice (some ⟨lb, 0, none⟩) n cl, pv] W fun e w' => e = .returned (.bool true) ∧ Below W.heap.size W w') := fun W pv y hW hy hl hp => by
    have h := qFeas_any _ _ pv (intsOf y) _ _ _ _ _ _ W (HD2.out W hW) hp (by rw [intsOf_length]; exact hl)
    rw [HPE2.out, isPan_iff.2 ⟨y, hy, rfl⟩] at h
    exact h
  clear hnp2 hps2
  obtain ⟨d0, d1, d2, d3, d4, d5, d6, d7, d8, d9, d10, d11, d12⟩ := cells13 ht5
  have dlt := cell_lt d0
  clear ht5
  go_wp2_with fail
  refine (HALL2.out _ (Below.refl _ _)).mono ?_
  rintro e w6 ⟨v6, rfl, hr6, hb6⟩
  have HB6 : Hid (Below W5.heap.size W5 w6) := hb6
  have HR6 := Lib.hid hr6
  obtain ⟨ar2, cr2, hv6, _⟩ := id hr6
  rw [List.length_map, ← HNP2.out] at hv6
  subst hv6
  have HBW6 : Hid (Below w.heap.size w w6) := HB1.out.trans ((HBS.out.trans (hb6.mono HBS.out.size)).mono HB1.out.size)
  obtain ⟨k0, k1, k2⟩ := HBOX.out w6 (HBS.out.trans (hb6.mono HBS.out.size))
  have klt := cell_lt k0
  clear hr6 hb6 d0 d1 d2 d3 d4 d5 d6 d7 d8 d9 d10 d11 d12 dlt k1 k2
  by_cases hnp0 : np2 = 0
  · subst hnp0
    go_wp2_with fail
    go_ret
    exact ⟨rfl, HBW6.out⟩
  have hnp3 : ((np2 : Int) == 0) = false := by simp; omega
  obtain ⟨t, ht⟩ : ∃ a : Nat, q0 % (np2 : Int) = a := ⟨(q0 % (np2 : Int)).toNat, by have := Int.emod_nonneg q0 (show (np2 : Int) ≠ 0 by omega); omega⟩
  have htn : t < np2 := by have := Int.emod_lt_of_pos q0 (show (0 : Int) < np2 by omega); omega
  have htz : (t : Int) < np2 := by omega
  have tt : q0.tmod (np2 : Int) = t := by rw [Int.tmod_eq_emod_of_nonneg h00]; exact ht
  obtain ⟨X, hX⟩ : ∃ X, ps2[t]? = some X := ⟨_, List.getElem?_eq_getElem (by rw [← HNP2.out]; exact htn)⟩
  obtain ⟨br, fr, ax, cx, rfl, hbr, r1, _, hxe⟩ := rows_get HR6.out hX
  obtain ⟨hXS, hXn, hXm⟩ := HMEM2.out X (List.mem_of_getElem? hX)
  rw [hXS] at r1
  have l1 := cell_lt r1
  have HXE := Lib.hid hxe
  have HXS := Lib.hid hXS
  have HXN := Lib.hid hXn
  have HXM := Lib.hid hXm
  clear hxe hXS hXn hXm hX hnp0
  obtain ⟨i1, hi1, hz10, hz11, hz12⟩ := info_parts Tryd.infoBool
  go_wp2_with (at_make; refine wpList_make_full _ rfl _ _ 61 rfl w6.heap.size 4 i1 (.bool false) 1 Tryd.underlying61 hi1 hz10 hz11 _ _ _ _ n rfl rfl ?m1 ?m2 ?m3 ?m4 ?m5 ?_)
  case m1 => rfl
  case m2 => rfl
  case m3 => rw [hz12]; omega
  case m4 => unfold maxLen; omega
  case m5 => exact Nat.le_refl _
  intro w7 hown7 hgrow7
  have hO7 := OwnL.made hown7
  rw [markV_none] at hO7
  have HB7 : Hid (Below w6.heap.size w6 w7) := (Below.refl _ _).grown hgrow7 (Nat.le_refl _) (fun j hj => by cases hj)
  have HO7 : Hid (OwnL 4 w7 w6.heap.size w6.heap.size n (markV (inTo X 0) n)) := by rw [inTo_none]; exact hO7
  clear hown7 hgrow7 hO7 hi1 hz10 hz11 hz12 r1 l1 k0 klt tt ht
  go_wp2_with fail
  obtain ⟨G, hG⟩ : ∃ G, G = w6.heap.size := ⟨_, rfl⟩
  have HGE := Lib.hid hG
  rw [← hG] at HO7
  rw [← hG]
  clear hG
  go_loopw [14] (fun i wr => ∃ k : Nat, k ≤ S ∧ i = .int .i64 k ∧ Hid (OwnL 4 wr G G n (markV (inTo X k) n)) ∧ Hid (Below w6.heap.size w6 wr)) (fun i _ => S - (intOf i).toNat)
  case atStart => exact ⟨0, Nat.zero_le _, rfl, HO7, HB7.out⟩
  case round =>
    obtain ⟨k, hk, rfl, HO, HBX⟩ := hrel
    by_cases hkt : k < S
    · have hkz : (k : Int) < S := by omega
      obtain ⟨j, hj⟩ : ∃ j, X[k]? = some j := ⟨_, List.getElem?_eq_getElem (by rw [HXS.out]; exact hkt)⟩
      have hjn : j < n := HXN.out j (List.mem_of_getElem? hj)
      obtain ⟨bX, oX, rfl, hbX, z1⟩ := HXE.out k j hj
      have x1 := (HBX.out.cell (p := ⟨bX, _, none⟩) hbX).trans z1
      have xlt := cell_lt x1
      have hjz : (j : Int) < n := by omega
      have hjnn : decide (n ≤ j) = false := decide_eq_false (by omega)
      have hjnz : ¬ (n : Int) ≤ j := by omega
      have s1 := HO.out.cell (markV_get (inTo X k) hjn)
      have s2 := HO.out.free j
      have HO2 : Hid (OwnL 4 (wr.setCell ⟨G, j, none⟩ (.bool true)) G G n (markV (inTo X (k + 1)) n)) := by
        have h := HO.out.set j (.bool true)
        rw [markV_set _ hjn, inTo_succ hj] at h
        exact h
      have HB2' : Hid (Below w6.heap.size w6 (wr.setCell ⟨G, j, none⟩ (.bool true))) := HBX.out.setCell (by show w6.heap.size ≤ G; rw [HGE.out]; exact Nat.le_refl _) _
      clear z1 hj
      go_wp2_with fail
      go_roundw
      case rel => exact ⟨k + 1, by omega, by go_num, HO2, HB2'⟩
      case measure => simp [intOf]; omega
    · have HKS : Hid (k = S) := by show k = S; omega
      obtain ⟨f, hf⟩ : ∃ f : Nat → Bool, f = fun i => decide (i ∈ X) := ⟨_, rfl⟩
      have HF := Lib.hid hf
      have HO8 : Hid (OwnL 4 wr G G n (markV f n)) := by
        have h := HO.out
        rw [HKS.out, ← HXS.out, inTo_all, ← hf] at h
        exact h
      clear hf HO
      have sa := HO8.out.cell (markV_get f han)
      have sb := HO8.out.cell (markV_get f hbn)
      have fa := HO8.out.free a
      have fb := HO8.out.free b
      have slt := cell_lt sa
      have HO9 : Hid (OwnL 4 (wr.setCell ⟨G, a, none⟩ (.bool (f b))) G G n (markV (fun i => if i = a then f b else f i) n)) := by
        have h := HO8.out.set a (.bool (f b))
        rw [markV_set _ han] at h
        exact h
      obtain ⟨vb, sb2⟩ : ∃ v, (wr.setCell ⟨G, a, none⟩ (.bool (f b))).cell? ⟨G, b, none⟩ = some v := ⟨_, HO9.out.cell (markV_get _ hbn)⟩
      have fb2 := HO9.out.free b
      have HO10 : Hid (OwnL 4 ((wr.setCell ⟨G, a, none⟩ (.bool (f b))).setCell ⟨G, b, none⟩ (.bool (f a))) G G n (markV (swapB f a b) n)) := by
        have h := HO9.out.set b (.bool (f a))
        rw [markV_set _ hbn] at h
        have e : (fun i => if i = b then f a else (fun i => if i = a then f b else f i) i) = swapB f a b := swap_set f a b
        rw [e] at h
        exact h
      have hGle : w6.heap.size ≤ G := by rw [HGE.out]; exact Nat.le_refl _
      have HB8 : Hid (Below w6.heap.size w6 ((wr.setCell ⟨G, a, none⟩ (.bool (f b))).setCell ⟨G, b, none⟩ (.bool (f a)))) := (HBX.out.setCell hGle _).setCell hGle _
      go_upto_region 19 with (fail)
      go_region
      all_goals
        obtain ⟨W9, hW9⟩ : ∃ W9, W9 = ((wr.setCell ⟨G, a, none⟩ (.bool (f b))).setCell ⟨G, b, none⟩ (.bool (f a))).drew := ⟨_, rfl⟩
        rw [← hW9]
        have HM9 : Hid (OwnL 4 W9 G G n (markV (swapB f a b) n)) := by show OwnL _ _ _ _ _ _; rw [hW9]; exact HO10.out.drew
        have HB9 : Hid (Below w6.heap.size w6 W9) := by show Below _ _ _; rw [hW9]; exact HB8.out.drew
        obtain ⟨F, hF⟩ : ∃ F, F = swapB f a b := ⟨_, rfl⟩
        have HFE := Lib.hid hF
        rw [← hF] at HM9
        clear hW9 hF sa sb fa fb sb2 fb2 slt HO9 HO10 HO8 HB8
        obtain ⟨i2, hi2, hz20, hz21, hz22⟩ := info_parts Tryd.infoCh
        have HI2 := Lib.hid (⟨hi2, hz20, hz21, hz22⟩ : Tryd.prog.info? 3 = some i2 ∧ i2.zero = some _ ∧ i2.size = 1 ∧ i2.bytes = 8)
        clear hi2 hz20 hz21 hz22
        have HGL := Lib.hid HM9.out.lt
        go_wp2_with fail
        go_loopw [15, 16] (fun yv i wr => ∃ k : Nat, k ≤ n ∧ i = .int .i64 k ∧ Hid (wr.ownsRow W9.heap.size 3 1 yv (marked F k).length ((marked F k).map fun j : Nat => Value.int .i64 (j : Int))) ∧ Hid (Below W9.heap.size W9 wr)) (fun _ i _ => n - (intOf i).toNat)
        case atStart => exact ⟨0, Nat.zero_le _, rfl, World.ownsRow_nil _ _ _ _, Below.refl _ _⟩
        case round =>
          obtain ⟨k, hk, rfl, HY, HBY⟩ := hrel
          have hsy := HBY.out.size
          by_cases hkn : k < n
          · have hknz : (k : Int) < n := by omega
            have hm := (HM9.out.later HBY.out HGL.out.2).cell (markV_get F hkn)
            have mlt := cell_lt hm
            have hmk : (marked F k).length ≤ k := by
              unfold marked
              exact Nat.le_trans (List.length_filter_le _ _) (by simp)
            have HMK2 := Lib.hid hmk
            cases hFk : F k with
            | false =>
              rw [hFk] at hm
              have HM2 : Hid (wr.ownsRow W9.heap.size 3 1 u15 (marked F (k + 1)).length ((marked F (k + 1)).map fun j : Nat => Value.int .i64 (j : Int))) := by
                show wr.ownsRow _ _ _ _ _ _
                rw [marked_succ, hFk, if_neg (by decide)]; exact HY.out
              clear hFk hmk
              go_wp2_with fail
              go_roundw
              case rel => exact ⟨k + 1, by omega, by go_num, HM2, HBY⟩
              case measure => simp [intOf]; omega
            | true =>
              rw [hFk] at hm
              have HM2 : Hid (marked F (k + 1) = marked F k ++ [k]) := by show _ = _; rw [marked_succ, hFk, if_pos rfl]
              clear hFk hmk
              go_wp2_with (at_builtin; refine wpList_append_own _ rfl _ _ 26 rfl W9.heap.size 3 i2 _ 1 8 Tryd.underlying26 HI2.out.1 HI2.out.2.1 HI2.out.2.2.1 HI2.out.2.2.2 rfl (by decide) _ _ _ rfl (HY.out.alloc _) ⟨wr.heap.size, 0, none⟩ 1 1 [.int .i64 (k : Int)] rfl rfl ?y1 ?y2 ?y3 ?y4 ?y5 ?_)
              case y1 => exact cell_one_new _ _ _
              case y2 => intro u hu; simp at hu; subst hu; rfl
              case y3 => have := HMK2.out; unfold maxLen; omega
              case y4 => have := HMK2.out; omega
              case y5 => simp; omega
              intro v' w2' hown' hgrow _
              have HY2 : Hid (w2'.ownsRow W9.heap.size 3 1 v' (marked F (k + 1)).length ((marked F (k + 1)).map fun j : Nat => Value.int .i64 (j : Int))) := by
                show w2'.ownsRow _ _ _ _ _ _
                rw [HM2.out, List.length_append, List.map_append]; exact hown'
              have HBY2 : Hid (Below W9.heap.size W9 w2') := (HBY.out.alloc hsy _).grown hgrow (by simp; omega) (fun j hj => (HY.out.lt j hj).1)
              clear hown' hgrow hm
              go_wp2_with fail
              go_roundw
              case rel => exact ⟨k + 1, by omega, by go_num, HY2, HBY2⟩
              case measure => simp [intOf]; omega
          · have HKN : Hid (k = n) := by show k = n; omega
            have HBW : Hid (Below W5.heap.size W5 wr) := HB6.out.trans ((HB9.out.trans (HBY.out.mono HB9.out.size)).mono HB6.out.size)
            have HYI : Hid (IntsAt wr.heap.size wr u15 (intsOf (marked F n))) := by
              have h := HY.out
              rw [HKN.out] at h
              have el : (intsOf (marked F n)).map (Value.int .i64) = (marked F n).map fun j : Nat => Value.int .i64 (j : Int) := by simp [intOf, intsOf]
              show RowAt _ _ _ _ _
              rw [el, intsOf_length]
              rcases own_get h with ⟨rfl, h0⟩ | ⟨g, cap, rfl, h1, h2, h3⟩
              · rw [h0]
                exact ⟨none, 0, rfl, fun j u hu => by
                  have := (List.getElem?_eq_some_iff.1 hu).1
                  simp at this; omega⟩
              · exact ⟨_, cap, rfl, fun j u hu => ⟨g, 0, rfl, h2, by rw [Nat.zero_add]; exact h3 j u hu⟩⟩
            have HFF : Hid (Calls Tryd.prog 13 #[.agg #[.string ⟨#[112, 97, 110, 101, 108]⟩, .int .i64 3, .int .i64 5, .int .i64 0, .int .i64 0, .int .i64 0, .slice none 0 0, .bool false, .slice none 0 0, .int .i64 0, .int .i64 S, .slice aqq m cqq, .slice none 0 0], .slice (some ⟨lb, 0, none⟩) n cl, u15] wr fun e w' => e = .returned (.bool true) ∧ Below wr.heap.size wr w') := by
              have hmem : marked F n ∈ ps2 := by rw [HFE.out, HF.out]; exact HXM.out
              exact HFEA2.out wr _ (marked F n) HBW.out hmem (by rw [(HMEM2.out _ hmem).1]; omega) HYI.out
            obtain ⟨d0, d1, d2, d3, d4, d5, d6, d7, d8, d9, d10, d11, d12⟩ := cells13 (HT5.out wr HBW.out)
            have dlt := cell_lt d0
            go_wp2_with fail
            refine HFF.out.mono ?_
            rintro e wz ⟨rfl, hbz⟩
            have HEND : Hid (Below w.heap.size w wz) := HB1.out.trans ((HBS.out.trans ((HBW.out.trans (hbz.mono HBW.out.size)).mono HBS.out.size)).mono HB1.out.size)
            clear hbz d0 d1 d2 d3 d4 d5 d6 d7 d8 d9 d10 d11 d12 dlt
            go_wp2_with fail
            go_ret
            exact ⟨rfl, HEND.out⟩

end Go.Proofs.YtebigkjilklodaaDoor

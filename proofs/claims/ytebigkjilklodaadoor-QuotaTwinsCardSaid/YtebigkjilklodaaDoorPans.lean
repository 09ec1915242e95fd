/- 'sorteslaw15.QuotaPanels': the whole law, over the contract of its sanity. -/
import Derived.Test.YtebigkjilklodaaDoorMake
import Derived.Test.YtebigkjilklodaaDoorLexLaw
import Derived.Test.YtebigkjilklodaaDoorQuoF
import Derived.Test.YtebigkjilklodaaDoorSans
import Derived.Test.YtebigkjilklodaaDoorSubC
set_option linter.unusedVariables false
set_option linter.unusedSimpArgs false
namespace Go.Proofs.YtebigkjilklodaaDoor
open Go.RowKit

def planG (QL : List (Nat × Nat × Nat)) (k : Nat) : ByteArray := match (planQ QL)[k]? with | some p => p.1 | none => ⟨#[]⟩
def planL (QL : List (Nat × Nat × Nat)) (k : Nat) : Int := match (planQ QL)[k]? with | some p => p.2.1 | none => 0
def planH (QL : List (Nat × Nat × Nat)) (k : Nat) : Int := match (planQ QL)[k]? with | some p => p.2.2 | none => 0
def planS (EL : List Nat) (i : Nat) : List ByteArray := grpsOf (EL[i]?.getD 0)
/-- The panels of a plan. -/
def planP (sz : Nat) (QL : List (Nat × Nat × Nat)) (EL : List Nat) : List (List Nat) := pans (planD (sz % 7) undef) (EL.take 10).length (planQ QL).length (planG QL) (planL QL) (planH QL) (planS EL)
theorem planP_eq (sz : Nat) (QL : List (Nat × Nat × Nat)) (EL : List Nat) (q : Value) : pans (planD (sz % 7) q) (EL.take 10).length (planQ QL).length (planG QL) (planL QL) (planH QL) (planS EL) = planP sz QL EL := rfl
theorem plan_quo {w : World} {B : Nat} {q : Value} {QL : List (Nat × Nat × Nat)} (h : w.ownsRow B 52 3 q (planQ QL).length (quosV (planQ QL))) : QuoAt w.heap.size w q (planQ QL).length (planG QL) (planL QL) (planH QL) :=
  quos_at h fun i p hp => ⟨by unfold planG; rw [hp], by unfold planL; rw [hp], by unfold planH; rw [hp]⟩
theorem plan_ent {w : World} {B : Nat} {lv : Value} {L : List (Int × Value)} {EL : List Nat} (h : w.ownsRow B 56 6 lv L.length (entsV L)) (hg : ∀ (i : Nat) p, L[i]? = some p → p.1 = (i : Int) + 1 ∧ ∃ e, EL[i]? = some e ∧ GrpAt w p.2 (grpsOf e)) : EntAt w.heap.size w lv L.length (planS EL) :=
  ents_at h fun i p hp => by
    obtain ⟨_, e, he, hG⟩ := hg i p hp
    unfold planS
    rw [he]
    exact hG.strs
theorem plan_flat (S : Nat) (q : Value) : (planD S q).flat := ⟨rfl, rfl, rfl, rfl, rfl, rfl, rfl, rfl, rfl, rfl⟩
/-- What a made plan is to the program. -/
theorem MakeRet.draw {sz : Nat} {QL : List (Nat × Nat × Nat)} {EL : List Nat} {w : World} {e : Ending} {w' : World} (h : MakeRet sz QL EL w e w') :
    ∃ q lv, e = .returned (.tuple #[.agg (planD (sz % 7) q).arr, lv]) ∧ DrawIn w' (planD (sz % 7) q) lv (EL.take 10).length (planQ QL).length (planG QL) (planL QL) (planH QL) (planS EL) ∧ Below w.heap.size w w' := by
  obtain ⟨q, lv, L, rfl, hq, hl, hn, hg, hb⟩ := h
  refine ⟨q, lv, rfl, ⟨plan_flat _ _, plan_quo hq, ?_, fun i => ?_⟩, hb⟩
  · have := plan_ent hl hg
    rwa [hn] at this
  · have := grpsOf_length (EL[i]?.getD 0)
    unfold planS
    omega
theorem planP_mem {sz : Nat} {QL : List (Nat × Nat × Nat)} {EL : List Nat} {x : List Nat} (h : x ∈ planP sz QL EL) : x.length = sz % 7 ∧ (∀ j ∈ x, j < (EL.take 10).length) ∧ x.Pairwise (· < ·) := by
  unfold planP pans at h
  split at h
  · obtain ⟨h1, h2, h3⟩ := (PD.all_mem _).1 h
    have h4 : (x.length : Int) = ((sz % 7 : Nat) : Int) := PD.feas_length _ h3
    exact ⟨by omega, h2, h1⟩
  · cases h
theorem planP_lex (sz : Nat) (QL : List (Nat × Nat × Nat)) (EL : List Nat) : (planP sz QL EL).Pairwise lexLt := by
  unfold planP pans
  split
  · exact PD.all_lex _ _ (sz % 7) rfl
  · exact List.Pairwise.nil
theorem planP_few (sz : Nat) (QL : List (Nat × Nat × Nat)) (EL : List Nat) : (planP sz QL EL).length ≤ 252 := by
  unfold planP pans
  split
  · exact PD.all_few _ _ (sz % 7) rfl (by simp; omega)
  · simp

/-- The place where two panels that follow each other part. -/
theorem lex_next {ps : List (List Nat)} (h : ps.Pairwise lexLt) {k : Nat} {x y : List Nat} (hy : ps[k]? = some y) (hx : ps[k + 1]? = some x) : lexLt y x := by
  obtain ⟨h1, e1⟩ := List.getElem?_eq_some_iff.1 hy
  obtain ⟨h2, e2⟩ := List.getElem?_eq_some_iff.1 hx
  rw [← e1, ← e2]
  exact List.pairwise_iff_getElem.1 h k (k + 1) h1 h2 (by omega)

/-- One row of a slice of panels: where its head lies, and its members. -/
theorem rows_get {w : World} {ar : Option Addr} {np cr : Nat} {ps : List (List Nat)} (h : RowsAt w.heap.size w (.slice ar np cr) (ps.map intsOf)) {k : Nat} {X : List Nat} (hX : ps[k]? = some X) :
    ∃ b off ax cx, ar = some ⟨b, off, none⟩ ∧ b < w.heap.size ∧ w.cell? ⟨b, off + k, none⟩ = some (.slice ax X.length cx) ∧ IntsAt w.heap.size w (.slice ax X.length cx) (intsOf X) ∧
      (∀ (j x : Nat), X[j]? = some x → ∃ b2 off2, ax = some ⟨b2, off2, none⟩ ∧ b2 < w.heap.size ∧ w.cell? ⟨b2, off2 + j, none⟩ = some (.int .i64 (x : Int))) := by
  obtain ⟨ao, cap, e, hc⟩ := h
  injection e with e1 _ _
  subst e1
  obtain ⟨b, off, a, rfl, hb, h1, hi⟩ := hc k (intsOf X) (by rw [List.getElem?_map, hX]; rfl)
  obtain ⟨ax, cx, rfl, hx⟩ := id hi
  rw [intsOf_length] at hi h1
  refine ⟨b, off, ax, cx, rfl, hb, h1, hi, fun j x hj => ?_⟩
  exact hx j (.int .i64 (x : Int)) (by simp [intsOf, List.getElem?_map, hj])

set_option maxHeartbeats 2000000 in
set_option maxRecDepth 100000 in
theorem panels_any (sz : Nat) (qv ev : Value) (QL : List (Nat × Nat × Nat)) (EL : List Nat) (w : World) (hsz : sz ≤ 255) (hq : RowAt w.heap.size w qv QL.length (QL.flatMap q8)) (he : RowAt w.heap.size w ev EL.length (EL.map fun e : Nat => .int .u8 (e : Int)))
    (hQ : ∀ q ∈ QL, q.1 ≤ 255 ∧ q.2.1 ≤ 255 ∧ q.2.2 ≤ 255) (hE : ∀ e ∈ EL, e ≤ 255) (HSAN : SanityOk) :
    Calls Tryd.prog 4 #[.agg #[.int .u8 sz, qv, ev]] w fun e w' => e = .returned (.bool true) ∧ Below w.heap.size w w' := by
  have HMK : Hid (∀ W, Below w.heap.size w W → Calls Tryd.prog 11 #[.agg #[.int .u8 sz, qv, ev]] W (MakeRet sz QL EL W)) := fun W hW => make_any sz qv ev QL EL W hsz (hq.mono hW hW.size) (he.mono hW hW.size) hQ hE
  obtain ⟨aq, cq, rfl, _⟩ := hq
  obtain ⟨ae, ce, rfl, _⟩ := he
  clear hQ hE
  go_enter Tryd.func4, Tryd.ntmps4
  go_wp2_with fail
  refine (HSAN _).mono ?_
  rintro e w1 ⟨rfl, hb1⟩
  have hz : w.heap.size < w1.heap.size := by have := hb1.size; simp at this; omega
  have HB1 : Hid (Below w.heap.size w w1) := ((Below.refl w.heap.size w).alloc (Nat.le_refl _) _).trans (hb1.mono (by simp))
  obtain ⟨hcl, hfr⟩ := bcell hb1
  clear hb1
  go_wp2_with fail
  refine (HMK.out _ HB1.out).mono ?_
  intro e w2 hmk
  obtain ⟨q, lv, rfl, hD, hb2⟩ := hmk.draw
  have HD := Lib.hid hD
  have HB2 := Lib.hid (HB1.out.trans (hb2.mono HB1.out.size))
  have hs2 := HB2.out.size
  obtain ⟨aqq, cqq, hqq, _⟩ := id hD.quo
  obtain ⟨al, cl, rfl, _⟩ := id hD.ent
  obtain rfl : q = .slice aqq (planQ QL).length cqq := hqq
  clear hmk hb2 hcl hfr hD
  obtain ⟨S, hS⟩ : ∃ S, S = sz % 7 := ⟨_, rfl⟩
  obtain ⟨n, hn⟩ : ∃ n, n = (EL.take 10).length := ⟨_, rfl⟩
  obtain ⟨m, hm⟩ : ∃ m, m = (planQ QL).length := ⟨_, rfl⟩
  obtain ⟨ps, hps⟩ : ∃ ps, ps = planP sz QL EL := ⟨_, rfl⟩
  obtain ⟨np, hnp⟩ : ∃ np, np = ps.length := ⟨_, rfl⟩
  have HLEX : Hid (ps.Pairwise lexLt) := by show ps.Pairwise _; rw [hps]; exact planP_lex _ _ _
  have HMEM : Hid (∀ x ∈ ps, x.length = S) := fun x hx => by rw [hS]; rw [hps] at hx; exact (planP_mem hx).1
  have hS6 : S ≤ 6 := by omega
  have hfew : np ≤ 252 := by rw [hnp, hps]; exact planP_few _ _ _
  have HNP := Lib.hid hnp
  have HPS := Lib.hid hps
  have HSS := Lib.hid hS
  have HNN := Lib.hid hn
  have HMM := Lib.hid hm
  rw [← hn, ← hm, ← hS] at HD
  rw [← hm, ← hS, ← hn]
  clear hS hn hm hps hnp
  have HPE : Hid (pans (planD S (.slice aqq m cqq)) n m (planG QL) (planL QL) (planH QL) (planS EL) = ps) := by show _ = _; rw [HPS.out, HSS.out, HNN.out, HMM.out]; rfl
  have HALL : Hid (∀ W, Below w2.heap.size w2 W → Calls Tryd.prog 15 #[.agg #[.string ⟨#[112, 97, 110, 101, 108]⟩, .int .i64 3, .int .i64 5, .int .i64 0, .int .i64 0, .int .i64 0, .slice none 0 0, .bool false, .slice none 0 0, .int .i64 0, .int .i64 S, .slice aqq m cqq, .slice none 0 0], .slice al n cl, .int .i64 1000] W fun e w' => ∃ v, e = .returned (.tuple #[v, .bool true]) ∧ RowsAt w'.heap.size w' v (ps.map intsOf) ∧ Below W.heap.size W w') := fun W hW => by
    have h := qAll_any _ _ _ _ _ _ _ _ 1000 W (HD.out.later hW)
    have e1 : ps.length ≤ (1000 : Int).toNat := by rw [← HNP.out]; show np ≤ 1000; omega
    rw [HPE.out, List.take_of_length_le e1, decide_eq_true e1] at h
    exact h
  have HFIR : Hid (∀ W, Below w2.heap.size w2 W → Calls Tryd.prog 16 #[.agg #[.string ⟨#[112, 97, 110, 101, 108]⟩, .int .i64 3, .int .i64 5, .int .i64 0, .int .i64 0, .int .i64 0, .slice none 0 0, .bool false, .slice none 0 0, .int .i64 0, .int .i64 S, .slice aqq m cqq, .slice none 0 0], .slice al n cl] W fun e w' => ∃ v, e = .returned (.tuple #[v, .bool (!ps.isEmpty)]) ∧ IntsAt w'.heap.size w' v (firstOf ps) ∧ Below W.heap.size W w') := fun W hW => by
    have h := qFirst_any _ _ _ _ _ _ _ _ W (HD.out.later hW)
    rw [HPE.out] at h
    exact h
  have HCNT : Hid (∀ W, Below w2.heap.size w2 W → Calls Tryd.prog 17 #[.agg #[.string ⟨#[112, 97, 110, 101, 108]⟩, .int .i64 3, .int .i64 5, .int .i64 0, .int .i64 0, .int .i64 0, .slice none 0 0, .bool false, .slice none 0 0, .int .i64 0, .int .i64 S, .slice aqq m cqq, .slice none 0 0], .slice al n cl] W fun e w' => e = .returned (.string (natS np)) ∧ Below W.heap.size W w') := fun W hW => by
    have h := qCount_any _ _ _ _ _ _ _ _ W (HD.out.later hW)
    rw [HPE.out, ← HNP.out] at h
    exact h
  have HFEA : Hid (∀ W pv x, Below w2.heap.size w2 W → x ∈ ps → IntsAt W.heap.size W pv (intsOf x) → Calls Tryd.prog 13 #[.agg #[.string ⟨#[112, 97, 110, 101, 108]⟩, .int .i64 3, .int .i64 5, .int .i64 0, .int .i64 0, .int .i64 0, .slice none 0 0, .bool false, .slice none 0 0, .int .i64 0, .int .i64 S, .slice aqq m cqq, .slice none 0 0], .slice al n cl, pv] W fun e w' => e = .returned (.bool true) ∧ Below W.heap.size W w') := fun W pv x hW hx hp => by
    have h := qFeas_any _ _ pv (intsOf x) _ _ _ _ _ _ W (HD.out.later hW) hp (by rw [intsOf_length, HMEM.out x hx, HSS.out]; omega)
    rw [HPE.out, isPan_iff.2 ⟨x, hx, rfl⟩] at h
    exact h
  have HNATN : Hid (∀ W, Calls Tryd.prog 18 #[.int .i64 np] W fun e w' => e = .returned (.string (natS np)) ∧ Below W.heap.size W w') := fun W => pOf_any np W (by omega)
  unfold planD DrawC.arr
  dsimp only
  go_wp2_with fail
  have HB3 : Hid (Below w2.heap.size w2 (w2.alloc (.cells #[.string ⟨#[112, 97, 110, 101, 108]⟩, .int .i64 3, .int .i64 5, .int .i64 0, .int .i64 0, .int .i64 0, .slice none 0 0, .bool false, .slice none 0 0, .int .i64 0, .int .i64 S, .slice aqq m cqq, .slice none 0 0] 33))) := (Below.refl _ _).alloc (Nat.le_refl _) _
  have ht2 : (w2.alloc (.cells #[.string ⟨#[112, 97, 110, 101, 108]⟩, .int .i64 3, .int .i64 5, .int .i64 0, .int .i64 0, .int .i64 0, .slice none 0 0, .bool false, .slice none 0 0, .int .i64 0, .int .i64 S, .slice aqq m cqq, .slice none 0 0] 33)).heap[w2.heap.size]? = some (.cells #[.string ⟨#[112, 97, 110, 101, 108]⟩, .int .i64 3, .int .i64 5, .int .i64 0, .int .i64 0, .int .i64 0, .slice none 0 0, .bool false, .slice none 0 0, .int .i64 0, .int .i64 S, .slice aqq m cqq, .slice none 0 0] 33 (0, 0)) := heap_alloc_new w2 _
  refine (HALL.out _ HB3.out).mono ?_
  rintro e w4 ⟨v4, rfl, hr4, hb4⟩
  have HB4 : Hid (Below w2.heap.size w2 w4) := HB3.out.trans (hb4.mono HB3.out.size)
  have ht4 := (hb4.block _ (by simp)).trans ht2
  have HT4 : Hid (∀ W, Below w4.heap.size w4 W → W.heap[w2.heap.size]? = some (.cells #[.string ⟨#[112, 97, 110, 101, 108]⟩, .int .i64 3, .int .i64 5, .int .i64 0, .int .i64 0, .int .i64 0, .slice none 0 0, .bool false, .slice none 0 0, .int .i64 0, .int .i64 S, .slice aqq m cqq, .slice none 0 0] 33 (0, 0))) := fun W hW => (hW.block _ (Array.getElem?_eq_some_iff.1 ht4).1).trans ht4
  have HR4 := Lib.hid hr4
  obtain ⟨ar, cr, hv4, _⟩ := id hr4
  rw [List.length_map, ← HNP.out] at hv4
  subst hv4
  clear hr4 hb4 ht2 ht4
  go_wp2_with fail
  go_loopw [8] (fun i wr => ∃ k : Nat, k ≤ np ∧ i = .int .i64 k ∧ Hid (Below w4.heap.size w4 wr)) (fun i _ => np - (intOf i).toNat)
  case atStart => exact ⟨0, Nat.zero_le _, rfl, Below.refl _ _⟩
  case round =>
    obtain ⟨k, hk, rfl, HBR⟩ := hrel
    by_cases hkt : k < np
    · have hkz : (k : Int) < np := by omega
      obtain ⟨X, hX⟩ : ∃ X, ps[k]? = some X := ⟨_, List.getElem?_eq_getElem (by rw [← HNP.out]; exact hkt)⟩
      obtain ⟨br, fr, ax, cx, rfl, hbr, r1, hix, hxe⟩ := rows_get HR4.out hX
      have hXS := HMEM.out X (List.mem_of_getElem? hX)
      rw [hXS] at r1 hix
      have c1 := (HBR.out.cell (p := ⟨br, fr + k, none⟩) hbr).trans r1
      have l1 := cell_lt c1
      have HXE := Lib.hid hxe
      have HC1 := Lib.hid r1
      have HXK := Lib.hid hX
      have HXS := Lib.hid hXS
      have HFX : Hid (∀ w', Kept wr w' → Calls Tryd.prog 13 #[.agg #[.string ⟨#[112, 97, 110, 101, 108]⟩, .int .i64 3, .int .i64 5, .int .i64 0, .int .i64 0, .int .i64 0, .slice none 0 0, .bool false, .slice none 0 0, .int .i64 0, .int .i64 S, .slice aqq m cqq, .slice none 0 0], .slice al n cl, .slice ax S cx] w' fun e w'' => e = .returned (.bool true) ∧ Below w'.heap.size w' w'') := fun w' hC => by
        have hw := hC.below HBR.out HBR.out.size
        exact HFEA.out w' _ X (HB4.out.trans (hw.mono HB4.out.size)) (List.mem_of_getElem? hX) (hix.mono hw hw.size)
      have ht := HT4.out wr HBR.out
      obtain ⟨d0, d1, d2, d3, d4, d5, d6, d7, d8, d9, d10, d11, d12⟩ := cells13 ht
      have dlt := cell_lt d0
      clear r1 hix hxe hX hXS ht
      go_wp2_with fail
      refine wp_region_class (Kept _) (by kernel_rfl) (by kernel_rfl) (Kept.drew _) ?_
      repeat (first
        | go_big_quiet_skip
        | (refine BigFrame.wpQuiet_want (by rfl) (fun K hK => ?_)
           first
             | (refine BigFrame.quiet_move _ rfl ?_; refine hK _ ?_)
             | (refine BigFrame.quiet_assign _ rfl ?_; refine hK _ ?_)
             | (apply Exists.intro; refine ⟨fun w' hC => ?_, hK _ ?_⟩
                · (obtain ⟨hcl, hfr⟩ := bcell hC.1; unfold Oper.quietAt; go_simp; first | rfl | (go_at_call 13; with_reducible refine (HFX.out w' hC).mono ?_; exact fun e w'' ⟨he, hb⟩ => ⟨he, hC.next hb⟩)))
           simp only [Act.put, Act.eval, List.setIfInBounds_toArray, List.set_cons_zero, List.set_cons_succ, Array.getD_eq_getD_getElem?, List.getElem?_toArray, List.getElem?_cons_succ, List.getElem?_cons_zero, Option.getD_some]
           clear hK K))
      refine wpQuiet_nil ?_
      intro wq hCq
      have HBQ : Hid (Below w4.heap.size w4 wq) := hCq.below HBR.out HBR.out.size
      clear hCq c1 l1 d0 d1 d2 d3 d4 d5 d6 d7 d8 d9 d10 d11 d12 dlt
      by_cases hk0 : k = 0
      · subst hk0
        go_wp2_with fail
        go_roundw
        case rel => exact ⟨0 + 1, by omega, by go_num, HBQ⟩
        case measure => simp [intOf]; omega
      · have hkb : ((k : Int) == 0) = false := by simp; omega
        obtain ⟨Y, hY⟩ : ∃ Y, ps[k - 1]? = some Y := ⟨_, List.getElem?_eq_getElem (by rw [← HNP.out]; omega)⟩
        obtain ⟨J, ya, xb, hsame, hyJ, hxJ, hab⟩ := lex_next HLEX.out hY (show ps[k - 1 + 1]? = some X by rw [show k - 1 + 1 = k by omega]; exact HXK.out)
        have hYS := HMEM.out Y (List.mem_of_getElem? hY)
        obtain ⟨br2, fr2, ay, cy, e, _, r2, _, hye⟩ := rows_get HR4.out hY
        injection e with e
        injection e with e1 e2 _
        subst e1 e2
        rw [hYS] at r2
        have hJS : J < S := by rw [← hYS]; exact (List.getElem?_eq_some_iff.1 hyJ).1
        have HJ := Lib.hid (And.intro hsame (And.intro hyJ hxJ))
        have HYE := Lib.hid hye
        have HYS := Lib.hid hYS
        have q2 := r2
        clear hsame hyJ hxJ hye hYS hY hk0
        have HR1 : Hid (w4.cell? ⟨br, fr + k, none⟩ = some (.slice ax S cx)) := HC1.out
        have HR2 : Hid (w4.cell? ⟨br, fr + (k - 1), none⟩ = some (.slice ay S cy)) := r2
        have HBRL : Hid (br < w4.heap.size) := hbr
        have hk1 : (1 : Int) ≤ (k : Int) := by simp at hkb; omega
        have hkw : IntKind.i64.wrap ((k : Int) - 1) = (k : Int) - 1 := IntWalk.i64_in _ (by omega)
        have hkn : ((k : Int) - 1).toNat = k - 1 := by omega
        have hkl : (k : Int) - 1 < np := by omega
        have hkl2 : k - 1 < np := by omega
        clear r2 q2
        go_wp2_with fail
        go_loopw [9] (fun i wx => ∃ j : Nat, j ≤ J ∧ i = .int .i64 j ∧ Hid (Below w4.heap.size w4 wx)) (fun i _ => J - (intOf i).toNat)
        case atStart => exact ⟨0, Nat.zero_le _, rfl, HBQ⟩
        case round =>
          obtain ⟨j, hj, rfl, HBX⟩ := hrel
          have hjS : (j : Int) < S := by omega
          have hj6 : j ≤ 6 := by omega
          have hjS2 : j < S := by omega
          by_cases hjt : j < J
          · obtain ⟨t, ht0⟩ : ∃ t, Y[j]? = some t := ⟨_, List.getElem?_eq_getElem (by have := HYS.out; omega)⟩
            have ht1 : X[j]? = some t := by rw [← HJ.out.1 j hjt]; exact ht0
            have ht := HT4.out wr HBX.out
            have d10 : wr.cell? ⟨w2.heap.size, 10, none⟩ = some (.int .i64 S) := by rw [cell_of_row wr _ _ _ _ _ ht]; rfl
            have dlt := cell_lt d10
            clear ht
            have g1 := (HBX.out.cell (p := ⟨br, fr + k, none⟩) HBRL.out).trans HR1.out
            have g2 := (HBX.out.cell (p := ⟨br, fr + (k - 1), none⟩) HBRL.out).trans HR2.out
            have glt := cell_lt g1
            obtain ⟨bX, oX, rfl, hbX, z1⟩ := HXE.out j t ht1
            obtain ⟨bY, oY, rfl, hbY, z2⟩ := HYE.out j t ht0
            have x1 := (HBX.out.cell (p := ⟨bX, _, none⟩) hbX).trans z1
            have x2 := (HBX.out.cell (p := ⟨bY, _, none⟩) hbY).trans z2
            have xlt := cell_lt x1
            have ylt := cell_lt x2
            clear z1 z2
            clear ht0 ht1
            go_wp2_with fail
            refine wp_region_class (Kept _) (by kernel_rfl) (by kernel_rfl) (Kept.drew _) ?_
            repeat (first
              | go_big_quiet_skip
              | (refine BigFrame.wpQuiet_want (by rfl) (fun K hK => ?_)
                 first
                   | (refine BigFrame.quiet_move _ rfl ?_; refine hK _ ?_)
                   | (refine BigFrame.quiet_assign _ rfl ?_; refine hK _ ?_)
                   | (apply Exists.intro; refine ⟨fun w' hC => ?_, hK _ ?_⟩
                      · (obtain ⟨hcl, hfr⟩ := bcell hC.1; unfold Oper.quietAt; go_simp; first | rfl | fail))
                 simp only [Act.put, Act.eval, List.setIfInBounds_toArray, List.set_cons_zero, List.set_cons_succ, Array.getD_eq_getD_getElem?, List.getElem?_toArray, List.getElem?_cons_succ, List.getElem?_cons_zero, Option.getD_some]
                 clear hK K))
            refine wpQuiet_nil ?_
            intro wq hCq
            have HBY : Hid (Below w4.heap.size w4 wq) := hCq.below HBX.out HBX.out.size
            clear hCq d10 g1 g2 x1 x2 dlt glt xlt ylt
            go_wp2_with fail
            go_roundw
            case rel => exact ⟨j + 1, by omega, by go_num, HBY⟩
            case measure => simp [intOf]; omega
          · obtain rfl : j = J := by omega
            have ht := HT4.out wr HBX.out
            have d10 : wr.cell? ⟨w2.heap.size, 10, none⟩ = some (.int .i64 S) := by rw [cell_of_row wr _ _ _ _ _ ht]; rfl
            have dlt := cell_lt d10
            clear ht
            have g1 := (HBX.out.cell (p := ⟨br, fr + k, none⟩) HBRL.out).trans HR1.out
            have g2 := (HBX.out.cell (p := ⟨br, fr + (k - 1), none⟩) HBRL.out).trans HR2.out
            have glt := cell_lt g1
            obtain ⟨bX, oX, rfl, hbX, z1⟩ := HXE.out j xb HJ.out.2.2
            obtain ⟨bY, oY, rfl, hbY, z2⟩ := HYE.out j ya HJ.out.2.1
            have x1 := (HBX.out.cell (p := ⟨bX, _, none⟩) hbX).trans z1
            have x2 := (HBX.out.cell (p := ⟨bY, _, none⟩) hbY).trans z2
            have xlt := cell_lt x1
            have ylt := cell_lt x2
            clear z1 z2
            have hne : ((xb : Int) == (ya : Int)) = false := by simp; omega
            have hne2 : ((j : Int) == (S : Int)) = false := by simp; omega
            have hab2 : ¬ (xb : Int) < (ya : Int) := by omega
            have hjS3 : ¬ (S : Int) ≤ (j : Int) := by omega
            have hjS4 : decide (S ≤ j) = false := decide_eq_false (by omega)
            have hab3 : decide (xb < ya) = false := decide_eq_false (by omega)
            go_wp2_with fail
            refine wp_region_class (Kept _) (by kernel_rfl) (by kernel_rfl) (Kept.drew _) ?_
            repeat (first
              | go_big_quiet_skip
              | (refine BigFrame.wpQuiet_want (by rfl) (fun K hK => ?_)
                 first
                   | (refine BigFrame.quiet_move _ rfl ?_; refine hK _ ?_)
                   | (refine BigFrame.quiet_assign _ rfl ?_; refine hK _ ?_)
                   | (apply Exists.intro; refine ⟨fun w' hC => ?_, hK _ ?_⟩
                      · (obtain ⟨hcl, hfr⟩ := bcell hC.1; unfold Oper.quietAt; go_simp; first | rfl | fail))
                 simp only [Act.put, Act.eval, List.setIfInBounds_toArray, List.set_cons_zero, List.set_cons_succ, Array.getD_eq_getD_getElem?, List.getElem?_toArray, List.getElem?_cons_succ, List.getElem?_cons_zero, Option.getD_some]
                 clear hK K))
            refine wpQuiet_nil ?_
            intro wq hCq
            have HBY : Hid (Below w4.heap.size w4 wq) := hCq.below HBX.out HBX.out.size
            have ht := HT4.out wq HBY.out
            have d10' : wq.cell? ⟨w2.heap.size, 10, none⟩ = some (.int .i64 S) := by rw [cell_of_row wq _ _ _ _ _ ht]; rfl
            have dlt' := cell_lt d10'
            have g1' := (HBY.out.cell (p := ⟨br, fr + k, none⟩) HBRL.out).trans HR1.out
            have g2' := (HBY.out.cell (p := ⟨br, fr + (k - 1), none⟩) HBRL.out).trans HR2.out
            have glt' := cell_lt g1'
            obtain ⟨_, _, e, _, z1⟩ := HXE.out j xb HJ.out.2.2
            obtain ⟨_, _, e2, _, z2⟩ := HYE.out j ya HJ.out.2.1
            injection e with e
            injection e with e3 e4 _
            subst e3 e4
            injection e2 with e2
            injection e2 with e3 e4 _
            subst e3 e4
            have x1' := (HBY.out.cell (p := ⟨bX, _, none⟩) hbX).trans z1
            have x2' := (HBY.out.cell (p := ⟨bY, _, none⟩) hbY).trans z2
            have xlt' := cell_lt x1'
            have ylt' := cell_lt x2'
            clear hCq d10 g1 g2 x1 x2 dlt glt xlt ylt ht z1 z2
            go_wp2_with fail
            refine wp_region_class (Kept _) (by kernel_rfl) (by kernel_rfl) (Kept.drew _) ?_
            repeat (first
              | go_big_quiet_skip
              | (refine BigFrame.wpQuiet_want (by rfl) (fun K hK => ?_)
                 first
                   | (refine BigFrame.quiet_move _ rfl ?_; refine hK _ ?_)
                   | (refine BigFrame.quiet_assign _ rfl ?_; refine hK _ ?_)
                   | (apply Exists.intro; refine ⟨fun w' hC => ?_, hK _ ?_⟩
                      · (obtain ⟨hcl, hfr⟩ := bcell hC.1; unfold Oper.quietAt; go_simp; first | rfl | fail))
                 simp only [Act.put, Act.eval, List.setIfInBounds_toArray, List.set_cons_zero, List.set_cons_succ, Array.getD_eq_getD_getElem?, List.getElem?_toArray, List.getElem?_cons_succ, List.getElem?_cons_zero, Option.getD_some]
                 clear hK K))
            refine wpQuiet_nil ?_
            intro wq hCq
            have HBZ : Hid (Below w4.heap.size w4 wq) := hCq.below HBY.out HBY.out.size
            clear hCq d10' g1' g2' x1' x2' dlt' glt' xlt' ylt'
            go_wp2_with fail
            go_roundw
            case rel => exact ⟨k + 1, by omega, by go_num, HBZ⟩
            case measure => simp [intOf]; omega
    · have HKN : Hid (k = np) := by show k = np; omega
      have ht := HT4.out wr HBR.out
      obtain ⟨d0, d1, d2, d3, d4, d5, d6, d7, d8, d9, d10, d11, d12⟩ := cells13 ht
      have dlt := cell_lt d0
      clear ht
      go_wp2_with fail
      refine (HFIR.out _ (HB4.out.trans (HBR.out.mono HB4.out.size))).mono ?_
      rintro e w5 ⟨v5, rfl, hi5, hb5⟩
      have HB5 : Hid (Below w4.heap.size w4 w5) := HBR.out.trans (hb5.mono HBR.out.size)
      have HI5 := Lib.hid hi5
      clear d0 d1 d2 d3 d4 d5 d6 d7 d8 d9 d10 d11 d12 dlt hi5 hb5
      have ht := HT4.out w5 HB5.out
      obtain ⟨d0, d1, d2, d3, d4, d5, d6, d7, d8, d9, d10, d11, d12⟩ := cells13 ht
      have dlt := cell_lt d0
      clear ht
      cases hpsE : ps with
      | nil =>
        have hnp0 : np = 0 := by rw [HNP.out, hpsE]; rfl
        subst hnp0
        have HW : Hid (Below w4.heap.size w4 w5) := HB5.out
        have HCNT2 : Hid (∀ W, Below w4.heap.size w4 W → Calls Tryd.prog 17 #[.agg #[.string ⟨#[112, 97, 110, 101, 108]⟩, .int .i64 3, .int .i64 5, .int .i64 0, .int .i64 0, .int .i64 0, .slice none 0 0, .bool false, .slice none 0 0, .int .i64 0, .int .i64 S, .slice aqq m cqq, .slice none 0 0], .slice al n cl] W fun e w' => e = .returned (.string (natS 0)) ∧ Below W.heap.size W w') := fun W hW => HCNT.out W (HB4.out.trans (hW.mono HB4.out.size))
        have HNAT2 : Hid (∀ W, Calls Tryd.prog 18 #[.int .i64 0] W fun e w' => e = .returned (.string (natS 0)) ∧ Below W.heap.size W w') := fun W => HNATN.out W
        clear hpsE
        go_wp2_with (first
          | (go_at_call 17; (with_reducible refine (HCNT2.out _ HW.out).mono ?_); rintro e wq ⟨rfl, hbq⟩; have HW := Lib.hid (HW.out.trans (hbq.mono HW.out.size)); clear hbq)
          | (go_at_call 18; (with_reducible refine (HNAT2.out _).mono ?_); rintro e wq ⟨rfl, hbq⟩; have HW := Lib.hid (HW.out.trans (hbq.mono HW.out.size)); clear hbq))
        go_ret
        exact ⟨rfl, HB2.out.trans ((HB4.out.trans (HW.out.mono HB4.out.size)).mono HB2.out.size)⟩
      | cons y l =>
        have hnp1 : 0 < np := by rw [HNP.out, hpsE]; simp
        have hnpz : (0 : Int) < np := by omega
        obtain ⟨br, fr, ax, cx, rfl, hbr, r1, hix, _⟩ := rows_get HR4.out (show ps[0]? = some y by rw [hpsE]; rfl)
        have HFO : Hid (firstOf ps = intsOf y) := by show _ = _; rw [hpsE]; rfl
        have HW : Hid (Below w4.heap.size w4 w5) := HB5.out
        have HV : Hid (Below w5.heap.size w5 w5) := Below.refl _ _
        have HR1 := Lib.hid r1
        have HBRL := Lib.hid hbr
        have HCNT2 : Hid (∀ W, Below w4.heap.size w4 W → Calls Tryd.prog 17 #[.agg #[.string ⟨#[112, 97, 110, 101, 108]⟩, .int .i64 3, .int .i64 5, .int .i64 0, .int .i64 0, .int .i64 0, .slice none 0 0, .bool false, .slice none 0 0, .int .i64 0, .int .i64 S, .slice aqq m cqq, .slice none 0 0], .slice al n cl] W fun e w' => e = .returned (.string (natS np)) ∧ Below W.heap.size W w') := fun W hW => HCNT.out W (HB4.out.trans (hW.mono HB4.out.size))
        have HINT : Hid (∀ W, Below w5.heap.size w5 W → Calls Tryd.prog 19 #[v5, .slice ax y.length cx] W fun e w' => e = .returned (.bool true) ∧ Below W.heap.size W w') := fun W hW => by
          have hW4 := HB5.out.trans (hW.mono HB5.out.size)
          have hi := HI5.out.mono hW hW.size
          rw [HFO.out] at hi
          have h := ints_any v5 _ (intsOf y) (intsOf y) W hi (hix.mono hW4 hW4.size) (by rw [intsOf_length, HMEM.out y (by rw [hpsE]; exact List.mem_cons_self ..)]; omega)
          rwa [decide_eq_true rfl] at h
        have c0' := (HB5.out.cell (p := ⟨br, fr + 0, none⟩) hbr).trans r1
        rw [Nat.add_zero] at c0'
        have clt' := cell_lt c0'
        have HCL : Hid (∀ W, Below w4.heap.size w4 W → W.cell? ⟨br, fr, none⟩ = some (.slice ax y.length cx)) := fun W hW => (hW.cell (p := ⟨br, fr + 0, none⟩) HBRL.out).trans HR1.out
        clear hpsE r1 hix
        go_wp2_with (first
          | (go_at_call 17; (with_reducible refine (HCNT2.out _ HW.out).mono ?_); rintro e wq ⟨rfl, hbq⟩; have HW := Lib.hid (HW.out.trans (hbq.mono HW.out.size)); have HV := Lib.hid (HV.out.trans (hbq.mono HV.out.size)); clear hbq; have c0' := HCL.out _ HW.out; have clt' := cell_lt c0')
          | (go_at_call 18; (with_reducible refine (HNATN.out _).mono ?_); rintro e wq ⟨rfl, hbq⟩; have HW := Lib.hid (HW.out.trans (hbq.mono HW.out.size)); have HV := Lib.hid (HV.out.trans (hbq.mono HV.out.size)); clear hbq; have c0' := HCL.out _ HW.out; have clt' := cell_lt c0')
          | (go_at_call 19; (with_reducible refine (HINT.out _ HV.out).mono ?_); rintro e wq ⟨rfl, hbq⟩; have HW := Lib.hid (HW.out.trans (hbq.mono HW.out.size)); have HV := Lib.hid (HV.out.trans (hbq.mono HV.out.size)); clear hbq))
        go_ret
        exact ⟨rfl, HB2.out.trans ((HB4.out.trans (HW.out.mono HB4.out.size)).mono HB2.out.size)⟩

end Go.Proofs.YtebigkjilklodaaDoor

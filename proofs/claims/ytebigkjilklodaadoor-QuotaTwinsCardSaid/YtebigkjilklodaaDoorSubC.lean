/- Numbers of panels without quotas, and with one. No program in sight. -/
import Derived.Deep.DeepCutAuto
import Derived.Test.YtebigkjilklodaaDoorLaws
import Derived.Test.YtebigkjilklodaaDoorQuoTs
import Derived.Test.YtebigkjilklodaaDoorEntC
set_option linter.unusedVariables false
set_option linter.unusedSimpArgs false
namespace Go.Proofs.YtebigkjilklodaaDoor

theorem pans_none (x : DrawC) (n r : Nat) (g : Nat → ByteArray) (low high : Nat → Int) (gs : Nat → List ByteArray) (hk : x.kind = 3) (hn : n ≤ 40) (hs : x.size = r) : (pans x n 0 g low high gs).length = chs n r := by
  unfold pans
  by_cases h : r ≤ n
  · rw [if_pos ⟨hk, hn, by decide, by omega, by omega⟩, PD.all_comb _ n r (by exact hs), List.filter_eq_self.2, comb_count]
    intro y hy
    unfold PD.feas PD.fits pdOf
    simp only [List.range_zero, List.all_nil, Bool.and_true, decide_eq_true_eq]
    rw [hs, Nat.zero_add, comb_length hy]
  · rw [if_neg (fun h' => h (by have := h'.2.2.2.2; omega)), chs_more n r (by omega)]
    rfl

/-- A value of the sum: so many of the first, the others of the rest. -/
def prodC (a b : Nat) (r : Nat) (t : Nat) : Nat := if t ≤ r then chs a t * chs b (r - t) else 0
theorem pans_one (x : DrawC) (a b r lo hi : Nat) (g : Nat → ByteArray) (low high : Nat → Int) (gs : Nat → List ByteArray) (hk : x.kind = 3) (hn : a + b ≤ 40) (hs : x.size = r) (hl : low 0 = lo) (hh : high 0 = hi)
    (hg : ∀ i, i < a + b → hasG (gs i) (g 0) = decide (i < a)) : (pans x (a + b) 1 g low high gs).length = sumW (prodC a b r) lo (hi + 1 - lo) := by
  have hC : ∀ t, ((comb 0 (a + b) r).filter fun x => decide (cntA a x = t)).length = prodC a b r t := fun t => by
    rw [comb_split, Nat.sub_zero, Nat.min_eq_right (by omega), show a + b - a = b by omega]; rfl
  have hcnt : ∀ y ∈ comb 0 (a + b) r, (pdOf x.size 1 g low high gs).cnt 0 y = cntA a y := fun y hy => by
    have hy' : y ∈ subs 0 (a + b) := by rw [← comb_eq] at hy; exact (List.mem_filter.1 hy).1
    unfold PD.cnt cntA
    refine List.countP_congr fun j hj => ?_
    have := ((subs_mem.1 hy').2 j hj).2
    simp [pdOf, hg j (by omega)]
  have hf : (comb 0 (a + b) r).filter (pdOf x.size 1 g low high gs).feas = (comb 0 (a + b) r).filter fun y => decide (lo ≤ cntA a y) && decide (cntA a y < lo + (hi + 1 - lo)) := by
    refine List.filter_congr fun y hy => ?_
    have h1 := hcnt y hy
    have h2 := comb_length hy
    unfold PD.feas PD.fits
    have hm : (pdOf x.size 1 g low high gs).m = 1 := rfl
    rw [hm, List.range_one, List.all_cons, List.all_nil, h1]
    show (decide (((0 + y.length : Nat) : Int) = x.size) && ((decide (low 0 ≤ ((0 + cntA a y : Nat) : Int)) && decide (((0 + cntA a y : Nat) : Int) ≤ high 0)) && true)) = _
    rw [hs, h2, hl, hh, Nat.zero_add, Nat.zero_add, decide_eq_true rfl, Bool.true_and, Bool.and_true]
    by_cases h3 : lo ≤ cntA a y
    · by_cases h4 : cntA a y ≤ hi
      · rw [decide_eq_true (by omega), decide_eq_true (by omega), decide_eq_true h3, decide_eq_true (by omega)]
      · rw [decide_eq_true h3, decide_eq_false (p := (cntA a y : Int) ≤ hi) (by omega), decide_eq_false (p := cntA a y < _) (by omega), Bool.and_false, Bool.and_false]
    · rw [decide_eq_false h3, decide_eq_false (p := (lo : Int) ≤ _) (by omega), Bool.false_and, Bool.false_and]
  unfold pans
  by_cases h : r ≤ a + b
  · rw [if_pos ⟨hk, hn, by decide, by omega, by omega⟩, PD.all_comb _ (a + b) r (by exact hs), hf, filter_range]
    have : (fun t => ((comb 0 (a + b) r).filter fun x => decide (cntA a x = t)).length) = prodC a b r := funext hC
    rw [this]
  · rw [if_neg (fun h' => h (by have := h'.2.2.2.2; omega))]
    have hz : ∀ t, prodC a b r t = 0 := fun t => by
      unfold prodC
      split
      · by_cases h1 : t ≤ a
        · rw [chs_more b (r - t) (by omega), Nat.mul_zero]
        · rw [chs_more a t (by omega), Nat.zero_mul]
      · rfl
    have : ∀ n, sumW (prodC a b r) lo n = 0 := by
      intro n
      induction n with
      | zero => rfl
      | succ n ih => show sumW _ _ _ + _ = 0; rw [ih, hz]
    rw [this]
    rfl
theorem prodC_le {a b : Nat} (ha : a ≤ 6) (hb : b ≤ 6) (r t : Nat) : prodC a b r t ≤ 4096 := by
  unfold prodC
  split
  · have h1 := chs_le a t
    have h2 := chs_le b (r - t)
    have h3 : 2 ^ a ≤ 2 ^ 6 := Nat.pow_le_pow_right (by decide) ha
    have h4 : 2 ^ b ≤ 2 ^ 6 := Nat.pow_le_pow_right (by decide) hb
    exact Nat.mul_le_mul (Nat.le_trans h1 h3) (Nat.le_trans h2 h4)
  · omega

end Go.Proofs.YtebigkjilklodaaDoor

/- 'sorteslaw15.QuotaSubsets': the whole law, over the contract of its sanity. -/
namespace Go.Proofs.YtebigkjilklodaaDoor
open Go.RowKit

def strG : ByteArray := ⟨#[103]⟩
def subG (a i : Nat) : List ByteArray := if i < a then [strG] else []
def SanityOk : Prop := ∀ W : World, Calls Tryd.prog 10 #[] W fun e w' => e = .returned (.bool true) ∧ Below W.heap.size W w'

theorem prodI (a b r t s : Nat) : chsI a ((s : Int) + t) * chsI b ((r : Int) - ((s : Int) + t)) = (prodC a b r (s + t) : Int) := by
  unfold chsI prodC
  rw [if_pos (by omega)]
  have e : ((s : Int) + t).toNat = s + t := by omega
  rw [e]
  by_cases h : s + t ≤ r
  · have e2 : ((r : Int) - ((s : Int) + t)).toNat = r - (s + t) := by omega
    rw [if_pos (by omega), if_pos h, e2]; simp
  · rw [if_neg (by omega), if_neg h]; simp
/-- The draw of a law of its own. -/
def subD (r : Nat) (q : Value) : DrawC := ⟨.string ByteArray.empty, .int .i64 0, .int .i64 0, .int .i64 0, .int .i64 0, .slice none 0 0, .bool false, .slice none 0 0, .int .i64 0, .slice none 0 0, 3, r, q⟩

set_option maxHeartbeats 1000000 in
set_option maxRecDepth 100000 in
theorem subsets_any (x y q0 q1 q2 : Int) (w : World) (hx : 0 ≤ x ∧ x ≤ 255) (hy : 0 ≤ y ∧ y ≤ 255) (h0 : 0 ≤ q0 ∧ q0 ≤ 255) (h1 : 0 ≤ q1 ∧ q1 ≤ 255) (h2 : 0 ≤ q2 ∧ q2 ≤ 255) (HSAN : SanityOk) :
    Calls Tryd.prog 6 #[.int .u8 x, .int .u8 y, .agg #[.int .u8 q0, .int .u8 q1, .int .u8 q2]] w fun e w' => e = .returned (.bool true) ∧ Below w.heap.size w w' := by
  obtain ⟨i0, hi, hz0, hz1, hz2⟩ := info_parts Tryd.infoEnt
  obtain ⟨hx0, hx1⟩ := hx
  obtain ⟨hy0, hy1⟩ := hy
  obtain ⟨h00, h01⟩ := h0
  obtain ⟨h10, h11⟩ := h1
  obtain ⟨h20, h21⟩ := h2
  go_enter Tryd.func6, Tryd.ntmps6
  go_wp2_with fail
  refine (HSAN _).mono ?_
  rintro e w1 ⟨rfl, hb1⟩
  have hz : w.heap.size < w1.heap.size := by have := hb1.size; simp at this; omega
  have HB1 : Hid (Below w.heap.size w w1) := ((Below.refl w.heap.size w).alloc (Nat.le_refl _) _).trans (hb1.mono (by simp))
  obtain ⟨hcl, hfr⟩ := bcell hb1
  go_wp2_with fail
  go_quiet (fail)
  go_wp2_with fail
  go_quiet (fail)
  obtain ⟨a, ha⟩ : ∃ a : Nat, x % 7 = a := ⟨(x % 7).toNat, by omega⟩
  obtain ⟨b, hb⟩ : ∃ b : Nat, y % 7 = b := ⟨(y % 7).toNat, by omega⟩
  obtain ⟨r, hr⟩ : ∃ r : Nat, q0 % 14 = r := ⟨(q0 % 14).toNat, by omega⟩
  obtain ⟨lo, hlo⟩ : ∃ b : Nat, q1 % 8 = b := ⟨(q1 % 8).toNat, by omega⟩
  obtain ⟨hi8, hhi⟩ : ∃ b : Nat, q2 % 8 = b := ⟨(q2 % 8).toNat, by omega⟩
  have la : a ≤ 6 := by omega
  have lb : b ≤ 6 := by omega
  have lr : r ≤ 13 := by omega
  have llo : lo ≤ 7 := by omega
  have lhi : hi8 ≤ 7 := by omega
  rw [ha, hb, hr, hlo, hhi]
  clear ha hb hr hlo hhi hcl hfr
  generalize hW : (w1.drewN _).drewN _ = W1
  have HBW : Hid (Below w.heap.size w W1) := by rw [← hW]; exact below_drewN (below_drewN HB1.out _) _
  clear hW HB1 hb1
  have HI := Lib.hid (⟨hi, hz0, hz1, hz2⟩ : Tryd.prog.info? 56 = some i0 ∧ i0.zero = some _ ∧ i0.size = 6 ∧ i0.bytes = 96)
  clear hi hz0 hz1 hz2
  go_wp2_with fail
  go_loopw [13, 14] (fun v i wr => ∃ k : Nat, k ≤ a + b ∧ i = .int .i64 k ∧ ∃ l : List (Int × Value), l.length = k ∧ Hid (wr.ownsRow w.heap.size 56 6 v k (entsV l)) ∧ Hid (∀ i p, l[i]? = some p → GrpAt wr p.2 (subG a i)) ∧ Hid (Below w.heap.size w wr)) (fun _ i _ => a + b - (intOf i).toNat)
  case atStart => exact ⟨0, Nat.zero_le _, rfl, [], rfl, World.ownsRow_nil _ _ _ _, fun i p h => by simp at h, HBW.out⟩
  case round =>
    obtain ⟨k, hk, rfl, l, hl, HO, HS, HB⟩ := hrel
    by_cases hkt : k < a + b
    · have hkz : (k : Int) < a + b := by omega
      by_cases hka : k < a
      · have hkaz : (k : Int) < a := by omega
        have hszB := HB.out.size
        have HW : Hid (Below wr.heap.size wr ((wr.alloc (.cells #[.int .i64 k, .int .i64 0, .int .i64 0, .slice none 0 0, .slice none 0 0, .slice (some ⟨wr.heap.size + 1, 0, none⟩) 1 1] 56)).alloc (.cells #[.string strG] 9))) := ((Below.refl wr.heap.size wr).alloc (Nat.le_refl _) _).alloc (by simp) _
        have HG : Hid (GrpAt ((wr.alloc (.cells #[.int .i64 k, .int .i64 0, .int .i64 0, .slice none 0 0, .slice none 0 0, .slice (some ⟨wr.heap.size + 1, 0, none⟩) 1 1] 56)).alloc (.cells #[.string strG] 9)) (.slice (some ⟨wr.heap.size + 1, 0, none⟩) 1 1) [strG]) := by
          have h := own_full (base := 0) (e := 9) (wr.alloc (.cells #[.int .i64 k, .int .i64 0, .int .i64 0, .slice none 0 0, .slice none 0 0, .slice (some ⟨wr.heap.size + 1, 0, none⟩) 1 1] 56)) #[.string strG] 1 1 (Nat.zero_le _) (by unfold maxLen; omega) rfl
          rw [World.size_alloc] at h
          exact h
        go_wp2_with (at_builtin; refine wpList_append_own _ rfl _ _ 34 rfl w.heap.size 56 i0 _ 6 96 Tryd.underlying34 HI.out.1 HI.out.2.1 HI.out.2.2.1 HI.out.2.2.2 rfl (by decide) _ _ _ rfl ((ownsRow_below HO.out HW.out).alloc _) ⟨wr.heap.size + 1 + 1, 0, none⟩ 1 1 [.int .i64 k, .int .i64 0, .int .i64 0, .slice none 0 0, .slice none 0 0, .slice (some ⟨wr.heap.size + 1, 0, none⟩) 1 1] rfl rfl ?c1 ?c2 ?c3 ?c4 ?c5 ?_)
        case c1 =>
          have h := cells_new ((wr.alloc (.cells #[.int .i64 k, .int .i64 0, .int .i64 0, .slice none 0 0, .slice none 0 0, .slice (some ⟨wr.heap.size + 1, 0, none⟩) 1 1] 56)).alloc (.cells #[.string strG] 9)) [.int .i64 k, .int .i64 0, .int .i64 0, .slice none 0 0, .slice none 0 0, .slice (some ⟨wr.heap.size + 1, 0, none⟩) 1 1] 56
          rw [World.size_alloc, World.size_alloc] at h
          exact h
        case c2 => intro u hu; simp at hu; rcases hu with rfl | rfl | rfl | rfl | rfl | rfl <;> rfl
        case c3 => unfold maxLen; omega
        case c4 => omega
        case c5 => simp; omega
        intro v' w2 hown' hgrow _
        have HOW := ownsRow_below HO.out (HW.out.alloc (by simp <;> omega) (.cells #[.int .i64 k, .int .i64 0, .int .i64 0, .slice none 0 0, .slice none 0 0, .slice (some ⟨wr.heap.size + 1, 0, none⟩) 1 1] 56))
        have HB2 : Hid (Below w.heap.size w w2) := (HB.out.trans ((HW.out.alloc (by simp <;> omega) _).mono hszB)).grown hgrow (by simp; omega) (fun j hj => (HOW.lt j hj).1)
        have HO2 : Hid (w2.ownsRow w.heap.size 56 6 v' (k + 1) (entsV (l ++ [((k : Int), .slice (some ⟨wr.heap.size + 1, 0, none⟩) 1 1)]))) := by
          show w2.ownsRow _ _ _ _ _ _
          rw [entsV_snoc]; exact hown'
        have HS2 : Hid (∀ i p, (l ++ [((k : Int), .slice (some ⟨wr.heap.size + 1, 0, none⟩) 1 1)])[i]? = some p → GrpAt w2 p.2 (subG a i)) := fun i p hp => by
          rw [List.getElem?_append] at hp
          by_cases hlt : i < l.length
          · rw [if_pos hlt] at hp
            exact ((HS.out i p hp).later (HW.out.alloc (by simp <;> omega) _)).grown HOW hgrow
          · rw [if_neg hlt] at hp
            obtain rfl : i = k := by
              have := (List.getElem?_eq_some_iff.1 hp).1
              simp at this; omega
            rw [hl, Nat.sub_self, List.getElem?_cons_zero] at hp
            obtain rfl := Option.some.inj hp
            have e : subG a i = [strG] := if_pos hka
            rw [e]
            exact (HG.out.later ((Below.refl _ _).alloc (Nat.le_refl _) _)).grown HOW hgrow
        clear hown' hgrow HOW
        go_wp2_with fail
        go_roundw
        case rel => exact ⟨k + 1, by omega, by go_num, l ++ [((k : Int), .slice (some ⟨wr.heap.size + 1, 0, none⟩) 1 1)], by simp [hl], HO2, HS2, HB2⟩
        case measure => simp [intOf]; omega
      · have hkaz : ¬ (k : Int) < a := by omega
        have hszB := HB.out.size
        have HW : Hid (Below wr.heap.size wr (wr.alloc (.cells #[.int .i64 k, .int .i64 0, .int .i64 0, .slice none 0 0, .slice none 0 0, .slice none 0 0] 56))) := (Below.refl wr.heap.size wr).alloc (Nat.le_refl _) _
        go_wp2_with (at_builtin; refine wpList_append_own _ rfl _ _ 34 rfl w.heap.size 56 i0 _ 6 96 Tryd.underlying34 HI.out.1 HI.out.2.1 HI.out.2.2.1 HI.out.2.2.2 rfl (by decide) _ _ _ rfl ((ownsRow_below HO.out HW.out).alloc _) ⟨wr.heap.size + 1, 0, none⟩ 1 1 [.int .i64 k, .int .i64 0, .int .i64 0, .slice none 0 0, .slice none 0 0, .slice none 0 0] rfl rfl ?d1 ?d2 ?d3 ?d4 ?d5 ?_)
        case d2 => exact ⟨rfl, rfl, rfl⟩
        case d3 => unfold maxLen; omega
        case d4 => omega
        case d5 => first | omega | (simp; omega)
        intro v' w2 hown' hgrow _
        have HOW := ownsRow_below HO.out (HW.out.alloc (by simp <;> omega) (.cells #[.int .i64 k, .int .i64 0, .int .i64 0, .slice none 0 0, .slice none 0 0, .slice none 0 0] 56))
        have HB2 : Hid (Below w.heap.size w w2) := (HB.out.trans ((HW.out.alloc (by simp <;> omega) _).mono hszB)).grown hgrow (by simp; omega) (fun j hj => (HOW.lt j hj).1)
        have HO2 : Hid (w2.ownsRow w.heap.size 56 6 v' (k + 1) (entsV (l ++ [((k : Int), .slice none 0 0)]))) := by
          show w2.ownsRow _ _ _ _ _ _
          rw [entsV_snoc]; exact hown'
        have HS2 : Hid (∀ i p, (l ++ [((k : Int), .slice none 0 0)])[i]? = some p → GrpAt w2 p.2 (subG a i)) := fun i p hp => by
          rw [List.getElem?_append] at hp
          by_cases hlt : i < l.length
          · rw [if_pos hlt] at hp
            exact ((HS.out i p hp).later (HW.out.alloc (by simp <;> omega) _)).grown HOW hgrow
          · rw [if_neg hlt] at hp
            obtain rfl : i = k := by
              have := (List.getElem?_eq_some_iff.1 hp).1
              simp at this; omega
            rw [hl, Nat.sub_self, List.getElem?_cons_zero] at hp
            obtain rfl := Option.some.inj hp
            have e : subG a i = [] := if_neg hka
            rw [e]
            exact GrpAt.nil _
        clear hown' hgrow HOW
        go_wp2_with fail
        go_roundw
        case rel => exact ⟨k + 1, by omega, by go_num, l ++ [((k : Int), .slice none 0 0)], by simp [hl], HO2, HS2, HB2⟩
        case measure => simp [intOf]; omega
    · have HKAB : Hid (k = a + b) := by show k = a + b; omega
      have HEN : Hid (EntAt wr.heap.size wr u13 k (subG a)) := by
        have h := ents_at (gs := subG a) (by rw [hl]; exact HO.out) fun i p hp => (HS.out i p hp).strs
        rw [hl] at h
        exact h
      clear HO HS
      obtain ⟨W0, hW0⟩ : ∃ W0, W0 = wr := ⟨_, rfl⟩
      subst hW0
      obtain ⟨al, cl, rfl, _⟩ := id HEN.out
      have HLE := Lib.hid (sumW_le (prodC a b r) lo 4096 (prodC_le la lb r))
      obtain ⟨S, hS⟩ : ∃ S, S = sumW (prodC a b r) lo := ⟨_, rfl⟩
      have HS : Hid (∀ t, S (t + 1) = S t + prodC a b r (lo + t)) := fun t => by rw [hS]; rfl
      have HS0 : Hid (S 0 = 0) := by show _ = _; rw [hS]; rfl
      have HSE := Lib.hid hS
      rw [← hS] at HLE
      clear hS
      go_wp2_with fail
      obtain ⟨W2, hW2⟩ : ∃ W2, W2 = W0.alloc (.cells #[.string ByteArray.empty, .int .i64 3, .int .i64 0, .int .i64 0, .int .i64 0, .int .i64 0, .slice none 0 0, .bool false, .slice none 0 0, .int .i64 0, .int .i64 r, .slice none 0 0, .slice none 0 0] 33) := ⟨_, rfl⟩
      have HW2 := Lib.hid hW2
      clear hW2
      go_loopw [17, 18] (fun s i wq => ∃ t : Nat, t ≤ hi8 + 1 - lo ∧ i = .int .i64 (lo + t) ∧ s = .int .i64 (S t) ∧ Hid (Below W2.heap.size W2 wq)) (fun _ i _ => 100 - (intOf i).toNat)
      case atStart => exact ⟨0, Nat.zero_le _, by go_num, by rw [HS0.out]; rfl, by rw [HW2.out]; exact Below.refl _ _⟩
      case round =>
        obtain ⟨t, ht, rfl, rfl, HQ⟩ := hrel
        by_cases htt : t < hi8 + 1 - lo
        · have htz : (lo : Int) + t ≤ hi8 := by omega
          have hp := prodC_le la lb r (lo + t)
          have hst := HLE.out t
          have hst1 := HLE.out (t + 1)
          have hm : IntKind.i64.wrap (chsI a ((lo : Int) + t) * chsI b ((r : Int) - ((lo : Int) + t))) = (prodC a b r (lo + t) : Int) := by
            rw [prodI]; exact IntWalk.i64_in _ (by omega)
          have hs : IntKind.i64.wrap ((S t : Int) + prodC a b r (lo + t)) = S (t + 1) := by
            rw [HS.out]; rw [IntWalk.i64_in _ (by omega)]; simp
          clear hp hst hst1
          go_wp2_with (first
            | (go_at_call 23; (with_reducible refine (choose_any _ _ _ (by omega)).mono ?_); rintro e wz ⟨rfl, hbz⟩; have HQ := Lib.hid (HQ.out.trans (hbz.mono HQ.out.size)); clear hbz))
          go_wp2_with fail
          go_roundw
          case rel => exact ⟨t + 1, by omega, by go_num, rfl, HQ⟩
          case measure => simp [intOf]; omega
        · obtain rfl : t = hi8 + 1 - lo := by omega
          have htz : ¬ (lo : Int) + (hi8 + 1 - lo : Nat) ≤ hi8 := by omega
          have ht : wr.heap[W0.heap.size]? = some (.cells (subD r (.slice none 0 0)).arr 33 (0, 0)) := (HQ.out.block _ (by rw [HW2.out]; simp)).trans (by rw [HW2.out]; exact heap_alloc_new _ _)
          have HT := Lib.hid ht
          unfold subD DrawC.arr at ht
          dsimp only at ht
          obtain ⟨c0, c1, c2, c3, c4, c5, c6, c7, c8, c9, c10, c11, c12⟩ := cells13 ht
          have clt := cell_lt c0
          clear ht
          have HBA : Hid (Below W0.heap.size W0 wr) := ((Below.refl _ _).alloc (Nat.le_refl _) _).trans ((by rw [HW2.out] at HQ; exact HQ.out : Below (W0.alloc _).heap.size (W0.alloc _) wr).mono (by simp))
          have HCN : Hid (∀ W, Below wr.heap.size wr W → Calls Tryd.prog 17 #[.agg #[.string ByteArray.empty, .int .i64 3, .int .i64 0, .int .i64 0, .int .i64 0, .int .i64 0, .slice none 0 0, .bool false, .slice none 0 0, .int .i64 0, .int .i64 r, .slice none 0 0, .slice none 0 0], .slice al k cl] W fun e w' => e = .returned (.string (natS (chs k r))) ∧ Below W.heap.size W w') := fun W hW => by
            have hW0 : Below W0.heap.size W0 W := HBA.out.trans (hW.mono HBA.out.size)
            have hD : DrawIn W (subD r (.slice none 0 0)) (.slice al k cl) k 0 (fun _ => strG) (fun _ => 0) (fun _ => 0) (subG a) :=
              ⟨⟨rfl, rfl, rfl, rfl, rfl, rfl, rfl, rfl, rfl, rfl⟩, ⟨none, 0, rfl, fun k hk => by omega⟩, HEN.out.mono hW0 hW0.size, fun i => by unfold subG; split <;> simp⟩
            have h := qCount_any _ _ _ _ _ _ _ _ W hD
            rw [pans_none _ k r _ _ _ _ rfl (by omega) rfl] at h
            exact h
          go_wp2_with fail
          refine (HCN.out _ (Below.refl _ _)).mono ?_
          rintro e wz ⟨rfl, hbz⟩
          have ht := (hbz.block _ clt).trans HT.out
          have clz : W0.heap.size < wz.heap.size := Nat.lt_of_lt_of_le clt hbz.size
          have HBZ := Lib.hid (HBA.out.trans (hbz.mono HBA.out.size))
          clear c0 c1 c2 c3 c4 c5 c6 c7 c8 c9 c10 c11 c12 clt hbz HT
          have HT := Lib.hid ht
          have f11 := frozen_of_row wz W0.heap.size 11 _ _ ht
          unfold subD DrawC.arr at ht
          dsimp only at ht
          obtain ⟨c0, c1, c2, c3, c4, c5, c6, c7, c8, c9, c10, c11, c12⟩ := cells13 ht
          clear ht
          go_upto_region 20 with (fail)
          obtain ⟨W5, hW5⟩ : ∃ W5, W5 = (wz.setCell ⟨W0.heap.size, 11, none⟩ (.slice (some ⟨wz.heap.size, 0, none⟩) 1 1)).alloc (.cells #[.string ⟨#[103]⟩, .int .i64 lo, .int .i64 hi8] 52) := ⟨_, rfl⟩
          rw [← hW5]
          have h5 : W5.heap[W0.heap.size]? = some (.cells (subD r (.slice (some ⟨wz.heap.size, 0, none⟩) 1 1)).arr 33 (0, 0)) := by
            rw [hW5, Below.heap_alloc _ _ _ (by simp; exact clz)]
            exact heap_setCell_same wz W0.heap.size 11 _ _ _ HT.out
          have hq5 : W5.heap[wz.heap.size]? = some (.cells #[.string ⟨#[103]⟩, .int .i64 lo, .int .i64 hi8] 52 (0, 0)) := by
            rw [hW5]
            have := heap_alloc_new (wz.setCell ⟨W0.heap.size, 11, none⟩ (.slice (some ⟨wz.heap.size, 0, none⟩) 1 1)) (.cells #[.string ⟨#[103]⟩, .int .i64 lo, .int .i64 hi8] 52)
            simpa using this
          have HB5 : Hid (Below W0.heap.size W0 W5) := by
            rw [hW5]
            exact (HBZ.out.setCell (by simp) _).alloc (by simp; exact HBZ.out.size) _
          have hs5 : wz.heap.size < W5.heap.size := by rw [hW5]; simp
          have HD5 : Hid (∀ W, Below W5.heap.size W5 W → W.heap[W0.heap.size]? = some (.cells (subD r (.slice (some ⟨wz.heap.size, 0, none⟩) 1 1)).arr 33 (0, 0))) := fun W hW => (hW.block _ (Array.getElem?_eq_some_iff.1 h5).1).trans h5
          have HCN2 : Hid (∀ W, Below W5.heap.size W5 W → Calls Tryd.prog 17 #[.agg #[.string ByteArray.empty, .int .i64 3, .int .i64 0, .int .i64 0, .int .i64 0, .int .i64 0, .slice none 0 0, .bool false, .slice none 0 0, .int .i64 0, .int .i64 r, .slice (some ⟨wz.heap.size, 0, none⟩) 1 1, .slice none 0 0], .slice al k cl] W fun e w' => e = .returned (.string (natS (S (hi8 + 1 - lo)))) ∧ Below W.heap.size W w') := fun W hW => by
            have hW0 : Below W0.heap.size W0 W := HB5.out.trans (hW.mono HB5.out.size)
            have hq := (hW.block _ hs5).trans hq5
            have hD : DrawIn W (subD r (.slice (some ⟨wz.heap.size, 0, none⟩) 1 1)) (.slice al k cl) k 1 (fun _ => strG) (fun _ => lo) (fun _ => hi8) (subG a) :=
              ⟨⟨rfl, rfl, rfl, rfl, rfl, rfl, rfl, rfl, rfl, rfl⟩, ⟨some ⟨wz.heap.size, 0, none⟩, 1, rfl, fun k hk => by
                obtain rfl : k = 0 := by omega
                exact ⟨_, _, rfl, Nat.lt_of_lt_of_le hs5 hW.size, by rw [cell_of_row W _ _ _ _ _ hq]; rfl, by rw [cell_of_row W _ _ _ _ _ hq]; rfl, by rw [cell_of_row W _ _ _ _ _ hq]; rfl⟩⟩, HEN.out.mono hW0 hW0.size, fun i => by unfold subG; split <;> simp⟩
            have h := qCount_any _ _ _ _ _ _ _ _ W hD
            have e := pans_one (subD r (.slice (some ⟨wz.heap.size, 0, none⟩) 1 1)) a b r lo hi8 (fun _ => strG) (fun _ => lo) (fun _ => hi8) (subG a) rfl (by omega) rfl rfl rfl fun i hi => by
              unfold subG
              by_cases h : i < a
              · rw [if_pos h, decide_eq_true h]; rfl
              · rw [if_neg h, decide_eq_false h]; rfl
            rw [← HSE.out] at e
            rw [HKAB.out] at h ⊢
            rw [e] at h
            exact h
          have HCH : Hid (∀ W, Calls Tryd.prog 23 #[.int .i64 ((a : Int) + b), .int .i64 r] W fun e w' => e = .returned (.int .i64 (chs k r)) ∧ Below W.heap.size W w') := fun W => by
            have h := choose_any k r W (by omega)
            have e : chsI k r = chs k r := if_pos (by omega)
            have e2 : ((k : Nat) : Int) = (a : Int) + b := by rw [HKAB.out]; simp
            rw [e, e2] at h
            exact h
          have HOF : ∀ (n : Nat), n ≤ 9223372036854775807 → ∀ W, Calls Tryd.prog 18 #[.int .i64 n] W fun e w' => e = .returned (.string (natS n)) ∧ Below W.heap.size W w' := fun n hn W => pOf_any n W (by omega)
          have hk12 : chs k r ≤ 2 ^ 12 := Nat.le_trans (chs_le k r) (Nat.pow_le_pow_right (by decide) (by omega))
          have hS12 := HLE.out (hi8 + 1 - lo)
          have HOF1 := Lib.hid (HOF (chs k r) (by omega))
          have HOF2 := Lib.hid (HOF (S (hi8 + 1 - lo)) (by omega))
          clear HOF hk12 hS12 hW5 h5 hq5 hs5 f11 c0 c1 c2 c3 c4 c5 c6 c7 c8 c9 c10 c11 c12 clz
          have hd5 := HD5.out W5 (Below.refl _ _)
          unfold subD DrawC.arr at hd5 HD5
          dsimp only at hd5 HD5
          obtain ⟨c0, c1, c2, c3, c4, c5, c6, c7, c8, c9, c10, c11, c12⟩ := cells13 hd5
          have clt := cell_lt c0
          clear hd5
          have HB6 : Hid (Below W5.heap.size W5 W5) := Below.refl _ _
          go_wp2_with (first
            | (go_at_call 23; (with_reducible refine (HCH.out _).mono ?_); rintro e wq ⟨rfl, hbq⟩; have HB6 := Lib.hid (HB6.out.trans (hbq.mono HB6.out.size)); clear hbq; have hd5 := HD5.out _ HB6.out; obtain ⟨c0, c1, c2, c3, c4, c5, c6, c7, c8, c9, c10, c11, c12⟩ := cells13 hd5; clear hd5)
            | (go_at_call 18; (first | (with_reducible refine (HOF1.out _).mono ?_) | (with_reducible refine (HOF2.out _).mono ?_)); rintro e wq ⟨rfl, hbq⟩; have HB6 := Lib.hid (HB6.out.trans (hbq.mono HB6.out.size)); clear hbq; have hd5 := HD5.out _ HB6.out; obtain ⟨c0, c1, c2, c3, c4, c5, c6, c7, c8, c9, c10, c11, c12⟩ := cells13 hd5; clear hd5)
            | (go_at_call 17; (with_reducible refine (HCN2.out _ HB6.out).mono ?_); rintro e wq ⟨rfl, hbq⟩; have HB6 := Lib.hid (HB6.out.trans (hbq.mono HB6.out.size)); clear hbq; have hd5 := HD5.out _ HB6.out; obtain ⟨c0, c1, c2, c3, c4, c5, c6, c7, c8, c9, c10, c11, c12⟩ := cells13 hd5; clear hd5))
          go_ret
          exact ⟨rfl, (HB.out.trans (HB5.out.mono HB.out.size)).trans (HB6.out.mono (Nat.le_trans HB.out.size HB5.out.size))⟩

end Go.Proofs.YtebigkjilklodaaDoor

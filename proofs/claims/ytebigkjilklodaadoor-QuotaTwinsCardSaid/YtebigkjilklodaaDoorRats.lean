/- The program's rational numbers: small functions. -/
import Derived.Deep.RegionHeld3
import Derived.Test.YtebigkjilklodaaDoorNats
import Derived.Test.YtebigkjilklodaaDoorLaws
import Derived.Test.YtebigkjilklodaaDoorRegs
set_option linter.unusedVariables false
set_option linter.unusedSimpArgs false
namespace Go.Proofs.YtebigkjilklodaaDoor
open Go.RowKit

/-- Has a number no zero in front? -/
def rightS (s : ByteArray) : Bool := decide (natS (valB s.data.toList) = s)
theorem rightS_empty {s : ByteArray} (h : s.size = 0) : rightS s = true := by
  have e : s.data.toList = [] := List.eq_nil_of_length_eq_zero (by rw [list_len]; exact h)
  unfold rightS
  rw [e, valB_nil, natS_zero]
  apply decide_eq_true
  cases s with | mk d =>
  simp at e
  rw [e]
theorem below3 {B b : Nat} {w w' : World} (h : Below B w w') (hb : B ≤ b) (x y z : Value) : Below B w (((w'.setCell ⟨b, 0, none⟩ x).setCell ⟨b, 1, none⟩ y).setCell ⟨b, 2, none⟩ z) :=
  ((h.setCell (p := ⟨b, 0, none⟩) hb x).setCell (p := ⟨b, 1, none⟩) hb y).setCell (p := ⟨b, 2, none⟩) hb z
theorem rightS_head {s : ByteArray} (h : 0 < s.size) : rightS s = decide (s[0] ≠ 0) := by
  have hb := byte_at h
  have hl : s.data.toList.length = s.size := list_len s
  obtain ⟨b, l, e⟩ := List.exists_cons_of_ne_nil (show s.data.toList ≠ [] from fun e => by rw [e] at hl; simp at hl; omega)
  rw [hb, e]
  unfold rightS natS
  rw [← dropZ_eq, e]
  simp only [List.getElem?_cons_zero, Option.getD_some]
  rw [decide_eq_decide]
  have hs : s = ⟨(b :: l).toArray⟩ := by rw [← e]
  constructor
  · intro h1 h2
    rw [hs] at h1
    have h3 : dropZ (b :: l) = b :: l := by simpa using h1
    have h4 : dropZ (b :: l) = dropZ l := by rw [h2]; simp [dropZ]
    rw [h4] at h3
    have : (dropZ l).length ≤ l.length := List.Sublist.length_le (List.dropWhile_sublist _)
    rw [h3, List.length_cons] at this
    omega
  · intro h1
    rw [hs]
    have : dropZ (b :: l) = b :: l := by simp [dropZ, h1]
    rw [this]

theorem byte_ne (b : UInt8) : ((b.toNat : Int) != 0) = decide (b ≠ 0) := by
  by_cases h : b = 0
  · subst h; rfl
  · have : b.toNat ≠ 0 := fun e => h (UInt8.toNat_inj.1 (by simpa using e))
    rw [decide_eq_true h, bne_iff_ne]
    omega
set_option maxHeartbeats 400000 in
theorem pRight_any (s : ByteArray) (w : World) (hs : s.size ≤ 1000000) :
    Calls Tryd.prog 83 #[.string s] w fun e w' => e = .returned (.bool (rightS s)) ∧ w = w' := by
  by_cases h0 : s.size = 0
  · have e0 : s.toList = [] := by
      rw [ByteArray.toList_eq]
      exact List.eq_nil_of_length_eq_zero (by rw [list_len]; exact h0)
    have HR := Lib.hid (rightS_empty h0)
    have e1 : s.toList.isEmpty = true := by rw [e0]; rfl
    clear h0
    go_enter Tryd.func83, Tryd.ntmps83
    go_wp2_with fail
    go_ret
    exact ⟨ret_bool (by rw [HR.out]), rfl⟩
  · have hp : 0 < s.size := by omega
    have e1 : s.toList.isEmpty = false := by
      rw [ByteArray.toList_eq, List.isEmpty_eq_false_iff]
      intro e
      have := list_len s
      rw [e] at this; simp at this; omega
    have HR := Lib.hid (rightS_head hp)
    have hz : (0 : Int) < s.size := by omega
    clear h0
    go_enter Tryd.func83, Tryd.ntmps83
    go_wp2_with fail
    go_ret
    exact ⟨ret_bool (by rw [HR.out]; exact byte_ne _), rfl⟩

instance : DecidableEq RatG := fun p q => decidable_of_iff (p.neg = q.neg ∧ p.num = q.num ∧ p.den = q.den) (by cases p; cases q; simp)
/-- A result of three cells that has just been laid. -/
theorem rat_new (w : World) : (w.alloc (.cells #[.bool false, .string ⟨#[]⟩, .string ⟨#[]⟩] 63)).heap[w.heap.size]? = some (.cells #[.bool false, .string ⟨#[]⟩, .string ⟨#[]⟩] 63 (0, 0)) := heap_alloc_new w _
/-- Three cells known. -/
def Cells3 (b : Nat) (w : World) (x y z : Value) : Prop := w.heap[b]? = some (.cells #[x, y, z] 63 (0, 0))
theorem Cells3.at {b : Nat} {w : World} {x y z : Value} (h : Cells3 b w x y z) : w.cell? ⟨b, 0, none⟩ = some x ∧ w.cell? ⟨b, 1, none⟩ = some y ∧ w.cell? ⟨b, 2, none⟩ = some z ∧ w.frozen? ⟨b, 0, none⟩ = false ∧ w.frozen? ⟨b, 1, none⟩ = false ∧ w.frozen? ⟨b, 2, none⟩ = false ∧ b < w.heap.size := by
  have h1 : w.cell? ⟨b, 0, none⟩ = some x := by rw [cell_of_row w b _ _ _ _ h]; rfl
  refine ⟨h1, ?_, ?_, frozen_of_row w b 0 _ _ h, frozen_of_row w b 1 _ _ h, frozen_of_row w b 2 _ _ h, cell_lt h1⟩
  iterate 2 (rw [cell_of_row w b _ _ _ _ h]; rfl)
theorem Cells3.later {b C : Nat} {w w' : World} {x y z : Value} (h : Cells3 b w x y z) (hb : Below C w w') (hC : b < C) : Cells3 b w' x y z := (hb.block b hC).trans h

/-- What '==' says of two rational numbers. -/
def ratEq (p q : RatG) : Bool := (p.neg == q.neg) && (p.num.toList == q.num.toList) && (p.den.toList == q.den.toList)
theorem toList_inj {a b : ByteArray} (h : a.toList = b.toList) : a = b := by
  rw [ByteArray.toList_eq, ByteArray.toList_eq] at h
  cases a; cases b; congr 1; exact Array.toList_inj.1 h
theorem ratEq_iff (p q : RatG) : ratEq p q = decide (p = q) := by
  obtain ⟨a, b, c⟩ := p
  obtain ⟨d, e, f⟩ := q
  unfold ratEq
  rw [Bool.eq_iff_iff]
  simp only [Bool.and_eq_true, beq_iff_eq, decide_eq_true_eq, RatG.mk.injEq]
  constructor
  · rintro ⟨⟨h1, h2⟩, h3⟩; exact ⟨h1, toList_inj h2, toList_inj h3⟩
  · rintro ⟨rfl, rfl, rfl⟩; exact ⟨⟨rfl, rfl⟩, rfl⟩
theorem rat_eql (p q : RatG) (w : World) : (binOp .eql 63 (.agg #[.bool p.neg, .string p.num, .string p.den]) (.agg #[.bool q.neg, .string q.num, .string q.den])).run Tryd.prog w = .ok (.bool (decide (p = q))) w := by
  have u3 := Tryd.underlying4
  have a3 := Tryd.isAgg4
  have z3 := Tryd.sizeOf4
  have u9 := Tryd.underlying45
  have a9 := Tryd.isAgg45
  have z9 := Tryd.sizeOf45
  have hS : Tryd.prog.underlying 63 = some (.struct (Tryd.prog.fieldsOf 63)) := by kernel_rfl
  have hp : Tryd.prog.stoodInHeld 63 = false := by kernel_rfl
  rw [← ratEq_iff, run_eql_struct, show (10000 : Nat) = 9999 + 1 from rfl, run_equalIn_agg w 9999 63 _ _ hS hp]
  simp only [Program.fieldsOf, Tryd.underlying63]
  go_simp
  unfold ratEq
  cases h1 : p.neg == q.neg <;> cases h2 : p.num.toList == q.num.toList <;> cases h3 : p.den.toList == q.den.toList <;> simp_all
theorem rat_guard (x y : Operand) (xs ys : Array Value) (w : World) : (eqGuard .eql 63 x y (.agg xs) (.agg ys)).run Tryd.prog w = .ok () w := run_eqGuard_agg w .eql 63 x y xs ys (by kernel_rfl)

/-- What 'lowest' returns. -/
def LowEnd (r : Rat) (w : World) (e : Ending) (w' : World) : Prop := e = .returned (ratG r).val ∧ Below w.heap.size w w'

set_option maxHeartbeats 600000 in
set_option maxRecDepth 100000 in
theorem plowest_any (neg : Bool) (s t : ByteArray) (w : World) (hs : s.size ≤ 1000000) (ht : t.size ≤ 1000000) (h0 : 0 < valB t.data.toList) :
    Calls Tryd.prog 52 #[.bool neg, .string s, .string t] w (LowEnd (mkRat (sgn neg (valB s.data.toList)) (valB t.data.toList)) w) := by
  have HG := Lib.hid (fun w => pGcd_any s t w hs ht)
  have hgp : 0 < (valB s.data.toList).gcd (valB t.data.toList) := Nat.gcd_pos_of_pos_right _ h0
  have hgl : (natS ((valB s.data.toList).gcd (valB t.data.toList))).size ≤ 1000000 :=
    Nat.le_trans (natS_size_mono (Nat.gcd_le_right _ h0)) (Nat.le_trans (val_le t) ht)
  have HR := Lib.hid (ratG_mk (neg := neg) (n := valB s.data.toList) h0)
  have HQ1 := Lib.hid (fun w => pQuo_any s (natS ((valB s.data.toList).gcd (valB t.data.toList))) w hs hgl (by rw [valB_natS]; exact hgp))
  have HQ2 := Lib.hid (fun w => pQuo_any t (natS ((valB s.data.toList).gcd (valB t.data.toList))) w ht hgl (by rw [valB_natS]; exact hgp))
  rw [valB_natS] at HQ1 HQ2
  obtain ⟨R, hRe⟩ : ∃ R, R = mkRat (sgn neg (valB s.data.toList)) (valB t.data.toList) := ⟨_, rfl⟩
  rw [← hRe] at HR ⊢
  obtain ⟨g, hg⟩ : ∃ g, g = (valB s.data.toList).gcd (valB t.data.toList) := ⟨_, rfl⟩
  rw [← hg] at HG HR HQ1 HQ2
  obtain ⟨q, hq⟩ : ∃ q, q = valB s.data.toList / g := ⟨_, rfl⟩
  obtain ⟨d, hd⟩ : ∃ d, d = valB t.data.toList / g := ⟨_, rfl⟩
  rw [← hq] at HR
  rw [← hd] at HR
  unfold QuoEnd at HQ1 HQ2
  rw [← hq] at HQ1
  rw [← hd] at HQ2
  clear hRe hg hq hd hgp hgl h0
  have hqe : (natS q).toList.isEmpty = decide (q = 0) := by
    rw [ByteArray.toList_eq, natS_list]
    by_cases h : q = 0
    · subst h; rw [natB_zero]; rfl
    · rw [decide_eq_false h]
      exact List.isEmpty_eq_false_iff.2 (natB_ne (by omega))
  go_enter Tryd.func52, Tryd.ntmps52
  go_wp2_with fail
  obtain ⟨W0, hW0⟩ : ∃ W0, W0 = w.alloc (.cells #[.bool false, .string ⟨#[]⟩, .string ⟨#[]⟩] 63) := ⟨_, rfl⟩
  have hc : Cells3 w.heap.size W0 (.bool false) (.string ⟨#[]⟩) (.string ⟨#[]⟩) := by rw [hW0]; exact rat_new w
  have hB0 : Below w.heap.size w W0 := by rw [hW0]; exact (Below.refl _ _).alloc (Nat.le_refl _) _
  rw [← hW0]
  clear hW0
  have hlt := hc.at.2.2.2.2.2.2
  refine (HG.out _).mono ?_
  rintro e w1 ⟨rfl, b1⟩
  go_wp2_with fail
  refine (HQ1.out _).mono ?_
  rintro e w2 ⟨rfl, b2⟩
  have b12 := b1.trans (b2.mono b1.size)
  clear b1 b2
  go_wp2_with fail
  refine (HQ2.out _).mono ?_
  rintro e w3 ⟨rfl, b3⟩
  have b13 := b12.trans (b3.mono b12.size)
  have hc3 := hc.later b13 hlt
  obtain ⟨c0, c1, c2, f0, f1, f2, _⟩ := hc3.at
  have HB := Lib.hid (hB0.trans (b13.mono hB0.size))
  clear b12 b3 b13 hc hc3 hlt hB0 HG HQ1 HQ2
  have HEND : Hid (∀ W, Below w.heap.size w W → LowEnd R w (.returned (.agg #[.bool (neg && decide (q ≠ 0)), .string (natS q), .string (natS d)])) W) := by
    intro W hW
    refine ⟨?_, hW⟩
    rw [HR.out]; rfl
  cases neg
  · go_wp2_with fail
    exact bodyPost_ret (v := .agg #[.bool (false && decide (q ≠ 0)), .string (natS q), .string (natS d)]) (by simp [results, Tryd.results52, go_sem, c0, c1, c2]) rfl (HEND.out _ (below3 HB.out (Nat.le_refl _) _ _ _))
  · by_cases hq0 : q = 0
    · rw [decide_eq_true hq0] at hqe
      have HQ0 := Lib.hid hq0
      clear hq0
      go_wp2_with fail
      exact bodyPost_ret (v := .agg #[.bool (true && decide (q ≠ 0)), .string (natS q), .string (natS d)]) (by simp [results, Tryd.results52, go_sem, c0, c1, c2]; exact HQ0.out) rfl (HEND.out _ (below3 HB.out (Nat.le_refl _) _ _ _))
    · rw [decide_eq_false hq0] at hqe
      have HQ0 := Lib.hid hq0
      clear hq0
      go_wp2_with fail
      exact bodyPost_ret (v := .agg #[.bool (true && decide (q ≠ 0)), .string (natS q), .string (natS d)]) (by simp [results, Tryd.results52, go_sem, c0, c1, c2]; exact HQ0.out) rfl (HEND.out _ (below3 HB.out (Nat.le_refl _) _ _ _))

end Go.Proofs.YtebigkjilklodaaDoor

/- The program's rational numbers: Right, value, Of. -/
namespace Go.Proofs.YtebigkjilklodaaDoor
open Go.RowKit

set_option maxHeartbeats 400000 in
theorem ppos_any (s : ByteArray) (w : World) (hs : s.size ≤ 1000000) :
    Calls Tryd.prog 82 #[.agg #[.string ⟨#[]⟩], .string s] w fun e w' => e = .returned (.bool (rightS s && decide (0 < valB s.data.toList))) ∧ Below w.heap.size w w' := by
  have HR := Lib.hid (fun w => pRight_any s w hs)
  have HC := Lib.hid (fun w => pCmp_any s ⟨#[]⟩ w hs (by decide))
  have hz : valB (⟨#[]⟩ : ByteArray).data.toList = 0 := rfl
  rw [hz] at HC
  cases hr : rightS s
  · rw [hr] at HR
    clear hr
    go_enter Tryd.func82, Tryd.ntmps82
    go_wp2_with fail
    refine (HR.out _).mono ?_
    rintro e w1 ⟨rfl, rfl⟩
    go_wp2_with fail
    go_ret
    exact ⟨rfl, (Below.refl _ _).alloc (Nat.le_refl _) _⟩
  · rw [hr] at HR
    have hcz : decide (cmpN (valB s.data.toList) 0 > 0) = decide (0 < valB s.data.toList) := by
      unfold cmpN
      rw [if_neg (by omega)]
      by_cases h : 0 < valB s.data.toList
      · rw [if_pos h, decide_eq_true h]; rfl
      · rw [if_neg h, decide_eq_false h]; rfl
    obtain ⟨v, hv⟩ : ∃ v, v = decide (0 < valB s.data.toList) := ⟨_, rfl⟩
    rw [← hv] at hcz ⊢
    obtain ⟨c, hc⟩ : ∃ c, c = cmpN (valB s.data.toList) 0 := ⟨_, rfl⟩
    rw [← hc] at hcz HC
    clear hr hv hc
    have HCZ := Lib.hid hcz
    clear hcz
    go_enter Tryd.func82, Tryd.ntmps82
    go_wp2_with fail
    refine (HR.out _).mono ?_
    rintro e w1 ⟨rfl, rfl⟩
    go_wp2_with fail
    refine (HC.out _).mono ?_
    rintro e w2 ⟨rfl, b2⟩
    go_wp2_with fail
    go_ret
    exact ⟨ret_bool (by first | exact HCZ.out | (rw [← HCZ.out]; rfl)), ((Below.refl _ _).alloc (Nat.le_refl _) _).trans (b2.mono (by simp))⟩

theorem right_parts (a : RatG) (h1 : (rightS a.den && decide (0 < valB a.den.data.toList)) = true) (h2 : rightS a.num = true) : a.right = decide (ratG (mkRat (sgn a.neg (valB a.num.data.toList)) (valB a.den.data.toList)) = a) := by
  rw [Bool.eq_iff_iff, decide_eq_true_iff]
  constructor
  · intro h
    have := RatG.of_right h
    unfold RatG.rat at this
    rwa [if_pos h] at this
  · intro h
    rw [← h]
    exact ratG_right _
theorem right_no1 {a : RatG} (h1 : (rightS a.den && decide (0 < valB a.den.data.toList)) = false) : a.right = false := by
  unfold rightS at h1
  unfold RatG.right
  cases hd : decide (natS (valB a.den.data.toList) = a.den)
  · simp
  · rw [hd, Bool.true_and] at h1
    rw [h1]; simp
theorem right_no2 {a : RatG} (h2 : rightS a.num = false) : a.right = false := by
  unfold rightS at h2
  unfold RatG.right
  rw [h2]; simp

set_option maxHeartbeats 400000 in
set_option maxRecDepth 100000 in
theorem prright_any (a : RatG) (w : World) (h1 : a.num.size ≤ 1000000) (h2 : a.den.size ≤ 1000000) :
    Calls Tryd.prog 65 #[a.val] w fun e w' => e = .returned (.bool a.right) ∧ Below w.heap.size w w' := by
  have HP := Lib.hid (fun w => ppos_any a.den w h2)
  have HR := Lib.hid (fun w => pRight_any a.num w h1)
  have hmf : ∀ (fn : Fn) (first cap : Array Value) (w : World), (Instr.makeFunc fn first cap).run Tryd.prog w = .ok (.func fn first cap) w := fun _ _ _ _ => rfl
  obtain ⟨neg, num, den⟩ := a
  unfold RatG.val
  dsimp only at *
  have key : ∀ (p q r : Bool), (rightS den && decide (0 < valB den.data.toList)) = p → (p = true → rightS num = q) → (p = true → q = true → decide (ratG (mkRat (sgn neg (valB num.data.toList)) (valB den.data.toList)) = ⟨neg, num, den⟩) = r) → (p && q && r) = (RatG.mk neg num den).right := by
    intro p q r hp hq hr
    cases p
    · rw [right_no1 (a := ⟨neg, num, den⟩) hp]; rfl
    · have hq := hq rfl
      cases q
      · rw [right_no2 (a := ⟨neg, num, den⟩) hq]; rfl
      · rw [right_parts (a := ⟨neg, num, den⟩) hp hq]
        have := hr rfl rfl
        rw [← this]; rfl
  cases hp : rightS den && decide (0 < valB den.data.toList)
  · have HN := Lib.hid (key false false false hp (fun h => by cases h) (fun h => by cases h))
    rw [hp] at HP
    clear hp key
    go_enter Tryd.func65, Tryd.ntmps65
    go_wp2_with fail
    obtain ⟨W0, hW0⟩ : ∃ W0, W0 = w.alloc (.cells #[.bool neg, .string num, .string den] 63) := ⟨_, rfl⟩
    have hc : Cells3 w.heap.size W0 (.bool neg) (.string num) (.string den) := by rw [hW0]; exact heap_alloc_new w _
    have hB0 : Below w.heap.size w W0 := by rw [hW0]; exact (Below.refl _ _).alloc (Nat.le_refl _) _
    rw [← hW0]
    clear hW0
    obtain ⟨c0, c1, c2, _, _, _, hlt⟩ := hc.at
    refine wp_region_class (Kept _) (by kernel_rfl) (by kernel_rfl) (Kept.drew _) ?_
    repeat (first
      | go_big_quiet_skip
      | (refine BigFrame.wpQuiet_want (by rfl) (fun K hK => ?_)
         first
           | (refine BigFrame.quiet_move _ rfl ?_; refine hK _ ?_)
           | (refine BigFrame.quiet_assign _ rfl ?_; refine hK _ ?_)
           | (apply Exists.intro; refine ⟨fun w' hC => ?_, hK _ ?_⟩
              · (obtain ⟨hcl, hfr⟩ := bcell hC.1; unfold Oper.quietAt; go_simp; first | rfl | (go_at_call 82; exact (HP.out w').mono fun e w'' ⟨he, hb⟩ => ⟨he, hC.next hb⟩)))
         simp only [Act.put, Act.eval, List.setIfInBounds_toArray, List.set_cons_zero, List.set_cons_succ, Array.getD_eq_getD_getElem?, List.getElem?_toArray, List.getElem?_cons_succ, List.getElem?_cons_zero, Option.getD_some]
         clear hK K))
    refine wpQuiet_nil ?_
    intro wq hCq
    go_wp2_with fail
    go_ret
    exact ⟨ret_bool HN.out, hCq.below hB0 hB0.size⟩
  · rw [hp] at HP
    have h0 : 0 < valB den.data.toList := by simp only [Bool.and_eq_true, decide_eq_true_eq] at hp; exact hp.2
    cases hq : rightS num
    · have HN := Lib.hid (key true false false hp (fun _ => hq) (fun _ h => by cases h))
      rw [hq] at HR
      clear hp hq key h0
      go_enter Tryd.func65, Tryd.ntmps65
      go_wp2_with fail
      obtain ⟨W0, hW0⟩ : ∃ W0, W0 = w.alloc (.cells #[.bool neg, .string num, .string den] 63) := ⟨_, rfl⟩
      have hc : Cells3 w.heap.size W0 (.bool neg) (.string num) (.string den) := by rw [hW0]; exact heap_alloc_new w _
      have hB0 : Below w.heap.size w W0 := by rw [hW0]; exact (Below.refl _ _).alloc (Nat.le_refl _) _
      rw [← hW0]
      clear hW0
      obtain ⟨c0, c1, c2, _, _, _, hlt⟩ := hc.at
      refine wp_region_class (Kept _) (by kernel_rfl) (by kernel_rfl) (Kept.drew _) ?_
      repeat (first
        | go_big_quiet_skip
        | (refine BigFrame.wpQuiet_want (by rfl) (fun K hK => ?_)
           first
             | (refine BigFrame.quiet_move _ rfl ?_; refine hK _ ?_)
             | (refine BigFrame.quiet_assign _ rfl ?_; refine hK _ ?_)
             | (apply Exists.intro; refine ⟨fun w' hC => ?_, hK _ ?_⟩
                · (obtain ⟨hcl, hfr⟩ := bcell hC.1; unfold Oper.quietAt; go_simp; first | rfl | (go_at_call 82; exact (HP.out w').mono fun e w'' ⟨he, hb⟩ => ⟨he, hC.next hb⟩) | (go_at_call 83; exact (HR.out w').mono fun e w'' ⟨he, hb⟩ => ⟨he, hb ▸ hC⟩)))
           simp only [Act.put, Act.eval, List.setIfInBounds_toArray, List.set_cons_zero, List.set_cons_succ, Array.getD_eq_getD_getElem?, List.getElem?_toArray, List.getElem?_cons_succ, List.getElem?_cons_zero, Option.getD_some]
           clear hK K))
      refine wpQuiet_nil ?_
      intro wq hCq
      go_wp2_with fail
      go_ret
      exact ⟨ret_bool HN.out, hCq.below hB0 hB0.size⟩
    · rw [hq] at HR
      obtain ⟨R, hRe⟩ : ∃ R, R = mkRat (sgn neg (valB num.data.toList)) (valB den.data.toList) := ⟨_, rfl⟩
      obtain ⟨g, hg⟩ : ∃ g, g = ratG R := ⟨_, rfl⟩
      have HL : Hid (∀ w, Calls Tryd.prog 52 #[.bool neg, .string num, .string den] w fun e w' => e = .returned (.agg #[.bool g.neg, .string g.num, .string g.den]) ∧ Below w.heap.size w w') := fun w => by rw [hg, hRe]; exact plowest_any neg num den w h1 h2 h0
      rw [← hRe, ← hg] at key
      obtain ⟨r, hr⟩ : ∃ r, r = decide (g = ⟨neg, num, den⟩) := ⟨_, rfl⟩
      have HN := Lib.hid (key true true r hp (fun _ => hq) (fun _ _ => hr.symm))
      have hve : ∀ w, (binOp .eql 63 (.agg #[.bool g.neg, .string g.num, .string g.den]) (.agg #[.bool neg, .string num, .string den])).run Tryd.prog w = .ok (.bool r) w := fun w => by rw [hr]; exact rat_eql g ⟨neg, num, den⟩ w
      have hvg := rat_guard
      obtain ⟨g1, g2, g3⟩ := g
      dsimp only at HL hve
      clear hp hq key h0 hRe hr hg
      go_enter Tryd.func65, Tryd.ntmps65
      go_wp2_with fail
      obtain ⟨W0, hW0⟩ : ∃ W0, W0 = w.alloc (.cells #[.bool neg, .string num, .string den] 63) := ⟨_, rfl⟩
      have hc : Cells3 w.heap.size W0 (.bool neg) (.string num) (.string den) := by rw [hW0]; exact heap_alloc_new w _
      have hB0 : Below w.heap.size w W0 := by rw [hW0]; exact (Below.refl _ _).alloc (Nat.le_refl _) _
      rw [← hW0]
      clear hW0
      obtain ⟨c0, c1, c2, _, _, _, hlt⟩ := hc.at
      refine wp_region_class (Kept _) (by kernel_rfl) (by kernel_rfl) (Kept.drew _) ?_
      repeat (first
        | go_big_quiet_skip
        | (refine BigFrame.wpQuiet_want (by rfl) (fun K hK => ?_)
           first
             | (refine BigFrame.quiet_move _ rfl ?_; refine hK _ ?_)
             | (refine BigFrame.quiet_assign _ rfl ?_; refine hK _ ?_)
             | (apply Exists.intro; refine ⟨fun w' hC => ?_, hK _ ?_⟩
                · (obtain ⟨hcl, hfr⟩ := bcell hC.1; unfold Oper.quietAt; go_simp; first | rfl | (go_at_call 82; exact (HP.out w').mono fun e w'' ⟨he, hb⟩ => ⟨he, hC.next hb⟩) | (go_at_call 83; exact (HR.out w').mono fun e w'' ⟨he, hb⟩ => ⟨he, hb ▸ hC⟩) | (go_at_call 52; exact (HL.out w').mono fun e w'' ⟨he, hb⟩ => ⟨he, hC.next hb⟩)))
           simp only [Act.put, Act.eval, List.setIfInBounds_toArray, List.set_cons_zero, List.set_cons_succ, Array.getD_eq_getD_getElem?, List.getElem?_toArray, List.getElem?_cons_succ, List.getElem?_cons_zero, Option.getD_some]
           clear hK K))
      refine wpQuiet_nil ?_
      intro wq hCq
      go_wp2_with fail
      go_ret
      exact ⟨ret_bool (by rw [← HN.out]; rfl), hCq.below hB0 hB0.size⟩

end Go.Proofs.YtebigkjilklodaaDoor

/- The program's rational numbers: ints, values, signs. -/
namespace Go.Proofs.YtebigkjilklodaaDoor
open Go.RowKit

/-- A number comes back; nothing that was has changed. -/
def QRet (r : Rat) (w : World) (e : Ending) (w' : World) : Prop := e = .returned (.agg #[.bool (ratG r).neg, .string (ratG r).num, .string (ratG r).den]) ∧ Below w.heap.size w w'

set_option maxHeartbeats 400000 in
set_option maxRecDepth 100000 in
theorem pROf_any (n : Int) (w : World) (hn : n ≤ 9223372036854775807) (hn2 : -9223372036854775808 ≤ n) :
    Calls Tryd.prog 26 #[.int .i64 n] w (QRet (n : Rat) w) := by
  have HO := Lib.hid (fun (k : Int) (hk : k ≤ 9223372036854775807) w => pOf_any k w hk)
  have HE : Hid (ratG (n : Rat) = ⟨decide (n < 0), natS n.natAbs, natS 1⟩) := ratG_int n
  by_cases h0 : n < 0
  · obtain ⟨m, hm⟩ := Int.eq_ofNat_of_zero_le (show 0 ≤ -(n + 1) by omega)
    have hml : (m : Int) ≤ 9223372036854775807 := by omega
    have hab : n.natAbs = m + 1 := by omega
    rw [hab, decide_eq_true h0] at HE
    have HA := Lib.hid (fun w => pAdd_any (natS m) (natS 1) w (Nat.le_trans (natS_size_lt (k := 8) (by omega)) (by omega)) (by decide +kernel))
    rw [valB_natS, valB_natS] at HA
    have e1 : IntKind.i64.wrap (n + 1) = n + 1 := IntWalk.i64_in _ (by omega)
    have e2 : IntKind.i64.wrap (-(n + 1)) = m := by rw [hm]; exact IntWalk.i64_in _ (by omega)
    have E1 := Lib.hid e1
    have E2 := Lib.hid e2
    have HM := Lib.hid hm
    clear hm hab e1 e2
    go_enter Tryd.func26, Tryd.ntmps26
    go_wp2_with fail
    obtain ⟨W0, hW0⟩ : ∃ W0, W0 = w.alloc (.cells #[.bool false, .string ⟨#[]⟩, .string ⟨#[]⟩] 63) := ⟨_, rfl⟩
    have hc : Cells3 w.heap.size W0 (.bool false) (.string ⟨#[]⟩) (.string ⟨#[]⟩) := by rw [hW0]; exact rat_new w
    have hB0 : Below w.heap.size w W0 := by rw [hW0]; exact (Below.refl _ _).alloc (Nat.le_refl _) _
    rw [← hW0, HM.out]
    clear hW0
    have hlt := hc.at.2.2.2.2.2.2
    refine (HO.out m hml _).mono ?_
    rintro e w1 ⟨rfl, b1⟩
    have k1 := (Kept.refl W0).next b1
    rw [Int.toNat_natCast]
    go_wp2_with fail
    refine (HO.out 1 (by omega) _).mono ?_
    rintro e w2 ⟨rfl, b2⟩
    have k2 := k1.next b2
    rw [show (1 : Int).toNat = 1 from rfl]
    clear b1 b2 k1
    go_wp2_with fail
    refine (HA.out _).mono ?_
    rintro e w3 ⟨rfl, b3⟩
    have k3 := k2.next b3
    clear b3 k2
    go_wp2_with fail
    refine (HO.out 1 (by omega) _).mono ?_
    rintro e w4 ⟨rfl, b4⟩
    have k4 := k3.next b4
    rw [show (1 : Int).toNat = 1 from rfl]
    obtain ⟨c0, c1, c2, f0, f1, f2, _⟩ := (hc.later k4.1 hlt).at
    have HB := Lib.hid (k4.below hB0 hB0.size)
    clear b4 k3 k4 hc hB0
    go_wp2_with fail
    exact bodyPost_ret (v := .agg #[.bool true, .string (natS (m + 1)), .string (natS 1)]) (by simp [results, Tryd.results26, go_sem, c0, c1, c2]) rfl ⟨by rw [HE.out], below3 HB.out (Nat.le_refl _) _ _ _⟩
  · obtain ⟨m, rfl⟩ := Int.eq_ofNat_of_zero_le (show 0 ≤ n by omega)
    have hab : (m : Int).natAbs = m := by omega
    rw [hab, decide_eq_false h0] at HE
    clear hab h0
    have h0 : ¬ (m : Int) < 0 := by omega
    go_enter Tryd.func26, Tryd.ntmps26
    go_wp2_with fail
    obtain ⟨W0, hW0⟩ : ∃ W0, W0 = w.alloc (.cells #[.bool false, .string ⟨#[]⟩, .string ⟨#[]⟩] 63) := ⟨_, rfl⟩
    have hc : Cells3 w.heap.size W0 (.bool false) (.string ⟨#[]⟩) (.string ⟨#[]⟩) := by rw [hW0]; exact rat_new w
    have hB0 : Below w.heap.size w W0 := by rw [hW0]; exact (Below.refl _ _).alloc (Nat.le_refl _) _
    rw [← hW0]
    clear hW0
    have hlt := hc.at.2.2.2.2.2.2
    refine (HO.out m hn _).mono ?_
    rintro e w1 ⟨rfl, b1⟩
    have k1 := (Kept.refl W0).next b1
    rw [Int.toNat_natCast]
    go_wp2_with fail
    refine (HO.out 1 (by omega) _).mono ?_
    rintro e w2 ⟨rfl, b2⟩
    have k2 := k1.next b2
    rw [show (1 : Int).toNat = 1 from rfl]
    obtain ⟨c0, c1, c2, f0, f1, f2, _⟩ := (hc.later k2.1 hlt).at
    have HB := Lib.hid (k2.below hB0 hB0.size)
    clear b1 b2 k1 k2 hc hB0
    go_wp2_with fail
    exact bodyPost_ret (v := .agg #[.bool false, .string (natS m), .string (natS 1)]) (by simp [results, Tryd.results26, go_sem, c0, c1, c2]) rfl ⟨by rw [HE.out], below3 HB.out (Nat.le_refl _) _ _ _⟩

theorem boxed (w : World) (a b c : Value) : Cells3 w.heap.size (w.alloc (.cells #[a, b, c] 63)) a b c := heap_alloc_new w _
theorem Cells3.alloc {b : Nat} {w : World} {x y z : Value} (h : Cells3 b w x y z) (o : Obj) : Cells3 b (w.alloc o) x y z := h.later ((Below.refl _ _).alloc (Nat.le_refl _) o) h.at.2.2.2.2.2.2

set_option maxHeartbeats 400000 in
set_option maxRecDepth 100000 in
theorem pvalue_any (a : RatG) (w : World) (h1 : a.num.size ≤ 1000000) (h2 : a.den.size ≤ 1000000) :
    Calls Tryd.prog 50 #[.agg #[.bool a.neg, .string a.num, .string a.den]] w (QRet a.rat w) := by
  have HR : Hid (∀ w, Calls Tryd.prog 65 #[.agg #[.bool a.neg, .string a.num, .string a.den]] w fun e w' => e = .returned (.bool a.right) ∧ Below w.heap.size w w') := fun w => prright_any a w h1 h2
  have HZ := Lib.hid (fun w => pROf_any 0 w (by omega) (by omega))
  have HW := Lib.hid (fun h => RatG.of_right (a := a) h)
  have HX := Lib.hid (fun h => rat_wrong (a := a) h)
  obtain ⟨r, hr⟩ : ∃ r, r = a.rat := ⟨_, rfl⟩
  rw [← hr] at HW HX ⊢
  cases hb : a.right
  · rw [hb] at HR HX
    have HX := HX.out rfl
    have HEND : Hid (∀ W, Below w.heap.size w W → QRet r w (.returned (.agg #[.bool (ratG ((0 : Int) : Rat)).neg, .string (ratG ((0 : Int) : Rat)).num, .string (ratG ((0 : Int) : Rat)).den])) W) := by
      intro W h
      rw [HX]
      exact ⟨rfl, h⟩
    clear HX
    obtain ⟨neg, num, den⟩ := a
    dsimp only at *
    clear hr hb
    go_enter Tryd.func50, Tryd.ntmps50
    go_wp2_with fail
    obtain ⟨W0, hW0⟩ : ∃ W0, W0 = (w.alloc (.cells #[.bool neg, .string num, .string den] 63)).alloc (.cells #[.bool false, .string ⟨#[]⟩, .string ⟨#[]⟩] 63) := ⟨_, rfl⟩
    have hc : Cells3 (w.heap.size + 1) W0 (.bool false) (.string ⟨#[]⟩) (.string ⟨#[]⟩) := by rw [hW0]; have := rat_new (w.alloc (.cells #[.bool neg, .string num, .string den] 63)); rwa [World.size_alloc] at this
    have hB0 : Below w.heap.size w W0 := by rw [hW0]; exact ((Below.refl _ _).alloc (Nat.le_refl _) _).alloc (by simp) _
    rw [← hW0]
    clear hW0
    have hlt := hc.at.2.2.2.2.2.2
    refine (HR.out _).mono ?_
    rintro e w1 ⟨rfl, b1⟩
    have k1 := (Kept.refl W0).next b1
    clear b1
    go_wp2_with fail
    refine (HZ.out _).mono ?_
    rintro e w2 ⟨rfl, b2⟩
    have k2 := k1.next b2
    obtain ⟨c0, c1, c2, f0, f1, f2, _⟩ := (hc.later k2.1 hlt).at
    have HB := Lib.hid (k2.below hB0 hB0.size)
    clear b2 k1 k2 hc hB0
    go_wp2_with fail
    exact bodyPost_ret (v := .agg #[.bool (ratG ((0 : Int) : Rat)).neg, .string (ratG ((0 : Int) : Rat)).num, .string (ratG ((0 : Int) : Rat)).den]) (by simp [results, Tryd.results50, go_sem, c0, c1, c2]) rfl (HEND.out _ (below3 HB.out (Nat.le_succ _) _ _ _))
  · rw [hb] at HR HW
    have HW := HW.out rfl
    have HEND : Hid (∀ W, Below w.heap.size w W → QRet r w (.returned (.agg #[.bool a.neg, .string a.num, .string a.den])) W) := by
      intro W h
      rw [← HW]
      exact ⟨rfl, h⟩
    clear HW
    obtain ⟨neg, num, den⟩ := a
    dsimp only at *
    clear hr hb
    go_enter Tryd.func50, Tryd.ntmps50
    go_wp2_with fail
    obtain ⟨W0, hW0⟩ : ∃ W0, W0 = (w.alloc (.cells #[.bool neg, .string num, .string den] 63)).alloc (.cells #[.bool false, .string ⟨#[]⟩, .string ⟨#[]⟩] 63) := ⟨_, rfl⟩
    have hc : Cells3 (w.heap.size + 1) W0 (.bool false) (.string ⟨#[]⟩) (.string ⟨#[]⟩) := by rw [hW0]; have := rat_new (w.alloc (.cells #[.bool neg, .string num, .string den] 63)); rwa [World.size_alloc] at this
    have hd : Cells3 w.heap.size W0 (.bool neg) (.string num) (.string den) := by rw [hW0]; exact (boxed w _ _ _).alloc _
    have hB0 : Below w.heap.size w W0 := by rw [hW0]; exact ((Below.refl _ _).alloc (Nat.le_refl _) _).alloc (by simp) _
    rw [← hW0]
    clear hW0
    have hlt := hc.at.2.2.2.2.2.2
    have hlt2 := hd.at.2.2.2.2.2.2
    refine (HR.out _).mono ?_
    rintro e w1 ⟨rfl, b1⟩
    have k1 := (Kept.refl W0).next b1
    obtain ⟨c0, c1, c2, f0, f1, f2, _⟩ := (hc.later k1.1 hlt).at
    obtain ⟨d0, d1, d2, _, _, _, _⟩ := (hd.later k1.1 hlt2).at
    have HB := Lib.hid (k1.below hB0 hB0.size)
    clear b1 k1 hc hd hB0
    go_wp2_with fail
    exact bodyPost_ret (v := .agg #[.bool neg, .string num, .string den]) (by simp [results, Tryd.results50, go_sem, c0, c1, c2]) rfl (HEND.out _ (below3 HB.out (Nat.le_succ _) _ _ _))

set_option maxHeartbeats 400000 in
set_option maxRecDepth 100000 in
/-- The sign of a number. -/
theorem pSign_any (r : Rat) (w : World) (h1 : (ratG r).num.size ≤ 1000000) (h2 : (ratG r).den.size ≤ 1000000) :
    Calls Tryd.prog 54 #[.agg #[.bool (ratG r).neg, .string (ratG r).num, .string (ratG r).den]] w fun e w' => e = .returned (.int .i64 (cmpR r 0)) ∧ Below w.heap.size w w' := by
  have HR : Hid (∀ w, Calls Tryd.prog 65 #[.agg #[.bool (ratG r).neg, .string (ratG r).num, .string (ratG r).den]] w fun e w' => e = .returned (.bool true) ∧ Below w.heap.size w w') := fun w => by
    have := prright_any (ratG r) w h1 h2
    rw [ratG_right] at this
    exact this
  have HZ : Hid (∀ w, Calls Tryd.prog 26 #[.int .i64 0] w fun e w' => e = .returned (.agg #[.bool (ratG 0).neg, .string (ratG 0).num, .string (ratG 0).den]) ∧ Below w.heap.size w w') := fun w => pROf_any 0 w (by omega) (by omega)
  have hcase : (r = 0 ∧ cmpR r 0 = 0) ∨ (r ≠ 0 ∧ (ratG r).neg = true ∧ cmpR r 0 = -1) ∨ (r ≠ 0 ∧ (ratG r).neg = false ∧ cmpR r 0 = 1) := by
    unfold cmpR
    by_cases h : r = 0
    · subst h; exact .inl ⟨rfl, by simp [Rat.lt_irrefl]⟩
    · by_cases hl : r < 0
      · refine .inr (.inl ⟨h, ?_, by rw [if_pos hl]⟩)
        show decide (r.num < 0) = true
        apply decide_eq_true
        by_cases h3 : r.num < 0
        · exact h3
        · exact absurd (Rat.num_nonneg (q := r).1 (by omega)) (by rw [Rat.not_le]; exact hl)
      · refine .inr (.inr ⟨h, ?_, by rw [if_neg hl, if_neg h]⟩)
        show decide (r.num < 0) = false
        apply decide_eq_false
        have := Rat.num_nonneg.2 (Rat.not_lt.1 hl)
        omega
  have hve : ∀ w, (binOp .eql 63 (.agg #[.bool (ratG r).neg, .string (ratG r).num, .string (ratG r).den]) (.agg #[.bool (ratG 0).neg, .string (ratG 0).num, .string (ratG 0).den])).run Tryd.prog w = .ok (.bool (decide (r = 0))) w := fun w => by
    have := rat_eql (ratG r) (ratG 0) w
    rw [show decide (ratG r = ratG 0) = decide (r = 0) by rw [decide_eq_decide]; exact ⟨ratG_inj, fun h => by rw [h]⟩] at this
    exact this
  have hvg := rat_guard
  obtain ⟨g, hg⟩ : ∃ g, g = ratG r := ⟨_, rfl⟩
  obtain ⟨z, hz⟩ : ∃ z, z = ratG 0 := ⟨_, rfl⟩
  rw [← hg] at HR hve hcase ⊢
  rw [← hz] at HZ hve
  obtain ⟨c, hc⟩ : ∃ c, c = cmpR r 0 := ⟨_, rfl⟩
  rw [← hc] at hcase ⊢
  obtain ⟨g1, g2, g3⟩ := g
  obtain ⟨z1, z2, z3⟩ := z
  dsimp only at *
  clear hg hz hc h1 h2
  rcases hcase with ⟨h0, rfl⟩ | ⟨h0, rfl, rfl⟩ | ⟨h0, rfl, rfl⟩
  all_goals
    first | rw [decide_eq_true h0] at hve | rw [decide_eq_false h0] at hve
    clear h0
    go_enter Tryd.func54, Tryd.ntmps54
    go_wp2_with fail
  · obtain ⟨W0, hW0⟩ : ∃ W0, W0 = w.alloc (.cells #[.bool g1, .string g2, .string g3] 63) := ⟨_, rfl⟩
    have hc : Cells3 w.heap.size W0 (.bool g1) (.string g2) (.string g3) := by rw [hW0]; exact boxed w _ _ _
    have hB0 : Below w.heap.size w W0 := by rw [hW0]; exact (Below.refl _ _).alloc (Nat.le_refl _) _
    rw [← hW0]
    clear hW0
    obtain ⟨c0, c1, c2, _, _, _, hlt⟩ := hc.at
    refine wp_region_class (Kept _) (by kernel_rfl) (by kernel_rfl) (Kept.drew _) ?_
    repeat (first
      | go_big_quiet_skip
      | (refine BigFrame.wpQuiet_want (by rfl) (fun K hK => ?_)
         first
           | (refine BigFrame.quiet_move _ rfl ?_; refine hK _ ?_)
           | (refine BigFrame.quiet_assign _ rfl ?_; refine hK _ ?_)
           | (apply Exists.intro; refine ⟨fun w' hC => ?_, hK _ ?_⟩
              · (obtain ⟨hcl, hfr⟩ := bcell hC.1; unfold Oper.quietAt; go_simp; first | rfl | (go_at_call 65; exact (HR.out w').mono fun e w'' ⟨he, hb⟩ => ⟨he, hC.next hb⟩) | (go_at_call 26; exact (HZ.out w').mono fun e w'' ⟨he, hb⟩ => ⟨he, hC.next hb⟩)))
         simp only [Act.put, Act.eval, List.setIfInBounds_toArray, List.set_cons_zero, List.set_cons_succ, Array.getD_eq_getD_getElem?, List.getElem?_toArray, List.getElem?_cons_succ, List.getElem?_cons_zero, Option.getD_some]
         clear hK K))
    refine wpQuiet_nil ?_
    intro wq hCq
    have k0 := (hCq.1.cell (p := ⟨w.heap.size, 0, none⟩) hlt).trans c0
    go_wp2_with fail
    go_ret
    exact ⟨rfl, hCq.below hB0 hB0.size⟩
  · obtain ⟨W0, hW0⟩ : ∃ W0, W0 = w.alloc (.cells #[.bool true, .string g2, .string g3] 63) := ⟨_, rfl⟩
    have hc : Cells3 w.heap.size W0 (.bool true) (.string g2) (.string g3) := by rw [hW0]; exact boxed w _ _ _
    have hB0 : Below w.heap.size w W0 := by rw [hW0]; exact (Below.refl _ _).alloc (Nat.le_refl _) _
    rw [← hW0]
    clear hW0
    obtain ⟨c0, c1, c2, _, _, _, hlt⟩ := hc.at
    refine wp_region_class (Kept _) (by kernel_rfl) (by kernel_rfl) (Kept.drew _) ?_
    repeat (first
      | go_big_quiet_skip
      | (refine BigFrame.wpQuiet_want (by rfl) (fun K hK => ?_)
         first
           | (refine BigFrame.quiet_move _ rfl ?_; refine hK _ ?_)
           | (refine BigFrame.quiet_assign _ rfl ?_; refine hK _ ?_)
           | (apply Exists.intro; refine ⟨fun w' hC => ?_, hK _ ?_⟩
              · (obtain ⟨hcl, hfr⟩ := bcell hC.1; unfold Oper.quietAt; go_simp; first | rfl | (go_at_call 65; exact (HR.out w').mono fun e w'' ⟨he, hb⟩ => ⟨he, hC.next hb⟩) | (go_at_call 26; exact (HZ.out w').mono fun e w'' ⟨he, hb⟩ => ⟨he, hC.next hb⟩)))
         simp only [Act.put, Act.eval, List.setIfInBounds_toArray, List.set_cons_zero, List.set_cons_succ, Array.getD_eq_getD_getElem?, List.getElem?_toArray, List.getElem?_cons_succ, List.getElem?_cons_zero, Option.getD_some]
         clear hK K))
    refine wpQuiet_nil ?_
    intro wq hCq
    have k0 := (hCq.1.cell (p := ⟨w.heap.size, 0, none⟩) hlt).trans c0
    go_wp2_with fail
    go_ret
    exact ⟨rfl, hCq.below hB0 hB0.size⟩
  · obtain ⟨W0, hW0⟩ : ∃ W0, W0 = w.alloc (.cells #[.bool false, .string g2, .string g3] 63) := ⟨_, rfl⟩
    have hc : Cells3 w.heap.size W0 (.bool false) (.string g2) (.string g3) := by rw [hW0]; exact boxed w _ _ _
    have hB0 : Below w.heap.size w W0 := by rw [hW0]; exact (Below.refl _ _).alloc (Nat.le_refl _) _
    rw [← hW0]
    clear hW0
    obtain ⟨c0, c1, c2, _, _, _, hlt⟩ := hc.at
    refine wp_region_class (Kept _) (by kernel_rfl) (by kernel_rfl) (Kept.drew _) ?_
    repeat (first
      | go_big_quiet_skip
      | (refine BigFrame.wpQuiet_want (by rfl) (fun K hK => ?_)
         first
           | (refine BigFrame.quiet_move _ rfl ?_; refine hK _ ?_)
           | (refine BigFrame.quiet_assign _ rfl ?_; refine hK _ ?_)
           | (apply Exists.intro; refine ⟨fun w' hC => ?_, hK _ ?_⟩
              · (obtain ⟨hcl, hfr⟩ := bcell hC.1; unfold Oper.quietAt; go_simp; first | rfl | (go_at_call 65; exact (HR.out w').mono fun e w'' ⟨he, hb⟩ => ⟨he, hC.next hb⟩) | (go_at_call 26; exact (HZ.out w').mono fun e w'' ⟨he, hb⟩ => ⟨he, hC.next hb⟩)))
         simp only [Act.put, Act.eval, List.setIfInBounds_toArray, List.set_cons_zero, List.set_cons_succ, Array.getD_eq_getD_getElem?, List.getElem?_toArray, List.getElem?_cons_succ, List.getElem?_cons_zero, Option.getD_some]
         clear hK K))
    refine wpQuiet_nil ?_
    intro wq hCq
    have k0 := (hCq.1.cell (p := ⟨w.heap.size, 0, none⟩) hlt).trans c0
    go_wp2_with fail
    go_ret
    exact ⟨rfl, hCq.below hB0 hB0.size⟩

end Go.Proofs.YtebigkjilklodaaDoor

/- The program's rational numbers: Neg, Add, Sub, Cmp, Mul. -/
namespace Go.Proofs.YtebigkjilklodaaDoor
open Go.RowKit

theorem Cells3.put {b : Nat} {w : World} {x y z : Value} (h : Cells3 b w x y z) (x' y' z' : Value) :
    Cells3 b (((w.setCell ⟨b, 0, none⟩ x').setCell ⟨b, 1, none⟩ y').setCell ⟨b, 2, none⟩ z') x' y' z' :=
  heap_setCell_same _ _ 2 _ _ z' (heap_setCell_same _ _ 1 _ _ y' (heap_setCell_same _ _ 0 _ _ x' h))
theorem Cells3.other {b c : Nat} {w : World} {x y z : Value} (h : Cells3 b w x y z) (hbc : b ≠ c) (x' y' z' : Value) :
    Cells3 b (((w.setCell ⟨c, 0, none⟩ x').setCell ⟨c, 1, none⟩ y').setCell ⟨c, 2, none⟩ z') x y z := by
  unfold Cells3
  rw [heap_setCell_other _ _ _ _ hbc, heap_setCell_other _ _ _ _ hbc, heap_setCell_other _ _ _ _ hbc]
  exact h
theorem Cells3.put0 {b : Nat} {w : World} {x y z : Value} (h : Cells3 b w x y z) (x' : Value) : Cells3 b (w.setCell ⟨b, 0, none⟩ x') x' y z := heap_setCell_same _ _ 0 _ _ x' h

/-- The sizes of a number's parts. -/
def RatLe (k : Nat) (r : Rat) : Prop := (ratG r).num.size ≤ k ∧ (ratG r).den.size ≤ k
theorem RatLe.mono {k l : Nat} {r : Rat} (h : RatLe k r) (hl : k ≤ l) : RatLe l r := ⟨Nat.le_trans h.1 hl, Nat.le_trans h.2 hl⟩
theorem ratLe_rat {a : RatG} {k : Nat} (h1 : a.num.size ≤ k) (h2 : a.den.size ≤ k) (hk : 1 ≤ k) : RatLe k a.rat := by
  cases h : a.right
  · rw [rat_wrong h]
    exact ⟨Nat.le_trans (by decide +kernel) hk, Nat.le_trans (by decide +kernel) hk⟩
  · unfold RatLe
    rw [RatG.of_right h]
    exact ⟨h1, h2⟩
theorem ratLe_neg {r : Rat} {k : Nat} (h : RatLe k r) : RatLe k (-r) := by
  unfold RatLe ratG at *
  rw [Rat.neg_num, Rat.neg_den, Int.natAbs_neg]
  exact h
theorem neg_parts (r : Rat) : ratG (-r) = ⟨!(ratG r).neg && decide ((ratG r).num ≠ ⟨#[]⟩), (ratG r).num, (ratG r).den⟩ := by
  unfold ratG
  rw [Rat.neg_num, Rat.neg_den, Int.natAbs_neg]
  congr 1
  have h0 : decide (natS r.num.natAbs ≠ ⟨#[]⟩) = decide (r.num ≠ 0) := by
    rw [decide_eq_decide]
    constructor
    · intro h h2; rw [h2] at h; exact h (by decide +kernel)
    · intro h h2
      have : natS r.num.natAbs = natS 0 := h2.trans (by decide +kernel)
      have := natS_inj this
      omega
  show _ = (!decide (r.num < 0) && decide (natS r.num.natAbs ≠ ⟨#[]⟩))
  rw [h0]
  by_cases h1 : r.num < 0
  · rw [decide_eq_true h1, decide_eq_false (show ¬ -r.num < 0 by omega)]; rfl
  · rw [decide_eq_false h1]
    by_cases h2 : r.num = 0
    · rw [h2]; rfl
    · rw [decide_eq_true h2, decide_eq_true (show -r.num < 0 by omega)]; rfl

/-- A sum in parts. -/
theorem add_parts (p q : Rat) :
    ((ratG p).neg = (ratG q).neg → mkRat (sgn (ratG p).neg (p.num.natAbs * q.den + q.num.natAbs * p.den)) (p.den * q.den) = p + q) ∧
    ((ratG p).neg ≠ (ratG q).neg → q.num.natAbs * p.den ≤ p.num.natAbs * q.den → mkRat (sgn (ratG p).neg (p.num.natAbs * q.den - q.num.natAbs * p.den)) (p.den * q.den) = p + q) ∧
    ((ratG p).neg ≠ (ratG q).neg → p.num.natAbs * q.den ≤ q.num.natAbs * p.den → mkRat (sgn (ratG q).neg (q.num.natAbs * p.den - p.num.natAbs * q.den)) (p.den * q.den) = p + q) := by
  have h : p + q = mkRat (sgn (ratG p).neg (p.num.natAbs * q.den) + sgn (ratG q).neg (q.num.natAbs * p.den)) (p.den * q.den) := by
    have h1 := rat_eq p
    have h2 := rat_eq q
    conv => lhs; rw [h1, h2]
    exact rat_add p.den_pos q.den_pos
  rw [h]
  refine ⟨fun e => ?_, fun e hl => ?_, fun e hl => ?_⟩
  · rw [e, sgn_add_same]
  · rw [sgn_add_left e hl]
  · rw [sgn_add_right e hl]
theorem mul_parts (p q : Rat) : mkRat (sgn ((ratG p).neg != (ratG q).neg) (p.num.natAbs * q.num.natAbs)) (p.den * q.den) = p * q := by
  have h1 := rat_eq p
  have h2 := rat_eq q
  conv => rhs; rw [h1, h2]
  exact (rat_mul _ _ _ _ _ _).symm
/-- The sizes of a reduced fraction. -/
theorem ratLe_mk {s : Bool} {n d k : Nat} (hd : 0 < d) (h1 : (natS n).size ≤ k) (h2 : (natS d).size ≤ k) : RatLe k (mkRat (sgn s n) d) := by
  unfold RatLe
  rw [ratG_mk hd]
  exact ⟨Nat.le_trans (natS_size_mono (Nat.div_le_self _ _)) h1, Nat.le_trans (natS_size_mono (Nat.div_le_self _ _)) h2⟩
theorem ratLe_add {p q : Rat} {k l : Nat} (hp : RatLe k p) (hq : RatLe l q) : RatLe (2 * (k + l) + 1) (p + q) := by
  have x1 : (natS (p.num.natAbs * q.den)).size ≤ k + l := Nat.le_trans (natS_size_mul _ _) (Nat.add_le_add hp.1 hq.2)
  have x2 : (natS (q.num.natAbs * p.den)).size ≤ k + l := Nat.le_trans (natS_size_mul _ _) (by have := hq.1; have := hp.2; simp only [ratG] at *; omega)
  have x3 : (natS (p.den * q.den)).size ≤ k + l := Nat.le_trans (natS_size_mul _ _) (Nat.add_le_add hp.2 hq.2)
  have hd : 0 < p.den * q.den := Nat.mul_pos p.den_pos q.den_pos
  obtain ⟨h1, h2, h3⟩ := add_parts p q
  by_cases e : (ratG p).neg = (ratG q).neg
  · rw [← h1 e]
    exact ratLe_mk hd (Nat.le_trans (natS_size_add _ _) (by omega)) (by omega)
  · by_cases hl : q.num.natAbs * p.den ≤ p.num.natAbs * q.den
    · rw [← h2 e hl]
      exact ratLe_mk hd (Nat.le_trans (natS_size_mono (Nat.sub_le _ _)) (by omega)) (by omega)
    · rw [← h3 e (by omega)]
      exact ratLe_mk hd (Nat.le_trans (natS_size_mono (Nat.sub_le _ _)) (by omega)) (by omega)

set_option maxHeartbeats 400000 in
set_option maxRecDepth 100000 in
theorem pNeg_any (a : RatG) (w : World) (h1 : a.num.size ≤ 1000000) (h2 : a.den.size ≤ 1000000) :
    Calls Tryd.prog 70 #[.agg #[.bool a.neg, .string a.num, .string a.den]] w (QRet (-a.rat) w) := by
  have HV : Hid (∀ w, Calls Tryd.prog 50 #[.agg #[.bool a.neg, .string a.num, .string a.den]] w fun e w' => e = .returned (.agg #[.bool (ratG a.rat).neg, .string (ratG a.rat).num, .string (ratG a.rat).den]) ∧ Below w.heap.size w w') := fun w => pvalue_any a w h1 h2
  have HN : Hid (ratG (-a.rat) = ⟨!(ratG a.rat).neg && decide ((ratG a.rat).num ≠ ⟨#[]⟩), (ratG a.rat).num, (ratG a.rat).den⟩) := neg_parts a.rat
  obtain ⟨r, hr⟩ : ∃ r, r = -a.rat := ⟨_, rfl⟩
  rw [← hr] at HN ⊢
  obtain ⟨g, hg⟩ : ∃ g, g = ratG a.rat := ⟨_, rfl⟩
  rw [← hg] at HV HN
  obtain ⟨neg, num, den⟩ := a
  obtain ⟨g1, g2, g3⟩ := g
  dsimp only at *
  clear hr hg
  have he : decide (g2 ≠ ⟨#[]⟩) = !g2.toList.isEmpty := by
    rw [show (!g2.toList.isEmpty) = decide (g2.toList ≠ []) by cases g2.toList <;> rfl, decide_eq_decide]
    constructor
    · intro h h2; exact h (toList_inj (h2.trans (by decide +kernel)))
    · intro h h2; rw [h2] at h; exact h (by decide +kernel)
  rw [he] at HN
  clear he
  cases g1
  · obtain ⟨b, hb⟩ : ∃ b, b = !g2.toList.isEmpty := ⟨_, rfl⟩
    have HE : Hid (ratG r = ⟨!false && b, g2, g3⟩) := by rw [hb]; exact HN
    clear HN
    go_enter Tryd.func70, Tryd.ntmps70
    go_wp2_with fail
    obtain ⟨W0, hW0⟩ : ∃ W0, W0 = (w.alloc (.cells #[.bool neg, .string num, .string den] 63)).alloc (.cells #[.bool false, .string ⟨#[]⟩, .string ⟨#[]⟩] 63) := ⟨_, rfl⟩
    have hc : Cells3 (w.heap.size + 1) W0 (.bool false) (.string ⟨#[]⟩) (.string ⟨#[]⟩) := by rw [hW0]; have := rat_new (w.alloc (.cells #[.bool neg, .string num, .string den] 63)); rwa [World.size_alloc] at this
    have hd : Cells3 w.heap.size W0 (.bool neg) (.string num) (.string den) := by rw [hW0]; exact (boxed w _ _ _).alloc _
    have hB0 : Below w.heap.size w W0 := by rw [hW0]; exact ((Below.refl _ _).alloc (Nat.le_refl _) _).alloc (by simp) _
    rw [← hW0]
    clear hW0
    go_wp2_with fail
    refine (HV.out _).mono ?_
    rintro e w1 ⟨rfl, b1⟩
    have hc1 := hc.later b1 hc.at.2.2.2.2.2.2
    have hd1 := hd.later b1 hd.at.2.2.2.2.2.2
    have hB1 := hB0.trans (b1.mono hB0.size)
    obtain ⟨d0, d1, d2, e0, e1, e2, _⟩ := hd1.at
    clear hc hd hB0 b1
    iterate 4 (first | go_values | go_skip | go_guarded | go_step | go_upon | go_back | (simp only [Int.not_lt, Int.not_le] at *; go_simp))
    generalize hW1 : World.setCell (World.setCell (World.setCell w1 _ _) _ _) _ _ = W1
    have hd2 : Cells3 w.heap.size W1 (.bool false) (.string g2) (.string g3) := by rw [← hW1]; exact hd1.put _ _ _
    have hc2 : Cells3 (w.heap.size + 1) W1 (.bool false) (.string ⟨#[]⟩) (.string ⟨#[]⟩) := by rw [← hW1]; exact hc1.other (by omega) _ _ _
    have hB2 : Below w.heap.size w W1 := by rw [← hW1]; exact below3 hB1 (Nat.le_refl _) _ _ _
    clear hW1 hd1 hc1 hB1 d0 d1 d2 e0 e1 e2
    obtain ⟨d0, d1, d2, e0, e1, e2, _⟩ := hd2.at
    iterate 28 (first | go_values | go_skip | go_guarded | go_step | go_upon | go_back | (simp only [Int.not_lt, Int.not_le] at *; go_simp))
    rw [← hb]
    clear hb
    iterate 7 (first | go_values | go_skip | go_guarded | go_step | go_upon | go_back | (simp only [Int.not_lt, Int.not_le] at *; go_simp))
    have hd3 := hd2.put0 (.bool b)
    have hc3 : Cells3 (w.heap.size + 1) (W1.setCell ⟨w.heap.size, 0, none⟩ (.bool b)) (.bool false) (.string ⟨#[]⟩) (.string ⟨#[]⟩) := (heap_setCell_other _ _ _ _ (by simp)).trans hc2
    have HB3 := Lib.hid (hB2.setCell (p := ⟨w.heap.size, 0, none⟩) (Nat.le_refl _) (.bool b))
    generalize hW2 : World.setCell W1 _ _ = W2 at *
    obtain ⟨c0, c1, c2, f0, f1, f2, _⟩ := hc3.at
    clear hW2 hc2 hd2 d0 d1 d2 e0 e1 e2 hB2 hc3
    obtain ⟨d0, d1, d2, e0, e1, e2, _⟩ := hd3.at
    go_wp2_with fail
    exact bodyPost_ret (v := .agg #[.bool b, .string g2, .string g3]) (by simp [results, Tryd.results70, go_sem, c0, c1, c2]) rfl ⟨by rw [HE.out]; rfl, below3 HB3.out (Nat.le_succ _) _ _ _⟩
  · have HE : Hid (ratG r = ⟨!true && (!g2.toList.isEmpty), g2, g3⟩) := HN
    clear HN
    go_enter Tryd.func70, Tryd.ntmps70
    go_wp2_with fail
    obtain ⟨W0, hW0⟩ : ∃ W0, W0 = (w.alloc (.cells #[.bool neg, .string num, .string den] 63)).alloc (.cells #[.bool false, .string ⟨#[]⟩, .string ⟨#[]⟩] 63) := ⟨_, rfl⟩
    have hc : Cells3 (w.heap.size + 1) W0 (.bool false) (.string ⟨#[]⟩) (.string ⟨#[]⟩) := by rw [hW0]; have := rat_new (w.alloc (.cells #[.bool neg, .string num, .string den] 63)); rwa [World.size_alloc] at this
    have hd : Cells3 w.heap.size W0 (.bool neg) (.string num) (.string den) := by rw [hW0]; exact (boxed w _ _ _).alloc _
    have hB0 : Below w.heap.size w W0 := by rw [hW0]; exact ((Below.refl _ _).alloc (Nat.le_refl _) _).alloc (by simp) _
    rw [← hW0]
    clear hW0
    go_wp2_with fail
    refine (HV.out _).mono ?_
    rintro e w1 ⟨rfl, b1⟩
    have hc1 := hc.later b1 hc.at.2.2.2.2.2.2
    have hd1 := hd.later b1 hd.at.2.2.2.2.2.2
    have hB1 := hB0.trans (b1.mono hB0.size)
    obtain ⟨d0, d1, d2, e0, e1, e2, _⟩ := hd1.at
    clear hc hd hB0 b1
    iterate 4 (first | go_values | go_skip | go_guarded | go_step | go_upon | go_back | (simp only [Int.not_lt, Int.not_le] at *; go_simp))
    generalize hW1 : World.setCell (World.setCell (World.setCell w1 _ _) _ _) _ _ = W1
    have hd2 : Cells3 w.heap.size W1 (.bool true) (.string g2) (.string g3) := by rw [← hW1]; exact hd1.put _ _ _
    have hc2 : Cells3 (w.heap.size + 1) W1 (.bool false) (.string ⟨#[]⟩) (.string ⟨#[]⟩) := by rw [← hW1]; exact hc1.other (by omega) _ _ _
    have hB2 : Below w.heap.size w W1 := by rw [← hW1]; exact below3 hB1 (Nat.le_refl _) _ _ _
    clear hW1 hd1 hc1 hB1 d0 d1 d2 e0 e1 e2
    obtain ⟨d0, d1, d2, e0, e1, e2, _⟩ := hd2.at
    iterate 29 (first | go_values | go_skip | go_guarded | go_step | go_upon | go_back | (simp only [Int.not_lt, Int.not_le] at *; go_simp))
    
    have hd3 := hd2.put0 (.bool false)
    have hc3 : Cells3 (w.heap.size + 1) (W1.setCell ⟨w.heap.size, 0, none⟩ (.bool false)) (.bool false) (.string ⟨#[]⟩) (.string ⟨#[]⟩) := (heap_setCell_other _ _ _ _ (by simp)).trans hc2
    have HB3 := Lib.hid (hB2.setCell (p := ⟨w.heap.size, 0, none⟩) (Nat.le_refl _) (.bool false))
    generalize hW2 : World.setCell W1 _ _ = W2 at *
    obtain ⟨c0, c1, c2, f0, f1, f2, _⟩ := hc3.at
    clear hW2 hc2 hd2 d0 d1 d2 e0 e1 e2 hB2 hc3
    obtain ⟨d0, d1, d2, e0, e1, e2, _⟩ := hd3.at
    go_wp2_with fail
    exact bodyPost_ret (v := .agg #[.bool false, .string g2, .string g3]) (by simp [results, Tryd.results70, go_sem, c0, c1, c2]) rfl ⟨by rw [HE.out]; rfl, below3 HB3.out (Nat.le_succ _) _ _ _⟩

set_option maxHeartbeats 4000000 in
set_option maxRecDepth 100000 in
/-- Two numbers, taken for their values: the part that Add and Mul have in common comes first. -/
theorem pAdd2_any (a b : RatG) (w : World) (h1 : a.num.size ≤ 200000) (h2 : a.den.size ≤ 200000) (h3 : b.num.size ≤ 200000) (h4 : b.den.size ≤ 200000) :
    Calls Tryd.prog 27 #[.agg #[.bool a.neg, .string a.num, .string a.den], .agg #[.bool b.neg, .string b.num, .string b.den]] w (QRet (a.rat + b.rat) w) := by
  have HA : Hid (∀ w, Calls Tryd.prog 50 #[.agg #[.bool a.neg, .string a.num, .string a.den]] w fun e w' => e = .returned (.agg #[.bool (ratG a.rat).neg, .string (ratG a.rat).num, .string (ratG a.rat).den]) ∧ Below w.heap.size w w') := fun w => pvalue_any a w (by omega) (by omega)
  have HB : Hid (∀ w, Calls Tryd.prog 50 #[.agg #[.bool b.neg, .string b.num, .string b.den]] w fun e w' => e = .returned (.agg #[.bool (ratG b.rat).neg, .string (ratG b.rat).num, .string (ratG b.rat).den]) ∧ Below w.heap.size w w') := fun w => pvalue_any b w (by omega) (by omega)
  have la : RatLe 200000 a.rat := ratLe_rat h1 h2 (by decide)
  have lb : RatLe 200000 b.rat := ratLe_rat h3 h4 (by decide)
  obtain ⟨p, hp⟩ : ∃ p, p = a.rat := ⟨_, rfl⟩
  obtain ⟨q, hq⟩ : ∃ q, q = b.rat := ⟨_, rfl⟩
  rw [← hp] at HA la ⊢
  rw [← hq] at HB lb ⊢
  clear hp hq h1 h2 h3 h4
  obtain ⟨k1, k2, k3⟩ := add_parts p q
  have x1 : (natS (p.num.natAbs * q.den)).size ≤ 400000 := Nat.le_trans (natS_size_mul _ _) (Nat.add_le_add la.1 lb.2)
  have x2 : (natS (q.num.natAbs * p.den)).size ≤ 400000 := Nat.le_trans (natS_size_mul _ _) (Nat.add_le_add lb.1 la.2)
  have x3 : (natS (p.den * q.den)).size ≤ 400000 := Nat.le_trans (natS_size_mul _ _) (Nat.add_le_add la.2 lb.2)
  have vv : ∀ n, valB (natS n).data.toList = n := valB_natS
  have MX : Hid (∀ w, Calls Tryd.prog 51 #[.string (ratG p).num, .string (ratG q).den] w fun e w' => e = .returned (.string (natS (p.num.natAbs * q.den))) ∧ Below w.heap.size w w') := fun w => by
    have := pMul_any (ratG p).num (ratG q).den w (Nat.le_trans la.1 (by decide)) (Nat.le_trans lb.2 (by decide))
    simp only [ratG, vv] at this
    exact this
  have MY : Hid (∀ w, Calls Tryd.prog 51 #[.string (ratG q).num, .string (ratG p).den] w fun e w' => e = .returned (.string (natS (q.num.natAbs * p.den))) ∧ Below w.heap.size w w') := fun w => by
    have := pMul_any (ratG q).num (ratG p).den w (Nat.le_trans lb.1 (by decide)) (Nat.le_trans la.2 (by decide))
    simp only [ratG, vv] at this
    exact this
  have MD : Hid (∀ w, Calls Tryd.prog 51 #[.string (ratG p).den, .string (ratG q).den] w fun e w' => e = .returned (.string (natS (p.den * q.den))) ∧ Below w.heap.size w w') := fun w => by
    have := pMul_any (ratG p).den (ratG q).den w (Nat.le_trans la.2 (by decide)) (Nat.le_trans lb.2 (by decide))
    simp only [ratG, vv] at this
    exact this
  have hd : 0 < p.den * q.den := Nat.mul_pos p.den_pos q.den_pos
  obtain ⟨R, hR⟩ : ∃ R, R = p + q := ⟨_, rfl⟩
  rw [← hR] at k1 k2 k3 ⊢
  clear hR
  obtain ⟨x, hx⟩ : ∃ x, x = p.num.natAbs * q.den := ⟨_, rfl⟩
  obtain ⟨y, hy⟩ : ∃ y, y = q.num.natAbs * p.den := ⟨_, rfl⟩
  obtain ⟨D, hD⟩ : ∃ D, D = p.den * q.den := ⟨_, rfl⟩
  rw [← hx] at k1 k2 k3 x1 MX
  rw [← hy] at k1 k2 k3 x2 MY
  rw [← hD] at k1 k2 k3 x3 MD hd
  obtain ⟨g, hg⟩ : ∃ g, g = ratG p := ⟨_, rfl⟩
  obtain ⟨h, hh⟩ : ∃ h, h = ratG q := ⟨_, rfl⟩
  rw [← hg] at k1 k2 k3 HA MX MY MD
  rw [← hh] at k1 k2 k3 HB MX MY MD
  obtain ⟨s, g2, g3⟩ := g
  obtain ⟨t, h2, h3⟩ := h
  dsimp only at *
  clear hx hy hD hg hh la lb
  have low : ∀ (u : Bool) (n : Nat), (natS n).size ≤ 1000000 → mkRat (sgn u n) D = R → ∀ w, Calls Tryd.prog 52 #[.bool u, .string (natS n), .string (natS D)] w fun e w' => e = .returned (.agg #[.bool (ratG R).neg, .string (ratG R).num, .string (ratG R).den]) ∧ Below w.heap.size w w' := fun u n hn hr w => by
    have := plowest_any u (natS n) (natS D) w hn (by omega) (by rw [vv]; exact hd)
    rw [vv, vv, hr] at this
    exact this
  have HEND : Hid (∀ W, Below w.heap.size w W → QRet R w (.returned (.agg #[.bool (ratG R).neg, .string (ratG R).num, .string (ratG R).den])) W) := fun W hW => ⟨rfl, hW⟩
  obtain ⟨G, hG⟩ : ∃ G, G = ratG R := ⟨_, rfl⟩
  rw [← hG] at low HEND
  obtain ⟨G1, G2, G3⟩ := G
  dsimp only at *
  clear hG
  have LW1 : s = t → Hid (∀ w, Calls Tryd.prog 52 #[.bool s, .string (natS (x + y)), .string (natS D)] w fun e w' => e = .returned (.agg #[.bool G1, .string G2, .string G3]) ∧ Below w.heap.size w w') := fun h => low s (x + y) (Nat.le_trans (natS_size_add _ _) (by omega)) (k1 h)
  have LW2 : s ≠ t → y ≤ x → Hid (∀ w, Calls Tryd.prog 52 #[.bool s, .string (natS (x - y)), .string (natS D)] w fun e w' => e = .returned (.agg #[.bool G1, .string G2, .string G3]) ∧ Below w.heap.size w w') := fun h hl => low s (x - y) (Nat.le_trans (natS_size_mono (Nat.sub_le _ _)) (by omega)) (k2 h hl)
  have LW3 : s ≠ t → x ≤ y → Hid (∀ w, Calls Tryd.prog 52 #[.bool t, .string (natS (y - x)), .string (natS D)] w fun e w' => e = .returned (.agg #[.bool G1, .string G2, .string G3]) ∧ Below w.heap.size w w') := fun h hl => low t (y - x) (Nat.le_trans (natS_size_mono (Nat.sub_le _ _)) (by omega)) (k3 h hl)
  have MA : Hid (∀ w, Calls Tryd.prog 21 #[.string (natS x), .string (natS y)] w fun e w' => e = .returned (.string (natS (x + y))) ∧ Below w.heap.size w w') := fun w => by
    have := pAdd_any (natS x) (natS y) w (by omega) (by omega)
    rwa [vv, vv] at this
  have MS : Hid (∀ w, Calls Tryd.prog 53 #[.string (natS x), .string (natS y)] w (SubEnd x y w)) := fun w => by
    have := pSub_any (natS x) (natS y) w (by omega) (by omega)
    rwa [vv, vv] at this
  have MT : Hid (∀ w, Calls Tryd.prog 53 #[.string (natS y), .string (natS x)] w (SubEnd y x w)) := fun w => by
    have := pSub_any (natS y) (natS x) w (by omega) (by omega)
    rwa [vv, vv] at this
  have LW := Lib.hid (And.intro LW1 (And.intro LW2 LW3))
  clear LW1 LW2 LW3 k1 k2 k3 low vv x1 x2 x3 hd
  obtain ⟨X, hX⟩ : ∃ X, X = natS x := ⟨_, rfl⟩
  obtain ⟨Y, hY⟩ : ∃ Y, Y = natS y := ⟨_, rfl⟩
  obtain ⟨Z, hZ⟩ : ∃ Z, Z = natS D := ⟨_, rfl⟩
  rw [← hX] at MX MA MS MT
  rw [← hY] at MY MA MS MT
  rw [← hZ] at MD LW
  clear hX hY hZ
  go_enter Tryd.func27, Tryd.ntmps27
  go_wp2_with fail
  obtain ⟨W0, hW0⟩ : ∃ W0, W0 = ((w.alloc (.cells #[.bool a.neg, .string a.num, .string a.den] 63)).alloc (.cells #[.bool b.neg, .string b.num, .string b.den] 63)).alloc (.cells #[.bool false, .string ⟨#[]⟩, .string ⟨#[]⟩] 63) := ⟨_, rfl⟩
  have hA : Cells3 w.heap.size W0 (.bool a.neg) (.string a.num) (.string a.den) := by rw [hW0]; exact ((boxed w _ _ _).alloc _).alloc _
  have hB : Cells3 (w.heap.size + 1) W0 (.bool b.neg) (.string b.num) (.string b.den) := by rw [hW0]; have := (boxed (w.alloc (.cells #[.bool a.neg, .string a.num, .string a.den] 63)) (.bool b.neg) (.string b.num) (.string b.den)).alloc (.cells #[.bool false, .string ⟨#[]⟩, .string ⟨#[]⟩] 63); rwa [World.size_alloc] at this
  have hZ : Cells3 (w.heap.size + 1 + 1) W0 (.bool false) (.string ⟨#[]⟩) (.string ⟨#[]⟩) := by rw [hW0]; have := rat_new ((w.alloc (.cells #[.bool a.neg, .string a.num, .string a.den] 63)).alloc (.cells #[.bool b.neg, .string b.num, .string b.den] 63)); rwa [World.size_alloc, World.size_alloc] at this
  have hB0 : Below w.heap.size w W0 := by rw [hW0]; exact (((Below.refl _ _).alloc (Nat.le_refl _) _).alloc (by simp) _).alloc (by simp; omega) _
  rw [← hW0]
  clear hW0
  obtain ⟨c0, c1, c2, e0, e1, e2, hlt⟩ := hA.at
  obtain ⟨d0, d1, d2, f0, f1, f2, hlt2⟩ := hB.at
  have hlt3 := hZ.at.2.2.2.2.2.2
  refine wp_region_class_tail (Kept _) 4 (by kernel_rfl) (by kernel_rfl) (Kept.drew _) ?_
  simp only [List.take_succ_cons, List.take_zero, List.drop_succ_cons, List.drop_zero, List.cons_append, List.nil_append]
  repeat (first
    | go_big_quiet_skip
    | (refine BigFrame.wpQuiet_want (by rfl) (fun K hK => ?_)
       first
         | (refine BigFrame.quiet_move _ rfl ?_; refine hK _ ?_)
         | (refine BigFrame.quiet_assign _ rfl ?_; refine hK _ ?_)
         | (apply Exists.intro; refine ⟨fun w' hC => ?_, hK _ ?_⟩
            · (obtain ⟨hcl, hfr⟩ := bcell hC.1; unfold Oper.quietAt; go_simp; first | rfl | (go_at_call 50; with_reducible refine (HA.out w').mono ?_; exact fun e w'' ⟨he, hb⟩ => ⟨he, hC.next hb⟩) | (go_at_call 50; with_reducible refine (HB.out w').mono ?_; exact fun e w'' ⟨he, hb⟩ => ⟨he, hC.next hb⟩)))
       simp only [Act.put, Act.eval, List.setIfInBounds_toArray, List.set_cons_zero, List.set_cons_succ, Array.getD_eq_getD_getElem?, List.getElem?_toArray, List.getElem?_cons_succ, List.getElem?_cons_zero, Option.getD_some]
       clear hK K))
  refine wpQuiet_nil ?_
  intro wq hCq
  have hA1 := hA.later hCq.1 hlt
  have hB1 := hB.later hCq.1 hlt2
  have hZ1 := hZ.later hCq.1 hlt3
  have hW1 := hCq.below hB0 hB0.size
  clear hA hB hZ hCq hB0 c0 c1 c2 e0 e1 e2 hlt d0 d1 d2 f0 f1 f2 hlt2 hlt3
  obtain ⟨c0, c1, c2, e0, e1, e2, hlt⟩ := hA1.at
  obtain ⟨d0, d1, d2, f0, f1, f2, hlt2⟩ := hB1.at
  iterate 5 (first | go_values | go_skip | go_guarded | go_step | go_upon | go_back | (simp only [Int.not_lt, Int.not_le] at *; go_simp))
  generalize hW2 : World.setCell (World.setCell (World.setCell (World.setCell (World.setCell (World.setCell wq _ _) _ _) _ _) _ _) _ _) _ _ = W2
  have hA2 : Cells3 w.heap.size W2 (.bool s) (.string g2) (.string g3) := by rw [← hW2]; exact (hA1.put _ _ _).other (by omega) _ _ _
  have hB2 : Cells3 (w.heap.size + 1) W2 (.bool t) (.string h2) (.string h3) := by rw [← hW2]; exact (hB1.other (by omega) _ _ _).put _ _ _
  have hZ2 : Cells3 (w.heap.size + 1 + 1) W2 (.bool false) (.string ⟨#[]⟩) (.string ⟨#[]⟩) := by rw [← hW2]; exact (hZ1.other (by omega) _ _ _).other (by omega) _ _ _
  have hK2 : Below w.heap.size w W2 := by rw [← hW2]; exact below3 (below3 hW1 (Nat.le_refl _) _ _ _) (Nat.le_succ _) _ _ _
  clear hW2 hA1 hB1 hZ1 hW1 c0 c1 c2 e0 e1 e2 d0 d1 d2 f0 f1 f2 hlt hlt2
  obtain ⟨c0, c1, c2, e0, e1, e2, hlt⟩ := hA2.at
  obtain ⟨d0, d1, d2, f0, f1, f2, hlt2⟩ := hB2.at
  have hlt3 := hZ2.at.2.2.2.2.2.2
  clear wq
  go_wp2_with fail
  refine wp_region_class (Kept _) (by kernel_rfl) (by kernel_rfl) (Kept.drew _) ?_
  repeat (first
    | go_big_quiet_skip
    | (refine BigFrame.wpQuiet_want (by rfl) (fun K hK => ?_)
       first
         | (refine BigFrame.quiet_move _ rfl ?_; refine hK _ ?_)
         | (refine BigFrame.quiet_assign _ rfl ?_; refine hK _ ?_)
         | (apply Exists.intro; refine ⟨fun w' hC => ?_, hK _ ?_⟩
            · (obtain ⟨hcl, hfr⟩ := bcell hC.1; unfold Oper.quietAt; go_simp; first | rfl | (go_at_call 51; with_reducible refine (MX.out w').mono ?_; exact fun e w'' ⟨he, hb⟩ => ⟨he, hC.next hb⟩) | (go_at_call 51; with_reducible refine (MY.out w').mono ?_; exact fun e w'' ⟨he, hb⟩ => ⟨he, hC.next hb⟩)))
       simp only [Act.put, Act.eval, List.setIfInBounds_toArray, List.set_cons_zero, List.set_cons_succ, Array.getD_eq_getD_getElem?, List.getElem?_toArray, List.getElem?_cons_succ, List.getElem?_cons_zero, Option.getD_some]
       clear hK K))
  refine wpQuiet_nil ?_
  intro wq hCq
  have hA3 := hA2.later hCq.1 hlt
  have hB3 := hB2.later hCq.1 hlt2
  have hZ3 := hZ2.later hCq.1 hlt3
  have hK3 := hCq.below hK2 hK2.size
  clear hA2 hB2 hZ2 hCq hK2 c0 c1 c2 e0 e1 e2 hlt d0 d1 d2 f0 f1 f2 hlt2 hlt3
  obtain ⟨c0, c1, c2, e0, e1, e2, hlt⟩ := hA3.at
  obtain ⟨d0, d1, d2, f0, f1, f2, hlt2⟩ := hB3.at
  go_wp2_with fail
  refine (MD.out _).mono ?_
  rintro e w4 ⟨rfl, b4⟩
  have hA4 := hA3.later b4 hlt
  have hB4 := hB3.later b4 hlt2
  have hZ4 := hZ3.later b4 hZ3.at.2.2.2.2.2.2
  have hK4 := hK3.trans (b4.mono hK3.size)
  clear hA3 hB3 hZ3 b4 hK3 c0 c1 c2 e0 e1 e2 hlt d0 d1 d2 f0 f1 f2 hlt2
  obtain ⟨c0, c1, c2, e0, e1, e2, hlt⟩ := hA4.at
  obtain ⟨d0, d1, d2, f0, f1, f2, hlt2⟩ := hB4.at
  have hlt3 := hZ4.at.2.2.2.2.2.2
  by_cases hst : s = t
  · have L1 := Lib.hid (LW.out.1 hst).out
    subst hst
    clear wq MX MY MD MS MT HA HB LW
    go_wp2_with fail
    refine wp_region_class_tail (Kept _) 7 (by kernel_rfl) (by kernel_rfl) (Kept.drew _) ?_
    simp only [List.take_succ_cons, List.take_zero, List.drop_succ_cons, List.drop_zero, List.cons_append, List.nil_append]
    repeat (first
      | go_big_quiet_skip
      | (refine BigFrame.wpQuiet_want (by rfl) (fun K hK => ?_)
         first
           | (refine BigFrame.quiet_move _ rfl ?_; refine hK _ ?_)
           | (refine BigFrame.quiet_assign _ rfl ?_; refine hK _ ?_)
           | (apply Exists.intro; refine ⟨fun w' hC => ?_, hK _ ?_⟩
              · (obtain ⟨hcl, hfr⟩ := bcell hC.1; unfold Oper.quietAt; go_simp; first | rfl | (go_at_call 21; with_reducible refine (MA.out w').mono ?_; exact fun e w'' ⟨he, hb⟩ => ⟨he, hC.next hb⟩) | (go_at_call 52; with_reducible refine (L1.out w').mono ?_; exact fun e w'' ⟨he, hb⟩ => ⟨he, hC.next hb⟩)))
         simp only [Act.put, Act.eval, List.setIfInBounds_toArray, List.set_cons_zero, List.set_cons_succ, Array.getD_eq_getD_getElem?, List.getElem?_toArray, List.getElem?_cons_succ, List.getElem?_cons_zero, Option.getD_some]
         clear hK K))
    refine wpQuiet_nil ?_
    intro wq hCq
    obtain ⟨z0, z1, z2, y0, y1, y2, _⟩ := (hZ4.later hCq.1 hlt3).at
    have HK := Lib.hid (hCq.below hK4 hK4.size)
    clear hA4 hB4 hZ4 hCq hK4 c0 c1 c2 e0 e1 e2 hlt d0 d1 d2 f0 f1 f2 hlt2 hlt3
    go_wp2_with fail
    exact bodyPost_ret (v := .agg #[.bool G1, .string G2, .string G3]) (by simp [results, Tryd.results27, go_sem, z0, z1, z2]) rfl (HEND.out _ (below3 HK.out (by omega) _ _ _))
  · have hsf : (s == t) = false := by cases s <;> cases t <;> simp_all
    by_cases hle : y ≤ x
    · have L1 := Lib.hid (LW.out.2.1 hst hle).out
      have MS1 : Hid (∀ w, Calls Tryd.prog 53 #[.string X, .string Y] w fun e w' => e = .returned (.tuple #[.string (natS (x - y)), .bool true]) ∧ Below w.heap.size w w') := fun w => by
        have := MS.out w
        unfold SubEnd at this
        rwa [if_pos hle] at this
      clear wq MX MY MD MS MT HA HB LW hst hle MA
      go_wp2_with fail
      refine (MS1.out _).mono ?_
      rintro e w5 ⟨rfl, b5⟩
      obtain ⟨c0, c1, c2, e0, e1, e2, _⟩ := (hA4.later b5 hlt).at
      go_wp2_with fail
      refine (L1.out _).mono ?_
      rintro e w6 ⟨rfl, b6⟩
      have hK6 := (hK4.trans (b5.mono hK4.size)).trans (b6.mono (Nat.le_trans hK4.size b5.size))
      obtain ⟨z0, z1, z2, y0, y1, y2, _⟩ := ((hZ4.later b5 hlt3).later b6 (Nat.lt_of_lt_of_le hlt3 b5.size)).at
      have HK := Lib.hid (hK6)
      clear hA4 hB4 hZ4 b5 b6 hK6 hK4 c0 c1 c2 e0 e1 e2 hlt d0 d1 d2 f0 f1 f2 hlt2 hlt3
      go_wp2_with fail
      exact bodyPost_ret (v := .agg #[.bool G1, .string G2, .string G3]) (by simp [results, Tryd.results27, go_sem, z0, z1, z2]) rfl (HEND.out _ (below3 HK.out (by omega) _ _ _))
    · have L1 := Lib.hid (LW.out.2.2 hst (by omega)).out
      have MS1 : Hid (∀ w, Calls Tryd.prog 53 #[.string X, .string Y] w fun e w' => e = .returned (.tuple #[.string ⟨#[]⟩, .bool false]) ∧ Below w.heap.size w w') := fun w => by
        have := MS.out w
        unfold SubEnd at this
        rwa [if_neg hle] at this
      have MT1 : Hid (∀ w, Calls Tryd.prog 53 #[.string Y, .string X] w fun e w' => e = .returned (.tuple #[.string (natS (y - x)), .bool true]) ∧ Below w.heap.size w w') := fun w => by
        have := MT.out w
        unfold SubEnd at this
        rwa [if_pos (by omega)] at this
      clear wq MX MY MD MS MT HA HB LW hst hle MA
      go_wp2_with fail
      refine (MS1.out _).mono ?_
      rintro e w5 ⟨rfl, b5⟩
      obtain ⟨c0, c1, c2, e0, e1, e2, hl5⟩ := (hA4.later b5 hlt).at
      go_wp2_with fail
      refine (MT1.out _).mono ?_
      rintro e w6 ⟨rfl, b6⟩
      have hB5 := (hB4.later b5 hlt2).later b6 (Nat.lt_of_lt_of_le hlt2 b5.size)
      have hZ5 := (hZ4.later b5 hlt3).later b6 (Nat.lt_of_lt_of_le hlt3 b5.size)
      have hlt5 := hZ5.at.2.2.2.2.2.2
      obtain ⟨d0, d1, d2, f0, f1, f2, _⟩ := hB5.at
      go_wp2_with fail
      refine (L1.out _).mono ?_
      rintro e w7 ⟨rfl, b7⟩
      have hK5 := (hK4.trans (b5.mono hK4.size)).trans (b6.mono (Nat.le_trans hK4.size b5.size))
      have hK6 := hK5.trans (b7.mono hK5.size)
      obtain ⟨z0, z1, z2, y0, y1, y2, _⟩ := (hZ5.later b7 hlt5).at
      have HK := Lib.hid (hK6)
      clear hA4 hB4 hZ4 b5 b6 b7 hK5 hK6 hB5 hZ5 hlt5 hl5 hK4 c0 c1 c2 e0 e1 e2 hlt d0 d1 d2 f0 f1 f2 hlt2 hlt3
      go_wp2_with fail
      exact bodyPost_ret (v := .agg #[.bool G1, .string G2, .string G3]) (by simp [results, Tryd.results27, go_sem, z0, z1, z2]) rfl (HEND.out _ (below3 HK.out (by omega) _ _ _))

end Go.Proofs.YtebigkjilklodaaDoor

/- The program's rational numbers: Sub, Cmp. -/
namespace Go.Proofs.YtebigkjilklodaaDoor
open Go.RowKit

set_option maxHeartbeats 1000000 in
set_option maxRecDepth 100000 in
theorem pSub2_any (a b : RatG) (w : World) (h1 : a.num.size ≤ 200000) (h2 : a.den.size ≤ 200000) (h3 : b.num.size ≤ 200000) (h4 : b.den.size ≤ 200000) :
    Calls Tryd.prog 55 #[.agg #[.bool a.neg, .string a.num, .string a.den], .agg #[.bool b.neg, .string b.num, .string b.den]] w (QRet (a.rat - b.rat) w) := by
  have lb : RatLe 200000 (-b.rat) := ratLe_neg (ratLe_rat h3 h4 (by decide))
  have HN : Hid (∀ w, Calls Tryd.prog 70 #[.agg #[.bool b.neg, .string b.num, .string b.den]] w fun e w' => e = .returned (.agg #[.bool (ratG (-b.rat)).neg, .string (ratG (-b.rat)).num, .string (ratG (-b.rat)).den]) ∧ Below w.heap.size w w') := fun w => pNeg_any b w (by omega) (by omega)
  have HP : Hid (∀ w, Calls Tryd.prog 27 #[.agg #[.bool a.neg, .string a.num, .string a.den], .agg #[.bool (ratG (-b.rat)).neg, .string (ratG (-b.rat)).num, .string (ratG (-b.rat)).den]] w fun e w' => e = .returned (.agg #[.bool (ratG (a.rat - b.rat)).neg, .string (ratG (a.rat - b.rat)).num, .string (ratG (a.rat - b.rat)).den]) ∧ Below w.heap.size w w') := fun w => by
    have := pAdd2_any a (ratG (-b.rat)) w h1 h2 lb.1 lb.2
    rw [ratG_rat, ← Rat.sub_eq_add_neg] at this
    exact this
  obtain ⟨r, hr⟩ : ∃ r, r = a.rat - b.rat := ⟨_, rfl⟩
  rw [← hr] at HP ⊢
  have HEND : Hid (∀ W, Below w.heap.size w W → QRet r w (.returned (.agg #[.bool (ratG r).neg, .string (ratG r).num, .string (ratG r).den])) W) := fun W hW => ⟨rfl, hW⟩
  obtain ⟨g, hg⟩ : ∃ g, g = ratG (-b.rat) := ⟨_, rfl⟩
  obtain ⟨h, hh⟩ : ∃ h, h = ratG r := ⟨_, rfl⟩
  rw [← hg] at HN HP
  rw [← hh] at HP HEND
  obtain ⟨g1, g2, g3⟩ := g
  obtain ⟨G1, G2, G3⟩ := h
  dsimp only at *
  clear hr hg hh lb h1 h2 h3 h4
  go_enter Tryd.func55, Tryd.ntmps55
  go_wp2_with fail
  obtain ⟨W0, hW0⟩ : ∃ W0, W0 = ((w.alloc (.cells #[.bool a.neg, .string a.num, .string a.den] 63)).alloc (.cells #[.bool b.neg, .string b.num, .string b.den] 63)).alloc (.cells #[.bool false, .string ⟨#[]⟩, .string ⟨#[]⟩] 63) := ⟨_, rfl⟩
  have hA : Cells3 w.heap.size W0 (.bool a.neg) (.string a.num) (.string a.den) := by rw [hW0]; exact ((boxed w _ _ _).alloc _).alloc _
  have hB : Cells3 (w.heap.size + 1) W0 (.bool b.neg) (.string b.num) (.string b.den) := by rw [hW0]; have := (boxed (w.alloc (.cells #[.bool a.neg, .string a.num, .string a.den] 63)) (.bool b.neg) (.string b.num) (.string b.den)).alloc (.cells #[.bool false, .string ⟨#[]⟩, .string ⟨#[]⟩] 63); rwa [World.size_alloc] at this
  have hZ : Cells3 (w.heap.size + 1 + 1) W0 (.bool false) (.string ⟨#[]⟩) (.string ⟨#[]⟩) := by rw [hW0]; have := rat_new ((w.alloc (.cells #[.bool a.neg, .string a.num, .string a.den] 63)).alloc (.cells #[.bool b.neg, .string b.num, .string b.den] 63)); rwa [World.size_alloc, World.size_alloc] at this
  have hB0 : Below w.heap.size w W0 := by rw [hW0]; exact (((Below.refl _ _).alloc (Nat.le_refl _) _).alloc (by simp) _).alloc (by simp; omega) _
  rw [← hW0]
  clear hW0
  obtain ⟨c0, c1, c2, e0, e1, e2, hlt⟩ := hA.at
  obtain ⟨d0, d1, d2, f0, f1, f2, hlt2⟩ := hB.at
  have hlt3 := hZ.at.2.2.2.2.2.2
  refine wp_region_class_tail (Kept _) 4 (by kernel_rfl) (by kernel_rfl) (Kept.drew _) ?_
  simp only [List.take_succ_cons, List.take_zero, List.drop_succ_cons, List.drop_zero, List.cons_append, List.nil_append]
  repeat (first
    | go_big_quiet_skip
    | (refine BigFrame.wpQuiet_want (by rfl) (fun K hK => ?_)
       first
         | (refine BigFrame.quiet_move _ rfl ?_; refine hK _ ?_)
         | (refine BigFrame.quiet_assign _ rfl ?_; refine hK _ ?_)
         | (apply Exists.intro; refine ⟨fun w' hC => ?_, hK _ ?_⟩
            · (obtain ⟨hcl, hfr⟩ := bcell hC.1; unfold Oper.quietAt; go_simp; first | rfl | (go_at_call 70; with_reducible refine (HN.out w').mono ?_; exact fun e w'' ⟨he, hb⟩ => ⟨he, hC.next hb⟩) | (go_at_call 27; with_reducible refine (HP.out w').mono ?_; exact fun e w'' ⟨he, hb⟩ => ⟨he, hC.next hb⟩)))
       simp only [Act.put, Act.eval, List.setIfInBounds_toArray, List.set_cons_zero, List.set_cons_succ, Array.getD_eq_getD_getElem?, List.getElem?_toArray, List.getElem?_cons_succ, List.getElem?_cons_zero, Option.getD_some]
       clear hK K))
  refine wpQuiet_nil ?_
  intro wq hCq
  obtain ⟨z0, z1, z2, y0, y1, y2, _⟩ := (hZ.later hCq.1 hlt3).at
  have HK := Lib.hid (hCq.below hB0 hB0.size)
  clear hA hB hZ hCq hB0 c0 c1 c2 e0 e1 e2 hlt d0 d1 d2 f0 f1 f2 hlt2 hlt3
  go_wp2_with fail
  exact bodyPost_ret (v := .agg #[.bool G1, .string G2, .string G3]) (by simp [results, Tryd.results55, go_sem, z0, z1, z2]) rfl (HEND.out _ (below3 HK.out (by omega) _ _ _))

theorem cmpR_sub (a b : Rat) : cmpR (a - b) 0 = cmpR a b := by
  unfold cmpR
  have h1 : a - b < 0 ↔ a < b := by rw [Rat.sub_lt_iff, Rat.zero_add]
  have h2 : a - b = 0 ↔ a = b := ⟨fun h => by have := Rat.sub_add_cancel (a := a) (b := b); rw [h, Rat.zero_add] at this; exact this.symm, fun h => by rw [h]; exact Rat.sub_self⟩
  simp only [h1, h2]
theorem ratLe_sub {p q : Rat} {k l : Nat} (hp : RatLe k p) (hq : RatLe l q) : RatLe (2 * (k + l) + 1) (p - q) := by
  rw [Rat.sub_eq_add_neg]; exact ratLe_add hp (ratLe_neg hq)

set_option maxHeartbeats 1000000 in
set_option maxRecDepth 100000 in
theorem pCmp2_any (a b : RatG) (w : World) (h1 : a.num.size ≤ 200000) (h2 : a.den.size ≤ 200000) (h3 : b.num.size ≤ 200000) (h4 : b.den.size ≤ 200000) :
    Calls Tryd.prog 28 #[.agg #[.bool a.neg, .string a.num, .string a.den], .agg #[.bool b.neg, .string b.num, .string b.den]] w fun e w' => e = .returned (.int .i64 (cmpR a.rat b.rat)) ∧ Below w.heap.size w w' := by
  have lr : RatLe 800001 (a.rat - b.rat) := ratLe_sub (ratLe_rat h1 h2 (by decide)) (ratLe_rat h3 h4 (by decide))
  have HS : Hid (∀ w, Calls Tryd.prog 55 #[.agg #[.bool a.neg, .string a.num, .string a.den], .agg #[.bool b.neg, .string b.num, .string b.den]] w fun e w' => e = .returned (.agg #[.bool (ratG (a.rat - b.rat)).neg, .string (ratG (a.rat - b.rat)).num, .string (ratG (a.rat - b.rat)).den]) ∧ Below w.heap.size w w') := fun w => pSub2_any a b w h1 h2 h3 h4
  have HG : Hid (∀ w, Calls Tryd.prog 54 #[.agg #[.bool (ratG (a.rat - b.rat)).neg, .string (ratG (a.rat - b.rat)).num, .string (ratG (a.rat - b.rat)).den]] w fun e w' => e = .returned (.int .i64 (cmpR a.rat b.rat)) ∧ Below w.heap.size w w') := fun w => by
    have := pSign_any (a.rat - b.rat) w (Nat.le_trans lr.1 (by decide)) (Nat.le_trans lr.2 (by decide))
    rw [cmpR_sub] at this
    exact this
  obtain ⟨g, hg⟩ : ∃ g, g = ratG (a.rat - b.rat) := ⟨_, rfl⟩
  obtain ⟨c, hc⟩ : ∃ c, c = cmpR a.rat b.rat := ⟨_, rfl⟩
  rw [← hg] at HS HG
  rw [← hc] at HG ⊢
  obtain ⟨g1, g2, g3⟩ := g
  dsimp only at *
  clear hg hc lr h1 h2 h3 h4
  go_enter Tryd.func28, Tryd.ntmps28
  go_wp2_with fail
  refine (HS.out _).mono ?_
  rintro e w1 ⟨rfl, b1⟩
  go_wp2_with fail
  refine (HG.out _).mono ?_
  rintro e w2 ⟨rfl, b2⟩
  have HK := Lib.hid ((((Below.refl w.heap.size w).alloc (Nat.le_refl _) (.cells #[.bool a.neg, .string a.num, .string a.den] 63)).alloc (by simp) (.cells #[.bool b.neg, .string b.num, .string b.den] 63)).trans (b1.mono (by simp; omega)))
  have HK2 := Lib.hid (HK.out.trans (b2.mono HK.out.size))
  clear b1 b2 HK
  go_wp2_with fail
  go_ret
  exact ⟨rfl, HK2.out⟩

end Go.Proofs.YtebigkjilklodaaDoor

/- The law's sanity: the chapter's example. -/
import Derived.Test.YtebigkjilklodaaDoorSans
import Derived.Test.YtebigkjilklodaaDoorRegs
import Derived.Test.YtebigkjilklodaaDoorEntC
import Derived.Test.YtebigkjilklodaaDoorQuoF
import Derived.ArgAppend
set_option linter.unusedVariables false
set_option linter.unusedSimpArgs false
namespace Go.Proofs.YtebigkjilklodaaDoor
open Go.RowKit

def zeroR : Obj := .cells #[.bool false, .string ⟨#[]⟩, .string ⟨#[]⟩] 63
theorem zero_at {z : Obj} {b : Nat} {W W' : World} (h : W.heap[b]? = some z) (hb : Below W.heap.size W W') : W'.heap[b]? = some z := (hb.block _ (Array.getElem?_eq_some_iff.1 h).1).trans h
theorem below_next {a w w' : World} (h : Below a.heap.size a w) (k : Below w.heap.size w w') : Below a.heap.size a w' := h.trans (k.mono h.size)
theorem ints_other {w w' : World} {B pb : Nat} {v : Value} {l : List Int} (h : IntsAt B w v l) (hz : w.heap[pb]? = some zeroR) (ho : ∀ k, k ≠ pb → w'.heap[k]? = w.heap[k]?) : IntsAt B w' v l := by
  obtain ⟨ao, cap, rfl, hc⟩ := h
  refine ⟨ao, cap, rfl, fun j u hu => ?_⟩
  obtain ⟨b, off, rfl, hb, h1⟩ := hc j u hu
  obtain ⟨x, rfl⟩ : ∃ x, u = .int .i64 x := by
    rw [List.getElem?_map] at hu
    cases hx : l[j]? with
    | none => rw [hx] at hu; cases hu
    | some x => rw [hx] at hu; exact ⟨x, (Option.some.inj hu).symm⟩
  have hne : b ≠ pb := by
    intro e
    subst e
    rw [cell_of_row w b (off + j) _ _ _ hz] at h1
    match off + j, h1 with
    | 0, h1 => cases h1
    | 1, h1 => cases h1
    | 2, h1 => cases h1
    | k + 3, h1 => simp at h1
  exact ⟨b, off, rfl, hb, by rw [World.cell?_of_block (ho b hne)]; exact h1⟩
def exL4 : List (List Int) := [[0, 2], [0, 3], [1, 2], [1, 3]]
def tup0 : Value → Value
  | .tuple xs => xs.getD 0 undef
  | _ => undef

/-- What holds in the region that asks for the best panel, whatever is done already. -/
def I5 (W : World) (DV LV A C : Value) (D1 : Bool) (D2 D3 : ByteArray) (L : Nat → Bool) (vs : Nat → Value) (w : World) : Prop :=
  Below W.heap.size W w ∧ (L 0 = true → vs 0 = DV) ∧ (L 1 = true → vs 1 = LV) ∧ (L 2 = true → vs 2 = A) ∧ (L 3 = true → vs 3 = A) ∧ (L 4 = true → vs 4 = C) ∧ (L 5 = true → vs 5 = C) ∧
  (L 6 = true → L 7 = false → PricesAt w.heap.size w (vs 6) 4 exPs) ∧
  (L 7 = true → ∃ b, vs 7 = .tuple #[b, .agg #[.bool D1, .string D2, .string D3], .bool true] ∧ IntsAt w.heap.size w b [0, 2]) ∧
  (L 8 = true → L 7 = true ∧ vs 8 = vs 7) ∧ (L 9 = true → L 7 = true ∧ vs 9 = tup0 (vs 7)) ∧ (L 10 = true → L 7 = true ∧ vs 10 = .agg #[.bool D1, .string D2, .string D3]) ∧ (L 11 = true → vs 11 = .bool true) ∧
  (L 12 = true → ∃ pb, vs 12 = .pointer (some ⟨pb, 0, none⟩) ∧ W.heap.size ≤ pb ∧ (L 14 = false → w.heap[pb]? = some zeroR) ∧ (L 14 = true → Cells3 pb w (.bool D1) (.string D2) (.string D3))) ∧
  (L 13 = true → L 9 = true ∧ vs 13 = vs 9) ∧ (L 14 = true → L 7 = true ∧ L 12 = true) ∧ (L 15 = true → vs 15 = .bool true)
theorem I5.later {W : World} {DV LV A C : Value} {D1 : Bool} {D2 D3 : ByteArray} {L : Nat → Bool} {vs : Nat → Value} {w w' : World} (h : I5 W DV LV A C D1 D2 D3 L vs w) (hb : Below w.heap.size w w') : I5 W DV LV A C D1 D2 D3 L vs w' := by
  obtain ⟨hB, h0, h1, h2, h3, h4, h5, h6, h7, h8, h9, h10, h11, h12, h13, h14, h15⟩ := h
  refine ⟨below_next hB hb, h0, h1, h2, h3, h4, h5, fun a b => (h6 a b).mono hb hb.size, fun a => ?_, h8, h9, h10, h11, fun a => ?_, h13, h14, h15⟩
  · obtain ⟨b, e, hi⟩ := h7 a
    exact ⟨b, e, hi.mono hb hb.size⟩
  · obtain ⟨pb, e, hp, hz, hc⟩ := h12 a
    exact ⟨pb, e, hp, fun h => zero_at (hz h) hb, fun h => zero_at (hc h) hb⟩

set_option maxHeartbeats 8000000 in
set_option maxRecDepth 100000 in
theorem sanity_any (w : World) : Calls Tryd.prog 10 #[] w fun e w' => e = .returned (.bool true) ∧ Below w.heap.size w w' := by
  go_enter Tryd.func10, Tryd.ntmps10
  go_wp2_with fail
  refine (four_any _).mono ?_
  rintro e w1 ⟨qv, lv, rfl, hd, hb1, hoq⟩
  obtain ⟨aq, cq, hqv, hqc⟩ := id hd.quo
  have HQC : Hid (cq = 1 ∧ aq ≠ none ∧ ∀ W, Below w1.heap.size w1 W → ∀ b, aq = some b → ∀ j u, [Value.string strA, .int .i64 1, .int .i64 1][j]? = some u → W.cell? (b.add j) = some u) := by
    have e : Value.slice aq 1 cq = .slice (some ⟨w.heap.size + 1, 0, none⟩) 1 1 := hqv.symm.trans hoq
    injection e with e1 _ e3
    refine ⟨e3, by rw [e1]; exact fun h => (by cases h), fun W hW b hb j u hu => ?_⟩
    obtain ⟨b', off, e, hlt, q0, q1, q2⟩ := hqc 0 (by decide)
    rw [hb] at e
    obtain rfl := Option.some.inj e
    have hadd : (⟨b', off, none⟩ : Addr).add j = ⟨b', off + j, none⟩ := by unfold Addr.add; split <;> simp_all
    rw [hadd, hW.cell (p := ⟨b', off + j, none⟩) hlt, ← hu]
    match j with
    | 0 => exact q0
    | 1 => exact q1
    | 2 => exact q2
    | j + 3 => simp at hu
  clear hoq
  obtain ⟨al, cl, rfl, _⟩ := id hd.ent
  obtain rfl : qv = .slice aq 1 cq := hqv
  have HD := Lib.hid hd
  have HB1 := Lib.hid hb1
  clear hd hb1 hqc
  have HALL9 : Hid (∀ W, Below w1.heap.size w1 W → Calls Tryd.prog 15 #[.agg (exD (.slice aq 1 cq)).arr, .slice al 4 cl, .int .i64 9] W fun e w' => ∃ v, e = .returned (.tuple #[v, .bool true]) ∧ RowsAt w'.heap.size w' v exL4 ∧ Below W.heap.size W w') := fun W hW => by
    have h := qAll_any (exD (.slice aq 1 cq)) (.slice al 4 cl) 4 1 exG exL exH exGs 9 W (HD.out.later hW)
    rw [ex_pans] at h
    exact h
  have HALL3 : Hid (∀ W, Below w1.heap.size w1 W → Calls Tryd.prog 15 #[.agg (exD (.slice aq 1 cq)).arr, .slice al 4 cl, .int .i64 3] W fun e w' => ∃ v, e = .returned (.tuple #[v, .bool false]) ∧ RowsAt w'.heap.size w' v (exL4.take 3) ∧ Below W.heap.size W w') := fun W hW => by
    have h := qAll_any (exD (.slice aq 1 cq)) (.slice al 4 cl) 4 1 exG exL exH exGs 3 W (HD.out.later hW)
    rw [ex_pans] at h
    exact h
  have HFIR : Hid (∀ W, Below w1.heap.size w1 W → Calls Tryd.prog 16 #[.agg (exD (.slice aq 1 cq)).arr, .slice al 4 cl] W fun e w' => ∃ v, e = .returned (.tuple #[v, .bool true]) ∧ IntsAt w'.heap.size w' v [0, 2] ∧ Below W.heap.size W w') := fun W hW => by
    have h := qFirst_any (exD (.slice aq 1 cq)) (.slice al 4 cl) 4 1 exG exL exH exGs W (HD.out.later hW)
    rw [ex_pans] at h
    exact h
  unfold exD DrawC.arr at HALL9 HALL3 HFIR ⊢
  dsimp only at HALL9 HALL3 HFIR ⊢
  go_wp2_with fail
  have HB2 := Lib.hid ((Below.refl w1.heap.size w1).alloc (Nat.le_refl _) (.cells (exD (.slice aq 1 cq)).arr 33))
  have HT2 : Hid ((w1.alloc (.cells (exD (.slice aq 1 cq)).arr 33)).heap[w1.heap.size]? = some (.cells (exD (.slice aq 1 cq)).arr 33 (0, 0))) := heap_alloc_new w1 _
  refine (HALL9.out _ HB2.out).mono ?_
  rintro e w2 ⟨v2, rfl, hr2, hb2⟩
  have HB3 := Lib.hid (HB2.out.trans (hb2.mono HB2.out.size))
  have ht3 := (hb2.block w1.heap.size (by simp)).trans HT2.out
  have HT3 := Lib.hid ht3
  have HR2 := Lib.hid hr2
  clear hr2 hb2
  unfold exD DrawC.arr at ht3
  dsimp only at ht3
  obtain ⟨c0, c1, c2, c3, c4, c5, c6, c7, c8, c9, c10, c11, c12⟩ := cells13 ht3
  have clt := cell_lt c0
  clear ht3
  go_wp2_with fail
  refine (HALL3.out _ HB3.out).mono ?_
  rintro e w3 ⟨v3, rfl, hr3, hb3⟩
  have HB4 := Lib.hid (HB3.out.trans (hb3.mono HB3.out.size))
  have ht4 := (hb3.block w1.heap.size clt).trans HT3.out
  have HT4 := Lib.hid ht4
  have HR3 := Lib.hid hr3
  have HR2' := Lib.hid (HR2.out.mono hb3 hb3.size)
  clear hr3 hb3 c0 c1 c2 c3 c4 c5 c6 c7 c8 c9 c10 c11 c12 clt
  unfold exD DrawC.arr at ht4
  dsimp only at ht4
  obtain ⟨c0, c1, c2, c3, c4, c5, c6, c7, c8, c9, c10, c11, c12⟩ := cells13 ht4
  have clt := cell_lt c0
  clear ht4
  go_wp2_with fail
  refine (HFIR.out _ HB4.out).mono ?_
  rintro e w4 ⟨v4, rfl, hi4, hb4⟩
  have HB5 := Lib.hid (HB4.out.trans (hb4.mono HB4.out.size))
  have ht5 := (hb4.block w1.heap.size clt).trans HT4.out
  have HT5 := Lib.hid ht5
  have HI4 := Lib.hid hi4
  have HR3' := Lib.hid (HR3.out.mono hb4 hb4.size)
  have HR2'' := Lib.hid (HR2'.out.mono hb4 hb4.size)
  clear hi4 hb4 c0 c1 c2 c3 c4 c5 c6 c7 c8 c9 c10 c11 c12 clt
  unfold exD DrawC.arr at ht5
  dsimp only at ht5
  obtain ⟨c0, c1, c2, c3, c4, c5, c6, c7, c8, c9, c10, c11, c12⟩ := cells13 ht5
  have clt := cell_lt c0
  clear ht5
  go_wp2_with fail
  have HKEEP : Hid (∀ w', Below w4.heap.size w4 w' → w'.cell? ⟨w1.heap.size, 0, none⟩ = some (.string ⟨#[]⟩) ∧ w'.cell? ⟨w1.heap.size, 1, none⟩ = some (.int .i64 3) ∧ w'.cell? ⟨w1.heap.size, 2, none⟩ = some (.int .i64 0) ∧ w'.cell? ⟨w1.heap.size, 3, none⟩ = some (.int .i64 0) ∧ w'.cell? ⟨w1.heap.size, 4, none⟩ = some (.int .i64 0) ∧ w'.cell? ⟨w1.heap.size, 5, none⟩ = some (.int .i64 0) ∧ w'.cell? ⟨w1.heap.size, 6, none⟩ = some (.slice none 0 0) ∧ w'.cell? ⟨w1.heap.size, 7, none⟩ = some (.bool false) ∧ w'.cell? ⟨w1.heap.size, 8, none⟩ = some (.slice none 0 0) ∧ w'.cell? ⟨w1.heap.size, 9, none⟩ = some (.int .i64 0) ∧ w'.cell? ⟨w1.heap.size, 10, none⟩ = some (.int .i64 2) ∧ w'.cell? ⟨w1.heap.size, 11, none⟩ = some (.slice aq 1 cq) ∧ w'.cell? ⟨w1.heap.size, 12, none⟩ = some (.slice none 0 0)) := fun w' hb => by
    have h := (hb.block w1.heap.size clt).trans HT5.out
    exact cells13 h
  have HOFI : ∀ (k : Int) (r : Rat) (W : World), (k : Rat) = r → k ≤ 9223372036854775807 → -9223372036854775808 ≤ k → Calls Tryd.prog 26 #[.int .i64 k] W fun e w' => e = .returned (.agg #[.bool (ratG r).neg, .string (ratG r).num, .string (ratG r).den]) ∧ Below W.heap.size W w' := fun k r W h h1 h2 => by
    have := pROf_any k W h1 h2
    unfold QRet at this
    rw [h] at this
    exact this
  have HOF1 : Hid (∀ W, Calls Tryd.prog 26 #[.int .i64 1] W fun e w' => e = .returned (.agg #[.bool (ratG 1).neg, .string (ratG 1).num, .string (ratG 1).den]) ∧ Below W.heap.size W w') := fun W => HOFI 1 1 W rfl (by decide) (by decide)
  have HOF2 : Hid (∀ W, Calls Tryd.prog 26 #[.int .i64 2] W fun e w' => e = .returned (.agg #[.bool (ratG 2).neg, .string (ratG 2).num, .string (ratG 2).den]) ∧ Below W.heap.size W w') := fun W => HOFI 2 2 W rfl (by decide) (by decide)
  have HOF3 : Hid (∀ W, Calls Tryd.prog 26 #[.int .i64 3] W fun e w' => e = .returned (.agg #[.bool (ratG 3).neg, .string (ratG 3).num, .string (ratG 3).den]) ∧ Below W.heap.size W w') := fun W => HOFI 3 3 W rfl (by decide) (by decide)
  have HPR : Hid (∀ (W : World) (b : Nat), W.heap[b]? = some (.cells #[.bool (ratG 1).neg, .string (ratG 1).num, .string (ratG 1).den, .bool (ratG 1).neg, .string (ratG 1).num, .string (ratG 1).den, .bool (ratG 2).neg, .string (ratG 2).num, .string (ratG 2).den, .bool (ratG 2).neg, .string (ratG 2).num, .string (ratG 2).den] 63 (0, 0)) → PricesAt W.heap.size W (.slice (some ⟨b, 0, none⟩) 4 4) 4 exPs) := fun W b h => by
    refine ⟨_, _, rfl, fun k hk => ⟨b, 0, rfl, (Array.getElem?_eq_some_iff.1 h).1, ?_⟩⟩
    have hc : ∀ o, W.cell? ⟨b, o, none⟩ = _ := fun o => cell_of_row W b o _ _ _ h
    match k, hk with
    | 0, _ => exact ⟨by rw [hc]; rfl, by rw [hc]; rfl, by rw [hc]; rfl⟩
    | 1, _ => exact ⟨by rw [hc]; rfl, by rw [hc]; rfl, by rw [hc]; rfl⟩
    | 2, _ => exact ⟨by rw [hc]; rfl, by rw [hc]; rfl, by rw [hc]; rfl⟩
    | 3, _ => exact ⟨by rw [hc]; rfl, by rw [hc]; rfl, by rw [hc]; rfl⟩
  have HBEST : Hid (∀ W pv, Below w4.heap.size w4 W → PricesAt W.heap.size W pv 4 exPs → Calls Tryd.prog 24 #[.agg #[.string ⟨#[]⟩, .int .i64 3, .int .i64 0, .int .i64 0, .int .i64 0, .int .i64 0, .slice none 0 0, .bool false, .slice none 0 0, .int .i64 0, .int .i64 2, .slice aq 1 cq, .slice none 0 0], .slice al 4 cl, pv] W fun e w' => ∃ v, e = .returned (.tuple #[v, .agg #[.bool (ratG 3).neg, .string (ratG 3).num, .string (ratG 3).den], .bool true]) ∧ IntsAt w'.heap.size w' v [0, 2] ∧ Below W.heap.size W w') := fun W pv hW hp =>
    ex_best (.slice aq 1 cq) (.slice al 4 cl) W pv (HD.out.later (HB5.out.trans (hW.mono HB5.out.size))) hp
  obtain ⟨A, hA⟩ : ∃ A, A = ratG 1 := ⟨_, rfl⟩
  obtain ⟨C, hC⟩ : ∃ C, C = ratG 2 := ⟨_, rfl⟩
  obtain ⟨D, hD⟩ : ∃ D, D = ratG 3 := ⟨_, rfl⟩
  rw [← hA] at HOF1 HPR
  rw [← hC] at HOF2 HPR
  rw [← hD] at HOF3 HBEST
  have HDD := Lib.hid hD
  clear hA hC hD HOFI
  obtain ⟨A1, A2, A3⟩ := A
  obtain ⟨C1, C2, C3⟩ := C
  obtain ⟨D1, D2, D3⟩ := D
  dsimp only at HOF1 HOF2 HOF3 HPR HBEST
  have hb0 : Below w4.heap.size w4 w4 := Below.refl _ _
  go_cut [9, 10, 11] (fun b q v wx => ∃ pb : Nat, q = .pointer (some ⟨pb, 0, none⟩) ∧ v = .bool true ∧ Hid (IntsAt wx.heap.size wx b [0, 2]) ∧ Hid (Cells3 pb wx (.bool D1) (.string D2) (.string D3)) ∧ Hid (Below w4.heap.size w4 wx))
  case first =>
    have HDV : Hid (∀ W, Below w4.heap.size w4 W → W.heap[w1.heap.size]? = some (.cells (exD (.slice aq 1 cq)).arr 33 (0, 0))) := fun W hW => zero_at HT5.out hW
    refine wp_region_inv (I5 w4 (.agg (exD (.slice aq 1 cq)).arr) (.slice al 4 cl) (.agg #[.bool A1, .string A2, .string A3]) (.agg #[.bool C1, .string C2, .string C3]) D1 D2 D3) (by kernel_rfl) (by kernel_rfl) (by kernel_rfl) ?_ ?_ ?_
    · intro L hL
      simp [I5, hL]
      exact Below.drew (Below.refl _ _)
    · refine ⟨?_, ?_, ?_, ?_, ?_, ?_, ?_, ?_, ?_, ?_, ?_, ?_, ?_, ?_, ?_, ?_, trivial⟩
      all_goals (intro L vs w' a' hI hev hold hL hd)
      all_goals (simp only [Nat.zero_add, Nat.reduceAdd] at *)
      all_goals (refine ⟨rfl, ?_⟩)
      all_goals (obtain ⟨hB, h0, h1, h2, h3, h4, h5, h6, h7, h8, h9, h10, h11, h12, h13, h14, h15⟩ := id hI)
      all_goals (obtain ⟨ev, hev'⟩ : ∃ ev, a'.eval = ev := ⟨_, rfl⟩)
      all_goals (have evc : ∀ v, ev (.const v) = v := fun v => by rw [← hev']; rfl)
      all_goals (have evf : ∀ f, ev (.func f) = .func (.func f) #[] #[] := fun v => by rw [← hev']; rfl)
      all_goals (have evt : ∀ t, ev (.tmp t) = a'.tmps.getD t undef := fun v => by rw [← hev']; rfl)
      all_goals (have e1 : ev (.tmp 1) = .pointer (some ⟨w1.heap.size, 0, none⟩) := (evt 1).trans (hold 1 (by decide)))
      all_goals (have e2 : ev (.tmp 2) = .slice al 4 cl := (evt 2).trans (hold 2 (by decide)))
      all_goals (have evd : ∀ j p t, _ → _ → L j = true → _ → ev (.tmp t) = vs j := fun j p t x1 x2 x3 x4 => (evt t).trans (hev j p t x1 x2 x3 x4))
      all_goals (simp [Region.binds] at hd)
      all_goals (rw [hev'])
      all_goals (clear hev' hold evt hev)
      · -- load
        have hrun : (execOp ev { dst := some 38, op := Op.load 33 (Operand.tmp 1), type := 33, pos := "law.go:23", after := #[], guard := none }).run Tryd.prog w' = .ok (.value (.agg (exD (.slice aq 1 cq)).arr)) w' := by
          obtain ⟨c0, c1, c2, c3, c4, c5, c6, c7, c8, c9, c10, c11, c12⟩ := cells13 (HDV.out w' hB)
          simp [go_sem, e1, evc, c0, c1, c2, c3, c4, c5, c6, c7, c8, c9, c10, c11, c12]
          rfl
        rw [hrun]
        exact ⟨hB, fun _ => updv_self _ _ _, h1, h2, h3, h4, h5, h6, h7, h8, h9, h10, h11, h12, h13, h14, h15⟩
      · rw [BigFrame.run_move (Operand.tmp 2) rfl, e2]
        exact ⟨hB, h0, fun _ => updv_self _ _ _, h2, h3, h4, h5, h6, h7, h8, h9, h10, h11, h12, h13, h14, h15⟩
      · have hrun : ∀ o : Oper, o.op = Op.call { callee := Callee.value (Operand.func 26), args := #[Operand.const (Value.int IntKind.i64 1)], argTypes := #[3] } → (execOp ev o).run Tryd.prog w' = .ok (.enter 26 #[.int .i64 1]) w' := fun o ho => by
          simp [go_sem, ho, evf, evc]
        rw [hrun _ rfl]
        refine (HOF1.out w').mono ?_
        rintro e w'' ⟨rfl, hb⟩
        obtain ⟨hB, h0, h1, h2, h3, h4, h5, h6, h7, h8, h9, h10, h11, h12, h13, h14, h15⟩ := hI.later hb
        exact ⟨_, rfl, hB, h0, h1, fun _ => updv_self _ _ _, h3, h4, h5, h6, h7, h8, h9, h10, h11, h12, h13, h14, h15⟩
      · have hrun : ∀ o : Oper, o.op = Op.call { callee := Callee.value (Operand.func 26), args := #[Operand.const (Value.int IntKind.i64 1)], argTypes := #[3] } → (execOp ev o).run Tryd.prog w' = .ok (.enter 26 #[.int .i64 1]) w' := fun o ho => by
          simp [go_sem, ho, evf, evc]
        rw [hrun _ rfl]
        refine (HOF1.out w').mono ?_
        rintro e w'' ⟨rfl, hb⟩
        obtain ⟨hB, h0, h1, h2, h3, h4, h5, h6, h7, h8, h9, h10, h11, h12, h13, h14, h15⟩ := hI.later hb
        exact ⟨_, rfl, hB, h0, h1, h2, fun _ => updv_self _ _ _, h4, h5, h6, h7, h8, h9, h10, h11, h12, h13, h14, h15⟩
      · have hrun : ∀ o : Oper, o.op = Op.call { callee := Callee.value (Operand.func 26), args := #[Operand.const (Value.int IntKind.i64 2)], argTypes := #[3] } → (execOp ev o).run Tryd.prog w' = .ok (.enter 26 #[.int .i64 2]) w' := fun o ho => by
          simp [go_sem, ho, evf, evc]
        rw [hrun _ rfl]
        refine (HOF2.out w').mono ?_
        rintro e w'' ⟨rfl, hb⟩
        obtain ⟨hB, h0, h1, h2, h3, h4, h5, h6, h7, h8, h9, h10, h11, h12, h13, h14, h15⟩ := hI.later hb
        exact ⟨_, rfl, hB, h0, h1, h2, h3, fun _ => updv_self _ _ _, h5, h6, h7, h8, h9, h10, h11, h12, h13, h14, h15⟩
      · have hrun : ∀ o : Oper, o.op = Op.call { callee := Callee.value (Operand.func 26), args := #[Operand.const (Value.int IntKind.i64 2)], argTypes := #[3] } → (execOp ev o).run Tryd.prog w' = .ok (.enter 26 #[.int .i64 2]) w' := fun o ho => by
          simp [go_sem, ho, evf, evc]
        rw [hrun _ rfl]
        refine (HOF2.out w').mono ?_
        rintro e w'' ⟨rfl, hb⟩
        obtain ⟨hB, h0, h1, h2, h3, h4, h5, h6, h7, h8, h9, h10, h11, h12, h13, h14, h15⟩ := hI.later hb
        exact ⟨_, rfl, hB, h0, h1, h2, h3, h4, fun _ => updv_self _ _ _, h6, h7, h8, h9, h10, h11, h12, h13, h14, h15⟩
      · -- the prices
        have e40 := (evd 2 _ 40 rfl rfl (by simp [hd]) (by show _ < 131; decide)).trans (h2 (by simp [hd]))
        have e41 := (evd 3 _ 41 rfl rfl (by simp [hd]) (by show _ < 131; decide)).trans (h3 (by simp [hd]))
        have e42 := (evd 4 _ 42 rfl rfl (by simp [hd]) (by show _ < 131; decide)).trans (h4 (by simp [hd]))
        have e43 := (evd 5 _ 43 rfl rfl (by simp [hd]) (by show _ < 131; decide)).trans (h5 (by simp [hd]))
        have hrun : ∀ o : Oper, o.op = Op.buildSlice 66 4 #[(0, Operand.tmp 40), (1, Operand.tmp 41), (2, Operand.tmp 42), (3, Operand.tmp 43)] → (execOp ev o).run Tryd.prog w' = .ok (.value (.slice (some ⟨w'.heap.size, 0, none⟩) 4 4)) (w'.alloc (.cells #[.bool A1, .string A2, .string A3, .bool A1, .string A2, .string A3, .bool C1, .string C2, .string C3, .bool C1, .string C2, .string C3] 63)) := fun o ho => by
          simp [go_sem, ho, e40, e41, e42, e43]
          done
        rw [hrun _ rfl]
        obtain ⟨hB, h0, h1, h2, h3, h4, h5, h6, h7, h8, h9, h10, h11, h12, h13, h14, h15⟩ := hI.later ((Below.refl _ _).alloc (Nat.le_refl _) (.cells #[.bool A1, .string A2, .string A3, .bool A1, .string A2, .string A3, .bool C1, .string C2, .string C3, .bool C1, .string C2, .string C3] 63))
        exact ⟨hB, h0, h1, h2, h3, h4, h5, fun _ _ => HPR.out _ _ (heap_alloc_new _ _), h7, h8, h9, h10, h11, h12, h13, h14, h15⟩
      · -- the best panel
        have e38 := (evd 0 _ 38 rfl rfl (by simp [hd]) (by show _ < 131; decide)).trans (h0 (by simp [hd]))
        have e39 := (evd 1 _ 39 rfl rfl (by simp [hd]) (by show _ < 131; decide)).trans (h1 (by simp [hd]))
        have e44 := evd 6 _ 44 rfl rfl (by simp [hd]) (by show _ < 131; decide)
        have hrun : ∀ o : Oper, o.op = Op.call { callee := Callee.value (Operand.func 24), args := #[Operand.tmp 38, Operand.tmp 39, Operand.tmp 44], argTypes := #[33, 34, 66] } → (execOp ev o).run Tryd.prog w' = .ok (.enter 24 #[.agg (exD (.slice aq 1 cq)).arr, .slice al 4 cl, vs 6]) w' := fun o ho => by
          simp [go_sem, ho, evf, e38, e39, e44]
          done
        rw [hrun _ rfl]
        refine (HBEST.out w' (vs 6) hB (h6 (by simp [hd]) hL)).mono ?_
        rintro e w'' ⟨v, rfl, hi, hb⟩
        obtain ⟨hB, h0, h1, h2, h3, h4, h5, h6, h7, h8, h9, h10, h11, h12, h13, h14, h15⟩ := hI.later hb
        have q8 : L 8 = true → False := fun h => by have := (h8 h).1; rw [hL] at this; cases this
        have q9 : L 9 = true → False := fun h => by have := (h9 h).1; rw [hL] at this; cases this
        have q10 : L 10 = true → False := fun h => by have := (h10 h).1; rw [hL] at this; cases this
        have q14 : L 14 = true → False := fun h => by have := (h14 h).1; rw [hL] at this; cases this
        exact ⟨_, rfl, hB, h0, h1, h2, h3, h4, h5, fun _ h => absurd h (by rw [upd_self]; decide), fun _ => ⟨v, updv_self _ _ _, hi⟩, fun h => (q8 h).elim, fun h => (q9 h).elim, fun h => (q10 h).elim, h11, h12, h13, fun h => (q14 h).elim, h15⟩
      · have d7 : L 7 = true := by simp [hd]
        rw [BigFrame.run_move (Operand.tmp 45) rfl, evd 7 _ 45 rfl rfl d7 (by show _ < 131; decide)]
        exact ⟨hB, h0, h1, h2, h3, h4, h5, h6, h7, fun _ => ⟨d7, updv_self _ _ _⟩, h9, h10, h11, h12, h13, h14, h15⟩
      · have d8 : L 8 = true := by simp [hd]
        have d7 : L 7 = true := (h8 d8).1
        obtain ⟨b, eb, hi⟩ := h7 d7
        have e37 := ((evd 8 _ 37 rfl rfl d8 (by show _ < 131; decide)).trans (h8 d8).2).trans eb
        have hrun : ∀ o : Oper, o.op = Op.extract (Operand.tmp 37) 0 → (execOp ev o).run Tryd.prog w' = .ok (.value b) w' := fun o ho => by
          simp [go_sem, ho, e37]
        rw [hrun _ rfl]
        exact ⟨hB, h0, h1, h2, h3, h4, h5, h6, h7, h8, fun _ => ⟨d7, (updv_self _ _ _).trans (by show b = tup0 (vs 7); rw [eb]; rfl)⟩, h10, h11, h12, fun h => (by have := (h13 h).1; rw [hL] at this; cases this), h14, h15⟩
      · have d8 : L 8 = true := by simp [hd]
        have d7 : L 7 = true := (h8 d8).1
        obtain ⟨b, eb, hi⟩ := h7 d7
        have e37 := ((evd 8 _ 37 rfl rfl d8 (by show _ < 131; decide)).trans (h8 d8).2).trans eb
        have hrun : ∀ o : Oper, o.op = Op.extract (Operand.tmp 37) 1 → (execOp ev o).run Tryd.prog w' = .ok (.value (.agg #[.bool D1, .string D2, .string D3])) w' := fun o ho => by
          simp [go_sem, ho, e37]
        rw [hrun _ rfl]
        exact ⟨hB, h0, h1, h2, h3, h4, h5, h6, h7, h8, h9, fun _ => ⟨d7, updv_self _ _ _⟩, h11, h12, h13, h14, h15⟩
      · have d8 : L 8 = true := by simp [hd]
        have d7 : L 7 = true := (h8 d8).1
        obtain ⟨b, eb, hi⟩ := h7 d7
        have e37 := ((evd 8 _ 37 rfl rfl d8 (by show _ < 131; decide)).trans (h8 d8).2).trans eb
        have hrun : ∀ o : Oper, o.op = Op.extract (Operand.tmp 37) 2 → (execOp ev o).run Tryd.prog w' = .ok (.value (.bool true)) w' := fun o ho => by
          simp [go_sem, ho, e37]
        rw [hrun _ rfl]
        exact ⟨hB, h0, h1, h2, h3, h4, h5, h6, h7, h8, h9, h10, fun _ => updv_self _ _ _, h12, h13, h14, h15⟩
      · -- the price's cell
        have hrun : ∀ o : Oper, o.op = Op.alloc 63 → (execOp ev o).run Tryd.prog w' = .ok (.value (.pointer (some ⟨w'.heap.size, 0, none⟩))) (w'.alloc zeroR) := fun o ho => by
          simp [go_sem, ho, zeroR]
          done
        rw [hrun _ rfl]
        obtain ⟨hB', h0, h1, h2, h3, h4, h5, h6, h7, h8, h9, h10, h11, h12, h13, h14, h15⟩ := hI.later ((Below.refl _ _).alloc (Nat.le_refl _) zeroR)
        exact ⟨hB', h0, h1, h2, h3, h4, h5, h6, h7, h8, h9, h10, h11, fun _ => ⟨_, updv_self _ _ _, hB.size, fun _ => heap_alloc_new _ _, fun h => (by have := (h14 h).2; rw [hL] at this; cases this)⟩, h13, fun h => (by have := (h14 h).2; rw [hL] at this; cases this), h15⟩
      · have d9 : L 9 = true := by simp [hd]
        rw [BigFrame.run_assign (Operand.tmp 46) rfl, evd 9 _ 46 rfl rfl d9 (by show _ < 131; decide)]
        exact ⟨hB, h0, h1, h2, h3, h4, h5, h6, h7, h8, h9, h10, h11, h12, fun _ => ⟨d9, updv_self _ _ _⟩, h14, h15⟩
      · -- the price is stored
        have d7 : L 7 = true := by simp [hd]
        have d10 : L 10 = true := by simp [hd]
        have d12 : L 12 = true := by simp [hd]
        obtain ⟨pb, ep, hp, hz, _⟩ := h12 d12
        have hz := hz hL
        have e10 := (evd 12 _ 10 rfl rfl d12 (by show _ < 131; decide)).trans ep
        have e47 := (evd 10 _ 47 rfl rfl d10 (by show _ < 131; decide)).trans (h10 d10).2
        obtain ⟨z0, z1, z2, f0, f1, f2, zl⟩ := (show Cells3 pb w' (.bool false) (.string ⟨#[]⟩) (.string ⟨#[]⟩) from hz).at
        have hrun : ∀ o : Oper, o.op = Op.store 63 (Operand.tmp 10) (Operand.tmp 47) → (execOp ev o).run Tryd.prog w' = .ok .skip (((w'.setCell ⟨pb, 0, none⟩ (.bool D1)).setCell ⟨pb, 1, none⟩ (.string D2)).setCell ⟨pb, 2, none⟩ (.string D3)) := fun o ho => by
          simp [go_sem, ho, e10, e47, z0, z1, z2, f0, f1, f2]
        rw [hrun _ rfl]
        have hc3 : Cells3 pb (((w'.setCell ⟨pb, 0, none⟩ (.bool D1)).setCell ⟨pb, 1, none⟩ (.string D2)).setCell ⟨pb, 2, none⟩ (.string D3)) (.bool D1) (.string D2) (.string D3) := heap_setCell_same _ pb 2 _ _ _ (heap_setCell_same _ pb 1 _ _ _ (heap_setCell_same w' pb 0 _ _ _ hz))
        have hBs : Below w4.heap.size w4 (((w'.setCell ⟨pb, 0, none⟩ (.bool D1)).setCell ⟨pb, 1, none⟩ (.string D2)).setCell ⟨pb, 2, none⟩ (.string D3)) := ((hB.setCell hp _).setCell hp _).setCell hp _
        have hoth : ∀ k, k ≠ pb → (((w'.setCell ⟨pb, 0, none⟩ (.bool D1)).setCell ⟨pb, 1, none⟩ (.string D2)).setCell ⟨pb, 2, none⟩ (.string D3)).heap[k]? = w'.heap[k]? := fun k hk => by
          rw [heap_setCell_other _ _ _ _ hk, heap_setCell_other _ _ _ _ hk, heap_setCell_other _ _ _ _ hk]
        have hsz3 : (((w'.setCell ⟨pb, 0, none⟩ (.bool D1)).setCell ⟨pb, 1, none⟩ (.string D2)).setCell ⟨pb, 2, none⟩ (.string D3)).heap.size = w'.heap.size := by simp
        exact ⟨hBs, h0, h1, h2, h3, h4, h5, fun _ h => (by have h' : L 7 = false := h; rw [d7] at h'; cases h'), fun _ => (by
            obtain ⟨b, eb, hi⟩ := h7 d7
            exact ⟨b, eb, by rw [hsz3]; exact ints_other hi hz hoth⟩), h8, h9, h10, h11, fun _ => ⟨pb, ep, hp, fun h => absurd h (by rw [upd_self]; decide), fun _ => hc3⟩, h13, fun _ => ⟨d7, d12⟩, h15⟩
      · have d11 : L 11 = true := by simp [hd]
        rw [BigFrame.run_assign (Operand.tmp 48) rfl, evd 11 _ 48 rfl rfl d11 (by show _ < 131; decide)]
        exact ⟨hB, h0, h1, h2, h3, h4, h5, h6, h7, h8, h9, h10, h11, h12, h13, h14, fun _ => (updv_self _ _ _).trans (h11 d11)⟩
    · intro L vs w' hL hI
      have q : ∀ i, i < 16 → L i = true := hL
      obtain ⟨hB, h0, h1, h2, h3, h4, h5, h6, h7, h8, h9, h10, h11, h12, h13, h14, h15⟩ := hI
      obtain ⟨b7, e7, hi7⟩ := h7 (q 7 (by decide))
      have e9 : vs 13 = b7 := by rw [(h13 (q 13 (by decide))).2, (h9 (q 9 (by decide))).2, e7]; rfl
      obtain ⟨pb, e12, hp, _, hc3⟩ := h12 (q 12 (by decide))
      have hc3 := Lib.hid (hc3 (q 14 (by decide)))
      have e15 := h15 (q 15 (by decide))
      have HIN := Lib.hid hi7
      have HBB := Lib.hid hB
      simp only [putAll, q 0 (by decide), q 1 (by decide), q 2 (by decide), q 3 (by decide), q 4 (by decide), q 5 (by decide), q 6 (by decide), q 7 (by decide), q 8 (by decide), q 9 (by decide), q 10 (by decide), q 11 (by decide), q 12 (by decide), q 13 (by decide), q 14 (by decide), q 15 (by decide), if_true, Nat.zero_add, Nat.reduceAdd, Act.put, List.setIfInBounds_toArray, List.set_cons_zero, List.set_cons_succ]
      clear h0 h1 h2 h3 h4 h5 h6 h7 h8 h9 h10 h11 h12 h13 h14 h15 hL hi7 hB q
      rw [e9, e12, e15]
      clear e9 e12 e15
      go_wp2_with fail
      go_meet
      exact ⟨pb, rfl, rfl, HIN, hc3, HBB⟩
  case rest =>
    obtain ⟨pb, rfl, rfl, HI5, HC3, HB6⟩ := hcut
    have HDV : Hid (∀ W, Below w4.heap.size w4 W → W.heap[w1.heap.size]? = some (.cells (exD (.slice aq 1 cq)).arr 33 (0, 0))) := fun W hW => zero_at HT5.out hW
    clear HPR HBEST HALL9 HALL3 HFIR HT2 HT3 HT4 HOF1 HOF2 c0 c1 c2 c3 c4 c5 c6 c7 c8 c9 c10 c11 c12 HKEEP
    go_upto_region 7 with (fail)
    generalize hW : World.alloc _ _ = W7
    obtain ⟨os, hos⟩ : ∃ os : List Obj, os = [.cells #[.int .i64 0, .int .i64 2] 3, .cells #[.int .i64 0, .int .i64 3] 3, .cells #[.int .i64 1, .int .i64 2] 3, .cells #[.int .i64 1, .int .i64 3] 3,
      .cells #[.slice (some ⟨wc.heap.size, 0, none⟩) 2 2, .slice (some ⟨wc.heap.size + 1, 0, none⟩) 2 2, .slice (some ⟨wc.heap.size + 1 + 1, 0, none⟩) 2 2, .slice (some ⟨wc.heap.size + 1 + 1 + 1, 0, none⟩) 2 2] 26] := ⟨_, rfl⟩
    have hWW : W7 = allocs wc os := by rw [← hW, hos]; rfl
    have hB7 : Below wc.heap.size wc W7 := by rw [hWW]; exact allocs_below os wc
    have hsz7 : W7.heap.size = wc.heap.size + 5 := by rw [hWW, allocs_size, hos]; rfl
    have g0 : W7.heap[wc.heap.size]? = some (.cells #[.int .i64 0, .int .i64 2] 3 (0, 0)) := by rw [hWW]; exact allocs_get os wc 0 _ (by rw [hos]; rfl)
    have g1 : W7.heap[wc.heap.size + 1]? = some (.cells #[.int .i64 0, .int .i64 3] 3 (0, 0)) := by rw [hWW]; exact allocs_get os wc 1 _ (by rw [hos]; rfl)
    have g2 : W7.heap[wc.heap.size + 2]? = some (.cells #[.int .i64 1, .int .i64 2] 3 (0, 0)) := by rw [hWW]; exact allocs_get os wc 2 _ (by rw [hos]; rfl)
    have g3 : W7.heap[wc.heap.size + 3]? = some (.cells #[.int .i64 1, .int .i64 3] 3 (0, 0)) := by rw [hWW]; exact allocs_get os wc 3 _ (by rw [hos]; rfl)
    have g4 := allocs_get os wc 4 _ (by rw [hos]; rfl)
    rw [← hWW] at g4
    clear hW hWW hos
    have two : ∀ (b : Nat) (x y : Int), W7.heap[b]? = some (.cells #[.int .i64 x, .int .i64 y] 3 (0, 0)) → IntsAt W7.heap.size W7 (.slice (some ⟨b, 0, none⟩) 2 2) [x, y] := fun b x y h => by
      refine ⟨_, _, rfl, fun j u hu => ⟨b, 0, rfl, (Array.getElem?_eq_some_iff.1 h).1, ?_⟩⟩
      rw [cell_of_row W7 b _ _ _ _ h, Nat.zero_add, ← hu]
      match j with
      | 0 => rfl
      | 1 => rfl
      | j + 2 => simp
    have hc4 : ∀ o, W7.cell? ⟨wc.heap.size + 4, o, none⟩ = _ := fun o => cell_of_row W7 (wc.heap.size + 4) o _ _ _ g4
    have HW4 : Hid (∀ m, m ≤ 4 → RowsAt W7.heap.size W7 (.slice (some ⟨wc.heap.size + 1 + 1 + 1 + 1, 0, none⟩) m 4) (exL4.take m)) := fun m hm => by
      refine ⟨_, _, by rw [show (exL4.take m).length = m by simp [exL4]; omega], fun j l hl => ?_⟩
      rw [List.getElem?_take] at hl
      split at hl
      · match j, hl with
        | 0, hl => obtain rfl := Option.some.inj hl; exact ⟨_, _, _, rfl, by omega, (hc4 (0 + 0)).trans rfl, two _ _ _ g0⟩
        | 1, hl => obtain rfl := Option.some.inj hl; exact ⟨_, _, _, rfl, by omega, (hc4 (0 + 1)).trans rfl, two _ _ _ g1⟩
        | 2, hl => obtain rfl := Option.some.inj hl; exact ⟨_, _, _, rfl, by omega, (hc4 (0 + 2)).trans rfl, two _ _ _ g2⟩
        | 3, hl => obtain rfl := Option.some.inj hl; exact ⟨_, _, _, rfl, by omega, (hc4 (0 + 3)).trans rfl, two _ _ _ g3⟩
      · cases hl
    have HF0 := Lib.hid (two _ _ _ g0)
    have cw : W7.cell? ⟨wc.heap.size + 1 + 1 + 1 + 1, 0, none⟩ = some (.slice (some ⟨wc.heap.size, 0, none⟩) 2 2) := (hc4 0).trans rfl
    have lw : wc.heap.size + 1 + 1 + 1 + 1 < W7.heap.size := cell_lt cw
    have HB7 : Hid (Below w4.heap.size w4 W7) := HB6.out.trans (hB7.mono HB6.out.size)
    have HC7 : Hid (Cells3 pb W7 (.bool D1) (.string D2) (.string D3)) := zero_at HC3.out hB7
    have HI7 : Hid (IntsAt W7.heap.size W7 u9 [0, 2]) := HI5.out.mono hB7 hB7.size
    clear g0 g1 g2 g3 g4 two hc4 hB7 hsz7 os
    have HKW : Hid (∀ w', Kept W7 w' → Below w4.heap.size w4 w' ∧ Below W7.heap.size W7 w') := fun w' hC => ⟨hC.below HB7.out HB7.out.size, hC.below (Below.refl _ _) (Nat.le_refl _)⟩
    have HCOUNT : Hid (∀ w', Kept W7 w' → Calls Tryd.prog 17 #[.agg #[.string ⟨#[]⟩, .int .i64 3, .int .i64 0, .int .i64 0, .int .i64 0, .int .i64 0, .slice none 0 0, .bool false, .slice none 0 0, .int .i64 0, .int .i64 2, .slice aq 1 cq, .slice none 0 0], .slice al 4 cl] w' fun e w'' => e = .returned (.string (natS 4)) ∧ Below w'.heap.size w' w'') := fun w' hC => by
      have hw := (HKW.out w' hC).1
      have h := qCount_any (exD (.slice aq 1 cq)) (.slice al 4 cl) 4 1 exG exL exH exGs w' (HD.out.later (HB5.out.trans (hw.mono HB5.out.size)))
      rw [ex_pans] at h
      exact h
    have HNAT : Hid (∀ w', Calls Tryd.prog 18 #[.int .i64 4] w' fun e w'' => e = .returned (.string (natS 4)) ∧ Below w'.heap.size w' w'') := fun w' => pOf_any 4 w' (by decide)
    have HSAME1 : Hid (∀ w', Kept W7 w' → Calls Tryd.prog 31 #[v2, .slice (some ⟨wc.heap.size + 1 + 1 + 1 + 1, 0, none⟩) 4 4] w' fun e w'' => e = .returned (.bool true) ∧ Below w'.heap.size w' w'') := fun w' hC => by
      have hw := HKW.out w' hC
      have h := same_any _ _ _ _ w' (HR2''.out.mono hw.1 hw.1.size) ((HW4.out 4 (by decide)).mono hw.2 hw.2.size) (by decide) (by decide)
      rwa [decide_eq_true (by decide)] at h
    have HSAME3 : Hid (∀ w', Kept W7 w' → Calls Tryd.prog 31 #[v3, .slice (some ⟨wc.heap.size + 1 + 1 + 1 + 1, 0, none⟩) 3 4] w' fun e w'' => e = .returned (.bool true) ∧ Below w'.heap.size w' w'') := fun w' hC => by
      have hw := HKW.out w' hC
      have h := same_any _ _ _ _ w' (HR3'.out.mono hw.1 hw.1.size) ((HW4.out 3 (by decide)).mono hw.2 hw.2.size) (by decide) (by decide)
      rwa [decide_eq_true (by decide)] at h
    have HINT1 : Hid (∀ w', Kept W7 w' → Calls Tryd.prog 19 #[v4, .slice (some ⟨wc.heap.size, 0, none⟩) 2 2] w' fun e w'' => e = .returned (.bool true) ∧ Below w'.heap.size w' w'') := fun w' hC => by
      have hw := HKW.out w' hC
      have h := ints_any _ _ _ _ w' (HI4.out.mono hw.1 hw.1.size) (HF0.out.mono hw.2 hw.2.size) (by decide)
      rwa [decide_eq_true (by decide)] at h
    have HINT2 : Hid (∀ w', Kept W7 w' → Calls Tryd.prog 19 #[u9, .slice (some ⟨wc.heap.size, 0, none⟩) 2 2] w' fun e w'' => e = .returned (.bool true) ∧ Below w'.heap.size w' w'') := fun w' hC => by
      have hw := HKW.out w' hC
      have h := ints_any _ _ _ _ w' (HI7.out.mono hw.2 hw.2.size) (HF0.out.mono hw.2 hw.2.size) (by decide)
      rwa [decide_eq_true (by decide)] at h
    have ht7 := HDV.out W7 HB7.out
    unfold exD DrawC.arr at ht7
    dsimp only at ht7
    obtain ⟨c0, c1, c2, c3, c4, c5, c6, c7, c8, c9, c10, c11, c12⟩ := cells13 ht7
    have lt7 := cell_lt c0
    clear ht7
    obtain ⟨r0, r1, r2, _, _, _, rl⟩ := HC7.out.at
    refine wp_region_class (Kept _) (by kernel_rfl) (by kernel_rfl) (Kept.drew _) ?_
    repeat (first
      | go_big_quiet_skip
      | (refine BigFrame.wpQuiet_want (by rfl) (fun K hK => ?_)
         first
           | (refine BigFrame.quiet_move _ rfl ?_; refine hK _ ?_)
           | (refine BigFrame.quiet_assign _ rfl ?_; refine hK _ ?_)
           | (apply Exists.intro; refine ⟨fun w' hC => ?_, hK _ ?_⟩
              · (obtain ⟨hcl, hfr⟩ := bcell hC.1; unfold Oper.quietAt; go_simp; first | rfl | (go_at_call 17; with_reducible refine (HCOUNT.out w' hC).mono ?_; exact fun e w'' ⟨he, hb⟩ => ⟨he, hC.next hb⟩) | (go_at_call 18; with_reducible refine (HNAT.out w').mono ?_; exact fun e w'' ⟨he, hb⟩ => ⟨he, hC.next hb⟩) | (go_at_call 26; with_reducible refine (HOF3.out w').mono ?_; exact fun e w'' ⟨he, hb⟩ => ⟨he, hC.next hb⟩) | (go_at_call 31; (first | (with_reducible refine (HSAME1.out w' hC).mono ?_) | (with_reducible refine (HSAME3.out w' hC).mono ?_)); exact fun e w'' ⟨he, hb⟩ => ⟨he, hC.next hb⟩) | (go_at_call 19; (first | (with_reducible refine (HINT1.out w' hC).mono ?_) | (with_reducible refine (HINT2.out w' hC).mono ?_)); exact fun e w'' ⟨he, hb⟩ => ⟨he, hC.next hb⟩)))
         simp only [Act.put, Act.eval, List.setIfInBounds_toArray, List.set_cons_zero, List.set_cons_succ, Array.getD_eq_getD_getElem?, List.getElem?_toArray, List.getElem?_cons_succ, List.getElem?_cons_zero, Option.getD_some]
         clear hK K))
    refine wpQuiet_nil ?_
    intro wq hCq
    have HB8 : Hid (Below w4.heap.size w4 wq) := hCq.below HB7.out HB7.out.size
    have hs8 := HB8.out.size
    clear hCq c0 c1 c2 c3 c4 c5 c6 c7 c8 c9 c10 c11 c12 lt7 r0 r1 r2 rl cw lw HCOUNT HNAT HSAME1 HSAME3 HINT1 HINT2 HOF3
    have HFEAS : Hid (∀ W pv l, Below w4.heap.size w4 W → IntsAt W.heap.size W pv l → l.length ≤ 1000000 → Calls Tryd.prog 13 #[.agg #[.string ⟨#[]⟩, .int .i64 3, .int .i64 0, .int .i64 0, .int .i64 0, .int .i64 0, .slice none 0 0, .bool false, .slice none 0 0, .int .i64 0, .int .i64 2, .slice aq 1 cq, .slice none 0 0], .slice al 4 cl, pv] W fun e w'' => e = .returned (.bool (isPan exPans l)) ∧ Below W.heap.size W w'') := fun W pv l hW hp hl => by
      have h := qFeas_any (exD (.slice aq 1 cq)) (.slice al 4 cl) pv l 4 1 exG exL exH exGs W (HD.out.later (HB5.out.trans (hW.mono HB5.out.size))) hp hl
      rw [ex_pans] at h
      exact h
    have HLI : Hid (∀ (W : World) (xs : List Int), IntsAt (W.alloc (.cells (xs.map (Value.int .i64)).toArray 3)).heap.size (W.alloc (.cells (xs.map (Value.int .i64)).toArray 3)) (.slice (some ⟨W.heap.size, 0, none⟩) xs.length xs.length) xs) := fun W xs => by
      refine ⟨_, _, rfl, fun j u hu => ⟨W.heap.size, 0, rfl, by simp, ?_⟩⟩
      have h := cells_new W _ 3 j u hu
      rwa [show (⟨W.heap.size, 0, none⟩ : Addr).add j = ⟨W.heap.size, 0 + j, none⟩ by unfold Addr.add; split <;> simp_all] at h
    have HF1 : Hid (∀ W, Below w4.heap.size w4 W → Calls Tryd.prog 13 #[.agg #[.string ⟨#[]⟩, .int .i64 3, .int .i64 0, .int .i64 0, .int .i64 0, .int .i64 0, .slice none 0 0, .bool false, .slice none 0 0, .int .i64 0, .int .i64 2, .slice aq 1 cq, .slice none 0 0], .slice al 4 cl, .slice (some ⟨W.heap.size, 0, none⟩) 2 2] (W.alloc (.cells #[.int .i64 2, .int .i64 0] 3)) fun e w'' => e = .returned (.bool false) ∧ Below (W.alloc (.cells #[.int .i64 2, .int .i64 0] 3)).heap.size (W.alloc (.cells #[.int .i64 2, .int .i64 0] 3)) w'') := fun W hW =>
      HFEAS.out _ _ [2, 0] (hW.alloc hW.size _) (HLI.out W [2, 0]) (by decide)
    have HF2 : Hid (∀ W, Below w4.heap.size w4 W → Calls Tryd.prog 13 #[.agg #[.string ⟨#[]⟩, .int .i64 3, .int .i64 0, .int .i64 0, .int .i64 0, .int .i64 0, .slice none 0 0, .bool false, .slice none 0 0, .int .i64 0, .int .i64 2, .slice aq 1 cq, .slice none 0 0], .slice al 4 cl, .slice (some ⟨W.heap.size, 0, none⟩) 3 3] (W.alloc (.cells #[.int .i64 0, .int .i64 2, .int .i64 3] 3)) fun e w'' => e = .returned (.bool false) ∧ Below (W.alloc (.cells #[.int .i64 0, .int .i64 2, .int .i64 3] 3)).heap.size (W.alloc (.cells #[.int .i64 0, .int .i64 2, .int .i64 3] 3)) w'') := fun W hW =>
      HFEAS.out _ _ [0, 2, 3] (hW.alloc hW.size _) (HLI.out W [0, 2, 3]) (by decide)
    have ht := HDV.out wq HB8.out
    unfold exD DrawC.arr at ht
    dsimp only at ht
    obtain ⟨c0, c1, c2, c3, c4, c5, c6, c7, c8, c9, c10, c11, c12⟩ := cells13 ht
    clear ht
    go_wp2_with fail
    refine (HF1.out _ HB8.out).mono ?_
    rintro e w8 ⟨rfl, hb8⟩
    have HB9 : Hid (Below w4.heap.size w4 w8) := (HB8.out.alloc hs8 _).trans (hb8.mono (by simp; omega))
    clear c0 c1 c2 c3 c4 c5 c6 c7 c8 c9 c10 c11 c12 hb8
    have ht := HDV.out w8 HB9.out
    unfold exD DrawC.arr at ht
    dsimp only at ht
    obtain ⟨c0, c1, c2, c3, c4, c5, c6, c7, c8, c9, c10, c11, c12⟩ := cells13 ht
    clear ht
    go_wp2_with fail
    refine (HF2.out _ HB9.out).mono ?_
    rintro e w9 ⟨rfl, hb9⟩
    have HB10 : Hid (Below w4.heap.size w4 w9) := (HB9.out.alloc HB9.out.size _).trans (hb9.mono (by have := HB9.out.size; simp; omega))
    clear c0 c1 c2 c3 c4 c5 c6 c7 c8 c9 c10 c11 c12 hb9
    have ht := HDV.out w9 HB10.out
    unfold exD DrawC.arr at ht
    dsimp only at ht
    obtain ⟨c0, c1, c2, c3, c4, c5, c6, c7, c8, c9, c10, c11, c12⟩ := cells13 ht
    have HT9 := Lib.hid (HDV.out w9 HB10.out)
    have lt9 := cell_lt c0
    clear ht
    obtain ⟨i0, hi, hz0, hz1, hz2⟩ := info_parts Tryd.infoQuo
    have HB11 : Hid (Below w1.heap.size w1 w9) := HB5.out.trans (HB10.out.mono HB5.out.size)
    go_wp2_with (at_builtin; refine wpList_append_grows _ rfl _ _ 31 rfl 52 i0 _ 3 32 Tryd.underlying31 hi hz0 hz1 hz2 rfl (by decide) aq 1 cq [.string strA, .int .i64 1, .int .i64 1] rfl ?c1 rfl ?c2 ⟨w9.heap.size, 0, none⟩ 1 1 [.string strB, .int .i64 1, .int .i64 2] rfl rfl ?c3 ?c4 ?c5 ?c6 ?c7 ?_)
    case c1 => exact fun h => absurd h HQC.out.2.1
    case c2 => exact HQC.out.2.2 _ (HB11.out.alloc HB11.out.size _)
    case c3 => exact cells_new w9 [.string strB, .int .i64 1, .int .i64 2] _
    case c4 => intro u hu; simp at hu; rcases hu with rfl | rfl | rfl <;> rfl
    case c5 => have := HQC.out.1; omega
    case c6 => unfold maxLen; omega
    case c7 => omega
    intro v' w10 hown hgrow
    obtain ⟨gq, cq2, rfl, _⟩ := owns_form hown
    have hb10 : Below w1.heap.size w1 w10 := (HB11.out.alloc HB11.out.size _).grown hgrow (by have := HB11.out.size; simp; omega) (fun j hj => by cases hj)
    have ht10 : w10.heap[w1.heap.size]? = some (.cells (exD (.slice aq 1 cq)).arr 33 (0, 0)) := (hgrow.block _ (by simp; omega) (by simp)).trans ((Below.heap_alloc _ _ _ lt9).trans HT9.out)
    have lt10 := (Array.getElem?_eq_some_iff.1 ht10).1
    have h10 : (w10.setCell ⟨w1.heap.size, 11, none⟩ (.slice (some ⟨gq, 0, none⟩) 2 cq2)).heap[w1.heap.size]? = some (.cells (exD (.slice (some ⟨gq, 0, none⟩) 2 cq2)).arr 33 (0, 0)) := heap_setCell_same w10 w1.heap.size 11 _ _ _ ht10
    have hown10 : (w10.setCell ⟨w1.heap.size, 11, none⟩ (.slice (some ⟨gq, 0, none⟩) 2 cq2)).ownsRow (w9.heap.size + 1) 52 3 (.slice (some ⟨gq, 0, none⟩) 2 cq2) 2 (quosV [(strA, 1, 1), (strB, 1, 2)]) := by
      have h : w10.ownsRow (w9.heap.size + 1) 52 3 (.slice (some ⟨gq, 0, none⟩) 2 cq2) 2 (quosV [(strA, 1, 1), (strB, 1, 2)]) := by
        exact hown
      exact own_keep h fun b hb => heap_setCell_other _ _ _ _ (by have := (World.ownsRow.lt h b hb).1; show b ≠ w1.heap.size; omega)
    have HB12 : Hid (Below w1.heap.size w1 (w10.setCell ⟨w1.heap.size, 11, none⟩ (.slice (some ⟨gq, 0, none⟩) 2 cq2))) := hb10.setCell (Nat.le_refl _) _
    have f11 := frozen_of_row w10 w1.heap.size 11 _ _ ht10
    have c11 : w10.cell? ⟨w1.heap.size, 11, none⟩ = some (.slice aq 1 cq) := by rw [cell_of_row w10 _ _ _ _ _ ht10]; rfl
    obtain ⟨W10, hW10⟩ : ∃ W10, W10 = w10.setCell ⟨w1.heap.size, 11, none⟩ (.slice (some ⟨gq, 0, none⟩) 2 cq2) := ⟨_, rfl⟩
    rw [← hW10] at h10 hown10 HB12
    have HWE := Lib.hid hW10
    clear hW10 hown hgrow hb10 ht10 c0 c1 c2 c3 c4 c5 c6 c7 c8 c9 c10 c12 HF1 HF2 HFEAS hi hz0 hz1 hz2
    go_upto_region 10 with (fail)
    rw [← HWE.out]
    have HD10 : Hid (∀ W, Below W10.heap.size W10 W → W.heap[w1.heap.size]? = some (.cells (exD (.slice (some ⟨gq, 0, none⟩) 2 cq2)).arr 33 (0, 0))) := fun W hW => zero_at h10 hW
    have HCN : Hid (∀ W, Below W10.heap.size W10 W → Calls Tryd.prog 17 #[.agg #[.string ⟨#[]⟩, .int .i64 3, .int .i64 0, .int .i64 0, .int .i64 0, .int .i64 0, .slice none 0 0, .bool false, .slice none 0 0, .int .i64 0, .int .i64 2, .slice (some ⟨gq, 0, none⟩) 2 cq2, .slice none 0 0], .slice al 4 cl] W fun e w' => e = .returned (.string (natS 3)) ∧ Below W.heap.size W w') := fun W hW => by
      have hB := HB12.out.trans (hW.mono HB12.out.size)
      have hq : QuoAt W10.heap.size W10 (.slice (some ⟨gq, 0, none⟩) 2 cq2) 2 exG exL exH := quos_at hown10 fun i p hp => by
        match i, hp with
        | 0, hp => obtain rfl := Option.some.inj hp; exact ⟨rfl, rfl, rfl⟩
        | 1, hp => obtain rfl := Option.some.inj hp; exact ⟨rfl, rfl, rfl⟩
      have hD : DrawIn W (exD (.slice (some ⟨gq, 0, none⟩) 2 cq2)) (.slice al 4 cl) 4 2 exG exL exH exGs :=
        ⟨⟨rfl, rfl, rfl, rfl, rfl, rfl, rfl, rfl, rfl, rfl⟩, hq.mono hW hW.size, HD.out.ent.mono hB hB.size, HD.out.few⟩
      have h := qCount_any _ _ _ _ _ _ _ _ W hD
      rw [ex_pans2] at h
      exact h
    have HNAT : Hid (∀ w', Calls Tryd.prog 18 #[.int .i64 3] w' fun e w'' => e = .returned (.string (natS 3)) ∧ Below w'.heap.size w' w'') := fun w' => pOf_any 3 w' (by decide)
    have HL : Hid (w1.heap.size < W10.heap.size) := (Array.getElem?_eq_some_iff.1 h10).1
    clear h10 hown10 HWE f11 c11 lt10 lt9
    have ht := HD10.out W10 (Below.refl _ _)
    unfold exD DrawC.arr at ht
    dsimp only at ht
    obtain ⟨c0, c1, c2, c3, c4, c5, c6, c7, c8, c9, c10, c11, c12⟩ := cells13 ht
    clear ht
    have lt10 := HL.out
    have HE : Hid (Below W10.heap.size W10 W10) := Below.refl _ _
    go_wp2_with (first
      | (go_at_call 17; (with_reducible refine (HCN.out _ HE.out).mono ?_); rintro e wz ⟨rfl, hbz⟩; have HE := Lib.hid (HE.out.trans (hbz.mono HE.out.size)); clear hbz)
      | (go_at_call 18; (with_reducible refine (HNAT.out _).mono ?_); rintro e wz ⟨rfl, hbz⟩; have HE := Lib.hid (HE.out.trans (hbz.mono HE.out.size)); clear hbz))
    go_ret
    exact ⟨rfl, HB1.out.trans ((HB12.out.trans (HE.out.mono HB12.out.size)).mono HB1.out.size)⟩

end Go.Proofs.YtebigkjilklodaaDoor

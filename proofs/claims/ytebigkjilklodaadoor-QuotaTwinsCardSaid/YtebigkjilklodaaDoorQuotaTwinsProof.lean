/- For every input the law 'QuotaTwins' returns true, and each argument reads afterwards as it read before: the tied card. No condition beyond what the card ties.
  The frame is that of the kit's worked example of a pinned table (Pinup). -/
import Derived.Test.YtebigkjilklodaaDoorTie
import Derived.Test.YtebigkjilklodaaDoorCards
import Derived.Test.YtebigkjilklodaaDoorSanity15
import Derived.Test.YtebigkjilklodaaDoorTwins
import Derived.Test.YtebigkjilklodaaDoorPlanRow
import Derived.WalkKit
import Derived.ProofKit
import Derived.OpenShut
import Derived.LaidMore
import Derived.Lay
import Derived.SevenTiedAt
import Derived.Stop.Joined
import Derived.Below
import Derived.Deep.Slices
set_option linter.unusedVariables false
set_option linter.unusedSimpArgs false
namespace Go.Proofs.YtebigkjilklodaaDoor.quotaTwins
open Go.ChangeShapes Go.WideShapes Go.ChangeAt Go.RowKit

theorem own : ownKnob Tryd.prog.godebug = none := by kernel_rfl
theorem laidOut : laidOutB Tryd.prog = true := by kernel_rfl
theorem cells3 : Tryd.prog.cellsOf 27 = 3 := by kernel_rfl
theorem cellsP : Tryd.prog.cellsOf 25 = 3 := by kernel_rfl
theorem cells1 : Tryd.prog.cellsOf 5 = 1 := by kernel_rfl
theorem list3 {α : Type} : ∀ (l : List α), l.length = 3 → ∃ a b c, l = [a, b, c]
  | [a, b, c], _ => ⟨a, b, c, rfl⟩

set_option maxRecDepth 100000 in
theorem lifted (os : Os) (started : os.Started) (H : Type) (enc : TypeId × Value → H) :
    ReturnsInHanded {} Tryd.checked os 7 .any (fun w args => (Rows.quotaTwinsSpec.pre enc Tryd.prog Tryd.f7 Rows.quotaTwinsRow.domain false w args ∧ laidMetH Tryd.prog Rows.quotaTwinsRow.laid w) ∧ sizedMet enc Tryd.prog Tryd.f7 (OpenSpec.ofChange Rows.quotaTwinsSpec) false w args)
      (Rows.quotaTwinsSpec.post enc Tryd.prog Tryd.f7 false true false false) := by
  refine returnsInHanded_of_change_and (C := Tryd.checked) (X := fun w _ => laidMetH Tryd.prog Rows.quotaTwinsRow.laid w) (fun _ _ _ hh h => h.of_heap hh) own started (by kernel_rfl) Tryd.func7
    (ChangeSpec.witness_shaped (enc := enc) (C := Tryd.checked) (os := os) (X := fun w _ => laidMetH Tryd.prog Rows.quotaTwinsRow.laid w) false (World.laidAll Tryd.prog os Rows.quotaTwinsRow.laid) #[.agg #[.int .u8 0, .slice none 0 0, .slice none 0 0], .agg #[.int .u8 0, .int .u8 0, .int .u8 0]] 8 (World.laidAll_os _ _ _)
      (World.shaped_of_ZipB (by kernel_rfl) (by kernel_rfl)) (by kernel_rfl) (by kernel_rfl) (by kernel_rfl)
      (by rw [MakeChecks.laidMetH_plain _ _ _ (by kernel_rfl)]; exact laidMet_laidAll _ (by kernel_rfl) (by kernel_rfl))) ?_
  intro W base args ds gs before hval0 hW _ _ _ _
  have hval : ∀ (j : Nat) t v, Tryd.f7.params[j]? = some t → args[j]? = some v → Value.okWide Tryd.prog W .any base t v := hval0
  have hW' := hW
  obtain ⟨p, q, hA0, hV, rfl, hfz, hnd⟩ := hW
  have hA : DataW.TrodAll enc Tryd.prog W 0 (fun _ => true) true Tryd.f7.params.toList args.toList ds p := hA0
  rw [Tryd.params7] at hA hval
  obtain ⟨v0, vs0, d0, ds0, p0, q0, hargs, rfl, rfl, h0, r0⟩ := trodAll_cons hA
  obtain ⟨v1, vs1, d1, ds1, p1, q1, rfl, rfl, rfl, h1, r1⟩ := trodAll_cons r0
  obtain ⟨rfl, rfl, rfl⟩ := trodAll_nil r1
  obtain rfl : args = #[v0, v1] := by cases args; simp_all
  obtain ⟨rfl, rfl⟩ := trodVars_none hV
  obtain ⟨cs0, rfl, hsz0, _⟩ : ∃ cs, v0 = .agg cs ∧ cs.size = Tryd.prog.cellsOf 25 ∧ Row.okWide Tryd.prog W .any base 25 cs := by
    have := hval 0 25 v0 rfl rfl
    simpa [Value.okWide, Tryd.underlying25] using this
  rw [cellsP] at hsz0
  obtain ⟨l0⟩ := cs0
  have k0 := h0
  have lt0 : ∀ x ∈ p0, x.block < W.heap.size := by obtain ⟨m, hm⟩ := k0; exact DataW.trod_lt m _ _ _ hm
  obtain ⟨fuel0, hf0⟩ := h0
  obtain ⟨sz0, qv0, ev0, QL0, EL0, e0, ls0, lq0, le0, oq0, oe0, mq0, me0⟩ := plan_trod (by simpa [Value.cells] using hsz0) hf0
  obtain rfl : l0 = [.int .u8 (sz0 : Int), qv0, ev0] := by simpa [Value.cells] using e0
  obtain ⟨cs1, rfl, hsz1, _⟩ : ∃ cs, v1 = .agg cs ∧ cs.size = Tryd.prog.cellsOf 27 ∧ Row.okWide Tryd.prog W .any base 27 cs := by
    have := hval 1 27 v1 rfl rfl
    simpa [Value.okWide, Tryd.underlying27] using this
  rw [cells3] at hsz1
  obtain ⟨l1⟩ := cs1
  have k1 := h1
  have lt1 : ∀ x ∈ p1, x.block < W.heap.size := by obtain ⟨m, hm⟩ := k1; exact DataW.trod_lt m _ _ _ hm
  obtain ⟨fuel1, hf1⟩ := h1
  obtain ⟨c10, c11, c12, rfl⟩ := list3 l1 hsz1
  obtain ⟨xs1, m1, _, _, _, hxl1, hxs1⟩ := DataW.trod_array Tryd.underlying27 hf1
  have g10 := hxs1 0 (by omega)
  have g11 := hxs1 1 (by omega)
  have g12 := hxs1 2 (by omega)
  rw [cells1, List.getElem?_eq_getElem (by omega)] at g10 g11 g12
  obtain ⟨n10, e10, _, f10⟩ := DataW.trod_int Tryd.underlying5 g10
  obtain ⟨n11, e11, _, f11⟩ := DataW.trod_int Tryd.underlying5 g11
  obtain ⟨n12, e12, _, f12⟩ := DataW.trod_int Tryd.underlying5 g12
  simp [Value.cells] at e10 e11 e12
  subst e10 e11 e12
  clear hA0 hval0
  refine (twins_any sz0 qv0 ev0 QL0 EL0 n10 n11 n12 W ls0 lq0 le0 oq0 oe0 (wf_u8 f10) (wf_u8 f11) (wf_u8 f12) sanity_any).mono fun e W' ⟨he, bel⟩ => ?_
  subst he
  exact ⟨_, rfl, _, _, _, [], _, [], hW', trodAll_mk1 (shut_bool Tryd.underlying4 _), (trodAll_cons_mk (Below.trod laidOut (by kernel_rfl) (of_decide_eq_true (by kernel_rfl)) k0 bel lt0) (trodAll_cons_mk (Below.trod laidOut (by kernel_rfl) (of_decide_eq_true (by kernel_rfl)) k1 bel lt1) trodAll_mk0)), rfl, bel.frame _, fun h => by cases h⟩

theorem over : Rows.QuotaTwinsSaid :=
  OpenClaim.holds_of_wide 7 Tryd.f7 rfl rfl rfl rfl rfl rfl rfl ⟨rfl, rfl, rfl, rfl, rfl⟩ rfl rfl rfl rfl rfl (by kernel_rfl) Tryd.func7 (by kernel_rfl)
    (of_decide_eq_true (by kernel_rfl)) (by unfold Func.isWrapper; first | (rw [if_pos (by decide +kernel)]; kernel_rfl) | (rw [if_neg (by decide +kernel)]; exact ⟨rfl, rfl⟩))
    (fun os started H enc _ => lifted os started H enc)

/-- The statement: the tied card. -/
theorem proved : Rows.QuotaTwinsCardSaid :=
  Claim7.holds_tied_plain_at .later [] [.data, .pinned] true (true, "c7bf1e781a989d28fcb606c9029abc287173c977719864f747f93ede8cd2e8e8") false over (fun _ h => by cases h) (by kernel_rfl) (fun _ h => by cases h) quotaTwins_row_tie rfl ⟨rfl, rfl⟩ (by kernel_rfl) rfl
    (fun f fn hf hfn => by
      obtain rfl : f = 7 := Option.some.inj ((show Tryd.prog.funcNamed "sortes/sorteslaw15.QuotaTwins" = some 7 by kernel_rfl).symm.trans hf) |>.symm
      obtain rfl : fn = Tryd.f7 := (Option.some.inj (Tryd.func7.symm.trans hfn)).symm
      exact ⟨by kernel_rfl, fun j t ht => by
        rw [Tryd.params7] at ht
        have hm : t ∈ [25, 27] := by simpa using Array.mem_of_getElem? ht
        have hall : ([25, 27].all fun u => !Tryd.prog.wantsStandIn u) = true := by kernel_rfl
        exact (show Tryd.prog.wantsStandIn t = false by simpa using List.all_eq_true.1 hall t hm)⟩)
    (by kernel_rfl)
end Go.Proofs.YtebigkjilklodaaDoor.quotaTwins

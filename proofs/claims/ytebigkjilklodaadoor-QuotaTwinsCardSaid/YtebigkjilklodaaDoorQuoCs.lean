/- The program's panels: add. -/
import Derived.Deep.LoopGhost
import Derived.Deep.Cut
import Derived.Test.YtebigkjilklodaaDoorQuoMs
import Derived.Test.YtebigkjilklodaaDoorRegs
import Derived.Test.YtebigkjilklodaaDoorOwns
import Derived.Test.YtebigkjilklodaaDoorNats
set_option linter.unusedVariables false
set_option linter.unusedSimpArgs false
namespace Go.Proofs.YtebigkjilklodaaDoor
open Go.RowKit

/-- An entrant is passed over. -/
theorem qadd_no (x : DrawC) (ins : Value) (i mem : Nat) (c : Nat → Nat) (w : World) (hi : i < 1000000) :
    Calls Tryd.prog 36 #[.agg (tabA x ins), .agg (stA i mem c), .bool false] w fun e w' => e = .returned (.tuple #[.agg (stA (i + 1) mem c), .bool true]) ∧ Below w.heap.size w w' := by
  have e1 : IntKind.i64.wrap ((i : Int) + 1) = ((i + 1 : Nat) : Int) := IntWalk.i64_in _ (by omega)
  have E1 := Lib.hid e1
  obtain ⟨a0, a2, a3, a4, a5, a6, a7, a8, a9, a12, kind, size, qs⟩ := x
  unfold tabA stA
  dsimp only
  go_enter Tryd.func36, Tryd.ntmps36
  go_wp2_with fail
  have hcast : ((i + 1 : Nat) : Int) = (i : Int) + 1 := by omega
  exact bodyPost_ret (v := .tuple #[.agg #[.int .i64 ((i : Int) + 1), .int .i64 mem, .int .i64 (c 0), .int .i64 (c 1), .int .i64 (c 2), .int .i64 (c 3), .int .i64 (c 4), .int .i64 (c 5), .int .i64 (c 6), .int .i64 (c 7), .int .i64 (c 8), .int .i64 (c 9), .int .i64 (c 10), .int .i64 (c 11)], .bool true])
    (by simp [results, Tryd.results36, go_sem]) rfl ⟨by rw [hcast], ((((Below.refl _ _).alloc (Nat.le_refl _) _).alloc (by simp) _).alloc (by simp; omega) _)⟩

theorem may_false {d : PD} {i mem k : Nat} {c : Nat → Nat} (hk : k < d.m) (hr : d.row i k = true) (hh : d.high k < (c k : Int) + 1) : d.may i mem c = false := by
  cases h : d.may i mem c
  · rfl
  · exfalso
    unfold PD.may at h
    simp only [Bool.and_eq_true, List.all_eq_true, List.mem_range, Bool.or_eq_true, Bool.not_eq_true', decide_eq_true_eq] at h
    have := h.1 k hk
    rw [hr] at this
    rcases this with h1 | h1
    · cases h1
    · omega

theorem may_last {d : PD} {i mem : Nat} {c : Nat → Nat} (h : ∀ j, j < d.m → d.row i j = true → ((c j + 1 : Nat) : Int) ≤ d.high j) : d.may i mem c = decide ((mem : Int) + 1 ≤ d.size) := by
  unfold PD.may
  rw [show ((mem + 1 : Nat) : Int) = (mem : Int) + 1 by omega]
  have : (List.range d.m).all (fun k => !d.row i k || decide (((c k + 1 : Nat) : Int) ≤ d.high k)) = true := by
    rw [List.all_eq_true]
    intro j hj
    rw [List.mem_range] at hj
    cases hr : d.row i j
    · rfl
    · simpa using h j hj hr
  rw [this, Bool.true_and]

/-- What taking an entrant returns. -/
def AddEnd (d : PD) (i mem : Nat) (c : Nat → Nat) (w : World) (e : Ending) (w' : World) : Prop :=
  (∃ c', e = .returned (.tuple #[.agg (stA (i + 1) (mem + 1) c'), .bool (d.may i mem c)]) ∧ (d.may i mem c = true → ∀ k, c' k = d.up i c k)) ∧ Below w.heap.size w w'

set_option maxHeartbeats 1000000 in
set_option maxRecDepth 100000 in
/-- An entrant is taken. -/
theorem qadd_yes (B n : Nat) (x : DrawC) (ins : Value) (d : PD) (i mem : Nat) (c : Nat → Nat) (w : World) (hB : B ≤ w.heap.size) (ht : TabAt B w x ins d n) (hi : i < n) (hi2 : i < 1000000) (hm : mem < 1000000) (hc : ∀ k, c k < 1000000) :
    Calls Tryd.prog 36 #[.agg (tabA x ins), .agg (stA i mem c), .bool true] w (AddEnd d i mem c w) := by
  have e1 : IntKind.i64.wrap ((i : Int) + 1) = (i : Int) + 1 := IntWalk.i64_in _ (by omega)
  have e2 : IntKind.i64.wrap ((mem : Int) + 1) = (mem : Int) + 1 := IntWalk.i64_in _ (by omega)
  obtain ⟨hsz, hfew, hbey, ⟨g, hq⟩, hin⟩ := ht
  have HBEY := Lib.hid (hbey i)
  clear hbey
  obtain ⟨ao, cap, rfl, hrows⟩ := hin
  obtain ⟨b, off, ri, ci, rfl, hbB, hrow, hcells⟩ := hrows i hi
  obtain ⟨aq, capq, hqs, hqc⟩ := hq
  obtain ⟨a0, a2, a3, a4, a5, a6, a7, a8, a9, a12, kind, size, qs⟩ := x
  dsimp only at hsz hqs
  subst hsz hqs
  have HQ := Lib.hid hqc
  have HR := Lib.hid hcells
  clear hqc hcells hrows
  unfold tabA stA
  dsimp only
  go_enter Tryd.func36, Tryd.ntmps36
  go_upto_if 18 with fail
  generalize hW0 : World.alloc _ _ = W0
  obtain ⟨hT', hS', hZ', hK0, hs0⟩ := alloc3 _ _ _ _ _ _ _ hW0
  have hT : TabC w.heap.size W0 ⟨a0, a2, a3, a4, a5, a6, a7, a8, a9, a12, kind, d.size, .slice aq d.m capq⟩ (.slice (some ⟨b, off, none⟩) n cap) := hT'
  have hS : StAt (w.heap.size + 1) W0 (i + 1) mem c := hS'
  have hZ : StAt (w.heap.size + 1 + 1) W0 0 0 (fun _ => 0) := hZ'
  clear hT' hS' hZ' hs0
  have hr0 := (hK0.cell (p := ⟨b, off + i, none⟩) (by show b < _; omega)).trans hrow
  clear hW0
  have m0 := hS.mem
  have f0 := hS.frozen 1
  obtain ⟨t10, t11, t13⟩ := hT.at
  go_wp2_with fail
  generalize hW1 : World.setCell _ _ _ = W1
  have hS1 : StAt (w.heap.size + 1) W1 (i + 1) (mem + 1) c := by rw [← hW1]; exact hS.setMem (mem + 1)
  have hK1 : Below (w.heap.size + 1) W0 W1 := by rw [← hW1]; exact (Below.refl _ _).setCell (p := ⟨w.heap.size + 1, 1, none⟩) (Nat.le_refl _) _
  have hZ1 : StAt (w.heap.size + 1 + 1) W1 0 0 (fun _ => 0) := by rw [← hW1]; exact hZ.other _ _ (by simp)
  have hT1 := hT.later hK1 (by omega)
  clear hW1 hS hZ hT m0 f0 t10 t11 t13 hr0 e1 e2
  have HI := Lib.hid (hK0.trans (hK1.mono (by omega)))
  clear hK0 hK1
  obtain ⟨hl, hl2⟩ := And.intro hS1.lt hZ1.lt
  go_loopw [30] (fun v wr => ∃ k : Nat, k ≤ d.m ∧ v = .int .i64 k ∧ ∃ c' : Nat → Nat, Hid (StAt (w.heap.size + 1) wr (i + 1) (mem + 1) c') ∧ Hid (∀ j, c' j = if j < k then d.up i c j else c j) ∧ Hid (∀ j, j < k → d.row i j = true → ((c j + 1 : Nat) : Int) ≤ d.high j) ∧ Hid (Below (w.heap.size + 1) W1 wr) ∧ Hid (StAt (w.heap.size + 1 + 1) wr 0 0 (fun _ => 0))) (fun v _ => d.m - (intOf v).toNat)
  case atStart => exact ⟨0, Nat.zero_le _, rfl, c, hS1, fun j => by simp, fun j h => absurd h (by omega), Below.refl _ _, hZ1⟩
  case round =>
    obtain ⟨k, hk, rfl, c', hS2, hcc, hok, hKr, hZ2⟩ := hrel
    by_cases hlt : k < d.m
    · have hlz : (k : Int) < d.m := by omega
      have hk12 : (k : Int) < 12 := by omega
      obtain ⟨b2, o2, rfl, hb2, g2⟩ := HR.out k hlt
      have hcell := (hKr.out.cell (p := ⟨b2, o2 + k, none⟩) (by show b2 < _; omega)).trans ((HI.out.cell (p := ⟨b2, o2 + k, none⟩) (by show b2 < w.heap.size; omega)).trans g2)
      clear g2
      have hck : c' k = c k := by have := hcc.out k; rwa [if_neg (by omega)] at this
      cases hrow2 : d.row i k
      · rw [hrow2] at hcell
        have HROW := Lib.hid hrow2
        clear hrow2 hck
        go_wp2
        go_roundw
        case rel =>
          refine ⟨k + 1, by omega, by go_num, c', hS2, fun j => ?_, fun j hj hr => ?_, hKr, hZ2⟩
          · rw [hcc.out j]
            by_cases e : j = k
            · subst e
              rw [if_neg (by omega), if_pos (by omega)]
              show _ = c j + if d.row i j then 1 else 0
              rw [HROW.out, if_neg (by decide)]; rfl
            · by_cases e2 : j < k
              · rw [if_pos e2, if_pos (by omega)]
              · rw [if_neg e2, if_neg (by omega)]
          · by_cases e : j = k
            · subst e; rw [HROW.out] at hr; cases hr
            · exact hok.out j (by omega) hr
        case measure => simp [intOf]; omega
      · rw [hrow2] at hcell
        have HROW := Lib.hid hrow2
        have hc1 := hS2.out.cnt (k := k) (by omega)
        rw [hck] at hc1
        have hf := hS2.out.frozen (2 + k)
        have hckl := hc k
        have ew : IntKind.i64.wrap ((c k : Int) + 1) = (c k : Int) + 1 := IntWalk.i64_in _ (by omega)
        obtain ⟨W3, hW3⟩ : ∃ W3, W3 = wr.setCell ⟨w.heap.size + 1, 2 + k, none⟩ (.int .i64 ((c k : Int) + 1)) := ⟨_, rfl⟩
        obtain ⟨c2, hc2⟩ : ∃ c2 : Nat → Nat, c2 = fun j => if j = k then c k + 1 else c' j := ⟨_, rfl⟩
        have hS3 : StAt (w.heap.size + 1) W3 (i + 1) (mem + 1) c2 := by rw [hW3, hc2]; exact hS2.out.setCnt (by omega) (c k + 1)
        have HC2 : Hid (∀ j, c2 j = if j = k then c k + 1 else c' j) := fun j => by rw [hc2]
        have hc2k : c2 k = c k + 1 := by rw [hc2]; exact if_pos rfl
        clear hc2
        have hK3 : Below (w.heap.size + 1) W1 W3 := by rw [hW3]; exact hKr.out.setCell (p := ⟨w.heap.size + 1, _, none⟩) (Nat.le_refl _) _
        have hZ3 : StAt (w.heap.size + 1 + 1) W3 0 0 (fun _ => 0) := by rw [hW3]; exact hZ2.out.other _ _ (by simp)
        clear hrow2
        go_wp2_with fail
        rw [← hW3]
        have hck1 : W3.cell? ⟨w.heap.size + 1, 2 + k, none⟩ = some (.int .i64 ((c k : Int) + 1)) := by
          have := hS3.cnt (k := k) (by omega)
          rw [hc2k] at this
          exact this
        clear hc2k
        obtain ⟨bq, oq, rfl, hbq, _, _, q2⟩ := HQ.out k hlt
        have hkq := (hK3.cell (p := ⟨bq, oq + (k * 3 + 2), none⟩) (by show bq < _; omega)).trans ((HI.out.cell (p := ⟨bq, oq + (k * 3 + 2), none⟩) (by show bq < w.heap.size; omega)).trans q2)
        have hkq' : W3.cell? ⟨bq, oq + k * 3 + 2, none⟩ = some (.int .i64 (d.high k)) := by rw [Nat.add_assoc]; exact hkq
        have hT3 := hT1.later hK3 (by omega)
        obtain ⟨t10, t11, t13⟩ := hT3.at
        dsimp only at t10 t11 t13
        have hlt3 := hS3.lt
        have hlt4 := hT3.lt
        have hlt5 := cell_lt hkq
        have HP := Lib.hid (And.intro hS3 (And.intro hK3 hZ3))
        clear hW3 hc1 hf ew hcell hck q2 hS3 hK3 hZ3 hT3 hS2 hKr hZ2
        refine wp_region_class (Kept _) (by kernel_rfl) (by kernel_rfl) (Kept.drew _) ?_
        repeat (first
          | go_big_quiet_skip
          | (refine BigFrame.wpQuiet_want (by rfl) (fun K hK => ?_)
             first
               | (refine BigFrame.quiet_move _ rfl ?_; refine hK _ ?_)
               | (refine BigFrame.quiet_assign _ rfl ?_; refine hK _ ?_)
               | (apply Exists.intro; refine ⟨fun w' hC => ?_, hK _ ?_⟩
                  · (obtain ⟨hcl, hfr⟩ := bcell hC.1; unfold Oper.quietAt; go_simp; first | rfl | fail))
             simp only [Act.put, Act.eval, List.setIfInBounds_toArray, List.set_cons_zero, List.set_cons_succ, Array.getD_eq_getD_getElem?, List.getElem?_toArray, List.getElem?_cons_succ, List.getElem?_cons_zero, Option.getD_some]
             clear hK K))
        refine wpQuiet_nil ?_
        intro wq hCq
        have hS4 := HP.out.1.later hCq.1 hlt3
        have hK4 := (HP.out.2.1).trans (hCq.1.mono (by omega))
        have hZ4 := HP.out.2.2.later hCq.1 HP.out.2.2.lt
        clear hCq HP hck1 hkq hkq' t10 t11 t13 hlt3 hlt4 hlt5
        by_cases hhi : d.high k < (c k : Int) + 1
        · have HMAY : Hid (d.may i mem c = false) := may_false hlt HROW.out hhi
          obtain ⟨n0, n1, n2, n3, n4, n5, n6, n7, n8, n9, n10, n11, n12, n13⟩ := hS4.all
          obtain ⟨z0, z1, z2, z3, z4, z5, z6, z7, z8, z9, z10, z11, z12, z13⟩ := hZ4.all
          obtain ⟨f0, f1, f2, f3, f4, f5, f6, f7, f8, f9, f10, f11, f12, f13⟩ := hZ4.frozens
          have hlt6 := hZ4.lt
          have HK := Lib.hid (HI.out.trans (hK4.mono (Nat.le_succ _)))
          have HC := Lib.hid (hS4)
          have HZ := Lib.hid hZ4
          clear hS4 hZ4 hK4
          go_wp2
          generalize hWE : World.setCell _ _ _ = WE
          have hE : StAt (w.heap.size + 1 + 1) WE (i + 1) (mem + 1) c2 := by rw [← hWE]; exact stSet_at (n' := .int .i64 ((i : Int) + 1)) (m' := .int .i64 ((mem : Int) + 1)) (c' := fun j => .int .i64 (c2 j : Int)) HZ.out
          have hKE : Below w.heap.size w WE := by rw [← hWE]; exact stSet_below (b := w.heap.size + 1 + 1) HK.out (by omega) (.int .i64 ((i : Int) + 1)) (.int .i64 ((mem : Int) + 1)) (fun j => .int .i64 (c2 j : Int))
          clear hWE HZ HC HK
          obtain ⟨z0, z1, z2, z3, z4, z5, z6, z7, z8, z9, z10, z11, z12, z13⟩ := hE.all
          exact bodyPost_ret (v := .tuple #[.agg (stA (i + 1) (mem + 1) c2), .bool false])
            (by simp [results, Tryd.results36, go_sem, stA, z0, z1, z2, z3, z4, z5, z6, z7, z8, z9, z10, z11, z12, z13]) rfl ⟨⟨_, by rw [HMAY.out], fun h => by rw [HMAY.out] at h; cases h⟩, hKE⟩
        · have hhi2 : (c k : Int) + 1 ≤ d.high k := by omega
          have HS4 := Lib.hid hS4
          have HK4 := Lib.hid hK4
          have HZ4 := Lib.hid hZ4
          have HHI := Lib.hid hhi2
          clear hS4 hZ4 hK4
          go_wp2
          go_roundw
          case rel =>
            refine ⟨k + 1, by omega, by go_num, _, HS4, fun j => ?_, fun j hj hr => ?_, HK4, HZ4⟩
            · by_cases e : j = k
              · subst e
                rw [HC2.out, if_pos rfl, if_pos (by omega)]
                show _ = c j + if d.row i j then 1 else 0
                rw [HROW.out, if_pos rfl]
              · rw [HC2.out, if_neg e, hcc.out j]
                by_cases e2 : j < k
                · rw [if_pos e2, if_pos (by omega)]
                · rw [if_neg e2, if_neg (by omega)]
            · by_cases e : j = k
              · subst e; exact HHI.out
              · exact hok.out j (by omega) hr
          case measure => simp [intOf]; omega
    · obtain rfl : k = d.m := by omega
      have HMAY : Hid (d.may i mem c = decide ((mem : Int) + 1 ≤ d.size)) := may_last hok.out
      have HUP : Hid (∀ j, c' j = d.up i c j) := fun j => by
        rw [hcc.out j]
        by_cases e : j < d.m
        · rw [if_pos e]
        · rw [if_neg e]
          show _ = c j + if d.row i j then 1 else 0
          rw [HBEY.out j (by omega)]; rfl
      have hK4 := hKr.out
      obtain ⟨n0, n1, n2, n3, n4, n5, n6, n7, n8, n9, n10, n11, n12, n13⟩ := hS2.out.all
      have hT3 := hT1.later hK4 (by omega)
      obtain ⟨t10, t11, t13⟩ := hT3.at
      dsimp only at t10 t11 t13
      have hlt3 := hS2.out.lt
      have hlt4 := hT3.lt
      have HP := Lib.hid hZ2.out
      have HK4 := Lib.hid (HI.out.trans (hK4.mono (Nat.le_succ _)))
      obtain ⟨mq, hmq⟩ : ∃ mq, mq = decide ((mem : Int) + 1 ≤ d.size) := ⟨_, rfl⟩
      rw [← hmq] at HMAY
      have HMQ := Lib.hid hmq
      clear hT3 hK4 hcc hok hmq
      go_wp2_with fail
      refine wp_region_early (EarlyC (w.heap.size + 1 + 1) wr (fun w' => StAt (w.heap.size + 1 + 1) w' 0 0 (fun _ => 0)) (fun w' => StAt (w.heap.size + 1 + 1) w' (i + 1) (mem + 1) c')) 7 (by kernel_rfl) (by kernel_rfl) (by decide) ⟨(Drew.drew (Drew.refl _)).below _, HP.out⟩ ?_
      iterate 7
        (apply quiet2_read
         · decide
         · rfl
         · (intro b w' hC; obtain ⟨hcl, hfr⟩ := bcell hC.1; unfold upon2; go_simp; first | rfl | exact ⟨rfl, hC⟩)
         simp only [Act.put, Act.eval, List.setIfInBounds_toArray, List.set_cons_zero, List.set_cons_succ, Array.getD_eq_getD_getElem?, List.getElem?_toArray, List.getElem?_cons_succ, List.getElem?_cons_zero, Option.getD_some])
      apply quiet2_write
      · rfl
      · intro w' hC
        have hz : StAt (w.heap.size + 1 + 1) w' 0 0 (fun _ => 0) := hC.2
        have HZ := Lib.hid hz
        have HC := Lib.hid hC.1
        obtain ⟨f0, f1, f2, f3, f4, f5, f6, f7, f8, f9, f10, f11, f12, f13⟩ := hz.frozens
        obtain ⟨z0, z1, z2, z3, z4, z5, z6, z7, z8, z9, z10, z11, z12, z13⟩ := hz.all
        have hlt6 := hz.lt
        clear hz hC
        unfold upon2
        go_simp
        exact ⟨rfl, stSet_below (b := w.heap.size + 1 + 1) HC.out (Nat.le_refl _) (.int .i64 ((i : Int) + 1)) (.int .i64 ((mem : Int) + 1)) (fun j => .int .i64 (c' j : Int)), stSet_at (n' := .int .i64 ((i : Int) + 1)) (m' := .int .i64 ((mem : Int) + 1)) (c' := fun j => .int .i64 (c' j : Int)) HZ.out⟩
      simp only [Act.put, Act.eval, List.setIfInBounds_toArray, List.set_cons_zero, List.set_cons_succ, Array.getD_eq_getD_getElem?, List.getElem?_toArray, List.getElem?_cons_succ, List.getElem?_cons_zero, Option.getD_some]
      (apply quiet2_read
       · decide
       · rfl
       · (intro b w' hC; obtain ⟨hcl, hfr⟩ := bcell hC.1; unfold upon2; go_simp; first | rfl | exact ⟨rfl, hC⟩)
       simp only [Act.put, Act.eval, List.setIfInBounds_toArray, List.set_cons_zero, List.set_cons_succ, Array.getD_eq_getD_getElem?, List.getElem?_toArray, List.getElem?_cons_succ, List.getElem?_cons_zero, Option.getD_some])
      intro wq hCq
      have hE : StAt (w.heap.size + 1 + 1) wq (i + 1) (mem + 1) c' := hCq.2
      have hKE : Below w.heap.size w wq := HK4.out.trans (hCq.1.mono (by omega))
      rw [← HMQ.out]
      clear hCq HK4 HMQ n0 n1 n2 n3 n4 n5 n6 n7 n8 n9 n10 n11 n12 n13 t10 t11 t13
      obtain ⟨z0, z1, z2, z3, z4, z5, z6, z7, z8, z9, z10, z11, z12, z13⟩ := hE.all
      go_wp2_with fail
      exact bodyPost_ret (v := .tuple #[.agg (stA (i + 1) (mem + 1) c'), .bool mq])
        (by simp [results, Tryd.results36, go_sem, stA, z0, z1, z2, z3, z4, z5, z6, z7, z8, z9, z10, z11, z12, z13]) rfl ⟨⟨_, by rw [HMAY.out], fun _ => HUP.out⟩, hKE⟩

end Go.Proofs.YtebigkjilklodaaDoor

/- The program's panels: done, choices. -/
namespace Go.Proofs.YtebigkjilklodaaDoor
open Go.RowKit

theorem fits_nil (d : PD) (mem : Nat) (c : Nat → Nat) : d.fits mem c [] = (decide ((mem : Int) = d.size) && (List.range d.m).all fun k => decide (d.low k ≤ (c k : Int)) && decide ((c k : Int) ≤ d.high k)) := rfl
theorem fits_bad {d : PD} {mem k : Nat} {c : Nat → Nat} (hk : k < d.m) (h : (c k : Int) < d.low k ∨ d.high k < (c k : Int)) : d.fits mem c [] = false := by
  rw [fits_nil]
  cases hh : (List.range d.m).all fun k => decide (d.low k ≤ (c k : Int)) && decide ((c k : Int) ≤ d.high k)
  · rw [Bool.and_false]
  · exfalso
    rw [List.all_eq_true] at hh
    have := hh k (List.mem_range.2 hk)
    simp only [Bool.and_eq_true, decide_eq_true_eq] at this
    omega
theorem fits_good {d : PD} {mem : Nat} {c : Nat → Nat} (hm : (mem : Int) = d.size) (h : ∀ k, k < d.m → d.low k ≤ (c k : Int) ∧ (c k : Int) ≤ d.high k) : d.fits mem c [] = true := by
  rw [fits_nil, decide_eq_true hm, Bool.true_and, List.all_eq_true]
  intro k hk
  have := h k (List.mem_range.1 hk)
  simp only [Bool.and_eq_true, decide_eq_true_eq]
  exact this

/-- Two new blocks. -/
theorem alloc2 (w : World) (A1 A2 : Array Value) (t1 t2 : TypeId) {W : World} (h : (w.alloc (.cells A1 t1)).alloc (.cells A2 t2) = W) :
    W.heap[w.heap.size]? = some (.cells A1 t1 (0, 0)) ∧ W.heap[w.heap.size + 1]? = some (.cells A2 t2 (0, 0)) ∧ Below w.heap.size w W ∧ W.heap.size = w.heap.size + 1 + 1 := by
  subst h
  have h1 := heap_alloc_new w (.cells A1 t1)
  have h2 := heap_alloc_new (w.alloc (.cells A1 t1)) (.cells A2 t2)
  rw [World.size_alloc] at h2
  refine ⟨?_, h2, ((Below.refl _ _).alloc (Nat.le_refl _) _).alloc (by simp) _, by simp⟩
  rw [Below.heap_alloc _ _ _ (by simp)]; exact h1

set_option maxHeartbeats 1000000 in
set_option maxRecDepth 100000 in
/-- A state in which all were decided. -/
theorem qdone_any (B n : Nat) (x : DrawC) (ins : Value) (d : PD) (i mem : Nat) (c : Nat → Nat) (w : World) (hB : B ≤ w.heap.size) (ht : TabAt B w x ins d n) :
    Calls Tryd.prog 37 #[.agg (tabA x ins), .agg (stA i mem c)] w fun e w' => e = .returned (.bool (d.fits mem c [])) ∧ Below w.heap.size w w' := by
  obtain ⟨hsz, hfew, hbey, ⟨g, hq⟩, hin⟩ := ht
  clear hbey hin
  obtain ⟨aq, capq, hqs, hqc⟩ := hq
  obtain ⟨a0, a2, a3, a4, a5, a6, a7, a8, a9, a12, kind, size, qs⟩ := x
  dsimp only at hsz hqs
  subst hqs
  have HQ := Lib.hid hqc
  clear hqc
  by_cases hmem : (mem : Int) = d.size
  · have HF := Lib.hid (fun k hk h => fits_bad (d := d) (mem := mem) (c := c) (k := k) hk h)
    have HT := Lib.hid (fun h => fits_good (d := d) (mem := mem) (c := c) hmem h)
    obtain rfl : size = (mem : Int) := hsz.trans hmem.symm
    clear hsz hmem
    unfold tabA stA
    dsimp only
    go_enter Tryd.func37, Tryd.ntmps37
    go_upto_if 12 with fail
    generalize hW0 : World.alloc _ _ = W0
    obtain ⟨hT', hS', hK0, hs0⟩ := alloc2 _ _ _ _ _ hW0
    have hT : TabC w.heap.size W0 ⟨a0, a2, a3, a4, a5, a6, a7, a8, a9, a12, kind, mem, .slice aq d.m capq⟩ ins := hT'
    have hS : StAt (w.heap.size + 1) W0 i mem c := hS'
    clear hT' hS' hW0
    obtain ⟨t10, t11, t13⟩ := hT.at
    dsimp only at t10 t11 t13
    go_wp2_with fail
    have HS := Lib.hid hS
    have HK := Lib.hid hK0
    have hl2 := hS.lt
    clear hS hT t10 t11 t13 hK0 hs0
    go_loopw [17] (fun v wr => ∃ k : Nat, k ≤ d.m ∧ v = .int .i64 k ∧ Hid (Below (w.heap.size + 1 + 1) W0 wr) ∧ Hid (∀ j, j < k → d.low j ≤ (c j : Int) ∧ (c j : Int) ≤ d.high j)) (fun v _ => d.m - (intOf v).toNat)
    case atStart => exact ⟨0, Nat.zero_le _, rfl, Below.refl _ _, fun j h => absurd h (by omega)⟩
    case round =>
      obtain ⟨k, hk, rfl, hKr, hok⟩ := hrel
      by_cases hlt : k < d.m
      · have hlz : (k : Int) < d.m := by omega
        have hk12 : (k : Int) < 12 := by omega
        obtain ⟨bq, oq, rfl, hbq, q0, q1, q2⟩ := HQ.out k hlt
        have hlt1 := Nat.lt_of_lt_of_le hl2 hKr.out.size
        have kk : ∀ o, W0.cell? ⟨bq, o, none⟩ = w.cell? ⟨bq, o, none⟩ := fun o => HK.out.cell (p := ⟨bq, o, none⟩) (by show bq < _; omega)
        have kr : ∀ o, wr.cell? ⟨bq, o, none⟩ = W0.cell? ⟨bq, o, none⟩ := fun o => hKr.out.cell (p := ⟨bq, o, none⟩) (by show bq < _; omega)
        have p0 : wr.cell? ⟨bq, oq + k * 3, none⟩ = some (.string (g k)) := by rw [kr, kk]; exact q0
        have p1 : wr.cell? ⟨bq, oq + k * 3 + 1, none⟩ = some (.int .i64 (d.low k)) := by rw [kr, kk, Nat.add_assoc]; exact q1
        have p2 : wr.cell? ⟨bq, oq + k * 3 + 2, none⟩ = some (.int .i64 (d.high k)) := by rw [kr, kk, Nat.add_assoc]; exact q2
        have p1' : wr.cell? ⟨bq, oq + (k * 3 + 1), none⟩ = some (.int .i64 (d.low k)) := by rw [← Nat.add_assoc]; exact p1
        have p2' : wr.cell? ⟨bq, oq + (k * 3 + 2), none⟩ = some (.int .i64 (d.high k)) := by rw [← Nat.add_assoc]; exact p2
        have hc1 := (HS.out.later hKr.out (by omega)).cnt (k := k) (by omega)
        clear kk kr q0 q1 q2
        go_wp2_with fail
        generalize hV : World.alloc _ _ = V
        have v1 : V.cell? ⟨wr.heap.size, 1, none⟩ = some (.int .i64 (d.low k)) := by rw [← hV, cell_of_row _ _ _ _ _ _ (heap_alloc_new wr _)]; rfl
        have v2 : V.cell? ⟨wr.heap.size, 2, none⟩ = some (.int .i64 (d.high k)) := by rw [← hV, cell_of_row _ _ _ _ _ _ (heap_alloc_new wr _)]; rfl
        have hKV : Below (w.heap.size + 1 + 1) W0 V := by rw [← hV]; exact hKr.out.alloc (by omega) _
        have hc2 : V.cell? ⟨w.heap.size + 1, 2 + k, none⟩ = some (.int .i64 (c k)) := (HS.out.later hKV (by omega)).cnt (k := k) (by omega)
        have hl3 := cell_lt v1
        have hl4 := cell_lt hc2
        have HKV := Lib.hid hKV
        clear hV p0 p1 p2 p1' p2' hc1 hKr hKV
        by_cases h1 : (c k : Int) < d.low k
        ·
          refine wp_region_class (Kept _) (by kernel_rfl) (by kernel_rfl) (Kept.drew _) ?_
          repeat (first
            | go_big_quiet_skip
            | (refine BigFrame.wpQuiet_want (by rfl) (fun K hK => ?_)
               first
                 | (refine BigFrame.quiet_move _ rfl ?_; refine hK _ ?_)
                 | (refine BigFrame.quiet_assign _ rfl ?_; refine hK _ ?_)
                 | (apply Exists.intro; refine ⟨fun w' hC => ?_, hK _ ?_⟩
                    · (obtain ⟨hcl, hfr⟩ := bcell hC.1; unfold Oper.quietAt; go_simp; first | rfl | fail))
               simp only [Act.put, Act.eval, List.setIfInBounds_toArray, List.set_cons_zero, List.set_cons_succ, Array.getD_eq_getD_getElem?, List.getElem?_toArray, List.getElem?_cons_succ, List.getElem?_cons_zero, Option.getD_some]
               clear hK K))
          refine wpQuiet_nil ?_
          intro wq hCq
          have HK5 := Lib.hid (HK.out.trans ((HKV.out.trans (hCq.1.mono (by omega))).mono (by omega)))
          have HV := Lib.hid (HF.out k hlt (.inl h1))
          clear v1 v2 hc2 hCq
          go_wp2_with fail
          go_ret
          exact ⟨by rw [HV.out]; rfl, HK5.out⟩
        · have h1' : d.low k ≤ (c k : Int) := by omega
          by_cases h2 : d.high k < (c k : Int)
          ·
            refine wp_region_class (Kept _) (by kernel_rfl) (by kernel_rfl) (Kept.drew _) ?_
            repeat (first
              | go_big_quiet_skip
              | (refine BigFrame.wpQuiet_want (by rfl) (fun K hK => ?_)
                 first
                   | (refine BigFrame.quiet_move _ rfl ?_; refine hK _ ?_)
                   | (refine BigFrame.quiet_assign _ rfl ?_; refine hK _ ?_)
                   | (apply Exists.intro; refine ⟨fun w' hC => ?_, hK _ ?_⟩
                      · (obtain ⟨hcl, hfr⟩ := bcell hC.1; unfold Oper.quietAt; go_simp; first | rfl | fail))
                 simp only [Act.put, Act.eval, List.setIfInBounds_toArray, List.set_cons_zero, List.set_cons_succ, Array.getD_eq_getD_getElem?, List.getElem?_toArray, List.getElem?_cons_succ, List.getElem?_cons_zero, Option.getD_some]
                 clear hK K))
            refine wpQuiet_nil ?_
            intro wq hCq
            have HK5 := Lib.hid (HK.out.trans ((HKV.out.trans (hCq.1.mono (by omega))).mono (by omega)))
            have HV := Lib.hid (HF.out k hlt (.inr h2))
            clear v1 v2 hc2 hCq
            go_wp2_with fail
            go_ret
            exact ⟨by rw [HV.out]; rfl, HK5.out⟩
          · have h2' : (c k : Int) ≤ d.high k := by omega
            refine wp_region_class (Kept _) (by kernel_rfl) (by kernel_rfl) (Kept.drew _) ?_
            repeat (first
              | go_big_quiet_skip
              | (refine BigFrame.wpQuiet_want (by rfl) (fun K hK => ?_)
                 first
                   | (refine BigFrame.quiet_move _ rfl ?_; refine hK _ ?_)
                   | (refine BigFrame.quiet_assign _ rfl ?_; refine hK _ ?_)
                   | (apply Exists.intro; refine ⟨fun w' hC => ?_, hK _ ?_⟩
                      · (obtain ⟨hcl, hfr⟩ := bcell hC.1; unfold Oper.quietAt; go_simp; first | rfl | fail))
                 simp only [Act.put, Act.eval, List.setIfInBounds_toArray, List.set_cons_zero, List.set_cons_succ, Array.getD_eq_getD_getElem?, List.getElem?_toArray, List.getElem?_cons_succ, List.getElem?_cons_zero, Option.getD_some]
                 clear hK K))
            refine wpQuiet_nil ?_
            intro wq hCq
            have HK6 := Lib.hid (HKV.out.trans (hCq.1.mono (by omega)))
            have HOK := Lib.hid (And.intro h1' h2')
            clear v1 v2 hc2 hCq
            go_wp2_with fail
            go_roundw
            case rel =>
              refine ⟨k + 1, by omega, by go_num, HK6, fun j hj => ?_⟩
              by_cases e : j = k
              · subst e; exact HOK.out
              · exact hok.out j (by omega)
            case measure => simp [intOf]; omega
      · obtain rfl : k = d.m := by omega
        have HV := Lib.hid (HT.out hok.out)
        have HK5 := Lib.hid (HK.out.trans (hKr.out.mono (by omega)))
        clear hKr hok
        go_wp2_with fail
        go_ret
        exact ⟨by rw [HV.out]; rfl, HK5.out⟩
  · have HV : Hid (d.fits mem c [] = false) := by
      show d.fits mem c [] = false
      rw [fits_nil, decide_eq_false hmem, Bool.false_and]
    subst hsz
    have hmem2 : ¬ (mem : Int) = d.size := hmem
    unfold tabA stA
    dsimp only
    go_enter Tryd.func37, Tryd.ntmps37
    go_upto_if 12 with fail
    generalize hW0 : World.alloc _ _ = W0
    obtain ⟨_, _, hK0, _⟩ := alloc2 _ _ _ _ _ hW0
    clear hW0
    go_wp2_with fail
    go_ret
    exact ⟨by rw [HV.out]; rfl, hK0⟩

set_option maxHeartbeats 400000 in
theorem qchoices_any (w : World) : Calls Tryd.prog 42 #[] w fun e w' => e = .returned (.agg #[.bool true, .bool false]) ∧ Below w.heap.size w w' := by
  go_enter Tryd.func42, Tryd.ntmps42
  go_wp2_with fail
  exact bodyPost_ret (v := .agg #[.bool true, .bool false]) (by simp [results, Tryd.results42, go_sem]) rfl ⟨rfl, (Below.refl _ _).alloc (Nat.le_refl _) _⟩

end Go.Proofs.YtebigkjilklodaaDoor

/- The program's panels: how many a state leads to. -/
namespace Go.Proofs.YtebigkjilklodaaDoor
open Go.RowKit

/-- What a counter has: a table, its memo, itself. -/
structure CtrB (B : Nat) (w : World) (x : DrawC) (ins : Value) (d : PD) (n tb kb fb mb : Nat) : Prop where
  tab : TabC tb w x ins
  tat : TabAt B w x ins d n
  kcell : w.heap[kb]? = some (.cells #[.map (some mb)] 122 (0, 0))
  fcell : w.heap[fb]? = some (.cells #[.func (.func 57) #[] #[.pointer (some ⟨tb, 0, none⟩), .pointer (some ⟨kb, 0, none⟩), .pointer (some ⟨fb, 0, none⟩)]] 94 (0, 0))
  hB : B ≤ mb
  hBw : B ≤ w.heap.size
  htb : tb ≠ mb
  hkb : kb ≠ mb
  hfb : fb ≠ mb
  small : n ≤ 40
  pos : 0 ≤ d.size
  le : d.size ≤ n
theorem CtrB.keep {B : Nat} {w w' : World} {x : DrawC} {ins : Value} {d : PD} {n tb kb fb mb : Nat} (h : CtrB B w x ins d n tb kb fb mb) (k : Keeps (· = mb) w w') : CtrB B w' x ins d n tb kb fb mb :=
  ⟨(k.block _ h.tab.lt h.htb).trans h.tab, h.tat.mono (k.belowB h.hBw (fun j hj e => by have := h.hB; omega)) (Nat.le_refl _),
   (k.block _ (Array.getElem?_eq_some_iff.1 h.kcell).1 h.hkb).trans h.kcell, (k.block _ (Array.getElem?_eq_some_iff.1 h.fcell).1 h.hfb).trans h.fcell, h.hB, Nat.le_trans h.hBw k.size, h.htb, h.hkb, h.hfb, h.small, h.pos, h.le⟩
/-- What the walk reads of a counter. -/
theorem CtrB.cells {B : Nat} {w : World} {x : DrawC} {ins : Value} {d : PD} {n tb kb fb mb : Nat} (h : CtrB B w x ins d n tb kb fb mb) :
    (w.cell? ⟨tb, 0, none⟩ = some (x.a0) ∧ w.cell? ⟨tb, 1, none⟩ = some (.int .i64 x.kind) ∧ w.cell? ⟨tb, 2, none⟩ = some (x.a2) ∧ w.cell? ⟨tb, 3, none⟩ = some (x.a3) ∧ w.cell? ⟨tb, 4, none⟩ = some (x.a4) ∧ w.cell? ⟨tb, 5, none⟩ = some (x.a5) ∧ w.cell? ⟨tb, 6, none⟩ = some (x.a6) ∧ w.cell? ⟨tb, 7, none⟩ = some (x.a7) ∧ w.cell? ⟨tb, 8, none⟩ = some (x.a8) ∧ w.cell? ⟨tb, 9, none⟩ = some (x.a9) ∧ w.cell? ⟨tb, 10, none⟩ = some (.int .i64 x.size) ∧ w.cell? ⟨tb, 11, none⟩ = some (x.qs) ∧ w.cell? ⟨tb, 12, none⟩ = some (x.a12) ∧ w.cell? ⟨tb, 13, none⟩ = some (ins)) ∧
    w.cell? ⟨kb, 0, none⟩ = some (.map (some mb)) ∧ w.cell? ⟨fb, 0, none⟩ = some (.func (.func 57) #[] #[.pointer (some ⟨tb, 0, none⟩), .pointer (some ⟨kb, 0, none⟩), .pointer (some ⟨fb, 0, none⟩)]) ∧
    tb < w.heap.size ∧ kb < w.heap.size ∧ fb < w.heap.size := by
  have k0 : w.cell? ⟨kb, 0, none⟩ = some (.map (some mb)) := by rw [cell_of_row w kb _ _ _ _ h.kcell]; rfl
  have f0 : w.cell? ⟨fb, 0, none⟩ = some (.func (.func 57) #[] #[.pointer (some ⟨tb, 0, none⟩), .pointer (some ⟨kb, 0, none⟩), .pointer (some ⟨fb, 0, none⟩)]) := by rw [cell_of_row w fb _ _ _ _ h.fcell]; rfl
  exact ⟨cells14 h.tab, k0, f0, h.tab.lt, cell_lt k0, cell_lt f0⟩
/-- The memo says what is right. -/
def MemoF (w : World) (d : PD) (n mb : Nat) (f : Value → Option Value) : Prop :=
  ∃ N, SMap w mb N f ∧ N ≤ (d.sts n).countP (fun v => (f v).isSome) ∧ ∀ i y v, f (d.st i y) = some v → v = .string (natS (d.go n i y).length)
theorem MemoF.lt {w : World} {d : PD} {n mb : Nat} {f : Value → Option Value} (h : MemoF w d n mb f) : mb < w.heap.size := by obtain ⟨N, h, _⟩ := h; exact h.lt
theorem MemoF.block {w w' : World} {d : PD} {n mb : Nat} {f : Value → Option Value} (h : MemoF w d n mb f) (hb : w'.heap[mb]? = w.heap[mb]?) : MemoF w' d n mb f := by
  obtain ⟨N, h, r⟩ := h; exact ⟨N, h.block hb, r⟩
theorem MemoF.below {w w' : World} {d : PD} {n mb : Nat} {f : Value → Option Value} (h : MemoF w d n mb f) (hb : Below w.heap.size w w') : MemoF w' d n mb f := h.block (hb.block _ h.lt)
theorem MemoF.made (w : World) (d : PD) (n : Nat) : MemoF (w.alloc (.map #[] 0)) d n w.heap.size (fun _ => none) :=
  ⟨0, SMap.made w, Nat.zero_le _, fun i y v h => by cases h⟩

theorem st_key (d : PD) {i : Nat} (hi : i ≤ 40) {y : List Nat} (hy : y ∈ pre i) : ∃ kl, keyOf Tryd.prog 89 (d.st i y) = some kl := by
  have h1 := pre_few hy
  exact stKey i y.length (d.cn y) (by omega) (by omega) (fun k => by have := d.cn_le y k; omega)

theorem nat_small {n : Nat} (h : n ≤ 2 ^ 41) : (natS n).size ≤ 8 := by
  rw [natS_size]; exact natB_length_le (Nat.lt_of_le_of_lt h (by decide))

theorem zeroNat (w : World) : (zeroValue 45).run Tryd.prog w = .ok (.string ⟨#[]⟩) w := by kernel_rfl
/-- The two choices. -/
theorem idx0 (w : World) : (Instr.index 98 (.agg #[.bool true, .bool false]) (.int .i64 0)).run Tryd.prog w = .ok (.bool true) w := by kernel_rfl
theorem idx1 (w : World) : (Instr.index 98 (.agg #[.bool true, .bool false]) (.int .i64 1)).run Tryd.prog w = .ok (.bool false) w := by kernel_rfl

/-- A state's number is written down. -/
theorem MemoF.put {B : Nat} {w : World} {x : DrawC} {ins : Value} {d : PD} {n tb kb fb mb : Nat} (hB : CtrB B w x ins d n tb kb fb mb) {f : Value → Option Value} (h : MemoF w d n mb f) {i : Nat} (hi : i < n) {y : List Nat} (hy : y ∈ pre i) (h0 : f (d.st i y) = none) :
    ∃ w', (Instr.mapUpdate 122 (.map (some mb)) (d.st i y) (.string (natS (d.go n i y).length))).run Tryd.prog w = .ok () w' ∧ w.grownBy w' (some mb) ∧ ∃ g, MemoF w' d n mb g ∧ ∀ j z, j < i → g (d.st j z) = f (d.st j z) := by
  obtain ⟨N, hM, hN, hf⟩ := h
  have hsm := hB.small
  have hsl := d.sts_length n
  have hpw : (2 : Nat) ^ n ≤ 2 ^ 40 := Nat.pow_le_pow_right (by decide) hsm
  have hcl : (d.sts n).countP (fun v => (f v).isSome) ≤ (d.sts n).length := List.countP_le_length
  obtain ⟨kl, hkl⟩ := st_key d (by omega) hy
  obtain ⟨w', hrun, ⟨g, g1, g2, hG⟩, hgr⟩ := hM.put (t := 122) (e := 45) Tryd.underlying122 hkl (.string (natS (d.go n i y).length)) (by omega)
  refine ⟨w', hrun, hgr, g, ⟨N + 1, hG, Nat.le_trans (Nat.succ_le_succ hN) (countP_put (d.sts_mem hi hy) h0 g1 g2), fun j z v hv => ?_⟩, fun j z hj => g1 _ fun e => ?_⟩
  · by_cases e : d.st j z = d.st i y
    · rw [e, g2] at hv
      rw [← Option.some.inj hv, d.st_same (n := n) hB.tat.few hB.tat.beyond e]
    · rw [g1 _ e] at hv; exact hf j z v hv
  · have := (d.st_go (n := n) hB.tat.few e).1; omega

/-- What counting ends in. -/
def CtrEnd (d : PD) (n i : Nat) (y : List Nat) (mb : Nat) (f : Value → Option Value) (w : World) (e : Ending) (w' : World) : Prop :=
  e = .returned (.string (natS (d.go n i y).length)) ∧ Keeps (· = mb) w w' ∧ ∃ g, MemoF w' d n mb g ∧ ∀ j z, j < i → g (d.st j z) = f (d.st j z)

set_option maxHeartbeats 1000000 in
set_option maxRecDepth 100000 in
theorem qcount_any (B : Nat) (x : DrawC) (ins : Value) (d : PD) (n tb kb fb mb : Nat) : ∀ (r i : Nat) (y : List Nat) (f : Value → Option Value) (w : World), n - i = r → i ≤ n → y ∈ pre i → CtrB B w x ins d n tb kb fb mb → MemoF w d n mb f →
    Calls Tryd.prog 57 #[.agg (stA i y.length (d.cn y)), .pointer (some ⟨tb, 0, none⟩), .pointer (some ⟨kb, 0, none⟩), .pointer (some ⟨fb, 0, none⟩)] w (CtrEnd d n i y mb f w) := by
  intro r
  induction r with
  | zero =>
    intro i y f w hr hi hy hb hm
    obtain rfl : i = n := by omega
    have HB := Lib.hid hb
    have HM := Lib.hid hm
    obtain ⟨ao, cap, rfl, _⟩ := hb.tat.ins
    have hsz := hb.tat.size
    clear hb hm hy
    obtain ⟨a0, a2, a3, a4, a5, a6, a7, a8, a9, a12, kind, size, qs⟩ := x
    dsimp only at hsz
    subst hsz
    unfold stA
    obtain ⟨⟨t0, t1, t2, t3, t4, t5, t6, t7, t8, t9, t10, t11, t12, t13⟩, k0, f0, hlt, klt, flt⟩ := HB.out.cells
    dsimp only at t0 t1 t2 t3 t4 t5 t6 t7 t8 t9 t10 t11 t12 t13
    have HW : Hid (Below w.heap.size w (w.alloc (.cells (stA i y.length (d.cn y)) 89))) := (Below.refl w.heap.size w).alloc (Nat.le_refl _) _
    have HDONE : Hid (∀ W, Keeps (· = mb) w W → Calls Tryd.prog 37 #[.agg (tabA ⟨a0, a2, a3, a4, a5, a6, a7, a8, a9, a12, kind, d.size, qs⟩ (.slice ao i cap)), .agg (stA i y.length (d.cn y))] W fun e w' => e = .returned (.bool (d.fits y.length (d.cn y) [])) ∧ Below W.heap.size W w') :=
      fun W hW => qdone_any B i _ _ d i y.length (d.cn y) W (HB.out.keep hW).hBw (HB.out.keep hW).tat
    have HOF0 : Hid (∀ w, Calls Tryd.prog 18 #[.int .i64 0] w fun e w' => e = .returned (.string (natS 0)) ∧ Below w.heap.size w w') := fun w => pOf_any 0 w (by decide)
    have HOF1 : Hid (∀ w, Calls Tryd.prog 18 #[.int .i64 1] w fun e w' => e = .returned (.string (natS 1)) ∧ Below w.heap.size w w') := fun w => pOf_any 1 w (by decide)
    have HEND : Hid (∀ w', Below w.heap.size w w' → CtrEnd d i i y mb f w (.returned (.string (natS (if d.fits y.length (d.cn y) [] = true then 1 else 0)))) w') := fun w' hb => by
      refine ⟨?_, .of_below hb, f, HM.out.below hb, fun _ _ _ => rfl⟩
      rw [d.go_end]
      cases d.fits y.length (d.cn y) [] <;> rfl
    obtain ⟨fq, hfq⟩ : ∃ fq, fq = d.fits y.length (d.cn y) [] := ⟨_, rfl⟩
    rw [← hfq] at HDONE HEND
    clear hfq
    go_enter Tryd.func57, Tryd.ntmps57
    go_wp2_with fail
    refine (HDONE.out _ (.of_below HW.out)).mono ?_
    rintro e w1 ⟨rfl, hb⟩
    have HW1 := Lib.hid (HW.out.trans (hb.mono HW.out.size))
    clear hb HW
    cases fq with
    | true =>
      go_wp2_with fail
      refine (HOF1.out _).mono ?_
      rintro e w2 ⟨rfl, hb⟩
      have HW2 := Lib.hid (HW1.out.trans (hb.mono HW1.out.size))
      clear hb
      go_wp2_with fail
      go_ret
      exact HEND.out _ HW2.out
    | false =>
      go_wp2_with fail
      refine (HOF0.out _).mono ?_
      rintro e w2 ⟨rfl, hb⟩
      have HW2 := Lib.hid (HW1.out.trans (hb.mono HW1.out.size))
      clear hb
      go_wp2_with fail
      go_ret
      exact HEND.out _ HW2.out
  | succ r ih =>
    intro i y f w hr hi hy hb hm
    have HY := Lib.hid hy
    have HIH := Lib.hid ih
    clear ih hy
    have hi40 : i ≤ 40 := by have := hb.small; omega
    have hy40 := pre_few HY.out
    have hin : i < n := by omega
    have HB := Lib.hid hb
    have HM := Lib.hid hm
    obtain ⟨ao, cap, rfl, _⟩ := hb.tat.ins
    have hps := hb.pos
    have hle := hb.le
    have hsm := hb.small
    have hsz := hb.tat.size
    clear hb hm
    obtain ⟨a0, a2, a3, a4, a5, a6, a7, a8, a9, a12, kind, size, qs⟩ := x
    dsimp only at hsz
    subst hsz
    unfold stA
    obtain ⟨⟨t0, t1, t2, t3, t4, t5, t6, t7, t8, t9, t10, t11, t12, t13⟩, k0, f0, hlt, klt, flt⟩ := HB.out.cells
    dsimp only at t0 t1 t2 t3 t4 t5 t6 t7 t8 t9 t10 t11 t12 t13
    have hni : ¬ (i : Int) = n := by omega
    have e1 : IntKind.i64.wrap (d.size - (y.length : Int)) = d.size - (y.length : Int) := IntWalk.i64_in _ (by omega)
    have e2 : IntKind.i64.wrap ((n : Int) - (i : Int)) = (n : Int) - (i : Int) := IntWalk.i64_in _ (by omega)
    have HOF : Hid (∀ w, Calls Tryd.prog 18 #[.int .i64 0] w fun e w' => e = .returned (.string ⟨#[]⟩) ∧ Below w.heap.size w w') := fun w => by
      have := pOf_any 0 w (by decide)
      rw [show (0 : Int).toNat = 0 from rfl, natS_zero] at this
      exact this
    have HW : Hid (Below w.heap.size w (w.alloc (.cells (stA i y.length (d.cn y)) 89))) := (Below.refl w.heap.size w).alloc (Nat.le_refl _) _
    have HSA : Hid (StAt w.heap.size (w.alloc (.cells (stA i y.length (d.cn y)) 89)) i y.length (d.cn y)) := heap_alloc_new w _
    have HMLT := Lib.hid HM.out.lt
    by_cases hfew : (n : Int) - i < d.size - (y.length : Int)
    · have HV : Hid (d.go n i y = []) := d.go_few (by omega)
      go_enter Tryd.func57, Tryd.ntmps57
      go_wp2_with fail
      refine (HOF.out _).mono ?_
      rintro e w1 ⟨rfl, hb⟩
      have HW2 := Lib.hid (HW.out.trans (hb.mono HW.out.size))
      clear hb
      go_wp2_with fail
      go_ret
      exact ⟨by rw [HV.out, List.length_nil, natS_zero]; rfl, .of_below HW2.out, f, HM.out.below HW2.out, fun _ _ _ => rfl⟩
    · have hfew2 : d.size - (y.length : Int) ≤ (n : Int) - i := by omega
      obtain ⟨kl, hkl⟩ := st_key d hi40 HY.out
      obtain ⟨N, hM, hN, hf⟩ := HM.out.below HW.out
      have hlook := hM.look_ok (t := 122) (e := 45) Tryd.underlying122 (z := .string ⟨#[]⟩) (zeroNat _) hkl
      cases hfs : f (d.st i y) with
      | some v =>
        rw [hfs] at hlook
        obtain rfl := hf i y v hfs
        unfold PD.st stA at hlook
        simp only [Option.getD_some, Option.isSome_some] at hlook
        clear hM hN hf hfs hkl
        go_enter Tryd.func57, Tryd.ntmps57
        go_wp2_with fail
        go_ret
        exact ⟨rfl, .of_below HW.out, f, HM.out.below HW.out, fun _ _ _ => rfl⟩
      | none =>
        rw [hfs] at hlook
        unfold PD.st stA at hlook
        simp only [Option.getD_none, Option.isSome_none] at hlook
        have HFS := Lib.hid hfs
        clear hM hN hf hfs hkl
        go_enter Tryd.func57, Tryd.ntmps57
        go_wp2_with fail
        refine (HOF.out _).mono ?_
        rintro e w1 ⟨rfl, hb⟩
        have HK1 := Lib.hid (HW.out.trans (hb.mono HW.out.size))
        have HS1 := Lib.hid (HSA.out.later hb HSA.out.lt)
        clear hb HW HSA hlook
        go_wp2_with fail
        refine (qchoices_any _).mono ?_
        rintro e w2 ⟨rfl, hb⟩
        have HK2 := Lib.hid (HK1.out.trans (hb.mono HK1.out.size))
        have HS2 := Lib.hid (HS1.out.later hb HS1.out.lt)
        clear hb HK1 HS1
        go_wp2_with fail
        clear t0 t1 t2 t3 t4 t5 t6 t7 t8 t9 t10 t11 t12 t13 k0 f0 hlt klt flt e1 e2 hni hfew hfew2
        have HPART := Lib.hid (d.go_step hin y)
        have HADY : Hid (∀ W, Keeps (· = mb) w W → Calls Tryd.prog 36 #[.agg (tabA ⟨a0, a2, a3, a4, a5, a6, a7, a8, a9, a12, kind, d.size, qs⟩ (.slice ao n cap)), .agg (stA i y.length (d.cn y)), .bool true] W (AddEnd d i y.length (d.cn y) W)) :=
          fun W hW => qadd_yes B n _ _ d i y.length (d.cn y) W (HB.out.keep hW).hBw (HB.out.keep hW).tat hin (by omega) (by omega) (fun k => by have := d.cn_le y k; omega)
        have HADN : Hid (∀ W, Calls Tryd.prog 36 #[.agg (tabA ⟨a0, a2, a3, a4, a5, a6, a7, a8, a9, a12, kind, d.size, qs⟩ (.slice ao n cap)), .agg (stA i y.length (d.cn y)), .bool false] W fun e w' => e = .returned (.tuple #[.agg (stA (i + 1) y.length (d.cn y)), .bool true]) ∧ Below W.heap.size W w') :=
          fun W => qadd_no _ _ i y.length (d.cn y) W (by omega)
        have HSUM : Hid (∀ (W : World) (p q : Nat), p ≤ 2 ^ 41 → q ≤ 2 ^ 41 → Calls Tryd.prog 21 #[.string (natS p), .string (natS q)] W fun e w' => e = .returned (.string (natS (p + q))) ∧ Below W.heap.size W w') := fun W p q hp hq => by
          have := pAdd_any (natS p) (natS q) W (Nat.le_trans (nat_small hp) (by decide)) (Nat.le_trans (nat_small hq) (by decide))
          rwa [valB_natS, valB_natS] at this
        have HLE1 := Lib.hid (d.go_length n (i + 1) (y ++ [i]))
        have HLE2 := Lib.hid (d.go_length n (i + 1) y)
        have HP40 : Hid ((2 : Nat) ^ n ≤ 2 ^ 40) := Nat.pow_le_pow_right (by decide) (by omega)
        have HI1 : Hid (∀ (W : World) (c' : Nat → Nat) (g : Value → Option Value), (∀ k, c' k = d.up i (d.cn y) k) → Keeps (· = mb) w W → MemoF W d n mb g → Calls Tryd.prog 57 #[.agg #[.int .i64 ((i : Int) + 1), .int .i64 ((y.length : Int) + 1), .int .i64 (c' 0 : Int), .int .i64 (c' 1 : Int), .int .i64 (c' 2 : Int), .int .i64 (c' 3 : Int), .int .i64 (c' 4 : Int), .int .i64 (c' 5 : Int), .int .i64 (c' 6 : Int), .int .i64 (c' 7 : Int), .int .i64 (c' 8 : Int), .int .i64 (c' 9 : Int), .int .i64 (c' 10 : Int), .int .i64 (c' 11 : Int)], .pointer (some ⟨tb, 0, none⟩), .pointer (some ⟨kb, 0, none⟩), .pointer (some ⟨fb, 0, none⟩)] W (CtrEnd d n (i + 1) (y ++ [i]) mb g W)) := by
          intro W c' g hc hW hm
          have h := HIH.out (i + 1) (y ++ [i]) g W (by omega) (by omega) (pre_yes HY.out) (HB.out.keep hW) hm
          obtain rfl : c' = d.cn (y ++ [i]) := by funext k; rw [hc k, d.up_cn]
          have e1 : ((i + 1 : Nat) : Int) = (i : Int) + 1 := by omega
          have e2 : (((y ++ [i]).length : Nat) : Int) = (y.length : Int) + 1 := by simp
          unfold stA at h
          rw [e1, e2] at h
          exact h
        have HI2 : Hid (∀ (W : World) (g : Value → Option Value), Keeps (· = mb) w W → MemoF W d n mb g → Calls Tryd.prog 57 #[.agg #[.int .i64 ((i : Int) + 1), .int .i64 (y.length : Int), .int .i64 (d.cn y 0 : Int), .int .i64 (d.cn y 1 : Int), .int .i64 (d.cn y 2 : Int), .int .i64 (d.cn y 3 : Int), .int .i64 (d.cn y 4 : Int), .int .i64 (d.cn y 5 : Int), .int .i64 (d.cn y 6 : Int), .int .i64 (d.cn y 7 : Int), .int .i64 (d.cn y 8 : Int), .int .i64 (d.cn y 9 : Int), .int .i64 (d.cn y 10 : Int), .int .i64 (d.cn y 11 : Int)], .pointer (some ⟨tb, 0, none⟩), .pointer (some ⟨kb, 0, none⟩), .pointer (some ⟨fb, 0, none⟩)] W (CtrEnd d n (i + 1) y mb g W)) := by
          intro W g hW hm
          have h := HIH.out (i + 1) y g W (by omega) (by omega) (pre_no HY.out) (HB.out.keep hW) hm
          have e1 : ((i + 1 : Nat) : Int) = (i : Int) + 1 := by omega
          unfold stA at h
          rw [e1] at h
          exact h
        clear HIH
        obtain ⟨L1, hL1⟩ : ∃ L1, L1 = (d.go n (i + 1) (y ++ [i])).length := ⟨_, rfl⟩
        obtain ⟨L2, hL2⟩ : ∃ L2, L2 = (d.go n (i + 1) y).length := ⟨_, rfl⟩
        obtain ⟨mq, hmq⟩ : ∃ mq, mq = d.may i y.length (d.cn y) := ⟨_, rfl⟩
        have HPART : Hid ((d.go n i y).length = (if mq = true then L1 else 0) + L2) := by
          show (d.go n i y).length = _
          rw [HPART.out, List.length_append, ← hmq, hL1, hL2]
          split <;> simp
        have HLL : Hid (L1 ≤ 2 ^ 40 ∧ L2 ≤ 2 ^ 40) := by
          have h1 := HLE1.out; have h2 := HLE2.out; have h3 := HP40.out
          exact ⟨by omega, by omega⟩
        have HL1 := Lib.hid hL1
        have HL2 := Lib.hid hL2
        have HMQ := Lib.hid hmq
        clear hL1 hL2 hmq HLE1 HLE2 HP40
        go_loopw [8, 48] (fun v u wr => ∃ k : Nat, k ≤ 2 ∧ u = .int .i64 k ∧ (∃ p : Nat, v = .string (natS p) ∧ Hid (p = (if 1 ≤ k ∧ mq = true then L1 else 0) + if 2 ≤ k then L2 else 0)) ∧ Hid (Keeps (· = mb) w wr) ∧ Hid (StAt w.heap.size wr i y.length (d.cn y)) ∧ ∃ g, Hid (MemoF wr d n mb g) ∧ Hid (∀ j z, j ≤ i → g (d.st j z) = f (d.st j z))) (fun _ u _ => 2 - (intOf u).toNat)
        case atStart => exact ⟨0, Nat.zero_le _, rfl, ⟨0, by rw [natS_zero], by show 0 = _; simp⟩, Keeps.of_below HK2.out, HS2, f, HM.out.below HK2.out, fun _ _ _ => rfl⟩
        case round =>
          obtain ⟨k, hk, rfl, ⟨p, rfl, hp⟩, hKr, hSr, g, hMr, hgr⟩ := hrel
          obtain ⟨⟨t0, t1, t2, t3, t4, t5, t6, t7, t8, t9, t10, t11, t12, t13⟩, k0, f0, hlt, klt, flt⟩ := (HB.out.keep hKr.out).cells
          dsimp only at t0 t1 t2 t3 t4 t5 t6 t7 t8 t9 t10 t11 t12 t13
          obtain ⟨n0, n1, n2, n3, n4, n5, n6, n7, n8, n9, n10, n11, n12, n13⟩ := hSr.out.all
          have hlts := hSr.out.lt
          have hszr := hKr.out.size
          have i0 := idx0
          have i1 := idx1
          match k, hk with
          | 0, _ =>
            obtain rfl : p = 0 := by have := hp.out; simpa using this
            go_wp2_with fail
            refine (HADY.out _ hKr.out).mono ?_
            rintro e w3 ⟨⟨c', rfl, hc'⟩, hb3⟩
            rw [← HMQ.out] at hc' ⊢
            have HK3 := Lib.hid (hKr.out.belowS hb3)
            have HS3 := Lib.hid (hSr.out.later hb3 hlts)
            have HM3 := Lib.hid (hMr.out.below hb3)
            have HC' := Lib.hid hc'
            clear t0 t1 t2 t3 t4 t5 t6 t7 t8 t9 t10 t11 t12 t13 k0 f0 hlt klt flt n0 n1 n2 n3 n4 n5 n6 n7 n8 n9 n10 n11 n12 n13 hlts hszr hb3 hc' hKr hSr hMr
            obtain ⟨_, k0, f0, _, klt, flt⟩ := (HB.out.keep HK3.out).cells
            unfold stA
            cases mq with
            | false =>
              go_wp2_with fail
              go_roundw
              case rel => exact ⟨1, by omega, by go_num, ⟨0, rfl, by show 0 = _; simp⟩, HK3.out.alloc _, HS3.out.later ((Below.refl _ _).alloc (Nat.le_refl _) _) HS3.out.lt, g, HM3.out.below ((Below.refl _ _).alloc (Nat.le_refl _) _), hgr⟩
              case measure => simp [intOf]
            | true =>
              go_wp2_with fail
              refine (HI1.out _ c' g (HC'.out trivial) (HK3.out.alloc _) (HM3.out.below ((Below.refl _ _).alloc (Nat.le_refl _) _))).mono ?_
              rintro e w4 ⟨rfl, hk4, g4, hm4, hg4⟩
              have HK4 := Lib.hid ((HK3.out.alloc (.cells _ _)).trans hk4)
              have HS4 : Hid (StAt w.heap.size w4 i y.length (d.cn y)) := (hk4.block _ (by have := HS3.out.lt; simp; omega) (by have := HMLT.out; omega)).trans (HS3.out.later ((Below.refl _ _).alloc (Nat.le_refl _) _) HS3.out.lt)
              have HM4 := Lib.hid hm4
              have HG4 : Hid (∀ j z, j ≤ i → g4 (d.st j z) = f (d.st j z)) := fun j z hj => (hg4 j z (by omega)).trans (hgr.out j z hj)
              rw [← HL1.out]
              clear hk4 hm4 hg4 k0 f0 klt flt HK3 HS3 HM3 hgr
              go_wp2_with fail
              refine (HSUM.out _ 0 L1 (by decide) (by have := HLL.out; omega)).mono ?_
              rintro e w5 ⟨rfl, hb5⟩
              have HK5 := Lib.hid (HK4.out.belowS hb5)
              have HS5 := Lib.hid (HS4.out.later hb5 HS4.out.lt)
              have HM5 := Lib.hid (HM4.out.below hb5)
              clear hb5 HK4 HS4 HM4
              go_wp2_with fail
              go_roundw
              case rel => exact ⟨1, by omega, by go_num, ⟨L1, rfl, by show L1 = _; simp⟩, HK5, HS5, g4, HM5, HG4⟩
              case measure => simp [intOf]
          | 1, _ =>
            go_wp2_with fail
            refine (HADN.out _).mono ?_
            rintro e w3 ⟨rfl, hb3⟩
            have HK3 := Lib.hid (hKr.out.belowS hb3)
            have HS3 := Lib.hid (hSr.out.later hb3 hlts)
            have HM3 := Lib.hid (hMr.out.below hb3)
            clear t0 t1 t2 t3 t4 t5 t6 t7 t8 t9 t10 t11 t12 t13 k0 f0 hlt klt flt n0 n1 n2 n3 n4 n5 n6 n7 n8 n9 n10 n11 n12 n13 hlts hszr hb3 hKr hSr hMr
            obtain ⟨_, k0, f0, _, klt, flt⟩ := (HB.out.keep HK3.out).cells
            unfold stA
            go_wp2_with fail
            refine (HI2.out _ g (HK3.out.alloc _) (HM3.out.below ((Below.refl _ _).alloc (Nat.le_refl _) _))).mono ?_
            rintro e w4 ⟨rfl, hk4, g4, hm4, hg4⟩
            have HK4 := Lib.hid ((HK3.out.alloc (.cells _ _)).trans hk4)
            have HS4 : Hid (StAt w.heap.size w4 i y.length (d.cn y)) := (hk4.block _ (by have := HS3.out.lt; simp; omega) (by have := HMLT.out; omega)).trans (HS3.out.later ((Below.refl _ _).alloc (Nat.le_refl _) _) HS3.out.lt)
            have HM4 := Lib.hid hm4
            have HG4 : Hid (∀ j z, j ≤ i → g4 (d.st j z) = f (d.st j z)) := fun j z hj => (hg4 j z (by omega)).trans (hgr.out j z hj)
            have hpl : p ≤ 2 ^ 40 := by
              have h1 := hp.out
              have h2 := HLL.out
              rw [if_neg (by omega : ¬ 2 ≤ 1)] at h1
              split at h1 <;> omega
            have HPV : Hid (p + L2 = (if 1 ≤ 2 ∧ mq = true then L1 else 0) + if 2 ≤ 2 then L2 else 0) := by
              show p + L2 = _
              rw [hp.out]; simp
            rw [← HL2.out]
            clear hk4 hm4 hg4 k0 f0 klt flt HK3 HS3 HM3 hgr
            go_wp2_with fail
            refine (HSUM.out _ p L2 (by omega) (by have := HLL.out; omega)).mono ?_
            rintro e w5 ⟨rfl, hb5⟩
            have HK5 := Lib.hid (HK4.out.belowS hb5)
            have HS5 := Lib.hid (HS4.out.later hb5 HS4.out.lt)
            have HM5 := Lib.hid (HM4.out.below hb5)
            clear hb5 HK4 HS4 HM4
            go_wp2_with fail
            go_roundw
            case rel => exact ⟨2, by omega, by go_num, ⟨p + L2, rfl, HPV⟩, HK5, HS5, g4, HM5, HG4⟩
            case measure => simp [intOf]
          | 2, _ =>
            have hpv : p = (d.go n i y).length := by
              rw [HPART.out, hp.out]; simp
            obtain ⟨w6, hput, hg6, g6, hm6, hgg6⟩ := hMr.out.put (HB.out.keep hKr.out) hin HY.out ((hgr.out i y (Nat.le_refl _)).trans HFS.out)
            rw [← hpv] at hput
            have HK6 : Hid (Keeps (· = mb) w w6) := hKr.out.trans (Keeps.of_grown hg6)
            have HE : Hid (CtrEnd d n i y mb f w (.returned (.string (natS p))) w6) := ⟨by rw [hpv], HK6.out, g6, hm6, fun j z hj => (hgg6 j z hj).trans (hgr.out j z (by omega))⟩
            unfold PD.st stA at hput
            clear hg6 hm6 hgg6 hpv hKr hSr hMr hgr HK6
            go_wp2_with fail
            go_ret
            exact HE.out

end Go.Proofs.YtebigkjilklodaaDoor

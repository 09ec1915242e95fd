/- The program's panels: Feasible. -/
import Derived.Test.YtebigkjilklodaaDoorQuoTs
import Derived.Test.YtebigkjilklodaaDoorQuoMs
set_option linter.unusedVariables false
set_option linter.unusedSimpArgs false
namespace Go.Proofs.YtebigkjilklodaaDoor
open Go.RowKit

set_option maxHeartbeats 1000000 in
set_option maxRecDepth 100000 in
theorem qFeas_any (x : DrawC) (lv pv : Value) (l : List Int) (n m : Nat) (g : Nat → ByteArray) (low high : Nat → Int) (gs : Nat → List ByteArray) (w : World) (h : DrawIn w x lv n m g low high gs) (hp : IntsAt w.heap.size w pv l) (hl : l.length ≤ 1000000) :
    Calls Tryd.prog 13 #[.agg x.arr, lv, pv] w fun e w' => e = .returned (.bool (isPan (pans x n m g low high gs) l)) ∧ Below w.heap.size w w' := by
  have HN : Hid (∀ W, Below w.heap.size w W → Calls Tryd.prog 35 #[.agg x.arr, lv] W fun e w' => ∃ ins, e = .returned (.tuple #[.agg (tabA x ins), .bool (decide (okD x n m))]) ∧ FlatV ins ∧ (okD x n m → TabAt w'.heap.size w' x ins (pdOf x.size m g low high gs) n) ∧ Below W.heap.size W w') :=
    fun W hW => qnew_any x lv n m g low high gs W (h.later hW)
  obtain ⟨x0, x2, x3, x4, x5, x6, x7, x8, x9, x12⟩ := h.flat
  obtain ⟨aq, cq, hqs, _⟩ := h.quo
  obtain ⟨al, cl, rfl, _⟩ := h.ent
  obtain ⟨ap, cp, rfl, hpc⟩ := hp.open
  have HP := Lib.hid hpc
  clear h hp hpc
  obtain ⟨a0, a2, a3, a4, a5, a6, a7, a8, a9, a12, kind, size, qs⟩ := x
  dsimp only at x0 x2 x3 x4 x5 x6 x7 x8 x9 x12 hqs
  subst hqs
  have s0 := x0.store
  have s2 := x2.store
  have s3 := x3.store
  have s4 := x4.store
  have s5 := x5.store
  have s6 := x6.store
  have s7 := x7.store
  have s8 := x8.store
  have s9 := x9.store
  have s12 := x12.store
  clear x0 x2 x3 x4 x5 x6 x7 x8 x9 x12
  unfold DrawC.arr
  dsimp only
  go_enter Tryd.func13, Tryd.ntmps13
  go_wp2_with fail
  refine (HN.out _ ((Below.refl _ _).alloc (Nat.le_refl _) _)).mono ?_
  rintro e w1 ⟨ins, rfl, hins, ht, hb⟩
  have s13 := hins.store
  have HB1 := Lib.hid (((Below.refl w.heap.size w).alloc (Nat.le_refl _) (.cells (DrawC.arr ⟨a0, a2, a3, a4, a5, a6, a7, a8, a9, a12, kind, size, .slice aq m cq⟩) 33)).trans (hb.mono (by simp)))
  have d10 : w1.cell? ⟨w.heap.size, 10, none⟩ = some (.int .i64 size) := by
    rw [hb.cell (p := ⟨w.heap.size, 10, none⟩) (by simp), cell_of_row _ _ _ _ _ _ (heap_alloc_new w _)]; rfl
  have dlt := cell_lt d10
  have HT := Lib.hid ht
  clear hb ht hins
  by_cases hok : okD ⟨a0, a2, a3, a4, a5, a6, a7, a8, a9, a12, kind, size, .slice aq m cq⟩ n m
  · have HV : Hid (pans ⟨a0, a2, a3, a4, a5, a6, a7, a8, a9, a12, kind, size, .slice aq m cq⟩ n m g low high gs = (pdOf size m g low high gs).all n) := if_pos hok
    have ht2 := HT.out hok
    rw [decide_eq_true hok]
    obtain ⟨hk3, hn40, hm12, hs0, hsn⟩ := hok
    dsimp only at hs0 hsn
    have HTT := Lib.hid ht2
    have HNN := Lib.hid (And.intro hn40 (And.intro hs0 hsn))
    clear ht2 HT hk3 hm12
    unfold tabA
    dsimp only
    by_cases hlen : (l.length : Int) = size
    · have hlen2 : size = (l.length : Int) := hlen.symm
      clear hlen
      subst hlen2
      go_wp2_with fail
      generalize hW0 : World.alloc _ _ = W0
      obtain ⟨W1, hW1⟩ : ∃ W1, W1 = w1.alloc (.cells (tabA ⟨a0, a2, a3, a4, a5, a6, a7, a8, a9, a12, kind, (l.length : Int), .slice aq m cq⟩ ins) 84) := ⟨_, rfl⟩
      have hW0' : W1.alloc (.cells (stA 0 0 (fun _ => 0)) 89) = W0 := by rw [← hW0, hW1]; rfl
      have hs1 : W1.heap.size = w1.heap.size + 1 := by rw [hW1]; simp
      have hT1 : TabC w1.heap.size W1 ⟨a0, a2, a3, a4, a5, a6, a7, a8, a9, a12, kind, (l.length : Int), .slice aq m cq⟩ ins := by rw [hW1]; exact heap_alloc_new w1 _
      have hbA : Below w1.heap.size w1 W1 := by rw [hW1]; exact (Below.refl _ _).alloc (Nat.le_refl _) _
      have hbB : Below W1.heap.size W1 W0 := by rw [← hW0']; exact (Below.refl _ _).alloc (Nat.le_refl _) _
      have hS0 : StAt (w1.heap.size + 1) W0 0 0 (fun _ => 0) := by rw [← hW0', ← hs1]; exact heap_alloc_new W1 _
      have hT0 : TabC w1.heap.size W0 ⟨a0, a2, a3, a4, a5, a6, a7, a8, a9, a12, kind, (l.length : Int), .slice aq m cq⟩ ins := hT1.later hbB (by omega)
      have hK0 : Below w1.heap.size w1 W0 := hbA.trans (hbB.mono (by omega))
      have HS0 := Lib.hid hS0
      have HT0 := Lib.hid hT0
      have HK0 := Lib.hid hK0
      clear hW0 hW0' hW1 hs1 hT1 hbA hbB hS0 hT0 hK0 d10 dlt s0 s2 s3 s4 s5 s6 s7 s8 s9 s12 s13
      obtain ⟨d, hd⟩ : ∃ d, d = pdOf (l.length : Int) m g low high gs := ⟨_, rfl⟩
      have hdsz : d.size = (l.length : Int) := by rw [hd]; rfl
      rw [← hd] at HV HTT
      have HE : Hid (∀ b, isPan (d.all n) l = b → isPan (pans ⟨a0, a2, a3, a4, a5, a6, a7, a8, a9, a12, kind, (l.length : Int), .slice aq m cq⟩ n m g low high gs) l = b) := fun b hb => by rw [HV.out]; exact hb
      clear hd HV
      go_loopw [30] (fun u wr => ∃ k : Nat, k ≤ l.length ∧ u = .int .i64 k ∧ ∃ (y : List Nat) (nx : Nat), Hid (l.take k = intsOf y) ∧ Hid (y.length = k) ∧ Hid (Mem n y) ∧ Hid (StAt (w1.heap.size + 1) wr nx k (d.cn y)) ∧ Hid (Below (w1.heap.size + 1) W0 wr)) (fun u _ => l.length - (intOf u).toNat)
      case atStart => exact ⟨0, Nat.zero_le _, rfl, [], 0, rfl, rfl, Mem.nil n, HS0, Below.refl _ _⟩
      case round =>
        obtain ⟨k, hk, rfl, y, nx, hty, hyl, hmem, hS, hKr⟩ := hrel
        have hszr := hKr.out.size
        have hlt0 := HK0.out.size
        have HT2 := Lib.hid (HT0.out.later hKr.out (by omega))
        have HKw := Lib.hid (HB1.out.trans ((HK0.out.mono HB1.out.size).trans (hKr.out.mono (by have := HB1.out.size; omega))))
        by_cases hlt : k < l.length
        · have hlz : (k : Int) < l.length := by omega
          obtain ⟨b, off, rfl, hbB, hcell⟩ := HP.out k hlt
          have hc := (HKw.out.cell (p := ⟨b, off + k, none⟩) hbB).trans hcell
          obtain ⟨a, ha⟩ : ∃ a, a = l[k]?.getD 0 := ⟨_, rfl⟩
          rw [← ha] at hc
          have HA : Hid (l[k]? = some a) := by rw [ha, List.getElem?_eq_getElem hlt]; rfl
          clear hcell ha
          by_cases ha0 : a < 0
          · have HV2 := Lib.hid (HE.out _ (d.not_range HA.out (.inl ha0)))
            go_wp2_with fail
            go_ret
            exact ⟨by rw [HV2.out]; rfl, HKw.out⟩
          · have ha0' : 0 ≤ a := by omega
            by_cases han : (n : Int) ≤ a
            · have HV2 := Lib.hid (HE.out _ (d.not_range HA.out (.inr han)))
              go_wp2_with fail
              go_ret
              exact ⟨by rw [HV2.out]; rfl, HKw.out⟩
            · have han' : a < n := by omega
              obtain ⟨i, rfl⟩ : ∃ i : Nat, a = i := ⟨a.toNat, by omega⟩
              obtain rfl : k = y.length := hyl.out.symm
              by_cases hord : 0 < y.length ∧ ∃ j : Nat, l[y.length - 1]? = some (j : Int) ∧ i ≤ j
              · obtain ⟨hpos, j, hj, hij⟩ := hord
                have HV2 := Lib.hid (HE.out _ (d.not_order HA.out hj hpos (by omega)))
                obtain ⟨k', hk'⟩ : ∃ k', y.length = k' + 1 := ⟨y.length - 1, by omega⟩
                obtain ⟨b2, off2, e2, hbB2, hcell2⟩ := HP.out k' (by omega)
                simp only [Option.some.injEq, Addr.mk.injEq, and_true] at e2
                obtain ⟨rfl, rfl⟩ := e2
                have hc2 := (HKw.out.cell (p := ⟨b, off + k', none⟩) hbB2).trans hcell2
                rw [show k' = y.length - 1 by omega, hj] at hc2
                rw [show y.length - 1 = k' by omega] at hc2
                have hc3 : wr.cell? ⟨b, off + k', none⟩ = some (.int .i64 (j : Int)) := hc2
                have hji : (i : Int) ≤ j := by omega
                have hkc : (y.length : Int) - 1 = k' := by omega
                have hpos' : (0 : Int) < y.length := by omega
                have ew : IntKind.i64.wrap ((y.length : Int) - 1) = (k' : Int) := by rw [hkc]; exact IntWalk.i64_in _ (by omega)
                have hkl : (k' : Int) < l.length := by omega
                clear hc2 hj hij hk' hcell2 HA hpos hkc
                go_wp2_with fail
                go_ret
                exact ⟨by rw [HV2.out]; rfl, HKw.out⟩
              · have HMEM : Hid (Mem n (y ++ [i])) := hmem.out.snoc (by omega) (fun j hj => by
                  refine Nat.lt_of_not_le fun hij => hord ?_
                  have hlt' := (List.getElem?_eq_some_iff.1 hj).1
                  refine ⟨by omega, j, ?_, hij⟩
                  have h1 : (l.take y.length)[y.length - 1]? = l[y.length - 1]? := by rw [List.getElem?_take, if_pos (by omega)]
                  rw [← h1, hty.out, intsOf, List.getElem?_map, hj]; rfl)
                have HPREV : Hid (∀ k', k' + 1 = y.length → ∃ j2 : Nat, l[k']?.getD 0 = (j2 : Int) ∧ j2 < i) := fun k' hk' => by
                  have h1 : (l.take y.length)[k']? = l[k']? := by rw [List.getElem?_take, if_pos (by omega)]
                  refine ⟨y[k']'(by omega), ?_, Nat.lt_of_not_le fun hij => hord ⟨by omega, y[k']'(by omega), ?_, hij⟩⟩
                  · rw [← h1, hty.out, intsOf, List.getElem?_map, List.getElem?_eq_getElem (by omega)]; rfl
                  · rw [show y.length - 1 = k' by omega, ← h1, hty.out, intsOf, List.getElem?_map, List.getElem?_eq_getElem (by omega)]; rfl
                have HTY : Hid (l.take (y.length + 1) = intsOf (y ++ [i])) := by
                  show l.take (y.length + 1) = _
                  rw [List.take_add_one, hty.out, HA.out]
                  simp [intOf, intsOf]
                have HNO : Hid (d.may i y.length (d.cn y) = false → isPan (pans ⟨a0, a2, a3, a4, a5, a6, a7, a8, a9, a12, kind, (l.length : Int), .slice aq m cq⟩ n m g low high gs) l = false) := fun h => HE.out _ (d.not_may hty.out HA.out h)
                have hTT := HT2.out
                unfold TabC tabA at hTT
                dsimp only at hTT
                obtain ⟨t0, t1, t2, t3, t4, t5, t6, t7, t8, t9, t10, t11, t12, t13⟩ := cells14 hTT
                have tlt := cell_lt t0
                obtain ⟨n0, n1, n2, n3, n4, n5, n6, n7, n8, n9, n10, n11, n12, n13⟩ := hS.out.all
                have f0 := hS.out.frozen 0
                have slt := hS.out.lt
                have HS1 := Lib.hid (hS.out.setNext i)
                have HSZ : Hid (w1.heap.size + 1 ≤ (wr.setCell ⟨w1.heap.size + 1, 0, none⟩ (.int .i64 (i : Int))).heap.size) := by
                  show _ ≤ _
                  rw [show (wr.setCell ⟨w1.heap.size + 1, 0, none⟩ (.int .i64 (i : Int))).heap.size = wr.heap.size by simp [World.setCell]]
                  omega
                have HB1K := Lib.hid (HKw.out.setCell (p := ⟨w1.heap.size + 1, 0, none⟩) (by show w.heap.size ≤ w1.heap.size + 1; have := HB1.out.size; omega) (.int .i64 (i : Int)))
                have HK1K := Lib.hid (hKr.out.setCell (p := ⟨w1.heap.size + 1, 0, none⟩) (Nat.le_refl _) (.int .i64 (i : Int)))
                have HADD : Hid (∀ W, Below (wr.setCell ⟨w1.heap.size + 1, 0, none⟩ (.int .i64 (i : Int))).heap.size (wr.setCell ⟨w1.heap.size + 1, 0, none⟩ (.int .i64 (i : Int))) W → Calls Tryd.prog 36 #[.agg (tabA ⟨a0, a2, a3, a4, a5, a6, a7, a8, a9, a12, kind, (l.length : Int), .slice aq m cq⟩ ins), .agg (stA i y.length (d.cn y)), .bool true] W (AddEnd d i y.length (d.cn y) W)) := fun W hW => by
                  have hW1 : Below w1.heap.size w1 W := (HK0.out.trans (HK1K.out.mono (by omega))).trans (hW.mono (by have := HK1K.out.size; omega))
                  exact qadd_yes w1.heap.size n _ ins d i y.length (d.cn y) W hW1.size (HTT.out.mono hW1 (Nat.le_refl _)) (by omega) (by have := HNN.out.1; omega) (by omega) (fun k => by have := d.cn_le y k; omega)
                obtain ⟨mq, hmq⟩ : ∃ mq, mq = d.may i y.length (d.cn y) := ⟨_, rfl⟩
                have HMQ := Lib.hid hmq
                rw [← hmq] at HNO
                clear hmq hTT hty hmem HE HA
                by_cases hk0 : y.length = 0
                · have hk0' : ¬ (0 : Int) < (y.length : Int) := by omega
                  clear hord hk0
                  go_wp2_with fail
                  refine (HADD.out _ (Below.refl _ _)).mono ?_
                  rintro e w3 ⟨⟨c', rfl, hc'⟩, hb3⟩
                  rw [← HMQ.out] at hc' ⊢
                  have hS3 := HS1.out.later hb3 HS1.out.lt
                  have HS3 := Lib.hid hS3
                  have HB3 := Lib.hid (HB1K.out.trans (hb3.mono HB1K.out.size))
                  have HK3 := Lib.hid (HK1K.out.trans (hb3.mono HSZ.out))
                  have HC' := Lib.hid hc'
                  clear t0 t1 t2 t3 t4 t5 t6 t7 t8 t9 t10 t11 t12 t13 n0 n1 n2 n3 n4 n5 n6 n7 n8 n9 n10 n11 n12 n13 f0 slt tlt hb3 hc' hS3 hc
                  obtain ⟨n0, n1, n2, n3, n4, n5, n6, n7, n8, n9, n10, n11, n12, n13⟩ := HS3.out.all
                  obtain ⟨f0, f1, f2, f3, f4, f5, f6, f7, f8, f9, f10, f11, f12, f13⟩ := HS3.out.frozens
                  have slt := HS3.out.lt
                  unfold stA
                  cases mq with
                  | false =>
                    go_wp2_with fail
                    generalize hWE : World.setCell _ _ _ = WE
                    have hKE : Below w.heap.size w WE := by rw [← hWE]; exact stSet_below (b := w1.heap.size + 1) HB3.out (by have := HB1.out.size; omega) (.int .i64 ((i : Int) + 1)) (.int .i64 ((y.length : Int) + 1)) (fun j => .int .i64 (c' j : Int))
                    clear hWE
                    go_ret
                    exact ⟨by rw [HNO.out trivial]; rfl, hKE⟩
                  | true =>
                    go_wp2_with fail
                    generalize hWE : World.setCell _ _ _ = WE
                    have hSE : StAt (w1.heap.size + 1) WE (i + 1) (y.length + 1) c' := by rw [← hWE]; exact stSet_at (n' := .int .i64 ((i : Int) + 1)) (m' := .int .i64 ((y.length : Int) + 1)) (c' := fun j => .int .i64 (c' j : Int)) HS3.out
                    have hKE : Below (w1.heap.size + 1) W0 WE := by rw [← hWE]; exact stSet_below (b := w1.heap.size + 1) HK3.out (Nat.le_refl _) (.int .i64 ((i : Int) + 1)) (.int .i64 ((y.length : Int) + 1)) (fun j => .int .i64 (c' j : Int))
                    clear hWE n0 n1 n2 n3 n4 n5 n6 n7 n8 n9 n10 n11 n12 n13 f0 f1 f2 f3 f4 f5 f6 f7 f8 f9 f10 f11 f12 f13
                    obtain rfl : c' = d.cn (y ++ [i]) := by funext j; rw [HC'.out trivial j, d.up_cn]
                    go_roundw
                    case rel => exact ⟨y.length + 1, by omega, by go_num, y ++ [i], i + 1, HTY.out, by show (y ++ [i]).length = _; simp, HMEM.out, hSE, hKE⟩
                    case measure => simp [intOf]; omega
                · obtain ⟨k', hk'⟩ : ∃ k', y.length = k' + 1 := ⟨y.length - 1, by omega⟩
                  obtain ⟨b2, off2, e2, hbB2, hcell2⟩ := HP.out k' (by omega)
                  simp only [Option.some.injEq, Addr.mk.injEq, and_true] at e2
                  obtain ⟨rfl, rfl⟩ := e2
                  have hc2 := (HKw.out.cell (p := ⟨b, off + k', none⟩) hbB2).trans hcell2
                  obtain ⟨j2, hj2⟩ : ∃ j2 : Nat, l[k']?.getD 0 = (j2 : Int) ∧ j2 < i := HPREV.out k' hk'.symm
                  rw [hj2.1] at hc2
                  have hji : (j2 : Int) < i := by omega
                  have HJ2 := Lib.hid hj2
                  have hkc : (y.length : Int) - 1 = k' := by omega
                  have hpos : (0 : Int) < y.length := by omega
                  have ew : IntKind.i64.wrap ((y.length : Int) - 1) = (k' : Int) := by rw [hkc]; exact IntWalk.i64_in _ (by omega)
                  have hkl : (k' : Int) < l.length := by omega
                  have HKP := Lib.hid hk'
                  clear hcell2 hord hk0 hk' hj2
                  go_wp2_with fail
                  refine (HADD.out _ (Below.refl _ _)).mono ?_
                  rintro e w3 ⟨⟨c', rfl, hc'⟩, hb3⟩
                  rw [← HMQ.out] at hc' ⊢
                  have hS3 := HS1.out.later hb3 HS1.out.lt
                  have HS3 := Lib.hid hS3
                  have HB3 := Lib.hid (HB1K.out.trans (hb3.mono HB1K.out.size))
                  have HK3 := Lib.hid (HK1K.out.trans (hb3.mono HSZ.out))
                  have HC' := Lib.hid hc'
                  clear t0 t1 t2 t3 t4 t5 t6 t7 t8 t9 t10 t11 t12 t13 n0 n1 n2 n3 n4 n5 n6 n7 n8 n9 n10 n11 n12 n13 f0 slt tlt hb3 hc' hS3 hc
                  obtain ⟨n0, n1, n2, n3, n4, n5, n6, n7, n8, n9, n10, n11, n12, n13⟩ := HS3.out.all
                  obtain ⟨f0, f1, f2, f3, f4, f5, f6, f7, f8, f9, f10, f11, f12, f13⟩ := HS3.out.frozens
                  have slt := HS3.out.lt
                  unfold stA
                  cases mq with
                  | false =>
                    go_wp2_with fail
                    generalize hWE : World.setCell _ _ _ = WE
                    have hKE : Below w.heap.size w WE := by rw [← hWE]; exact stSet_below (b := w1.heap.size + 1) HB3.out (by have := HB1.out.size; omega) (.int .i64 ((i : Int) + 1)) (.int .i64 ((y.length : Int) + 1)) (fun j => .int .i64 (c' j : Int))
                    clear hWE
                    go_ret
                    exact ⟨by rw [HNO.out trivial]; rfl, hKE⟩
                  | true =>
                    go_wp2_with fail
                    generalize hWE : World.setCell _ _ _ = WE
                    have hSE : StAt (w1.heap.size + 1) WE (i + 1) (y.length + 1) c' := by rw [← hWE]; exact stSet_at (n' := .int .i64 ((i : Int) + 1)) (m' := .int .i64 ((y.length : Int) + 1)) (c' := fun j => .int .i64 (c' j : Int)) HS3.out
                    have hKE : Below (w1.heap.size + 1) W0 WE := by rw [← hWE]; exact stSet_below (b := w1.heap.size + 1) HK3.out (Nat.le_refl _) (.int .i64 ((i : Int) + 1)) (.int .i64 ((y.length : Int) + 1)) (fun j => .int .i64 (c' j : Int))
                    clear hWE n0 n1 n2 n3 n4 n5 n6 n7 n8 n9 n10 n11 n12 n13 f0 f1 f2 f3 f4 f5 f6 f7 f8 f9 f10 f11 f12 f13
                    obtain rfl : c' = d.cn (y ++ [i]) := by funext j; rw [HC'.out trivial j, d.up_cn]
                    go_roundw
                    case rel => exact ⟨y.length + 1, by omega, by go_num, y ++ [i], i + 1, HTY.out, by show (y ++ [i]).length = _; simp, HMEM.out, hSE, hKE⟩
                    case measure => simp [intOf]; omega
        · obtain rfl : k = l.length := by omega
          have hTT := HT2.out
          unfold TabC tabA at hTT
          dsimp only at hTT
          obtain ⟨t0, t1, t2, t3, t4, t5, t6, t7, t8, t9, t10, t11, t12, t13⟩ := cells14 hTT
          have tlt := cell_lt t0
          obtain ⟨n0, n1, n2, n3, n4, n5, n6, n7, n8, n9, n10, n11, n12, n13⟩ := hS.out.all
          have slt := hS.out.lt
          have hle : l = intsOf y := by have := hty.out; rwa [List.take_length] at this
          have HV3 : Hid (isPan (pans ⟨a0, a2, a3, a4, a5, a6, a7, a8, a9, a12, kind, (l.length : Int), .slice aq m cq⟩ n m g low high gs) l = d.fits l.length (d.cn y) []) := by
            have h1 := HE.out _ rfl
            show isPan _ l = _
            rw [h1]
            have h2 := d.is_end hmem.out
            rw [← hle, hyl.out] at h2
            exact h2
          have HDONE : Hid (∀ W, Below wr.heap.size wr W → Calls Tryd.prog 37 #[.agg (tabA ⟨a0, a2, a3, a4, a5, a6, a7, a8, a9, a12, kind, (l.length : Int), .slice aq m cq⟩ ins), .agg (stA nx l.length (d.cn y))] W fun e w' => e = .returned (.bool (d.fits l.length (d.cn y) [])) ∧ Below W.heap.size W w') := fun W hW => by
            have hW1 : Below w1.heap.size w1 W := (HK0.out.trans (hKr.out.mono (by omega))).trans (hW.mono (by omega))
            exact qdone_any w1.heap.size n _ ins d nx l.length (d.cn y) W hW1.size (HTT.out.mono hW1 (Nat.le_refl _))
          clear hle hTT hty hmem HE
          go_wp2_with fail
          refine (HDONE.out _ (Below.refl _ _)).mono ?_
          rintro e w3 ⟨rfl, hb3⟩
          have HB3 := Lib.hid (HKw.out.trans (hb3.mono HKw.out.size))
          clear hb3
          go_wp2_with fail
          go_ret
          exact ⟨by rw [HV3.out]; rfl, HB3.out⟩
    · have HV2 : Hid (isPan (pans ⟨a0, a2, a3, a4, a5, a6, a7, a8, a9, a12, kind, size, .slice aq m cq⟩ n m g low high gs) l = false) := by
        show isPan _ l = false
        rw [HV.out]; exact PD.not_len _ hlen
      clear hn40 hs0 hsn
      go_wp2_with fail
      go_ret
      exact ⟨by rw [HV2.out]; rfl, HB1.out.alloc HB1.out.size _⟩
  · have HV : Hid (isPan (pans ⟨a0, a2, a3, a4, a5, a6, a7, a8, a9, a12, kind, size, .slice aq m cq⟩ n m g low high gs) l = false) := by
      show isPan _ l = false
      unfold pans
      rw [if_neg hok]; rfl
    rw [decide_eq_false hok]
    unfold tabA
    dsimp only
    clear hok HT
    go_wp2_with fail
    go_ret
    exact ⟨by rw [HV.out]; rfl, HB1.out.alloc HB1.out.size _⟩

end Go.Proofs.YtebigkjilklodaaDoor

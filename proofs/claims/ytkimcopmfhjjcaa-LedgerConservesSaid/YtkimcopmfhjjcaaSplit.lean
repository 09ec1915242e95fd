/- 'ledger.Split': what it returns. -/
import Derived.Test.YtkimcopmfhjjcaaSplitLaw
namespace Go.Proofs.Ytkimcopmfhjjcaa
open Go.RowKit

/-- The two boxes of 'Split': the amount and the sum of the weights. -/
def SplitW (S : Nat) (w wr : World) (a s : Int) : Prop :=
  wr.cell? ⟨S, 0, none⟩ = some (.int .i64 a) ∧ wr.cell? ⟨S + 1, 0, none⟩ = some (.int .i64 s) ∧ wr.frozen? ⟨S + 1, 0, none⟩ = false ∧ Below S w wr ∧ S + 2 ≤ wr.heap.size
theorem SplitW.store {S : Nat} {w wr : World} {a s : Int} (h : SplitW S w wr a s) (t : Int) : SplitW S w (wr.setCell ⟨S + 1, 0, none⟩ (.int .i64 t)) a t := by
  obtain ⟨h1, h2, h3, h4, h5⟩ := h
  exact ⟨(World.cell?_setCell_other _ _ _ _ (by simp)).trans h1, World.cell?_setCell_same _ _ _ h2, (World.frozen?_setCell _ _ _ _).trans h3, h4.setCell (by show S ≤ S + 1; omega) _, by simpa using h5⟩
theorem SplitW.later {S : Nat} {w wr wx : World} {a s : Int} (h : SplitW S w wr a s) (hb : Below (S + 2) wr wx) : SplitW S w wx a s := by
  obtain ⟨h1, h2, h3, h4, h5⟩ := h
  exact ⟨(hb.cell (p := ⟨S, 0, none⟩) (by show S < S + 2; omega)).trans h1, (hb.cell (p := ⟨S + 1, 0, none⟩) (by show S + 1 < S + 2; omega)).trans h2,
    (hb.frozen (p := ⟨S + 1, 0, none⟩) (by show S + 1 < S + 2; omega)).trans h3, h4.trans (hb.mono (by omega)), Nat.le_trans h5 hb.size⟩

def bump (d : List Int) (is : List Int) : List Int := is.foldl (fun d i => d.set i.toNat (d[i.toNat]?.getD 0 + 1)) d
theorem bump_take_succ (d is : List Int) (k : Nat) (h : k < is.length) :
    bump d (is.take (k + 1)) = (bump d (is.take k)).set (is[k]?.getD 0).toNat ((bump d (is.take k))[(is[k]?.getD 0).toNat]?.getD 0 + 1) := by
  unfold bump
  rw [List.take_add_one, List.getElem?_eq_getElem h, List.foldl_append]
  rfl
theorem bump_length (d : List Int) : ∀ is : List Int, (bump d is).length = d.length
  | [] => rfl
  | i :: is => by
    have := bump_length (d.set i.toNat (d[i.toNat]?.getD 0 + 1)) is
    rw [List.length_set] at this
    exact this
theorem bump_range {d : List Int} {c : Int} {j : Nat} (h : ∀ x ∈ d, 0 ≤ x ∧ x ≤ c) (hj : j < d.length) : ∀ x ∈ d.set j (d[j]?.getD 0 + 1), 0 ≤ x ∧ x ≤ c + 1 := by
  intro x hx
  rcases List.mem_or_eq_of_mem_set hx with hx | rfl
  · have := h x hx; omega
  · rw [List.getElem?_eq_getElem hj]; have := h _ (List.getElem_mem hj); simp only [Option.getD_some]; omega
/-- The parts. -/
def splitI (a : Int) (ws : List Int) : List Int := bump (partsI a (sumI ws) ws) ((orderI (restI a (sumI ws)) ws).take (leftI a ws).toNat)

set_option maxHeartbeats 1000000 in
set_option maxRecDepth 100000 in
theorem split_yes (a : Int) (v : Value) (ws : List Int) (w : World) (hl : IntsAt w.heap.size w v ws) (ha0 : 0 ≤ a) (ha1 : a ≤ 1000000000) (h1 : 1 ≤ ws.length) (h20 : ws.length < 20)
    (hw : ∀ x ∈ ws, 0 ≤ x ∧ x ≤ 1000000) (hs : 0 < sumI ws) :
    Calls Try.prog 8 #[.int .i64 a, v] w fun e w' =>
      ∃ v', e = .returned (.tuple #[v', .bool true]) ∧ w'.ownsRow w.heap.size 3 1 v' ws.length ((splitI a ws).map (Value.int .i64)) ∧ Below w.heap.size w w' := by
  obtain ⟨i0, hi, hz0, hz1, hz2⟩ := info_parts Try.infoInt
  obtain ⟨ao, cap0, rfl, hc⟩ := hl.open
  have HL := Lib.hid hl
  have HC := Lib.hid hc
  have HW := Lib.hid hw
  clear hl hc hw
  have hl1000 : decide ((ws.length : Int) > 1000) = false := decide_eq_false (by omega)
  have hd0 : decide (a < 0) = false := decide_eq_false (by omega)
  have hd1 : decide (a > 1000000000) = false := decide_eq_false (by omega)
  go_enter Try.func8, Try.ntmps8
  go_wp2
  obtain ⟨W0, hW0⟩ : ∃ W0, W0 = (w.alloc (Obj.cells #[.int .i64 a] 3)).alloc (Obj.cells #[.int .i64 0] 3) := ⟨_, rfl⟩
  have hsp : SplitW w.heap.size w W0 a 0 := by
    rw [hW0]
    exact ⟨by simp [go_sem], by simp [go_sem], by simp [go_sem], ((Below.refl _ _).alloc (Nat.le_refl _) _).alloc (by simp) _, by simp⟩
  rw [← hW0]
  clear hW0
  have HSP : Hid (SplitW w.heap.size w W0 a 0) := hsp
  clear hsp
  go_loopw [28] (fun i wr => ∃ k : Nat, k ≤ ws.length ∧ i = .int .i64 k ∧ Hid (SplitW w.heap.size w wr a (sumI (ws.take k)))) (fun i _ => ws.length - (intOf i).toNat)
  case atStart => exact ⟨0, Nat.zero_le _, rfl, HSP⟩
  case round =>
    clear HSP
    obtain ⟨k, hk, rfl, HSP⟩ := hrel
    obtain ⟨ca, cs, fs, hb, hsz⟩ := HSP.out
    by_cases hlt : k < ws.length
    · have hlz : (k : Int) < ws.length := by omega
      obtain ⟨b, o, rfl, hbl, cx⟩ := HC.out k hlt
      have cx2 := (hb.cell (p := ⟨b, o + k, none⟩) hbl).trans cx
      have hx : 0 ≤ ws[k]?.getD 0 ∧ ws[k]?.getD 0 ≤ 1000000 := by rw [List.getElem?_eq_getElem hlt]; exact HW.out _ (List.getElem_mem _)
      have hsum : 0 ≤ sumI (ws.take k) ∧ sumI (ws.take k) ≤ k * 1000000 := by
        have e := sumI_le (l := ws.take k) (c := 1000000) (fun x hx => (HW.out x (List.mem_of_mem_take hx)).2)
        rw [List.length_take, Nat.min_eq_left (by omega)] at e
        exact ⟨sumI_nonneg (fun x hx => (HW.out x (List.mem_of_mem_take hx)).1), e⟩
      have hst := HSP.out.store (sumI (ws.take (k + 1)))
      rw [sumI_take_succ hlt] at hst
      have HST := Lib.hid hst
      have hsuc := Lib.hid (sumI_take_succ hlt)
      clear hst cx
      obtain ⟨x, hxe⟩ : ∃ x, x = ws[k]?.getD 0 := ⟨_, rfl⟩
      rw [← hxe] at cx2 hx HST hsuc
      clear hxe
      obtain ⟨t, hte⟩ : ∃ t, t = sumI (ws.take k) := ⟨_, rfl⟩
      rw [← hte] at cs hsum HST hsuc
      clear hte HSP
      obtain ⟨hx0, hx1⟩ := hx
      obtain ⟨hs0, hs1⟩ := hsum
      have hs2 : t ≤ 20000000 := by omega
      have hdx0 : decide (x < 0) = false := decide_eq_false (by omega)
      have hdx1 : decide (x > 1000000) = false := decide_eq_false (by omega)
      go_wp2
      go_roundw
      case rel => exact ⟨k + 1, by omega, by go_num, by rw [hsuc.out]; exact HST.out⟩
      case measure => simp [intOf]; omega
    · obtain rfl : k = ws.length := by omega
      have hlz : ¬ (ws.length : Int) < ws.length := by omega
      rw [List.take_length] at cs HSP
      have hsn : ¬ sumI ws = 0 := by omega
      have hsb : (sumI ws == 0) = false := by simpa using hsn
      clear hsn
      have hpl : (partsI a (sumI ws) ws).length = ws.length := by simp [partsI]
      have HPL := Lib.hid hpl
      have hp0 := parts_nonneg (a := a) (s := sumI ws) ha0 hs (fun x hx => (HW.out x hx).1)
      have HP0 := Lib.hid hp0
      have hsle : sumI ws ≤ 20000000 := by
        have e := sumI_le (l := ws) (c := 1000000) (fun x hx => (HW.out x hx).2)
        omega
      have hpsum : sumI (partsI a (sumI ws) ws) ≤ a := by have := (left_range (a := a) hs).1; unfold leftI at this; omega
      have HPS := Lib.hid hpsum
      clear hpl hp0 hpsum
      go_wp2
      clear ca cs fs hb hsz
      obtain ⟨wo, rfl⟩ : ∃ wo : World, wo = wr := ⟨_, rfl⟩
      obtain ⟨s, hse⟩ : ∃ s, s = sumI ws := ⟨_, rfl⟩
      rw [← hse]
      have HSE := Lib.hid hse
      rw [← hse] at HSP HPL HP0 HPS hs hsle hsb
      clear hse
      go_loopw [9, 10, 47] (fun v l i wr => ∃ k : Nat, k ≤ ws.length ∧ i = .int .i64 k ∧ l = .int .i64 (a - sumI ((partsI a s ws).take k)) ∧ wr.ownsRow (w.heap.size + 2) 3 1 v k (((partsI a s ws).take k).map (Value.int .i64)) ∧ Hid (SplitW w.heap.size w wr a s))
        (fun _ _ i _ => ws.length - (intOf i).toNat)
      case atStart => exact ⟨0, Nat.zero_le _, rfl, by simp [sumI], World.ownsRow_nil _ _ _ _, HSP⟩
      case round =>
        clear HSP
        obtain ⟨k, hk, rfl, rfl, hown, HSP⟩ := hrel
        obtain ⟨ca, cs, fs, hb, hsz⟩ := HSP.out
        by_cases hlt : k < ws.length
        · have hlz2 : (k : Int) < ws.length := by omega
          obtain ⟨b, o, rfl, hbl, cx⟩ := HC.out k hlt
          have cx2 := (hb.cell (p := ⟨b, o + k, none⟩) hbl).trans cx
          have hx : 0 ≤ ws[k]?.getD 0 ∧ ws[k]?.getD 0 ≤ 1000000 := by rw [List.getElem?_eq_getElem hlt]; exact HW.out _ (List.getElem_mem _)
          have hpk : (partsI a s ws)[k]?.getD 0 = a * (ws[k]?.getD 0) / s := by simp [partsI, List.getElem?_eq_getElem hlt]
          have hts := sumI_take_succ (l := partsI a s ws) (k := k) (by rw [HPL.out]; exact hlt)
          have hts2 : (partsI a s ws).take (k + 1) = (partsI a s ws).take k ++ [a * (ws[k]?.getD 0) / s] := by rw [List.take_add_one, ← hpk, List.getElem?_eq_getElem (by rw [HPL.out]; exact hlt)]; rfl
          rw [hpk] at hts
          have hle := sumI_take_le HP0.out (k + 1)
          have hle0 := sumI_nonneg (l := (partsI a s ws).take k) (fun x hx => HP0.out x (List.mem_of_mem_take hx))
          rw [hts] at hle
          have HLE : sumI ((partsI a s ws).take k) + a * (ws[k]?.getD 0) / s ≤ a := Int.le_trans hle HPS.out
          clear hle hpk cx
          obtain ⟨x, hxe⟩ : ∃ x, x = ws[k]?.getD 0 := ⟨_, rfl⟩
          rw [← hxe] at cx2 hx hts hts2 HLE
          clear hxe
          obtain ⟨hx0, hx1⟩ := hx
          have hax0 : 0 ≤ a * x := Int.mul_nonneg ha0 hx0
          have hax1 : a * x ≤ 1000000000000000 := by
            have e1 := Int.mul_le_mul_of_nonneg_left hx1 ha0
            have e2 : a * 1000000 ≤ 1000000000000000 := by omega
            omega
          have hq0 : 0 ≤ a * x / s := Int.ediv_nonneg hax0 (by omega)
          obtain ⟨p, hpe⟩ : ∃ p, p = sumI ((partsI a s ws).take k) := ⟨_, rfl⟩
          rw [← hpe] at hts hle0 HLE ⊢
          clear hpe
          have HTS := Lib.hid hts
          have HTS2 := Lib.hid hts2
          clear hts hts2
          have hs1 : 1 ≤ s := by omega
          go_wp2_with (at_builtin; refine wpList_append_own _ rfl _ _ 22 rfl (w.heap.size + 2) 3 i0 (.int .i64 0) 1 8 Try.underlying22 hi hz0 hz1 hz2 rfl (by decide) _ _ _ rfl (hown.alloc _) ⟨wr.heap.size, 0, none⟩ 1 1 [.int .i64 (a * x / s)] rfl rfl ?c1 ?c2 ?c3 ?c4 ?c5 ?_)
          case c1 => exact cell_one_new _ _ _
          case c2 => intro u hu; simp at hu; subst hu; rfl
          case c3 => unfold maxLen; omega
          case c4 => omega
          case c5 => simp; omega
          intro v' w1 hown' hgrow _
          have hnx' : Below (w.heap.size + 2) wr w1 := ((Below.refl _ _).alloc (by omega) _).grown hgrow (by simp; omega) (fun j hj => (hown.lt j hj).1)
          have hown2 : w1.ownsRow (w.heap.size + 2) 3 1 v' (k + 1) (((partsI a s ws).take (k + 1)).map (Value.int .i64)) := by rw [HTS2.out]; simpa using hown'
          have HSP1 := Lib.hid (HSP.out.later hnx')
          clear hown' hgrow hown ca cs fs HSP hsz cx2 hb
          obtain ⟨ca, cs, fs, hb, hsz⟩ := HSP1.out
          go_wp2
          go_roundw
          case rel => exact ⟨k + 1, by omega, by go_num, by rw [HTS.out]; go_num, hown2, HSP1⟩
          case measure => simp [intOf]; omega
        · obtain rfl : k = ws.length := by omega
          have hlz2 : ¬ (ws.length : Int) < ws.length := by omega
          rw [show (partsI a s ws).take ws.length = partsI a s ws by rw [← HPL.out, List.take_length]] at hown ⊢
          obtain ⟨g9, cap9, rfl, hO⟩ : ∃ g cap, u9 = .slice (some ⟨g, 0, none⟩) ws.length cap ∧ OwnInts wr (w.heap.size + 2) g cap (partsI a s ws) := by
            rcases hown.2 with ⟨_, h⟩ | ⟨g, cap, cur, rfl, _⟩
            · omega
            · exact ⟨g, cap, rfl, by unfold OwnInts; rw [HPL.out]; exact hown⟩
          have hg9 := hO.lt
          have hkey : ∀ W, Below wr.heap.size wr W → ∀ x, x ∈ ws → Calls Try.prog 22 #[.int .i64 x, .pointer (some ⟨w.heap.size, 0, none⟩), .pointer (some ⟨w.heap.size + 1, 0, none⟩)] W fun e w' => e = .returned (.int .i64 (restI a s x)) ∧ w' = W := by
            intro W hW x hx
            have hx2 := HW.out x hx
            have e1 := Int.mul_le_mul_of_nonneg_left hx2.2 ha0
            exact key_any a s x w.heap.size (w.heap.size + 1) W ((hW.cell (p := ⟨w.heap.size, 0, none⟩) (by show w.heap.size < _; omega)).trans ca) ((hW.cell (p := ⟨w.heap.size + 1, 0, none⟩) (by show w.heap.size + 1 < _; omega)).trans cs)
              (Int.mul_nonneg ha0 hx2.1) (by omega) (by omega) (by omega)
          have K := order_any (.slice ao ws.length cap0) (.pointer (some ⟨w.heap.size, 0, none⟩)) (.pointer (some ⟨w.heap.size + 1, 0, none⟩)) ws wr (restI a s) (HL.out.mono hb (by omega)) h1 h20 hkey
          have KH := Lib.hid K
          have HO := Lib.hid hO
          have hlr := left_range (a := a) (ws := ws) (by rw [← HSE.out]; exact hs)
          obtain ⟨m, hm⟩ := Int.eq_ofNat_of_zero_le hlr.1
          have hmn : m ≤ ws.length := by omega
          have hmm : a - sumI (partsI a s ws) = (m : Int) := by rw [HSE.out]; exact hm
          have HMM := Lib.hid hm
          rw [hmm]
          clear hlr hm hmm K hkey hO hown ca cs fs
          go_wp2_with fail
          refine KH.out.mono ?_
          rintro e w1 ⟨g, cap, rfl, hO2, hb2⟩
          have hcap : ws.length ≤ cap := by
            rcases hO2.2 with ⟨h3, _⟩ | ⟨g', cap', cur, h3, h4, h5, h6, _⟩
            · simp at h3
            · simp only [Value.slice.injEq] at h3
              rw [orderI_length] at h6
              omega
          have hg2 := hO2.lt
          have HO2 : Hid (OwnInts w1 wr.heap.size g cap (orderI (restI a s) ws)) := hO2
          clear KH hO2
          have HB2 := Lib.hid hb2
          clear hb2
          have hmc : (m : Int) ≤ cap := by omega
          go_wp2_with fail
          obtain ⟨L, hLe⟩ : ∃ L, L = orderI (restI a s) ws := ⟨_, rfl⟩
          have hLl : L.length = ws.length := by rw [hLe, orderI_length]
          have hLm : ∀ z ∈ L, 0 ≤ z ∧ z < ws.length := by intro z hz; rw [hLe, orderI_mem] at hz; exact hz
          rw [← hLe] at HO2
          have HLE := Lib.hid hLe
          have HLL := Lib.hid hLl
          have HLM := Lib.hid hLm
          clear hLe hLl hLm
          have HO1 : Hid (OwnInts w1 (w.heap.size + 2) g9 cap9 (partsI a s ws)) := HO.out.later HB2.out hg9.2
          have HB3 : Hid (Below w.heap.size w w1) := hb.trans (HB2.out.mono (by omega))
          have hpb : ∀ x ∈ partsI a s ws, 0 ≤ x ∧ x ≤ 1000000000 := fun x hx => ⟨HP0.out x hx, by have := sumI_mem_le HP0.out hx; have := HPS.out; omega⟩
          have HPB := Lib.hid hpb
          have hgg : g9 ≠ g := by omega
          have HGG := Lib.hid hgg
          obtain ⟨N0, hN0⟩ : ∃ N0, N0 = wr.heap.size := ⟨_, rfl⟩
          rw [← hN0] at HO2
          clear HO HB2 hpb hgg hb hN0 HSP hg2 hsz
          go_loopw [73] (fun i wr => ∃ k : Nat, k ≤ m ∧ i = .int .i64 k ∧ Hid (OwnInts wr (w.heap.size + 2) g9 cap9 (bump (partsI a s ws) (L.take k))) ∧ Hid (OwnInts wr N0 g cap L) ∧ Hid (Below w.heap.size w wr) ∧ Hid (∀ x ∈ bump (partsI a s ws) (L.take k), 0 ≤ x ∧ x ≤ 1000000000 + k))
            (fun i _ => m - (intOf i).toNat)
          case atStart => exact ⟨0, Nat.zero_le _, rfl, HO1, HO2, HB3, (show ∀ x ∈ _, _ by intro x hx; have := HPB.out x hx; omega)⟩
          case round =>
            clear HO1 HO2 HB3 HPB
            obtain ⟨k, hk, rfl, HO1, HO2, HB3, HPB⟩ := hrel
            by_cases hlt : k < m
            · have hlz3 : (k : Int) < m := by omega
              have hkL : k < L.length := by rw [HLL.out]; omega
              have cL := HO2.out.cell hkL
              have hr := HLM.out (L[k]?.getD 0) (by rw [List.getElem?_eq_getElem hkL]; exact List.getElem_mem _)
              have hbs := Lib.hid (bump_take_succ (partsI a s ws) L k hkL)
              obtain ⟨j, hj⟩ := Int.eq_ofNat_of_zero_le hr.1
              rw [hj] at cL hbs hr
              clear hj
              rw [Int.toNat_natCast] at hbs
              obtain ⟨D, hD⟩ : ∃ D, D = bump (partsI a s ws) (L.take k) := ⟨_, rfl⟩
              have hDl : D.length = ws.length := by rw [hD, bump_length]; exact HPL.out
              rw [← hD] at HO1 HPB hbs
              clear hD
              have hjD : j < D.length := by rw [hDl]; omega
              have cj := HO1.out.cell hjD
              have fj := HO1.out.free j
              have hjr := HPB.out (D[j]?.getD 0) (by rw [List.getElem?_eq_getElem hjD]; exact List.getElem_mem _)
              have hst := HO1.out.set j (D[j]?.getD 0 + 1)
              have HST := Lib.hid hst
              have hst2 := HO2.out.other ⟨g9, j, none⟩ (.int .i64 (D[j]?.getD 0 + 1)) (Ne.symm HGG.out)
              have HST2 := Lib.hid hst2
              have hbr := bump_range HPB.out hjD
              have HBR := Lib.hid hbr
              have hjn : (j : Int) < ws.length := hr.2
              clear hst hst2 hbr hDl hjD hkL hr HPB HO1 HO2
              obtain ⟨y, hy⟩ : ∃ y, y = D[j]?.getD 0 := ⟨_, rfl⟩
              rw [← hy] at cj hjr HST HST2 HBR hbs
              clear hy
              have hy0 := hjr.1
              have hy1 : y ≤ 1000000020 := by omega
              clear hjr
              go_wp2
              go_roundw
              case rel => exact ⟨k + 1, by omega, by go_num, by rw [hbs.out]; exact HST.out, HST2.out, HB3.out.setCell (p := ⟨g9, j, none⟩) (by show w.heap.size ≤ g9; omega) _, by rw [hbs.out]; intro x hx; have := HBR.out x hx; omega⟩
              case measure => simp [intOf]; omega
            · obtain rfl : k = m := by omega
              have hlz3 : ¬ (k : Int) < k := by omega
              go_wp2
              go_ret2
              refine ⟨_, rfl, ?_, HB3.out⟩
              have h := HO1.out
              have e : bump (partsI a s ws) (L.take k) = splitI a ws := by
                unfold splitI
                rw [HLE.out, HSE.out, HMM.out]; rfl
              rw [e] at h
              unfold OwnInts at h
              have hl : (splitI a ws).length = ws.length := by rw [← e, bump_length]; exact HPL.out
              rw [hl] at h
              refine ⟨h.1, ?_⟩
              rcases h.2 with h3 | ⟨g', cap', cur, h3, h4, h5⟩
              · exact .inl h3
              · exact .inr ⟨g', cap', cur, h3, by omega, h5⟩

/-- What 'Split' asks. -/
def OkSplit (a : Int) (ws : List Int) : Prop := 0 ≤ a ∧ a ≤ 1000000000 ∧ (∀ x ∈ ws, 0 ≤ x ∧ x ≤ 1000000) ∧ 0 < sumI ws

set_option maxHeartbeats 1000000 in
set_option maxRecDepth 100000 in
theorem split_no (a : Int) (v : Value) (ws : List Int) (w : World) (hl : IntsAt w.heap.size w v ws) (h20 : ws.length < 20) (hno : ¬ OkSplit a ws) :
    Calls Try.prog 8 #[.int .i64 a, v] w fun e w' => e = .returned (.tuple #[.slice none 0 0, .bool false]) ∧ Below w.heap.size w w' := by
  obtain ⟨ao, cap0, rfl, hc⟩ := hl.open
  have HL := Lib.hid hl
  have HC := Lib.hid hc
  clear hl hc
  have hl1000 : decide ((ws.length : Int) > 1000) = false := decide_eq_false (by omega)
  by_cases ha0 : a < 0
  · have hd0 : decide (a < 0) = true := decide_eq_true ha0
    clear hno
    go_enter Try.func8, Try.ntmps8
    go_wp2
    go_ret2
    exact ⟨rfl, (Below.refl _ _).alloc (Nat.le_refl _) _⟩
  by_cases ha1 : 1000000000 < a
  · have hd0 : decide (a < 0) = false := decide_eq_false ha0
    have hd1 : decide (a > 1000000000) = true := decide_eq_true ha1
    clear hno
    go_enter Try.func8, Try.ntmps8
    go_wp2
    go_ret2
    exact ⟨rfl, (Below.refl _ _).alloc (Nat.le_refl _) _⟩
  have hd0 : decide (a < 0) = false := decide_eq_false (by omega)
  have hd1 : decide (a > 1000000000) = false := decide_eq_false (by omega)
  have HN := Lib.hid hno
  clear hno
  go_enter Try.func8, Try.ntmps8
  go_wp2
  obtain ⟨W0, hW0⟩ : ∃ W0, W0 = (w.alloc (Obj.cells #[.int .i64 a] 3)).alloc (Obj.cells #[.int .i64 0] 3) := ⟨_, rfl⟩
  have hsp : SplitW w.heap.size w W0 a 0 := by
    rw [hW0]
    exact ⟨by simp [go_sem], by simp [go_sem], by simp [go_sem], ((Below.refl _ _).alloc (Nat.le_refl _) _).alloc (by simp) _, by simp⟩
  rw [← hW0]
  clear hW0
  have HSP : Hid (SplitW w.heap.size w W0 a 0) := hsp
  clear hsp
  go_loopw [28] (fun i wr => ∃ k : Nat, k ≤ ws.length ∧ i = .int .i64 k ∧ Hid (∀ x ∈ ws.take k, 0 ≤ x ∧ x ≤ 1000000) ∧ Hid (SplitW w.heap.size w wr a (sumI (ws.take k)))) (fun i _ => ws.length - (intOf i).toNat)
  case atStart => exact ⟨0, Nat.zero_le _, rfl, (show ∀ x ∈ _, _ by intro x hx; simp at hx), HSP⟩
  case round =>
    clear HSP
    obtain ⟨k, hk, rfl, HW, HSP⟩ := hrel
    obtain ⟨ca, cs, fs, hb, hsz⟩ := HSP.out
    by_cases hlt : k < ws.length
    · have hlz : (k : Int) < ws.length := by omega
      obtain ⟨b, o, rfl, hbl, cx⟩ := HC.out k hlt
      have cx2 := (hb.cell (p := ⟨b, o + k, none⟩) hbl).trans cx
      have hsum : 0 ≤ sumI (ws.take k) ∧ sumI (ws.take k) ≤ k * 1000000 := by
        have e := sumI_le (l := ws.take k) (c := 1000000) (fun x hx => (HW.out x hx).2)
        rw [List.length_take, Nat.min_eq_left (by omega)] at e
        exact ⟨sumI_nonneg (fun x hx => (HW.out x hx).1), e⟩
      have hst := HSP.out.store (sumI (ws.take (k + 1)))
      rw [sumI_take_succ hlt] at hst
      have HST := Lib.hid hst
      have hsuc := Lib.hid (sumI_take_succ hlt)
      have hall : 0 ≤ ws[k]?.getD 0 → ws[k]?.getD 0 ≤ 1000000 → ∀ x ∈ ws.take (k + 1), 0 ≤ x ∧ x ≤ 1000000 := by
        intro h0 h1 x hx
        rw [List.take_add_one, List.getElem?_eq_getElem hlt] at hx
        rcases List.mem_append.1 hx with hx | hx
        · exact HW.out x hx
        · simp at hx; subst hx; rw [List.getElem?_eq_getElem hlt] at h0 h1; exact ⟨h0, h1⟩
      have HALL := Lib.hid hall
      clear hst cx hall
      obtain ⟨x, hxe⟩ : ∃ x, x = ws[k]?.getD 0 := ⟨_, rfl⟩
      rw [← hxe] at cx2 HST hsuc HALL
      clear hxe
      obtain ⟨t, hte⟩ : ∃ t, t = sumI (ws.take k) := ⟨_, rfl⟩
      rw [← hte] at cs hsum HST hsuc
      clear hte HSP
      obtain ⟨hs0, hs1⟩ := hsum
      have hs2 : t ≤ 20000000 := by omega
      by_cases hx0 : x < 0
      · have hdx0 : decide (x < 0) = true := decide_eq_true hx0
        go_wp2
        go_ret2
        exact ⟨rfl, hb⟩
      have hdx0 : decide (x < 0) = false := decide_eq_false hx0
      by_cases hx1 : x > 1000000
      · have hdx1 : decide (x > 1000000) = true := decide_eq_true hx1
        go_wp2
        go_ret2
        exact ⟨rfl, hb⟩
      have hdx1 : decide (x > 1000000) = false := decide_eq_false hx1
      have hx2 : x ≤ 1000000 := by omega
      have hx3 : 0 ≤ x := by omega
      go_wp2
      go_roundw
      case rel => exact ⟨k + 1, by omega, by go_num, HALL.out hx3 hx2, by rw [hsuc.out]; exact HST.out⟩
      case measure => simp [intOf]; omega
    · obtain rfl : k = ws.length := by omega
      have hlz : ¬ (ws.length : Int) < ws.length := by omega
      rw [List.take_length] at cs HSP HW
      have hz : sumI ws = 0 := by
        have h0 := sumI_nonneg (fun x hx => (HW.out x hx).1)
        by_cases h : sumI ws = 0
        · exact h
        · exact absurd ⟨by omega, by omega, HW.out, by omega⟩ HN.out
      rw [hz] at cs
      clear hz
      go_wp2
      go_ret2
      exact ⟨rfl, hb⟩

end Go.Proofs.Ytkimcopmfhjjcaa

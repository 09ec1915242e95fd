/- The program's panels: the best price that a state leads to. -/
import Derived.Deep.LoopGhost
import Derived.Test.YtebigkjilklodaaDoorQuoTs
import Derived.Test.YtebigkjilklodaaDoorRats
import Derived.Test.YtebigkjilklodaaDoorOwns
import Derived.Test.YtebigkjilklodaaDoorQuoVs
set_option linter.unusedVariables false
set_option linter.unusedSimpArgs false
namespace Go.Proofs.YtebigkjilklodaaDoor
open Go.RowKit

/-- A value: a price, whether there is one, whether the next entrant is taken. -/
structure VC where
  r : RatG
  ok : Bool
  take : Bool
def VC.arr (v : VC) : Array Value := #[.bool v.r.neg, .string v.r.num, .string v.r.den, .bool v.ok, .bool v.take]
def noR : RatG := ⟨false, ⟨#[]⟩, ⟨#[]⟩⟩
def noV : VC := ⟨noR, false, false⟩
def oVal (i : Nat) : Option (Rat × List Nat) → VC
  | none => noV
  | some a => ⟨ratG a.1, true, decide (a.2.head? = some i)⟩
/-- What a state's value is. -/
def PD.bv (d : PD) (p : Nat → Rat) (n i : Nat) (y : List Nat) : VC :=
  match top p (d.go n i y) with
  | none => if i = n then ⟨ratG 0, false, false⟩ else noV
  | some a => oVal i (some a)
theorem PD.bv_ok (d : PD) (p : Nat → Rat) (n i : Nat) (y : List Nat) {a : Rat × List Nat} (h : top p (d.go n i y) = some a) : d.bv p n i y = ⟨ratG a.1, true, decide (a.2.head? = some i)⟩ := by
  unfold PD.bv; rw [h]; rfl
theorem PD.bv_in (d : PD) (p : Nat → Rat) {n i : Nat} (hi : i < n) (y : List Nat) : d.bv p n i y = oVal i (top p (d.go n i y)) := by
  unfold PD.bv
  cases h : top p (d.go n i y) with
  | none => rw [if_neg (by omega)]; rfl
  | some a => rfl
theorem PD.bv_end (d : PD) (p : Nat → Rat) (n : Nat) (y : List Nat) : d.bv p n n y = ⟨ratG 0, d.fits y.length (d.cn y) [], false⟩ := by
  unfold PD.bv
  rw [d.go_end]
  cases d.fits y.length (d.cn y) []
  · rw [if_neg (by decide)]
    show (if n = n then _ else _) = _
    rw [if_pos rfl]
  · rw [if_pos rfl]; rfl
theorem PD.bv_same (d : PD) (p : Nat → Rat) {n i j : Nat} {x y : List Nat} (hm : d.m ≤ 12) (hb : ∀ i k, d.m ≤ k → d.row i k = false) (h : d.st i x = d.st j y) : d.bv p n i x = d.bv p n j y := by
  obtain ⟨rfl, _⟩ := d.st_go (n := n) hm h
  unfold PD.bv
  rw [d.st_same (n := n) hm hb h]
/-- Those who are left are later ones. -/
theorem PD.go_mem (d : PD) {n i : Nat} {y x : List Nat} (h : x ∈ d.go n i y) : x.Pairwise (· < ·) ∧ ∀ j ∈ x, i ≤ j ∧ j < i + (n - i) := by
  unfold PD.go at h
  rw [d.comp_eq] at h
  exact subs_mem.1 (List.mem_filter.1 h).1
theorem top_mem {p : Nat → Rat} {l : List (List Nat)} {a : Rat × List Nat} (h : top p l = some a) : a.2 ∈ l ∧ a.1 = price p a.2 := by
  obtain ⟨a1, a2⟩ := a
  obtain ⟨l1, l2, e1, e2, _⟩ := top_some h
  exact ⟨by rw [e1]; simp, e2⟩
theorem PD.go_head (d : PD) {n i : Nat} {y x : List Nat} (h : x ∈ d.go n (i + 1) y) : decide (x.head? = some i) = false := by
  apply decide_eq_false
  intro hx
  have := (d.go_mem h).2 i (List.mem_of_head? hx)
  omega
/-- The two ways of a state. -/
theorem PD.top_step (d : PD) (p : Nat → Rat) {n i : Nat} (hi : i < n) (y : List Nat) :
    top p (d.go n i y) = better (if d.may i y.length (d.cn y) = true then (top p (d.go n (i + 1) (y ++ [i]))).map fun a => (a.1 + p i, i :: a.2) else none) (top p (d.go n (i + 1) y)) := by
  rw [d.go_step hi, top_append]
  congr 1
  split
  · rw [top_map]
  · rfl

/-- A value's block. -/
def VAt (b : Nat) (w : World) (v : VC) : Prop := w.heap[b]? = some (.cells v.arr 111 (0, 0))
theorem VAt.at {b : Nat} {w : World} {v : VC} (h : VAt b w v) : (w.cell? ⟨b, 0, none⟩ = some (.bool v.r.neg) ∧ w.cell? ⟨b, 1, none⟩ = some (.string v.r.num) ∧ w.cell? ⟨b, 2, none⟩ = some (.string v.r.den) ∧ w.cell? ⟨b, 3, none⟩ = some (.bool v.ok) ∧ w.cell? ⟨b, 4, none⟩ = some (.bool v.take)) ∧
    (w.frozen? ⟨b, 0, none⟩ = false ∧ w.frozen? ⟨b, 1, none⟩ = false ∧ w.frozen? ⟨b, 2, none⟩ = false ∧ w.frozen? ⟨b, 3, none⟩ = false ∧ w.frozen? ⟨b, 4, none⟩ = false) ∧ b < w.heap.size := by
  refine ⟨⟨?_, ?_, ?_, ?_, ?_⟩, ⟨frozen_of_row w b 0 _ _ h, frozen_of_row w b 1 _ _ h, frozen_of_row w b 2 _ _ h, frozen_of_row w b 3 _ _ h, frozen_of_row w b 4 _ _ h⟩, (Array.getElem?_eq_some_iff.1 h).1⟩ <;> (rw [cell_of_row w b _ _ _ _ h]; rfl)
theorem VAt.later {b C : Nat} {w w' : World} {v : VC} (h : VAt b w v) (hb : Below C w w') (hC : b < C) : VAt b w' v := (hb.block b hC).trans h
/-- A list of prices. -/
def PricesAt (B : Nat) (w : World) (v : Value) (n : Nat) (ps : Nat → RatG) : Prop :=
  ∃ ao cap, v = .slice ao n cap ∧ ∀ k, k < n → ∃ b off, ao = some ⟨b, off, none⟩ ∧ b < B ∧ w.cell? ⟨b, off + k * 3, none⟩ = some (.bool (ps k).neg) ∧ w.cell? ⟨b, off + (k * 3 + 1), none⟩ = some (.string (ps k).num) ∧ w.cell? ⟨b, off + (k * 3 + 2), none⟩ = some (.string (ps k).den)
theorem PricesAt.mono {B B' : Nat} {w w' : World} {v : Value} {n : Nat} {ps : Nat → RatG} (h : PricesAt B w v n ps) (hb : Below B w w') (hB : B ≤ B') : PricesAt B' w' v n ps := by
  obtain ⟨ao, cap, rfl, hc⟩ := h
  refine ⟨ao, cap, rfl, fun k hk => ?_⟩
  obtain ⟨b, off, e, hlt, h1, h2, h3⟩ := hc k hk
  exact ⟨b, off, e, by omega, (hb.cell (p := ⟨b, _, none⟩) hlt).trans h1, (hb.cell (p := ⟨b, _, none⟩) hlt).trans h2, (hb.cell (p := ⟨b, _, none⟩) hlt).trans h3⟩

/-- What the search for the best has. -/
structure BstB (B : Nat) (w : World) (x : DrawC) (ins : Value) (d : PD) (n : Nat) (ps : Nat → RatG) (pv : Value) (tb kb fb pb mb : Nat) : Prop where
  tab : TabC tb w x ins
  tat : TabAt B w x ins d n
  kcell : w.heap[kb]? = some (.cells #[.map (some mb)] 108 (0, 0))
  fcell : w.heap[fb]? = some (.cells #[.func (.func 47) #[] #[.pointer (some ⟨tb, 0, none⟩), .pointer (some ⟨kb, 0, none⟩), .pointer (some ⟨fb, 0, none⟩), .pointer (some ⟨pb, 0, none⟩)]] 109 (0, 0))
  pcell : w.heap[pb]? = some (.cells #[pv] 66 (0, 0))
  pat : PricesAt B w pv n ps
  hB : B ≤ mb
  hBw : B ≤ w.heap.size
  htb : tb ≠ mb
  hkb : kb ≠ mb
  hfb : fb ≠ mb
  hpb : pb ≠ mb
  small : n ≤ 40
  psz : ∀ k, (ps k).num.size ≤ 200000 ∧ (ps k).den.size ≤ 200000
  sum : ∀ i x, x.length ≤ n → (∀ j ∈ x, i ≤ j ∧ j < n) → RatLe 200000 (price (fun k => (ps k).rat) x)
theorem BstB.keepS {B : Nat} {S : Nat → Prop} {w w' : World} {x : DrawC} {ins : Value} {d : PD} {n : Nat} {ps : Nat → RatG} {pv : Value} {tb kb fb pb mb : Nat} (h : BstB B w x ins d n ps pv tb kb fb pb mb) (k : Keeps S w w') (hS : ∀ j, j < B ∨ j = tb ∨ j = kb ∨ j = fb ∨ j = pb → ¬ S j) : BstB B w' x ins d n ps pv tb kb fb pb mb :=
  ⟨(k.block _ h.tab.lt (hS _ (by simp))).trans h.tab, h.tat.mono (k.belowB h.hBw (fun j hj => hS j (.inl hj))) (Nat.le_refl _),
   (k.block _ (Array.getElem?_eq_some_iff.1 h.kcell).1 (hS _ (by simp))).trans h.kcell, (k.block _ (Array.getElem?_eq_some_iff.1 h.fcell).1 (hS _ (by simp))).trans h.fcell, (k.block _ (Array.getElem?_eq_some_iff.1 h.pcell).1 (hS _ (by simp))).trans h.pcell,
   h.pat.mono (k.belowB h.hBw (fun j hj => hS j (.inl hj))) (Nat.le_refl _), h.hB, Nat.le_trans h.hBw k.size, h.htb, h.hkb, h.hfb, h.hpb, h.small, h.psz, h.sum⟩
theorem BstB.keep {B : Nat} {w w' : World} {x : DrawC} {ins : Value} {d : PD} {n : Nat} {ps : Nat → RatG} {pv : Value} {tb kb fb pb mb : Nat} (h : BstB B w x ins d n ps pv tb kb fb pb mb) (k : Keeps (· = mb) w w') : BstB B w' x ins d n ps pv tb kb fb pb mb :=
  h.keepS k (fun j hj e => by have h1 := h.hB; have h2 := h.htb; have h3 := h.hkb; have h4 := h.hfb; have h5 := h.hpb; omega)
/-- The memo says what is right. -/
def MemoB (w : World) (d : PD) (p : Nat → Rat) (n mb : Nat) (f : Value → Option Value) : Prop :=
  ∃ N, SMap w mb N f ∧ N ≤ (d.sts n).countP (fun v => (f v).isSome) ∧ ∀ i y v, f (d.st i y) = some v → v = .agg (d.bv p n i y).arr
theorem MemoB.lt {w : World} {d : PD} {p : Nat → Rat} {n mb : Nat} {f : Value → Option Value} (h : MemoB w d p n mb f) : mb < w.heap.size := by obtain ⟨N, h, _⟩ := h; exact h.lt
theorem MemoB.block {w w' : World} {d : PD} {p : Nat → Rat} {n mb : Nat} {f : Value → Option Value} (h : MemoB w d p n mb f) (hb : w'.heap[mb]? = w.heap[mb]?) : MemoB w' d p n mb f := by
  obtain ⟨N, h, r⟩ := h; exact ⟨N, h.block hb, r⟩
theorem MemoB.below {w w' : World} {d : PD} {p : Nat → Rat} {n mb : Nat} {f : Value → Option Value} (h : MemoB w d p n mb f) (hb : Below w.heap.size w w') : MemoB w' d p n mb f := h.block (hb.block _ h.lt)
theorem MemoB.made (w : World) (d : PD) (p : Nat → Rat) (n : Nat) : MemoB (w.alloc (.map #[] 0)) d p n w.heap.size (fun _ => none) :=
  ⟨0, SMap.made w, Nat.zero_le _, fun i y v h => by cases h⟩
theorem MemoB.put {B : Nat} {w : World} {x : DrawC} {ins : Value} {d : PD} {n : Nat} {ps : Nat → RatG} {pv : Value} {tb kb fb pb mb : Nat} {p : Nat → Rat} (hB : BstB B w x ins d n ps pv tb kb fb pb mb) {f : Value → Option Value} (h : MemoB w d p n mb f) {i : Nat} (hi : i < n) {y : List Nat} (hy : y ∈ pre i) (h0 : f (d.st i y) = none) :
    ∃ w', (Instr.mapUpdate 108 (.map (some mb)) (d.st i y) (.agg (d.bv p n i y).arr)).run Tryd.prog w = .ok () w' ∧ w.grownBy w' (some mb) ∧ ∃ g, MemoB w' d p n mb g ∧ ∀ j z, j < i → g (d.st j z) = f (d.st j z) := by
  obtain ⟨N, hM, hN, hf⟩ := h
  have hsm := hB.small
  have hsl := d.sts_length n
  have hpw : (2 : Nat) ^ n ≤ 2 ^ 40 := Nat.pow_le_pow_right (by decide) hsm
  have hcl : (d.sts n).countP (fun v => (f v).isSome) ≤ (d.sts n).length := List.countP_le_length
  obtain ⟨kl, hkl⟩ := st_key d (by omega) hy
  obtain ⟨w', hrun, ⟨g, g1, g2, hG⟩, hgr⟩ := hM.put (t := 108) (e := 111) Tryd.underlying108 hkl (.agg (d.bv p n i y).arr) (by omega)
  refine ⟨w', hrun, hgr, g, ⟨N + 1, hG, Nat.le_trans (Nat.succ_le_succ hN) (countP_put (d.sts_mem hi hy) h0 g1 g2), fun j z v hv => ?_⟩, fun j z hj => g1 _ fun e => ?_⟩
  · by_cases e : d.st j z = d.st i y
    · rw [e, g2] at hv
      rw [← Option.some.inj hv, d.bv_same p (n := n) hB.tat.few hB.tat.beyond e]
    · rw [g1 _ e] at hv; exact hf j z v hv
  · have := (d.st_go (n := n) hB.tat.few e).1; omega
theorem zeroVal (w : World) : (zeroValue 111).run Tryd.prog w = .ok (.agg noV.arr) w := by kernel_rfl

end Go.Proofs.YtebigkjilklodaaDoor

/- The program's panels: the best price that a state leads to: the walk. -/
namespace Go.Proofs.YtebigkjilklodaaDoor
open Go.RowKit

theorem BstB.cells {B : Nat} {w : World} {x : DrawC} {ins : Value} {d : PD} {n : Nat} {ps : Nat → RatG} {pv : Value} {tb kb fb pb mb : Nat} (h : BstB B w x ins d n ps pv tb kb fb pb mb) :
    (w.cell? ⟨tb, 0, none⟩ = some (x.a0) ∧ w.cell? ⟨tb, 1, none⟩ = some (.int .i64 x.kind) ∧ w.cell? ⟨tb, 2, none⟩ = some (x.a2) ∧ w.cell? ⟨tb, 3, none⟩ = some (x.a3) ∧ w.cell? ⟨tb, 4, none⟩ = some (x.a4) ∧ w.cell? ⟨tb, 5, none⟩ = some (x.a5) ∧ w.cell? ⟨tb, 6, none⟩ = some (x.a6) ∧ w.cell? ⟨tb, 7, none⟩ = some (x.a7) ∧ w.cell? ⟨tb, 8, none⟩ = some (x.a8) ∧ w.cell? ⟨tb, 9, none⟩ = some (x.a9) ∧ w.cell? ⟨tb, 10, none⟩ = some (.int .i64 x.size) ∧ w.cell? ⟨tb, 11, none⟩ = some (x.qs) ∧ w.cell? ⟨tb, 12, none⟩ = some (x.a12) ∧ w.cell? ⟨tb, 13, none⟩ = some (ins)) ∧
    w.cell? ⟨kb, 0, none⟩ = some (.map (some mb)) ∧ w.cell? ⟨fb, 0, none⟩ = some (.func (.func 47) #[] #[.pointer (some ⟨tb, 0, none⟩), .pointer (some ⟨kb, 0, none⟩), .pointer (some ⟨fb, 0, none⟩), .pointer (some ⟨pb, 0, none⟩)]) ∧ w.cell? ⟨pb, 0, none⟩ = some pv ∧
    tb < w.heap.size ∧ kb < w.heap.size ∧ fb < w.heap.size ∧ pb < w.heap.size := by
  have k0 : w.cell? ⟨kb, 0, none⟩ = some (.map (some mb)) := by rw [cell_of_row w kb _ _ _ _ h.kcell]; rfl
  have f0 : w.cell? ⟨fb, 0, none⟩ = some (.func (.func 47) #[] #[.pointer (some ⟨tb, 0, none⟩), .pointer (some ⟨kb, 0, none⟩), .pointer (some ⟨fb, 0, none⟩), .pointer (some ⟨pb, 0, none⟩)]) := by rw [cell_of_row w fb _ _ _ _ h.fcell]; rfl
  have p0 : w.cell? ⟨pb, 0, none⟩ = some pv := by rw [cell_of_row w pb _ _ _ _ h.pcell]; rfl
  exact ⟨cells14 h.tab, k0, f0, p0, h.tab.lt, cell_lt k0, cell_lt f0, cell_lt p0⟩
/-- A value is written over another. -/
theorem VAt.put {b : Nat} {w : World} {v : VC} (h : VAt b w v) (u : VC) : VAt b (over b w 0 [.bool u.r.neg, .string u.r.num, .string u.r.den, .bool u.ok, .bool u.take]) u := over_all h _ rfl
/-- What the search ends in. -/
def BestEnd (d : PD) (p : Nat → Rat) (n i : Nat) (y : List Nat) (mb : Nat) (f : Value → Option Value) (w : World) (e : Ending) (w' : World) : Prop :=
  e = .returned (.agg (d.bv p n i y).arr) ∧ Keeps (· = mb) w w' ∧ ∃ g, MemoB w' d p n mb g ∧ ∀ j z, j < i → g (d.st j z) = f (d.st j z)
def BestOK (B : Nat) (x : DrawC) (ins : Value) (d : PD) (n : Nat) (ps : Nat → RatG) (pv : Value) (tb kb fb pb mb i : Nat) : Prop :=
  ∀ (y : List Nat) (f : Value → Option Value) (w : World), y ∈ pre i → BstB B w x ins d n ps pv tb kb fb pb mb → MemoB w d (fun k => (ps k).rat) n mb f →
    Calls Tryd.prog 47 #[.agg (stA i y.length (d.cn y)), .pointer (some ⟨tb, 0, none⟩), .pointer (some ⟨kb, 0, none⟩), .pointer (some ⟨fb, 0, none⟩), .pointer (some ⟨pb, 0, none⟩)] w (BestEnd d (fun k => (ps k).rat) n i y mb f w)

set_option maxHeartbeats 1000000 in
set_option maxRecDepth 100000 in
theorem qbest_last (B : Nat) (x : DrawC) (ins : Value) (d : PD) (n : Nat) (ps : Nat → RatG) (pv : Value) (tb kb fb pb mb : Nat) : BestOK B x ins d n ps pv tb kb fb pb mb n := by
  intro y f w hy hb hm
  have HB := Lib.hid hb
  have HM := Lib.hid hm
  obtain ⟨ao, cap, rfl, _⟩ := hb.tat.ins
  have hsz := hb.tat.size
  clear hb hm hy
  obtain ⟨a0, a2, a3, a4, a5, a6, a7, a8, a9, a12, kind, size, qs⟩ := x
  dsimp only at hsz
  subst hsz
  unfold stA
  obtain ⟨⟨t0, t1, t2, t3, t4, t5, t6, t7, t8, t9, t10, t11, t12, t13⟩, k0, f0, p0, hlt, klt, flt, plt⟩ := HB.out.cells
  dsimp only at t0 t1 t2 t3 t4 t5 t6 t7 t8 t9 t10 t11 t12 t13
  have HDONE : Hid (∀ W, Below w.heap.size w W → Calls Tryd.prog 37 #[.agg #[a0, .int .i64 kind, a2, a3, a4, a5, a6, a7, a8, a9, .int .i64 d.size, qs, a12, .slice ao n cap], .agg #[.int .i64 (n : Int), .int .i64 (y.length : Int), .int .i64 (d.cn y 0 : Int), .int .i64 (d.cn y 1 : Int), .int .i64 (d.cn y 2 : Int), .int .i64 (d.cn y 3 : Int), .int .i64 (d.cn y 4 : Int), .int .i64 (d.cn y 5 : Int), .int .i64 (d.cn y 6 : Int), .int .i64 (d.cn y 7 : Int), .int .i64 (d.cn y 8 : Int), .int .i64 (d.cn y 9 : Int), .int .i64 (d.cn y 10 : Int), .int .i64 (d.cn y 11 : Int)]] W fun e w' => e = .returned (.bool (d.fits y.length (d.cn y) [])) ∧ Below W.heap.size W w') :=
    fun W hW => qdone_any B n ⟨a0, a2, a3, a4, a5, a6, a7, a8, a9, a12, kind, d.size, qs⟩ (.slice ao n cap) d n y.length (d.cn y) W (HB.out.keep (.of_below hW)).hBw (HB.out.keep (.of_below hW)).tat
  have HOF : Hid (∀ w, Calls Tryd.prog 26 #[.int .i64 0] w fun e w' => e = .returned (.agg #[.bool (ratG 0).neg, .string (ratG 0).num, .string (ratG 0).den]) ∧ Below w.heap.size w w') := fun w => by
    have h := pROf_any 0 w (by decide) (by decide)
    unfold QRet at h
    rw [show ((0 : Int) : Rat) = 0 from Rat.intCast_zero] at h
    exact h
  have HEND : Hid (∀ w', Below w.heap.size w w' → BestEnd d (fun k => (ps k).rat) n n y mb f w (.returned (.agg #[.bool (ratG 0).neg, .string (ratG 0).num, .string (ratG 0).den, .bool (d.fits y.length (d.cn y) []), .bool false])) w') := fun w' hb => by
    refine ⟨?_, .of_below hb, f, HM.out.below hb, fun _ _ _ => rfl⟩
    rw [d.bv_end]; rfl
  obtain ⟨z, hz⟩ : ∃ z, z = ratG 0 := ⟨_, rfl⟩
  obtain ⟨fq, hfq⟩ : ∃ fq, fq = d.fits y.length (d.cn y) [] := ⟨_, rfl⟩
  rw [← hz] at HOF HEND
  rw [← hfq] at HDONE HEND
  obtain ⟨z1, z2, z3⟩ := z
  dsimp only at HOF HEND
  clear hz hfq
  go_enter Tryd.func47, Tryd.ntmps47
  go_wp2_with fail
  generalize hW0 : World.alloc _ _ = W0
  obtain ⟨hS', hV', hB0, hs0⟩ := alloc2 _ _ _ _ _ hW0
  clear hW0
  have hS : StAt w.heap.size W0 n y.length (d.cn y) := hS'
  have hV : VAt (w.heap.size + 1) W0 noV := hV'
  clear hS' hV'
  have HTW : Hid (∀ w', Kept W0 w' → w'.cell? ⟨tb, 0, none⟩ = some (a0) ∧ w'.cell? ⟨tb, 1, none⟩ = some (.int .i64 kind) ∧ w'.cell? ⟨tb, 2, none⟩ = some (a2) ∧ w'.cell? ⟨tb, 3, none⟩ = some (a3) ∧ w'.cell? ⟨tb, 4, none⟩ = some (a4) ∧ w'.cell? ⟨tb, 5, none⟩ = some (a5) ∧ w'.cell? ⟨tb, 6, none⟩ = some (a6) ∧ w'.cell? ⟨tb, 7, none⟩ = some (a7) ∧ w'.cell? ⟨tb, 8, none⟩ = some (a8) ∧ w'.cell? ⟨tb, 9, none⟩ = some (a9) ∧ w'.cell? ⟨tb, 10, none⟩ = some (.int .i64 d.size) ∧ w'.cell? ⟨tb, 11, none⟩ = some (qs) ∧ w'.cell? ⟨tb, 12, none⟩ = some (a12) ∧ w'.cell? ⟨tb, 13, none⟩ = some (.slice ao n cap)) := fun w' hC => by
    have hk := (hC.below hB0 hB0.size)
    exact ((HB.out.keep (.of_below hk)).cells).1
  have HSW : Hid (∀ w', Kept W0 w' → StAt w.heap.size w' n y.length (d.cn y)) := fun w' hC => hS.later hC.1 hS.lt
  have vlt := hV.at.2.2
  have HB0 := Lib.hid hB0
  have HVV := Lib.hid hV
  have HDN : Hid (∀ w', Kept W0 w' → Calls Tryd.prog 37 #[.agg #[a0, .int .i64 kind, a2, a3, a4, a5, a6, a7, a8, a9, .int .i64 d.size, qs, a12, .slice ao n cap], .agg #[.int .i64 (n : Int), .int .i64 (y.length : Int), .int .i64 (d.cn y 0 : Int), .int .i64 (d.cn y 1 : Int), .int .i64 (d.cn y 2 : Int), .int .i64 (d.cn y 3 : Int), .int .i64 (d.cn y 4 : Int), .int .i64 (d.cn y 5 : Int), .int .i64 (d.cn y 6 : Int), .int .i64 (d.cn y 7 : Int), .int .i64 (d.cn y 8 : Int), .int .i64 (d.cn y 9 : Int), .int .i64 (d.cn y 10 : Int), .int .i64 (d.cn y 11 : Int)]] w' fun e w'' => e = .returned (.bool fq) ∧ Below w'.heap.size w' w'') := fun w' hC => HDONE.out w' (hC.below hB0 hB0.size)
  clear hS hV hB0 t0 t1 t2 t3 t4 t5 t6 t7 t8 t9 t10 t11 t12 t13 k0 f0 p0 hlt klt flt plt HDONE
  refine wp_region_class_tail (Kept _) 5 (by kernel_rfl) (by kernel_rfl) (Kept.drew _) ?_
  simp only [List.take_succ_cons, List.take_zero, List.drop_succ_cons, List.drop_zero, List.cons_append, List.nil_append]
  repeat (first
    | go_big_quiet_skip
    | (refine BigFrame.wpQuiet_want (by rfl) (fun K hK => ?_)
       first
         | (refine BigFrame.quiet_move _ rfl ?_; refine hK _ ?_)
         | (refine BigFrame.quiet_assign _ rfl ?_; refine hK _ ?_)
         | (apply Exists.intro; refine ⟨fun w' hC => ?_, hK _ ?_⟩
            · (obtain ⟨u0, u1, u2, u3, u4, u5, u6, u7, u8, u9, u10, u11, u12, u13⟩ := HTW.out w' hC; obtain ⟨n0, n1, n2, n3, n4, n5, n6, n7, n8, n9, n10, n11, n12, n13⟩ := (HSW.out w' hC).all; unfold Oper.quietAt; go_simp; first | rfl | (go_at_call 26; with_reducible refine (HOF.out w').mono ?_; exact fun e w'' ⟨he, hb⟩ => ⟨he, hC.next hb⟩) | (go_at_call 37; with_reducible refine (HDN.out w' hC).mono ?_; exact fun e w'' ⟨he, hb⟩ => ⟨he, hC.next hb⟩)))
       simp only [Act.put, Act.eval, List.setIfInBounds_toArray, List.set_cons_zero, List.set_cons_succ, Array.getD_eq_getD_getElem?, List.getElem?_toArray, List.getElem?_cons_succ, List.getElem?_cons_zero, Option.getD_some]
       clear hK K))
  refine wpQuiet_nil ?_
  intro wq hCq
  have hVq := HVV.out.later hCq.1 vlt
  obtain ⟨⟨q0, q1, q2, q3, q4⟩, ⟨e0, e1, e2, e3, e4⟩, vlt2⟩ := hVq.at
  have HVQ := Lib.hid hVq
  have HBQ := Lib.hid (hCq.below HB0.out HB0.out.size)
  clear hCq hVq
  go_wp2_with fail
  generalize hWE : World.setCell _ _ _ = WE
  have hVE : VAt (w.heap.size + 1) WE ⟨⟨z1, z2, z3⟩, fq, false⟩ := by rw [← hWE]; exact HVQ.out.put ⟨⟨z1, z2, z3⟩, fq, false⟩
  have hBE : Below w.heap.size w WE := by rw [← hWE]; exact over_below (b := w.heap.size + 1) (by omega) [.bool z1, .string z2, .string z3, .bool fq, .bool false] _ 0 HBQ.out
  clear hWE q0 q1 q2 q3 q4
  obtain ⟨⟨q0, q1, q2, q3, q4⟩, _, _⟩ := hVE.at
  dsimp only at q0 q1 q2 q3 q4
  exact bodyPost_ret (v := .agg #[.bool z1, .string z2, .string z3, .bool fq, .bool false]) (by simp [results, Tryd.results47, go_sem, q0, q1, q2, q3, q4]) rfl (HEND.out _ hBE)

end Go.Proofs.YtebigkjilklodaaDoor

/- The program's panels: the best price that a state leads to: one state. -/
namespace Go.Proofs.YtebigkjilklodaaDoor
open Go.RowKit

theorem subs_len : ∀ (r i : Nat), ∀ x ∈ subs i r, x.length ≤ r := by
  intro r
  induction r with
  | zero => intro i x hx; simp [subs] at hx; simp [hx]
  | succ r ih =>
    intro i x hx
    simp only [subs, List.mem_append, List.mem_map] at hx
    rcases hx with ⟨y, hy, rfl⟩ | hx
    · have := ih _ _ hy; simp; omega
    · have := ih _ _ hx; omega
/-- Prices stay small. -/
theorem bv_small {B : Nat} {w : World} {x : DrawC} {ins : Value} {d : PD} {n : Nat} {ps : Nat → RatG} {pv : Value} {tb kb fb pb mb : Nat} (h : BstB B w x ins d n ps pv tb kb fb pb mb) (i : Nat) (y : List Nat) :
    (d.bv (fun k => (ps k).rat) n i y).r.num.size ≤ 200000 ∧ (d.bv (fun k => (ps k).rat) n i y).r.den.size ≤ 200000 := by
  unfold PD.bv
  cases ht : top (fun k => (ps k).rat) (d.go n i y) with
  | none =>
    dsimp only
    split
    · have := h.sum 0 [] (by simp) (by simp)
      exact this
    · exact ⟨by decide, by decide⟩
  | some a =>
    obtain ⟨h1, h2⟩ := top_mem ht
    have h3 := d.go_mem h1
    have hlen : a.2.length ≤ n - i := by
      have := (subs_mem (i := i) (rem := n - i)).2 ⟨h3.1, h3.2⟩
      exact subs_len _ _ _ this
    have h4 := h.sum i a.2 (by omega) (fun j hj => by have := h3.2 j hj; omega)
    rw [← h2] at h4
    exact h4

/-- What has been found after so many choices. -/
def accV (d : PD) (p : Nat → Rat) (n i : Nat) (y : List Nat) (k : Nat) : Option (Rat × List Nat) :=
  better (if 1 ≤ k ∧ d.may i y.length (d.cn y) = true then (top p (d.go n (i + 1) (y ++ [i]))).map fun a => (a.1 + p i, i :: a.2) else none) (if 2 ≤ k then top p (d.go n (i + 1) y) else none)

theorem keeps_over (b : Nat) : ∀ (vs : List Value) (w : World) (o : Nat), Keeps (fun j => j = b) w (over b w o vs) := by
  intro vs
  induction vs with
  | nil => intro w o; exact Keeps.refl _ _
  | cons v vs ih => intro w o; exact ((Keeps.refl (fun j => j = b) w).setCell (p := ⟨b, o, none⟩) (fun _ => rfl) v).trans (ih _ _)
theorem acc2_eq (d : PD) (p : Nat → Rat) (n i : Nat) (y : List Nat) : accV d p n i y 2 = better (accV d p n i y 1) (top p (d.go n (i + 1) y)) := by
  unfold accV
  rw [if_pos (Nat.le_refl 2), if_neg (by decide : ¬ 2 ≤ 1), better_none]
  congr 1
  simp
theorem acc2_all (d : PD) (p : Nat → Rat) {n i : Nat} (hi : i < n) (y : List Nat) : accV d p n i y 2 = top p (d.go n i y) := by
  unfold accV
  rw [d.top_step p hi, if_pos (Nat.le_refl 2)]
  congr 1
  simp
theorem VAt.setR {b : Nat} {w : World} {v : VC} (h : VAt b w v) (x y z : Value) (r : RatG) (hx : x = .bool r.neg) (hy : y = .string r.num) (hz : z = .string r.den) : VAt b (((w.setCell ⟨b, 0, none⟩ x).setCell ⟨b, 1, none⟩ y).setCell ⟨b, 2, none⟩ z) ⟨r, v.ok, v.take⟩ := by
  subst hx hy hz
  have h1 := heap_setCell_same w b 0 _ _ (.bool r.neg) h
  have h2 := heap_setCell_same _ b 1 _ _ (.string r.num) h1
  exact heap_setCell_same _ b 2 _ _ (.string r.den) h2
theorem bv_cases {d : PD} {p : Nat → Rat} {n j : Nat} {y : List Nat} {v : VC} (h : v = d.bv p n j y) : (v.ok = false → top p (d.go n j y) = none) ∧ (v.ok = true → ∃ a, top p (d.go n j y) = some a ∧ v.r = ratG a.1) := by
  subst h
  cases ht : top p (d.go n j y) with
  | none =>
    refine ⟨fun _ => rfl, fun h => ?_⟩
    exfalso
    unfold PD.bv at h
    rw [ht] at h
    dsimp only at h
    split at h <;> cases h
  | some a =>
    rw [d.bv_ok p n j y ht]
    exact ⟨fun h => (by cases h), fun _ => ⟨a, rfl, rfl⟩⟩
theorem acc1_small {B : Nat} {w : World} {x : DrawC} {ins : Value} {d : PD} {n : Nat} {ps : Nat → RatG} {pv : Value} {tb kb fb pb mb i : Nat} (h : BstB B w x ins d n ps pv tb kb fb pb mb) (hi : i < n) (y : List Nat) {a : Rat × List Nat} (ha : accV d (fun k => (ps k).rat) n i y 1 = some a) : RatLe 200000 a.1 := by
  unfold accV at ha
  rw [if_neg (by decide : ¬ 2 ≤ 1), better_none] at ha
  split at ha
  · rw [Option.map_eq_some_iff] at ha
    obtain ⟨c, hc, rfl⟩ := ha
    obtain ⟨h1, h2⟩ := top_mem hc
    have h3 := d.go_mem h1
    have h4 : c.2.length ≤ n - (i + 1) := by
      have h5 := (subs_mem (i := i + 1) (rem := n - (i + 1))).2 ⟨h3.1, h3.2⟩
      exact subs_len _ _ _ h5
    have h6 := h.sum i (i :: c.2) (by rw [List.length_cons]; omega) (fun j hj => by
      rcases List.mem_cons.1 hj with rfl | hj
      · omega
      · have := h3.2 j hj; omega)
    rw [price_cons, ← h2] at h6
    exact h6
  · cases ha

set_option maxHeartbeats 2000000 in
set_option maxRecDepth 100000 in
theorem qbest_step (B : Nat) (x : DrawC) (ins : Value) (d : PD) (n : Nat) (ps : Nat → RatG) (pv : Value) (tb kb fb pb mb i : Nat) (hin : i < n) (ih : BestOK B x ins d n ps pv tb kb fb pb mb (i + 1)) : BestOK B x ins d n ps pv tb kb fb pb mb i := by
  intro y f w hy hb hm
  have HY := Lib.hid hy
  have HB := Lib.hid hb
  have HM := Lib.hid hm
  have HIH := Lib.hid ih
  obtain ⟨ao, cap, rfl, _⟩ := hb.tat.ins
  have hsz := hb.tat.size
  have hi40 : i ≤ 40 := by have := hb.small; omega
  have hy40 := pre_few hy
  clear hb hm hy ih
  obtain ⟨a0, a2, a3, a4, a5, a6, a7, a8, a9, a12, kind, size, qs⟩ := x
  dsimp only at hsz
  subst hsz
  unfold stA
  obtain ⟨⟨t0, t1, t2, t3, t4, t5, t6, t7, t8, t9, t10, t11, t12, t13⟩, k0, f0, p0, hlt, klt, flt, plt⟩ := HB.out.cells
  dsimp only at t0 t1 t2 t3 t4 t5 t6 t7 t8 t9 t10 t11 t12 t13
  have hni : ¬ (i : Int) = n := by omega
  obtain ⟨kl, hkl⟩ := st_key d hi40 HY.out
  have HMLT := Lib.hid HM.out.lt
  obtain ⟨W0, hW0⟩ : ∃ W0, W0 = (w.alloc (.cells (stA i y.length (d.cn y)) 89)).alloc (.cells noV.arr 111) := ⟨_, rfl⟩
  obtain ⟨hS', hV', hB0, hs0⟩ := alloc2 _ _ _ _ _ hW0.symm
  have HS0 : Hid (StAt w.heap.size W0 i y.length (d.cn y)) := hS'
  have HV0 : Hid (VAt (w.heap.size + 1) W0 noV) := hV'
  have HB0 := Lib.hid hB0
  have HSZ0 := Lib.hid hs0
  obtain ⟨N, hMm, hN, hf⟩ := HM.out.below hB0
  have hlook := hMm.look_ok (t := 108) (e := 111) Tryd.underlying108 (z := .agg noV.arr) (zeroVal _) hkl
  cases hfs : f (d.st i y) with
  | some v =>
    rw [hfs] at hlook
    obtain rfl := hf i y v hfs
    unfold PD.st stA at hlook
    simp only [Option.getD_some, Option.isSome_some] at hlook
    obtain ⟨V, hV⟩ : ∃ V, V = d.bv (fun k => (ps k).rat) n i y := ⟨_, rfl⟩
    rw [← hV] at hlook
    have HEND : Hid (∀ w', Below w.heap.size w w' → BestEnd d (fun k => (ps k).rat) n i y mb f w (.returned (.agg V.arr)) w') := fun w' hb => by
      exact ⟨by rw [hV], .of_below hb, f, HM.out.below hb, fun _ _ _ => rfl⟩
    obtain ⟨⟨v1, v2, v3⟩, v4, v5⟩ := V
    rw [hW0] at hlook
    unfold stA VC.arr noV noR at hlook
    dsimp only at hlook
    clear hMm hN hf hfs hkl hS' hV' hB0 hs0 hW0 hV
    go_enter Tryd.func47, Tryd.ntmps47
    go_wp2_with fail
    have hb3 : Below w.heap.size w (((w.alloc (.cells (stA i y.length (d.cn y)) 89)).alloc (.cells (VC.arr ⟨⟨v1, v2, v3⟩, v4, v5⟩) 111)).alloc (.cells (VC.arr ⟨⟨v1, v2, v3⟩, v4, v5⟩) 111)) := (((Below.refl _ _).alloc (Nat.le_refl _) _).alloc (by simp) _).alloc (by simp; omega) _
    exact bodyPost_ret (v := .agg #[.bool v1, .string v2, .string v3, .bool v4, .bool v5]) (by simp [results, Tryd.results47, go_sem]) rfl (HEND.out _ hb3)
  | none =>
    rw [hfs] at hlook
    unfold PD.st stA at hlook
    simp only [Option.getD_none, Option.isSome_none] at hlook
    have HFS := Lib.hid hfs
    rw [hW0] at hlook
    unfold stA VC.arr noV noR at hlook
    dsimp only at hlook
    clear hMm hN hf hfs hkl hS' hV' hB0 hs0
    go_enter Tryd.func47, Tryd.ntmps47
    go_wp2_with fail
    generalize hW3 : World.alloc _ _ = W3
    obtain ⟨hS', hR', _, hO', hB3, hs3⟩ := alloc4 _ _ _ _ _ _ _ _ _ hW3
    have HS3 : Hid (StAt w.heap.size W3 i y.length (d.cn y)) := hS'
    have HR3 : Hid (VAt (w.heap.size + 1) W3 noV) := hR'
    have HO3 : Hid (VAt (w.heap.size + 1 + 1 + 1) W3 noV) := hO'
    have HB3 := Lib.hid hB3
    have HSZ3 := Lib.hid hs3
    clear hW3 hS' hR' hO' hB3 hs3 hlook hW0 HS0 HV0 HB0 HSZ0
    refine (qchoices_any _).mono ?_
    rintro e w2 ⟨rfl, hb⟩
    have HS2 := Lib.hid (HS3.out.later hb HS3.out.lt)
    have HR2 := Lib.hid (HR3.out.later hb HR3.out.at.2.2)
    have HO2 := Lib.hid (HO3.out.later hb HO3.out.at.2.2)
    have HB2 := Lib.hid (HB3.out.trans (hb.mono HB3.out.size))
    clear hb HS3 HR3 HO3 HB3 HSZ3 t0 t1 t2 t3 t4 t5 t6 t7 t8 t9 t10 t11 t12 t13 k0 f0 p0 hlt klt flt plt
    go_wp2_with fail
    have HADY : Hid (∀ W, Keeps (· = mb) w W → Calls Tryd.prog 36 #[.agg (tabA ⟨a0, a2, a3, a4, a5, a6, a7, a8, a9, a12, kind, d.size, qs⟩ (.slice ao n cap)), .agg (stA i y.length (d.cn y)), .bool true] W (AddEnd d i y.length (d.cn y) W)) :=
      fun W hW => qadd_yes B n ⟨a0, a2, a3, a4, a5, a6, a7, a8, a9, a12, kind, d.size, qs⟩ (.slice ao n cap) d i y.length (d.cn y) W (HB.out.keep hW).hBw (HB.out.keep hW).tat hin (by omega) (by omega) (fun k => by have := d.cn_le y k; omega)
    have HADN : Hid (∀ W, Calls Tryd.prog 36 #[.agg (tabA ⟨a0, a2, a3, a4, a5, a6, a7, a8, a9, a12, kind, d.size, qs⟩ (.slice ao n cap)), .agg (stA i y.length (d.cn y)), .bool false] W fun e w' => e = .returned (.tuple #[.agg (stA (i + 1) y.length (d.cn y)), .bool true]) ∧ Below W.heap.size W w') :=
      fun W => qadd_no ⟨a0, a2, a3, a4, a5, a6, a7, a8, a9, a12, kind, d.size, qs⟩ (.slice ao n cap) i y.length (d.cn y) W (by omega)
    have HI1 : Hid (∀ (W : World) (c' : Nat → Nat) (g : Value → Option Value), (∀ k, c' k = d.up i (d.cn y) k) → Keeps (· = mb) w W → MemoB W d (fun k => (ps k).rat) n mb g → Calls Tryd.prog 47 #[.agg #[.int .i64 ((i : Int) + 1), .int .i64 ((y.length : Int) + 1), .int .i64 (c' 0 : Int), .int .i64 (c' 1 : Int), .int .i64 (c' 2 : Int), .int .i64 (c' 3 : Int), .int .i64 (c' 4 : Int), .int .i64 (c' 5 : Int), .int .i64 (c' 6 : Int), .int .i64 (c' 7 : Int), .int .i64 (c' 8 : Int), .int .i64 (c' 9 : Int), .int .i64 (c' 10 : Int), .int .i64 (c' 11 : Int)], .pointer (some ⟨tb, 0, none⟩), .pointer (some ⟨kb, 0, none⟩), .pointer (some ⟨fb, 0, none⟩), .pointer (some ⟨pb, 0, none⟩)] W (BestEnd d (fun k => (ps k).rat) n (i + 1) (y ++ [i]) mb g W)) := by
      intro W c' g hc hW hm
      have h := HIH.out (y ++ [i]) g W (pre_yes HY.out) (HB.out.keep hW) hm
      obtain rfl : c' = d.cn (y ++ [i]) := by funext k; rw [hc k, d.up_cn]
      have e1 : ((i + 1 : Nat) : Int) = (i : Int) + 1 := by omega
      have e2 : (((y ++ [i]).length : Nat) : Int) = (y.length : Int) + 1 := by simp
      unfold stA at h
      rw [e1, e2] at h
      exact h
    have HI2 : Hid (∀ (W : World) (g : Value → Option Value), Keeps (· = mb) w W → MemoB W d (fun k => (ps k).rat) n mb g → Calls Tryd.prog 47 #[.agg #[.int .i64 ((i : Int) + 1), .int .i64 (y.length : Int), .int .i64 (d.cn y 0 : Int), .int .i64 (d.cn y 1 : Int), .int .i64 (d.cn y 2 : Int), .int .i64 (d.cn y 3 : Int), .int .i64 (d.cn y 4 : Int), .int .i64 (d.cn y 5 : Int), .int .i64 (d.cn y 6 : Int), .int .i64 (d.cn y 7 : Int), .int .i64 (d.cn y 8 : Int), .int .i64 (d.cn y 9 : Int), .int .i64 (d.cn y 10 : Int), .int .i64 (d.cn y 11 : Int)], .pointer (some ⟨tb, 0, none⟩), .pointer (some ⟨kb, 0, none⟩), .pointer (some ⟨fb, 0, none⟩), .pointer (some ⟨pb, 0, none⟩)] W (BestEnd d (fun k => (ps k).rat) n (i + 1) y mb g W)) := by
      intro W g hW hm
      have h := HIH.out y g W (pre_no HY.out) (HB.out.keep hW) hm
      have e1 : ((i + 1 : Nat) : Int) = (i : Int) + 1 := by omega
      unfold stA at h
      rw [e1] at h
      exact h
    clear HIH
    obtain ⟨mq, hmq⟩ : ∃ mq, mq = d.may i y.length (d.cn y) := ⟨_, rfl⟩
    have HMQ := Lib.hid hmq
    clear hmq
    go_loopw [35] (fun u wr => ∃ k : Nat, k ≤ 2 ∧ u = .int .i64 k ∧ Hid (Keeps (fun j => j = mb ∨ j = w.heap.size + 1 + 1 + 1) w2 wr) ∧ Hid (VAt (w.heap.size + 1 + 1 + 1) wr (oVal i (accV d (fun k => (ps k).rat) n i y k))) ∧ ∃ g, Hid (MemoB wr d (fun k => (ps k).rat) n mb g) ∧ Hid (∀ j z, j ≤ i → g (d.st j z) = f (d.st j z))) (fun u _ => 2 - (intOf u).toNat)
    case atStart => exact ⟨0, Nat.zero_le _, rfl, Keeps.refl _ _, HO2, f, HM.out.below HB2.out, fun _ _ _ => rfl⟩
    case round =>
      obtain ⟨k, hk, rfl, hKr, hOr, g, hMr, hgr⟩ := hrel
      have hmlt := HMLT.out
      have hKw : Keeps (· = mb) w wr := (Keeps.of_below HB2.out).then hKr.out (fun j hj e => by rcases e with e | e <;> omega)
      have hSr : StAt w.heap.size wr i y.length (d.cn y) := (hKr.out.block _ HS2.out.lt (fun e => by rcases e with e | e <;> omega)).trans HS2.out
      obtain ⟨⟨t0, t1, t2, t3, t4, t5, t6, t7, t8, t9, t10, t11, t12, t13⟩, k0, f0, p0, hlt, klt, flt, plt⟩ := (HB.out.keep hKw).cells
      dsimp only at t0 t1 t2 t3 t4 t5 t6 t7 t8 t9 t10 t11 t12 t13
      obtain ⟨n0, n1, n2, n3, n4, n5, n6, n7, n8, n9, n10, n11, n12, n13⟩ := hSr.all
      have slt := hSr.lt
      have hszr := hKr.out.size
      have i0 := idx0
      have i1 := idx1
      have HSR := Lib.hid hSr
      have HKW := Lib.hid hKw
      clear hSr hKw
      match k, hk with
      | 0, _ =>
        go_wp2_with fail
        refine (HADY.out _ HKW.out).mono ?_
        rintro e w3 ⟨⟨c', rfl, hc'⟩, hb3⟩
        rw [← HMQ.out] at hc' ⊢
        have HK3 := Lib.hid (hKr.out.belowS hb3)
        have HW3 := Lib.hid (HKW.out.belowS hb3)
        have HS3 := Lib.hid (HSR.out.later hb3 slt)
        have HM3 := Lib.hid (hMr.out.below hb3)
        have HO3 := Lib.hid (hOr.out.later hb3 hOr.out.at.2.2)
        have HC' := Lib.hid hc'
        clear t0 t1 t2 t3 t4 t5 t6 t7 t8 t9 t10 t11 t12 t13 n0 n1 n2 n3 n4 n5 n6 n7 n8 n9 n10 n11 n12 n13 k0 f0 p0 hlt klt flt plt slt hb3 hc' hKr hMr hOr hszr
        unfold stA
        cases mq with
        | false =>
          go_wp2_with fail
          have HO4 : Hid (∀ o, VAt (w.heap.size + 1 + 1 + 1) (w3.alloc o) (oVal i (accV d (fun k => (ps k).rat) n i y 1))) := fun o => by
            have h := HO3.out.later ((Below.refl _ _).alloc (Nat.le_refl _) o) HO3.out.at.2.2
            unfold accV at h ⊢
            rw [← HMQ.out]
            exact h
          go_roundw
          case rel => exact ⟨1, by omega, by go_num, HK3.out.alloc _, HO4.out _, g, HM3.out.below ((Below.refl _ _).alloc (Nat.le_refl _) _), hgr⟩
          case measure => simp [intOf]
        | true =>
          obtain ⟨_, k0, f0, _, _, klt, flt, _⟩ := (HB.out.keep HW3.out).cells
          go_wp2_with fail
          refine (HI1.out _ c' g (HC'.out trivial) (HW3.out.alloc _) (HM3.out.below ((Below.refl _ _).alloc (Nat.le_refl _) _))).mono ?_
          rintro e w4 ⟨rfl, hk4, g4, hm4, hg4⟩
          have hsb : ∀ j, w.heap.size ≤ j → j ≠ mb := fun j hj e => by have := HMLT.out; omega
          have HK4 : Hid (Keeps (fun j => j = mb ∨ j = w.heap.size + 1 + 1 + 1) w2 w4) := (HK3.out.alloc (.cells _ _)).trans (hk4.weaken (fun j _ e => .inl e))
          have HW4 : Hid (Keeps (· = mb) w w4) := (HW3.out.alloc (.cells _ _)).trans hk4
          have HB34 : Hid (Keeps (· = mb) w3 w4) := ((Keeps.refl _ _).alloc (.cells _ _)).trans hk4
          have HS4 : Hid (StAt w.heap.size w4 i y.length (d.cn y)) := (HB34.out.block _ HS3.out.lt (hsb _ (Nat.le_refl _))).trans HS3.out
          have HO4 : Hid (VAt (w.heap.size + 1 + 1 + 1) w4 noV) := (HB34.out.block _ HO3.out.at.2.2 (hsb _ (by omega))).trans HO3.out
          have HM4 := Lib.hid hm4
          have HG4 : Hid (∀ j z, j ≤ i → g4 (d.st j z) = f (d.st j z)) := fun j z hj => (hg4 j z (by omega)).trans (hgr.out j z hj)
          obtain ⟨V, hV⟩ : ∃ V, V = d.bv (fun k => (ps k).rat) n (i + 1) (y ++ [i]) := ⟨_, rfl⟩
          have HVS : Hid (V.r.num.size ≤ 200000 ∧ V.r.den.size ≤ 200000) := by rw [hV]; exact bv_small HB.out (i + 1) (y ++ [i])
          have HVV := Lib.hid hV
          rw [← hV]
          clear hk4 hm4 hg4 hV k0 f0 klt flt HK3 HW3 HB34 HS3 HO3 HM3 hgr
          obtain ⟨⟨v1, v2, v3⟩, v4, v5⟩ := V
          unfold VC.arr
          dsimp only
          go_wp2_with fail
          generalize hW5 : World.alloc _ _ = W5
          have hV5 : VAt w4.heap.size W5 ⟨⟨v1, v2, v3⟩, v4, true⟩ := by rw [← hW5]; exact heap_alloc_new w4 _
          have hB5 : Below w4.heap.size w4 W5 := by rw [← hW5]; exact (Below.refl _ _).alloc (Nat.le_refl _) _
          clear hW5
          have HV5 := Lib.hid hV5
          have HB5 := Lib.hid hB5
          have vlt := hV5.at.2.2
          have HBW : Hid (∀ w', Kept W5 w' → BstB B w' ⟨a0, a2, a3, a4, a5, a6, a7, a8, a9, a12, kind, d.size, qs⟩ (.slice ao n cap) d n ps pv tb kb fb pb mb) := fun w' hC => HB.out.keep (HW4.out.belowS (hC.below HB5.out HB5.out.size))
          have HFC : Hid (∀ w', Kept W5 w' → (w'.cell? ⟨w4.heap.size, 0, none⟩ = some (.bool v1) ∧ w'.cell? ⟨w4.heap.size, 1, none⟩ = some (.string v2) ∧ w'.cell? ⟨w4.heap.size, 2, none⟩ = some (.string v3)) ∧ w'.cell? ⟨pb, 0, none⟩ = some pv ∧ StAt w.heap.size w' i y.length (d.cn y) ∧ PricesAt B w' pv n ps) := fun w' hC => by
            have hb := HBW.out w' hC
            have h1 := (HV5.out.later hC.1 vlt).at.1
            refine ⟨⟨h1.1, h1.2.1, h1.2.2.1⟩, hb.cells.2.2.2.1, (HS4.out.later HB5.out HS4.out.lt).later hC.1 (Nat.lt_of_lt_of_le HS4.out.lt HB5.out.size), hb.pat⟩
          obtain ⟨ap, cp, rfl, hpp⟩ := HB.out.pat
          obtain ⟨bp, op, rfl, hbp, _⟩ := hpp i hin
          clear hpp
          have HPC : Hid (∀ w', Kept W5 w' → w'.cell? ⟨bp, op + i * 3, none⟩ = some (.bool (ps i).neg) ∧ w'.cell? ⟨bp, op + (i * 3 + 1), none⟩ = some (.string (ps i).num) ∧ w'.cell? ⟨bp, op + (i * 3 + 2), none⟩ = some (.string (ps i).den) ∧ w'.cell? ⟨bp, op + i * 3 + 1, none⟩ = some (.string (ps i).num) ∧ w'.cell? ⟨bp, op + i * 3 + 2, none⟩ = some (.string (ps i).den)) := fun w' hC => by
            obtain ⟨_, _, e1, h2⟩ := (HFC.out w' hC).2.2.2
            obtain ⟨b', o', e2, _, h3⟩ := h2 i hin
            simp only [Value.slice.injEq] at e1
            rw [← e1.1] at e2
            simp only [Option.some.injEq, Addr.mk.injEq, and_true] at e2
            obtain ⟨rfl, rfl⟩ := e2
            exact ⟨h3.1, h3.2.1, h3.2.2, by rw [Nat.add_assoc]; exact h3.2.1, by rw [Nat.add_assoc]; exact h3.2.2⟩
          have HADD : Hid (∀ w', Calls Tryd.prog 27 #[.agg #[.bool v1, .string v2, .string v3], .agg #[.bool (ps i).neg, .string (ps i).num, .string (ps i).den]] w' fun e w'' => e = .returned (.agg #[.bool (ratG ((⟨v1, v2, v3⟩ : RatG).rat + (ps i).rat)).neg, .string (ratG ((⟨v1, v2, v3⟩ : RatG).rat + (ps i).rat)).num, .string (ratG ((⟨v1, v2, v3⟩ : RatG).rat + (ps i).rat)).den]) ∧ Below w'.heap.size w' w'') := fun w' => pAdd2_any ⟨v1, v2, v3⟩ (ps i) w' HVS.out.1 HVS.out.2 (HB.out.psz i).1 (HB.out.psz i).2
          obtain ⟨R, hR⟩ : ∃ R, R = ratG ((⟨v1, v2, v3⟩ : RatG).rat + (ps i).rat) := ⟨_, rfl⟩
          rw [← hR] at HADD
          have HRR := Lib.hid hR
          have HACC : Hid ((v4 = false → accV d (fun k => (ps k).rat) n i y 1 = none) ∧ (v4 = true → ∃ a, accV d (fun k => (ps k).rat) n i y 1 = some a ∧ oVal i (some a) = ⟨R, true, true⟩)) := by
            obtain ⟨h1, h2⟩ := bv_cases HVV.out
            dsimp only at h1 h2
            have hacc : accV d (fun k => (ps k).rat) n i y 1 = (top (fun k => (ps k).rat) (d.go n (i + 1) (y ++ [i]))).map fun a => (a.1 + (ps i).rat, i :: a.2) := by
              unfold accV
              rw [if_neg (by decide : ¬ 2 ≤ 1), better_none, if_pos ⟨Nat.le_refl 1, HMQ.out.symm⟩]
            refine ⟨fun h => by rw [hacc, h1 h]; rfl, fun h => ?_⟩
            obtain ⟨a, ha, hr⟩ := h2 h
            refine ⟨(a.1 + (ps i).rat, i :: a.2), by rw [hacc, ha]; rfl, ?_⟩
            show (⟨ratG (a.1 + (ps i).rat), true, decide ((i :: a.2).head? = some i)⟩ : VC) = _
            rw [HRR.out, hr, ratG_rat]
            simp
          obtain ⟨R1, R2, R3⟩ := R
          dsimp only at HADD
          clear hR hV5 hB5
          refine wp_region_class_tail (Kept _) 9 (by kernel_rfl) (by kernel_rfl) (Kept.drew _) ?_
          simp only [List.take_succ_cons, List.take_zero, List.drop_succ_cons, List.drop_zero, List.cons_append, List.nil_append]
          repeat (first
            | go_big_quiet_skip
            | (refine BigFrame.wpQuiet_want (by rfl) (fun K hK => ?_)
               first
                 | (refine BigFrame.quiet_move _ rfl ?_; refine hK _ ?_)
                 | (refine BigFrame.quiet_assign _ rfl ?_; refine hK _ ?_)
                 | (apply Exists.intro; refine ⟨fun w' hC => ?_, hK _ ?_⟩
                    · (obtain ⟨⟨q0, q1, q2⟩, pc, hst, _⟩ := HFC.out w' hC; have n0 := hst.next; obtain ⟨p0, p1, p2, p3, p4⟩ := HPC.out w' hC; unfold Oper.quietAt; go_simp; first | rfl | (go_at_call 27; with_reducible refine (HADD.out w').mono ?_; exact fun e w'' ⟨he, hb⟩ => ⟨he, hC.next hb⟩)))
               simp only [Act.put, Act.eval, List.setIfInBounds_toArray, List.set_cons_zero, List.set_cons_succ, Array.getD_eq_getD_getElem?, List.getElem?_toArray, List.getElem?_cons_succ, List.getElem?_cons_zero, Option.getD_some]
               clear hK K))
          refine wpQuiet_nil ?_
          intro wq hCq
          have hVq := HV5.out.later hCq.1 vlt
          have hb4q : Below w4.heap.size w4 wq := hCq.below HB5.out HB5.out.size
          have hOq := HO4.out.later hb4q HO4.out.at.2.2
          obtain ⟨⟨q0, q1, q2, q3, q4⟩, ⟨e0, e1, e2, e3, e4⟩, vl2⟩ := hVq.at
          obtain ⟨⟨o0, o1, o2, o3, o4⟩, ⟨x0, x1, x2, x3, x4⟩, ol2⟩ := hOq.at
          dsimp only [noV, noR] at q0 q1 q2 q3 q4 o0 o1 o2 o3 o4
          have HVQ := Lib.hid hVq
          have HOQ := Lib.hid hOq
          have HBQ := Lib.hid hb4q
          have HMQ5 : Hid (MemoB wq d (fun k => (ps k).rat) n mb g4) := HM4.out.below hb4q
          have HNE : Hid (w4.heap.size ≠ mb ∧ w.heap.size + 1 + 1 + 1 < w4.heap.size) := ⟨fun e => by have h1 := HMLT.out; have h2 := HW4.out.size; omega, HO4.out.at.2.2⟩
          clear hCq hVq hb4q hOq HFC HPC HADD HBW
          cases v4 with
          | false =>
            have HW6 : Hid (∀ W6, VAt w4.heap.size W6 ⟨⟨R1, R2, R3⟩, false, true⟩ → True) := fun _ _ => trivial
            go_wp2_with fail
            generalize hW6 : World.setCell _ _ _ = W6
            have hk6 : Keeps (fun j => j = w4.heap.size) wq W6 := by
              rw [← hW6]
              exact keeps_over w4.heap.size [.bool R1, .string R2, .string R3] wq 0
            have HKF : Hid (Keeps (fun j => j = mb ∨ j = w.heap.size + 1 + 1 + 1) w2 W6) := (HK4.out.trans (Keeps.of_below HBQ.out)).then hk6 (fun j hj e => by have h1 := HK4.out.size; have h2 := HNE.out; omega)
            have HOF : Hid (VAt (w.heap.size + 1 + 1 + 1) W6 (oVal i (accV d (fun k => (ps k).rat) n i y 1))) := by
              rw [HACC.out.1 rfl]
              exact (hk6.block _ HOQ.out.at.2.2 (fun e => by have h2 := HNE.out; omega)).trans HOQ.out
            have HMF : Hid (MemoB W6 d (fun k => (ps k).rat) n mb g4) := HMQ5.out.block (hk6.block _ HMQ5.out.lt (fun e => by have h2 := HNE.out; omega))
            clear hW6 hk6
            go_roundw
            case rel => exact ⟨1, by omega, by go_num, HKF, HOF, g4, HMF, HG4⟩
            case measure => simp [intOf]
          | true =>
            go_upto_if 76 with fail
            generalize hW6 : World.setCell _ _ _ = W6
            have hk6 : Keeps (fun j => j = w4.heap.size) wq W6 := by
              rw [← hW6]
              exact keeps_over w4.heap.size [.bool R1, .string R2, .string R3] wq 0
            have hV6 : VAt w4.heap.size W6 ⟨⟨R1, R2, R3⟩, true, true⟩ := by rw [← hW6]; exact HVQ.out.setR _ _ _ ⟨R1, R2, R3⟩ rfl rfl rfl
            clear hW6
            have hO6 : VAt (w.heap.size + 1 + 1 + 1) W6 noV := (hk6.block _ HOQ.out.at.2.2 (fun e => by have h2 := HNE.out; omega)).trans HOQ.out
            have HMF : Hid (MemoB W6 d (fun k => (ps k).rat) n mb g4) := HMQ5.out.block (hk6.block _ HMQ5.out.lt (fun e => by have h2 := HNE.out; omega))
            have HKF : Hid (Keeps (fun j => j = mb ∨ j = w.heap.size + 1 + 1 + 1) w2 W6) := (HK4.out.trans (Keeps.of_below HBQ.out)).then hk6 (fun j hj e => by have h1 := HK4.out.size; have h2 := HNE.out; omega)
            clear hk6 q0 q1 q2 q3 q4 o0 o1 o2 o3 o4 e0 e1 e2 e3 e4 x0 x1 x2 x3 x4 vl2 ol2
            obtain ⟨⟨q0, q1, q2, q3, q4⟩, _, vl2⟩ := hV6.at
            obtain ⟨⟨o0, o1, o2, o3, o4⟩, ⟨x0, x1, x2, x3, x4⟩, ol2⟩ := hO6.at
            dsimp only [noV, noR] at q0 q1 q2 q3 q4 o0 o1 o2 o3 o4
            have HO6 := Lib.hid hO6
            clear hV6 hO6
            go_wp2_with fail
            generalize hW7 : World.setCell _ _ _ = W7
            have hk7 : Keeps (fun j => j = w.heap.size + 1 + 1 + 1) W6 W7 := by
              rw [← hW7]
              exact keeps_over (w.heap.size + 1 + 1 + 1) [.bool R1, .string R2, .string R3, .bool true, .bool true] W6 0
            have HOF : Hid (VAt (w.heap.size + 1 + 1 + 1) W7 (oVal i (accV d (fun k => (ps k).rat) n i y 1))) := by
              obtain ⟨a, ha, hv⟩ := HACC.out.2 rfl
              rw [ha, hv, ← hW7]
              exact HO6.out.put ⟨⟨R1, R2, R3⟩, true, true⟩
            clear hW7
            have HKG : Hid (Keeps (fun j => j = mb ∨ j = w.heap.size + 1 + 1 + 1) w2 W7) := HKF.out.trans (hk7.weaken (fun j _ e => .inr e))
            have HMG : Hid (MemoB W7 d (fun k => (ps k).rat) n mb g4) := HMF.out.block (hk7.block _ HMF.out.lt (fun e => by have h2 := HMLT.out; omega))
            clear hk7
            go_roundw
            case rel => exact ⟨1, by omega, by go_num, HKG, HOF, g4, HMG, HG4⟩
            case measure => simp [intOf]
      | 1, _ =>
        go_wp2_with fail
        refine (HADN.out _).mono ?_
        rintro e w3 ⟨rfl, hb3⟩
        have HK3 := Lib.hid (hKr.out.belowS hb3)
        have HW3 := Lib.hid (HKW.out.belowS hb3)
        have HM3 := Lib.hid (hMr.out.below hb3)
        have HO3 := Lib.hid (hOr.out.later hb3 hOr.out.at.2.2)
        clear t0 t1 t2 t3 t4 t5 t6 t7 t8 t9 t10 t11 t12 t13 n0 n1 n2 n3 n4 n5 n6 n7 n8 n9 n10 n11 n12 n13 k0 f0 p0 hlt klt flt plt slt hb3 hKr hMr hOr hszr
        unfold stA
        obtain ⟨_, k0, f0, _, _, klt, flt, _⟩ := (HB.out.keep HW3.out).cells
        go_wp2_with fail
        refine (HI2.out _ g (HW3.out.alloc _) (HM3.out.below ((Below.refl _ _).alloc (Nat.le_refl _) _))).mono ?_
        rintro e w4 ⟨rfl, hk4, g4, hm4, hg4⟩
        have hsb : ∀ j, w.heap.size ≤ j → j ≠ mb := fun j hj e => by have := HMLT.out; omega
        have HK4 : Hid (Keeps (fun j => j = mb ∨ j = w.heap.size + 1 + 1 + 1) w2 w4) := (HK3.out.alloc (.cells _ _)).trans (hk4.weaken (fun j _ e => .inl e))
        have HW4 : Hid (Keeps (· = mb) w w4) := (HW3.out.alloc (.cells _ _)).trans hk4
        have HB34 : Hid (Keeps (· = mb) w3 w4) := ((Keeps.refl _ _).alloc (.cells _ _)).trans hk4
        have HO4 : Hid (VAt (w.heap.size + 1 + 1 + 1) w4 (oVal i (accV d (fun k => (ps k).rat) n i y 1))) := (HB34.out.block _ HO3.out.at.2.2 (hsb _ (by omega))).trans HO3.out
        have HM4 := Lib.hid hm4
        have HG4 : Hid (∀ j z, j ≤ i → g4 (d.st j z) = f (d.st j z)) := fun j z hj => (hg4 j z (by omega)).trans (hgr.out j z hj)
        obtain ⟨V, hV⟩ : ∃ V, V = d.bv (fun k => (ps k).rat) n (i + 1) y := ⟨_, rfl⟩
        have HVS : Hid (V.r.num.size ≤ 200000 ∧ V.r.den.size ≤ 200000) := by rw [hV]; exact bv_small HB.out (i + 1) y
        have HVV := Lib.hid hV
        rw [← hV]
        clear hk4 hm4 hg4 hV k0 f0 klt flt HK3 HW3 HB34 HO3 HM3 hgr
        obtain ⟨A, hA⟩ : ∃ A, A = accV d (fun k => (ps k).rat) n i y 1 := ⟨_, rfl⟩
        have HAA := Lib.hid hA
        rw [← hA] at HO4
        clear hA
        obtain ⟨⟨v1, v2, v3⟩, v4, v5⟩ := V
        unfold VC.arr
        dsimp only
        obtain ⟨hc1, hc2⟩ := bv_cases HVV.out
        dsimp only at hc1 hc2
        have HC1 := Lib.hid hc1
        have HC2 := Lib.hid hc2
        clear hc1 hc2
        have ho4 := HO4.out.at
        obtain ⟨⟨o0, o1, o2, o3, o4⟩, ⟨x0, x1, x2, x3, x4⟩, ol2⟩ := ho4
        cases v4 with
        | false =>
          have HOF : Hid (∀ o, VAt (w.heap.size + 1 + 1 + 1) (w4.alloc o) (oVal i (accV d (fun k => (ps k).rat) n i y 2))) := fun o => by
            rw [acc2_eq, HC1.out rfl, better_none, ← HAA.out]
            exact HO4.out.later ((Below.refl _ _).alloc (Nat.le_refl _) o) HO4.out.at.2.2
          clear o0 o1 o2 o3 o4 x0 x1 x2 x3 x4
          go_wp2_with fail
          go_roundw
          case rel => exact ⟨2, by omega, by go_num, HK4.out.alloc _, HOF.out _, g4, HM4.out.below ((Below.refl _ _).alloc (Nat.le_refl _) _), HG4⟩
          case measure => simp [intOf]
        | true =>
          obtain ⟨b, hb, hvr⟩ := HC2.out rfl
          have HBT := Lib.hid hb
          have HVR := Lib.hid hvr
          have HHD : Hid (oVal i (some b) = ⟨⟨v1, v2, v3⟩, true, false⟩) := by
            show (⟨ratG b.1, true, decide (b.2.head? = some i)⟩ : VC) = _
            rw [← hvr, d.go_head (top_mem hb).1]
          clear hb hvr
          cases A with
          | none =>
            dsimp only [oVal, noV, noR] at o0 o1 o2 o3 o4
            have HE : Hid (accV d (fun k => (ps k).rat) n i y 2 = some b) := by
              show accV d _ n i y 2 = some b
              rw [acc2_eq, ← HAA.out, HBT.out]; rfl
            go_wp2_with fail
            generalize hW7 : World.setCell _ _ _ = W7
            have hk7 : Keeps (fun j => j = w.heap.size + 1 + 1 + 1) w4 W7 := by
              rw [← hW7]
              exact keeps_over (w.heap.size + 1 + 1 + 1) [.bool v1, .string v2, .string v3, .bool true, .bool false] w4 0
            have hOF : VAt (w.heap.size + 1 + 1 + 1) W7 (oVal i (accV d (fun k => (ps k).rat) n i y 2)) := by
              rw [HE.out, HHD.out, ← hW7]
              exact HO4.out.put ⟨⟨v1, v2, v3⟩, true, false⟩
            clear hW7
            have HKG : Hid (∀ o, Keeps (fun j => j = mb ∨ j = w.heap.size + 1 + 1 + 1) w2 (W7.alloc o)) := fun o => (HK4.out.trans (hk7.weaken (fun j _ e => .inr e))).alloc o
            have HMG : Hid (∀ o, MemoB (W7.alloc o) d (fun k => (ps k).rat) n mb g4) := fun o => (HM4.out.block (hk7.block _ HM4.out.lt (fun e => by have h2 := HMLT.out; omega))).below ((Below.refl _ _).alloc (Nat.le_refl _) _)
            have HOG : Hid (∀ o, VAt (w.heap.size + 1 + 1 + 1) (W7.alloc o) (oVal i (accV d (fun k => (ps k).rat) n i y 2))) := fun o => hOF.later ((Below.refl _ _).alloc (Nat.le_refl _) _) hOF.at.2.2
            clear hk7 hOF
            go_roundw
            case rel => exact ⟨2, by omega, by go_num, HKG.out _, HOG.out _, g4, HMG.out _, HG4⟩
            case measure => simp [intOf]
          | some a =>
            have HAS := Lib.hid (acc1_small HB.out hin y HAA.out.symm)
            obtain ⟨G, hG⟩ : ∃ G, G = ratG a.1 := ⟨_, rfl⟩
            have HCMP : Hid (∀ w', Calls Tryd.prog 28 #[.agg #[.bool v1, .string v2, .string v3], .agg #[.bool G.neg, .string G.num, .string G.den]] w' fun e w'' => e = .returned (.int .i64 (cmpR b.1 a.1)) ∧ Below w'.heap.size w' w'') := fun w' => by
              have h := pCmp2_any ⟨v1, v2, v3⟩ G w' HVS.out.1 HVS.out.2 (by rw [hG]; exact HAS.out.1) (by rw [hG]; exact HAS.out.2)
              have e1 : (⟨v1, v2, v3⟩ : RatG).rat = b.1 := by rw [HVR.out, ratG_rat]
              have e2 : G.rat = a.1 := by rw [hG, ratG_rat]
              rw [e1, e2] at h
              exact h
            obtain ⟨tk, htk⟩ : ∃ tk, tk = decide (a.2.head? = some i) := ⟨_, rfl⟩
            have hO4 : VAt (w.heap.size + 1 + 1 + 1) w4 ⟨G, true, tk⟩ := by rw [hG, htk]; exact HO4.out
            have HOA : Hid (oVal i (some a) = ⟨G, true, tk⟩) := by rw [hG, htk]; rfl
            obtain ⟨cq, hcq⟩ : ∃ cq, cq = cmpR b.1 a.1 := ⟨_, rfl⟩
            rw [← hcq] at HCMP
            have HE : Hid (accV d (fun k => (ps k).rat) n i y 2 = if 0 < cq then some b else some a) := by
              show accV d _ n i y 2 = _
              rw [acc2_eq, ← HAA.out, HBT.out, hcq]; rfl
            clear hcq hG htk o0 o1 o2 o3 o4 x0 x1 x2 x3 x4 ol2
            obtain ⟨⟨o0, o1, o2, o3, o4⟩, _, ol2⟩ := hO4.at
            have HO5 := Lib.hid hO4
            obtain ⟨g1, g2, g3⟩ := G
            dsimp only at HCMP o0 o1 o2 o3 o4
            clear hO4
            go_wp2_with fail
            generalize hW5 : World.alloc _ _ = W5
            have hV5 : VAt w4.heap.size W5 ⟨⟨v1, v2, v3⟩, true, false⟩ := by rw [← hW5]; exact heap_alloc_new w4 _
            have hB5 : Below w4.heap.size w4 W5 := by rw [← hW5]; exact (Below.refl _ _).alloc (Nat.le_refl _) _
            clear hW5
            refine (HCMP.out _).mono ?_
            rintro e w6 ⟨rfl, hb6⟩
            have hB6 := hB5.trans (hb6.mono hB5.size)
            have hV6 := hV5.later hb6 hV5.at.2.2
            have hO6 := HO5.out.later hB6 HO5.out.at.2.2
            have HK6 := Lib.hid (HK4.out.belowS hB6)
            have HM6 := Lib.hid (HM4.out.below hB6)
            have HO6 := Lib.hid hO6
            clear o0 o1 o2 o3 o4 ol2
            obtain ⟨⟨q0, q1, q2, q3, q4⟩, _, ql⟩ := hV6.at
            obtain ⟨⟨o0, o1, o2, o3, o4⟩, ⟨x0, x1, x2, x3, x4⟩, ol2⟩ := hO6.at
            dsimp only at q0 q1 q2 q3 q4 o0 o1 o2 o3 o4
            clear hV5 hB5 hb6 hB6 hV6 hO6
            by_cases hpos : 0 < cq
            · go_wp2_with fail
              generalize hW7 : World.setCell _ _ _ = W7
              have hk7 : Keeps (fun j => j = w.heap.size + 1 + 1 + 1) w6 W7 := by
                rw [← hW7]
                exact keeps_over (w.heap.size + 1 + 1 + 1) [.bool v1, .string v2, .string v3, .bool true, .bool false] w6 0
              have HOF : Hid (VAt (w.heap.size + 1 + 1 + 1) W7 (oVal i (accV d (fun k => (ps k).rat) n i y 2))) := by
                rw [HE.out, if_pos hpos, HHD.out, ← hW7]
                exact HO6.out.put ⟨⟨v1, v2, v3⟩, true, false⟩
              clear hW7
              have HKG : Hid (Keeps (fun j => j = mb ∨ j = w.heap.size + 1 + 1 + 1) w2 W7) := HK6.out.trans (hk7.weaken (fun j _ e => .inr e))
              have HMG : Hid (MemoB W7 d (fun k => (ps k).rat) n mb g4) := HM6.out.block (hk7.block _ HM6.out.lt (fun e => by have h2 := HMLT.out; omega))
              clear hk7
              go_roundw
              case rel => exact ⟨2, by omega, by go_num, HKG, HOF, g4, HMG, HG4⟩
              case measure => simp [intOf]
            · have HOF : Hid (VAt (w.heap.size + 1 + 1 + 1) w6 (oVal i (accV d (fun k => (ps k).rat) n i y 2))) := by
                rw [HE.out, if_neg hpos, HOA.out]
                exact HO6.out
              have hpos2 : cq ≤ 0 := by omega
              go_wp2_with fail
              go_roundw
              case rel => exact ⟨2, by omega, by go_num, HK6, HOF, g4, HM6, HG4⟩
              case measure => simp [intOf]
      | 2, _ =>
        have hbest : oVal i (accV d (fun k => (ps k).rat) n i y 2) = d.bv (fun k => (ps k).rat) n i y := by rw [acc2_all d _ hin, d.bv_in _ hin]
        rw [hbest] at hOr
        obtain ⟨w6, hput, hg6, g6, hm6, hgg6⟩ := hMr.out.put (HB.out.keep HKW.out) hin HY.out ((hgr.out i y (Nat.le_refl _)).trans HFS.out)
        have hK6 : Keeps (· = mb) w w6 := HKW.out.trans (Keeps.of_grown hg6)
        have hRr : VAt (w.heap.size + 1) wr noV := (hKr.out.block _ HR2.out.at.2.2 (fun e => by have h2 := HMLT.out; rcases e with e | e <;> omega)).trans HR2.out
        have hR6 : VAt (w.heap.size + 1) w6 noV := (hg6.block _ hRr.at.2.2 (fun e => by have h2 := HMLT.out; have := Option.some.inj e; omega)).trans hRr
        have hO6 : VAt (w.heap.size + 1 + 1 + 1) w6 (d.bv (fun k => (ps k).rat) n i y) := (hg6.block _ hOr.out.at.2.2 (fun e => by have h2 := HMLT.out; have := Option.some.inj e; omega)).trans hOr.out
        have HE : Hid (∀ W, Keeps (fun j => j = w.heap.size + 1) w6 W → BestEnd d (fun k => (ps k).rat) n i y mb f w (.returned (.agg (d.bv (fun k => (ps k).rat) n i y).arr)) W) := fun W hW =>
          ⟨rfl, hK6.then hW (fun j hj e => by omega), g6, hm6.block (hW.block _ hm6.lt (fun e => by have h2 := HMLT.out; omega)), fun j z hj => (hgg6 j z hj).trans (hgr.out j z (by omega))⟩
        obtain ⟨V, hV⟩ : ∃ V, V = d.bv (fun k => (ps k).rat) n i y := ⟨_, rfl⟩
        have hOr2 := hOr.out
        rw [← hV] at HE hput hO6 hOr2
        clear hV hbest hOr
        obtain ⟨⟨v1, v2, v3⟩, v4, v5⟩ := V
        unfold PD.st stA VC.arr at hput
        unfold VC.arr at HE
        dsimp only at hput HE
        obtain ⟨⟨o0, o1, o2, o3, o4⟩, _, ol2⟩ := hOr2.at
        obtain ⟨⟨q0, q1, q2, q3, q4⟩, _, ql⟩ := hO6.at
        obtain ⟨⟨r0, r1, r2, r3, r4⟩, ⟨x0, x1, x2, x3, x4⟩, rl⟩ := hR6.at
        dsimp only [noV, noR] at o0 o1 o2 o3 o4 q0 q1 q2 q3 q4 r0 r1 r2 r3 r4
        have HR6 := Lib.hid hR6
        clear hg6 hm6 hgg6 hKr hMr hgr hK6 hRr hR6 hO6 hOr2
        go_wp2_with fail
        generalize hW7 : World.setCell _ _ _ = W7
        have hk7 : Keeps (fun j => j = w.heap.size + 1) w6 W7 := by
          rw [← hW7]
          exact keeps_over (w.heap.size + 1) [.bool v1, .string v2, .string v3, .bool v4, .bool v5] w6 0
        have hVF : VAt (w.heap.size + 1) W7 ⟨⟨v1, v2, v3⟩, v4, v5⟩ := by rw [← hW7]; exact HR6.out.put ⟨⟨v1, v2, v3⟩, v4, v5⟩
        clear hW7 q0 q1 q2 q3 q4 r0 r1 r2 r3 r4 o0 o1 o2 o3 o4
        obtain ⟨⟨q0, q1, q2, q3, q4⟩, _, _⟩ := hVF.at
        dsimp only at q0 q1 q2 q3 q4
        exact bodyPost_ret (v := .agg #[.bool v1, .string v2, .string v3, .bool v4, .bool v5]) (by simp [results, Tryd.results47, go_sem, q0, q1, q2, q3, q4]) rfl (HE.out _ hk7)

end Go.Proofs.YtebigkjilklodaaDoor

/- The program's panels: Best. -/
namespace Go.Proofs.YtebigkjilklodaaDoor
open Go.RowKit

theorem qbest_any (B : Nat) (x : DrawC) (ins : Value) (d : PD) (n : Nat) (ps : Nat → RatG) (pv : Value) (tb kb fb pb mb : Nat) : ∀ (r i : Nat), n - i = r → i ≤ n → BestOK B x ins d n ps pv tb kb fb pb mb i := by
  intro r
  induction r with
  | zero =>
    intro i hr hi
    obtain rfl : i = n := by omega
    exact qbest_last B x ins d i ps pv tb kb fb pb mb
  | succ r ih => intro i hr hi; exact qbest_step B x ins d n ps pv tb kb fb pb mb i (by omega) (ih (i + 1) (by omega) (by omega))
/-- One step along the best panel. -/
theorem PD.follow (d : PD) (p : Nat → Rat) {n i : Nat} (hi : i < n) {y : List Nat} {a : Rat × List Nat} (h : top p (d.go n i y) = some a) :
    (a.2.head? = some i → ∃ q x, a.2 = i :: x ∧ d.may i y.length (d.cn y) = true ∧ top p (d.go n (i + 1) (y ++ [i])) = some (q, x)) ∧ (a.2.head? ≠ some i → top p (d.go n (i + 1) y) = some a) := by
  rw [d.top_step p hi] at h
  have hor : (if d.may i y.length (d.cn y) = true then (top p (d.go n (i + 1) (y ++ [i]))).map fun a => (a.1 + p i, i :: a.2) else none) = some a ∨ top p (d.go n (i + 1) y) = some a := by
    generalize (if d.may i y.length (d.cn y) = true then (top p (d.go n (i + 1) (y ++ [i]))).map fun a => (a.1 + p i, i :: a.2) else none) = A at h
    cases A with
    | none => exact .inr h
    | some c =>
      cases hB : top p (d.go n (i + 1) y) with
      | none => rw [hB] at h; exact .inl h
      | some e =>
        rw [hB] at h
        by_cases hlt : c.1 < e.1
        · rw [better_lt hlt] at h; exact .inr h
        · rw [better_ge hlt] at h; exact .inl h
  rcases hor with h | h
  · have hh : a.2.head? = some i ∧ ∃ q x, a.2 = i :: x ∧ d.may i y.length (d.cn y) = true ∧ top p (d.go n (i + 1) (y ++ [i])) = some (q, x) := by
      split at h
      · rename_i hm
        rw [Option.map_eq_some_iff] at h
        obtain ⟨c, hc, rfl⟩ := h
        exact ⟨rfl, c.1, c.2, rfl, hm, hc⟩
      · cases h
    exact ⟨fun _ => hh.2, fun hn => absurd hh.1 hn⟩
  · have hn : a.2.head? ≠ some i := fun e => by
      have := d.go_head (top_mem h).1
      rw [e] at this
      simp at this
    exact ⟨fun e => absurd e hn, fun _ => h⟩
/-- The best panel of a draw. -/
def bestOf (x : DrawC) (n m : Nat) (g : Nat → ByteArray) (low high : Nat → Int) (gs : Nat → List ByteArray) (np : Nat) (ps : Nat → RatG) : Option (Rat × List Nat) :=
  if np = n then top (fun k => (ps k).rat) (pans x n m g low high gs) else none
theorem st_apart {sb i m n B s : Nat} {c : Nat → Nat} {w : World} {v : Value} {xs : List Value} (h : StAt sb w i m c) (k : w.ownsRow B 3 s v n xs) (hb : v.ownBlock = some sb) : False := by
  rcases k.2 with ⟨rfl, _⟩ | ⟨g', c', cur', rfl, _, h3, _⟩
  · cases hb
  · obtain rfl : g' = sb := Option.some.inj hb
    unfold StAt at h
    rw [h] at h3
    simp only [Option.some.injEq, Obj.cells.injEq] at h3
    exact absurd h3.2.1 (by decide)
theorem keeps_stSet (b : Nat) (w : World) (n m : Value) (c : Nat → Value) : Keeps (fun j => j = b) w (stSet b w n m c) :=
  keeps_over b [n, m, c 0, c 1, c 2, c 3, c 4, c 5, c 6, c 7, c 8, c 9, c 10, c 11] w 0
/-- Where a walk along the states stands. -/
def stNext (sp : Value) (w : World) : Nat :=
  match sp with
  | .pointer (some a) => match w.cell? a with
    | some (.int _ q) => q.toNat
    | _ => 0
  | _ => 0
theorem stNext_at {sb i m : Nat} {c : Nat → Nat} {w : World} (h : StAt sb w i m c) : stNext (.pointer (some ⟨sb, 0, none⟩)) w = i := by
  unfold stNext; simp only [h.next]; simp
theorem allocO4 (w : World) (o1 o2 o3 o4 : Obj) {W : World} (h : (((w.alloc o1).alloc o2).alloc o3).alloc o4 = W) :
    W.heap[w.heap.size]? = some o1 ∧ W.heap[w.heap.size + 1]? = some o2 ∧ W.heap[w.heap.size + 1 + 1]? = some o3 ∧ W.heap[w.heap.size + 1 + 1 + 1]? = some o4 ∧ Below w.heap.size w W ∧ W.heap.size = w.heap.size + 1 + 1 + 1 + 1 := by
  subst h
  have h1 := heap_alloc_new w o1
  have h2 := heap_alloc_new (w.alloc o1) o2
  have h3 := heap_alloc_new ((w.alloc o1).alloc o2) o3
  have h4 := heap_alloc_new (((w.alloc o1).alloc o2).alloc o3) o4
  rw [World.size_alloc] at h2
  rw [World.size_alloc, World.size_alloc] at h3
  rw [World.size_alloc, World.size_alloc, World.size_alloc] at h4
  refine ⟨?_, ?_, ?_, h4, ((((Below.refl _ _).alloc (Nat.le_refl _) _).alloc (by simp only [World.size_alloc]; omega) _).alloc (by simp only [World.size_alloc]; omega) _).alloc (by simp only [World.size_alloc]; omega) _, by simp only [World.size_alloc]⟩
  · rw [Below.heap_alloc _ _ _ (by simp only [World.size_alloc]; omega), Below.heap_alloc _ _ _ (by simp only [World.size_alloc]; omega), Below.heap_alloc _ _ _ (by simp only [World.size_alloc]; omega)]; exact h1
  · rw [Below.heap_alloc _ _ _ (by simp only [World.size_alloc]; omega), Below.heap_alloc _ _ _ (by simp only [World.size_alloc]; omega)]; exact h2
  · rw [Below.heap_alloc _ _ _ (by simp only [World.size_alloc]; omega)]; exact h3
/-- What Best returns. -/
def BestRet (o : Option (Rat × List Nat)) (w : World) (e : Ending) (w' : World) : Prop :=
  match o with
  | none => e = .returned (.tuple #[.slice none 0 0, .agg #[.bool false, .string ⟨#[]⟩, .string ⟨#[]⟩], .bool false]) ∧ Below w.heap.size w w'
  | some a => ∃ v, e = .returned (.tuple #[v, .agg #[.bool (ratG a.1).neg, .string (ratG a.1).num, .string (ratG a.1).den], .bool true]) ∧ IntsAt w'.heap.size w' v (intsOf a.2) ∧ Below w.heap.size w w'

set_option maxHeartbeats 2000000 in
set_option maxRecDepth 100000 in
theorem qBest_any (x : DrawC) (lv pv : Value) (n m np : Nat) (g : Nat → ByteArray) (low high : Nat → Int) (gs : Nat → List ByteArray) (ps : Nat → RatG) (w : World) (h : DrawIn w x lv n m g low high gs) (hp : PricesAt w.heap.size w pv np ps) (hpl : np ≤ 1000000)
    (hpsz : ∀ k, (ps k).num.size ≤ 200000 ∧ (ps k).den.size ≤ 200000) (hsum : np = n → ∀ x, x.length ≤ n → (∀ j ∈ x, j < n) → RatLe 200000 (price (fun k => (ps k).rat) x)) :
    Calls Tryd.prog 24 #[.agg x.arr, lv, pv] w (BestRet (bestOf x n m g low high gs np ps) w) := by
  have HN : Hid (∀ W, Below w.heap.size w W → Calls Tryd.prog 35 #[.agg x.arr, lv] W fun e w' => ∃ ins, e = .returned (.tuple #[.agg (tabA x ins), .bool (decide (okD x n m))]) ∧ FlatV ins ∧ (okD x n m → TabAt w'.heap.size w' x ins (pdOf x.size m g low high gs) n) ∧ Below W.heap.size W w') :=
    fun W hW => qnew_any x lv n m g low high gs W (h.later hW)
  have HP := Lib.hid hp
  have HPS := Lib.hid (And.intro hpsz hsum)
  obtain ⟨x0, x2, x3, x4, x5, x6, x7, x8, x9, x12⟩ := h.flat
  obtain ⟨aq, cq, hqs, _⟩ := h.quo
  obtain ⟨al, cl, rfl, _⟩ := h.ent
  obtain ⟨ap, cp, rfl, _⟩ := hp
  clear h hpsz hsum
  obtain ⟨a0, a2, a3, a4, a5, a6, a7, a8, a9, a12, kind, size, qs⟩ := x
  dsimp only at x0 x2 x3 x4 x5 x6 x7 x8 x9 x12 hqs
  subst hqs
  have s0 := x0.store
  have s2 := x2.store
  have s3 := x3.store
  have s4 := x4.store
  have s5 := x5.store
  have s6 := x6.store
  have s7 := x7.store
  have s8 := x8.store
  have s9 := x9.store
  have s12 := x12.store
  clear x0 x2 x3 x4 x5 x6 x7 x8 x9 x12
  have hmm := @run_makeMap Tryd.prog
  have hmf : ∀ (fn : Fn) (first cap : Array Value) (w : World), (Instr.makeFunc fn first cap).run Tryd.prog w = .ok (.func fn first cap) w := fun _ _ _ _ => rfl
  have hsf : ∀ (fn : Fn) (first cap : Array Value) (a : Addr) (m : Mode) (w : World), Sem.run Tryd.prog (store a (.func fn first cap) m) w = stored Tryd.prog w a (.func fn first cap) m := fun fn first cap => FlatV.store (v := .func fn first cap) rfl
  unfold DrawC.arr
  dsimp only
  go_enter Tryd.func24, Tryd.ntmps24
  go_wp2_with fail
  generalize hWA : World.alloc _ _ = WA
  obtain ⟨_, hPA, hRA, hBA, hsA⟩ := alloc3 _ _ _ _ _ _ _ hWA
  clear hWA
  refine (HN.out _ hBA).mono ?_
  rintro e w1 ⟨ins, rfl, hins, ht, hb⟩
  have s13 := hins.store
  have HB1 := Lib.hid (hBA.trans (hb.mono hBA.size))
  have HP1 := Lib.hid ((hb.block _ (by omega)).trans hPA)
  have HR1 : Hid (Cells3 (w.heap.size + 1 + 1) w1 (.bool false) (.string ⟨#[]⟩) (.string ⟨#[]⟩)) := (hb.block _ (by omega)).trans hRA
  have HT := Lib.hid ht
  clear hb ht hins hBA hPA hRA hsA
  have p0 : w1.cell? ⟨w.heap.size + 1, 0, none⟩ = some (.slice ap np cp) := by rw [cell_of_row w1 _ _ _ _ _ HP1.out]; rfl
  have plt := cell_lt p0
  obtain ⟨r0, r1, r2, e0, e1, e2, rlt⟩ := HR1.out.at
  by_cases hok : okD ⟨a0, a2, a3, a4, a5, a6, a7, a8, a9, a12, kind, size, .slice aq m cq⟩ n m
  · have ht2 := HT.out hok
    rw [decide_eq_true hok]
    have HTT := Lib.hid ht2
    have HOK := Lib.hid hok
    clear ht2 HT
    by_cases hnp : np = n
    · subst hnp
      obtain ⟨ai, ci, hins2, _⟩ := HTT.out.ins
      subst hins2
      obtain ⟨hk3, hn40, hm12, hs0, hsn⟩ := hok
      dsimp only at hs0 hsn
      have HV : Hid (bestOf ⟨a0, a2, a3, a4, a5, a6, a7, a8, a9, a12, kind, size, .slice aq m cq⟩ np m g low high gs np ps = top (fun k => (ps k).rat) ((pdOf size m g low high gs).all np)) := by
        show bestOf _ _ _ _ _ _ _ _ _ = _
        unfold bestOf pans
        rw [if_pos rfl, if_pos HOK.out]
      have HN40 := Lib.hid hn40
      clear hk3 hm12 hs0 hsn hn40
      unfold tabA
      dsimp only
      go_wp2_with fail
      generalize hWF : World.alloc _ _ = WF
      obtain ⟨hF1, hF2, hF3, hF4, hBF, hsF⟩ := allocO4 _ _ _ _ _ hWF
      clear hWF
      have hz1 := HB1.out.size
      have hBB : BstB w1.heap.size WF ⟨a0, a2, a3, a4, a5, a6, a7, a8, a9, a12, kind, size, .slice aq m cq⟩ (.slice ai np ci) (pdOf size m g low high gs) np ps (.slice ap np cp) w1.heap.size (w1.heap.size + 1 + 1) (w1.heap.size + 1 + 1 + 1) (w.heap.size + 1) (w1.heap.size + 1) := by
        refine ⟨hF1, HTT.out.mono hBF (Nat.le_refl _), hF3, hF4, (hBF.block (w.heap.size + 1) plt).trans HP1.out, (HP.out.mono HB1.out hz1).mono hBF (Nat.le_refl _), by omega, by omega, by omega, by omega, by omega, by omega, HN40.out, HPS.out.1, fun i x hx hj => HPS.out.2 trivial x hx (fun j hj' => (hj j hj').2)⟩
      have hMB : MemoB WF (pdOf size m g low high gs) (fun k => (ps k).rat) np (w1.heap.size + 1) (fun _ => none) := by
        have h := MemoB.made (w1.alloc (.cells #[] 0)) (pdOf size m g low high gs) (fun k => (ps k).rat) np
        rw [World.size_alloc] at h
        refine h.block (hF2.trans ?_)
        have h2 := heap_alloc_new (w1.alloc (.cells #[] 0)) (.map #[] 0)
        rw [World.size_alloc] at h2
        exact h2.symm
      have HRF : Hid (Cells3 (w.heap.size + 1 + 1) WF (.bool false) (.string ⟨#[]⟩) (.string ⟨#[]⟩)) := (hBF.block _ rlt).trans HR1.out
      have HBF := Lib.hid hBF
      have HBB := Lib.hid hBB
      have HMB := Lib.hid hMB
      have HSF := Lib.hid hsF
      have HOKB : Hid (∀ i, i ≤ np → BestOK w1.heap.size ⟨a0, a2, a3, a4, a5, a6, a7, a8, a9, a12, kind, size, .slice aq m cq⟩ (.slice ai np ci) (pdOf size m g low high gs) np ps (.slice ap np cp) w1.heap.size (w1.heap.size + 1 + 1) (w1.heap.size + 1 + 1 + 1) (w.heap.size + 1) (w1.heap.size + 1) i) := fun i hi => qbest_any _ _ _ _ _ _ _ _ _ _ _ _ (np - i) i rfl hi
      clear hF1 hF2 hF3 hF4 hBF hsF hz1 hBB hMB r0 r1 r2 e0 e1 e2 s0 s2 s3 s4 s5 s6 s7 s8 s9 s12 s13
      have HC0 : Hid (Calls Tryd.prog 47 #[.agg (stA 0 0 (fun _ => 0)), .pointer (some ⟨w1.heap.size, 0, none⟩), .pointer (some ⟨w1.heap.size + 1 + 1, 0, none⟩), .pointer (some ⟨w1.heap.size + 1 + 1 + 1, 0, none⟩), .pointer (some ⟨w.heap.size + 1, 0, none⟩)] WF (BestEnd (pdOf size m g low high gs) (fun k => (ps k).rat) np 0 [] (w1.heap.size + 1) (fun _ => none) WF)) := HOKB.out 0 (Nat.zero_le _) [] (fun _ => none) WF (by simp [pre]) HBB.out HMB.out
      refine HC0.out.mono ?_
      rintro e w2 ⟨rfl, hk2, g2, hm2, _⟩
      have HK2 := Lib.hid hk2
      have HM2 : Hid (∃ fm, MemoB w2 (pdOf size m g low high gs) (fun k => (ps k).rat) np (w1.heap.size + 1) fm) := ⟨g2, hm2⟩
      clear hk2 hm2 HC0
      cases htop : top (fun k => (ps k).rat) ((pdOf size m g low high gs).all np) with
      | none =>
        obtain ⟨V, hV⟩ : ∃ V, V = (pdOf size m g low high gs).bv (fun k => (ps k).rat) np 0 [] := ⟨_, rfl⟩
        have hVo : V.ok = false := by
          cases ho : V.ok
          · rfl
          · obtain ⟨a, ha, _⟩ := (bv_cases hV).2 ho
            rw [PD.go_all, htop] at ha
            cases ha
        rw [← hV]
        clear hV
        obtain ⟨⟨v1, v2, v3⟩, v4, v5⟩ := V
        dsimp only at hVo
        subst hVo
        have HBW2 := Lib.hid (HB1.out.trans ((HBF.out.trans (HK2.out.belowB HBF.out.size (fun j hj e => by omega))).mono HB1.out.size))
        have hR2 : Cells3 (w.heap.size + 1 + 1) w2 (.bool false) (.string ⟨#[]⟩) (.string ⟨#[]⟩) := (HK2.out.block _ HRF.out.at.2.2.2.2.2.2 (fun e => by omega)).trans HRF.out
        obtain ⟨r0, r1, r2, e0, e1, e2, rlt2⟩ := hR2.at
        unfold VC.arr
        dsimp only
        go_wp2_with fail
        exact bodyPost_ret (v := .tuple #[.slice none 0 0, .agg #[.bool false, .string ⟨#[]⟩, .string ⟨#[]⟩], .bool false]) (by simp [results, Tryd.results24, go_sem, r0, r1, r2, rlt2]) rfl (by
          rw [HV.out, htop]
          exact ⟨rfl, (below3 HBW2.out (by omega) _ _ _).alloc (by simp [World.setCell]; exact HBW2.out.size) _⟩)
      | some a =>
        have HTOP : Hid (top (fun k => (ps k).rat) ((pdOf size m g low high gs).go np 0 []) = some a) := htop
        rw [PD.bv_ok _ _ _ _ _ HTOP.out]
        obtain ⟨G, hG⟩ : ∃ G, G = ratG a.1 := ⟨_, rfl⟩
        obtain ⟨tk, htk⟩ : ∃ tk, tk = decide (a.2.head? = some 0) := ⟨_, rfl⟩
        rw [← hG, ← htk]
        have HGG := Lib.hid hG
        clear htk hG
        obtain ⟨G1, G2, G3⟩ := G
        unfold VC.arr
        dsimp only
        go_wp2_with fail
        generalize hW3 : World.alloc _ _ = W3
        obtain ⟨hV3', hS3', hB3, hs3⟩ := alloc2 _ _ _ _ _ hW3
        clear hW3
        have HV3 : Hid (VAt w2.heap.size W3 ⟨⟨G1, G2, G3⟩, true, tk⟩) := hV3'
        have HS3 : Hid (StAt (w2.heap.size + 1) W3 0 0 (fun _ => 0)) := hS3'
        have HB3 := Lib.hid hB3
        have HZ3 := Lib.hid hs3
        clear hV3' hS3' hB3 hs3
        obtain ⟨i3, hi3, hz30, hz31, hz32⟩ := info_parts Tryd.infoI
        obtain ⟨d, hd⟩ : ∃ d, d = (pdOf size m g low high gs) := ⟨_, rfl⟩
        rw [← hd] at HBB HM2 HOKB HTOP htop HV
        clear hd
        have HZ2 : Hid (WF.heap.size ≤ w2.heap.size) := HK2.out.size
        have HM3 : Hid (∃ fm, MemoB W3 d (fun k => (ps k).rat) np (w1.heap.size + 1) fm) := by obtain ⟨fm, h⟩ := HM2.out; exact ⟨fm, h.below HB3.out⟩
        have HBK : Hid (∀ wr, Keeps (fun j => j = (w1.heap.size + 1) ∨ j = (w2.heap.size + 1)) W3 wr → BstB w1.heap.size wr ⟨a0, a2, a3, a4, a5, a6, a7, a8, a9, a12, kind, size, .slice aq m cq⟩ (.slice ai np ci) d np ps (.slice ap np cp) w1.heap.size (w1.heap.size + 1 + 1) (w1.heap.size + 1 + 1 + 1) (w.heap.size + 1) (w1.heap.size + 1)) := fun wr hk => by
          have hz := HSF.out
          have hz2 := HZ2.out
          exact HBB.out.keep ((HK2.out.trans (Keeps.of_below HB3.out)).then hk (fun j hj e => by rcases e with e | e <;> omega))
        go_loopw [14, 15] (fun pnl sp wr => ∃ (i : Nat) (y : List Nat) (sb : Nat), i ≤ np ∧ sp = .pointer (some ⟨sb, 0, none⟩) ∧ Hid (y ∈ pre i) ∧ Hid (StAt sb wr i y.length (d.cn y)) ∧ Hid (sb = (w2.heap.size + 1) ∨ W3.heap.size ≤ sb) ∧ Hid (Keeps (fun j => j = (w1.heap.size + 1) ∨ j = (w2.heap.size + 1)) W3 wr) ∧ Hid (∃ fm, MemoB wr d (fun k => (ps k).rat) np (w1.heap.size + 1) fm) ∧ Hid (wr.ownsRow W3.heap.size 3 1 pnl y.length (intV y)) ∧ Hid (∃ q x, top (fun k => (ps k).rat) (d.go np i y) = some (q, x) ∧ a.2 = y ++ x)) (fun _ sp wr => np - stNext sp wr)
        case atStart => exact ⟨0, [], (w2.heap.size + 1), Nat.zero_le _, rfl, (by show [] ∈ pre 0; simp [pre]), HS3, .inl rfl, Keeps.refl _ _, HM3, World.ownsRow_nil _ _ _ _, ⟨a.1, a.2, HTOP.out, rfl⟩⟩
        case round =>
          obtain ⟨i, y, sb, hi, rfl, hy, hS, hsb, hKr, hMr, hown, hx⟩ := hrel
          have hb := HBK.out wr hKr.out
          obtain ⟨⟨t0, t1, t2, t3, t4, t5, t6, t7, t8, t9, t10, t11, t12, t13⟩, k0, f0, p1, tlt, klt, flt, plt2⟩ := hb.cells
          dsimp only at t0 t1 t2 t3 t4 t5 t6 t7 t8 t9 t10 t11 t12 t13
          obtain ⟨n0, n1, n2, n3, n4, n5, n6, n7, n8, n9, n10, n11, n12, n13⟩ := hS.out.all
          have slt := hS.out.lt
          have HSI := Lib.hid hS.out
          have HBr := Lib.hid hb
          have hn40 := HN40.out
          have hyl := pre_few hy.out
          clear hb
          by_cases hlt : i < np
          · have hlz : (i : Int) < np := by omega
            obtain ⟨q, x, hq, hax⟩ := hx.out
            have HF := Lib.hid (d.follow _ hlt hq)
            have HAX := Lib.hid hax
            have HCALL : Hid (Calls Tryd.prog 47 #[.agg (stA i y.length (d.cn y)), .pointer (some ⟨w1.heap.size, 0, none⟩), .pointer (some ⟨w1.heap.size + 1 + 1, 0, none⟩), .pointer (some ⟨w1.heap.size + 1 + 1 + 1, 0, none⟩), .pointer (some ⟨w.heap.size + 1, 0, none⟩)] wr fun e w' => e = .returned (.agg (d.bv (fun k => (ps k).rat) np i y).arr) ∧ Keeps (· = (w1.heap.size + 1)) wr w' ∧ ∃ fm, MemoB w' d (fun k => (ps k).rat) np (w1.heap.size + 1) fm) := by
              obtain ⟨fm, hfm⟩ := hMr.out
              refine (HOKB.out i hi y fm wr hy.out HBr.out hfm).mono ?_
              rintro e w' ⟨rfl, h1, h2, h3, _⟩
              exact ⟨rfl, h1, h2, h3⟩
            rw [d.bv_ok _ _ _ _ hq] at HCALL
            obtain ⟨Q, hQ⟩ : ∃ Q, Q = ratG q := ⟨_, rfl⟩
            obtain ⟨tq, htq⟩ : ∃ tq, tq = decide (x.head? = some i) := ⟨_, rfl⟩
            dsimp only at HCALL
            rw [← hQ, ← htq] at HCALL
            have HTQ := Lib.hid htq
            clear hQ htq hq hax
            obtain ⟨Q1, Q2, Q3⟩ := Q
            go_wp2_with fail
            refine HCALL.out.mono ?_
            rintro e w3 ⟨rfl, hk3, hm3⟩
            have hMB1 : ∀ j, W3.heap.size ≤ j ∨ j = (w2.heap.size + 1) → j ≠ (w1.heap.size + 1) := fun j hj => by have h1 := HSF.out; have h2 := HZ2.out; have h3 := HZ3.out; omega
            have HK3 : Hid (Keeps (fun j => j = (w1.heap.size + 1) ∨ j = (w2.heap.size + 1)) W3 w3) := hKr.out.trans (hk3.weaken (fun j _ e => .inl e))
            have HS3' : Hid (StAt sb w3 i y.length (d.cn y)) := (hk3.block _ slt (hMB1 _ (hsb.out.symm))).trans hS.out
            have HM3' := Lib.hid hm3
            have HO3 : Hid (w3.ownsRow W3.heap.size 3 1 u14 y.length (intV y)) := ownsRow_blocks hown.out (fun b hb' => hk3.block b (World.ownsRow.lt hown.out b hb').2 (hMB1 _ (.inl (World.ownsRow.lt hown.out b hb').1)))
            clear hk3 hm3 t0 t1 t2 t3 t4 t5 t6 t7 t8 t9 t10 t11 t12 t13 n0 n1 n2 n3 n4 n5 n6 n7 n8 n9 n10 n11 n12 n13 k0 f0 p1 tlt klt flt plt2 slt hKr hMr hown hS HCALL
            unfold VC.arr
            dsimp only
            cases tq with
            | true =>
              have hxh : x.head? = some i := of_decide_eq_true HTQ.out.symm
              obtain ⟨q', x', e1, hmay, hnext⟩ := HF.out.1 hxh
              have HNEXT : Hid (∃ q x, top (fun k => (ps k).rat) (d.go np (i + 1) (y ++ [i])) = some (q, x) ∧ a.2 = (y ++ [i]) ++ x) := ⟨q', x', hnext, by rw [HAX.out, e1, List.append_assoc]; rfl⟩
              have HMAY := Lib.hid hmay
              clear hxh e1 hmay hnext
              have hS3q := HS3'.out
              have q0 := hS3q.next
              have qlt := hS3q.lt
              have HY1 := Lib.hid (pre_yes hy.out)
              clear hS3q
              go_wp2_with (at_builtin; refine wpList_append_own _ rfl _ _ 26 rfl W3.heap.size 3 i3 (.int .i64 0) 1 8 Tryd.underlying26 hi3 hz30 hz31 hz32 rfl (by decide) _ _ _ rfl ((ownsRow_below HO3.out ((Below.refl _ _).alloc (Nat.le_refl _) _)).alloc _) ⟨w3.heap.size + 1, 0, none⟩ 1 1 [.int .i64 (i : Int)] rfl rfl ?c1 ?c2 ?c3 ?c4 ?c5 ?_)
              case c1 =>
                intro j u hu
                have h := cell_one_new (w3.alloc (.cells #[.bool Q1, .string Q2, .string Q3, .bool true, .bool true] 111)) (.int .i64 (i : Int)) 3 j u hu
                rw [World.size_alloc] at h
                exact h
              case c2 => intro u hu; simp at hu; subst hu; rfl
              case c3 => unfold maxLen; omega
              case c4 => omega
              case c5 =>
                have h1 := HK3.out.size
                simp; omega
              intro v5 w5 hown5 hgrow5 _
              have hob := World.ownsRow.lt HO3.out
              have hVX : VAt w3.heap.size (w3.alloc (.cells #[.bool Q1, .string Q2, .string Q3, .bool true, .bool true] 111)) ⟨⟨Q1, Q2, Q3⟩, true, true⟩ := heap_alloc_new w3 _
              have hg35 : Keeps (fun j => u14.ownBlock = some j) w3 w5 := (((Keeps.refl _ w3).alloc (.cells #[.bool Q1, .string Q2, .string Q3, .bool true, .bool true] 111)).alloc (.cells #[.int .i64 (i : Int)] 3)).trans ⟨hgrow5.os, hgrow5.tape, hgrow5.output, hgrow5.size, fun j hj hn => hgrow5.block j hj (fun e => hn e.symm)⟩
              have hV5 : VAt w3.heap.size w5 ⟨⟨Q1, Q2, Q3⟩, true, true⟩ := (hgrow5.block w3.heap.size (by simp; omega) (fun e => by have := (hob _ e.symm).2; omega)).trans ((Below.heap_alloc _ _ _ (by simp)).trans hVX)
              have HS5 : Hid (StAt sb w5 i y.length (d.cn y)) := (hg35.block _ HS3'.out.lt (fun e => st_apart HS3'.out HO3.out e)).trans HS3'.out
              have HK5 : Hid (Keeps (fun j => j = (w1.heap.size + 1) ∨ j = (w2.heap.size + 1)) W3 w5) := HK3.out.then hg35 (fun j hj e => by have := (hob j e).1; omega)
              have HM5 : Hid (∃ fm, MemoB w5 d (fun k => (ps k).rat) np (w1.heap.size + 1) fm) := by obtain ⟨fm, hfm⟩ := HM3'.out; exact ⟨fm, hfm.block (hg35.block _ hfm.lt (fun e => hMB1 _ (.inl (hob _ e).1) rfl))⟩
              have HO5 := Lib.hid hown5
              obtain ⟨⟨v0, v1, v2, v3, v4⟩, _, vlt⟩ := hV5.at
              dsimp only at v0 v1 v2 v3 v4
              have hb5 := HBK.out w5 HK5.out
              obtain ⟨⟨t0, t1, t2, t3, t4, t5, t6, t7, t8, t9, t10, t11, t12, t13⟩, _, _, _, tlt, _, _, _⟩ := hb5.cells
              dsimp only at t0 t1 t2 t3 t4 t5 t6 t7 t8 t9 t10 t11 t12 t13
              have hS5' := HS5.out
              obtain ⟨n0, n1, n2, n3, n4, n5, n6, n7, n8, n9, n10, n11, n12, n13⟩ := hS5'.all
              have slt := hS5'.lt
              have HAD : Hid (Calls Tryd.prog 36 #[.agg (tabA ⟨a0, a2, a3, a4, a5, a6, a7, a8, a9, a12, kind, size, .slice aq m cq⟩ (.slice ai np ci)), .agg (stA i y.length (d.cn y)), .bool true] w5 (AddEnd d i y.length (d.cn y) w5)) := qadd_yes w1.heap.size np ⟨a0, a2, a3, a4, a5, a6, a7, a8, a9, a12, kind, size, .slice aq m cq⟩ (.slice ai np ci) d i y.length (d.cn y) w5 hb5.hBw hb5.tat hlt (by omega) (by omega) (fun k => by have := d.cn_le y k; omega)
              clear hown5 hgrow5 hob hVX hg35 hV5 hb5 hS5' q0 qlt
              go_wp2_with fail
              refine HAD.out.mono ?_
              rintro e w6 ⟨⟨c', rfl, hc'⟩, hb6⟩
              rw [HMAY.out] at hc' ⊢
              obtain rfl : c' = d.cn (y ++ [i]) := by funext k; rw [hc' rfl k, d.up_cn]
              have HS6 := Lib.hid (HS5.out.later hb6 HS5.out.lt)
              have HK6 := Lib.hid (HK5.out.belowS hb6)
              have HM6 : Hid (∃ fm, MemoB w6 d (fun k => (ps k).rat) np (w1.heap.size + 1) fm) := by obtain ⟨fm, hfm⟩ := HM5.out; exact ⟨fm, hfm.below hb6⟩
              have HO6 := Lib.hid (ownsRow_below HO5.out hb6)
              clear hb6 hc' t0 t1 t2 t3 t4 t5 t6 t7 t8 t9 t10 t11 t12 t13 n0 n1 n2 n3 n4 n5 n6 n7 n8 n9 n10 n11 n12 n13 slt tlt v0 v1 v2 v3 v4 vlt HAD
              have hS6' := HS6.out
              obtain ⟨n0, n1, n2, n3, n4, n5, n6, n7, n8, n9, n10, n11, n12, n13⟩ := hS6'.all
              obtain ⟨f0, f1, f2, f3, f4, f5, f6, f7, f8, f9, f10, f11, f12, f13⟩ := hS6'.frozens
              have slt := hS6'.lt
              clear hS6'
              unfold stA
              go_wp2_with fail
              generalize hWE : World.setCell _ _ _ = WE
              have hSE : StAt sb WE (i + 1) (y.length + 1) (d.cn (y ++ [i])) := by rw [← hWE]; exact stSet_at (n' := .int .i64 ((i : Int) + 1)) (m' := .int .i64 ((y.length : Int) + 1)) (c' := fun j => .int .i64 ((d.cn (y ++ [i])) j : Int)) HS6.out
              have hkE : Keeps (fun j => j = sb) w6 WE := by rw [← hWE]; exact keeps_stSet sb w6 (.int .i64 ((i : Int) + 1)) (.int .i64 ((y.length : Int) + 1)) (fun j => .int .i64 ((d.cn (y ++ [i])) j : Int))
              have hEs : WE.heap.size = w6.heap.size := by rw [← hWE]; simp [World.setCell]
              clear hWE
              have HKE : Hid (Keeps (fun j => j = (w1.heap.size + 1) ∨ j = (w2.heap.size + 1)) W3 WE) := HK6.out.then hkE (fun j hj e => by rcases hsb.out with h | h <;> omega)
              have HME : Hid (∃ fm, MemoB WE d (fun k => (ps k).rat) np (w1.heap.size + 1) fm) := by obtain ⟨fm, hfm⟩ := HM6.out; exact ⟨fm, hfm.block (hkE.block _ hfm.lt (fun e => hMB1 sb hsb.out.symm e.symm))⟩
              have HOE := Lib.hid (ownsRow_blocks HO6.out (fun b hb' => hkE.block b (World.ownsRow.lt HO6.out b hb').2 (fun e => st_apart HS6.out HO6.out (by rw [hb', e]))))
              clear hkE n0 n1 n2 n3 n4 n5 n6 n7 n8 n9 n10 n11 n12 n13
              obtain ⟨n0, n1, n2, n3, n4, n5, n6, n7, n8, n9, n10, n11, n12, n13⟩ := hSE.all
              have sl2 := hSE.lt
              have HSE := Lib.hid hSE
              clear hSE
              go_wp2_with fail
              generalize hWN : World.alloc _ _ = WN
              have hSN : StAt WE.heap.size WN (i + 1) (y.length + 1) (d.cn (y ++ [i])) := by rw [← hWN]; exact heap_alloc_new WE _
              have hBN : Below WE.heap.size WE WN := by rw [← hWN]; exact (Below.refl _ _).alloc (Nat.le_refl _) _
              clear hWN
              have HKN := Lib.hid (HKE.out.belowS hBN)
              have HMN : Hid (∃ fm, MemoB WN d (fun k => (ps k).rat) np (w1.heap.size + 1) fm) := by obtain ⟨fm, hfm⟩ := HME.out; exact ⟨fm, hfm.below hBN⟩
              have HON := Lib.hid (ownsRow_below HOE.out hBN)
              have hgs : W3.heap.size ≤ WE.heap.size := HKE.out.size
              rw [hEs] at hSN hgs
              go_roundw
              case rel => exact ⟨i + 1, y ++ [i], w6.heap.size, by omega, rfl, HY1, (by show StAt _ _ _ (y ++ [i]).length _; rw [List.length_append]; exact hSN), .inr hgs, HKN, HMN, (by show World.ownsRow _ _ _ _ _ (y ++ [i]).length (intV (y ++ [i])); rw [List.length_append, intV_append]; exact HON.out), HNEXT⟩
              case measure =>
                rw [stNext_at hSN, stNext_at HSI.out]; omega
            | false =>
              have hxh : x.head? ≠ some i := of_decide_eq_false HTQ.out.symm
              have HNEXT : Hid (∃ q x, top (fun k => (ps k).rat) (d.go np (i + 1) y) = some (q, x) ∧ a.2 = y ++ x) := ⟨q, x, HF.out.2 hxh, HAX.out⟩
              clear hxh
              have hB34 : Below w3.heap.size w3 (w3.alloc (.cells #[.bool Q1, .string Q2, .string Q3, .bool true, .bool false] 111)) := (Below.refl _ _).alloc (Nat.le_refl _) _
              have hb3' := HBK.out w3 HK3.out
              obtain ⟨⟨t0, t1, t2, t3, t4, t5, t6, t7, t8, t9, t10, t11, t12, t13⟩, _, _, _, tlt, _, _, _⟩ := hb3'.cells
              dsimp only at t0 t1 t2 t3 t4 t5 t6 t7 t8 t9 t10 t11 t12 t13
              have hS3q := HS3'.out
              obtain ⟨n0, n1, n2, n3, n4, n5, n6, n7, n8, n9, n10, n11, n12, n13⟩ := hS3q.all
              have slt := hS3q.lt
              have HAD : Hid (∀ W, Calls Tryd.prog 36 #[.agg (tabA ⟨a0, a2, a3, a4, a5, a6, a7, a8, a9, a12, kind, size, .slice aq m cq⟩ (.slice ai np ci)), .agg (stA i y.length (d.cn y)), .bool false] W fun e w' => e = .returned (.tuple #[.agg (stA (i + 1) y.length (d.cn y)), .bool true]) ∧ Below W.heap.size W w') := fun W => qadd_no ⟨a0, a2, a3, a4, a5, a6, a7, a8, a9, a12, kind, size, .slice aq m cq⟩ (.slice ai np ci) i y.length (d.cn y) W (by omega)
              have HB34 := Lib.hid hB34
              clear hB34 hb3' hS3q
              go_wp2_with fail
              refine (HAD.out _).mono ?_
              rintro e w6 ⟨rfl, hb6⟩
              have hb36 : Below w3.heap.size w3 w6 := HB34.out.trans (hb6.mono HB34.out.size)
              have HS6 := Lib.hid (HS3'.out.later hb36 HS3'.out.lt)
              have HK6 := Lib.hid (HK3.out.belowS hb36)
              have HM6 : Hid (∃ fm, MemoB w6 d (fun k => (ps k).rat) np (w1.heap.size + 1) fm) := by obtain ⟨fm, hfm⟩ := HM3'.out; exact ⟨fm, hfm.below hb36⟩
              have HO6 := Lib.hid (ownsRow_below HO3.out hb36)
              clear hb6 hb36 t0 t1 t2 t3 t4 t5 t6 t7 t8 t9 t10 t11 t12 t13 n0 n1 n2 n3 n4 n5 n6 n7 n8 n9 n10 n11 n12 n13 slt tlt HAD
              have hS6' := HS6.out
              obtain ⟨n0, n1, n2, n3, n4, n5, n6, n7, n8, n9, n10, n11, n12, n13⟩ := hS6'.all
              obtain ⟨f0, f1, f2, f3, f4, f5, f6, f7, f8, f9, f10, f11, f12, f13⟩ := hS6'.frozens
              have slt := hS6'.lt
              clear hS6'
              unfold stA
              go_wp2_with fail
              generalize hWE : World.setCell _ _ _ = WE
              have hSE : StAt sb WE (i + 1) y.length (d.cn y) := by rw [← hWE]; exact stSet_at (n' := .int .i64 ((i : Int) + 1)) (m' := .int .i64 (y.length : Int)) (c' := fun j => .int .i64 ((d.cn y) j : Int)) HS6.out
              have hkE : Keeps (fun j => j = sb) w6 WE := by rw [← hWE]; exact keeps_stSet sb w6 (.int .i64 ((i : Int) + 1)) (.int .i64 (y.length : Int)) (fun j => .int .i64 ((d.cn y) j : Int))
              have hEs : WE.heap.size = w6.heap.size := by rw [← hWE]; simp [World.setCell]
              clear hWE
              have HKE : Hid (Keeps (fun j => j = (w1.heap.size + 1) ∨ j = (w2.heap.size + 1)) W3 WE) := HK6.out.then hkE (fun j hj e => by rcases hsb.out with h | h <;> omega)
              have HME : Hid (∃ fm, MemoB WE d (fun k => (ps k).rat) np (w1.heap.size + 1) fm) := by obtain ⟨fm, hfm⟩ := HM6.out; exact ⟨fm, hfm.block (hkE.block _ hfm.lt (fun e => hMB1 sb hsb.out.symm e.symm))⟩
              have HOE := Lib.hid (ownsRow_blocks HO6.out (fun b hb' => hkE.block b (World.ownsRow.lt HO6.out b hb').2 (fun e => st_apart HS6.out HO6.out (by rw [hb', e]))))
              clear hkE n0 n1 n2 n3 n4 n5 n6 n7 n8 n9 n10 n11 n12 n13
              obtain ⟨n0, n1, n2, n3, n4, n5, n6, n7, n8, n9, n10, n11, n12, n13⟩ := hSE.all
              have sl2 := hSE.lt
              have HSE := Lib.hid hSE
              clear hSE
              go_wp2_with fail
              generalize hWN : World.alloc _ _ = WN
              have hSN : StAt WE.heap.size WN (i + 1) y.length (d.cn y) := by rw [← hWN]; exact heap_alloc_new WE _
              have hBN : Below WE.heap.size WE WN := by rw [← hWN]; exact (Below.refl _ _).alloc (Nat.le_refl _) _
              clear hWN
              have HKN := Lib.hid (HKE.out.belowS hBN)
              have HMN : Hid (∃ fm, MemoB WN d (fun k => (ps k).rat) np (w1.heap.size + 1) fm) := by obtain ⟨fm, hfm⟩ := HME.out; exact ⟨fm, hfm.below hBN⟩
              have HON := Lib.hid (ownsRow_below HOE.out hBN)
              have hgs : W3.heap.size ≤ WE.heap.size := HKE.out.size
              rw [hEs] at hSN hgs
              go_roundw
              case rel => exact ⟨i + 1, y, w6.heap.size, by omega, rfl, (pre_no hy.out), hSN, .inr hgs, HKN, HMN, HON, HNEXT⟩
              case measure =>
                rw [stNext_at hSN, stNext_at HSI.out]; omega
          · obtain rfl : np = i := by omega
            obtain ⟨q, x, hq, hax⟩ := hx.out
            have HAE : Hid (a.2 = y) := by
              rw [PD.go_end] at hq
              split at hq
              · have h1 : ((price (fun k => (ps k).rat) [], []) : Rat × List Nat) = (q, x) := Option.some.inj hq
                obtain rfl : x = [] := (congrArg Prod.snd h1).symm
                show a.2 = y
                rw [hax, List.append_nil]
              · cases hq
            have hVr : VAt w2.heap.size wr ⟨⟨G1, G2, G3⟩, true, tk⟩ := (hKr.out.block _ HV3.out.at.2.2 (fun e => by have h1 := HSF.out; have h2 := HZ2.out; rcases e with e | e <;> omega)).trans HV3.out
            obtain ⟨⟨v0, v1, v2, v3, v4⟩, _, vlt⟩ := hVr.at
            dsimp only at v0 v1 v2 v3 v4
            have hz1 := HB1.out.size
            have hz0 := HBF.out.size
            have hz2 := HZ2.out
            have hz3 := HB3.out.size
            have hRr : Cells3 (w.heap.size + 1 + 1) wr (.bool false) (.string ⟨#[]⟩) (.string ⟨#[]⟩) := (hKr.out.block _ (by omega) (fun e => by rcases e with e | e <;> omega)).trans ((HB3.out.block _ (by omega)).trans ((HK2.out.block _ (by omega) (fun e => by omega)).trans HRF.out))
            obtain ⟨c0, c1, c2, x0, x1, x2, cl2⟩ := hRr.at
            have HBW : Hid (Below w.heap.size w wr) := by
              have g2 : Below w.heap.size w1 WF := HBF.out.mono hz1
              have g3 : Below w.heap.size WF w2 := HK2.out.belowB (by omega) (fun j hj e => by omega)
              have g4 : Below w.heap.size w2 W3 := HB3.out.mono (by omega)
              have g5 : Below w.heap.size W3 wr := hKr.out.belowB (by omega) (fun j hj e => by rcases e with e | e <;> omega)
              exact (((HB1.out.trans g2).trans g3).trans g4).trans g5
            have HOWN := Lib.hid hown.out
            have HRr := Lib.hid hRr
            clear hVr hRr hKr hMr hown hS hx hq hax hy hsb
            have HF1 : Hid (Below w.heap.size w (((wr.setCell ⟨w.heap.size + 1 + 1, 0, none⟩ (.bool G1)).setCell ⟨w.heap.size + 1 + 1, 1, none⟩ (.string G2)).setCell ⟨w.heap.size + 1 + 1, 2, none⟩ (.string G3))) := below3 HBW.out (by omega) _ _ _
            have HF2 : Hid (IntsAt (((wr.setCell ⟨w.heap.size + 1 + 1, 0, none⟩ (.bool G1)).setCell ⟨w.heap.size + 1 + 1, 1, none⟩ (.string G2)).setCell ⟨w.heap.size + 1 + 1, 2, none⟩ (.string G3)).heap.size (((wr.setCell ⟨w.heap.size + 1 + 1, 0, none⟩ (.bool G1)).setCell ⟨w.heap.size + 1 + 1, 1, none⟩ (.string G2)).setCell ⟨w.heap.size + 1 + 1, 2, none⟩ (.string G3)) u14 (intsOf y)) := by
              refine IntsAt.of_owns (base := W3.heap.size) (e := 3) ?_
              rw [intsOf_length, ← intV_ints]
              exact ownsRow_setCell_below (ownsRow_setCell_below (ownsRow_setCell_below HOWN.out (by show w.heap.size + 1 + 1 < _; omega) _) (by show w.heap.size + 1 + 1 < _; omega) _) (by show w.heap.size + 1 + 1 < _; omega) _
            go_wp2_with fail
            go_region
            all_goals
              go_wp2_with fail
              refine bodyPost_ret (v := .tuple #[u14, .agg #[.bool G1, .string G2, .string G3], .bool true]) (by simp [results, Tryd.results24, go_sem, c0, c1, c2, cl2]) rfl ?_
              rw [HV.out, htop]
              refine ⟨u14, by rw [← HGG.out], ?_, ?_⟩
              · rw [HAE.out]; exact HF2.out
              · first | exact HF1.out | exact HF1.out.drew | exact HF1.out.drew.drew | exact HF1.out.drew.drew.drew | exact ⟨HF1.out.os, HF1.out.tape, HF1.out.output, HF1.out.size, HF1.out.block⟩
    · have HV : Hid (bestOf ⟨a0, a2, a3, a4, a5, a6, a7, a8, a9, a12, kind, size, .slice aq m cq⟩ n m g low high gs np ps = none) := if_neg hnp
      have hnp' : ¬ (np : Int) = n := by omega
      clear hok
      unfold tabA
      dsimp only
      go_wp2_with fail
      exact bodyPost_ret (v := .tuple #[.slice none 0 0, .agg #[.bool false, .string ⟨#[]⟩, .string ⟨#[]⟩], .bool false]) (by simp [results, Tryd.results24, go_sem, r0, r1, r2, plt, rlt]) rfl (by
        rw [HV.out]
        exact ⟨rfl, (below3 HB1.out (by omega) _ _ _).alloc (by simp [World.setCell]; exact HB1.out.size) _⟩)
  · have HV : Hid (bestOf ⟨a0, a2, a3, a4, a5, a6, a7, a8, a9, a12, kind, size, .slice aq m cq⟩ n m g low high gs np ps = none) := by
      show bestOf _ _ _ _ _ _ _ _ _ = none
      unfold bestOf pans
      rw [if_neg hok]
      split <;> rfl
    rw [decide_eq_false hok]
    unfold tabA
    dsimp only
    clear hok HT
    go_wp2_with fail
    exact bodyPost_ret (v := .tuple #[.slice none 0 0, .agg #[.bool false, .string ⟨#[]⟩, .string ⟨#[]⟩], .bool false]) (by simp [results, Tryd.results24, go_sem, r0, r1, r2, plt, rlt]) rfl (by
      rw [HV.out]
      exact ⟨rfl, (below3 HB1.out (by omega) _ _ _).alloc (by simp [World.setCell]; exact HB1.out.size) _⟩)

end Go.Proofs.YtebigkjilklodaaDoor

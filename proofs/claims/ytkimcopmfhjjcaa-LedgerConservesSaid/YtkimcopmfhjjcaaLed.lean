/- One ledger among the blocks of the call: how it goes on from call to call. -/
import Derived.Test.YtkimcopmfhjjcaaAll
import Derived.Test.YtkimcopmfhjjcaaSplit
namespace Go.Proofs.Ytkimcopmfhjjcaa
open Go.RowKit

/-- The ledger at lb stands for L; its blocks lie from N on and below K; below N nothing has changed since w0. -/
structure LedW (N K : Nat) (w0 w : World) (lb c : Nat) (L : List Pst) : Prop where
  led : LedgerIn (fun k => N ≤ k ∧ k < K) w lb c L
  size : K ≤ w.heap.size
  low : N ≤ K
  below : Below N w0 w
theorem LedW.calm {N K : Nat} {w0 w w' : World} {lb c : Nat} {L : List Pst} (h : LedW N K w0 w lb c L) (hb : Below w.heap.size w w') : LedW N K w0 w' lb c L :=
  ⟨h.led.below hb, Nat.le_trans h.size hb.size, h.low, h.below.trans (hb.mono (Nat.le_trans h.low h.size))⟩
theorem LedW.drews {N K : Nat} {w0 w w' : World} {lb c : Nat} {L : List Pst} (h : LedW N K w0 w lb c L) (hd : Drew w w') : LedW N K w0 w' lb c L := h.calm (hd.below _)
theorem LedW.after {N K : Nat} {w0 w w' : World} {lb c d : Nat} {L L' : List Pst} (h : LedW N K w0 w lb c L) (hl : LedgerIn (fun k => (N ≤ k ∧ k < K) ∨ (w.heap.size ≤ k ∧ k < w'.heap.size)) w' lb d L') (hk : Keeps (fun k => N ≤ k ∧ k < K) w w') :
    LedW N w'.heap.size w0 w' lb d L' := by
  have h1 := h.size
  have h2 := h.low
  have h3 := hk.size
  exact ⟨hl.mono (fun k hk => by omega) (Nat.le_refl _), Nat.le_refl _, by omega, h.below.trans (hk.below (by omega) (fun k hk => hk.1))⟩
theorem post_led {N K : Nat} {w0 w : World} {lb c : Nat} {L : List Pst} (h : LedW N K w0 w lb c L) (p : Pst) (hf : p.fits) (hc : c < 1000000000000) (x : Int) (L' : List Pst) (hx : postE L p = x) (hL : postL L p = L') :
    Calls Try.prog 13 #[.pointer (some ⟨lb, 0, none⟩), p.val] w fun e w' => e = .returned (.int .i64 x) ∧ LedW N w'.heap.size w0 w' lb (c + 2) L' := by
  subst hx
  subst hL
  exact (post_any _ lb c L p w hf h.led hc).mono fun e w' ⟨he, hl, hk⟩ => ⟨he, h.after hl hk⟩
theorem balance_led {N K : Nat} {w0 w : World} {lb c : Nat} {L : List Pst} (h : LedW N K w0 w lb c L) (s : ByteArray) (hs : s.size ≤ 9223372036854775807) (x : Int) (hx : balI L s = x) :
    Calls Try.prog 18 #[.pointer (some ⟨lb, 0, none⟩), .string s] w fun e w' => e = .returned (.int .i64 x) ∧ w = w' := by
  subst hx
  exact (balance_any _ lb c L s w hs h.led).mono fun _ _ h => ⟨h.1, h.2.symm⟩
theorem new_led (w : World) :
    Calls Try.prog 12 #[] w fun e w' => e = .returned (.pointer (some ⟨w.heap.size, 0, none⟩)) ∧ LedW w.heap.size w'.heap.size w w' w.heap.size 0 [] := by
  refine (new_any w).mono ?_
  rintro e w' ⟨he, hl, hb⟩
  exact ⟨he, ⟨hl.bound.mono (fun k hk => by omega) (Nat.le_refl _), Nat.le_refl _, hb.size, hb⟩⟩

theorem PstsAt.new {S : Nat → Prop} {w : World} {ps : List Pst} {t : TypeId} (hS : ∀ k, S k → k < w.heap.size) : PstsAt S (w.alloc (.cells (pstCells ps).toArray t)) (some ⟨w.heap.size, 0, none⟩) ps := by
  intro j u hu
  refine ⟨w.heap.size, 0, rfl, by simp, fun h => Nat.lt_irrefl _ (hS _ h), ?_⟩
  rw [World.cell?_alloc_at _ _ _ _ rfl]
  simpa using hu
theorem all_fail_led {N K : Nat} {w0 w : World} {lb c : Nat} {L : List Pst} (h : LedW N K w0 w lb c L) (j : Nat) (x : Int) (M ps : List Pst) (ao : Option Addr) (cap : Nat) (hp : PstsAt (fun k => N ≤ k ∧ k < K) w ao ps) (hf : ∀ p ∈ ps, p.fits) (hn : ps.length ≤ 1000000) (hj : j < ps.length)
    (hok : ∀ k, k < j → postE (allL L (ps.take k)) (ps[k]?.getD noPst) = 0) (hM : allL L (ps.take j) = L ++ M) (he : postE (L ++ M) (ps[j]?.getD noPst) = x) (hx : ¬ x = 0)
    (h1 : 1 ≤ L.length) (h2 : 1 ≤ M.length) (hu : ∀ q ∈ L, ∀ p ∈ M, q.key ≠ p.key) (hfit : ∀ p ∈ M, p.fits) (hc : c < 1000000000) :
    Calls Try.prog 20 #[.pointer (some ⟨lb, 0, none⟩), .slice ao ps.length cap] w fun e w' => e = .returned (.tuple #[.int .i64 j, .int .i64 x]) ∧ LedW N w'.heap.size w0 w' lb (c + 2 * j + 2 + 2 * M.length) L := by
  refine (all_fail (fun k => N ≤ k ∧ k < K) lb c j x L M ps ao cap w h.led (fun k hk => Nat.lt_of_lt_of_le hk.2 h.size) hp hf hn hj hok hM he hx h1 h2 hu hfit hc).mono ?_
  rintro e w' ⟨rfl, hl, hk⟩
  exact ⟨rfl, h.after hl hk⟩
theorem all_ok_led {N K : Nat} {w0 w : World} {lb c : Nat} {L : List Pst} (h : LedW N K w0 w lb c L) (ps : List Pst) (ao : Option Addr) (cap : Nat) (hp : PstsAt (fun k => N ≤ k ∧ k < K) w ao ps) (hf : ∀ p ∈ ps, p.fits) (hn : ps.length ≤ 1000000)
    (hok : ∀ k, k < ps.length → postE (allL L (ps.take k)) (ps[k]?.getD noPst) = 0) (hc : c < 1000000000) :
    Calls Try.prog 20 #[.pointer (some ⟨lb, 0, none⟩), .slice ao ps.length cap] w fun e w' => e = .returned (.tuple #[.int .i64 ps.length, .int .i64 0]) ∧ LedW N w'.heap.size w0 w' lb (c + 2 * ps.length) (allL L ps) := by
  refine (all_ok (fun k => N ≤ k ∧ k < K) lb c L ps ao cap w h.led (fun k hk => Nat.lt_of_lt_of_le hk.2 h.size) hp hf hn hok hc).mono ?_
  rintro e w' ⟨rfl, hl, hk⟩
  exact ⟨rfl, h.after hl hk⟩

/-! ### The examples of the chapter: what is computed at them -/
def exP1 : Pst := ⟨⟨#[97]⟩, ⟨#[109, 105, 110, 116]⟩, ⟨#[112, 111, 116]⟩, 10⟩
def exP2 : Pst := ⟨⟨#[98]⟩, ⟨#[112, 111, 116]⟩, ⟨#[111, 102, 102, 105, 99, 101]⟩, 4⟩
def exP3 : Pst := ⟨⟨#[98]⟩, ⟨#[112, 111, 116]⟩, ⟨#[111, 102, 102, 105, 99, 101]⟩, 5⟩
def exP4 : Pst := ⟨⟨#[99]⟩, ⟨#[111, 102, 102, 105, 99, 101]⟩, ⟨#[112, 111, 116]⟩, 5⟩
def exP5 : Pst := ⟨⟨#[99]⟩, ⟨#[112, 111, 116]⟩, ⟨#[112, 111, 116]⟩, 1⟩
def exP6 : Pst := ⟨⟨#[100]⟩, ⟨#[112, 111, 116]⟩, ⟨#[120]⟩, 6⟩
def exP7 : Pst := ⟨⟨#[101]⟩, ⟨#[112, 111, 116]⟩, ⟨#[120]⟩, 1⟩
theorem ex1 : postE [] exP1 = 0 := by decide +kernel
theorem ex2 : postE [exP1] exP2 = 0 := by decide +kernel
theorem ex3 : postE [exP1, exP2] exP2 = 0 := by decide +kernel
theorem ex4 : postE [exP1, exP2] exP3 = 33 := by decide +kernel
theorem ex5 : postE [exP1, exP2] exP4 = 52 := by decide +kernel
theorem ex6 : postE [exP1, exP2] exP5 = 1 := by decide +kernel
theorem ex7 : postE [exP1, exP2] exP6 = 0 := by decide +kernel
theorem ex8 : postE [exP1, exP2, exP6] exP7 = 52 := by decide +kernel
theorem exk1 : keyIdx [] exP1.key = none := by decide +kernel
theorem exk2 : keyIdx [exP1] exP2.key = none := by decide +kernel
theorem exk3 : keyIdx [exP1, exP2] exP2.key ≠ none := by decide +kernel
theorem exk6 : keyIdx [exP1, exP2] exP6.key = none := by decide +kernel
theorem exb1 : balI [exP1, exP2] ⟨#[112, 111, 116]⟩ = 6 := by decide +kernel
theorem exb2 : balI [exP1, exP2] ⟨#[111, 102, 102, 105, 99, 101]⟩ = 4 := by decide +kernel
theorem exb3 : balI [exP1, exP2] ⟨#[109, 105, 110, 116]⟩ = -10 := by decide +kernel
theorem exs1 : splitI 10 [1, 1, 1] = [4, 3, 3] := by decide +kernel
theorem exs2 : splitI 7 [2, 0, 1] = [5, 0, 2] := by decide +kernel
theorem exl1 : postL [] exP1 = [exP1] := by unfold postL; rw [if_pos ⟨ex1, exk1⟩]; rfl
theorem exl2 : postL [exP1] exP2 = [exP1, exP2] := by unfold postL; rw [if_pos ⟨ex2, exk2⟩]; rfl
theorem exl3 : postL [exP1, exP2] exP2 = [exP1, exP2] := by unfold postL; rw [if_neg (fun e => exk3 e.2)]
theorem exl4 : postL [exP1, exP2] exP3 = [exP1, exP2] := postL_err (by rw [ex4]; decide)
theorem exl5 : postL [exP1, exP2] exP4 = [exP1, exP2] := postL_err (by rw [ex5]; decide)
theorem exl6 : postL [exP1, exP2] exP5 = [exP1, exP2] := postL_err (by rw [ex6]; decide)
theorem exl7 : postL [exP1, exP2] exP6 = [exP1, exP2, exP6] := by unfold postL; rw [if_pos ⟨ex7, exk6⟩]; rfl

theorem exsplit (w : World) (a : Int) (ws r : List Int) (ha0 : 0 ≤ a) (ha1 : a ≤ 1000000000) (h1 : 1 ≤ ws.length) (h20 : ws.length < 20) (hw : ∀ x ∈ ws, 0 ≤ x ∧ x ≤ 1000000) (hs : 0 < sumI ws) (hr : splitI a ws = r) (hrl : r.length = ws.length) :
    Calls Try.prog 8 #[.int .i64 a, .slice (some ⟨w.heap.size, 0, none⟩) ws.length ws.length] (w.alloc (.cells (ws.map (Value.int .i64)).toArray 3)) fun e w' =>
      ∃ v', e = .returned (.tuple #[v', .bool true]) ∧ IntsAt w'.heap.size w' v' r ∧ Below w.heap.size w w' := by
  subst hr
  refine (split_yes a _ ws _ (IntsAt.new w ws 3 ws.length) ha0 ha1 h1 h20 hw hs).mono ?_
  rintro e w' ⟨v', rfl, ho, hb⟩
  rw [← hrl] at ho
  exact ⟨v', rfl, IntsAt.of_owns ho, ((Below.refl _ _).alloc (Nat.le_refl _) _).trans (hb.mono (by simp))⟩
theorem exints (w : World) (v : Value) (l : List Int) (hv : IntsAt w.heap.size w v l) (hl : l.length ≤ 1000) :
    Calls Try.prog 10 #[v, .slice (some ⟨w.heap.size, 0, none⟩) l.length l.length] (w.alloc (.cells (l.map (Value.int .i64)).toArray 3)) fun e w' => e = .returned (.bool true) ∧ Below w.heap.size w w' := by
  have hb : Below w.heap.size w (w.alloc (.cells (l.map (Value.int .i64)).toArray 3)) := (Below.refl _ _).alloc (Nat.le_refl _) _
  refine (ints14_any _ _ v _ l l _ (hv.mono hb (Nat.le_refl _)) (IntsAt.new w l 3 l.length) (by omega) (by omega)).mono ?_
  rintro e w' ⟨rfl, hd⟩
  exact ⟨ret_bool (by simp), bl_drews hb hd⟩
theorem exall (w : World) (N K : Nat) (w0 : World) (lb c : Nat) (h : LedW N K w0 w lb c [exP1, exP2]) (hc : c < 1000000000) :
    Calls Try.prog 20 #[.pointer (some ⟨lb, 0, none⟩), .slice (some ⟨w.heap.size, 0, none⟩) 2 2] (w.alloc (.cells (pstCells [exP6, exP7]).toArray 40)) fun e w' =>
      e = .returned (.tuple #[.int .i64 1, .int .i64 52]) ∧ LedW N w'.heap.size w0 w' lb (c + 6) [exP1, exP2] := by
  have fs : ∀ p ∈ [exP6, exP7], p.fits := by
    intro p hp
    simp only [List.mem_cons, List.not_mem_nil, or_false] at hp
    rcases hp with rfl | rfl <;> exact ⟨by decide, by decide, by decide, by decide, by decide⟩
  refine (all_fail_led (h.calm ((Below.refl _ _).alloc (Nat.le_refl _) _)) 1 52 [exP6] [exP6, exP7] (some ⟨w.heap.size, 0, none⟩) 2 (PstsAt.new (fun k hk => Nat.lt_of_lt_of_le hk.2 h.size)) fs (by decide) (by decide) ?_ exl7 ex8 (by decide) (by decide) (by decide) ?_ (fun p hp => fs p (by simp at hp; simp [hp])) hc).mono ?_
  · intro k hk
    obtain rfl : k = 0 := by omega
    exact ex7
  · intro q hq p hp
    simp only [List.mem_cons, List.not_mem_nil, or_false] at hq hp
    subst hp
    rcases hq with rfl | rfl <;> decide +kernel
  · rintro e w' ⟨rfl, hl⟩
    exact ⟨rfl, hl⟩

end Go.Proofs.Ytkimcopmfhjjcaa

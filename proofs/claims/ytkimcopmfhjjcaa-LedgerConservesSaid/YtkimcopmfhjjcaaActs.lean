/- 'postings': the postings of a list of numbers. -/
import Derived.Test.YtkimcopmfhjjcaaAct
import Derived.Test.YtkimcopmfhjjcaaConsLaw
namespace Go.Proofs.Ytkimcopmfhjjcaa
open Go.RowKit

def actCells (l : List ActN) : List Value := l.flatMap ActN.cells
theorem actCells_length (l : List ActN) : (actCells l).length = l.length * 4 := by
  induction l with
  | nil => rfl
  | cons a l ih => show (a.cells ++ actCells l).length = _; rw [List.length_append, ih]; simp [ActN.cells]; omega
theorem actCells_get : ∀ (l : List ActN) (j t : Nat) (h : j < l.length), t < 4 → (actCells l)[j * 4 + t]? = l[j].cells[t]?
  | a :: l, 0, t, _, ht => by
    show (a.cells ++ actCells l)[0 * 4 + t]? = _
    rw [List.getElem?_append_left (by simp [ActN.cells]; omega)]; simp
  | a :: l, j + 1, t, h, ht => by
    show (a.cells ++ actCells l)[(j + 1) * 4 + t]? = _
    rw [List.getElem?_append_right (by simp [ActN.cells]; omega)]
    have e : (j + 1) * 4 + t - a.cells.length = j * 4 + t := by simp [ActN.cells]; omega
    rw [e, actCells_get l j t (by simpa using h) ht]; rfl
/-- The postings of the first n. -/
def pstsN (l : List ActN) (n : Nat) : List Pst := (l.take n).map ActN.pst
theorem pstsN_length (l : List ActN) (n : Nat) : (pstsN l n).length = min n l.length := by simp [pstsN]
theorem pstsN_succ {l : List ActN} {k : Nat} (h : k < l.length) : pstsN l (k + 1) = pstsN l k ++ [l[k].pst] := by
  unfold pstsN; rw [List.take_add_one, List.getElem?_eq_getElem h, List.map_append]; rfl

theorem owns_later {w w' : World} {base size n : Nat} {e : TypeId} {v : Value} {xs : List Value} (h : w.ownsRow base e size v n xs) (hb : Below w.heap.size w w') : w'.ownsRow base e size v n xs := by
  refine ⟨h.1, ?_⟩
  rcases h.2 with r | ⟨g, cap, cur, rfl, hb', hg, r⟩
  · exact .inl r
  · exact .inr ⟨g, cap, cur, rfl, hb', (hb.block g (Array.getElem?_eq_some_iff.1 hg).1).trans hg, r⟩

set_option maxHeartbeats 1000000 in
set_option maxRecDepth 100000 in
theorem postings_any (acts : List ActN) (v : Value) (n : Nat) (w : World) (hv : RowAt w.heap.size w v acts.length (actCells acts)) (hl : acts.length ≤ 9223372036854775807) (hn : n ≤ 1000) :
    Calls Try.prog 16 #[v, .int .i64 n] w fun e w' => ∃ v', e = .returned v' ∧ w'.ownsRow w.heap.size 40 4 v' (pstsN acts n).length (pstCells (pstsN acts n)) ∧ Below w.heap.size w w' := by
  obtain ⟨i0, hi, hz0, hz1, hz2⟩ := info_parts Try.infoPst
  obtain ⟨ao, cap, rfl, hc⟩ := hv
  have HC := Lib.hid hc
  clear hc
  obtain ⟨m, hm⟩ : ∃ m, m = min n acts.length := ⟨_, rfl⟩
  have HM := Lib.hid hm
  have hmn : m ≤ n := by omega
  have hma : m ≤ acts.length := by omega
  clear hm
  go_enter Try.func16, Try.ntmps16
  go_wp2
  go_loopw [5, 6] (fun v i wr => ∃ k : Nat, k ≤ m ∧ i = .int .i64 k ∧ Hid (wr.ownsRow w.heap.size 40 4 v k (pstCells (pstsN acts k))) ∧ Hid (Below w.heap.size w wr)) (fun _ i _ => m - (intOf i).toNat)
  case atStart => exact ⟨0, Nat.zero_le _, rfl, World.ownsRow_nil _ _ _ _, Below.refl _ _⟩
  case round =>
    obtain ⟨k, hk, rfl, HO, HB⟩ := hrel
    have hszB := HB.out.size
    by_cases hlt : k < m
    · have h1 : (k : Int) < acts.length := by omega
      have h2 : (k : Int) < n := by omega
      have hka : k < acts.length := by omega
      have hget : ∀ t u, t < 4 → acts[k].cells[t]? = some u → ∃ b off, ao = some ⟨b, off, none⟩ ∧ b < w.heap.size ∧ wr.cell? ⟨b, off + (k * 4 + t), none⟩ = some u := by
        intro t u ht hu
        obtain ⟨b, off, e, hb, hcell⟩ := HC.out (k * 4 + t) u (by rw [actCells_get acts k t hka ht]; exact hu)
        exact ⟨b, off, e, hb, (HB.out.cell (p := ⟨b, off + (k * 4 + t), none⟩) hb).trans hcell⟩
      have HSU := Lib.hid (pstsN_succ hka)
      have HPA := Lib.hid (fun w => act_any acts[k] w)
      obtain ⟨a, ha⟩ : ∃ a, a = acts[k] := ⟨_, rfl⟩
      rw [← ha] at hget HSU HPA
      clear ha hka
      obtain ⟨p, hp⟩ : ∃ p, p = a.pst := ⟨_, rfl⟩
      rw [← hp] at HSU HPA
      clear hp
      obtain ⟨key, src, dst, amount⟩ := a
      unfold ActN.val at HPA
      obtain ⟨b, off, rfl, _, c0⟩ := hget 0 _ (by omega) rfl
      obtain ⟨_, _, e1, _, c1⟩ := hget 1 _ (by omega) rfl
      obtain ⟨_, _, e2, _, c2⟩ := hget 2 _ (by omega) rfl
      obtain ⟨_, _, e3, _, c3⟩ := hget 3 _ (by omega) rfl
      simp only [Option.some.injEq, Addr.mk.injEq, and_true] at e1 e2 e3
      obtain ⟨rfl, rfl⟩ := e1
      obtain ⟨rfl, rfl⟩ := e2
      obtain ⟨rfl, rfl⟩ := e3
      clear hget
      dsimp only at c0 c1 c2 c3 HPA
      simp only [← Nat.add_assoc, Nat.add_zero] at c0 c1 c2 c3
      go_wp2_with fail
      refine (HPA.out wr).mono ?_
      rintro e w1 ⟨rfl, hb⟩
      have HB1 := Lib.hid (HB.out.trans (hb.mono hszB))
      have HO1 := Lib.hid (owns_later HO.out hb)
      have hsz1 := HB1.out.size
      obtain ⟨pk, ps, pd, pa⟩ := p
      unfold Pst.val
      dsimp only
      clear hb HO HB c0 c1 c2 c3
      go_wp2_with (at_builtin; refine wpList_append_own _ rfl _ _ 45 rfl w.heap.size 40 i0 _ 4 56 Try.underlying45 hi hz0 hz1 hz2 rfl (by decide) _ _ _ rfl (HO1.out.alloc _) ⟨w1.heap.size, 0, none⟩ 1 1 [.string pk, .string ps, .string pd, .int .i64 pa] rfl rfl ?c1 ?c2 ?c3 ?c4 ?c5 ?_)
      case c1 => exact cells_new w1 [.string pk, .string ps, .string pd, .int .i64 pa] _
      case c2 => intro u hu; simp at hu; rcases hu with rfl | rfl | rfl | rfl <;> rfl
      case c3 => unfold maxLen; omega
      case c4 => omega
      case c5 => simp; omega
      intro v' w2 hown' hgrow _
      have HB2 : Hid (Below w.heap.size w w2) := (HB1.out.alloc hsz1 _).grown hgrow (by simp; omega) (fun j hj => (HO1.out.lt j hj).1)
      have HO2 : Hid (w2.ownsRow w.heap.size 40 4 v' (k + 1) (pstCells (pstsN acts (k + 1)))) := by
        show w2.ownsRow _ _ _ _ _ _
        rw [HSU.out, pstCells_snoc]; exact hown'
      clear hown' hgrow HB1 HO1
      go_wp2_with fail
      go_roundw
      case rel => exact ⟨k + 1, by omega, by go_num, HO2, HB2⟩
      case measure => simp [intOf]; omega
    · obtain rfl : k = m := by omega
      have hend : Hid ((pstsN acts n).length = k ∧ pstsN acts n = pstsN acts k) := by
        refine ⟨by rw [pstsN_length]; exact HM.out.symm, ?_⟩
        have h := HM.out
        unfold pstsN
        rcases Nat.le_total n acts.length with h0 | h0
        · rw [show k = n by omega]
        · rw [List.take_of_length_le (i := n) h0, List.take_of_length_le (i := k) (by omega)]
      have hcase : ((k : Int) < acts.length ∧ ¬ (k : Int) < n) ∨ ¬ (k : Int) < acts.length := by have := HM.out; omega
      rcases hcase with ⟨h1, h2⟩ | h1
      all_goals
        go_wp2_with fail
        go_ret
        exact ⟨u5, rfl, by rw [hend.out.1, hend.out.2]; exact HO.out, HB.out⟩

end Go.Proofs.Ytkimcopmfhjjcaa

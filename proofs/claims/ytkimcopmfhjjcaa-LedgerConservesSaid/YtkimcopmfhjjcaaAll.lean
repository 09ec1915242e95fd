/- '(*Ledger).All'. -/
import Derived.Test.YtkimcopmfhjjcaaUndo
import Derived.Defers
namespace Go.Proofs.Ytkimcopmfhjjcaa
open Go.RowKit

set_option maxHeartbeats 1000000 in
theorem all_defer_fail (S : Nat → Prop) (eb lx bx lb c kb bb : Nat) (x : Int) (pv : Value) (L M : List Pst) (w : World) (he : w.cell? ⟨eb, 0, none⟩ = some (.int .i64 x)) (hx : ¬ x = 0) (hl : w.cell? ⟨lx, 0, none⟩ = some (.pointer (some ⟨lb, 0, none⟩)))
    (hbx : w.cell? ⟨bx, 0, none⟩ = some (.int .i64 L.length)) (hL : LedgerIs w lb c pv (.map (some kb)) (.map (some bb)) (L ++ M)) (hne : kb ≠ bb)
    (hS : S lb ∧ S kb ∧ S bb) (h1 : 1 ≤ L.length) (h2 : 1 ≤ M.length) (hu : ∀ q ∈ L, ∀ p ∈ M, q.key ≠ p.key) (hfit : ∀ p ∈ M, p.fits) (hc : c < 1000000000000) :
    CallsD Try.prog 31 #[.pointer (some ⟨eb, 0, none⟩), .pointer (some ⟨lx, 0, none⟩), .pointer (some ⟨bx, 0, none⟩)] .returning w fun e u' w' => u' = .returning ∧ (e = .returned (.tuple #[]) ∧
      ∃ pv', LedgerIs w' lb (c + 2 * M.length) pv' (.map (some kb)) (.map (some bb)) L ∧ Keeps S w w' ∧ (∀ g, pv'.ownBlock = some g → w.heap.size ≤ g)) := by
  have K := undo_any S lb c kb bb pv L M w hL hne hS h1 h2 hu hfit hc
  have KH := Lib.hid K
  have hxb : (x != 0) = true := by simpa using hx
  clear K hL hne hS hu hfit
  go_enter_d Try.func31, Try.ntmps31
  go_wp2_with fail
  refine KH.out.mono ?_
  rintro e w' ⟨rfl, h⟩
  have HH := Lib.hid h
  clear h
  go_wp2_with fail
  go_end0
  exact ⟨rfl, HH.out⟩

set_option maxHeartbeats 1000000 in
theorem all_defer_ok (eb lx bx : Nat) (w : World) (he : w.cell? ⟨eb, 0, none⟩ = some (.int .i64 0)) :
    CallsD Try.prog 31 #[.pointer (some ⟨eb, 0, none⟩), .pointer (some ⟨lx, 0, none⟩), .pointer (some ⟨bx, 0, none⟩)] .returning w fun e u' w' => u' = .returning ∧ (e = .returned (.tuple #[]) ∧ w' = w) := by
  go_enter_d Try.func31, Try.ntmps31
  go_wp2
  go_end0
  exact ⟨rfl, rfl⟩

/-- The postings when a list has been posted. -/
def allL (L ps : List Pst) : List Pst := ps.foldl postL L
theorem allL_take_succ {L ps : List Pst} {k : Nat} (h : k < ps.length) : allL L (ps.take (k + 1)) = postL (allL L (ps.take k)) (ps[k]?.getD noPst) := by
  unfold allL
  rw [List.take_add_one, List.getElem?_eq_getElem h, List.foldl_append]; rfl

/-- A list of postings that lies outside a ledger's blocks. -/
def PstsAt (S : Nat → Prop) (w : World) (ao : Option Addr) (ps : List Pst) : Prop :=
  ∀ j u, (pstCells ps)[j]? = some u → ∃ b off, ao = some ⟨b, off, none⟩ ∧ b < w.heap.size ∧ ¬ S b ∧ w.cell? ⟨b, off + j, none⟩ = some u
theorem PstsAt.get {S : Nat → Prop} {w : World} {ao : Option Addr} {ps : List Pst} (h : PstsAt S w ao ps) {k : Nat} (hk : k < ps.length) :
    ∃ b off, ao = some ⟨b, off, none⟩ ∧ b < w.heap.size ∧ ¬ S b ∧ w.cell? ⟨b, off + k * 4, none⟩ = some (.string (ps[k]?.getD noPst).key) ∧ w.cell? ⟨b, off + k * 4 + 1, none⟩ = some (.string (ps[k]?.getD noPst).src) ∧
      w.cell? ⟨b, off + k * 4 + 2, none⟩ = some (.string (ps[k]?.getD noPst).dst) ∧ w.cell? ⟨b, off + k * 4 + 3, none⟩ = some (.int .i64 (ps[k]?.getD noPst).amount) := by
  have g := fun t ht => pstCells_get ps k t ht hk
  obtain ⟨b, off, rfl, hb, hs, c0⟩ := h (k * 4 + 0) _ (g 0 (by omega))
  obtain ⟨b1, o1, e1, _, _, c1⟩ := h (k * 4 + 1) _ (g 1 (by omega))
  obtain ⟨b2, o2, e2, _, _, c2⟩ := h (k * 4 + 2) _ (g 2 (by omega))
  obtain ⟨b3, o3, e3, _, _, c3⟩ := h (k * 4 + 3) _ (g 3 (by omega))
  simp only [Option.some.injEq, Addr.mk.injEq, and_true] at e1 e2 e3
  obtain ⟨rfl, rfl⟩ := e1
  obtain ⟨rfl, rfl⟩ := e2
  obtain ⟨rfl, rfl⟩ := e3
  exact ⟨b, off, rfl, hb, hs, c0, c1, c2, c3⟩
theorem PstsAt.kept {S : Nat → Prop} {w w' : World} {ao : Option Addr} {ps : List Pst} (h : PstsAt S w ao ps) (hk : Keeps S w w') : PstsAt S w' ao ps := by
  intro j u hu
  obtain ⟨b, off, e, hb, hs, hc⟩ := h j u hu
  exact ⟨b, off, e, Nat.lt_of_lt_of_le hb hk.size, hs, (World.cell?_of_block (a := ⟨b, off + j, none⟩) (hk.block b hb hs)).trans hc⟩

/-- The three boxes of 'All', and the ledger while k postings have been posted. -/
structure AllIs (S : Nat → Prop) (w wr : World) (lb c : Nat) (n0 : Nat) (L : List Pst) : Prop where
  size : w.heap.size + 3 ≤ wr.heap.size
  b0 : wr.cell? ⟨w.heap.size, 0, none⟩ = some (.pointer (some ⟨lb, 0, none⟩))
  b1 : wr.cell? ⟨w.heap.size + 1, 0, none⟩ = some (.int .i64 0)
  f1 : wr.frozen? ⟨w.heap.size + 1, 0, none⟩ = false
  b2 : wr.cell? ⟨w.heap.size + 2, 0, none⟩ = some (.int .i64 n0)
  keeps : Keeps S w wr
  led : LedgerIn (fun k => S k ∨ (w.heap.size + 3 ≤ k ∧ k < wr.heap.size)) wr lb c L
/-- One posting has been posted (its box is laid first). -/
theorem AllIs.step {S : Nat → Prop} {w wr w' : World} {lb c n0 : Nat} {L L' : List Pst} {o : Obj} (h : AllIs S w wr lb c n0 L) (hS : ∀ k, S k → k < w.heap.size)
    (hL : LedgerIn (fun k => (S k ∨ (w.heap.size + 3 ≤ k ∧ k < wr.heap.size)) ∨ ((wr.alloc o).heap.size ≤ k ∧ k < w'.heap.size)) w' lb (c + 2) L') (hk : Keeps (fun k => S k ∨ (w.heap.size + 3 ≤ k ∧ k < wr.heap.size)) (wr.alloc o) w') :
    AllIs S w w' lb (c + 2) n0 L' := by
  have s := h.size
  have s' : wr.heap.size + 1 ≤ w'.heap.size := by have := hk.size; simpa using this
  have hb : ∀ j, j < w.heap.size + 3 → ¬ S j → w'.heap[j]? = wr.heap[j]? := fun j hj hn => (hk.block j (by simp; omega) (by rintro (h | h); exact hn h; omega)).trans (Below.heap_alloc wr o j (by omega))
  have hn : ∀ j, w.heap.size ≤ j → ¬ S j := fun j hj hs => by have := hS j hs; omega
  have k0 := hb w.heap.size (by omega) (hn _ (by omega))
  have k1 := hb (w.heap.size + 1) (by omega) (hn _ (by omega))
  have k2 := hb (w.heap.size + 2) (by omega) (hn _ (by omega))
  refine ⟨by omega, (World.cell?_of_block (a := ⟨w.heap.size, 0, none⟩) k0).trans h.b0, (World.cell?_of_block (a := ⟨w.heap.size + 1, 0, none⟩) k1).trans h.b1,
    (World.frozen?_of_block (a := ⟨w.heap.size + 1, 0, none⟩) k1).trans h.f1, (World.cell?_of_block (a := ⟨w.heap.size + 2, 0, none⟩) k2).trans h.b2, ?_, ?_⟩
  · refine ⟨hk.os.trans h.keeps.os, hk.tape.trans h.keeps.tape, hk.output.trans h.keeps.output, by have := h.keeps.size; omega, fun k hk' hn' => ?_⟩
    exact (hb k (by omega) hn').trans (h.keeps.block k hk' hn')
  · refine hL.mono (fun k hk' => ?_) (Nat.le_refl _)
    rcases hk' with (hk' | hk') | hk'
    · exact .inl hk'
    · exact .inr ⟨hk'.1, by omega⟩
    · exact .inr ⟨by have := hk'.1; simp at this; omega, hk'.2⟩
/-- The error's box is written over with 0. -/
theorem AllIs.store {S : Nat → Prop} {w wr : World} {lb c n0 : Nat} {L : List Pst} (h : AllIs S w wr lb c n0 L) (hS : ∀ k, S k → k < w.heap.size) : AllIs S w (wr.setCell ⟨w.heap.size + 1, 0, none⟩ (.int .i64 0)) lb c n0 L := by
  have s := h.size
  have hb : ∀ j, j ≠ w.heap.size + 1 → (wr.setCell ⟨w.heap.size + 1, 0, none⟩ (.int .i64 0)).heap[j]? = wr.heap[j]? := fun j hj => heap_setCell_other wr ⟨w.heap.size + 1, 0, none⟩ j _ hj
  have k0 := hb w.heap.size (by omega)
  have k2 := hb (w.heap.size + 2) (by omega)
  refine ⟨by simpa using s, (World.cell?_of_block (a := ⟨w.heap.size, 0, none⟩) k0).trans h.b0, World.cell?_setCell_same _ _ _ h.b1, (World.frozen?_setCell _ _ _ _).trans h.f1,
    (World.cell?_of_block (a := ⟨w.heap.size + 2, 0, none⟩) k2).trans h.b2, h.keeps.setCell _ _ (fun hlt => by have hlt : w.heap.size + 1 < w.heap.size := hlt; omega), ?_⟩
  have := h.led.kept (T := fun k => k = w.heap.size + 1) (w' := wr.setCell ⟨w.heap.size + 1, 0, none⟩ (.int .i64 0)) ⟨rfl, rfl, rfl, by simp, fun k _ hn => hb k hn⟩ (fun k hk e => by
    subst e
    rcases hk with hk | hk
    · have := hS _ hk; omega
    · omega)
  simpa using this

theorem AllIs.over {S : Nat → Prop} {w wr Wd : World} {lb c n0 : Nat} {L : List Pst} (h : AllIs S w wr lb c n0 L) (hS : ∀ k, S k → k < w.heap.size) (hWd : ∀ j, j ≠ w.heap.size + 1 → Wd.heap[j]? = wr.heap[j]?) (hs : Wd.heap.size = wr.heap.size)
    (ho : Wd.os = wr.os) (ht : Wd.tape = wr.tape) (hu : Wd.output = wr.output) :
    Wd.cell? ⟨w.heap.size, 0, none⟩ = some (.pointer (some ⟨lb, 0, none⟩)) ∧ Wd.cell? ⟨w.heap.size + 1 + 1, 0, none⟩ = some (.int .i64 n0) ∧ Keeps S w Wd ∧
      LedgerIn (fun k => S k ∨ (w.heap.size + 3 ≤ k ∧ k < Wd.heap.size)) Wd lb c L := by
  have s := h.size
  have k0 := hWd w.heap.size (by omega)
  have k2 := hWd (w.heap.size + 2) (by omega)
  refine ⟨(World.cell?_of_block (a := ⟨w.heap.size, 0, none⟩) k0).trans h.b0, (World.cell?_of_block (a := ⟨w.heap.size + 2, 0, none⟩) k2).trans h.b2,
    ⟨ho.trans h.keeps.os, ht.trans h.keeps.tape, hu.trans h.keeps.output, by rw [hs]; exact h.keeps.size, fun k hk hn => (hWd k (by omega)).trans (h.keeps.block k hk hn)⟩, ?_⟩
  have := h.led.kept (T := fun k => k = w.heap.size + 1) (w' := Wd) ⟨ho, ht, hu, by omega, fun k _ hn => hWd k hn⟩ (fun k hk e => by
    subst e
    rcases hk with hk | hk
    · have := hS _ hk; omega
    · omega)
  rw [hs]
  exact this

theorem AllIs.start {S : Nat → Prop} {w : World} {lb c n0 : Nat} {L : List Pst} (hL : LedgerIn S w lb c L) (t0 t1 t2 : TypeId) :
    AllIs S w (((w.alloc (.cells #[.pointer (some ⟨lb, 0, none⟩)] t0)).alloc (.cells #[.int .i64 0] t1)).alloc (.cells #[.int .i64 n0] t2)) lb c n0 L := by
  have hb : Below w.heap.size w (((w.alloc (.cells #[.pointer (some ⟨lb, 0, none⟩)] t0)).alloc (.cells #[.int .i64 0] t1)).alloc (.cells #[.int .i64 n0] t2)) :=
    (((Below.refl _ _).alloc (Nat.le_refl _) _).alloc (by simp) _).alloc (by simp; omega) _
  exact ⟨by simp, by simp [go_sem], by simp [go_sem], by simp [go_sem], by simp [go_sem], Keeps.of_below hb, (hL.below hb).mono (fun k hk => .inl hk) (Nat.le_refl _)⟩

set_option maxHeartbeats 2000000 in
set_option maxRecDepth 100000 in
theorem all_ok (S : Nat → Prop) (lb c : Nat) (L ps : List Pst) (ao : Option Addr) (cap : Nat) (w : World) (hL : LedgerIn S w lb c L) (hS : ∀ k, S k → k < w.heap.size) (hp : PstsAt S w ao ps)
    (hf : ∀ p ∈ ps, p.fits) (hn : ps.length ≤ 1000000) (hok : ∀ k, k < ps.length → postE (allL L (ps.take k)) (ps[k]?.getD noPst) = 0) (hc : c < 1000000000) :
    Calls Try.prog 20 #[.pointer (some ⟨lb, 0, none⟩), .slice ao ps.length cap] w fun e w' => e = .returned (.tuple #[.int .i64 ps.length, .int .i64 0]) ∧
      LedgerIn (fun k => S k ∨ (w.heap.size ≤ k ∧ k < w'.heap.size)) w' lb (c + 2 * ps.length) (allL L ps) ∧ Keeps S w w' := by
  have hlb : lb < w.heap.size := by obtain ⟨pv, kv, bv, h, _⟩ := hL; exact h.lt
  obtain ⟨n0, hn0, l0⟩ : ∃ n0 : Nat, n0 ≤ 100000 ∧ ∃ pao pcap, w.cell? ⟨lb, 0, none⟩ = some (.slice pao n0 pcap) := by
    obtain ⟨pv, kv, bv, h, _⟩ := hL
    obtain ⟨pao, pcap, rfl⟩ := h.slice
    exact ⟨_, h.few, pao, pcap, h.cells.1⟩
  obtain ⟨pao, pcap, l0⟩ := l0
  have HL := Lib.hid hL
  have HS := Lib.hid hS
  have HP := Lib.hid hp
  have HF := Lib.hid hf
  have HOK := Lib.hid hok
  have hmf : ∀ (fn : Fn) (first cap : Array Value) (w : World), (Instr.makeFunc fn first cap).run Try.prog w = .ok (.func fn first cap) w := fun _ _ _ _ => rfl
  clear hL hS hp hf hok
  go_enter_defers Try.func20, Try.ntmps20
  go_wp2_with fail
  obtain ⟨W3, hW3⟩ : ∃ W3, W3 = (((w.alloc (Obj.cells #[.pointer (some ⟨lb, 0, none⟩)] 35)).alloc (Obj.cells #[.int .i64 0] 37)).alloc (Obj.cells #[.int .i64 n0] 3)) := ⟨_, rfl⟩
  have hA := AllIs.start (n0 := n0) HL.out 35 37 3
  rw [← hW3] at hA ⊢
  have HA := Lib.hid hA
  clear hA hW3 l0
  go_loopw [19] (fun i wr => ∃ k : Nat, k ≤ ps.length ∧ i = .int .i64 k ∧ Hid (AllIs S w wr lb (c + 2 * k) n0 (allL L (ps.take k)))) (fun i _ => ps.length - (intOf i).toNat)
  case atStart => exact ⟨0, Nat.zero_le _, rfl, HA⟩
  case round =>
    clear HA
    obtain ⟨k, hk, rfl, HA⟩ := hrel
    have hA := HA.out
    have b0 := hA.b0
    have b1 := hA.b1
    have f1 := hA.f1
    have hsz := hA.size
    have hsz0 : w.heap.size < wr.heap.size := by omega
    by_cases hlt : k < ps.length
    · have hlz : (k : Int) < ps.length := by omega
      obtain ⟨b, off, rfl, hb, hsb, q0, q1, q2, q3⟩ := (HP.out.kept hA.keeps).get hlt
      have hfp := HF.out (ps[k]?.getD noPst) (by rw [List.getElem?_eq_getElem hlt]; exact List.getElem_mem _)
      have hok := HOK.out k hlt
      have hsuc := allL_take_succ (L := L) hlt
      obtain ⟨p, hp⟩ : ∃ p, p = ps[k]?.getD noPst := ⟨_, rfl⟩
      rw [← hp] at q0 q1 q2 q3 hfp hok hsuc
      clear hp
      have hled : ∀ o : Obj, LedgerIn (fun j => S j ∨ (w.heap.size + 3 ≤ j ∧ j < wr.heap.size)) (wr.alloc o) lb (c + 2 * k) (allL L (ps.take k)) := fun o => hA.led.below ((Below.refl _ _).alloc (Nat.le_refl _) o)
      have KP := post_any _ lb (c + 2 * k) (allL L (ps.take k)) p (wr.alloc (.cells p.cells.toArray 40)) hfp (hled _) (by omega)
      rw [hok] at KP
      have KPH := Lib.hid KP
      have HSUC := Lib.hid hsuc
      clear KP hled hok hsuc hA hb hsb
      obtain ⟨key, src, dst, amount⟩ := p
      unfold Pst.val Pst.cells at KPH
      dsimp only at *
      go_wp2_with fail
      refine KPH.out.mono ?_
      rintro e w' ⟨rfl, hL', hK'⟩
      have HA2 := Lib.hid ((HA.out.step HS.out hL' hK').store HS.out)
      have hA2 := HA.out.step HS.out hL' hK'
      have b1 := hA2.b1
      have f1 := hA2.f1
      clear hL' hK' hA2 KPH
      go_wp2_with fail
      go_roundw
      case rel => exact ⟨k + 1, by omega, by go_num, by rw [HSUC.out]; exact HA2⟩
      case measure => simp [intOf]; omega
    · obtain rfl : k = ps.length := by omega
      have hlz : ¬ (ps.length : Int) < ps.length := by omega
      have HB := Lib.hid (HA.out.store HS.out)
      clear hA
      go_wp2_with fail
      refine leaves_cons (f := 31) (args := #[.pointer (some ⟨w.heap.size + 1, 0, none⟩), .pointer (some ⟨w.heap.size, 0, none⟩), .pointer (some ⟨w.heap.size + 1 + 1, 0, none⟩)]) (by simp) (by simp [go_sem]) ?_
      refine (all_defer_ok (w.heap.size + 1) w.heap.size (w.heap.size + 1 + 1) _ HB.out.b1).mono ?_
      rintro e u' w'' ⟨rfl, rfl, rfl⟩
      have hr1 := HB.out.b1
      simp [Leaves, settle, results, Try.results20, go_sem, hr1]
      have hled := HB.out.led
      rw [List.take_length] at hled
      exact ⟨by simpa using hled.mono (T := fun k => S k ∨ (w.heap.size ≤ k ∧ k < (wr.setCell ⟨w.heap.size + 1, 0, none⟩ (.int .i64 0)).heap.size)) (fun k hk => hk.elim .inl fun h => .inr ⟨by omega, h.2⟩) (Nat.le_refl _), HB.out.keeps⟩

theorem postL_err {L : List Pst} {p : Pst} (h : postE L p ≠ 0) : postL L p = L := by unfold postL; rw [if_neg (fun e => h e.1)]

set_option maxHeartbeats 2000000 in
set_option maxRecDepth 100000 in
theorem all_fail (S : Nat → Prop) (lb c j : Nat) (x : Int) (L M ps : List Pst) (ao : Option Addr) (cap : Nat) (w : World) (hL : LedgerIn S w lb c L) (hS : ∀ k, S k → k < w.heap.size) (hp : PstsAt S w ao ps)
    (hf : ∀ p ∈ ps, p.fits) (hn : ps.length ≤ 1000000) (hj : j < ps.length) (hok : ∀ k, k < j → postE (allL L (ps.take k)) (ps[k]?.getD noPst) = 0) (hM : allL L (ps.take j) = L ++ M) (he : postE (L ++ M) (ps[j]?.getD noPst) = x) (hx : ¬ x = 0)
    (h1 : 1 ≤ L.length) (h2 : 1 ≤ M.length) (hu : ∀ q ∈ L, ∀ p ∈ M, q.key ≠ p.key) (hfit : ∀ p ∈ M, p.fits) (hc : c < 1000000000) :
    Calls Try.prog 20 #[.pointer (some ⟨lb, 0, none⟩), .slice ao ps.length cap] w fun e w' => e = .returned (.tuple #[.int .i64 j, .int .i64 x]) ∧
      LedgerIn (fun k => S k ∨ (w.heap.size ≤ k ∧ k < w'.heap.size)) w' lb (c + 2 * j + 2 + 2 * M.length) L ∧ Keeps S w w' := by
  have hlb : lb < w.heap.size := by obtain ⟨pv, kv, bv, h, _⟩ := hL; exact h.lt
  obtain ⟨pao, pcap, l0⟩ : ∃ pao pcap, w.cell? ⟨lb, 0, none⟩ = some (.slice pao L.length pcap) := by
    obtain ⟨pv, kv, bv, h, _⟩ := hL
    obtain ⟨pao, pcap, rfl⟩ := h.slice
    exact ⟨pao, pcap, h.cells.1⟩
  have hxb : (x != 0) = true := by simpa using hx
  have HL := Lib.hid hL
  have HS := Lib.hid hS
  have HP := Lib.hid hp
  have HF := Lib.hid hf
  have HOK := Lib.hid hok
  have HM := Lib.hid hM
  have HE := Lib.hid he
  have HU := Lib.hid hu
  have HFIT := Lib.hid hfit
  have hmf : ∀ (fn : Fn) (first cap : Array Value) (w : World), (Instr.makeFunc fn first cap).run Try.prog w = .ok (.func fn first cap) w := fun _ _ _ _ => rfl
  clear hL hS hp hf hok hM he hu hfit
  go_enter_defers Try.func20, Try.ntmps20
  go_wp2_with fail
  obtain ⟨W3, hW3⟩ : ∃ W3, W3 = (((w.alloc (Obj.cells #[.pointer (some ⟨lb, 0, none⟩)] 35)).alloc (Obj.cells #[.int .i64 0] 37)).alloc (Obj.cells #[.int .i64 L.length] 3)) := ⟨_, rfl⟩
  have hA := AllIs.start (n0 := L.length) HL.out 35 37 3
  rw [← hW3] at hA ⊢
  have HA := Lib.hid hA
  clear hA hW3 l0
  go_loopw [19] (fun i wr => ∃ k : Nat, k ≤ j ∧ i = .int .i64 k ∧ Hid (AllIs S w wr lb (c + 2 * k) L.length (allL L (ps.take k)))) (fun i _ => ps.length - (intOf i).toNat)
  case atStart => exact ⟨0, Nat.zero_le _, rfl, HA⟩
  case round =>
    clear HA
    obtain ⟨k, hk, rfl, HA⟩ := hrel
    have hA := HA.out
    have b0 := hA.b0
    have b1 := hA.b1
    have f1 := hA.f1
    have hsz := hA.size
    have hsz0 : w.heap.size < wr.heap.size := by omega
    have hlt : k < ps.length := by omega
    have hlz : (k : Int) < ps.length := by omega
    obtain ⟨b, off, rfl, hb, hsb, q0, q1, q2, q3⟩ := (HP.out.kept hA.keeps).get hlt
    have hfp := HF.out (ps[k]?.getD noPst) (by rw [List.getElem?_eq_getElem hlt]; exact List.getElem_mem _)
    have hsuc := allL_take_succ (L := L) hlt
    have hled : ∀ o : Obj, LedgerIn (fun j => S j ∨ (w.heap.size + 3 ≤ j ∧ j < wr.heap.size)) (wr.alloc o) lb (c + 2 * k) (allL L (ps.take k)) := fun o => hA.led.below ((Below.refl _ _).alloc (Nat.le_refl _) o)
    have KP := fun p hfp => post_any _ lb (c + 2 * k) (allL L (ps.take k)) p (wr.alloc (.cells p.cells.toArray 40)) hfp (hled _) (by omega)
    by_cases hkj : k < j
    · have hok := HOK.out k hkj
      obtain ⟨p, hp⟩ : ∃ p, p = ps[k]?.getD noPst := ⟨_, rfl⟩
      rw [← hp] at q0 q1 q2 q3 hfp hok hsuc
      clear hp
      have KP := KP p hfp
      rw [hok] at KP
      have KPH := Lib.hid KP
      have HSUC := Lib.hid hsuc
      clear KP hled hok hsuc hA hb hsb
      obtain ⟨key, src, dst, amount⟩ := p
      unfold Pst.val Pst.cells at KPH
      dsimp only at *
      go_wp2_with fail
      refine KPH.out.mono ?_
      rintro e w' ⟨rfl, hL', hK'⟩
      have HA2 := Lib.hid ((HA.out.step HS.out hL' hK').store HS.out)
      have hA2 := HA.out.step HS.out hL' hK'
      have b1 := hA2.b1
      have f1 := hA2.f1
      clear hL' hK' hA2 KPH
      go_wp2_with fail
      go_roundw
      case rel => exact ⟨k + 1, by omega, by go_num, by rw [HSUC.out]; exact HA2⟩
      case measure => simp [intOf]; omega
    · obtain rfl : k = j := by omega
      have hok : postE (allL L (ps.take k)) (ps[k]?.getD noPst) = x := by rw [HM.out]; exact HE.out
      obtain ⟨p, hp⟩ : ∃ p, p = ps[k]?.getD noPst := ⟨_, rfl⟩
      rw [← hp] at q0 q1 q2 q3 hfp hok
      clear hp
      have KP := KP p hfp
      rw [postL_err (by rw [hok]; exact hx), hok, HM.out] at KP
      have KPH := Lib.hid KP
      clear KP hled hok hsuc hA hb hsb
      obtain ⟨key, src, dst, amount⟩ := p
      unfold Pst.val Pst.cells at KPH
      dsimp only at *
      go_wp2_with fail
      refine KPH.out.mono ?_
      rintro e w' ⟨rfl, hL', hK'⟩
      have HA2 := Lib.hid (HA.out.step HS.out hL' hK')
      have b1 := HA2.out.b1
      have f1 := HA2.out.f1
      clear hL' hK' KPH
      go_wp2_with fail
      go_region
      go_wp2_with fail
      have hA2 := HA2.out
      obtain ⟨Wd, hWd⟩ : ∃ Wd, Wd = ((w'.setCell ⟨w.heap.size + 1, 0, none⟩ (.int .i64 x)).setCell ⟨w.heap.size + 1, 0, none⟩ (.int .i64 x)).drew := ⟨_, rfl⟩
      rw [← hWd]
      have hWb : ∀ j, j ≠ w.heap.size + 1 → Wd.heap[j]? = w'.heap[j]? := fun j hj => by
        rw [hWd]; exact (heap_setCell_other _ ⟨w.heap.size + 1, 0, none⟩ j _ hj).trans (heap_setCell_other _ ⟨w.heap.size + 1, 0, none⟩ j _ hj)
      have hws : Wd.heap.size = w'.heap.size := by rw [hWd]; simp
      have de : Wd.cell? ⟨w.heap.size + 1, 0, none⟩ = some (.int .i64 x) := by rw [hWd]; exact World.cell?_setCell_same _ _ _ (World.cell?_setCell_same _ _ _ b1)
      obtain ⟨d0, d2, hkd, hld⟩ := hA2.over HS.out hWb hws (by rw [hWd]; rfl) (by rw [hWd]; rfl) (by rw [hWd]; rfl)
      have hsz2 := hA2.size
      clear hWb hWd
      obtain ⟨pv, kv, bv, hld, hs1, hs2, hs3, hs4⟩ := hld
      obtain ⟨kb, bb, rfl, rfl, hne, _⟩ : ∃ kb bb, kv = .map (some kb) ∧ bv = .map (some bb) ∧ kb ≠ bb ∧ True := by
        rcases hld.maps with ⟨_, _, h⟩ | ⟨kb, bb, h1, h2, h3, _⟩
        · exfalso
          have h := congrArg List.length h
          rw [List.length_append, List.length_nil] at h
          omega
        · exact ⟨kb, bb, h1, h2, h3, trivial⟩
      have KD := all_defer_fail (fun k => S k ∨ (w.heap.size + 3 ≤ k ∧ k < Wd.heap.size)) (w.heap.size + 1) w.heap.size (w.heap.size + 1 + 1) lb (c + 2 * k + 2) kb bb x pv L M Wd de hx d0 d2 hld hne ⟨hs1, hs3 kb rfl, hs4 bb rfl⟩ h1 h2 HU.out HFIT.out (by omega)
      refine leaves_cons (f := 31) (args := #[.pointer (some ⟨w.heap.size + 1, 0, none⟩), .pointer (some ⟨w.heap.size, 0, none⟩), .pointer (some ⟨w.heap.size + 1 + 1, 0, none⟩)]) (by simp) (by simp [go_sem]) ?_
      refine KD.mono ?_
      rintro e u' w9 ⟨rfl, rfl, pv', hL9, hK9, hg9⟩
      have hr1 : w9.cell? ⟨w.heap.size + 1, 0, none⟩ = some (.int .i64 x) := by
        refine (World.cell?_of_block (a := ⟨w.heap.size + 1, 0, none⟩) (hK9.block (w.heap.size + 1) (by omega) ?_)).trans de
        rintro (h | h)
        · have := HS.out _ h; omega
        · exact absurd h.1 (by omega)
      simp [Leaves, settle, results, Try.results20, go_sem, hr1]
      have hk9 : Keeps S w w9 := ⟨hK9.os.trans hkd.os, hK9.tape.trans hkd.tape, hK9.output.trans hkd.output, Nat.le_trans hkd.size hK9.size, fun i hi hn => (hK9.block i (by have := hkd.size; omega) (by rintro (h | h); exact hn h; omega)).trans (hkd.block i hi hn)⟩
      refine ⟨?_, hk9⟩
      have hin : LedgerIn (fun k => S k ∨ w.heap.size ≤ k) w9 lb (c + 2 * k + 2 + 2 * M.length) L :=
        ⟨pv', _, _, hL9, hs1.elim .inl fun h => .inr (by omega), fun g hg => .inr (by have := hg9 g hg; omega), fun b hb => (hs3 b hb).elim .inl fun h => .inr (by omega), fun b hb => (hs4 b hb).elim .inl fun h => .inr (by omega)⟩
      exact hin.bound.mono (fun _ ⟨a1, a2⟩ => a1.elim .inl fun h => .inr ⟨h, a2⟩) (Nat.le_refl _)

end Go.Proofs.Ytkimcopmfhjjcaa

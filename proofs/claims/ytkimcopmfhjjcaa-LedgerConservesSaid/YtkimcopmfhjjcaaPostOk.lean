/- '(*Ledger).Post' where it posts. -/
import Derived.Test.YtkimcopmfhjjcaaPost
import Derived.Test.YtkimcopmfhjjcaaPostLaw
import Derived.Deep.RegionLaw
import Derived.Deep.DeepCutAuto
namespace Go.Proofs.Ytkimcopmfhjjcaa
open Go.RowKit

/-- 'append' to a slice that the ledger owns, as one step of a region that draws its order. -/
theorem step_append_own {P : Program} {ops : Array Oper} {o : Oper} {a : Act} {w : World} {K : Act → World → Prop} {Q : Exit → Act → World → Prop} {E : Prop}
    (hgd : o.guard = none) (s x : Operand) (t : TypeId) (ho : o.op = .call { callee := .builtin .append, args := #[s, x], argTypes := #[t, t] })
    (base : Nat) (e : TypeId) (i : TypeInfo) (z : Value) (size bytes : Nat) (ht : P.underlying t = some (.slice e)) (hi : P.info? e = some i) (hz : i.zero = some z)
    (hsize : i.size = size) (hby : i.bytes = bytes) (hzs : z.cells.size = size) (hsz : 0 < size)
    (v : Value) (n : Nat) (xs : List Value) (hs : a.eval s = v) (hown : w.ownsRow base e size v n xs)
    (ad : Addr) (m c : Nat) (news : List Value) (hx : a.eval x = .slice (some ad) m c) (hl : news.length = m * size) (hnews : ∀ j u, news[j]? = some u → w.cell? (ad.add j) = some u) (h1 : ∀ u ∈ news, u.oneCell' = true)
    (h63 : n + m ≤ maxLen) (hbytes : (n + m) * bytes ≤ 140737488355328) (hbase : base ≤ w.heap.size)
    (hK : ∀ v' w', w'.ownsRow base e size v' (n + m) (xs ++ news) → w.grownBy w' v.ownBlock → (v' = .slice none 0 0 ↔ v = .slice none 0 0 ∧ m = 0) → (v'.ownBlock = v.ownBlock ∨ v'.ownBlock = some w.heap.size) → K (a.put o.dst v') w') :
    if Region.wanted o (yielded ops a.tmps) = true then Oper.wp P o a w K Q else E := by
  have hw : Region.wanted o (yielded ops a.tmps) = true := by simp [Region.wanted, hgd]
  rw [if_pos hw]
  obtain ⟨v', w', hr, h2, h3, h4, h5⟩ := run_append_own_at (P := P) w base t o.type e i z size bytes ht hi hz hsize hby hzs hsz v n xs hown ad m c news hl hnews h1 h63 hbytes hbase
  unfold Oper.wp execOp
  simp only [ho, resolve, invoke, builtin, Sem.run_bind, Sem.run_pure, Result.andThen_ok, List.map_toArray, List.map_cons, List.map_nil, hs, hx, hr]
  exact hK _ _ h2 h3 h4 h5

theorem Try.infoPst : (Try.prog.info? 40).map (fun i => (i.zero, i.size, i.bytes)) = some (some (.agg #[.string ByteArray.empty, .string ByteArray.empty, .string ByteArray.empty, .int .i64 0]), 4, 56) := by kernel_rfl

set_option maxHeartbeats 2000000 in
set_option maxRecDepth 100000 in
theorem post_ok (lb c : Nat) (pv kv bv : Value) (L : List Pst) (p : Pst) (w : World) (hf : p.fits) (hL : LedgerIs w lb c pv kv bv L) (hr : rightB p = true) (hi : keyIdx L p.key = none) (hm : L.length < 100000)
    (hsrc : srcB p.src = true ∨ p.amount ≤ balI L p.src) (hc : c < 1000000000000) :
    Calls Try.prog 13 #[.pointer (some ⟨lb, 0, none⟩), p.val] w fun e w' => e = .returned (.int .i64 0) ∧
      ∃ pv' kv' bv', LedgerIs w' lb (c + 2) pv' kv' bv' (L ++ [p]) ∧ Keeps (fun k => k = lb ∨ pv.ownBlock = some k ∨ kv = .map (some k) ∨ bv = .map (some k)) w w' ∧
        Holds (fun k => k = lb ∨ pv.ownBlock = some k ∨ kv = .map (some k) ∨ bv = .map (some k) ∨ w.heap.size ≤ k) lb pv' kv' bv' := by
  have K := Lib.hid (fun w => right_any p w hf)
  have HP := Lib.hid hf
  obtain ⟨P, hPe⟩ : ∃ q, q = p := ⟨_, rfl⟩
  obtain ⟨key, src, dst, amount⟩ := p
  have ham := rightB_amount hr
  have HAM : Hid (0 < amount ∧ amount ≤ 1000000000) := ⟨ham.1, ham.2.1⟩
  clear ham
  have hks : key.size ≤ 9223372036854775807 := hf.1
  have hss : src.size ≤ 9223372036854775807 := hf.2.1
  have hds : dst.size ≤ 9223372036854775807 := hf.2.2.1
  unfold Pst.val Pst.cells at *
  dsimp only at *
  have HL := Lib.hid hL
  have HI := Lib.hid hi
  have HPE := Lib.hid hPe
  have hmz : decide ((L.length : Int) ≥ 100000) = false := decide_eq_false (by omega)
  have hmm := @run_makeMap Try.prog
  clear hL hf hi hPe
  go_enter Try.func13, Try.ntmps13
  go_wp2_with (go_at_call 24; refine (K.out _).mono ?_; rintro e w' ⟨rfl, rfl⟩)
  obtain ⟨W2, hW2⟩ : ∃ W, W = (w.alloc (Obj.cells #[.string key, .string src, .string dst, .int .i64 amount] 40)).alloc (Obj.cells #[.string key, .string src, .string dst, .int .i64 amount] 40) := ⟨_, rfl⟩
  have hb2 : Below w.heap.size w W2 := by rw [hW2]; exact ((Below.refl _ _).alloc (Nat.le_refl _) _).alloc (by simp) _
  have p0 : W2.cell? ⟨w.heap.size, 0, none⟩ = some (.string key) := by rw [hW2]; simp [go_sem]
  have p1 : W2.cell? ⟨w.heap.size, 1, none⟩ = some (.string src) := by rw [hW2]; simp [go_sem]
  have p2 : W2.cell? ⟨w.heap.size, 2, none⟩ = some (.string dst) := by rw [hW2]; simp [go_sem]
  have p3 : W2.cell? ⟨w.heap.size, 3, none⟩ = some (.int .i64 amount) := by rw [hW2]; simp [go_sem]
  have hsz2 : w.heap.size + 2 ≤ W2.heap.size := by rw [hW2]; simp
  rw [← hW2]
  clear hW2
  have HL2 := Lib.hid (HL.out.below hb2)
  obtain ⟨l0, l1, l2, lf⟩ := HL2.out.cells
  have hlook := HL2.out.lookK key hks
  rw [HI.out] at hlook
  have hlook2 := HL2.out.lookB src hss
  obtain ⟨ao, cap, rfl⟩ := HL2.out.slice
  obtain ⟨bl, hbl⟩ : ∃ bl, bl = balI L src := ⟨_, rfl⟩
  rw [← hbl] at hlook2 hsrc
  clear hbl
  simp only [Option.getD_none, Option.isSome_none] at hlook
  go_quiet (fail)
  have HSRC := Lib.hid hsrc
  clear hsrc
  have heqn := fun (w : World) (r : Option Nat) => run_eql_map_nil (P := Try.prog) w 56 9 3 r Try.underlying56
  go_upto_region 10 with fail
  go_cut [41] (fun s wx => s = .bool false ∧ Drew W2 wx)
  case first =>
    cases hsb : srcB src
    · have hle : amount ≤ bl := by rcases HSRC.out with h | h; (rw [hsb] at h; simp at h); exact h
      have hd : decide (bl < amount) = false := decide_eq_false (by omega)
      have KP := Lib.hid (prefix_of src false hsb)
      clear hsb
      go_quiet ((go_at_call 25; exact quiet_again_same (KP.out _)))
      go_wp2_with fail
      go_meet
      exact ⟨rfl, (Drew.n _ _).drewN _⟩
    · have KP := Lib.hid (prefix_of src true hsb)
      clear hsb
      go_quiet ((go_at_call 25; exact quiet_again_same (KP.out _)))
      go_wp2_with fail
      go_meet
      exact ⟨rfl, (Drew.n _ _).drewN _⟩
  case rest =>
    obtain ⟨rfl, hdr⟩ := hcut
    have HL3 := Lib.hid (HL2.out.below (hdr.below _))
    have hb3 := bl_drews hb2 hdr
    have q0 := (hdr.cell _).trans p0
    have q1 := (hdr.cell _).trans p1
    have q2 := (hdr.cell _).trans p2
    have q3 := (hdr.cell _).trans p3
    have hsz3 : w.heap.size + 2 ≤ wc.heap.size := by rw [hdr.heap]; exact hsz2
    clear l0 l1 l2 lf p0 p1 p2 p3 hsz2 hlook hlook2 HSRC hb2 HL2 hdr
    obtain ⟨l0, l1, l2, lf⟩ := HL3.out.cells
    have lf1 := lf 1
    have lf2 := lf 2
    have hlt := HL3.out.lt
    obtain ⟨S, hS⟩ : ∃ S : Nat → Prop, S = fun k => k = lb ∨ (Value.slice ao L.length cap).ownBlock = some k ∨ kv = .map (some k) ∨ bv = .map (some k) := ⟨_, rfl⟩
    have HSS := Lib.hid hS
    have HK3 : Hid (Keeps S w wc) := Keeps.of_below hb3
    rcases HL3.out.maps with ⟨rfl, rfl, hLe⟩ | ⟨kb, bb, rfl, rfl, _⟩
    · have hfirst := LedgerIs.first (w := wc) (lb := lb) (c := c) (pv := .slice ao L.length cap) (by have := HL3.out; rw [hLe] at this ⊢; exact this)
      rw [← hLe] at hfirst
      have hTk : (S wc.heap.size ∨ w.heap.size ≤ wc.heap.size) ∧ (S (wc.heap.size + 1) ∨ w.heap.size ≤ wc.heap.size + 1) := ⟨.inr (by omega), .inr (by omega)⟩
      have HTK := Lib.hid hTk
      have hKK := hfirst.2
      have hlo : w.heap.size ≠ lb := by have := HL.out.lt; omega
      have c0 := (World.cell?_of_block (hKK.block w.heap.size (by omega) hlo) (a := ⟨w.heap.size, 0, none⟩)).trans q0
      have c1 := (World.cell?_of_block (hKK.block w.heap.size (by omega) hlo) (a := ⟨w.heap.size, 1, none⟩)).trans q1
      have c2 := (World.cell?_of_block (hKK.block w.heap.size (by omega) hlo) (a := ⟨w.heap.size, 2, none⟩)).trans q2
      have c3 := (World.cell?_of_block (hKK.block w.heap.size (by omega) hlo) (a := ⟨w.heap.size, 3, none⟩)).trans q3
      have HK4 := Lib.hid (HK3.out.trans (hKK.weaken (T := S) (fun k _ hk => by rw [hS]; exact .inl hk)))
      have HL4 := Lib.hid hfirst.1
      have hsz4 := Nat.le_trans hsz3 hKK.size
      obtain ⟨W4, hW4⟩ : ∃ W4, W4 = (((wc.setCell ⟨lb, 1, none⟩ (.map (some wc.heap.size))).setCell ⟨lb, 2, none⟩ (.map (some (wc.heap.size + 1)))).alloc (.map #[] 0)).alloc (.map #[] 0) := ⟨_, rfl⟩
      rw [← hW4] at HL4 HK4 c0 c1 c2 c3 hsz4
      obtain ⟨bb, hbb⟩ : ∃ bb, bb = wc.heap.size + 1 := ⟨_, rfl⟩
      rw [← hbb] at HL4 HTK
      obtain ⟨kb, hkb⟩ : ∃ kb, kb = wc.heap.size := ⟨_, rfl⟩
      rw [← hkb] at HL4 HTK
      clear hfirst hKK hTk hLe hS hlo q0 q1 q2 q3 hsz3 HK3 HL3 hkb hbb
      have HW4 := Lib.hid hW4
      clear hW4
      go_wp2_with fail
      rw [← HW4.out]
      clear HW4 l0 l1 l2 lf lf1 lf2 hlt hb3
      obtain ⟨l0, l1, l2, lf⟩ := HL4.out.cells
      have lf0 := lf 0
      obtain ⟨kb', bb', hk1, hk2, hne, m1, f, m2, hf⟩ : ∃ kb' bb', Value.map (some kb) = .map (some kb') ∧ Value.map (some bb) = .map (some bb') ∧ kb' ≠ bb' ∧ IMap W4 kb' c (keyIdx L) ∧ ∃ f, IMap W4 bb' c f ∧ ∀ s, (f s).getD 0 = balI L s := by
        rcases HL4.out.maps with ⟨h, _⟩ | h
        · simp at h
        · exact h
      obtain rfl : kb = kb' := by simpa using hk1
      obtain rfl : bb = bb' := by simpa using hk2
      clear hk1 hk2
      have hrow := HL4.out.row
      have nk := HL4.out.map_ne m1
      have nb := HL4.out.map_ne m2
      have hbr := balI_range HL4.out.good
      have hfb : ∀ s, -1000000000000000 ≤ (f s).getD 0 ∧ (f s).getD 0 ≤ 1000000000000000 := by
        intro s
        rw [hf s]
        have := hbr s
        have : (L.length : Int) * 1000000000 ≤ 100000 * 1000000000 := by omega
        omega
      obtain ⟨w5, u5, m5, g5⟩ := (m1.block (w' := W4.drew) rfl).put key hks L.length (by omega) (by omega) (by omega)
      have m5b : IMap w5 bb c f := m2.block (g5.block bb m2.lt (by simp; exact fun e => hne e.symm))
      have hrow5 : w5.ownsRow 0 40 4 (.slice ao L.length cap) L.length (pstCells L) := hrow.kept (w' := w5) (row := some kb) ⟨g5.os, g5.tape, g5.output, g5.size, fun k hk hn => g5.block k hk hn⟩ (by right; exact nk.2)
      have hwlb : lb ≠ w.heap.size := by have := HL.out.lt; omega
      have hkw : some w.heap.size ≠ some kb := by
        intro e
        obtain ⟨D, ⟨es, clock, h1, _⟩, _⟩ := m1
        simp at e
        rw [← e] at h1
        simp [World.cell?, h1] at c0
      have d0 : w5.cell? ⟨w.heap.size, 0, none⟩ = some (.string key) := g5.cell c0 hkw
      have d1 : w5.cell? ⟨w.heap.size, 1, none⟩ = some (.string src) := g5.cell c1 hkw
      have d2 : w5.cell? ⟨w.heap.size, 2, none⟩ = some (.string dst) := g5.cell c2 hkw
      have d3 : w5.cell? ⟨w.heap.size, 3, none⟩ = some (.int .i64 amount) := g5.cell c3 hkw
      have hlk : some lb ≠ some kb := by simp; exact fun e => nk.1 e.symm
      have e0 : w5.cell? ⟨lb, 0, none⟩ = some (.slice ao L.length cap) := g5.cell l0 hlk
      have e2 : w5.cell? ⟨lb, 2, none⟩ = some (.map (some bb)) := g5.cell l2 hlk
      have ef : w5.frozen? ⟨lb, 0, none⟩ = false := (World.frozen?_of_block (w := W4.drew) (g5.block lb HL4.out.lt hlk)).trans lf0
      have hh5 : w5.heap[lb]? = some (.cells #[.slice ao L.length cap, .map (some kb), .map (some bb)] 58 (0, 0)) := (g5.block lb HL4.out.lt hlk).trans HL4.out.head
      have nlb : some lb ≠ (Value.slice ao L.length cap).ownBlock := fun e => HL4.out.row_ne e.symm rfl
      have NLB := Lib.hid nlb
      have nlt : lb < w5.heap.size := (Array.getElem?_eq_some_iff.1 hh5).1
      have NLT := Lib.hid nlt
      have M5 := Lib.hid m5
      have C1 := Lib.hid c1
      have C2 := Lib.hid c2
      have C3 := Lib.hid c3
      have M5B := Lib.hid m5b
      have M4B := Lib.hid m2
      have hkw2 : kb ≠ w.heap.size := fun e => hkw (by rw [e])
      have HKW := Lib.hid hkw2
      have G5 := Lib.hid g5
      have HR5 := Lib.hid hrow5
      have HH5 := Lib.hid hh5
      have HF := Lib.hid hf
      have HFB := Lib.hid hfb
      have NK := Lib.hid nk
      have NB := Lib.hid nb
      have HNE := Lib.hid hne
      clear m5 m5b g5 hkw2 hrow5 hh5 hf hfb nk nb hne m1 m2 hrow hbr c1 c2 c3 hkw hlk lf
      go_region
      clear u5 c0 l0 l1 l2 lf0
      go_wp2_with fail
      obtain ⟨i0, hi, hz0, hz1, hz2⟩ := info_parts Try.infoPst
      have hown6 : ((w5.alloc (Obj.cells #[.string key, .string src, .string dst, .int .i64 amount] 40)).drew).ownsRow 0 40 4 (.slice ao L.length cap) L.length (pstCells L) := HR5.out.alloc _
      have hnews : ∀ j u, [Value.string key, .string src, .string dst, .int .i64 amount][j]? = some u → ((w5.alloc (Obj.cells #[.string key, .string src, .string dst, .int .i64 amount] 40)).drew).cell? ((⟨w5.heap.size, 0, none⟩ : Addr).add j) = some u := cells_new w5 [.string key, .string src, .string dst, .int .i64 amount] 40
      have HNEWS := Lib.hid hnews
      have HI0 := Lib.hid (⟨hi, hz0, hz1, hz2⟩ : Try.prog.info? 40 = some i0 ∧ i0.zero = some _ ∧ i0.size = 4 ∧ i0.bytes = 56)
      clear hnews hi hz0 hz1 hz2
      go_region_law (refine step_append_own rfl (.tmp 86) (.tmp 88) 45 rfl 0 40 i0 _ 4 56 Try.underlying45 HI0.out.1 HI0.out.2.1 HI0.out.2.2.1 HI0.out.2.2.2 rfl (by decide) _ L.length (pstCells L) (by simp [Act.eval]) hown6 ⟨w5.heap.size, 0, none⟩ 1 1 [.string key, .string src, .string dst, .int .i64 amount] (by simp [Act.eval]) rfl HNEWS.out (by intro u hu; simp at hu; rcases hu with rfl | rfl | rfl | rfl <;> rfl) (by unfold maxLen; omega) (by omega) (by omega) ?_; intro v7 w7 hown7 hgrow7 hnil7 hat7; obtain ⟨g7, cap7, rfl, _, hg7⟩ := owns_form hown7; have e7 : w7.cell? ⟨lb, 0, none⟩ = some (.slice ao L.length cap) := hgrow7.cell ((World.cell?_alloc_past _ _ _ NLT.out).trans e0) NLB.out; have ef7 : w7.frozen? ⟨lb, 0, none⟩ = false := (World.frozen?_of_block (hgrow7.block lb (by simp; have := NLT.out; omega) NLB.out)).trans ((World.frozen?_alloc_past _ _ _ NLT.out).trans ef))
      all_goals
        obtain ⟨hcell, hh8, m8, m8b⟩ := post_mid (v7 := .slice (some ⟨g7, 0, none⟩) (L.length + 1) cap7) HL.out HL4.out (by omega) M4B.out M5.out G5.out HNE.out HKW.out hgrow7
        obtain ⟨W8, hW8⟩ : ∃ W, W = w7.setCell ⟨lb, 0, none⟩ (.slice (some ⟨g7, 0, none⟩) (L.length + 1) cap7) := ⟨_, rfl⟩
        rw [← hW8] at hcell hh8 m8 m8b ⊢
        have b1 := (hcell 1).trans C1.out
        have b2 := (hcell 2).trans C2.out
        have b3 := (hcell 3).trans C3.out
        have bl2 : W8.cell? ⟨lb, 2, none⟩ = some (.map (some bb)) := by rw [cell_of_row W8 lb 2 _ _ _ hh8]; rfl
        have KM := move_any lb bb c f src dst amount W8 hss hds bl2 m8b (by omega) (by have := HAM.out; omega) (by have := HAM.out; omega) HFB.out
        have KMH := Lib.hid KM
        have HG7 := Lib.hid hgrow7
        have HO7 := Lib.hid hown7
        have HA7 := Lib.hid hat7
        have HW8 := Lib.hid hW8
        clear KM hcell hh8 m8 m8b bl2 hgrow7 hown7 hnil7 hat7 e7 ef7 hW8 d0 d1 d2 d3 e0 e2 ef hown6
        go_wp2_with fail
        refine KMH.out.mono ?_
        rintro e w9 ⟨rfl, m9, g9⟩
        have M9 := Lib.hid m9
        have G9 := Lib.hid g9
        clear m9 g9 KMH
        go_wp2_with fail
        go_ret
        have hg9 := G9.out
        rw [HW8.out] at hg9
        have hfin := post_final (S := fun k => k = lb ∨ (Value.slice ao L.length cap).ownBlock = some k ∨ _ = Value.map (some k) ∨ _ = Value.map (some k)) (p := ⟨key, src, dst, amount⟩) HL.out HL4.out (by omega) (by rw [HSS.out] at HK4; exact HK4.out) (by have := HTK.out.1; rw [HSS.out] at this; exact this) (by have := HTK.out.2; rw [HSS.out] at this; exact this) (.inl rfl) (fun g hg => .inr (.inl hg)) M4B.out M5.out G5.out HNE.out HKW.out HG7.out HO7.out (by simpa [Value.ownBlock] using HA7.out) M9.out hg9 HI.out HF.out hr hm
        refine ⟨rfl, _, _, _, hfin.1, hfin.2.1, ?_⟩
        obtain ⟨f1, f2, f3, f4⟩ := hfin.2.2
        exact ⟨.inl rfl, fun g hg => by have := f2 g hg; rcases this with (h | h | h | h) | h <;> simp_all, fun g hg => by have := f3 g hg; rcases this with (h | h | h | h) | h <;> simp_all, fun g hg => by have := f4 g hg; rcases this with (h | h | h | h) | h <;> simp_all⟩
    · have hTk : (S kb ∨ w.heap.size ≤ kb) ∧ (S bb ∨ w.heap.size ≤ bb) := by rw [hS]; exact ⟨.inl (.inr (.inr (.inl rfl))), .inl (.inr (.inr (.inr rfl)))⟩
      have HTK := Lib.hid hTk
      have HK4 := HK3
      have HL4 := HL3
      have hsz4 := hsz3
      have c0 := q0
      have c1 := q1
      have c2 := q2
      have c3 := q3
      obtain ⟨W4, rfl⟩ : ∃ W4, W4 = wc := ⟨_, rfl⟩
      clear hTk hS q0 q1 q2 q3 hsz3 HK3 HL3
      go_wp2_with fail
      clear l0 l1 l2 lf lf1 lf2 hlt hb3
      obtain ⟨l0, l1, l2, lf⟩ := HL4.out.cells
      have lf0 := lf 0
      obtain ⟨kb', bb', hk1, hk2, hne, m1, f, m2, hf⟩ : ∃ kb' bb', Value.map (some kb) = .map (some kb') ∧ Value.map (some bb) = .map (some bb') ∧ kb' ≠ bb' ∧ IMap W4 kb' c (keyIdx L) ∧ ∃ f, IMap W4 bb' c f ∧ ∀ s, (f s).getD 0 = balI L s := by
        rcases HL4.out.maps with ⟨h, _⟩ | h
        · simp at h
        · exact h
      obtain rfl : kb = kb' := by simpa using hk1
      obtain rfl : bb = bb' := by simpa using hk2
      clear hk1 hk2
      have hrow := HL4.out.row
      have nk := HL4.out.map_ne m1
      have nb := HL4.out.map_ne m2
      have hbr := balI_range HL4.out.good
      have hfb : ∀ s, -1000000000000000 ≤ (f s).getD 0 ∧ (f s).getD 0 ≤ 1000000000000000 := by
        intro s
        rw [hf s]
        have := hbr s
        have : (L.length : Int) * 1000000000 ≤ 100000 * 1000000000 := by omega
        omega
      obtain ⟨w5, u5, m5, g5⟩ := (m1.block (w' := W4.drew) rfl).put key hks L.length (by omega) (by omega) (by omega)
      have m5b : IMap w5 bb c f := m2.block (g5.block bb m2.lt (by simp; exact fun e => hne e.symm))
      have hrow5 : w5.ownsRow 0 40 4 (.slice ao L.length cap) L.length (pstCells L) := hrow.kept (w' := w5) (row := some kb) ⟨g5.os, g5.tape, g5.output, g5.size, fun k hk hn => g5.block k hk hn⟩ (by right; exact nk.2)
      have hwlb : lb ≠ w.heap.size := by have := HL.out.lt; omega
      have hkw : some w.heap.size ≠ some kb := by
        intro e
        obtain ⟨D, ⟨es, clock, h1, _⟩, _⟩ := m1
        simp at e
        rw [← e] at h1
        simp [World.cell?, h1] at c0
      have d0 : w5.cell? ⟨w.heap.size, 0, none⟩ = some (.string key) := g5.cell c0 hkw
      have d1 : w5.cell? ⟨w.heap.size, 1, none⟩ = some (.string src) := g5.cell c1 hkw
      have d2 : w5.cell? ⟨w.heap.size, 2, none⟩ = some (.string dst) := g5.cell c2 hkw
      have d3 : w5.cell? ⟨w.heap.size, 3, none⟩ = some (.int .i64 amount) := g5.cell c3 hkw
      have hlk : some lb ≠ some kb := by simp; exact fun e => nk.1 e.symm
      have e0 : w5.cell? ⟨lb, 0, none⟩ = some (.slice ao L.length cap) := g5.cell l0 hlk
      have e2 : w5.cell? ⟨lb, 2, none⟩ = some (.map (some bb)) := g5.cell l2 hlk
      have ef : w5.frozen? ⟨lb, 0, none⟩ = false := (World.frozen?_of_block (w := W4.drew) (g5.block lb HL4.out.lt hlk)).trans lf0
      have hh5 : w5.heap[lb]? = some (.cells #[.slice ao L.length cap, .map (some kb), .map (some bb)] 58 (0, 0)) := (g5.block lb HL4.out.lt hlk).trans HL4.out.head
      have nlb : some lb ≠ (Value.slice ao L.length cap).ownBlock := fun e => HL4.out.row_ne e.symm rfl
      have NLB := Lib.hid nlb
      have nlt : lb < w5.heap.size := (Array.getElem?_eq_some_iff.1 hh5).1
      have NLT := Lib.hid nlt
      have M5 := Lib.hid m5
      have C1 := Lib.hid c1
      have C2 := Lib.hid c2
      have C3 := Lib.hid c3
      have M5B := Lib.hid m5b
      have M4B := Lib.hid m2
      have hkw2 : kb ≠ w.heap.size := fun e => hkw (by rw [e])
      have HKW := Lib.hid hkw2
      have G5 := Lib.hid g5
      have HR5 := Lib.hid hrow5
      have HH5 := Lib.hid hh5
      have HF := Lib.hid hf
      have HFB := Lib.hid hfb
      have NK := Lib.hid nk
      have NB := Lib.hid nb
      have HNE := Lib.hid hne
      clear m5 m5b g5 hkw2 hrow5 hh5 hf hfb nk nb hne m1 m2 hrow hbr c1 c2 c3 hkw hlk lf
      go_region
      clear u5 c0 l0 l1 l2 lf0
      go_wp2_with fail
      obtain ⟨i0, hi, hz0, hz1, hz2⟩ := info_parts Try.infoPst
      have hown6 : ((w5.alloc (Obj.cells #[.string key, .string src, .string dst, .int .i64 amount] 40)).drew).ownsRow 0 40 4 (.slice ao L.length cap) L.length (pstCells L) := HR5.out.alloc _
      have hnews : ∀ j u, [Value.string key, .string src, .string dst, .int .i64 amount][j]? = some u → ((w5.alloc (Obj.cells #[.string key, .string src, .string dst, .int .i64 amount] 40)).drew).cell? ((⟨w5.heap.size, 0, none⟩ : Addr).add j) = some u := cells_new w5 [.string key, .string src, .string dst, .int .i64 amount] 40
      have HNEWS := Lib.hid hnews
      have HI0 := Lib.hid (⟨hi, hz0, hz1, hz2⟩ : Try.prog.info? 40 = some i0 ∧ i0.zero = some _ ∧ i0.size = 4 ∧ i0.bytes = 56)
      clear hnews hi hz0 hz1 hz2
      go_region_law (refine step_append_own rfl (.tmp 86) (.tmp 88) 45 rfl 0 40 i0 _ 4 56 Try.underlying45 HI0.out.1 HI0.out.2.1 HI0.out.2.2.1 HI0.out.2.2.2 rfl (by decide) _ L.length (pstCells L) (by simp [Act.eval]) hown6 ⟨w5.heap.size, 0, none⟩ 1 1 [.string key, .string src, .string dst, .int .i64 amount] (by simp [Act.eval]) rfl HNEWS.out (by intro u hu; simp at hu; rcases hu with rfl | rfl | rfl | rfl <;> rfl) (by unfold maxLen; omega) (by omega) (by omega) ?_; intro v7 w7 hown7 hgrow7 hnil7 hat7; obtain ⟨g7, cap7, rfl, _, hg7⟩ := owns_form hown7; have e7 : w7.cell? ⟨lb, 0, none⟩ = some (.slice ao L.length cap) := hgrow7.cell ((World.cell?_alloc_past _ _ _ NLT.out).trans e0) NLB.out; have ef7 : w7.frozen? ⟨lb, 0, none⟩ = false := (World.frozen?_of_block (hgrow7.block lb (by simp; have := NLT.out; omega) NLB.out)).trans ((World.frozen?_alloc_past _ _ _ NLT.out).trans ef))
      all_goals
        obtain ⟨hcell, hh8, m8, m8b⟩ := post_mid (v7 := .slice (some ⟨g7, 0, none⟩) (L.length + 1) cap7) HL.out HL4.out (by omega) M4B.out M5.out G5.out HNE.out HKW.out hgrow7
        obtain ⟨W8, hW8⟩ : ∃ W, W = w7.setCell ⟨lb, 0, none⟩ (.slice (some ⟨g7, 0, none⟩) (L.length + 1) cap7) := ⟨_, rfl⟩
        rw [← hW8] at hcell hh8 m8 m8b ⊢
        have b1 := (hcell 1).trans C1.out
        have b2 := (hcell 2).trans C2.out
        have b3 := (hcell 3).trans C3.out
        have bl2 : W8.cell? ⟨lb, 2, none⟩ = some (.map (some bb)) := by rw [cell_of_row W8 lb 2 _ _ _ hh8]; rfl
        have KM := move_any lb bb c f src dst amount W8 hss hds bl2 m8b (by omega) (by have := HAM.out; omega) (by have := HAM.out; omega) HFB.out
        have KMH := Lib.hid KM
        have HG7 := Lib.hid hgrow7
        have HO7 := Lib.hid hown7
        have HA7 := Lib.hid hat7
        have HW8 := Lib.hid hW8
        clear KM hcell hh8 m8 m8b bl2 hgrow7 hown7 hnil7 hat7 e7 ef7 hW8 d0 d1 d2 d3 e0 e2 ef hown6
        go_wp2_with fail
        refine KMH.out.mono ?_
        rintro e w9 ⟨rfl, m9, g9⟩
        have M9 := Lib.hid m9
        have G9 := Lib.hid g9
        clear m9 g9 KMH
        go_wp2_with fail
        go_ret
        have hg9 := G9.out
        rw [HW8.out] at hg9
        have hfin := post_final (S := fun k => k = lb ∨ (Value.slice ao L.length cap).ownBlock = some k ∨ _ = Value.map (some k) ∨ _ = Value.map (some k)) (p := ⟨key, src, dst, amount⟩) HL.out HL4.out (by omega) (by rw [HSS.out] at HK4; exact HK4.out) (by have := HTK.out.1; rw [HSS.out] at this; exact this) (by have := HTK.out.2; rw [HSS.out] at this; exact this) (.inl rfl) (fun g hg => .inr (.inl hg)) M4B.out M5.out G5.out HNE.out HKW.out HG7.out HO7.out (by simpa [Value.ownBlock] using HA7.out) M9.out hg9 HI.out HF.out hr hm
        refine ⟨rfl, _, _, _, hfin.1, hfin.2.1, ?_⟩
        obtain ⟨f1, f2, f3, f4⟩ := hfin.2.2
        exact ⟨.inl rfl, fun g hg => by have := f2 g hg; rcases this with (h | h | h | h) | h <;> simp_all, fun g hg => by have := f3 g hg; rcases this with (h | h | h | h) | h <;> simp_all, fun g hg => by have := f4 g hg; rcases this with (h | h | h | h) | h <;> simp_all⟩

end Go.Proofs.Ytkimcopmfhjjcaa

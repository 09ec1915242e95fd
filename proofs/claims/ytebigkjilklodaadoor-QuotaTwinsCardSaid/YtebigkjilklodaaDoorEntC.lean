/- 'sorteslaw15.choose': numbers of subsets. -/
import Derived.Deep.RegionLaw
import Derived.Test.YtebigkjilklodaaDoorLaws
import Derived.Test.YtebigkjilklodaaDoorOwns
import Derived.Test.YtebigkjilklodaaDoorRegs
import Derived.Test.YtebigkjilklodaaDoorQuoTs
set_option linter.unusedVariables false
set_option linter.unusedSimpArgs false
namespace Go.Proofs.YtebigkjilklodaaDoor
open Go.RowKit

/-- A row of the triangle. -/
def tri (n k : Nat) : List Int := (List.range k).map fun j => (chs n j : Int)
theorem tri_length (n k : Nat) : (tri n k).length = k := by simp [tri]
theorem tri_get (n k j : Nat) (h : j < k) : (tri n k)[j]? = some (chs n j : Int) := by simp [tri, h]
theorem tri_snoc (n k : Nat) : tri n (k + 1) = tri n k ++ [(chs n k : Int)] := by simp [tri, List.range_succ]
theorem tri_one (n : Nat) : tri n 1 = [1] := by simp [tri, List.range_succ, chs_zero]
def triV (n k : Nat) : List Value := (tri n k).map (Value.int .i64)
theorem triV_length (n k : Nat) : (triV n k).length = k := by simp [triV, tri]
theorem triV_get (n k j : Nat) (h : j < k) : (triV n k)[j]? = some (.int .i64 (chs n j)) := by simp [triV, tri_get n k j h]
theorem triV_snoc (n k : Nat) : triV n (k + 1) = triV n k ++ [.int .i64 (chs n k)] := by simp [triV, tri_snoc]
theorem chs_small {n : Nat} (h : n ≤ 12) (k : Nat) : (chs n k : Int) ≤ 4096 := by
  have h1 := chs_le n k
  have h2 : 2 ^ n ≤ 2 ^ 12 := Nat.pow_le_pow_right (by decide) h
  omega

theorem step_append1 {P : Program} {ops : Array Oper} {o : Oper} {a : Act} {w : World} {K : Act → World → Prop} {Q : Exit → Act → World → Prop} {E : Prop}
    (hgd : o.guard = none) (s x : Operand) (t : TypeId) (ho : o.op = .call { callee := .builtin .append, args := #[s, x], argTypes := #[t, t] })
    (base : Nat) (e : TypeId) (i : TypeInfo) (z : Value) (size bytes : Nat) (ht : P.underlying t = some (.slice e)) (hi : P.info? e = some i) (hz : i.zero = some z)
    (hsize : i.size = size) (hby : i.bytes = bytes) (hzs : z.cells.size = size) (hsz : 0 < size)
    (v : Value) (n : Nat) (xs : List Value) (hs : a.eval s = v) (hown : w.ownsRow base e size v n xs)
    (ad : Addr) (m c : Nat) (news : List Value) (hx : a.eval x = .slice (some ad) m c) (hl : news.length = m * size) (hnews : ∀ j u, news[j]? = some u → w.cell? (ad.add j) = some u) (h1 : ∀ u ∈ news, u.oneCell' = true)
    (h63 : n + m ≤ maxLen) (hbytes : (n + m) * bytes ≤ 140737488355328) (hbase : base ≤ w.heap.size)
    (hK : ∀ v' w', w'.ownsRow base e size v' (n + m) (xs ++ news) → w.grownBy w' v.ownBlock → K (a.put o.dst v') w') :
    if Region.wanted o (yielded ops a.tmps) = true then Oper.wp P o a w K Q else E := by
  have hw : Region.wanted o (yielded ops a.tmps) = true := by simp [Region.wanted, hgd]
  rw [if_pos hw]
  obtain ⟨v', w', hr, h2, h3, h4, h5⟩ := run_append_own_at (P := P) w base t o.type e i z size bytes ht hi hz hsize hby hzs hsz v n xs hown ad m c news hl hnews h1 h63 hbytes hbase
  unfold Oper.wp execOp
  simp only [ho, resolve, invoke, builtin, Sem.run_bind, Sem.run_pure, Result.andThen_ok, List.map_toArray, List.map_cons, List.map_nil, hs, hx, hr]
  exact hK _ _ h2 h3

theorem Tryd.infoCh : (Tryd.prog.info? 3).map (fun i => (i.zero, i.size, i.bytes)) = some (some (.int .i64 0), 1, 8) := by kernel_rfl

/-- A row made full. -/
theorem own_full {base : Nat} {e : TypeId} (w : World) (cur : Array Value) (n size : Nat) (hb : base ≤ w.heap.size) (hm : n ≤ maxLen) (hs : cur.size = n * size) : (w.alloc (.cells cur e)).ownsRow base e size (.slice (some ⟨w.heap.size, 0, none⟩) n n) n cur.toList :=
  ⟨by simp [hs], .inr ⟨w.heap.size, n, cur, rfl, hb, heap_alloc_new w _, Nat.le_refl _, hm, hs, by rw [← hs, ← Array.length_toList, List.take_length]⟩⟩

set_option maxHeartbeats 1000000 in
set_option maxRecDepth 100000 in
theorem choose_in (n k : Nat) (w : World) (hn : n ≤ 12) (hk : k ≤ n) : Calls Tryd.prog 23 #[.int .i64 n, .int .i64 k] w fun e w' => e = .returned (.int .i64 (chs n k)) ∧ Below w.heap.size w w' := by
  obtain ⟨i0, hi, hz0, hz1, hz2⟩ := info_parts Tryd.infoCh
  have hk' : ¬ ((n : Int) < k) := by omega
  go_enter Tryd.func23, Tryd.ntmps23
  go_wp2_with fail
  have HO0 : Hid (OwnL 3 (w.alloc (.cells #[.int .i64 1] 3)) w.heap.size w.heap.size 1 (triV 0 1)) := own_full w #[.int .i64 1] 1 1 (Nat.le_refl _) (by unfold maxLen; omega) rfl
  go_loopw [5, 6] (fun x i wr => ∃ q : Nat, q ≤ n ∧ i = .int .i64 q ∧ ∃ rb rc : Nat, x = .slice (some ⟨rb, 0, none⟩) (q + 1) rc ∧ Hid (OwnL 3 wr w.heap.size rb rc (triV q (q + 1))) ∧ Hid (Below w.heap.size w wr)) (fun _ i _ => n - (intOf i).toNat)
  case atStart => exact ⟨0, Nat.zero_le _, rfl, w.heap.size, 1, rfl, HO0, (Below.refl _ _).alloc (Nat.le_refl _) _⟩
  case round =>
    obtain ⟨q, hq, rfl, rb, rc, rfl, HO, HB⟩ := hrel
    obtain ⟨w1, hw1⟩ : ∃ w1, w1 = wr := ⟨_, rfl⟩
    subst hw1
    by_cases hlt : q < n
    · have hqz : (q : Int) < n := by omega
      go_wp2_with fail
      have HO1 : Hid (OwnL 3 (w1.alloc (.cells #[.int .i64 1] 3)) w1.heap.size w1.heap.size 1 (triV (q + 1) 1)) := own_full w1 #[.int .i64 1] 1 1 (Nat.le_refl _) (by unfold maxLen; omega) rfl
      obtain ⟨B, hB⟩ : ∃ B, B = w1.heap.size := ⟨_, rfl⟩
      have HBS := Lib.hid hB
      go_loopw [7, 8] (fun x i wx => ∃ j : Nat, 1 ≤ j ∧ j ≤ q + 1 ∧ i = .int .i64 j ∧ ∃ nb nc : Nat, x = .slice (some ⟨nb, 0, none⟩) j nc ∧ Hid (OwnL 3 wx w1.heap.size nb nc (triV (q + 1) j)) ∧ Hid (Below w1.heap.size w1 wx)) (fun _ i _ => q + 1 - (intOf i).toNat)
      case atStart => exact ⟨1, Nat.le_refl _, by omega, rfl, w1.heap.size, 1, rfl, HO1, (Below.refl _ _).alloc (Nat.le_refl _) _⟩
      case round =>
        obtain ⟨j, hj1, hj, rfl, nb, nc, rfl, HN, HBN⟩ := hrel
        by_cases hjt : j < q + 1
        · have hjz : (j : Int) < q + 1 := by omega
          have hj0 : (1 : Int) ≤ (j : Int) := by omega
          have hjl : (j : Int) - 1 < (q : Int) + 1 := by omega
          have hjw : IntKind.i64.wrap ((j : Int) - 1) = (j : Int) - 1 := IntWalk.i64_in _ (by omega)
          have hjn : ((j : Int) - 1).toNat = j - 1 := by omega
          have hr := HO.out.later HBN.out (HO.out.lt).2
          have c1 := hr.cell (triV_get q (q + 1) (j - 1) (by omega))
          have c2 := hr.cell (triV_get q (q + 1) j (by omega))
          have l1 := cell_lt c1
          have hb1 := chs_small (by omega : q ≤ 12) (j - 1)
          have hb2 := chs_small (by omega : q ≤ 12) j
          have hb3 := chs_small (by omega : q + 1 ≤ 12) j
          have hsum : (chs q (j - 1) : Int) + chs q j = chs (q + 1) j := by
            obtain ⟨t, rfl⟩ : ∃ t, j = t + 1 := ⟨j - 1, by omega⟩
            rw [chs_succ]; simp
          have hsw : IntKind.i64.wrap ((chs q (j - 1) : Int) + chs q j) = chs (q + 1) j := by rw [hsum]; exact IntWalk.i64_in _ (by omega)
          clear hsum
          have HI := Lib.hid (⟨hi, hz0, hz1, hz2⟩ : Tryd.prog.info? 3 = some i0 ∧ i0.zero = some _ ∧ i0.size = 1 ∧ i0.bytes = 8)
          clear hi hz0 hz1 hz2
          have hsz := HBN.out.size
          have HJ : Hid (1 ≤ j ∧ j ≤ 13) := ⟨hj1, by omega⟩
          have HOW : Hid (wr.ownsRow B 3 1 (.slice (some ⟨nb, 0, none⟩) j nc) j (triV (q + 1) j)) := by
            have h := HN.out
            unfold OwnL at h
            rw [triV_length] at h
            rw [HBS.out]; exact h
          have HSZ : Hid (B ≤ (wr.alloc (.cells #[.int .i64 (chs (q + 1) j)] 3)).heap.size) := by show _ ≤ _; rw [HBS.out]; simp; omega
          go_wp2_with fail
          go_region_law (refine step_append1 rfl (.tmp 29) (.tmp 40) 26 rfl B 3 i0 (.int .i64 0) 1 8 Tryd.underlying26 HI.out.1 HI.out.2.1 HI.out.2.2.1 HI.out.2.2.2 rfl (by decide) (.slice (some ⟨nb, 0, none⟩) j nc) j (triV (q + 1) j) (by simp [Act.eval]) (by exact HOW.out.alloc _) ⟨wr.heap.size, 0, none⟩ 1 1 [.int .i64 (chs (q + 1) j)] (by simp [Act.eval]) rfl (by exact cells_new wr [.int .i64 (chs (q + 1) j)] 3) (by intro u hu; simp at hu; subst hu; rfl) (by have := HJ.out; unfold maxLen; omega) (by have := HJ.out; omega) (by exact HSZ.out) ?_; intro v2 w2 hown2 hgrow2; obtain ⟨g2, c2', rfl, hg2, hg2'⟩ := owns_form hown2)
          all_goals
            have HO2 : Hid (OwnL 3 w2 w1.heap.size g2 c2' (triV (q + 1) (j + 1))) := by
              show OwnL _ _ _ _ _ _
              unfold OwnL
              rw [triV_length, ← HBS.out, triV_snoc]; exact hown2
            have HB2 : Hid (Below w1.heap.size w1 w2) := (HBN.out.alloc hsz _).drew.grown hgrow2 (by simp; omega) (fun k hk => by have := (HOW.out.lt k hk).1; rw [← HBS.out]; exact this)
            clear hown2 hgrow2
            go_wp2_with fail
            go_roundw
            case rel => exact ⟨j + 1, by omega, by omega, by go_num, g2, c2', rfl, HO2, HB2⟩
            case measure => simp [intOf]; omega
        · obtain rfl : j = q + 1 := by omega
          have hszB := HBN.out.size
          have hszW := HB.out.size
          have HON : Hid (wr.ownsRow w1.heap.size 3 1 (.slice (some ⟨nb, 0, none⟩) (q + 1) nc) (q + 1) (triV (q + 1) (q + 1))) := by
            have h := HN.out
            unfold OwnL at h
            rw [triV_length] at h
            exact h
          go_wp2_with (at_builtin; refine wpList_append_own _ rfl _ _ 26 rfl w1.heap.size 3 i0 (.int .i64 0) 1 8 Tryd.underlying26 hi hz0 hz1 hz2 rfl (by decide) _ _ _ rfl (HON.out.alloc _) ⟨wr.heap.size, 0, none⟩ 1 1 [.int .i64 1] rfl rfl ?c1 ?c2 ?c3 ?c4 ?c5 ?_)
          case c1 => exact cell_one_new _ _ _
          case c2 => intro u hu; simp at hu; subst hu; rfl
          case c3 => unfold maxLen; omega
          case c4 => omega
          case c5 => simp; omega
          intro v' w2 hown' hgrow _
          have HB2 : Hid (Below w1.heap.size w1 w2) := (HBN.out.alloc hszB _).grown hgrow (by simp; omega) (fun j hj => (HON.out.lt j hj).1)
          obtain ⟨g2, c2', rfl, hg1, hg2⟩ := owns_form hown'
          have HO2 : Hid (OwnL 3 w2 w.heap.size g2 c2' (triV (q + 1) (q + 1 + 1))) := by
            show OwnL _ _ _ _ _ _
            refine OwnL.base ?_ hszW
            unfold OwnL
            rw [triV_length, triV_snoc, chs_self]; exact hown'
          have HB3 : Hid (Below w.heap.size w w2) := HB.out.trans (HB2.out.mono hszW)
          clear hown' hgrow
          go_wp2_with fail
          go_roundw
          case rel => exact ⟨q + 1, by omega, by go_num, g2, c2', rfl, HO2, HB3⟩
          case measure => simp [intOf]; omega
    · obtain rfl : q = n := by omega
      have hc := HO.out.cell (triV_get q (q + 1) k (by omega))
      have lc := cell_lt hc
      go_wp2_with fail
      go_ret
      exact ⟨rfl, HB.out⟩

/-- What 'choose' returns. -/
def chsI (n : Nat) (k : Int) : Int := if 0 ≤ k then chs n k.toNat else 0
set_option maxHeartbeats 1000000 in
set_option maxRecDepth 100000 in
theorem choose_any (n : Nat) (k : Int) (w : World) (hn : n ≤ 12) : Calls Tryd.prog 23 #[.int .i64 n, .int .i64 k] w fun e w' => e = .returned (.int .i64 (chsI n k)) ∧ Below w.heap.size w w' := by
  by_cases h0 : k < 0
  · have hc : Hid (chsI n k = 0) := if_neg (by omega)
    go_enter Tryd.func23, Tryd.ntmps23
    go_wp2_with fail
    go_ret
    exact ⟨by rw [hc.out]; rfl, Below.refl _ _⟩
  · obtain ⟨j, rfl⟩ : ∃ j : Nat, k = j := ⟨k.toNat, by omega⟩
    have e : chsI n j = chs n j := if_pos (by omega)
    by_cases h1 : j ≤ n
    · rw [e]; exact choose_in n j w hn h1
    · have hc : Hid (chsI n j = 0) := by show _ = _; rw [e, chs_more n j (by omega)]; rfl
      have h2 : (n : Int) < j := by omega
      clear e
      go_enter Tryd.func23, Tryd.ntmps23
      go_wp2_with fail
      go_ret
      exact ⟨by rw [hc.out]; rfl, Below.refl _ _⟩

end Go.Proofs.YtebigkjilklodaaDoor

/- Entrants and quotas in rows of one's own. -/
namespace Go.Proofs.YtebigkjilklodaaDoor
open Go.RowKit

theorem flat_get {α : Type} (f : α → List Value) (s : Nat) (hs : ∀ a, (f a).length = s) : ∀ (l : List α) (i j : Nat) (a : α), l[i]? = some a → j < s → (l.flatMap f)[i * s + j]? = (f a)[j]? := by
  intro l
  induction l with
  | nil => intro i j a h; simp at h
  | cons b l ih =>
    intro i j a h hj
    rw [List.flatMap_cons]
    cases i with
    | zero =>
      rw [List.getElem?_cons_zero] at h
      obtain rfl := Option.some.inj h
      rw [Nat.zero_mul, Nat.zero_add, List.getElem?_append_left (by rw [hs]; exact hj)]
    | succ i =>
      rw [List.getElem?_cons_succ] at h
      rw [List.getElem?_append_right (by rw [hs, Nat.succ_mul]; omega), hs, ← ih i j a h hj]
      congr 1
      rw [Nat.succ_mul]; omega
theorem flat_length {α : Type} (f : α → List Value) (s : Nat) (hs : ∀ a, (f a).length = s) (l : List α) : (l.flatMap f).length = l.length * s := by
  induction l with
  | nil => simp
  | cons b l ih => rw [List.flatMap_cons, List.length_append, hs, ih, List.length_cons, Nat.succ_mul]; omega

/-- An entrant's cells: its number and its groups. -/
def entV (p : Int × Value) : List Value := [.int .i64 p.1, .int .i64 0, .int .i64 0, .slice none 0 0, .slice none 0 0, p.2]
def entsV (l : List (Int × Value)) : List Value := l.flatMap entV
theorem entsV_snoc (l : List (Int × Value)) (p : Int × Value) : entsV (l ++ [p]) = entsV l ++ entV p := by simp [entsV]
/-- A quota's cells. -/
def quoV (p : ByteArray × Int × Int) : List Value := [.string p.1, .int .i64 p.2.1, .int .i64 p.2.2]
def quosV (l : List (ByteArray × Int × Int)) : List Value := l.flatMap quoV
theorem quosV_snoc (l : List (ByteArray × Int × Int)) (p : ByteArray × Int × Int) : quosV (l ++ [p]) = quosV l ++ quoV p := by simp [quosV]
theorem Tryd.infoEnt : (Tryd.prog.info? 56).map (fun i => (i.zero, i.size, i.bytes)) = some (some (.agg #[.int .i64 0, .int .i64 0, .int .i64 0, .slice none 0 0, .slice none 0 0, .slice none 0 0]), 6, 96) := by kernel_rfl
theorem Tryd.infoQuo : (Tryd.prog.info? 52).map (fun i => (i.zero, i.size, i.bytes)) = some (some (.agg #[.string ByteArray.empty, .int .i64 0, .int .i64 0]), 3, 32) := by kernel_rfl

theorem own_get {w : World} {B : Nat} {e : TypeId} {s : Nat} {v : Value} {n : Nat} {xs : List Value} (h : w.ownsRow B e s v n xs) : (v = .slice none 0 0 ∧ n = 0) ∨ ∃ g cap, v = .slice (some ⟨g, 0, none⟩) n cap ∧ B ≤ g ∧ g < w.heap.size ∧ ∀ j u, xs[j]? = some u → w.cell? ⟨g, j, none⟩ = some u := by
  rcases id h.2 with ⟨rfl, h0⟩ | ⟨g, cap, cur, rfl, h1⟩
  · exact .inl ⟨rfl, h0⟩
  · refine .inr ⟨g, cap, rfl, (World.ownsRow.lt h g rfl).1, (World.ownsRow.lt h g rfl).2, fun j u hj => ?_⟩
    have h2 := h.cells (g := g) rfl j u hj
    have e : (⟨g, 0, none⟩ : Addr).add j = ⟨g, j, none⟩ := by
      by_cases h0 : j = 0
      · subst h0; rfl
      · simp [Addr.add, h0]
    rwa [e] at h2
theorem ents_at {w : World} {B : Nat} {v : Value} {l : List (Int × Value)} {gs : Nat → List ByteArray} (h : w.ownsRow B 56 6 v l.length (entsV l)) (hg : ∀ i p, l[i]? = some p → StrsAt w.heap.size w p.2 (gs i)) : EntAt w.heap.size w v l.length gs := by
  rcases own_get h with ⟨rfl, h0⟩ | ⟨g, cap, rfl, h1, h2, h3⟩
  · rw [h0]
    exact ⟨none, 0, rfl, fun i hi => by omega⟩
  · refine ⟨some ⟨g, 0, none⟩, cap, rfl, fun i hi => ?_⟩
    have hp : l[i]? = some l[i] := List.getElem?_eq_getElem hi
    have hc : ∀ j, j < 6 → (entsV l)[i * 6 + j]? = (entV l[i])[j]? := fun j hj => flat_get entV 6 (fun _ => rfl) l i j _ hp hj
    refine ⟨g, 0, .int .i64 l[i].1, .int .i64 0, .int .i64 0, .slice none 0 0, .slice none 0 0, l[i].2, rfl, h2, ?_, ?_, ?_, ?_, ?_, ?_, hg i _ hp, rfl, rfl, rfl, rfl, rfl⟩
    · rw [Nat.zero_add]; exact h3 _ _ (hc 0 (by decide))
    · rw [Nat.zero_add]; exact h3 _ _ (hc 1 (by decide))
    · rw [Nat.zero_add]; exact h3 _ _ (hc 2 (by decide))
    · rw [Nat.zero_add]; exact h3 _ _ (hc 3 (by decide))
    · rw [Nat.zero_add]; exact h3 _ _ (hc 4 (by decide))
    · rw [Nat.zero_add]; exact h3 _ _ (hc 5 (by decide))
theorem quos_at {w : World} {B : Nat} {v : Value} {l : List (ByteArray × Int × Int)} {g : Nat → ByteArray} {low high : Nat → Int} (h : w.ownsRow B 52 3 v l.length (quosV l)) (hg : ∀ i p, l[i]? = some p → g i = p.1 ∧ low i = p.2.1 ∧ high i = p.2.2) : QuoAt w.heap.size w v l.length g low high := by
  rcases own_get h with ⟨rfl, h0⟩ | ⟨b, cap, rfl, h1, h2, h3⟩
  · rw [h0]
    exact ⟨none, 0, rfl, fun i hi => by omega⟩
  · refine ⟨some ⟨b, 0, none⟩, cap, rfl, fun i hi => ?_⟩
    have hp : l[i]? = some l[i] := List.getElem?_eq_getElem hi
    have hc : ∀ j, j < 3 → (quosV l)[i * 3 + j]? = (quoV l[i])[j]? := fun j hj => flat_get quoV 3 (fun _ => rfl) l i j _ hp hj
    obtain ⟨e1, e2, e3⟩ := hg i _ hp
    refine ⟨b, 0, rfl, h2, ?_, ?_, ?_⟩
    · rw [Nat.zero_add, e1]; exact h3 _ _ (hc 0 (by decide))
    · rw [Nat.zero_add, e2]; exact h3 _ _ (hc 1 (by decide))
    · rw [Nat.zero_add, e3]; exact h3 _ _ (hc 2 (by decide))

/-- Rows of two kinds lie apart. -/
theorem own_apart2 {w : World} {e e' : TypeId} {B B' s s' n n' : Nat} {v v' : Value} {xs ys : List Value} (h : w.ownsRow B e s v n xs) (k : w.ownsRow B' e' s' v' n' ys) (hne : e ≠ e') {b : Nat} (hb : v.ownBlock = some b) : some b ≠ v'.ownBlock := by
  intro hb'
  rcases h.2 with ⟨rfl, _⟩ | ⟨g, c, cur, rfl, _, h2, _⟩
  · cases hb
  · obtain rfl : g = b := Option.some.inj hb
    rcases k.2 with ⟨rfl, _⟩ | ⟨g', c', cur', rfl, _, h3, _⟩
    · cases hb'
    · obtain rfl : g = g' := Option.some.inj hb'
      rw [h2] at h3
      simp only [Option.some.injEq, Obj.cells.injEq] at h3
      exact hne h3.2.1
theorem own_keep {w w' : World} {e : TypeId} {B s n : Nat} {v : Value} {xs : List Value} (h : w.ownsRow B e s v n xs) (hb : ∀ b, v.ownBlock = some b → w'.heap[b]? = w.heap[b]?) : w'.ownsRow B e s v n xs := by
  refine ⟨h.1, ?_⟩
  rcases h.2 with h3 | ⟨g, cap, cur, rfl, h4, h5, h6⟩
  · exact .inl h3
  · exact .inr ⟨g, cap, cur, rfl, h4, (hb g rfl).trans h5, h6⟩
theorem own_grown {w w' : World} {e e' : TypeId} {B B' s s' n n' : Nat} {v v' : Value} {xs ys : List Value} (h : w.ownsRow B e s v n xs) (k : w.ownsRow B' e' s' v' n' ys) (hne : e ≠ e') (hg : w.grownBy w' v'.ownBlock) : w'.ownsRow B e s v n xs :=
  own_keep h fun b hb => hg.block b ((World.ownsRow.lt h b hb).2) (own_apart2 h k hne hb)
/-- A list of groups in a row of its own. -/
def GrpAt (w : World) (v : Value) (gs : List ByteArray) : Prop := w.ownsRow 0 9 1 v gs.length (gs.map .string)
theorem GrpAt.strs {w : World} {v : Value} {gs : List ByteArray} (h : GrpAt w v gs) : StrsAt w.heap.size w v gs := by
  rcases own_get h with ⟨rfl, h0⟩ | ⟨g, cap, rfl, h1, h2, h3⟩
  · obtain rfl := List.eq_nil_of_length_eq_zero h0
    exact ⟨none, 0, rfl, fun i s hs => by simp at hs⟩
  · exact ⟨_, cap, rfl, fun i s hs => ⟨g, 0, rfl, h2, by rw [Nat.zero_add]; exact h3 i _ (by rw [List.getElem?_map, hs]; rfl)⟩⟩
theorem GrpAt.later {w w' : World} {v : Value} {gs : List ByteArray} (h : GrpAt w v gs) (hb : Below w.heap.size w w') : GrpAt w' v gs := ownsRow_below h hb
theorem GrpAt.grown {w w' : World} {v v' : Value} {gs : List ByteArray} {B s n : Nat} {ys : List Value} (h : GrpAt w v gs) (k : w.ownsRow B 56 s v' n ys) (hg : w.grownBy w' v'.ownBlock) : GrpAt w' v gs := own_grown h k (by decide) hg
theorem GrpAt.nil (w : World) : GrpAt w (.slice none 0 0) [] := World.ownsRow_nil _ _ _ _

end Go.Proofs.YtebigkjilklodaaDoor

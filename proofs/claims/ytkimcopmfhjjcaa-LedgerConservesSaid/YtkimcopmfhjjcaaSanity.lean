/- 'sanity': the examples of the chapter hold. -/
import Derived.Test.YtkimcopmfhjjcaaLed
namespace Go.Proofs.Ytkimcopmfhjjcaa
open Go.RowKit

theorem fits_small {p : Pst} (h1 : p.key.size ≤ 100) (h2 : p.src.size ≤ 100) (h3 : p.dst.size ≤ 100) (h4 : 0 ≤ p.amount) (h5 : p.amount ≤ 1000) : p.fits := ⟨by omega, by omega, by omega, by omega, by omega⟩

set_option maxHeartbeats 4000000 in
set_option maxRecDepth 100000 in
theorem sanity_any (w : World) :
    Calls Try.prog 7 #[] w fun e w' => e = .returned (.bool true) ∧ Below w.heap.size w w' := by
  have mk1 := Lib.hid (fun w => mkpost_any exP1 w)
  have mk2 := Lib.hid (fun w => mkpost_any exP2 w)
  have mk3 := Lib.hid (fun w => mkpost_any exP3 w)
  have mk4 := Lib.hid (fun w => mkpost_any exP4 w)
  have mk5 := Lib.hid (fun w => mkpost_any exP5 w)
  have mk6 : Hid (∀ w, Calls Try.prog 14 #[.string ⟨#[100]⟩, .string ⟨#[112, 111, 116]⟩, .string ⟨#[120]⟩, .int .i64 6] w fun e w' => e = .returned (.agg #[.string ⟨#[100]⟩, .string ⟨#[112, 111, 116]⟩, .string ⟨#[120]⟩, .int .i64 6]) ∧ Below w.heap.size w w') := Lib.hid (fun w => mkpost_any exP6 w)
  have mk7 : Hid (∀ w, Calls Try.prog 14 #[.string ⟨#[101]⟩, .string ⟨#[112, 111, 116]⟩, .string ⟨#[120]⟩, .int .i64 1] w fun e w' => e = .returned (.agg #[.string ⟨#[101]⟩, .string ⟨#[112, 111, 116]⟩, .string ⟨#[120]⟩, .int .i64 1]) ∧ Below w.heap.size w w') := Lib.hid (fun w => mkpost_any exP7 w)
  go_enter Try.func7, Try.ntmps7
  go_wp2_with fail
  refine (new_led w).mono ?_
  rintro e w1 ⟨rfl, hl⟩
  have H1 := Lib.hid hl
  clear hl
  go_wp2_with fail
  refine (mk1.out w1).mono ?_
  rintro e w2 ⟨rfl, hb⟩
  have H2 := Lib.hid (H1.out.calm hb)
  clear hb H1
  go_wp2_with fail
  refine (post_led H2.out exP1 (fits_small (by decide) (by decide) (by decide) (by decide) (by decide)) (by omega) 0 _ ex1 exl1).mono ?_
  rintro e w3 ⟨rfl, hl⟩
  have H3 := Lib.hid hl
  clear hl H2
  go_wp2_with fail
  refine (mk2.out w3).mono ?_
  rintro e w4 ⟨rfl, hb⟩
  have H4 := Lib.hid (H3.out.calm hb)
  clear hb H3
  go_wp2_with fail
  refine (post_led H4.out exP2 (fits_small (by decide) (by decide) (by decide) (by decide) (by decide)) (by omega) 0 _ ex2 exl2).mono ?_
  rintro e w5 ⟨rfl, hl⟩
  have H5 := Lib.hid hl
  clear hl H4
  go_wp2_with fail
  refine (mk2.out w5).mono ?_
  rintro e w6 ⟨rfl, hb⟩
  have H6 := Lib.hid (H5.out.calm hb)
  clear hb H5
  go_wp2_with fail
  refine (post_led H6.out exP2 (fits_small (by decide) (by decide) (by decide) (by decide) (by decide)) (by omega) 0 _ ex3 exl3).mono ?_
  rintro e w7 ⟨rfl, hl⟩
  have H7 := Lib.hid hl
  clear hl H6
  go_wp2_with fail
  refine (mk3.out w7).mono ?_
  rintro e w8 ⟨rfl, hb⟩
  have H8 := Lib.hid (H7.out.calm hb)
  clear hb H7
  go_wp2_with fail
  refine (post_led H8.out exP3 (fits_small (by decide) (by decide) (by decide) (by decide) (by decide)) (by omega) 33 _ ex4 exl4).mono ?_
  rintro e w9 ⟨rfl, hl⟩
  have H9 := Lib.hid hl
  clear hl H8
  go_wp2_with fail
  refine (balance_led H9.out _ (by decide) _ exb1).mono ?_
  rintro e w' ⟨rfl, rfl⟩
  go_wp2_with fail
  refine (balance_led H9.out _ (by decide) _ exb2).mono ?_
  rintro e w' ⟨rfl, rfl⟩
  go_wp2_with fail
  refine (balance_led H9.out _ (by decide) _ exb3).mono ?_
  rintro e w' ⟨rfl, rfl⟩
  go_wp2_with fail
  refine (mk4.out w9).mono ?_
  rintro e w10 ⟨rfl, hb⟩
  have H10 := Lib.hid (H9.out.calm hb)
  clear hb H9
  go_wp2_with fail
  refine (post_led H10.out exP4 (fits_small (by decide) (by decide) (by decide) (by decide) (by decide)) (by omega) 52 _ ex5 exl5).mono ?_
  rintro e w11 ⟨rfl, hl⟩
  have H11 := Lib.hid hl
  clear hl H10
  go_wp2_with fail
  refine (mk5.out w11).mono ?_
  rintro e w12 ⟨rfl, hb⟩
  have H12 := Lib.hid (H11.out.calm hb)
  clear hb H11
  go_wp2_with fail
  refine (post_led H12.out exP5 (fits_small (by decide) (by decide) (by decide) (by decide) (by decide)) (by omega) 1 _ ex6 exl6).mono ?_
  rintro e w13 ⟨rfl, hl⟩
  have H13 := Lib.hid hl
  clear hl H12
  go_wp2_with fail
  refine (mk6.out w13).mono ?_
  rintro e w14 ⟨rfl, hb⟩
  have H14 := Lib.hid (H13.out.calm hb)
  clear hb H13
  go_wp2_with fail
  refine (mk7.out w14).mono ?_
  rintro e w15 ⟨rfl, hb⟩
  have H15 := Lib.hid (H14.out.calm hb)
  clear hb H14
  go_wp2_with fail
  refine (exall _ _ _ _ _ _ H15.out (by omega)).mono ?_
  rintro e w16 ⟨rfl, hl⟩
  have H16 := Lib.hid hl
  clear hl H15
  go_wp2_with fail
  refine (exsplit w16 10 [1, 1, 1] [4, 3, 3] (by decide) (by decide) (by decide) (by decide) (by decide) (by decide) exs1 rfl).mono ?_
  rintro e w17 ⟨v6, rfl, hv6, hb⟩
  have H17 := Lib.hid (H16.out.calm hb)
  have V6 := Lib.hid hv6
  clear hb H16 hv6
  go_wp2_with fail
  refine (exsplit w17 7 [2, 0, 1] [5, 0, 2] (by decide) (by decide) (by decide) (by decide) (by decide) (by decide) exs2 rfl).mono ?_
  rintro e w18 ⟨v8, rfl, hv8, hb⟩
  have H18 := Lib.hid (H17.out.calm hb)
  have V6 := Lib.hid (V6.out.mono hb hb.size)
  have V8 := Lib.hid hv8
  clear hb H17 hv8
  go_wp2_with fail
  refine (balance_led H18.out _ (by decide) _ exb1).mono ?_
  rintro e w' ⟨rfl, rfl⟩
  go_wp2_with fail
  refine (exints w18 v6 [4, 3, 3] V6.out (by decide)).mono ?_
  rintro e w19 ⟨rfl, hb⟩
  have H19 := Lib.hid (H18.out.calm hb)
  have V8 := Lib.hid (V8.out.mono hb hb.size)
  clear hb H18
  go_wp2_with fail
  refine (exints w19 v8 [5, 0, 2] V8.out (by decide)).mono ?_
  rintro e w20 ⟨rfl, hb⟩
  have H20 := Lib.hid (H19.out.calm hb)
  clear hb H19
  go_wp2_with fail
  go_ret
  exact ⟨rfl, H20.out.below⟩

end Go.Proofs.Ytkimcopmfhjjcaa

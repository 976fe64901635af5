import Derived.Test.YtffgfjnbgplckaaT8
namespace Go.Proofs.Ytffgfjnbgplckaa
open Go.RowKit
def awN : Nd := .mk 8 0 ⟨#[115, 117, 99]⟩ 0 [.mk 6 0 ⟨#[120]⟩ 0 []]
theorem aw_facts : patB awN = true ∧ sizeT awN = 2 ∧ depthT awN = 2 ∧ sameB awN awN = true := by decide +kernel
theorem rep_leaf {S : Nat → Prop} {w : World} (k a : Int) (s : ByteArray) (n : Int) (hs : s.size ≤ maxLen) : Rep S w (Nd.mk k a s n []) [.int .i64 k, .int .i64 a, .string s, .int .i64 n, .slice none 0 0] := rep_nd.2 ⟨_, rfl, hs, RepS.nil⟩
theorem aw_rep (w : World) : NdC ((w.alloc (.cells #[.int .i64 6, .int .i64 0, .string ⟨#[120]⟩, .int .i64 0, .slice none 0 0] 24)).alloc (.cells #[.int .i64 8, .int .i64 0, .string ⟨#[115, 117, 99]⟩, .int .i64 0, .slice (some ⟨w.heap.size, 0, none⟩) 1 1] 24)) awN [.int .i64 8, .int .i64 0, .string ⟨#[115, 117, 99]⟩, .int .i64 0, .slice (some ⟨w.heap.size, 0, none⟩) 1 1] := by
  have h1 := RepS.one (T := 24) (rep_leaf (S := fun _ => True) (w := w) 6 0 ⟨#[120]⟩ 0 (by decide))
  have h2 := Rep.toC _ _ ((rep_nd (t := awN)).2 ⟨_, rfl, by decide, h1⟩)
  exact h2.later ((Below.refl _ _).alloc (Nat.le_refl _) _)
set_option maxHeartbeats 4000000 in
theorem awake_any (w : World) : Calls Try.prog 14 #[] w fun e w' => e = .returned (.bool true) ∧ Below w.heap.size w w' := by
  obtain ⟨h1, h2, h3, h4⟩ := aw_facts
  have HR := Lib.hid (aw_rep w)
  have HE := Lib.hid (boxes2 w #[.int .i64 6, .int .i64 0, .string ⟨#[120]⟩, .int .i64 0, .slice none 0 0] #[.int .i64 8, .int .i64 0, .string ⟨#[115, 117, 99]⟩, .int .i64 0, .slice (some ⟨w.heap.size, 0, none⟩) 1 1] 24 24)
  have HC : Hid (∀ w', Below ((w.alloc (.cells #[.int .i64 6, .int .i64 0, .string ⟨#[120]⟩, .int .i64 0, .slice none 0 0] 24)).alloc (.cells #[.int .i64 8, .int .i64 0, .string ⟨#[115, 117, 99]⟩, .int .i64 0, .slice (some ⟨w.heap.size, 0, none⟩) 1 1] 24)).heap.size ((w.alloc (.cells #[.int .i64 6, .int .i64 0, .string ⟨#[120]⟩, .int .i64 0, .slice none 0 0] 24)).alloc (.cells #[.int .i64 8, .int .i64 0, .string ⟨#[115, 117, 99]⟩, .int .i64 0, .slice (some ⟨w.heap.size, 0, none⟩) 1 1] 24)) w' → Box5 24 w' (w.heap.size + 1) (.int .i64 8) (.int .i64 0) (.string ⟨#[115, 117, 99]⟩) (.int .i64 0) (.slice (some ⟨w.heap.size, 0, none⟩) 1 1)) :=
    fun w' hb => (show Box5 _ _ _ _ _ _ _ _ from HE.out.2.1).later hb (by have := HE.out.2.2.2; omega)
  have H1 := Lib.hid h1
  have H2 := Lib.hid h2
  have H3 := Lib.hid h3
  have H4 := Lib.hid h4
  clear h1 h2 h3 h4
  go_enter Try.func14, Try.ntmps14
  go_wp2_with fail
  refine (pattern_any awN _ _ HR.out).mono ?_
  rintro e w1 ⟨rfl, r1⟩
  rw [H1.out]
  obtain ⟨d0, d1, d2, d3, d4⟩ := (HC.out _ r1).cells
  go_wp2_with fail
  refine (size0_any awN _ _ (HR.out.later r1)).mono ?_
  rintro e w2 ⟨rfl, r2⟩
  rw [H2.out]
  have b2 := r1.trans (r2.mono r1.size)
  clear d0 d1 d2 d3 d4 r1 r2
  obtain ⟨d0, d1, d2, d3, d4⟩ := (HC.out _ b2).cells
  go_wp2_with fail
  refine (depth_any awN _ _ (HR.out.later b2)).mono ?_
  rintro e w3 ⟨rfl, r3⟩
  rw [H3.out]
  have b3 := b2.trans (r3.mono b2.size)
  clear d0 d1 d2 d3 d4 b2 r3
  obtain ⟨d0, d1, d2, d3, d4⟩ := (HC.out _ b3).cells
  go_wp2_with fail
  refine (same_any awN awN _ _ _ (HR.out.later b3) (HR.out.later b3)).mono ?_
  rintro e w4 ⟨rfl, r4⟩
  rw [H4.out]
  have b4 := b3.trans (r4.mono b3.size)
  clear d0 d1 d2 d3 d4 b3 r4
  go_wp2_with fail
  go_ret
  exact ⟨rfl, HE.out.2.2.1.trans (b4.mono HE.out.2.2.1.size)⟩
end Go.Proofs.Ytffgfjnbgplckaa

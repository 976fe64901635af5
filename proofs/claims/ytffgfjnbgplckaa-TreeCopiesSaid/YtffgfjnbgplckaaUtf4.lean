import Derived.Test.YtffgfjnbgplckaaUtf3
namespace Go.Proofs.Ytffgfjnbgplckaa
open Go.RowKit
/-- the text of an owned row of bytes -/
theorem cv_own {w : World} {base : Nat} {v : Value} {n : Nat} {l : List Int} (h : w.ownsRow base 5 1 v n (l.map (Value.int .u8))) : (convert 96 9 v).run Try.prog w = .ok (.string (strOfNums l)) w := by
  have hn := own_len h
  rcases h.2 with ⟨rfl, rfl⟩ | ⟨g, cap, cur, rfl, hg, hh, hr⟩
  · have : l = [] := by simpa using hn
    subst this
    rw [run_convert_bytes_nil w 96 5 Try.underlying96 Try.underlying5 0 0 9 Try.underlying9]; rfl
  · refine run_convert_bytes_arg _ 96 5 Try.underlying96 Try.underlying5 _ 0 n cap l (by simpa using hn) ?_ 9 Try.underlying9
    intro i hi
    have := h.cells (g := g) rfl i (.int .u8 (l.getD i 0)) (by
      rw [List.getElem?_map, List.getD_eq_getElem?_getD, List.getElem?_eq_getElem (by simp at hn; omega)]; rfl)
    have e : (⟨g, 0, none⟩ : Addr).add i = ⟨g, 0 + i, none⟩ := by unfold Addr.add; split <;> simp_all
    rw [e] at this; exact this
set_option maxRecDepth 100000 in
set_option maxHeartbeats 400000 in
theorem rput2 (n : Int) (h0 : 128 ≤ n) (h1 : n < 2048) (w : World) :
    Calls Try.prog 109 #[.int .i64 n] w fun e w' => e = .returned (.string (enc n)) ∧ Below w.heap.size w w' := by
  obtain ⟨i0, hi, hz0, hz1, hz2⟩ := info_parts info5
  have fin := Lib.hid (show encL n = [192 + n / 64] ++ tailL n 1 by unfold encL; rw [if_neg (by omega), if_pos (by omega)]; rfl)
  go_enter Try.func109, Try.ntmps109
  go_wp2_with fail
  refine (tail_any n (by omega) (by omega) 1 (by omega) _).mono ?_
  rintro e w' ⟨v, rfl, hown, hbel⟩
  obtain ⟨g, cap, rfl, hg⟩ := own_some hown (by omega)
  have hlit := own_lit (w := w) (xs := [.int .u8 (192 + n / 64)]) (n := 1) 5 rfl (by decide) (by simpa using hbel)
  go_wp2_with (at_builtin; refine wpList_append_own _ rfl _ _ 96 rfl w.heap.size 5 i0 (.int .u8 0) 1 1 Try.underlying96 hi hz0 hz1 hz2 rfl (by decide) _ _ _ rfl hlit ⟨g, 0, none⟩ 1 cap _ rfl (own_len hown) (hown.cells rfl) ?c2 ?c3 ?c4 ?c5 ?_)
  case c2 => intro u hu; simp at hu; obtain ⟨x, _, rfl⟩ := hu; rfl
  case c3 => decide
  case c4 => decide
  case c5 => have := hbel.size; simp at this; omega
  intro v' w1 hown' hgrow _
  have hcv := cv_own (l := (192 + n / 64) :: tailL n 1) hown'
  have hb1 : Below w.heap.size w w1 := (((Below.refl _ _).alloc (Nat.le_refl _) _).trans (hbel.mono (by simp))).grown hgrow (by have := hbel.size; simp at this; omega) (fun k hk => by simp [Value.ownBlock] at hk; omega)
  clear hown' hgrow hown hlit hbel
  go_wp2_with fail
  go_ret
  exact ⟨by rw [enc, fin.out]; rfl, hb1⟩
set_option maxRecDepth 100000 in
set_option maxHeartbeats 400000 in
theorem rput3 (n : Int) (h0 : 2048 ≤ n) (h1 : n < 65536) (w : World) :
    Calls Try.prog 109 #[.int .i64 n] w fun e w' => e = .returned (.string (enc n)) ∧ Below w.heap.size w w' := by
  obtain ⟨i0, hi, hz0, hz1, hz2⟩ := info_parts info5
  have fin := Lib.hid (show encL n = [224 + n / 4096] ++ tailL n 2 by unfold encL; rw [if_neg (by omega), if_neg (by omega), if_pos (by omega), show n / 64 / 64 = n / 4096 by omega]; rfl)
  go_enter Try.func109, Try.ntmps109
  go_wp2_with fail
  refine (tail_any n (by omega) (by omega) 2 (by omega) _).mono ?_
  rintro e w' ⟨v, rfl, hown, hbel⟩
  obtain ⟨g, cap, rfl, hg⟩ := own_some hown (by omega)
  have hlit := own_lit (w := w) (xs := [.int .u8 (224 + n / 4096)]) (n := 1) 5 rfl (by decide) (by simpa using hbel)
  go_wp2_with (at_builtin; refine wpList_append_own _ rfl _ _ 96 rfl w.heap.size 5 i0 (.int .u8 0) 1 1 Try.underlying96 hi hz0 hz1 hz2 rfl (by decide) _ _ _ rfl hlit ⟨g, 0, none⟩ 2 cap _ rfl (own_len hown) (hown.cells rfl) ?c2 ?c3 ?c4 ?c5 ?_)
  case c2 => intro u hu; simp at hu; obtain ⟨x, _, rfl⟩ := hu; rfl
  case c3 => decide
  case c4 => decide
  case c5 => have := hbel.size; simp at this; omega
  intro v' w1 hown' hgrow _
  have hcv := cv_own (l := (224 + n / 4096) :: tailL n 2) hown'
  have hb1 : Below w.heap.size w w1 := (((Below.refl _ _).alloc (Nat.le_refl _) _).trans (hbel.mono (by simp))).grown hgrow (by have := hbel.size; simp at this; omega) (fun k hk => by simp [Value.ownBlock] at hk; omega)
  clear hown' hgrow hown hlit hbel
  go_wp2_with fail
  go_ret
  exact ⟨by rw [enc, fin.out]; rfl, hb1⟩
set_option maxRecDepth 100000 in
set_option maxHeartbeats 400000 in
theorem rput4 (n : Int) (h0 : 65536 ≤ n) (h1 : n ≤ 1114111) (w : World) :
    Calls Try.prog 109 #[.int .i64 n] w fun e w' => e = .returned (.string (enc n)) ∧ Below w.heap.size w w' := by
  obtain ⟨i0, hi, hz0, hz1, hz2⟩ := info_parts info5
  have fin := Lib.hid (show encL n = [240 + n / 262144] ++ tailL n 3 by unfold encL; rw [if_neg (by omega), if_neg (by omega), if_neg (by omega), show n / 64 / 64 / 64 = n / 262144 by omega]; rfl)
  go_enter Try.func109, Try.ntmps109
  go_wp2_with fail
  refine (tail_any n (by omega) (by omega) 3 (by omega) _).mono ?_
  rintro e w' ⟨v, rfl, hown, hbel⟩
  obtain ⟨g, cap, rfl, hg⟩ := own_some hown (by omega)
  have hlit := own_lit (w := w) (xs := [.int .u8 (240 + n / 262144)]) (n := 1) 5 rfl (by decide) (by simpa using hbel)
  go_wp2_with (at_builtin; refine wpList_append_own _ rfl _ _ 96 rfl w.heap.size 5 i0 (.int .u8 0) 1 1 Try.underlying96 hi hz0 hz1 hz2 rfl (by decide) _ _ _ rfl hlit ⟨g, 0, none⟩ 3 cap _ rfl (own_len hown) (hown.cells rfl) ?c2 ?c3 ?c4 ?c5 ?_)
  case c2 => intro u hu; simp at hu; obtain ⟨x, _, rfl⟩ := hu; rfl
  case c3 => decide
  case c4 => decide
  case c5 => have := hbel.size; simp at this; omega
  intro v' w1 hown' hgrow _
  have hcv := cv_own (l := (240 + n / 262144) :: tailL n 3) hown'
  have hb1 : Below w.heap.size w w1 := (((Below.refl _ _).alloc (Nat.le_refl _) _).trans (hbel.mono (by simp))).grown hgrow (by have := hbel.size; simp at this; omega) (fun k hk => by simp [Value.ownBlock] at hk; omega)
  clear hown' hgrow hown hlit hbel
  go_wp2_with fail
  go_ret
  exact ⟨by rw [enc, fin.out]; rfl, hb1⟩
set_option maxRecDepth 100000 in
set_option maxHeartbeats 400000 in
theorem rput1 (n : Int) (h0 : 0 ≤ n) (h1 : n < 128) (w : World) :
    Calls Try.prog 109 #[.int .i64 n] w fun e w' => e = .returned (.string (enc n)) ∧ Below w.heap.size w w' := by
  have hcv := fun (w : World) (a : Int) => cv_bytes [a] 1 rfl w
  simp only [List.map] at hcv
  have fin := Lib.hid (show encL n = [n] by unfold encL; rw [if_pos (by omega)])
  go_enter Try.func109, Try.ntmps109
  go_wp2_with fail
  go_ret
  exact ⟨by rw [enc, fin.out]; rfl, (Below.refl _ _).alloc (Nat.le_refl _) _⟩
/-- the reference's Put -/
theorem rput_any (n : Int) (hr : right n = true) (w : World) :
    Calls Try.prog 109 #[.int .i64 n] w fun e w' => e = .returned (.string (enc n)) ∧ Below w.heap.size w w' := by
  have h : 0 ≤ n ∧ n ≤ 1114111 := by have := of_decide_eq_true hr; omega
  by_cases h1 : n < 128
  · exact rput1 n h.1 h1 w
  · by_cases h2 : n < 2048
    · exact rput2 n (by omega) h2 w
    · by_cases h3 : n < 65536
      · exact rput3 n (by omega) h3 w
      · exact rput4 n (by omega) h.2 w
end Go.Proofs.Ytffgfjnbgplckaa

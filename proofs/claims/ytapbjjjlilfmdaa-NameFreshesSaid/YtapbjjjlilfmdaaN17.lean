import Derived.Test.YtapbjjjlilfmdaaN16
namespace Go.Proofs.Ytapbjjjlilfmdaa
open Go.RowKit Go.WideMaps
/-- what 'Fresh' tells beside at most 300 names -/
theorem fresh_law (s : ByteArray) (hs : s.size ≤ maxLen) (l : List ByteArray) (v : Value) (w : World) (hv : Slc w v (l.map Value.string)) (hsz : ∀ x ∈ l, x.size ≤ maxLen) (h3 : l.length ≤ 300) :
    ∃ N, 1 ≤ N ∧ N ≤ 20 * l.length + 40 ∧ cnt l (numS (stemS s) N) = 0 ∧ (∀ n, 1 ≤ n → n < N → cnt l (numS (stemS s) n) ≠ 0) ∧
      Calls Try.prog 16 #[.string s, v] w fun e w' => e = .returned (.tuple #[.string (freshS s l N), .int .i64 (freshE s l)]) ∧ Below w.heap.size w w' := by
  obtain ⟨N, h1, h2, h4, h5⟩ := fresh_N (stemS s) l h3
  exact ⟨N, h1, h2, h4, h5, fresh_any s hs l v w hv hsz N (fun _ _ _ => ⟨h1, by omega, h4, h5⟩)⟩
set_option maxHeartbeats 1000000 in
theorem fresh_walk (s : ByteArray) (v : Value) (l : List ByteArray) (hs : s.size ≤ maxLen) (hsz : ∀ x ∈ l, x.size ≤ maxLen) (w : World) (hv : Slc w v (l.map Value.string)) :
    Calls Try.prog 5 #[.string s, v] w fun e w' => e = .returned (.bool true) ∧ Below w.heap.size w w' := by
  have hv0 := hv
  obtain ⟨a, cap, rfl, hll, -⟩ := slc_shape hv
  rw [List.length_map] at hv hll hv0 ⊢
  have HV := Lib.hid hv0
  clear hv0 hv
  go_enter Try.func5, Try.ntmps5
  by_cases h3 : (300 : Int) < l.length
  · go_wp2_with fail
    refine (awake_any _).mono ?_
    rintro e w1 ⟨rfl, hb1⟩
    go_wp2_with fail
    go_ret
    exact ⟨rfl, hb1⟩
  · obtain ⟨N, hN1, hN2, hN3, hN4, hC⟩ := fresh_law s hs l _ w HV.out hsz (by omega)
    have HC := Lib.hid hC
    have H4 := Lib.hid hN4
    clear hC hN4
    cases hr : rightN s with
    | false =>
      have hE : freshE s l = 1 := by simp [freshE, hr]
      have hS : freshS s l N = ⟨#[]⟩ := by simp [freshS, hr]
      rw [hE, hS] at HC
      clear hE hS
      go_wp2_with fail
      refine HC.out.mono ?_
      rintro e w1 ⟨rfl, hb1⟩
      clear HC
      go_wp2_with fail
      refine (awake_any _).mono ?_
      rintro e w2 ⟨rfl, hb2⟩
      go_wp2_with fail
      go_ret
      exact ⟨rfl, hb1.trans (hb2.mono hb1.size)⟩
    | true =>
      have hE : freshE s l = 0 := by simp [freshE, hr]; omega
      obtain ⟨x, hx⟩ : ∃ x, x = freshS s l N := ⟨_, rfl⟩
      have hxx : x = if cnt l s = 0 then s else numS (stemS s) N := by
        rw [hx]
        have : ¬ 8192 < l.length := by omega
        simp [freshS, hr, this]
      have hxr : rightN x = true := by
        rw [hxx]
        split
        · exact hr
        · exact numS_right s hr N (by omega)
      have hxc : cnt l x = 0 := by
        rw [hxx]
        split
        · assumption
        · exact hN3
      have hxs : x.size ≤ maxLen := by have := (rightN_ok x hxr).2; unfold maxLen; omega
      have hxp : placeN l x l.length < 0 := (place_cnt l x l.length (Nat.le_refl _)).2 (by rw [List.take_length]; exact hxc)
      have HXR := Lib.hid hxr
      rw [hE, ← hx] at HC
      clear hE hx hxx hxc hxr hN3
      go_wp2_with fail
      refine HC.out.mono ?_
      rintro e w1 ⟨rfl, hb1⟩
      clear HC
      go_wp2_with fail
      refine (rright_name x hxs w1).mono ?_
      rw [HXR.out]
      rintro e w2 ⟨rfl, hb2⟩
      have hw2 := hb1.trans (hb2.mono hb1.size)
      go_wp2_with fail
      refine (rplace_any l x _ w w2 HV.out hw2).mono ?_
      rintro e w3 ⟨rfl, rfl⟩
      go_wp2_with fail
      refine (awake_any _).mono ?_
      rintro e w4 ⟨rfl, hb4⟩
      go_wp2_with fail
      go_ret
      exact ⟨rfl, hw2.trans (hb4.mono hw2.size)⟩
end Go.Proofs.Ytapbjjjlilfmdaa

import Derived.Test.YtapbjjjlilfmdaaN13
namespace Go.Proofs.Ytapbjjjlilfmdaa
open Go.RowKit Go.WideMaps
theorem info9 : (Try.prog.info? 9).map (fun i => (i.zero, i.size, i.bytes)) = some (some (.string ⟨#[]⟩), 1, 16) := by kernel_rfl
theorem cnt_empties (n : Nat) (s : ByteArray) (hs : s.size ≠ 0) : cnt (List.replicate n ⟨#[]⟩) s = 0 := by
  unfold cnt
  rw [List.filter_eq_nil_iff.2]
  · rfl
  · intro x hx
    obtain rfl := (List.mem_replicate.1 hx).2
    intro h
    have h2 := beq_iff_eq.1 h
    rw [ByteArray.toList_eq, ByteArray.toList_eq] at h2
    apply hs
    have : s.data = #[] := Array.toList_inj.mp h2.symm
    show s.data.size = 0
    rw [this]; rfl
theorem rightN_size (s : ByteArray) (h : rightN s = true) : s.size ≠ 0 := by
  unfold rightN at h
  simp only [Bool.and_eq_true, beq_iff_eq, decide_eq_true_eq] at h
  exact h.1.1.1.2.1
theorem make_names (n : Nat) (hn : n ≤ 100000) (w : World) : ∃ (w1 : World) (l : List ByteArray), (Instr.makeSlice 24 (.int .i64 n) (.int .i64 n)).run Try.prog w = .ok (.slice (some ⟨w.heap.size, 0, none⟩) n n) w1 ∧ l.length = n ∧ (∀ x ∈ l, x.size ≤ maxLen) ∧ (∀ s : ByteArray, s.size ≠ 0 → cnt l s = 0) ∧ Slc w1 (.slice (some ⟨w.heap.size, 0, none⟩) n n) (l.map Value.string) ∧ Below w.heap.size w w1 := by
  obtain ⟨i0, hi, hz0, hz1, hz2⟩ := info_parts info9
  obtain ⟨w1, hrun, hown, hg⟩ := run_make_full (P := Try.prog) w w.heap.size 24 9 i0 (.string ⟨#[]⟩) 1 Try.underlying24 hi hz0 hz1 .i64 .i64 n (by rw [hz2]; omega) (by unfold maxLen; omega) (Nat.le_refl _)
  rw [show (Value.string ⟨#[]⟩).cells = #[.string ⟨#[]⟩] from rfl, Nat.mul_one, toList_madeCells_one, ← List.map_replicate] at hown
  exact ⟨w1, List.replicate n ⟨#[]⟩, hrun, List.length_replicate, fun x hx => by rw [(List.mem_replicate.1 hx).2]; exact Nat.zero_le _, cnt_empties n, Slc.own hown, (Below.refl _ _).grown hg (Nat.le_refl _) (fun j hj => by cases hj)⟩
theorem freshE_of (s : ByteArray) (l : List ByteArray) (n : Nat) (h : l.length = n) : (rightN s = false → freshE s l = 1) ∧ (rightN s = true → freshE s l = if 8192 < n then 2 else 0) := by
  unfold freshE
  rw [h]
  constructor
  · intro h; rw [h]; rfl
  · intro h; rw [h]; rfl
set_option maxRecDepth 100000 in
set_option maxHeartbeats 1000000 in
theorem many_walk (s : ByteArray) (more : Int) (hs : s.size ≤ maxLen) (hm : (Lit.int .u8 more).wf = true) (w : World) :
    Calls Try.prog 6 #[.string s, .int .u8 more] w fun e w' => e = .returned (.bool true) ∧ Below w.heap.size w w' := by
  obtain ⟨r, hr2, hr⟩ : ∃ r : Nat, r ≤ 2 ∧ more.tmod 3 = r := by
    have h0 : 0 ≤ more := by simp [Lit.wf, IntKind.min, IntKind.max, IntKind.signed, IntKind.bits] at hm; omega
    refine ⟨(more.tmod 3).toNat, ?_, ?_⟩
    · rw [Int.tmod_eq_emod_of_nonneg h0]; omega
    · rw [Int.tmod_eq_emod_of_nonneg h0]; omega
  clear hm
  have hr3 : r = 0 ∨ r = 1 ∨ r = 2 := by omega
  go_enter Try.func6, Try.ntmps6
  rcases hr3 with rfl | rfl | rfl
  · obtain ⟨w1, l, hrun, hln, hlz, hlc, hS, hb1⟩ := make_names 8192 (by decide) w
    simp at hrun
    have HS := Lib.hid hS
    have HE := Lib.hid (freshE_of s l 8192 hln)
    have hF := Lib.hid (fresh_any s hs l _ w1 HS.out hlz 1 (fun h1 _ h2 => absurd (hlc s (rightN_size s h1)) h2))
    clear hS hlz hlc hln
    go_wp2_with fail
    refine hF.out.mono ?_
    rintro e w2 ⟨rfl, hb2⟩
    have hw2 := Lib.hid (hb1.trans (hb2.mono hb1.size))
    clear hb1 hb2 hrun hF HS
    cases hq : rightN s with
    | false =>
      have HQ := Lib.hid hq
      have hE : freshE s l = 1 := HE.out.1 hq
      clear hq
      rw [hE]
      clear hE
      go_wp2_with fail
      refine (rright_name s hs w2).mono ?_
      rw [HQ.out]
      rintro e w3 ⟨rfl, hb3⟩
      have hw3 := Lib.hid (hw2.out.trans (hb3.mono hw2.out.size))
      clear hb3
      go_wp2_with fail
      refine (awake_any _).mono ?_
      rintro e w4 ⟨rfl, hb4⟩
      go_wp2_with fail
      go_ret
      exact ⟨rfl, hw3.out.trans (hb4.mono hw3.out.size)⟩
    | true =>
      have HQ := Lib.hid hq
      have hE : freshE s l = 0 := HE.out.2 hq
      clear hq
      rw [hE]
      clear hE
      go_wp2_with fail
      refine (rright_name s hs w2).mono ?_
      rw [HQ.out]
      rintro e w3 ⟨rfl, hb3⟩
      have hw3 := Lib.hid (hw2.out.trans (hb3.mono hw2.out.size))
      clear hb3
      go_wp2_with fail
      refine (awake_any _).mono ?_
      rintro e w4 ⟨rfl, hb4⟩
      go_wp2_with fail
      go_ret
      exact ⟨rfl, hw3.out.trans (hb4.mono hw3.out.size)⟩
  · obtain ⟨w1, l, hrun, hln, hlz, hlc, hS, hb1⟩ := make_names 8193 (by decide) w
    simp at hrun
    have HS := Lib.hid hS
    have HE := Lib.hid (freshE_of s l 8193 hln)
    have hF := Lib.hid (fresh_any s hs l _ w1 HS.out hlz 1 (fun h1 _ h2 => absurd (hlc s (rightN_size s h1)) h2))
    clear hS hlz hlc hln
    go_wp2_with fail
    refine hF.out.mono ?_
    rintro e w2 ⟨rfl, hb2⟩
    have hw2 := Lib.hid (hb1.trans (hb2.mono hb1.size))
    clear hb1 hb2 hrun hF HS
    cases hq : rightN s with
    | false =>
      have HQ := Lib.hid hq
      have hE : freshE s l = 1 := HE.out.1 hq
      clear hq
      rw [hE]
      clear hE
      go_wp2_with fail
      refine (rright_name s hs w2).mono ?_
      rw [HQ.out]
      rintro e w3 ⟨rfl, hb3⟩
      have hw3 := Lib.hid (hw2.out.trans (hb3.mono hw2.out.size))
      clear hb3
      go_wp2_with fail
      refine (awake_any _).mono ?_
      rintro e w4 ⟨rfl, hb4⟩
      go_wp2_with fail
      go_ret
      exact ⟨rfl, hw3.out.trans (hb4.mono hw3.out.size)⟩
    | true =>
      have HQ := Lib.hid hq
      have hE : freshE s l = 2 := HE.out.2 hq
      clear hq
      rw [hE]
      clear hE
      go_wp2_with fail
      refine (rright_name s hs w2).mono ?_
      rw [HQ.out]
      rintro e w3 ⟨rfl, hb3⟩
      have hw3 := Lib.hid (hw2.out.trans (hb3.mono hw2.out.size))
      clear hb3
      go_wp2_with fail
      refine (awake_any _).mono ?_
      rintro e w4 ⟨rfl, hb4⟩
      go_wp2_with fail
      go_ret
      exact ⟨rfl, hw3.out.trans (hb4.mono hw3.out.size)⟩
  · obtain ⟨w1, l, hrun, hln, hlz, hlc, hS, hb1⟩ := make_names 8194 (by decide) w
    simp at hrun
    have HS := Lib.hid hS
    have HE := Lib.hid (freshE_of s l 8194 hln)
    have hF := Lib.hid (fresh_any s hs l _ w1 HS.out hlz 1 (fun h1 _ h2 => absurd (hlc s (rightN_size s h1)) h2))
    clear hS hlz hlc hln
    go_wp2_with fail
    refine hF.out.mono ?_
    rintro e w2 ⟨rfl, hb2⟩
    have hw2 := Lib.hid (hb1.trans (hb2.mono hb1.size))
    clear hb1 hb2 hrun hF HS
    cases hq : rightN s with
    | false =>
      have HQ := Lib.hid hq
      have hE : freshE s l = 1 := HE.out.1 hq
      clear hq
      rw [hE]
      clear hE
      go_wp2_with fail
      refine (rright_name s hs w2).mono ?_
      rw [HQ.out]
      rintro e w3 ⟨rfl, hb3⟩
      have hw3 := Lib.hid (hw2.out.trans (hb3.mono hw2.out.size))
      clear hb3
      go_wp2_with fail
      refine (awake_any _).mono ?_
      rintro e w4 ⟨rfl, hb4⟩
      go_wp2_with fail
      go_ret
      exact ⟨rfl, hw3.out.trans (hb4.mono hw3.out.size)⟩
    | true =>
      have HQ := Lib.hid hq
      have hE : freshE s l = 2 := HE.out.2 hq
      clear hq
      rw [hE]
      clear hE
      go_wp2_with fail
      refine (rright_name s hs w2).mono ?_
      rw [HQ.out]
      rintro e w3 ⟨rfl, hb3⟩
      have hw3 := Lib.hid (hw2.out.trans (hb3.mono hw2.out.size))
      clear hb3
      go_wp2_with fail
      refine (awake_any _).mono ?_
      rintro e w4 ⟨rfl, hb4⟩
      go_wp2_with fail
      go_ret
      exact ⟨rfl, hw3.out.trans (hb4.mono hw3.out.size)⟩
end Go.Proofs.Ytapbjjjlilfmdaa

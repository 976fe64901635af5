import Derived.Test.YtahhgpafjiljfaaOT2
set_option linter.unusedSimpArgs false
set_option linter.unusedVariables false
set_option maxHeartbeats 16000000
set_option maxRecDepth 100000
namespace Go.Proofs.Ytahhgpafjiljfaa
open Go.RowKit
theorem num2_yes {n : Int} (h : 0 ≤ n) : decide (n ≤ 7) = numB 2 n := by unfold numB; rw [if_pos rfl]; exact decide_eq_decide.2 (by omega)
theorem num2_no {n : Int} (h : n < 0) : false = numB 2 n := by unfold numB; rw [if_pos rfl]; exact (decide_eq_false (by omega)).symm
theorem hd_no1 {m nm n : Bool} (h : m = false) : false = (m && nm && n) := by subst h; rfl
theorem hd_no2 {m nm n : Bool} (h : (!nm) = true) : false = (m && nm && n) := by cases nm <;> simp_all
theorem hd_yes {m nm n v : Bool} (h1 : m = true) (h2 : (!nm) = false) (h3 : v = n) : v = (m && nm && n) := by cases nm <;> simp_all
theorem head_any (t : Nd) (cs : List Value) (w : World) (ht : NdC w t cs) : Calls Try.prog 106 #[.agg cs.toArray] w fun e w' => e = .returned (.bool (Qfn t)) ∧ Below w.heap.size w w' := by
  by_cases hk : 1 ≤ t.kind ∧ t.kind ≤ 10
  · obtain ⟨a, cap, rfl, hsub, hlen, hns⟩ := Qev ht
    have hd : Below w.heap.size w (w.alloc (.cells #[.int .i64 t.kind, .int .i64 t.at, .string t.name, .int .i64 t.num, .slice a t.sub.length cap] 31)) := (Below.refl _ _).alloc (Nat.le_refl _) _
    have NA := Lib.hid (named_any t _ _ hk (ht.later hd))
    have HB : Hid (Qfn t = (Qbs t.kind t.sub.length && Qch t.kind t.name && numB t.kind t.num)) := by show _ = _; unfold Qfn; rw [decide_eq_true hk]; rfl
    generalize Qfn t = hb0 at *
    clear hsub ht hd
    generalize hnm : Qch t.kind t.name = nm at *
    clear hnm
    generalize t.kind = kk at *
    generalize t.name = ss at *
    generalize t.at = aa at *
    generalize t.num = nn at *
    generalize t.sub.length = len at *
    rcases (show len = 0 ∨ (0 < len ∧ ((len : Int) == 0) = false) by by_cases h : len = 0 <;> simp [h] <;> omega) with rfl | ⟨hl0, hl8⟩
    all_goals
     obtain ⟨rfl, ar⟩ | ⟨rfl, ar⟩ | ⟨rfl, ar⟩ | ⟨rfl, ar⟩ | ⟨rfl, ar⟩ | ⟨rfl, ar⟩ | ⟨rfl, ar⟩ | ⟨rfl, ar⟩ | ⟨rfl, ar⟩ | ⟨rfl, ar⟩ := kinds kk hk
     all_goals
      clear hk
      go_enter Try.func106, Try.ntmps106
      go_wp2_with (first | (go_at_call 109; refine (arity_any _ _).mono ?_; rintro e w1 ⟨rfl, rfl⟩) | (go_at_call 110; refine NA.out.mono ?_; rintro e w1 ⟨rfl, hb⟩; obtain ⟨c0, c1, c2, c3, c4⟩ := Qhh (by simpa using hb)))
      all_goals
        go_ret
        first
          | exact ⟨Qae (by rw [HB.out]; exact hd_no2 (by assumption)), ((Below.refl _ _).alloc (Nat.le_refl _) _).trans (hb.mono (by simp))⟩
          | exact ⟨Qae (by rw [HB.out]; exact hd_no1 (by simp [Qbs] <;> omega)), (Below.refl _ _).alloc (Nat.le_refl _) _⟩
          | exact ⟨Qae (by rw [HB.out]; exact hd_yes (by simp [Qbs] <;> omega) (by assumption) (num2_yes (by omega))), ((Below.refl _ _).alloc (Nat.le_refl _) _).trans (hb.mono (by simp))⟩
          | exact ⟨Qae (by rw [HB.out]; exact hd_yes (by simp [Qbs] <;> omega) (by assumption) (num2_no (by omega))), ((Below.refl _ _).alloc (Nat.le_refl _) _).trans (hb.mono (by simp))⟩
          | exact ⟨Qae (by rw [HB.out]; exact hd_yes (by simp [Qbs] <;> omega) (by assumption) (by simp [numB])), ((Below.refl _ _).alloc (Nat.le_refl _) _).trans (hb.mono (by simp))⟩
  · have fin := Lib.hid (headB_out hk)
    obtain ⟨a, cap, rfl, hsub, hlen, hns⟩ := Qev ht
    have ar : arT t.kind = -2 := by unfold arT; exact if_pos (by omega)
    clear hsub ht hk
    generalize Qfn t = hb0 at *
    generalize t.kind = kk at *
    go_enter Try.func106, Try.ntmps106
    go_wp2_with ((go_at_call 109; refine (arity_any _ _).mono ?_; rintro e w1 ⟨rfl, rfl⟩))
    go_ret
    exact ⟨Qae fin.out.symm, (Below.refl _ _).alloc (Nat.le_refl _) _⟩
end Go.Proofs.Ytahhgpafjiljfaa

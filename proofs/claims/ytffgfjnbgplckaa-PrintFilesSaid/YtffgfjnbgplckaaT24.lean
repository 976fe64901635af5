import Derived.Test.YtffgfjnbgplckaaT23
namespace Go.Proofs.Ytffgfjnbgplckaa
open Go.RowKit
set_option maxRecDepth 100000 in
set_option maxHeartbeats 4000000 in
theorem rbinds_any (S : Nat → Prop) (l : List Bd) (v : Value) (most : Int) (w : World) (hm : 0 ≤ most) (hv : RepS S w v l) : Calls Try.prog 63 #[v, .int .i64 most] w fun e w' => e = .returned (.bool (bindsB l most)) ∧ Below w.heap.size w w' := by
  obtain ⟨a, cap, rfl, h1, h2⟩ := hv.shape
  have hl : l.length ≤ 9223372036854775807 := by unfold maxLen at h2; omega
  have HV := Lib.hid hv
  have HRES : Hid (bindsB l most = (decide ((l.length : Int) ≤ most) && l.all bindB)) := rfl
  generalize bindsB l most = res at *
  clear hv h1 h2
  by_cases hgt0 : most < (l.length : Int)
  · have fin : Hid (res = false) := by show _ = _; rw [HRES.out, decide_eq_false (by omega)]; rfl
    go_enter Try.func63, Try.ntmps63
    go_wp2_with fail
    go_ret
    exact ⟨ret_bool fin.out.symm, Below.refl _ _⟩
  go_enter Try.func63, Try.ntmps63
  go_wp2_with fail
  go_loopw [5] (fun i wr => ∃ (k : Nat) (x : Later w), k ≤ l.length ∧ i = .int .i64 k ∧ wr = x.w ∧ Hid ((l.take k).all bindB = true) ∧ Hid (0 < k → (l.length : Int) ≤ most)) (fun i _ => l.length - (intOf i).toNat)
  case atStart => exact ⟨0, ⟨w, Below.refl _ _⟩, Nat.zero_le _, rfl, rfl, rfl, fun h => absurd h (Nat.lt_irrefl _)⟩
  case round =>
    obtain ⟨k, x, hk, rfl, rfl, HA, HM⟩ := hrel
    by_cases hlt : k < l.length
    · obtain ⟨b, off, a', n', c', rfl, e0, e1, e2, e3, e4, e5, e6, hns, hty⟩ := bd_at (HV.out.later x.b) k hlt
      have hno : (decide ((l.length : Int) ≤ most) && bindB l[k]) = false → res = false := fun h => by
        rw [HRES.out]
        cases hd : decide ((l.length : Int) ≤ most) with
        | false => rfl
        | true => rw [hd, Bool.true_and] at h; rw [all_false_g k hlt h]; rfl
      have NO := Lib.hid hno
      have CR : Hid (∀ y : Later x.w, Calls Try.prog 62 #[.string l[k].name] y.w fun e w'' => e = .returned (.bool (rightN l[k].name)) ∧ ∃ z : Later x.w, w'' = z.w) := fun y => Calls.later y (rright_name _ hns _)
      have CE : Hid (∀ y : Later x.w, Calls Try.prog 20 #[.agg #[.int .i64 l[k].ty.kind, .int .i64 l[k].ty.at, .string l[k].ty.name, .int .i64 l[k].ty.num, .slice a' n' c']] y.w fun e w'' => e = .returned (.bool (exprB l[k].ty)) ∧ ∃ z : Later x.w, w'' = z.w) := fun y => Calls.later y (rexpr_any _ _ _ (Rep.toC _ _ (hty.later y.b)))
      have g0 := Later.cell e0
      have g2 := Later.cell e2
      have g3 := Later.cell e3
      have g4 := Later.cell e4
      have g5 := Later.cell e5
      have g6 := Later.cell e6
      have hb0 : (0 : Int) ≤ k := by omega
      have hb1 : (k : Int) < l.length := by omega
      have hstep := all_take_g bindB l k hlt
      rw [HA.out, Bool.true_and] at hstep
      have FIN : Hid (∀ y : Later x.w, Below w.heap.size w y.w) := fun y => x.b.trans (y.b.mono x.b.size)
      have Y0 : Hid (Below x.w.heap.size x.w x.w) := Below.refl _ _
      have BD : Hid (bindB l[k] = (rightN l[k].name && exprB l[k].ty)) := rfl
      have HS := Lib.hid hstep
      clear hty hno hstep
      generalize bindB l[k] = bb at *
      generalize rightN l[k].name = br at *
      generalize exprB l[k].ty = be at *
      rcases (show most < (l.length : Int) ∨ ((l.length : Int) ≤ most ∧ br = false) ∨ ((l.length : Int) ≤ most ∧ br = true ∧ be = false) ∨ ((l.length : Int) ≤ most ∧ br = true ∧ be = true) by
        by_cases h : most < (l.length : Int)
        · exact .inl h
        · cases br
          · exact .inr (.inl ⟨by omega, rfl⟩)
          · cases be
            · exact .inr (.inr (.inl ⟨by omega, rfl, rfl⟩))
            · exact .inr (.inr (.inr ⟨by omega, rfl, rfl⟩))) with hgt | ⟨hle, rfl⟩ | ⟨hle, rfl, rfl⟩ | ⟨hle, rfl, rfl⟩
      · exact absurd hgt (by omega)
      · have fin := Lib.hid (NO.out (by rw [BD.out]; simp))
        go_wp2_with fail
        refine (CR.out ⟨_, Y0.out⟩).mono ?_
        rintro e w2 ⟨rfl, ⟨y2, rfl⟩⟩
        go_wp2_with fail
        go_ret
        exact ⟨ret_bool fin.out.symm, FIN.out y2⟩
      · have fin := Lib.hid (NO.out (by rw [BD.out]; simp))
        go_wp2_with fail
        refine (CR.out ⟨_, Y0.out⟩).mono ?_
        rintro e w2 ⟨rfl, ⟨y2, rfl⟩⟩
        go_wp2_with fail
        refine (CE.out y2).mono ?_
        rintro e w3 ⟨rfl, ⟨y3, rfl⟩⟩
        go_wp2_with fail
        go_ret
        exact ⟨ret_bool fin.out.symm, FIN.out y3⟩
      · have HA2 : Hid ((l.take (k + 1)).all bindB = true) := by show _ = _; rw [HS.out, BD.out]; rfl
        have HLE := Lib.hid hle
        go_wp2_with fail
        refine (CR.out ⟨_, Y0.out⟩).mono ?_
        rintro e w2 ⟨rfl, ⟨y2, rfl⟩⟩
        go_wp2_with fail
        refine (CE.out y2).mono ?_
        rintro e w3 ⟨rfl, ⟨y3, rfl⟩⟩
        go_wp2_with fail
        go_roundw
        case rel => exact ⟨k + 1, ⟨_, FIN.out y3⟩, by omega, by go_num, rfl, HA2, Lib.hid (show 0 < k + 1 → (l.length : Int) ≤ most from fun _ => HLE.out)⟩
        case measure => simp [intOf]; omega
    · obtain rfl : k = l.length := by omega
      rw [List.take_length] at HA
      have fin : Hid (res = true) := by
        show _ = _
        rw [HRES.out, HA.out, Bool.and_true]
        refine decide_eq_true ?_
        by_cases h0 : 0 < l.length
        · exact HM.out h0
        · omega
      have HX := Lib.hid x.b
      go_wp2_with fail
      go_ret
      exact ⟨ret_bool fin.out.symm, HX.out⟩
end Go.Proofs.Ytffgfjnbgplckaa

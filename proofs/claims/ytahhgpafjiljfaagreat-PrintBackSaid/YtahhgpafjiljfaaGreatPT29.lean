import Derived.Test.YtahhgpafjiljfaaGreatPT27
set_option linter.unusedSimpArgs false
set_option linter.unusedVariables false
set_option maxHeartbeats 16000000
set_option maxRecDepth 100000
namespace Go.Proofs.YtahhgpafjiljfaaGreat
open Go.RowKit
def eqA {α : Type} (p : α → α → Bool) : List α → List α → Bool
 | [], [] => true
 | a :: l, b :: m => p a b && eqA p l m
 | _, _ => false
theorem eqA_len {α : Type} {p : α → α → Bool} : ∀ {l m : List α}, l.length ≠ m.length → eqA p l m = false
  | [], [], h => absurd rfl h
  | [], _ :: _, _ => rfl
  | _ :: _, [], _ => rfl
  | a :: l, b :: m, h => by
    simp only [eqA]
    rw [eqA_len (by simpa using h)]; simp
def Qbz (a b : Bd) : Bool := (a.name.toList == b.name.toList) && Qbv a.ty b.ty
theorem Qlv (S S' : Nat → Prop) (l m : List Bd) (v u : Value) (w : World) (hv : RepS S w v l) (hu : RepS S' w u m) : Calls Tryz.prog 45 #[v, u] w fun e w' => e = .returned (.bool (eqA Qbz l m)) ∧ Below w.heap.size w w' := by
  obtain ⟨a, cap, rfl, h1, h2⟩ := hv.shape
  obtain ⟨a2, cap2, rfl, h3, h4⟩ := hu.shape
  have hl : l.length ≤ 9223372036854775807 := by unfold maxLen at h2; omega
  have hm : m.length ≤ 9223372036854775807 := by unfold maxLen at h4; omega
  have HV := Lib.hid hv
  have HU := Lib.hid hu
  have HRES : Hid (eqA Qbz l m = eqA Qbz l m) := rfl
  clear hv hu h1 h2 h3 h4
  by_cases hlen : (l.length : Int) = m.length
  rotate_left
  · have fin : Hid (eqA Qbz l m = false) := eqA_len (by omega)
    go_enter Tryz.func45, Tryz.ntmps45
    go_wp2_with fail
    go_ret
    exact ⟨Qab fin.out.symm, Below.refl _ _⟩
  have b0 : ((l.length : Int) != m.length) = false := by rw [hlen]; simp
  have HLEN : Hid (l.length = m.length) := by show _ = _; omega
  clear hlen
  obtain ⟨res, HR⟩ : ∃ r, Hid (eqA Qbz l m = r) := ⟨_, rfl⟩
  rw [HR.out]
  go_enter Tryz.func45, Tryz.ntmps45
  go_wp2_with fail
  go_loopw [13] (fun i wr => ∃ (k : Nat) (x : Later w), k ≤ l.length ∧ i = .int .i64 k ∧ wr = x.w ∧ Hid (eqA Qbz (l.drop k) (m.drop k) = res)) (fun i _ => l.length - (intOf i).toNat)
  case atStart => exact ⟨0, ⟨w, Below.refl _ _⟩, Nat.zero_le _, rfl, rfl, HR.out⟩
  case round =>
    obtain ⟨k, x, hk, rfl, rfl, HG⟩ := hrel
    by_cases hlt : k < l.length
    · have hlt2 : k < m.length := by have := HLEN.out; omega
      obtain ⟨b, off, p0, p1, p2, rfl, e0, -, e2, e3, e4, e5, e6, hns, hty⟩ := bd_at (HV.out.later x.b) k hlt
      obtain ⟨b', off', q0, q1, q2, rfl, f0, -, f2, f3, f4, f5, f6, hns2, hty2⟩ := bd_at (HU.out.later x.b) k hlt2
      have hb0 : (0 : Int) ≤ k := by omega
      have hb1 : (k : Int) < l.length := by omega
      have hb2 : (k : Int) < m.length := by omega
      have hstep : eqA Qbz (l.drop k) (m.drop k) = (Qbz l[k] m[k] && eqA Qbz (l.drop (k + 1)) (m.drop (k + 1))) := by
        rw [List.drop_eq_getElem_cons hlt, List.drop_eq_getElem_cons hlt2]; rfl
      have CS : Hid (∀ y : Later x.w, Calls Tryz.prog 14 #[.agg #[.int .i64 l[k].ty.kind, .int .i64 l[k].ty.at, .string l[k].ty.name, .int .i64 l[k].ty.num, .slice p0 p1 p2], .agg #[.int .i64 m[k].ty.kind, .int .i64 m[k].ty.at, .string m[k].ty.name, .int .i64 m[k].ty.num, .slice q0 q1 q2]] y.w fun e w'' => e = .returned (.bool (Qbv l[k].ty m[k].ty)) ∧ ∃ z : Later x.w, w'' = z.w) := fun y => Calls.later y (Qjv _ _ _ _ _ (Rep.toC _ _ (hty.later y.b)) (Rep.toC _ _ (hty2.later y.b)))
      have BE : Hid (Qbz l[k] m[k] = ((l[k].name.toList == m[k].name.toList) && Qbv l[k].ty m[k].ty)) := rfl
      have HX : Hid (∀ y : Later x.w, Below w.heap.size w y.w) := fun y => x.b.trans (y.b.mono x.b.size)
      have HG2 : Hid ((Qbz l[k] m[k] && eqA Qbz (l.drop (k + 1)) (m.drop (k + 1))) = res) := by show _ = _; rw [← hstep]; exact HG.out
      have E0 := Later.cell e0
      have E2 := Later.cell e2
      have E3 := Later.cell e3
      have E4 := Later.cell e4
      have E5 := Later.cell e5
      have E6 := Later.cell e6
      have F0 := Later.cell f0
      have F2 := Later.cell f2
      have F3 := Later.cell f3
      have F4 := Later.cell f4
      have F5 := Later.cell f5
      have F6 := Later.cell f6
      have X0 : Hid (Below x.w.heap.size x.w x.w.drew) := (Below.refl _ _).drew
      clear hstep HG hty hty2 e0 e2 e3 e4 e5 e6 f0 f2 f3 f4 f5 f6
      generalize Qbz l[k] m[k] = bb at *
      generalize Qbv l[k].ty m[k].ty = bs at *
      cases hn : (l[k].name.toList == m[k].name.toList) with
      | false =>
        have n2 : (l[k].name.toList != m[k].name.toList) = true := by unfold bne; rw [hn]; rfl
        have fin : Hid (res = false) := by show _ = _; rw [← HG2.out, BE.out, hn]; rfl
        clear BE HG2
        go_wp2_with fail
        refine Qcw (X := Later x.w) Later.w (by kernel_rfl) (by kernel_rfl) ⟨_, X0.out⟩ rfl ?_
        repeat (go_big_quiet_step ((with_reducible exact CS.out _)))
        refine wpQuiet_nil ?_
        intro y
        go_wp2_with fail
        go_ret
        exact ⟨Qab fin.out.symm, HX.out y⟩
      | true =>
        have n2 : (l[k].name.toList != m[k].name.toList) = false := by unfold bne; rw [hn]; rfl
        have BE2 : Hid (bb = bs) := by show _ = _; rw [BE.out, hn]; rfl
        cases bs with
        | false =>
          have fin : Hid (res = false) := by show _ = _; rw [← HG2.out, BE2.out]; rfl
          clear BE HG2
          go_wp2_with fail
          refine Qcw (X := Later x.w) Later.w (by kernel_rfl) (by kernel_rfl) ⟨_, X0.out⟩ rfl ?_
          repeat (go_big_quiet_step ((with_reducible exact CS.out _)))
          refine wpQuiet_nil ?_
          intro y
          go_wp2_with fail
          go_ret
          exact ⟨Qab fin.out.symm, HX.out y⟩
        | true =>
          have HG3 : Hid (eqA Qbz (l.drop (k + 1)) (m.drop (k + 1)) = res) := by show _ = _; rw [← HG2.out, BE2.out]; rfl
          clear BE HG2
          go_wp2_with fail
          refine Qcw (X := Later x.w) Later.w (by kernel_rfl) (by kernel_rfl) ⟨_, X0.out⟩ rfl ?_
          repeat (go_big_quiet_step ((with_reducible exact CS.out _)))
          refine wpQuiet_nil ?_
          intro y
          go_wp2_with fail
          go_roundw
          case rel => exact ⟨k + 1, ⟨_, HX.out y⟩, by omega, by go_num, rfl, HG3⟩
          case measure => simp [intOf]; omega
    · have fin : Hid (res = true) := by
        have := HG.out
        rw [List.drop_of_length_le (by omega), List.drop_of_length_le (by have := HLEN.out; omega)] at this
        show _ = _; rw [← this]; rfl
      have HX := Lib.hid x.b
      go_wp2_with fail
      go_ret
      exact ⟨Qab fin.out.symm, HX.out⟩
end Go.Proofs.YtahhgpafjiljfaaGreat

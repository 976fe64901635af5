import Derived.Test.YtffgfjnbgplckaaUtf8
namespace Go.Proofs.Ytffgfjnbgplckaa
open Go.RowKit
/-- the signs from a place on, the place where it ends, whether that is the text's end -/
def allF (s : ByteArray) : Nat → Nat → List Int × Nat × Bool
  | 0, k => ([], k, true)
  | f + 1, k => if k < s.size then (match decAt s k with
      | some x => (x.1 :: (allF s f (k + x.2.toNat)).1, (allF s f (k + x.2.toNat)).2)
      | none => ([], k, false)) else ([], k, true)
def addP (l : List Int) (r : List Int × Nat × Bool) : List Int × Nat × Bool := (l ++ r.1, r.2)
def allA (s : ByteArray) : List Int × Nat × Bool := allF s s.size 0
def allS (s : ByteArray) : List Int := if 65535 < s.size then [] else if (allA s).2.2 = true then (allA s).1 else []
def allAt (s : ByteArray) : Int := if 65535 < s.size then 0 else if (allA s).2.2 = true then s.size else (allA s).2.1
def allE (s : ByteArray) : Int := if 65535 < s.size then 2 else if (allA s).2.2 = true then 0 else 1
theorem allF_end (s : ByteArray) (f k : Nat) (h : s.size ≤ k) : allF s f k = ([], k, true) := by
  cases f with
  | zero => rfl
  | succ f => rw [allF, if_neg (by omega)]
theorem allF_none (s : ByteArray) (f k : Nat) (h : k < s.size) (hf : s.size ≤ k + f) (hd : decAt s k = none) : allF s f k = ([], k, false) := by
  cases f with
  | zero => omega
  | succ f => rw [allF, if_pos h, hd]
theorem allF_some (s : ByteArray) (f k : Nat) (x : Int × Int) (l : List Int) (h : k < s.size) (hf : s.size ≤ k + f) (hd : decAt s k = some x) (hw : 1 ≤ x.2) : ∃ f', s.size ≤ k + x.2.toNat + f' ∧ addP l (allF s f k) = addP (l ++ [x.1]) (allF s f' (k + x.2.toNat)) := by
  cases f with
  | zero => omega
  | succ f =>
    refine ⟨f, by omega, ?_⟩
    rw [allF, if_pos h, hd]
    simp [addP]
/-- what a sign is: its width, and that it lies within the text -/
theorem decAt_bd (s : ByteArray) (k : Nat) (h : k < s.size) (x : Int × Int) (hd : decAt s k = some x) : 1 ≤ x.2 ∧ x.2 ≤ 4 ∧ (k : Int) + x.2 ≤ s.size := by
  rw [decAt_of s k h] at hd
  obtain ⟨hr, hw, r, hl⟩ := dec_some _ _ _ hd
  have h4 := width_le x.1
  have hlen := encN_length x.1 hr
  have := congrArg List.length hl
  rw [List.length_drop, nats_length, List.length_append] at this
  omega
theorem info3 : (Try.prog.info? 3).map (fun i => (i.zero, i.size, i.bytes)) = some (some (.int .i64 0), 1, 8) := by kernel_rfl
set_option maxRecDepth 100000 in
set_option maxHeartbeats 1000000 in
theorem all_any (s : ByteArray) (hs : s.size ≤ maxLen) (w : World) :
    Calls Try.prog 82 #[.string s] w fun e w' => ∃ v, e = .returned (.tuple #[v, .int .i64 (allAt s), .int .i64 (allE s)]) ∧ w'.ownsRow w.heap.size 3 1 v (allS s).length ((allS s).map (Value.int .i64)) ∧ Below w.heap.size w w' := by
  have hs0 := hs
  unfold maxLen at hs
  obtain ⟨i0, hi, hz0, hz1, hz2⟩ := info_parts info3
  by_cases hlong : 65535 < s.size
  · have e1 : allS s = [] := if_pos hlong
    have e2 : allAt s = 0 := if_pos hlong
    have e3 : allE s = 2 := if_pos hlong
    rw [e1, e2, e3]
    go_enter Try.func82, Try.ntmps82
    go_wp2_with fail
    go_ret3
    exact ⟨_, rfl, World.ownsRow_nil _ _ _ _, Below.refl _ _⟩
  · have hshort : s.size ≤ 65535 := by omega
    have E1 := Lib.hid (show allS s = if (allA s).2.2 = true then (allA s).1 else [] from if_neg hlong)
    have E2 := Lib.hid (show allAt s = if (allA s).2.2 = true then (s.size : Int) else (allA s).2.1 from if_neg hlong)
    have E3 := Lib.hid (show allE s = if (allA s).2.2 = true then 0 else 1 from if_neg hlong)
    clear hlong
    go_enter Try.func82, Try.ntmps82
    go_wp2_with fail
    go_loopw [5, 6] (fun v i wr => ∃ k : Nat, k ≤ s.size ∧ i = .int .i64 k ∧ (∃ l : List Int, l.length ≤ k ∧ Hid (∃ f, s.size ≤ k + f ∧ addP l (allF s f k) = allA s) ∧ wr.ownsRow w.heap.size 3 1 v l.length (l.map (Value.int .i64))) ∧ Below w.heap.size w wr)
      (fun _ i _ => s.size - (intOf i).toNat)
    case atStart => exact ⟨0, Nat.zero_le _, rfl, ⟨[], Nat.le_refl _, ⟨s.size, by omega, rfl⟩, World.ownsRow_nil _ _ _ _⟩, Below.refl _ _⟩
    case round =>
      obtain ⟨k, hk, rfl, ⟨l, hlk, HF, hown⟩, hbel⟩ := hrel
      by_cases hlt : k < s.size
      · cases hd : decAt s k with
        | none =>
          have n3 : nextE s k = 1 := by simp only [nextE, hd]
          have HN := Lib.hid (show allA s = (l, k, false) by
            obtain ⟨f, hf, hp⟩ := HF.out
            rw [← hp, allF_none s f k hlt hf hd]; simp [addP])
          clear hd
          go_wp2_with fail
          refine (next_any s hs0 _ _).mono ?_
          rintro e w' ⟨rfl, rfl⟩
          go_wp2_with fail
          go_ret3
          have hA := HN.out
          have x1 : allS s = [] := by rw [E1.out, hA]; rfl
          have x2 : allAt s = k := by rw [E2.out, hA]; rfl
          have x3 : allE s = 1 := by rw [E3.out, hA]; rfl
          rw [x1, x2, x3]
          exact ⟨_, rfl, World.ownsRow_nil _ _ _ _, hbel⟩
        | some x =>
          have n1 : nextN s k = x.1 := by simp only [nextN, hd]
          have n2 : nextW s k = x.2 := by simp only [nextW, hd]
          have n3 : nextE s k = 0 := by simp only [nextE, hd]
          have hbd := decAt_bd s k hlt x hd
          have HF2 := Lib.hid (show ∃ f, s.size ≤ k + x.2.toNat + f ∧ addP (l ++ [x.1]) (allF s f (k + x.2.toNat)) = allA s by
            obtain ⟨f, hf, hp⟩ := HF.out
            obtain ⟨f', hf', hp'⟩ := allF_some s f k x l hlt hf hd hbd.1
            exact ⟨f', hf', hp'.symm.trans hp⟩)
          have hx1 := hbd.1
          have hx2 := hbd.2.1
          have hx3 := hbd.2.2
          clear hd HF hbd
          generalize x.1 = n at *
          generalize x.2 = wd at *
          go_wp2_with fail
          refine (next_any s hs0 _ _).mono ?_
          rintro e w' ⟨rfl, rfl⟩
          have hown2 := hown
          have hbel2 := hbel
          go_wp2_with (at_builtin; refine wpList_app1 [.int .i64 n] rfl _ _ 106 rfl w.heap.size 3 i0 (.int .i64 0) 1 8 Try.underlying106 hi hz0 hz1 hz2 rfl (by decide) _ _ _ hown2 rfl rfl rfl (by intro u hu; simp at hu; subst hu; rfl) (by unfold maxLen; omega) (by omega) hbel2.size ?_)
          intro v' w1 hown' hb1'
          have hb1 := hbel2.trans hb1'
          have hown1 : w1.ownsRow w.heap.size 3 1 v' (l ++ [n]).length ((l ++ [n]).map (Value.int .i64)) := by
            rw [List.map_append, List.length_append]; exact hown'
          have hl2 : (l ++ [n]).length ≤ k + wd.toNat := by simp; omega
          clear hown' hb1' hown hbel hown2 hbel2
          go_wp2_with fail
          go_roundw
          case rel => exact ⟨k + wd.toNat, by omega, by rw [Int.natCast_add, Int.toNat_of_nonneg (by omega)], ⟨l ++ [n], hl2, HF2, hown1⟩, hb1⟩
          case measure => simp [intOf]; omega
      · have HN := Lib.hid (show allA s = (l, k, true) by
          obtain ⟨f, hf, hp⟩ := HF.out
          rw [← hp, allF_end s f k (by omega)]; simp [addP])
        go_wp2_with fail
        go_ret3
        have hA := HN.out
        have x1 : allS s = l := by rw [E1.out, hA]; rfl
        have x2 : allAt s = s.size := by rw [E2.out, hA]; rfl
        have x3 : allE s = 0 := by rw [E3.out, hA]; rfl
        rw [x1, x2, x3]
        exact ⟨_, rfl, hown, hbel⟩
set_option maxRecDepth 100000 in
set_option maxHeartbeats 1000000 in
theorem rall_any (s : ByteArray) (hs : s.size ≤ maxLen) (w : World) :
    Calls Try.prog 86 #[.string s] w fun e w' => ∃ v, e = .returned (.tuple #[v, .int .i64 (allAt s), .int .i64 (allE s)]) ∧ w'.ownsRow w.heap.size 3 1 v (allS s).length ((allS s).map (Value.int .i64)) ∧ Below w.heap.size w w' := by
  have hs0 := hs
  unfold maxLen at hs
  obtain ⟨i0, hi, hz0, hz1, hz2⟩ := info_parts info3
  by_cases hlong : 65535 < s.size
  · have e1 : allS s = [] := if_pos hlong
    have e2 : allAt s = 0 := if_pos hlong
    have e3 : allE s = 2 := if_pos hlong
    rw [e1, e2, e3]
    go_enter Try.func86, Try.ntmps86
    go_wp2_with fail
    go_ret3
    exact ⟨_, rfl, World.ownsRow_nil _ _ _ _, Below.refl _ _⟩
  · have hshort : s.size ≤ 65535 := by omega
    have E1 := Lib.hid (show allS s = if (allA s).2.2 = true then (allA s).1 else [] from if_neg hlong)
    have E2 := Lib.hid (show allAt s = if (allA s).2.2 = true then (s.size : Int) else (allA s).2.1 from if_neg hlong)
    have E3 := Lib.hid (show allE s = if (allA s).2.2 = true then 0 else 1 from if_neg hlong)
    clear hlong
    go_enter Try.func86, Try.ntmps86
    go_wp2_with fail
    go_loopw [5, 6] (fun v i wr => ∃ k : Nat, k ≤ s.size ∧ i = .int .i64 k ∧ (∃ l : List Int, l.length ≤ k ∧ Hid (∃ f, s.size ≤ k + f ∧ addP l (allF s f k) = allA s) ∧ wr.ownsRow w.heap.size 3 1 v l.length (l.map (Value.int .i64))) ∧ Below w.heap.size w wr)
      (fun _ i _ => s.size - (intOf i).toNat)
    case atStart => exact ⟨0, Nat.zero_le _, rfl, ⟨[], Nat.le_refl _, ⟨s.size, by omega, rfl⟩, World.ownsRow_made w #[] 0 (Nat.le_refl _) (Nat.zero_le _) rfl⟩, (Below.refl _ _).alloc (Nat.le_refl _) _⟩
    case round =>
      obtain ⟨k, hk, rfl, ⟨l, hlk, HF, hown⟩, hbel⟩ := hrel
      by_cases hlt : k < s.size
      · cases hd : decAt s k with
        | none =>
          have n3 : nextOk s k = false := by simp only [nextOk, hd]; rfl
          have HN := Lib.hid (show allA s = (l, k, false) by
            obtain ⟨f, hf, hp⟩ := HF.out
            rw [← hp, allF_none s f k hlt hf hd]; simp [addP])
          clear hd
          go_wp2_with fail
          refine (rnext_any s hs0 _ _).mono ?_
          rintro e w' ⟨rfl, hb2⟩
          go_wp2_with fail
          go_ret3
          have hA := HN.out
          have x1 : allS s = [] := by rw [E1.out, hA]; rfl
          have x2 : allAt s = k := by rw [E2.out, hA]; rfl
          have x3 : allE s = 1 := by rw [E3.out, hA]; rfl
          rw [x1, x2, x3]
          exact ⟨_, rfl, World.ownsRow_nil _ _ _ _, hbel.trans (hb2.mono hbel.size)⟩
        | some x =>
          have n1 : nextN s k = x.1 := by simp only [nextN, hd]
          have n2 : nextW s k = x.2 := by simp only [nextW, hd]
          have n3 : nextOk s k = true := by simp only [nextOk, hd]; rfl
          have hbd := decAt_bd s k hlt x hd
          have HF2 := Lib.hid (show ∃ f, s.size ≤ k + x.2.toNat + f ∧ addP (l ++ [x.1]) (allF s f (k + x.2.toNat)) = allA s by
            obtain ⟨f, hf, hp⟩ := HF.out
            obtain ⟨f', hf', hp'⟩ := allF_some s f k x l hlt hf hd hbd.1
            exact ⟨f', hf', hp'.symm.trans hp⟩)
          have hx1 := hbd.1
          have hx2 := hbd.2.1
          have hx3 := hbd.2.2
          clear hd HF hbd
          generalize x.1 = n at *
          generalize x.2 = wd at *
          go_wp2_with fail
          refine (rnext_any s hs0 _ _).mono ?_
          rintro e w' ⟨rfl, hb2⟩
          have hown2 := own_later hown hb2
          have hbel2 := hbel.trans (hb2.mono hbel.size)
          go_wp2_with (at_builtin; refine wpList_app1 [.int .i64 n] rfl _ _ 106 rfl w.heap.size 3 i0 (.int .i64 0) 1 8 Try.underlying106 hi hz0 hz1 hz2 rfl (by decide) _ _ _ hown2 rfl rfl rfl (by intro u hu; simp at hu; subst hu; rfl) (by unfold maxLen; omega) (by omega) hbel2.size ?_)
          intro v' w1 hown' hb1'
          have hb1 := hbel2.trans hb1'
          have hown1 : w1.ownsRow w.heap.size 3 1 v' (l ++ [n]).length ((l ++ [n]).map (Value.int .i64)) := by
            rw [List.map_append, List.length_append]; exact hown'
          have hl2 : (l ++ [n]).length ≤ k + wd.toNat := by simp; omega
          clear hown' hb1' hown hbel hown2 hbel2
          go_wp2_with fail
          go_roundw
          case rel => exact ⟨k + wd.toNat, by omega, by rw [Int.natCast_add, Int.toNat_of_nonneg (by omega)], ⟨l ++ [n], hl2, HF2, hown1⟩, hb1⟩
          case measure => simp [intOf]; omega
      · have HN := Lib.hid (show allA s = (l, k, true) by
          obtain ⟨f, hf, hp⟩ := HF.out
          rw [← hp, allF_end s f k (by omega)]; simp [addP])
        go_wp2_with fail
        go_ret3
        have hA := HN.out
        have x1 : allS s = l := by rw [E1.out, hA]; rfl
        have x2 : allAt s = s.size := by rw [E2.out, hA]; rfl
        have x3 : allE s = 0 := by rw [E3.out, hA]; rfl
        rw [x1, x2, x3]
        exact ⟨_, rfl, hown, hbel⟩
end Go.Proofs.Ytffgfjnbgplckaa

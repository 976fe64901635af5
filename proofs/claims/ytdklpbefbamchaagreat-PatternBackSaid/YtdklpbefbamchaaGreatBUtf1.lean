import Derived.Test.YtdklpbefbamchaaGreatBUtf
import Derived.Lib.AppendStr
import Derived.Lib.ConvBytes
set_option linter.unusedSimpArgs false
set_option linter.unusedVariables false
set_option maxHeartbeats 16000000
set_option maxRecDepth 100000
namespace Go.Proofs.YtdklpbefbamchaaGreat
open Go.RowKit
def allF (s : ByteArray) : Nat → Nat → List Int × Nat × Bool
 | 0, k => ([], k, true)
 | f + 1, k => if k < s.size then (match Qcf s k with
   | some x => (x.1 :: (allF s f (k + x.2.toNat)).1, (allF s f (k + x.2.toNat)).2)
   | none => ([], k, false)) else ([], k, true)
def addP (l : List Int) (r : List Int × Nat × Bool) : List Int × Nat × Bool := (l ++ r.1, r.2)
def allA (s : ByteArray) : List Int × Nat × Bool := allF s s.size 0
def allS (s : ByteArray) : List Int := if 65535 < s.size then [] else if (allA s).2.2 = true then (allA s).1 else []
def Qfh (s : ByteArray) : Int := if 65535 < s.size then 0 else if (allA s).2.2 = true then s.size else (allA s).2.1
def allE (s : ByteArray) : Int := if 65535 < s.size then 2 else if (allA s).2.2 = true then 0 else 1
theorem allF_end (s : ByteArray) (f k : Nat) (h : s.size ≤ k) : allF s f k = ([], k, true) := by
 cases f with
 | zero => rfl
 | succ f => rw [allF, if_neg (by omega)]
theorem allF_none (s : ByteArray) (f k : Nat) (h : k < s.size) (hf : s.size ≤ k + f) (hd : Qcf s k = none) : allF s f k = ([], k, false) := by
 cases f with
 | zero => omega
 | succ f => rw [allF, if_pos h, hd]
theorem allF_some (s : ByteArray) (f k : Nat) (x : Int × Int) (l : List Int) (h : k < s.size) (hf : s.size ≤ k + f) (hd : Qcf s k = some x) (hw : 1 ≤ x.2) : ∃ f', s.size ≤ k + x.2.toNat + f' ∧ addP l (allF s f k) = addP (l ++ [x.1]) (allF s f' (k + x.2.toNat)) := by
  cases f with
  | zero => omega
  | succ f =>
    refine ⟨f, by omega, ?_⟩
    rw [allF, if_pos h, hd]
    simp [addP]
theorem decAt_bd (s : ByteArray) (k : Nat) (h : k < s.size) (x : Int × Int) (hd : Qcf s k = some x) : 1 ≤ x.2 ∧ x.2 ≤ 4 ∧ (k : Int) + x.2 ≤ s.size := by
 rw [Qiq s k h] at hd
 obtain ⟨hr, hw, r, hl⟩ := dec_some _ _ _ hd
 have h4 := width_le x.1
 have hlen := Qfc x.1 hr
 have := congrArg List.length hl
 rw [List.length_drop, Qcx, List.length_append] at this
 omega
theorem info3 : (Tryz.prog.info? 3).map (fun i => (i.zero, i.size, i.bytes)) = some (some (.int .i64 0), 1, 8) := by kernel_rfl
theorem all_any (s : ByteArray) (hs : s.size ≤ maxLen) (w : World) :
    Calls Tryz.prog 218 #[.string s] w fun e w' => ∃ v, e = .returned (.tuple #[v, .int .i64 (Qfh s), .int .i64 (allE s)]) ∧ w'.ownsRow w.heap.size 3 1 v (allS s).length ((allS s).map (Value.int .i64)) ∧ Below w.heap.size w w' := by
  have hs0 := hs
  unfold maxLen at hs
  obtain ⟨i0, hi, hz0, hz1, hz2⟩ := info_parts info3
  by_cases hlong : 65535 < s.size
  · have e1 : allS s = [] := if_pos hlong
    have e2 : Qfh s = 0 := if_pos hlong
    have e3 : allE s = 2 := if_pos hlong
    rw [e1, e2, e3]
    go_enter Tryz.func218, Tryz.ntmps218
    go_wp2_with fail
    go_ret3
    exact ⟨_, rfl, World.ownsRow_nil _ _ _ _, Below.refl _ _⟩
  · have hshort : s.size ≤ 65535 := by omega
    have E1 := Lib.hid (show allS s = if (allA s).2.2 = true then (allA s).1 else [] from if_neg hlong)
    have E2 := Lib.hid (show Qfh s = if (allA s).2.2 = true then (s.size : Int) else (allA s).2.1 from if_neg hlong)
    have E3 := Lib.hid (show allE s = if (allA s).2.2 = true then 0 else 1 from if_neg hlong)
    clear hlong
    go_enter Tryz.func218, Tryz.ntmps218
    go_wp2_with fail
    go_loopw [5, 6] (fun v i wr => ∃ k : Nat, k ≤ s.size ∧ i = .int .i64 k ∧ (∃ l : List Int, l.length ≤ k ∧ Hid (∃ f, s.size ≤ k + f ∧ addP l (allF s f k) = allA s) ∧ wr.ownsRow w.heap.size 3 1 v l.length (l.map (Value.int .i64))) ∧ Below w.heap.size w wr)
      (fun _ i _ => s.size - (intOf i).toNat)
    case atStart => exact ⟨0, Nat.zero_le _, rfl, ⟨[], Nat.le_refl _, ⟨s.size, by omega, rfl⟩, World.ownsRow_nil _ _ _ _⟩, Below.refl _ _⟩
    case round =>
      obtain ⟨k, hk, rfl, ⟨l, hlk, HF, hown⟩, hbel⟩ := hrel
      by_cases hlt : k < s.size
      · cases hd : Qcf s k with
        | none =>
          have n3 : Qdz s k = 1 := by simp only [Qdz, hd]
          have HN := Lib.hid (show allA s = (l, k, false) by
            obtain ⟨f, hf, hp⟩ := HF.out
            rw [← hp, allF_none s f k hlt hf hd]; simp [addP])
          clear hd
          go_wp2_with fail
          refine (next_any s hs0 _ _).mono ?_
          rintro e w' ⟨rfl, rfl⟩
          go_wp2_with fail
          go_ret3
          have hA := HN.out
          have x1 : allS s = [] := by rw [E1.out, hA]; rfl
          have x2 : Qfh s = k := by rw [E2.out, hA]; rfl
          have x3 : allE s = 1 := by rw [E3.out, hA]; rfl
          rw [x1, x2, x3]
          exact ⟨_, rfl, World.ownsRow_nil _ _ _ _, hbel⟩
        | some x =>
          have n1 : Qdd s k = x.1 := by simp only [Qdd, hd]
          have n2 : Qde s k = x.2 := by simp only [Qde, hd]
          have n3 : Qdz s k = 0 := by simp only [Qdz, hd]
          have hbd := decAt_bd s k hlt x hd
          have HF2 := Lib.hid (show ∃ f, s.size ≤ k + x.2.toNat + f ∧ addP (l ++ [x.1]) (allF s f (k + x.2.toNat)) = allA s by
            obtain ⟨f, hf, hp⟩ := HF.out
            obtain ⟨f', hf', hp'⟩ := allF_some s f k x l hlt hf hd hbd.1
            exact ⟨f', hf', hp'.symm.trans hp⟩)
          have hx1 := hbd.1
          have hx2 := hbd.2.1
          have hx3 := hbd.2.2
          clear hd HF hbd
          generalize x.1 = n at *
          generalize x.2 = wd at *
          go_wp2_with fail
          refine (next_any s hs0 _ _).mono ?_
          rintro e w' ⟨rfl, rfl⟩
          have hown2 := hown
          have hbel2 := hbel
          go_wp2_with (at_builtin; refine Qjx [.int .i64 n] rfl _ _ 38 rfl w.heap.size 3 i0 (.int .i64 0) 1 8 Tryz.underlying38 hi hz0 hz1 hz2 rfl (by decide) _ _ _ hown2 rfl rfl rfl (by intro u hu; simp at hu; subst hu; rfl) (by unfold maxLen; omega) (by omega) hbel2.size ?_)
          intro v' w1 hown' hb1'
          have hb1 := hbel2.trans hb1'
          have hown1 : w1.ownsRow w.heap.size 3 1 v' (l ++ [n]).length ((l ++ [n]).map (Value.int .i64)) := by
            rw [List.map_append, List.length_append]; exact hown'
          have hl2 : (l ++ [n]).length ≤ k + wd.toNat := by simp; omega
          clear hown' hb1' hown hbel hown2 hbel2
          go_wp2_with fail
          go_roundw
          case rel => exact ⟨k + wd.toNat, by omega, by rw [Int.natCast_add, Int.toNat_of_nonneg (by omega)], ⟨l ++ [n], hl2, HF2, hown1⟩, hb1⟩
          case measure => simp [intOf]; omega
      · have HN := Lib.hid (show allA s = (l, k, true) by
          obtain ⟨f, hf, hp⟩ := HF.out
          rw [← hp, allF_end s f k (by omega)]; simp [addP])
        go_wp2_with fail
        go_ret3
        have hA := HN.out
        have x1 : allS s = l := by rw [E1.out, hA]; rfl
        have x2 : Qfh s = s.size := by rw [E2.out, hA]; rfl
        have x3 : allE s = 0 := by rw [E3.out, hA]; rfl
        rw [x1, x2, x3]
        exact ⟨_, rfl, hown, hbel⟩
theorem rall_any (s : ByteArray) (hs : s.size ≤ maxLen) (w : World) :
    Calls Tryz.prog 176 #[.string s] w fun e w' => ∃ v, e = .returned (.tuple #[v, .int .i64 (Qfh s), .int .i64 (allE s)]) ∧ w'.ownsRow w.heap.size 3 1 v (allS s).length ((allS s).map (Value.int .i64)) ∧ Below w.heap.size w w' := by
  have hs0 := hs
  unfold maxLen at hs
  obtain ⟨i0, hi, hz0, hz1, hz2⟩ := info_parts info3
  by_cases hlong : 65535 < s.size
  · have e1 : allS s = [] := if_pos hlong
    have e2 : Qfh s = 0 := if_pos hlong
    have e3 : allE s = 2 := if_pos hlong
    rw [e1, e2, e3]
    go_enter Tryz.func176, Tryz.ntmps176
    go_wp2_with fail
    go_ret3
    exact ⟨_, rfl, World.ownsRow_nil _ _ _ _, Below.refl _ _⟩
  · have hshort : s.size ≤ 65535 := by omega
    have E1 := Lib.hid (show allS s = if (allA s).2.2 = true then (allA s).1 else [] from if_neg hlong)
    have E2 := Lib.hid (show Qfh s = if (allA s).2.2 = true then (s.size : Int) else (allA s).2.1 from if_neg hlong)
    have E3 := Lib.hid (show allE s = if (allA s).2.2 = true then 0 else 1 from if_neg hlong)
    clear hlong
    go_enter Tryz.func176, Tryz.ntmps176
    go_wp2_with fail
    go_loopw [5, 6] (fun v i wr => ∃ k : Nat, k ≤ s.size ∧ i = .int .i64 k ∧ (∃ l : List Int, l.length ≤ k ∧ Hid (∃ f, s.size ≤ k + f ∧ addP l (allF s f k) = allA s) ∧ wr.ownsRow w.heap.size 3 1 v l.length (l.map (Value.int .i64))) ∧ Below w.heap.size w wr)
      (fun _ i _ => s.size - (intOf i).toNat)
    case atStart => exact ⟨0, Nat.zero_le _, rfl, ⟨[], Nat.le_refl _, ⟨s.size, by omega, rfl⟩, World.ownsRow_made w #[] 0 (Nat.le_refl _) (Nat.zero_le _) rfl⟩, (Below.refl _ _).alloc (Nat.le_refl _) _⟩
    case round =>
      obtain ⟨k, hk, rfl, ⟨l, hlk, HF, hown⟩, hbel⟩ := hrel
      by_cases hlt : k < s.size
      · cases hd : Qcf s k with
        | none =>
          have n3 : Qfd s k = false := by simp only [Qfd, hd]; rfl
          have HN := Lib.hid (show allA s = (l, k, false) by
            obtain ⟨f, hf, hp⟩ := HF.out
            rw [← hp, allF_none s f k hlt hf hd]; simp [addP])
          clear hd
          go_wp2_with fail
          refine (rnext_any s hs0 _ _).mono ?_
          rintro e w' ⟨rfl, hb2⟩
          go_wp2_with fail
          go_ret3
          have hA := HN.out
          have x1 : allS s = [] := by rw [E1.out, hA]; rfl
          have x2 : Qfh s = k := by rw [E2.out, hA]; rfl
          have x3 : allE s = 1 := by rw [E3.out, hA]; rfl
          rw [x1, x2, x3]
          exact ⟨_, rfl, World.ownsRow_nil _ _ _ _, hbel.trans (hb2.mono hbel.size)⟩
        | some x =>
          have n1 : Qdd s k = x.1 := by simp only [Qdd, hd]
          have n2 : Qde s k = x.2 := by simp only [Qde, hd]
          have n3 : Qfd s k = true := by simp only [Qfd, hd]; rfl
          have hbd := decAt_bd s k hlt x hd
          have HF2 := Lib.hid (show ∃ f, s.size ≤ k + x.2.toNat + f ∧ addP (l ++ [x.1]) (allF s f (k + x.2.toNat)) = allA s by
            obtain ⟨f, hf, hp⟩ := HF.out
            obtain ⟨f', hf', hp'⟩ := allF_some s f k x l hlt hf hd hbd.1
            exact ⟨f', hf', hp'.symm.trans hp⟩)
          have hx1 := hbd.1
          have hx2 := hbd.2.1
          have hx3 := hbd.2.2
          clear hd HF hbd
          generalize x.1 = n at *
          generalize x.2 = wd at *
          go_wp2_with fail
          refine (rnext_any s hs0 _ _).mono ?_
          rintro e w' ⟨rfl, hb2⟩
          have hown2 := own_later hown hb2
          have hbel2 := hbel.trans (hb2.mono hbel.size)
          go_wp2_with (at_builtin; refine Qjx [.int .i64 n] rfl _ _ 38 rfl w.heap.size 3 i0 (.int .i64 0) 1 8 Tryz.underlying38 hi hz0 hz1 hz2 rfl (by decide) _ _ _ hown2 rfl rfl rfl (by intro u hu; simp at hu; subst hu; rfl) (by unfold maxLen; omega) (by omega) hbel2.size ?_)
          intro v' w1 hown' hb1'
          have hb1 := hbel2.trans hb1'
          have hown1 : w1.ownsRow w.heap.size 3 1 v' (l ++ [n]).length ((l ++ [n]).map (Value.int .i64)) := by
            rw [List.map_append, List.length_append]; exact hown'
          have hl2 : (l ++ [n]).length ≤ k + wd.toNat := by simp; omega
          clear hown' hb1' hown hbel hown2 hbel2
          go_wp2_with fail
          go_roundw
          case rel => exact ⟨k + wd.toNat, by omega, by rw [Int.natCast_add, Int.toNat_of_nonneg (by omega)], ⟨l ++ [n], hl2, HF2, hown1⟩, hb1⟩
          case measure => simp [intOf]; omega
      · have HN := Lib.hid (show allA s = (l, k, true) by
          obtain ⟨f, hf, hp⟩ := HF.out
          rw [← hp, allF_end s f k (by omega)]; simp [addP])
        go_wp2_with fail
        go_ret3
        have hA := HN.out
        have x1 : allS s = l := by rw [E1.out, hA]; rfl
        have x2 : Qfh s = s.size := by rw [E2.out, hA]; rfl
        have x3 : allE s = 0 := by rw [E3.out, hA]; rfl
        rw [x1, x2, x3]
        exact ⟨_, rfl, hown, hbel⟩
def joinB (l : List Int) : List Int := l.flatMap encL
def joinE (l : List Int) : Int := if l.all right = true then (if 65535 < (joinB l).length then 2 else 0) else 16
def joinS (l : List Int) : ByteArray := if joinE l = 0 then strOfNums (joinB l) else ByteArray.empty
def joinN (l : List Int) : List Nat := l.flatMap encN
theorem joinN_eq (l : List Int) : joinN l = (joinB l).map Int.toNat := by
 unfold joinN joinB encN; rw [List.map_flatMap]
theorem joinN_lt (l : List Int) (h : l.all right = true) : ∀ c ∈ joinN l, c < 256 := by
 intro c hc
 obtain ⟨n, hn, hcn⟩ := List.mem_flatMap.1 hc
 exact encN_lt n (List.all_eq_true.1 h n hn) c hcn
theorem nats_join (l : List Int) (h : l.all right = true) : nats (strOfNums (joinB l)) = joinN l := by
 rw [joinN_eq]; exact nats_of _ (by rw [← joinN_eq]; exact joinN_lt l h)
theorem joinN_length (l : List Int) : (joinN l).length = (joinB l).length := by rw [joinN_eq, List.length_map]
theorem all_signs (s : ByteArray) : ∀ (f k : Nat), k ≤ s.size → s.size ≤ k + f → (allF s f k).2.2 = true → (allF s f k).1.all right = true ∧ (nats s).drop k = joinN (allF s f k).1 := by
  intro f
  induction f with
  | zero =>
    intro k hk hf _
    rw [allF]
    exact ⟨rfl, by rw [List.drop_of_length_le (by rw [Qcx]; omega)]; rfl⟩
  | succ f ih =>
    intro k hk hf h
    by_cases hlt : k < s.size
    · rw [allF, if_pos hlt] at h ⊢
      cases hd : Qcf s k with
      | none => rw [hd] at h; simp at h
      | some x =>
        rw [hd] at h
        have hbd := decAt_bd s k hlt x hd
        have h2 := hd
        rw [Qiq s k hlt] at h2
        obtain ⟨hr, hw, r, hl⟩ := dec_some _ _ _ h2
        obtain ⟨h3, h4⟩ := ih (k + x.2.toNat) (by omega) (by omega) h
        refine ⟨by simp only [List.all_cons, hr, h3]; rfl, ?_⟩
        have hlen := Qfc x.1 hr
        have he : (encN x.1).length = x.2.toNat := by omega
        show (nats s).drop k = encN x.1 ++ joinN _
        rw [← h4, hl, ← List.drop_drop, hl, ← he, List.drop_left]
    · rw [allF_end s _ k (by omega)]
      exact ⟨rfl, by rw [List.drop_of_length_le (by rw [Qcx]; omega)]; rfl⟩
theorem back_text (s : ByteArray) (h : allE s = 0) : joinE (allS s) = 0 ∧ joinS (allS s) = s := by
 unfold allE at h
 by_cases hl : 65535 < s.size
 ·rw [if_pos hl] at h; omega
 rw [if_neg hl] at h
 by_cases hb : (allA s).2.2 = true
 ·have hS : allS s = (allA s).1 := by unfold allS; rw [if_neg hl, if_pos hb]
  obtain ⟨hr, hn⟩ := all_signs s s.size 0 (Nat.zero_le _) (by omega) hb
  rw [← show allA s = allF s s.size 0 from rfl, ← hS] at hr hn
  have hlen : (joinB (allS s)).length = s.size := by rw [← joinN_length, ← hn, List.length_drop, Qcx]; omega
  have hE : joinE (allS s) = 0 := by unfold joinE; rw [if_pos hr, if_neg (by omega)]
  refine ⟨hE, ?_⟩
  unfold joinS; rw [if_pos hE]
  refine nats_inj ?_
  rw [nats_join _ hr, ← hn]; rfl
 ·rw [if_neg hb] at h; omega
end Go.Proofs.YtdklpbefbamchaaGreat

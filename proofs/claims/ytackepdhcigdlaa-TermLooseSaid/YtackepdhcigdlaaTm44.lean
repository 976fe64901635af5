import Derived.Test.YtackepdhcigdlaaTm43
namespace Go.Proofs.Ytackepdhcigdlaa
open Go.RowKit
theorem info3 : (Try.prog.info? 3).map (fun i => (i.zero, i.size, i.bytes)) = some (some (.int .i64 0), 1, 8) := by kernel_rfl
/-- a number among rising ones -/
def putL : List Int → Int → List Int
  | [], n => [n]
  | x :: xs, n => if x < n then x :: putL xs n else if n < x then n :: x :: xs else x :: xs
theorem putL_len (n : Int) : ∀ l : List Int, (putL l n).length ≤ l.length + 1
  | [] => by simp [putL]
  | x :: xs => by
    have := putL_len n xs
    simp only [putL]
    split
    · simp; omega
    · split <;> simp
theorem putL_mem (n y : Int) : ∀ l : List Int, y ∈ putL l n ↔ y = n ∨ y ∈ l
  | [] => by simp [putL]
  | x :: xs => by
    have := putL_mem n y xs
    simp only [putL]
    split
    · simp only [List.mem_cons, this]
      constructor
      · rintro (h | h | h)
        · exact .inr (.inl h)
        · exact .inl h
        · exact .inr (.inr h)
      · rintro (h | h | h)
        · exact .inr (.inl h)
        · exact .inl h
        · exact .inr (.inr h)
    · split
      · simp only [List.mem_cons]
      · have : x = n := by omega
        subst this
        simp only [List.mem_cons]
        constructor
        · exact fun h => .inr h
        · rintro (h | h)
          · exact .inl h
          · exact h
def PInv (l : List Int) (n : Int) (b : Bool) (k : Nat) (out : List Int) : Prop := (b = false ∧ out = l.take k ∧ putL l n = l.take k ++ putL (l.drop k) n) ∨ (b = true ∧ putL l n = out ++ l.drop k)
set_option maxRecDepth 100000 in
set_option maxHeartbeats 4000000 in
theorem put_any (l : List Int) (v : Value) (n : Int) (w0 w : World) (hl5 : l.length ≤ 50000) (hv : Slc w0 v (l.map (Value.int .i64))) (hb0 : Below w0.heap.size w0 w) :
    Calls Try.prog 63 #[v, .int .i64 n] w fun e w' => ∃ a c, e = .returned (.slice a (putL l n).length c) ∧ Slc w' (.slice a (putL l n).length c) ((putL l n).map (Value.int .i64)) ∧ Below w.heap.size w w' := by
  obtain ⟨i0, hi, hz0, hz1, hz2⟩ := info_parts info3
  obtain ⟨a, cap, rfl, hm, -⟩ := slc_shape hv
  rw [List.length_map] at hm hv ⊢
  have FINISH : Hid (∀ (u : Value) (out : List Int) (w' : World), w'.ownsRow w.heap.size 3 1 u out.length (out.map (Value.int .i64)) → putL l n = out → ∃ a c, u = .slice a (putL l n).length c ∧ Slc w' (.slice a (putL l n).length c) ((putL l n).map (Value.int .i64))) := by
    intro u out w' ho he
    have hS := Slc.own ho
    obtain ⟨a, c, hu, -, -⟩ := slc_shape hS
    rw [List.length_map] at hu
    rw [he]
    subst hu
    exact ⟨a, c, rfl, hS⟩
  go_enter Try.func63, Try.ntmps63
  go_wp2_with fail
  go_loopw [5, 6, 7] (fun o dn j wr => ∃ (k : Nat) (out : List Int) (b : Bool), k ≤ l.length ∧ j = .int .i64 k ∧ dn = .bool b ∧ out.length ≤ k + 1 ∧ Hid (wr.ownsRow w.heap.size 3 1 o out.length (out.map (Value.int .i64))) ∧ Hid (PInv l n b k out) ∧ Hid (Below w.heap.size w wr)) (fun _ _ j _ => l.length - (intOf j).toNat)
  case atStart =>
    exact ⟨0, [], false, Nat.zero_le _, rfl, rfl, by simp, World.ownsRow_made w #[] 0 (Nat.le_refl _) (Nat.zero_le _) rfl, .inl ⟨rfl, rfl, rfl⟩, (Below.refl _ _).alloc (Nat.le_refl _) _⟩
  case round =>
    obtain ⟨k, out, bd, hk, rfl, rfl, hol, hown, hinv, hbel⟩ := hrel
    by_cases hlt : k < l.length
    · obtain ⟨b, off, rfl, hc⟩ := slc_at hv (hb0.trans (hbel.out.mono hb0.size)) k (by simpa using hlt)
      rw [List.getElem_map] at hc
      have hdrop := List.drop_eq_getElem_cons hlt
      have htake := List.take_succ_eq_append_getElem hlt
      have hi0 : (0 : Int) ≤ k := by omega
      have hi1 : (k : Int) < l.length := by omega
      have hbw : b < w.heap.size := by
        obtain ⟨b', off', hbo, hc'⟩ := slc_at hv hb0 k (by simpa using hlt)
        simp only [Option.some.injEq, Addr.mk.injEq, and_true] at hbo
        rw [hbo.1]
        exact World.block_lt_of_cell? w _ hc'
      have HOWN := hown.out
      have hsz := hbel.out.size
      generalize l[k] = x at *
      rcases hinv.out with ⟨rfl, he, hp⟩ | ⟨rfl, hp⟩
      · have HE := Lib.hid he
        have HP := Lib.hid hp
        have HDR := Lib.hid hdrop
        have HTK := Lib.hid htake
        clear he hp hdrop htake hinv
        by_cases hxn : x < n
        · have G : Hid (PInv l n false (k + 1) (out ++ [x])) := by
            show PInv _ _ _ _ _
            unfold PInv
            left
            refine ⟨rfl, by rw [HTK.out, HE.out], ?_⟩
            rw [HP.out, HDR.out, HTK.out]
            simp only [putL]
            rw [if_pos hxn, List.append_assoc]; rfl
          go_wp2_with (at_builtin; refine wpList_app1 [.int .i64 x] rfl _ _ 33 rfl w.heap.size 3 i0 (.int .i64 0) 1 8 Try.underlying33 hi hz0 hz1 hz2 rfl (by decide) _ _ _ HOWN rfl rfl rfl (by intro u hu; simp at hu; subst hu; rfl) (by unfold maxLen; omega) (by omega) hsz ?_)
          intro u1 w1 ho1 hb1
          have ho2 : w1.ownsRow w.heap.size 3 1 u1 (out ++ [x]).length ((out ++ [x]).map (Value.int .i64)) := by
            rw [List.map_append, List.length_append]; exact ho1
          have HO2 := Lib.hid ho2
          have HB2 := Lib.hid (hbel.out.trans hb1)
          have hol2 : (out ++ [x]).length ≤ k + 1 + 1 := by simp; omega
          clear ho1 ho2 hb1 HOWN hsz
          go_wp2_with fail
          go_roundw
          case rel => exact ⟨k + 1, out ++ [x], false, hlt, by simp, rfl, hol2, HO2.out, G.out, HB2.out⟩
          case measure => simp [intOf]; omega
        · by_cases hnx : n < x
          · have G : Hid (PInv l n true (k + 1) (out ++ [n] ++ [x])) := by
              show PInv _ _ _ _ _
              unfold PInv
              right
              refine ⟨rfl, ?_⟩
              rw [HP.out, HDR.out, HE.out]
              simp only [putL]
              rw [if_neg hxn, if_pos hnx]
              simp
            go_wp2_with (at_builtin; refine wpList_app1 [.int .i64 n] rfl _ _ 33 rfl w.heap.size 3 i0 (.int .i64 0) 1 8 Try.underlying33 hi hz0 hz1 hz2 rfl (by decide) _ _ _ HOWN rfl rfl rfl (by intro u hu; simp at hu; subst hu; rfl) (by unfold maxLen; omega) (by omega) hsz ?_)
            intro u0 w3 ho0 hb0'
            have hown3 : w3.ownsRow w.heap.size 3 1 u0 (out ++ [n]).length ((out ++ [n]).map (Value.int .i64)) := by
              rw [List.map_append, List.length_append]; exact ho0
            have hol3 : (out ++ [n]).length ≤ k + 1 + 1 := by simp; omega
            have hbel3 := Lib.hid (hbel.out.trans hb0')
            have hsz3 := hbel3.out.size
            have hc := (hb0'.cell hbw).trans hc
            clear ho0 hb0' HOWN hsz
            go_wp2_with (at_builtin; refine wpList_app1 [.int .i64 x] rfl _ _ 33 rfl w.heap.size 3 i0 (.int .i64 0) 1 8 Try.underlying33 hi hz0 hz1 hz2 rfl (by decide) _ _ _ hown3 rfl rfl rfl (by intro u hu; simp at hu; subst hu; rfl) (by unfold maxLen; omega) (by omega) hsz3 ?_)
            intro u1 w1 ho1 hb1
            have ho2 : w1.ownsRow w.heap.size 3 1 u1 (out ++ [n] ++ [x]).length ((out ++ [n] ++ [x]).map (Value.int .i64)) := by
              simpa using ho1
            have HO2 := Lib.hid ho2
            have HB2 := Lib.hid (hbel3.out.trans hb1)
            have hol2 : (out ++ [n] ++ [x]).length ≤ k + 1 + 1 := by
              have : out.length ≤ k := by rw [HE.out, List.length_take]; omega
              simp
              omega
            clear ho1 ho2 hb1 hown3 hsz3
            go_wp2_with fail
            go_roundw
            case rel => exact ⟨k + 1, out ++ [n] ++ [x], true, hlt, by simp, rfl, hol2, HO2.out, G.out, HB2.out⟩
            case measure => simp [intOf]; omega
          · have hxe : x = n := by omega
            have G : Hid (PInv l n true (k + 1) (out ++ [x])) := by
              show PInv _ _ _ _ _
              unfold PInv
              right
              refine ⟨rfl, ?_⟩
              rw [HP.out, HDR.out, HE.out]
              simp only [putL]
              rw [if_neg hxn, if_neg hnx]
              simp
            clear hxe
            go_wp2_with (at_builtin; refine wpList_app1 [.int .i64 x] rfl _ _ 33 rfl w.heap.size 3 i0 (.int .i64 0) 1 8 Try.underlying33 hi hz0 hz1 hz2 rfl (by decide) _ _ _ HOWN rfl rfl rfl (by intro u hu; simp at hu; subst hu; rfl) (by unfold maxLen; omega) (by omega) hsz ?_)
            intro u1 w1 ho1 hb1
            have ho2 : w1.ownsRow w.heap.size 3 1 u1 (out ++ [x]).length ((out ++ [x]).map (Value.int .i64)) := by
              rw [List.map_append, List.length_append]; exact ho1
            have HO2 := Lib.hid ho2
            have HB2 := Lib.hid (hbel.out.trans hb1)
            have hol2 : (out ++ [x]).length ≤ k + 1 + 1 := by simp; omega
            clear ho1 ho2 hb1 HOWN hsz
            go_wp2_with fail
            go_roundw
            case rel => exact ⟨k + 1, out ++ [x], true, hlt, by simp, rfl, hol2, HO2.out, G.out, HB2.out⟩
            case measure => simp [intOf]; omega
      · have G : Hid (PInv l n true (k + 1) (out ++ [x])) := by
          show PInv _ _ _ _ _
          unfold PInv
          right
          refine ⟨rfl, ?_⟩
          rw [hp, hdrop]
          simp
        clear hp hdrop htake hinv
        go_wp2_with (at_builtin; refine wpList_app1 [.int .i64 x] rfl _ _ 33 rfl w.heap.size 3 i0 (.int .i64 0) 1 8 Try.underlying33 hi hz0 hz1 hz2 rfl (by decide) _ _ _ HOWN rfl rfl rfl (by intro u hu; simp at hu; subst hu; rfl) (by unfold maxLen; omega) (by omega) hsz ?_)
        intro u1 w1 ho1 hb1
        have ho2 : w1.ownsRow w.heap.size 3 1 u1 (out ++ [x]).length ((out ++ [x]).map (Value.int .i64)) := by
          rw [List.map_append, List.length_append]; exact ho1
        have HO2 := Lib.hid ho2
        have HB2 := Lib.hid (hbel.out.trans hb1)
        have hol2 : (out ++ [x]).length ≤ k + 1 + 1 := by simp; omega
        clear ho1 ho2 hb1 HOWN hsz
        go_wp2_with fail
        go_roundw
        case rel => exact ⟨k + 1, out ++ [x], true, hlt, by simp, rfl, hol2, HO2.out, G.out, HB2.out⟩
        case measure => simp [intOf]; omega
    · obtain rfl : k = l.length := by omega
      have HOWN := hown.out
      have hsz := hbel.out.size
      rcases hinv.out with ⟨rfl, he, hp⟩ | ⟨rfl, hp⟩
      · have HP : Hid (putL l n = out ++ [n]) := by
          show _ = _
          rw [hp, he, List.drop_length]; rfl
        clear he hp hinv
        go_wp2_with (at_builtin; refine wpList_app1 [.int .i64 n] rfl _ _ 33 rfl w.heap.size 3 i0 (.int .i64 0) 1 8 Try.underlying33 hi hz0 hz1 hz2 rfl (by decide) _ _ _ HOWN rfl rfl rfl (by intro u hu; simp at hu; subst hu; rfl) (by unfold maxLen; omega) (by omega) hsz ?_)
        intro u1 w1 ho1 hb1
        have ho2 : w1.ownsRow w.heap.size 3 1 u1 (out ++ [n]).length ((out ++ [n]).map (Value.int .i64)) := by
          rw [List.map_append, List.length_append]; exact ho1
        obtain ⟨aa, ca, rfl, hSS⟩ := FINISH.out u1 _ w1 ho2 HP.out
        have HB2 := Lib.hid (hbel.out.trans hb1)
        clear ho1 ho2 hb1 HOWN hsz
        go_wp2_with fail
        go_ret
        exact ⟨aa, ca, rfl, hSS, HB2.out⟩
      · have HP : Hid (putL l n = out) := by
          show _ = _
          rw [hp, List.drop_length, List.append_nil]
        obtain ⟨aa, ca, hu, hSS⟩ := FINISH.out _ _ wr HOWN HP.out
        subst hu
        clear hp hinv HOWN hsz
        go_wp2_with fail
        go_ret
        exact ⟨aa, ca, rfl, hSS, hbel.out⟩
end Go.Proofs.Ytackepdhcigdlaa

import Derived.Test.YtffgfjnbgplckaaT33
import Derived.Test.YtffgfjnbgplckaaT14
namespace Go.Proofs.Ytffgfjnbgplckaa
open Go.RowKit
theorem ret_vb {v : Value} {a b : Bool} (h : a = b) : Ending.returned (.tuple #[v, .bool a]) = .returned (.tuple #[v, .bool b]) := by rw [h]
set_option maxRecDepth 100000 in
set_option maxHeartbeats 4000000 in
theorem nodes_any (l : List Nd) (v : Value) (w : World) (hv : NdS w v l) (hl30 : l.length ≤ 1000) : Calls Try.prog 58 #[v] w fun e w' => ∃ u, e = .returned (.tuple #[u, .bool (l.all okN)]) ∧ RepS (fun b => w.heap.size ≤ b) w' u (if l.all okN then l else []) ∧ Below w.heap.size w w' := by
  obtain ⟨i0, hi, hz0, hz1, hz2⟩ := info_parts infoR
  obtain ⟨a, cap, rfl, h1, h2, -⟩ := hv.open
  have hll : l.length ≤ 9223372036854775807 := by omega
  have HV := Lib.hid hv
  have L30 := Lib.hid hl30
  have RLF : l.all okN = false → (if l.all okN then l else []) = [] := fun h => by rw [h]; rfl
  have RLT : l.all okN = true → (if l.all okN then l else []) = l := fun h => by rw [h]; rfl
  have HF := Lib.hid RLF
  have HTT := Lib.hid RLT
  clear RLF RLT
  generalize (if l.all okN then l else []) = rl at *
  obtain ⟨res, HR⟩ : ∃ r, Hid (l.all okN = r) := ⟨_, rfl⟩
  rw [HR.out]
  clear hv h1 h2 hl30
  go_enter Try.func58, Try.ntmps58
  go_wp2_with fail
  go_loopw [4, 5] (fun u i wr => ∃ (k : Nat) (x : Later w), k ≤ l.length ∧ i = .int .i64 k ∧ wr = x.w ∧ Own (fun b => w.heap.size ≤ b) 27 w.heap.size u (l.take k) x.w ∧ Hid ((l.take k).all okN = true)) (fun _ i _ => l.length - (intOf i).toNat)
  case atStart => exact ⟨0, ⟨_, (Below.refl _ _).alloc (Nat.le_refl _) _⟩, Nat.zero_le _, rfl, rfl, own_made (Nat.le_refl _), rfl⟩
  case round =>
    obtain ⟨k, x, hk, rfl, rfl, hown, HA⟩ := hrel
    by_cases hlt : k < l.length
    · obtain ⟨bb, off, a', cap', rfl, e0, e1, e2, e3, e4, hts⟩ := sub_at HV.out x.b k hlt
      have hnk : l[k].name.size ≤ maxLen := by obtain ⟨_, _, _, _, _, h⟩ := nd_open hts; exact h
      have hstep := all_take_g okN l k hlt
      rw [HA.out, Bool.true_and] at hstep
      have HO := Lib.hid hown
      have HOF := Lib.hid (of_any l[k] _ _ hts)
      clear hown hts
      cases hk1 : okN l[k] with
      | false =>
        have fin : Hid (res = false) := by show _ = _; rw [← HR.out, all_false_g k hlt hk1]
        rw [hk1] at HOF
        clear hk1 hstep
        go_wp2_with fail
        refine HOF.out.mono ?_
        rintro e w5 ⟨v5, rfl, hr5, hb5⟩
        obtain ⟨a5, n5, c5, rfl⟩ := hr5.form
        go_wp2_with fail
        go_ret2
        exact ⟨_, ret_vb fin.out.symm, by rw [HF.out (by rw [HR.out]; exact fin.out)]; exact RepS.nil, x.b.trans ((hb5.alloc hb5.size _).mono x.b.size)⟩
      | true =>
        have HK1 := Lib.hid hk1
        rw [hk1] at HOF hstep
        have HA2 := Lib.hid hstep
        clear hk1 hstep
        go_wp2_with fail
        refine HOF.out.mono ?_
        rintro e w5 ⟨v5, rfl, hr5, hb5⟩
        obtain ⟨a5, n5, c5, rfl⟩ := hr5.form
        rw [(ok_same HK1.out).1] at hr5
        have hz := x.b.size
        have hz5 := hb5.size
        have hw2 : Below x.w.heap.size x.w (w5.alloc (.cells #[.int .i64 l[k].kind, .int .i64 l[k].at, .string l[k].name, .int .i64 l[k].num, .slice a5 n5 c5] 27)) := hb5.alloc hb5.size _
        have E1 := boxes1 (w5.alloc (.cells #[.int .i64 l[k].kind, .int .i64 l[k].at, .string l[k].name, .int .i64 l[k].num, .slice a5 n5 c5] 27)) #[.int .i64 l[k].kind, .int .i64 l[k].at, .string l[k].name, .int .i64 l[k].num, .slice a5 n5 c5] 27
        have hrep : Rep (fun b => x.w.heap.size ≤ b) (w5.alloc (.cells #[.int .i64 l[k].kind, .int .i64 l[k].at, .string l[k].name, .int .i64 l[k].num, .slice a5 n5 c5] 27)) l[k] [.int .i64 l[k].kind, .int .i64 l[k].at, .string l[k].name, .int .i64 l[k].num, .slice a5 n5 c5] := (rep_nd.2 ⟨_, rfl, hnk, hr5⟩ : Rep _ _ l[k] _).later ((Below.refl _ _).alloc (Nat.le_refl _) _)
        have hone := (RepS.one (T := 27) hrep).sub (S' := fun b => x.w.heap.size ≤ b) fun b hb _ => by
          rcases hb with hb | hb
          · exact hb
          · rw [hb]; simp; omega
        rw [show (w5.alloc (.cells #[.int .i64 l[k].kind, .int .i64 l[k].at, .string l[k].name, .int .i64 l[k].num, .slice a5 n5 c5] 27)).heap.size = w5.heap.size + 1 from by simp] at hone
        have hlt2 := HO.out.lt
        have hS3 : ∀ d ∈ [l[k]], ∀ cs, Rep (fun b => x.w.heap.size ≤ b) ((w5.alloc (.cells #[.int .i64 l[k].kind, .int .i64 l[k].at, .string l[k].name, .int .i64 l[k].num, .slice a5 n5 c5] 27)).alloc (.cells #[.int .i64 l[k].kind, .int .i64 l[k].at, .string l[k].name, .int .i64 l[k].num, .slice a5 n5 c5] 27)) d cs → Rep (fun b => w.heap.size ≤ b ∧ u4.ownBlock ≠ some b) ((w5.alloc (.cells #[.int .i64 l[k].kind, .int .i64 l[k].at, .string l[k].name, .int .i64 l[k].num, .slice a5 n5 c5] 27)).alloc (.cells #[.int .i64 l[k].kind, .int .i64 l[k].at, .string l[k].name, .int .i64 l[k].num, .slice a5 n5 c5] 27)) d cs :=
          fun d _ cs h => h.sub fun b hb _ => ⟨by omega, fun e => by have := (hlt2 b e).2; omega⟩
        have HO3 := Lib.hid ((HO.out.later hw2).later E1.2.1)
        have HONE := Lib.hid hone
        have HS3 := Lib.hid hS3
        have HW3 := Lib.hid (x.b.trans ((hw2.trans (E1.2.1.mono hw2.size)).mono x.b.size))
        have HL3 : Hid ((l.take k).length + 1 ≤ 2000) := by have := L30.out; show _ ≤ _; rw [List.length_take]; omega
        clear hr5 hb5 hw2 E1 hrep hone hS3 hlt2
        go_wp2_with (at_builtin; refine wpList_push rfl _ _ 25 rfl 27 i0 (.agg #[.int .i64 0, .int .i64 0, .string ByteArray.empty, .int .i64 0, .slice none 0 0]) 64 Try.underlying25 hi hz0 hz1 hz2 rfl (by decide) HO3.out _ [l[k]] HONE.out (by rfl) (by rfl) HS3.out (by have := HL3.out; unfold maxLen; simp at this ⊢; omega) (by have := HL3.out; simp at this ⊢; omega) HW3.out.size ?_; intro v2 w2 hown2 hb2 hg2 hap2)
        have hown3 : Own (fun b => w.heap.size ≤ b) 27 w.heap.size v2 (l.take (k + 1)) w2 := by rw [List.take_succ_eq_append_getElem hlt]; exact hown2
        have hbf := HW3.out.trans hb2
        clear hb2 hg2 hap2 hown2
        go_roundw
        case rel => exact ⟨k + 1, ⟨_, hbf⟩, by omega, by go_num, rfl, hown3, HA2⟩
        case measure => simp [intOf]; omega
    · obtain rfl : k = l.length := by omega
      rw [List.take_length] at hown HA
      have fin : Hid (res = true) := by show _ = _; rw [← HR.out, HA.out]
      have hres := hown.done.sub (S' := fun b => w.heap.size ≤ b) (fun b hb _ => hb.elim id id)
      have HX := Lib.hid x.b
      have HRES := Lib.hid hres
      go_wp2_with fail
      go_ret2
      exact ⟨_, ret_vb fin.out.symm, by rw [HTT.out (by rw [HR.out]; exact fin.out)]; exact HRES.out, HX.out⟩
end Go.Proofs.Ytffgfjnbgplckaa

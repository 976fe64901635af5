import Derived.Test.YtffgfjnbgplckaaT34
namespace Go.Proofs.Ytffgfjnbgplckaa
open Go.RowKit
theorem infoB : (Try.prog.info? 114).map (fun i => (i.zero, i.size, i.bytes)) = some (some (.agg #[.string ByteArray.empty, .int .i64 0, .int .i64 0, .int .i64 0, .string ByteArray.empty, .int .i64 0, .slice none 0 0]), 7, 88) := by kernel_rfl
def okB (b : Bd) : Bool := okN b.ty
set_option maxRecDepth 100000 in
set_option maxHeartbeats 4000000 in
theorem lbinds_any (S0 : Nat → Prop) (l : List Bd) (v : Value) (w : World) (hv : RepS S0 w v l) (hl30 : l.length ≤ 1000) : Calls Try.prog 57 #[v] w fun e w' => ∃ u, e = .returned (.tuple #[u, .bool (l.all okB)]) ∧ RepS (fun b => w.heap.size ≤ b) w' u (if l.all okB then l else []) ∧ Below w.heap.size w w' := by
  obtain ⟨i0, hi, hz0, hz1, hz2⟩ := info_parts infoB
  obtain ⟨a, cap, rfl, h1, h2⟩ := hv.shape
  have hll : l.length ≤ 9223372036854775807 := by omega
  have HV := Lib.hid hv
  have L30 := Lib.hid hl30
  have RLF : l.all okB = false → (if l.all okB then l else []) = [] := fun h => by rw [h]; rfl
  have RLT : l.all okB = true → (if l.all okB then l else []) = l := fun h => by rw [h]; rfl
  have HF := Lib.hid RLF
  have HTT := Lib.hid RLT
  clear RLF RLT
  generalize (if l.all okB then l else []) = rl at *
  obtain ⟨res, HR⟩ : ∃ r, Hid (l.all okB = r) := ⟨_, rfl⟩
  rw [HR.out]
  clear hv h1 h2 hl30
  go_enter Try.func57, Try.ntmps57
  go_wp2_with fail
  go_loopw [4, 5] (fun u i wr => ∃ (k : Nat) (x : Later w), k ≤ l.length ∧ i = .int .i64 k ∧ wr = x.w ∧ Own (fun b => w.heap.size ≤ b) 114 w.heap.size u (l.take k) x.w ∧ Hid ((l.take k).all okB = true)) (fun _ i _ => l.length - (intOf i).toNat)
  case atStart => exact ⟨0, ⟨_, (Below.refl _ _).alloc (Nat.le_refl _) _⟩, Nat.zero_le _, rfl, rfl, own_made (Nat.le_refl _), rfl⟩
  case round =>
    obtain ⟨k, x, hk, rfl, rfl, hown, HA⟩ := hrel
    by_cases hlt : k < l.length
    · obtain ⟨bb, off, a', n', c', rfl, e0w, e1w, e2w, e3w, e4w, e5w, e6w, hns, htyw⟩ := bd_at HV.out k hlt
      have hbb : bb < w.heap.size := World.block_lt_of_cell? w _ e0w
      have mvw : ∀ {p : Addr} {v : Value}, w.cell? p = some v → x.w.cell? p = some v := fun c => (x.b.cell (World.block_lt_of_cell? w _ c)).trans c
      have e0 := mvw e0w
      have e1 := mvw e1w
      have e2 := mvw e2w
      have e3 := mvw e3w
      have e4 := mvw e4w
      have e5 := mvw e5w
      have e6 := mvw e6w
      have hty := htyw.later x.b
      clear mvw e0w e1w e2w e3w e4w e5w e6w htyw
      have hts := Rep.toC _ _ hty
      have hnk : l[k].ty.name.size ≤ maxLen := by obtain ⟨_, _, _, _, _, h⟩ := nd_open hts; exact h
      have hb0 : (0 : Int) ≤ k := by omega
      have hb1 : (k : Int) < l.length := by omega
      have hstep := all_take_g okB l k hlt
      rw [HA.out, Bool.true_and] at hstep
      have HO := Lib.hid hown
      have HOF := Lib.hid (of_any l[k].ty _ _ hts)
      clear hown hts hty
      cases hk1 : okN l[k].ty with
      | false =>
        have fin : Hid (res = false) := by show _ = _; rw [← HR.out, all_false_g (p := okB) k hlt hk1]
        rw [hk1] at HOF
        clear hk1 hstep
        go_wp2_with fail
        refine HOF.out.mono ?_
        rintro e w5 ⟨v5, rfl, hr5, hb5⟩
        obtain ⟨a5, n5, c5, rfl⟩ := hr5.form
        go_wp2_with fail
        go_ret2
        exact ⟨_, ret_vb fin.out.symm, by rw [HF.out (by rw [HR.out]; exact fin.out)]; exact RepS.nil, x.b.trans ((hb5.alloc hb5.size _).mono x.b.size)⟩
      | true =>
        have HK1 := Lib.hid hk1
        rw [hk1] at HOF
        rw [show okB l[k] = true from hk1] at hstep
        have HA2 := Lib.hid hstep
        clear hk1 hstep
        go_wp2_with fail
        refine HOF.out.mono ?_
        rintro e w5 ⟨v5, rfl, hr5, hb5⟩
        obtain ⟨a5, n5, c5, rfl⟩ := hr5.form
        rw [(ok_same HK1.out).1] at hr5
        have hz := x.b.size
        have hz5 := hb5.size
        have hw2 : Below x.w.heap.size x.w (w5.alloc (.cells #[.int .i64 l[k].ty.kind, .int .i64 l[k].ty.at, .string l[k].ty.name, .int .i64 l[k].ty.num, .slice a5 n5 c5] 27)) := hb5.alloc hb5.size _
        have E1 : Below (w5.alloc (.cells #[.int .i64 l[k].ty.kind, .int .i64 l[k].ty.at, .string l[k].ty.name, .int .i64 l[k].ty.num, .slice a5 n5 c5] 27)).heap.size (w5.alloc (.cells #[.int .i64 l[k].ty.kind, .int .i64 l[k].ty.at, .string l[k].ty.name, .int .i64 l[k].ty.num, .slice a5 n5 c5] 27)) ((w5.alloc (.cells #[.int .i64 l[k].ty.kind, .int .i64 l[k].ty.at, .string l[k].ty.name, .int .i64 l[k].ty.num, .slice a5 n5 c5] 27)).alloc (.cells #[.string l[k].name, .int .i64 l[k].at_, .int .i64 l[k].ty.kind, .int .i64 l[k].ty.at, .string l[k].ty.name, .int .i64 l[k].ty.num, .slice a5 n5 c5] 114)).drew := ((Below.refl _ _).alloc (Nat.le_refl _) _).drew
        have hbx : Box5 27 (w5.alloc (.cells #[.int .i64 l[k].ty.kind, .int .i64 l[k].ty.at, .string l[k].ty.name, .int .i64 l[k].ty.num, .slice a5 n5 c5] 27)) w5.heap.size (.int .i64 l[k].ty.kind) (.int .i64 l[k].ty.at) (.string l[k].ty.name) (.int .i64 l[k].ty.num) (.slice a5 n5 c5) := Box5.new _ _ _ _ _ _ _
        obtain ⟨q0, q1, q2, q3, q4⟩ := hbx.cells
        have KEEP : Hid (∀ w', Below (w5.alloc (.cells #[.int .i64 l[k].ty.kind, .int .i64 l[k].ty.at, .string l[k].ty.name, .int .i64 l[k].ty.num, .slice a5 n5 c5] 27)).heap.size (w5.alloc (.cells #[.int .i64 l[k].ty.kind, .int .i64 l[k].ty.at, .string l[k].ty.name, .int .i64 l[k].ty.num, .slice a5 n5 c5] 27)) w' → w'.cell? ⟨bb, off + k * 7, none⟩ = some (.string l[k].name) ∧ w'.cell? ⟨bb, off + k * 7 + 1, none⟩ = some (.int .i64 l[k].at_) ∧ w'.cell? ⟨w5.heap.size, 0, none⟩ = some (.int .i64 l[k].ty.kind) ∧ w'.cell? ⟨w5.heap.size, 1, none⟩ = some (.int .i64 l[k].ty.at) ∧ w'.cell? ⟨w5.heap.size, 2, none⟩ = some (.string l[k].ty.name) ∧ w'.cell? ⟨w5.heap.size, 3, none⟩ = some (.int .i64 l[k].ty.num) ∧ w'.cell? ⟨w5.heap.size, 4, none⟩ = some (.slice a5 n5 c5)) := fun w' h =>
          have mv : ∀ {p : Addr} {v : Value}, (w5.alloc (.cells #[.int .i64 l[k].ty.kind, .int .i64 l[k].ty.at, .string l[k].ty.name, .int .i64 l[k].ty.num, .slice a5 n5 c5] 27)).cell? p = some v → w'.cell? p = some v := fun c => (h.cell (World.block_lt_of_cell? (w5.alloc (.cells #[.int .i64 l[k].ty.kind, .int .i64 l[k].ty.at, .string l[k].ty.name, .int .i64 l[k].ty.num, .slice a5 n5 c5] 27)) _ c)).trans c
          have mx : ∀ {p : Addr} {v : Value}, x.w.cell? p = some v → (w5.alloc (.cells #[.int .i64 l[k].ty.kind, .int .i64 l[k].ty.at, .string l[k].ty.name, .int .i64 l[k].ty.num, .slice a5 n5 c5] 27)).cell? p = some v := fun c => (hw2.cell (World.block_lt_of_cell? x.w _ c)).trans c
          ⟨mv (mx e0), mv (mx e1), mv q0, mv q1, mv q2, mv q3, mv q4⟩
        have hrep : Rep (fun b => x.w.heap.size ≤ b) (w5.alloc (.cells #[.int .i64 l[k].ty.kind, .int .i64 l[k].ty.at, .string l[k].ty.name, .int .i64 l[k].ty.num, .slice a5 n5 c5] 27)) l[k] [.string l[k].name, .int .i64 l[k].at_, .int .i64 l[k].ty.kind, .int .i64 l[k].ty.at, .string l[k].ty.name, .int .i64 l[k].ty.num, .slice a5 n5 c5] := (rep_bd.2 ⟨_, rfl, hns, hnk, hr5⟩ : Rep _ w5 l[k] _).later ((Below.refl _ _).alloc (Nat.le_refl _) _)
        have hone0 := (RepS.one (T := 114) hrep).sub (S' := fun b => x.w.heap.size ≤ b) fun b hb _ => by
          rcases hb with hb | hb
          · exact hb
          · rw [hb]; simp; omega
        rw [show (w5.alloc (.cells #[.int .i64 l[k].ty.kind, .int .i64 l[k].ty.at, .string l[k].ty.name, .int .i64 l[k].ty.num, .slice a5 n5 c5] 27)).heap.size = w5.heap.size + 1 from by simp] at hone0
        have hone := hone0.later (w' := ((w5.alloc (.cells #[.int .i64 l[k].ty.kind, .int .i64 l[k].ty.at, .string l[k].ty.name, .int .i64 l[k].ty.num, .slice a5 n5 c5] 27)).alloc (.cells #[.string l[k].name, .int .i64 l[k].at_, .int .i64 l[k].ty.kind, .int .i64 l[k].ty.at, .string l[k].ty.name, .int .i64 l[k].ty.num, .slice a5 n5 c5] 114)).drew) (Below.refl _ _).drew
        have hlt2 := HO.out.lt
        have hS3 : ∀ d ∈ [l[k]], ∀ cs, Rep (fun b => x.w.heap.size ≤ b) ((w5.alloc (.cells #[.int .i64 l[k].ty.kind, .int .i64 l[k].ty.at, .string l[k].ty.name, .int .i64 l[k].ty.num, .slice a5 n5 c5] 27)).alloc (.cells #[.string l[k].name, .int .i64 l[k].at_, .int .i64 l[k].ty.kind, .int .i64 l[k].ty.at, .string l[k].ty.name, .int .i64 l[k].ty.num, .slice a5 n5 c5] 114)).drew d cs → Rep (fun b => w.heap.size ≤ b ∧ u4.ownBlock ≠ some b) ((w5.alloc (.cells #[.int .i64 l[k].ty.kind, .int .i64 l[k].ty.at, .string l[k].ty.name, .int .i64 l[k].ty.num, .slice a5 n5 c5] 27)).alloc (.cells #[.string l[k].name, .int .i64 l[k].at_, .int .i64 l[k].ty.kind, .int .i64 l[k].ty.at, .string l[k].ty.name, .int .i64 l[k].ty.num, .slice a5 n5 c5] 114)).drew d cs :=
          fun d _ cs h => h.sub fun b hb _ => ⟨by omega, fun e => by have := (hlt2 b e).2; omega⟩
        have HO3 := Lib.hid ((HO.out.later hw2).later E1)
        have HONE := Lib.hid hone
        have HS3 := Lib.hid hS3
        have HW3 := Lib.hid (x.b.trans ((hw2.trans (E1.mono hw2.size)).mono x.b.size))
        have HE1 := Lib.hid E1
        have HL3 : Hid ((l.take k).length + 1 ≤ 2000) := by have := L30.out; show _ ≤ _; rw [List.length_take]; omega
        have KEEP2 : Hid (∀ w', ((w5.alloc (.cells #[.int .i64 l[k].ty.kind, .int .i64 l[k].ty.at, .string l[k].ty.name, .int .i64 l[k].ty.num, .slice a5 n5 c5] 27)).alloc (.cells #[.string l[k].name, .int .i64 l[k].at_, .int .i64 l[k].ty.kind, .int .i64 l[k].ty.at, .string l[k].ty.name, .int .i64 l[k].ty.num, .slice a5 n5 c5] 114)).drew.grownBy w' u4.ownBlock → w'.cell? ⟨bb, off + k * 7, none⟩ = some (.string l[k].name) ∧ w'.cell? ⟨bb, off + k * 7 + 1, none⟩ = some (.int .i64 l[k].at_) ∧ w'.cell? ⟨w5.heap.size, 0, none⟩ = some (.int .i64 l[k].ty.kind) ∧ w'.cell? ⟨w5.heap.size, 1, none⟩ = some (.int .i64 l[k].ty.at) ∧ w'.cell? ⟨w5.heap.size, 2, none⟩ = some (.string l[k].ty.name) ∧ w'.cell? ⟨w5.heap.size, 3, none⟩ = some (.int .i64 l[k].ty.num) ∧ w'.cell? ⟨w5.heap.size, 4, none⟩ = some (.slice a5 n5 c5)) := fun w' h =>
          have mv : ∀ {p : Addr} {v : Value}, ((w5.alloc (.cells #[.int .i64 l[k].ty.kind, .int .i64 l[k].ty.at, .string l[k].ty.name, .int .i64 l[k].ty.num, .slice a5 n5 c5] 27)).alloc (.cells #[.string l[k].name, .int .i64 l[k].at_, .int .i64 l[k].ty.kind, .int .i64 l[k].ty.at, .string l[k].ty.name, .int .i64 l[k].ty.num, .slice a5 n5 c5] 114)).drew.cell? p = some v → u4.ownBlock ≠ some p.block → w'.cell? p = some v := fun c hne => h.cell c (fun e => hne e.symm)
          have hne1 : u4.ownBlock ≠ some bb := fun e => by have := (hlt2 _ e).1; omega
          have hne2 : u4.ownBlock ≠ some w5.heap.size := fun e => by have := (hlt2 _ e).2; omega
          have K := KEEP.out _ E1
          ⟨mv K.1 hne1, mv K.2.1 hne1, mv K.2.2.1 hne2, mv K.2.2.2.1 hne2, mv K.2.2.2.2.1 hne2, mv K.2.2.2.2.2.1 hne2, mv K.2.2.2.2.2.2 hne2⟩
        have hx0 := (KEEP.out (w5.alloc (.cells #[.int .i64 l[k].ty.kind, .int .i64 l[k].ty.at, .string l[k].ty.name, .int .i64 l[k].ty.num, .slice a5 n5 c5] 27)) (Below.refl _ _)).1
        have hx1 := (KEEP.out (w5.alloc (.cells #[.int .i64 l[k].ty.kind, .int .i64 l[k].ty.at, .string l[k].ty.name, .int .i64 l[k].ty.num, .slice a5 n5 c5] 27)) (Below.refl _ _)).2.1
        clear hr5 hb5 hw2 E1 hrep hone hone0 hS3 hlt2 hbx
        go_wp2_with fail
        go_region_held3 (fun w' => w'.cell? ⟨bb, off + k * 7, none⟩ = some (.string l[k].name) ∧ w'.cell? ⟨bb, off + k * 7 + 1, none⟩ = some (.int .i64 l[k].at_) ∧ w'.cell? ⟨w5.heap.size, 0, none⟩ = some (.int .i64 l[k].ty.kind) ∧ w'.cell? ⟨w5.heap.size, 1, none⟩ = some (.int .i64 l[k].ty.at) ∧ w'.cell? ⟨w5.heap.size, 2, none⟩ = some (.string l[k].ty.name) ∧ w'.cell? ⟨w5.heap.size, 3, none⟩ = some (.int .i64 l[k].ty.num) ∧ w'.cell? ⟨w5.heap.size, 4, none⟩ = some (.slice a5 n5 c5)) (first | go_keep | exact KEEP.out _ ((Below.refl _ _).drew) | exact KEEP.out _ HE1.out | exact KEEP2.out _ hg2) ((refine step_push rfl (.tmp 26) (.tmp 39) 50 rfl 114 i0 (.agg #[.string ByteArray.empty, .int .i64 0, .int .i64 0, .int .i64 0, .string ByteArray.empty, .int .i64 0, .slice none 0 0]) 88 Try.underlying50 hi hz0 hz1 hz2 rfl (by decide) HO3.out _ [l[k]] HONE.out (by rfl) (by rfl) HS3.out (by have := HL3.out; unfold maxLen; simp at this ⊢; omega) (by have := HL3.out; simp at this ⊢; omega) HW3.out.size ?_; intro v2 w2 hown2 hb2 hg2 hap2))
        go_wp2_with fail
        have hown3 : Own (fun b => w.heap.size ≤ b) 114 w.heap.size v2 (l.take (k + 1)) w2 := by rw [List.take_succ_eq_append_getElem hlt]; exact hown2
        have hbf := HW3.out.trans hb2
        clear hb2 hg2 hap2 hown2
        go_roundw
        case rel => exact ⟨k + 1, ⟨_, hbf⟩, by omega, by go_num, rfl, hown3, HA2⟩
        case measure => simp [intOf]; omega
    · obtain rfl : k = l.length := by omega
      rw [List.take_length] at hown HA
      have fin : Hid (res = true) := by show _ = _; rw [← HR.out, HA.out]
      have hres := hown.done.sub (S' := fun b => w.heap.size ≤ b) (fun b hb _ => hb.elim id id)
      have HX := Lib.hid x.b
      have HRES := Lib.hid hres
      go_wp2_with fail
      go_ret2
      exact ⟨_, ret_vb fin.out.symm, by rw [HTT.out (by rw [HR.out]; exact fin.out)]; exact HRES.out, HX.out⟩
end Go.Proofs.Ytffgfjnbgplckaa

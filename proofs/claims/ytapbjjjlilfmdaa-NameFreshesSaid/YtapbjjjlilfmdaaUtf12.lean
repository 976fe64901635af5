import Derived.Test.YtapbjjjlilfmdaaUtf11
namespace Go.Proofs.Ytapbjjjlilfmdaa
open Go.RowKit
theorem below_bytes (w : World) (e : TypeId) (s : ByteArray) : Below w.heap.size w (Lib.bytesWorld w e s) :=
  ⟨rfl, rfl, rfl, by rw [Lib.bytesWorld_size]; omega, fun k hk => Lib.bytesWorld_at_old w e s k hk⟩
theorem bytes_cells (w : World) (e : TypeId) (s : ByteArray) : ∀ j u, (Lib.strCells s)[j]? = some u → (Lib.bytesWorld w e s).cell? ((⟨w.heap.size, 0, none⟩ : Addr).add j) = some u := by
  intro j u hu
  have hj : j < s.size := by
    rw [← Lib.strCells_length]; exact (List.getElem?_eq_some_iff.1 hu).1
  have e1 : (⟨w.heap.size, 0, none⟩ : Addr).add j = ⟨w.heap.size, j, none⟩ := by unfold Addr.add; split <;> simp_all
  rw [e1, Lib.bytesWorld_cell w e s j hj, ← hu, Lib.strCells, List.getElem?_map]
  have hj2 : j < s.data.toList.length := by simpa using hj
  rw [List.getD_eq_getElem?_getD, List.getElem?_eq_getElem hj2]; rfl
set_option maxRecDepth 100000 in
set_option maxHeartbeats 1000000 in
theorem rjoin_any (l : List Int) (v : Value) (w : World) (hv : Slc w v (l.map (Value.int .i64))) :
    Calls Try.prog 49 #[v] w fun e w' => e = .returned (.tuple #[.string (joinS l), .int .i64 (joinE l)]) ∧ Below w.heap.size w w' := by
  obtain ⟨i0, hi, hz0, hz1, hz2⟩ := info_parts info5
  have hconv := fun (w : World) (s : ByteArray) => Lib.run_convert_string_bytes (P := Try.prog) w 9 52 5 s Try.underlying9 Try.underlying52 Try.underlying5
  obtain ⟨a, cap, rfl, hm, hc⟩ := hv
  have HC := Lib.hid hc; clear hc
  simp only [List.length_map] at *
  unfold maxLen at hm
  go_enter Try.func49, Try.ntmps49
  go_wp2_with fail
  go_loop [4] (fun i => ∃ k : Nat, k ≤ l.length ∧ i = .int .i64 k ∧ Hid ((l.take k).all right = true)) (fun i => l.length - (intOf i).toNat)
  case atStart => exact ⟨0, Nat.zero_le _, rfl, rfl⟩
  case round =>
    obtain ⟨k, hk, rfl, hall⟩ := hrel
    by_cases hlt : k < l.length
    · obtain ⟨b, off, rfl, hcell⟩ := HC.out (ne_map hlt)
      have c1 := slc_cell hcell (Below.refl _ _) k hlt
      clear hcell
      by_cases hr : right l[k] = true
      · go_wp2_with (go_at_call 42; refine (rright_any _ _).mono ?_; rintro e w' ⟨rfl, rfl⟩)
        go_round
        case rel => exact ⟨k + 1, by omega, by go_num, by show (l.take (k+1)).all right = true; rw [List.take_succ_eq_append_getElem hlt, List.all_append, hall.out]; simp [hr]⟩
        case measure => simp [intOf]; omega
      · have hr' : right l[k] = false := by simpa using hr
        have hE : joinE l = 16 := by
          unfold joinE
          rw [if_neg]
          intro h
          exact hr (List.all_eq_true.1 h _ (List.getElem_mem hlt))
        have hS : joinS l = ByteArray.empty := by unfold joinS; rw [if_neg (by rw [hE]; decide)]
        have fin := Lib.hid (And.intro hS hE)
        clear hr hE hS
        go_wp2_with (go_at_call 42; refine (rright_any _ _).mono ?_; rintro e w' ⟨rfl, rfl⟩)
        go_ret2
        exact ⟨ret_strerr fin.out.1.symm fin.out.2.symm, Below.refl _ _⟩
    · have hA := Lib.hid (show l.all right = true by have := hall.out; rwa [List.take_of_length_le (by omega)] at this)
      clear hall
      go_wp2_with fail
      go_loopw [5, 6] (fun bv i wr => ∃ k : Nat, k ≤ l.length ∧ i = .int .i64 k ∧ (joinB (l.take k)).length ≤ 65535 ∧ wr.ownsRow w.heap.size 5 1 bv (joinB (l.take k)).length ((joinB (l.take k)).map (Value.int .u8)) ∧ Below w.heap.size w wr) (fun _ i _ => l.length - (intOf i).toNat)
      case atStart => exact ⟨0, Nat.zero_le _, rfl, Nat.zero_le _, World.ownsRow_made w #[] 0 (Nat.le_refl _) (Nat.zero_le _) rfl, (Below.refl _ _).alloc (Nat.le_refl _) _⟩
      case round =>
        obtain ⟨j, hj, rfl, hlen, hown, hbel⟩ := hrel
        by_cases hjl : j < l.length
        · obtain ⟨b, off, rfl, hcell⟩ := HC.out (ne_map hjl)
          have c1 := slc_cell hcell hbel j hjl
          clear hcell
          have hr : right l[j] = true := List.all_eq_true.1 hA.out _ (List.getElem_mem hjl)
          have HR := Lib.hid hr; clear hr
          have hes := Lib.hid (enc_size l[j])
          have hel := encL_len l[j]
          go_wp2_with fail
          refine (rput_any _ HR.out _).mono ?_
          rintro e w' ⟨rfl, hb2⟩
          have hown2 := own_later (own_later hown hb2) (below_bytes w' 5 (enc l[j]))
          have hbel2 := hbel.trans (hb2.mono hbel.size)
          have hbel3 := hbel2.trans ((below_bytes w' 5 (enc l[j])).mono hbel2.size)
          go_wp2_with (at_builtin; refine wpList_append_own _ rfl _ _ 52 rfl w.heap.size 5 i0 (.int .u8 0) 1 1 Try.underlying52 hi hz0 hz1 hz2 rfl (by decide) _ _ _ rfl hown2 ⟨w'.heap.size, 0, none⟩ (enc l[j]).size _ (Lib.strCells (enc l[j])) rfl (by rw [Lib.strCells_length]; simp) (bytes_cells _ _ _) (Lib.strCells_oneCell _) (by rw [hes.out]; unfold maxLen; omega) (by rw [hes.out]; omega) hbel3.size ?_)
          intro v' w1 hown' hgrow _
          have hb1 : Below w.heap.size w w1 := hbel3.grown hgrow hbel3.size (fun k hk => (hown2.lt k hk).1)
          have hown1 : w1.ownsRow w.heap.size 5 1 v' (joinB (l.take (j+1))).length ((joinB (l.take (j+1))).map (Value.int .u8)) := by
            rw [joinB_take l j hjl, List.map_append, ← strCells_enc _ HR.out, List.length_append, ← hes.out]; exact hown'
          have hlen2 := Lib.hid (show (joinB (l.take (j+1))).length = (joinB (l.take j)).length + (encL l[j]).length by rw [joinB_take l j hjl, List.length_append])
          clear hown' hgrow hown hown2 hbel hbel2 hbel3
          obtain ⟨aB, capB, hB, _⟩ := Slc.own hown1
          simp only [List.length_map] at hB
          subst hB
          by_cases hbig : 65535 < (joinB (l.take (j+1))).length
          · have hE : joinE l = 2 := by
              have h2 := joinB_le l (j + 1)
              unfold joinE; rw [if_pos hA.out, if_pos (by omega)]
            have hS : joinS l = ByteArray.empty := by unfold joinS; rw [if_neg (by rw [hE]; decide)]
            have fin := Lib.hid (And.intro hS hE)
            clear hE hS
            go_wp2_with fail
            go_ret2
            exact ⟨ret_strerr fin.out.1.symm fin.out.2.symm, hb1⟩
          · have hlen1 : (joinB (l.take (j+1))).length ≤ 65535 := by omega
            clear hbig
            go_wp2_with fail
            go_roundw
            case rel => exact ⟨j + 1, by omega, by go_num, hlen1, hown1, hb1⟩
            case measure => simp [intOf]; omega
        · rw [List.take_of_length_le (by omega)] at hlen hown
          have hE : joinE l = 0 := by unfold joinE; rw [if_pos hA.out, if_neg (by omega)]
          have hS : joinS l = strOfNums (joinB l) := if_pos hE
          have fin := Lib.hid (And.intro hS hE)
          clear hE hS
          have hcv := cv_own hown
          clear hown
          go_wp2_with fail
          go_ret2
          exact ⟨ret_strerr fin.out.1.symm fin.out.2.symm, hbel⟩
end Go.Proofs.Ytapbjjjlilfmdaa

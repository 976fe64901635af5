import Derived.Test.YtapbjjjlilfmdaaUtf9
import Derived.Lib.AppendStr
import Derived.Lib.ConvBytes
namespace Go.Proofs.Ytapbjjjlilfmdaa
open Go.RowKit
def joinB (l : List Int) : List Int := l.flatMap encL
def joinE (l : List Int) : Int := if l.all right = true then (if 65535 < (joinB l).length then 2 else 0) else 16
def joinS (l : List Int) : ByteArray := if joinE l = 0 then strOfNums (joinB l) else ByteArray.empty
theorem strCells_enc (n : Int) (h : right n = true) : Lib.strCells (enc n) = (encL n).map (Value.int .u8) := by
  have h2 := nats_enc n h
  unfold nats encN at h2
  have h3 : Lib.strCells (enc n) = ((enc n).data.toList.map UInt8.toNat).map (fun c : Nat => Value.int .u8 (c : Int)) := by
    simp [Lib.strCells]
  rw [h3, h2, List.map_map]
  refine List.map_congr_left fun c hc => ?_
  have : 0 ≤ c := by
    rcases ranges n h with h | h | h | h
    · rw [encL1 n h.2] at hc; simp at hc; omega
    · rw [encL2 n h.1 h.2] at hc; simp at hc; omega
    · rw [encL3 n h.1 h.2] at hc; simp at hc; omega
    · rw [encL4 n h.1] at hc; simp at hc; omega
  show Value.int .u8 ((c.toNat : Nat) : Int) = Value.int .u8 c
  rw [Int.toNat_of_nonneg this]
theorem enc_size (n : Int) : (enc n).size = (encL n).length := strOfNums_size _
theorem joinB_take (l : List Int) (k : Nat) (h : k < l.length) : joinB (l.take (k + 1)) = joinB (l.take k) ++ encL l[k] := by
  unfold joinB; rw [List.take_succ_eq_append_getElem h]; simp only [List.flatMap_append, List.flatMap_cons, List.flatMap_nil, List.append_nil]
theorem joinB_le (l : List Int) (k : Nat) : (joinB (l.take k)).length ≤ (joinB l).length := by
  have : joinB l = joinB (l.take k) ++ joinB (l.drop k) := by unfold joinB; rw [← List.flatMap_append, List.take_append_drop]
  rw [this, List.length_append]; omega
theorem encL_len (n : Int) : 1 ≤ (encL n).length ∧ (encL n).length ≤ 4 := by
  unfold encL; constructor <;> (repeat' split) <;> simp
/-- a cell of a slice that is read, in a later world -/
theorem slc_cell {w w' : World} {xs : List Int} {k : IntKind} {b off : Nat} (h : ∀ i, i < xs.length → w.cell? ⟨b, off + i, none⟩ = (xs.map (Value.int k))[i]?) (hb : Below w.heap.size w w') (i : Nat) (hi : i < xs.length) :
    w'.cell? ⟨b, off + i, none⟩ = some (.int k xs[i]) := by
  have := h i hi
  rw [List.getElem?_map, List.getElem?_eq_getElem hi] at this
  rw [hb.cell (World.block_lt_of_cell? w _ this), this]; rfl
theorem ne_map {xs : List Int} {k : IntKind} {i : Nat} (h : i < xs.length) : xs.map (Value.int k) ≠ [] := by
  intro e; rw [List.map_eq_nil_iff] at e; rw [e] at h; simp at h
set_option maxRecDepth 100000 in
set_option maxHeartbeats 1000000 in
theorem join_any (l : List Int) (v : Value) (w : World) (hv : Slc w v (l.map (Value.int .i64))) :
    Calls Try.prog 48 #[v] w fun e w' => e = .returned (.tuple #[.string (joinS l), .int .i64 (joinE l)]) ∧ Below w.heap.size w w' := by
  obtain ⟨i0, hi, hz0, hz1, hz2⟩ := info_parts info5
  obtain ⟨a, cap, rfl, hm, hc⟩ := hv
  have HC := Lib.hid hc; clear hc
  simp only [List.length_map] at *
  unfold maxLen at hm
  go_enter Try.func48, Try.ntmps48
  go_wp2_with fail
  go_loop [13] (fun i => ∃ k : Nat, k ≤ l.length ∧ i = .int .i64 k ∧ Hid ((l.take k).all right = true)) (fun i => l.length - (intOf i).toNat)
  case atStart => exact ⟨0, Nat.zero_le _, rfl, rfl⟩
  case round =>
    obtain ⟨k, hk, rfl, hall⟩ := hrel
    by_cases hlt : k < l.length
    · obtain ⟨b, off, rfl, hcell⟩ := HC.out (ne_map hlt)
      have c1 := slc_cell hcell (Below.refl _ _) k hlt
      clear hcell
      by_cases hr : right l[k] = true
      · go_wp2_with (go_at_call 40; refine (right_any _ _).mono ?_; rintro e w' ⟨rfl, rfl⟩)
        go_round
        case rel => exact ⟨k + 1, by omega, by go_num, by show (l.take (k+1)).all right = true; rw [List.take_succ_eq_append_getElem hlt, List.all_append, hall.out]; simp [hr]⟩
        case measure => simp [intOf]; omega
      · have hr' : right l[k] = false := by simpa using hr
        have hE : joinE l = 16 := by
          unfold joinE
          rw [if_neg]
          intro h
          exact hr (List.all_eq_true.1 h _ (List.getElem_mem hlt))
        have hS : joinS l = ByteArray.empty := by unfold joinS; rw [if_neg (by rw [hE]; decide)]
        have fin := Lib.hid (And.intro hS hE)
        clear hr hE hS
        go_wp2_with (go_at_call 40; refine (right_any _ _).mono ?_; rintro e w' ⟨rfl, rfl⟩)
        go_ret2
        exact ⟨ret_strerr fin.out.1.symm fin.out.2.symm, Below.refl _ _⟩
    · have hA := Lib.hid (show l.all right = true by have := hall.out; rwa [List.take_of_length_le (by omega)] at this)
      clear hall
      go_wp2_with fail
      go_loopw [6, 23] (fun bv i wr => ∃ k : Nat, k ≤ l.length ∧ i = .int .i64 k ∧ (joinB (l.take k)).length ≤ 65535 ∧ wr.ownsRow w.heap.size 5 1 bv (joinB (l.take k)).length ((joinB (l.take k)).map (Value.int .u8)) ∧ Below w.heap.size w wr) (fun _ i _ => l.length - (intOf i).toNat)
      case atStart => exact ⟨0, Nat.zero_le _, rfl, Nat.zero_le _, World.ownsRow_nil _ _ _ _, Below.refl _ _⟩
      case round =>
        obtain ⟨j, hj, rfl, hlen, hown, hbel⟩ := hrel
        by_cases hjl : j < l.length
        · obtain ⟨b, off, rfl, hcell⟩ := HC.out (ne_map hjl)
          have c1 := slc_cell hcell hbel j hjl
          clear hcell
          have hr : right l[j] = true := List.all_eq_true.1 hA.out _ (List.getElem_mem hjl)
          have e1 : putS l[j] = enc l[j] := if_pos hr
          have HR := Lib.hid hr; clear hr
          have hes := enc_size l[j]
          have hel := encL_len l[j]
          obtain ⟨aB, capB, hB, _⟩ := Slc.own hown
          simp only [List.length_map] at hB
          subst hB
          go_wp2_with fail
          refine (put_any _ _).mono ?_
          rintro e w' ⟨rfl, hb2⟩
          have hown2 := own_later hown hb2
          have hbel2 := hbel.trans (hb2.mono hbel.size)
          by_cases hbig : 65535 < (joinB (l.take j)).length + (encL l[j]).length
          · have hE : joinE l = 2 := by
              have h1 := joinB_take l j hjl
              have h2 := joinB_le l (j + 1)
              rw [h1, List.length_append] at h2
              unfold joinE; rw [if_pos hA.out, if_pos (by omega)]
            have hS : joinS l = ByteArray.empty := by unfold joinS; rw [if_neg (by rw [hE]; decide)]
            have fin := Lib.hid (And.intro hS hE)
            clear hE hS
            go_wp2_with fail
            go_ret2
            exact ⟨ret_strerr fin.out.1.symm fin.out.2.symm, hbel2⟩
          · have hb3 : (joinB (l.take j)).length + (encL l[j]).length ≤ 65535 := by omega
            clear hbig
            go_wp2_with (at_builtin; refine Lib.wpList_append_own_string _ rfl _ _ 52 9 rfl w.heap.size 5 i0 Try.underlying52 Try.underlying9 hi hz0 hz1 hz2 _ _ _ rfl hown2 (enc l[j]) rfl (by unfold maxLen; omega) (by omega) hbel2.size ?_)
            intro v' w1 hown' hgrow _
            have hb1 : Below w.heap.size w w1 := hbel2.grown hgrow hbel2.size (fun k hk => (hown2.lt k hk).1)
            have hown1 : w1.ownsRow w.heap.size 5 1 v' (joinB (l.take (j+1))).length ((joinB (l.take (j+1))).map (Value.int .u8)) := by
              rw [joinB_take l j hjl, List.map_append, ← strCells_enc _ HR.out, List.length_append]; exact hown'
            have hlen1 : (joinB (l.take (j+1))).length ≤ 65535 := by rw [joinB_take l j hjl, List.length_append]; exact hb3
            clear hown' hgrow hown hown2 hbel hbel2
            go_wp2_with fail
            go_roundw
            case rel => exact ⟨j + 1, by omega, by go_num, hlen1, hown1, hb1⟩
            case measure => simp [intOf]; omega
        · rw [List.take_of_length_le (by omega)] at hlen hown
          have hE : joinE l = 0 := by unfold joinE; rw [if_pos hA.out, if_neg (by omega)]
          have hS : joinS l = strOfNums (joinB l) := if_pos hE
          have fin := Lib.hid (And.intro hS hE)
          clear hE hS
          have hcv := cv_own hown
          clear hown
          go_wp2_with fail
          go_ret2
          exact ⟨ret_strerr fin.out.1.symm fin.out.2.symm, hbel⟩
end Go.Proofs.Ytapbjjjlilfmdaa

import Derived.Test.YtffgfjnbgplckaaNd1
import Derived.Test.YtffgfjnbgplckaaRows
import Derived.StillTailTactics
import Derived.BigQuiet
namespace Go.Proofs.Ytffgfjnbgplckaa
open Go.RowKit
/-- the five cells of a boxed node, later -/
theorem box5_cells {w w1 : World} {x y z u v : Value} {T : TypeId} (hb : Below (w.heap.size + 1) (w.alloc (.cells #[x, y, z, u, v] T)) w1) :
    w1.cell? ⟨w.heap.size, 0, none⟩ = some x ∧ w1.cell? ⟨w.heap.size, 1, none⟩ = some y ∧ w1.cell? ⟨w.heap.size, 2, none⟩ = some z ∧ w1.cell? ⟨w.heap.size, 3, none⟩ = some u ∧ w1.cell? ⟨w.heap.size, 4, none⟩ = some v :=
  ⟨(hb.cell (by simp)).trans (by simp), (hb.cell (by simp)).trans (by simp), (hb.cell (by simp)).trans (by simp), (hb.cell (by simp)).trans (by simp), (hb.cell (by simp)).trans (by simp)⟩
set_option maxRecDepth 100000 in
set_option maxHeartbeats 1000000 in
theorem size_any : ∀ (t : Nd) (cs : List Value) (h : Int) (w : World), 0 ≤ h → h ≤ 8192 → NdC w t cs →
    Calls Try.prog 52 #[.agg cs.toArray, .int .i64 h] w fun e w' => e = .returned (.int .i64 (szT t h)) ∧ Below w.heap.size w w' := by
  refine Nd.ind ?_
  intro kk aa ss n sub ih cs h w h0 h1 ht
  obtain ⟨a, cap, rfl, hsub, hlen, hnsa⟩ := nd_open ht
  simp only [Nd.kind, Nd.at, Nd.name, Nd.num, Nd.sub] at *
  have IH := Lib.hid ih
  clear ht ih
  go_enter Try.func52, Try.ntmps52
  go_wp2_with fail
  go_loopw [1, 12] (fun x i wr => ∃ k : Nat, k ≤ sub.length ∧ i = .int .i64 k ∧ ∃ g : Int, x = .int .i64 g ∧ 0 ≤ g ∧ g ≤ 8193 ∧ Hid (szL (sub.drop k) g = szL sub (h + 1)) ∧ Below w.heap.size w wr) (fun _ i _ => sub.length - (intOf i).toNat)
  case atStart => exact ⟨0, Nat.zero_le _, rfl, h + 1, rfl, by omega, by omega, rfl, (Below.refl _ _).alloc (Nat.le_refl _) _⟩
  case round =>
    obtain ⟨k, hk, rfl, g, rfl, hg0, hg1, HG, hbel⟩ := hrel
    by_cases hlt : k < sub.length
    · obtain ⟨b, off, a', cap', rfl, e0, e1, e2, e3, e4, hts⟩ := sub_at hsub hbel k hlt
      have hdrop := Lib.hid (List.drop_eq_getElem_cons hlt)
      by_cases hbig : 8192 < g
      · have fin : Hid (g = szT (.mk kk aa ss n sub) h) := by
          have := HG.out
          rw [szL_big _ _ hbig] at this
          show g = _
          simp only [szT]; exact this
        go_wp2_with fail
        go_ret
        exact ⟨ret_int fin.out, (hbel.alloc hbel.size _)⟩
      · have hg2 : g ≤ 8192 := by omega
        have hnext : Hid (szL (sub.drop (k + 1)) (szT sub[k] g) = szL sub (h + 1)) := by
          have := HG.out
          rw [hdrop.out] at this
          simp only [szL] at this
          rw [if_neg hbig] at this; exact this
        have hbd := sz_bd sub[k] g hg0 hg2
        clear hbig HG
        go_wp2_with fail
        have hd : Below wr.heap.size wr (wr.alloc (.cells #[.int .i64 sub[k].kind, .int .i64 sub[k].at, .string sub[k].name, .int .i64 sub[k].num, .slice a' sub[k].sub.length cap'] 24)) := (Below.refl _ _).alloc (Nat.le_refl _) _
        refine (IH.out _ (List.getElem_mem hlt) _ g _ hg0 hg2 (hts.later hd)).mono ?_
        rintro e w' ⟨rfl, hb2⟩
        have hbel2 := hbel.trans ((hd.trans (hb2.mono (by simp))).mono hbel.size)
        clear hb2 hts hd
        go_wp2_with fail
        go_roundw
        case rel => exact ⟨k + 1, by omega, by go_num, _, rfl, by omega, hbd.2, hnext, hbel2⟩
        case measure => simp [intOf]; omega
    · have fin : Hid (g = szT (.mk kk aa ss n sub) h) := by
        have := HG.out
        rw [List.drop_of_length_le (by omega)] at this
        simp only [szL] at this
        show g = _
        simp only [szT]; exact this
      go_wp2_with fail
      go_ret
      exact ⟨ret_int fin.out, hbel⟩
set_option maxRecDepth 100000 in
set_option maxHeartbeats 1000000 in
theorem deep_any : ∀ (t : Nd) (cs : List Value) (h : Int) (w : World), 0 ≤ h → h ≤ 129 → NdC w t cs →
    Calls Try.prog 53 #[.agg cs.toArray, .int .i64 h] w fun e w' => e = .returned (.int .i64 (dpT t h)) ∧ Below w.heap.size w w' := by
  refine Nd.ind ?_
  intro kk aa ss n sub ih cs h w h0 h1 ht
  obtain ⟨a, cap, rfl, hsub, hlen, hnsa⟩ := nd_open ht
  simp only [Nd.kind, Nd.at, Nd.name, Nd.num, Nd.sub] at *
  have IH := Lib.hid ih
  clear ht ih
  by_cases hb : 128 < h
  · have fin : Hid (dpT (.mk kk aa ss n sub) h = h) := by show _ = _; simp only [dpT]; rw [if_pos hb]
    go_enter Try.func53, Try.ntmps53
    go_wp2_with fail
    go_ret
    exact ⟨ret_int fin.out.symm, (Below.refl _ _).alloc (Nat.le_refl _) _⟩
  · have fin : Hid (dpT (.mk kk aa ss n sub) h = dpL sub h h) := by show _ = _; simp only [dpT]; rw [if_neg hb]
    have hb2 : h ≤ 128 := by omega
    clear hb
    go_enter Try.func53, Try.ntmps53
    go_wp2_with fail
    go_loopw [5, 15] (fun x i wr => ∃ k : Nat, k ≤ sub.length ∧ i = .int .i64 k ∧ ∃ g : Int, x = .int .i64 g ∧ 0 ≤ g ∧ g ≤ 129 ∧ Hid (dpL (sub.drop k) h g = dpL sub h h) ∧ Below w.heap.size w wr) (fun _ i _ => sub.length - (intOf i).toNat)
    case atStart => exact ⟨0, Nat.zero_le _, rfl, h, rfl, by omega, by omega, rfl, (Below.refl _ _).alloc (Nat.le_refl _) _⟩
    case round =>
      obtain ⟨k, hk, rfl, g, rfl, hg0, hg1, HG, hbel⟩ := hrel
      by_cases hlt : k < sub.length
      · obtain ⟨b, off, a', cap', rfl, e0, e1, e2, e3, e4, hts⟩ := sub_at hsub hbel k hlt
        have hnext : Hid (dpL (sub.drop (k + 1)) h (if g < dpT sub[k] (h + 1) then dpT sub[k] (h + 1) else g) = dpL sub h h) := by
          have := HG.out
          rw [List.drop_eq_getElem_cons hlt] at this
          simp only [dpL, max_if] at this; exact this
        have hbd := dp_bd sub[k] (h + 1) (by omega)
        go_wp2_with fail
        have hd : Below wr.heap.size wr (wr.alloc (.cells #[.int .i64 sub[k].kind, .int .i64 sub[k].at, .string sub[k].name, .int .i64 sub[k].num, .slice a' sub[k].sub.length cap'] 24)) := (Below.refl _ _).alloc (Nat.le_refl _) _
        refine (IH.out _ (List.getElem_mem hlt) _ (h + 1) _ (by omega) (by omega) (hts.later hd)).mono ?_
        rintro e w' ⟨rfl, hb3⟩
        have hbel2 := hbel.trans ((hd.trans (hb3.mono (by simp))).mono hbel.size)
        clear hb3 hts hd
        go_wp2_with fail
        go_roundw
        case rel => exact ⟨k + 1, by omega, by go_num, _, rfl, by omega, by omega, hnext, hbel2⟩
        case measure => simp [intOf]; omega
      · have fin2 : Hid (g = dpL sub h h) := by
          have := HG.out
          rw [List.drop_of_length_le (by omega)] at this
          simp only [dpL] at this; exact this
        go_wp2_with fail
        go_ret
        exact ⟨ret_int (by rw [fin.out, fin2.out]), hbel⟩
theorem size0_any (t : Nd) (cs : List Value) (w : World) (ht : NdC w t cs) :
    Calls Try.prog 18 #[.agg cs.toArray] w fun e w' => e = .returned (.int .i64 (sizeT t)) ∧ Below w.heap.size w w' := by
  have ht0 := ht
  obtain ⟨a, cap, rfl, hsub, hlen, hnsa⟩ := nd_open ht
  have hd : Below w.heap.size w (w.alloc (.cells #[.int .i64 t.kind, .int .i64 t.at, .string t.name, .int .i64 t.num, .slice a t.sub.length cap] 24)) := (Below.refl _ _).alloc (Nat.le_refl _) _
  go_enter Try.func18, Try.ntmps18
  go_wp2_with fail
  refine (size_any t _ 0 _ (by omega) (by omega) (ht0.later hd)).mono ?_
  rintro e w1 ⟨rfl, hb1⟩
  go_wp2_with fail
  go_ret
  exact ⟨rfl, hd.trans (hb1.mono hd.size)⟩
set_option maxHeartbeats 400000 in
theorem depth_any (t : Nd) (cs : List Value) (w : World) (ht : NdC w t cs) :
    Calls Try.prog 19 #[.agg cs.toArray] w fun e w' => e = .returned (.int .i64 (depthT t)) ∧ Below w.heap.size w w' := by
  have ht0 := ht
  obtain ⟨a, cap, rfl, hsub, hlen, hnsa⟩ := nd_open ht
  have hd : Below w.heap.size w (w.alloc (.cells #[.int .i64 t.kind, .int .i64 t.at, .string t.name, .int .i64 t.num, .slice a t.sub.length cap] 24)) := (Below.refl _ _).alloc (Nat.le_refl _) _
  by_cases hb : 8192 < sizeT t
  · have fin : Hid (depthT t = 129) := if_pos hb
    go_enter Try.func19, Try.ntmps19
    go_wp2_with (go_at_call 18; refine (size0_any t _ _ (ht0.later hd)).mono ?_; rintro e w1 ⟨rfl, hb1⟩)
    go_ret
    exact ⟨ret_int fin.out.symm, hd.trans (hb1.mono hd.size)⟩
  · have fin : Hid (depthT t = dpT t 1) := if_neg hb
    go_enter Try.func19, Try.ntmps19
    go_wp2_with fail
    refine (size0_any t _ _ (ht0.later hd)).mono ?_
    rintro e w1 ⟨rfl, hb1⟩
    obtain ⟨c0, c1, c2, c3, c4⟩ := box5_cells (by simpa using hb1)
    have hw1 := hd.trans (hb1.mono hd.size)
    clear hb1
    go_wp2_with fail
    refine (deep_any t _ 1 _ (by omega) (by omega) (ht0.later hw1)).mono ?_
    rintro e w2 ⟨rfl, hb2⟩
    go_wp2_with fail
    go_ret
    exact ⟨ret_int fin.out.symm, hw1.trans (hb2.mono hw1.size)⟩
/-- is a node neither too great nor too deep -/
def smallB (t : Nd) : Bool := decide (depthT t ≤ 128)
theorem small_any (t : Nd) (cs : List Value) (w : World) (ht : NdC w t cs) :
    Calls Try.prog 48 #[.agg cs.toArray] w fun e w' => e = .returned (.bool (smallB t)) ∧ Below w.heap.size w w' := by
  have ht0 := ht
  obtain ⟨a, cap, rfl, hsub, hlen, hnsa⟩ := nd_open ht
  have hd : Below w.heap.size w (w.alloc (.cells #[.int .i64 t.kind, .int .i64 t.at, .string t.name, .int .i64 t.num, .slice a t.sub.length cap] 24)) := (Below.refl _ _).alloc (Nat.le_refl _) _
  go_enter Try.func48, Try.ntmps48
  go_wp2_with fail
  refine (depth_any t _ _ (ht0.later hd)).mono ?_
  rintro e w1 ⟨rfl, hb1⟩
  go_wp2_with fail
  go_ret
  exact ⟨rfl, hd.trans (hb1.mono hd.size)⟩
end Go.Proofs.Ytffgfjnbgplckaa

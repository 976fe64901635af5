import Derived.Test.YtackepdhcigdlaaTm57
import Derived.Shelf.Lay
import Derived.Shelf.Sort.Plain
import Derived.Shelf.Slices.In.SortNone
import Derived.Shelf.Slices.CompactI
import Derived.Ground.NamesProg
import Derived.Ground.Names2Prog
import Derived.Sort.OwnSortedInts
import Derived.Lib.OwnBridge
import Derived.Lib.RowBridge
namespace Go.Proofs.Ytackepdhcigdlaa
open Go.RowKit Go.Shelf
shelf_lay Lays.n189 Nm 189 at Try as Try.lays189
shelf_lay Lays2.n20 Nm2 20 at Try as Try.laysNm220
theorem own_block {w : World} {base e n : Nat} {u : Option Addr} {c : Nat} {N : List Int} (h : w.ownsRow base e 1 (.slice u n c) n (N.map (Value.int .i64))) (hn : N.length = n) (h0 : 0 < n) :
    ∃ g cur, u = some ⟨g, 0, none⟩ ∧ base ≤ g ∧ g < w.heap.size ∧ w.heap[g]? = some (.cells cur e (0, 0)) ∧ n ≤ c ∧ c ≤ maxLen ∧ cur.size = c * 1 ∧ cur.toList.take N.length = N.map (Value.int .i64) := by
  rcases h.2 with ⟨e0, _⟩ | ⟨g', cap', cur, e0, hb, hg, hn', hm, hs, ht⟩
  · cases e0; omega
  · injection e0 with e1 _ e3
    subst e1; subst e3
    have hlt : g' < w.heap.size := by
      obtain ⟨h1, _⟩ := Array.getElem?_eq_some_iff.1 hg; exact h1
    exact ⟨g', cur, rfl, hb, hlt, hg, hn', hm, hs, by rw [hn]; simpa using ht⟩
theorem slsort_any (N : List Int) (u : Option Addr) (c base : Nat) (w : World) (hN5 : N.length ≤ 50000) (hbase : base ≤ w.heap.size) (hown : w.ownsRow base 3 1 (.slice u N.length c) N.length (N.map (Value.int .i64))) :
    Calls Try.prog 75 #[.slice u N.length c] w fun e w' => e = .returned (.tuple #[]) ∧ w'.ownsRow base 3 1 (.slice u N.length c) N.length ((N.mergeSort fun x y => decide (x ≤ y)).map (Value.int .i64)) ∧ Below base w w' := by
  by_cases h0 : 0 < N.length
  · obtain ⟨g, cur, rfl, hb, hlt, hg, hnc, hm, hs, ht⟩ := own_block hown rfl h0
    have H := Any.slices_Sort_int Try.lays189 g 0 c N w (holds_of_blockI hg ht) hlt (by omega)
    refine H.mono ?_
    rintro e w' ⟨rfl, n, os, rfl⟩
    refine ⟨rfl, ownsRow_sortedI (by simp) hb hg hnc hm hs, ?_⟩
    exact (Below.refl base w).grown (grownBy_sortedI _) hbase (fun k hk => by cases hk; exact hb)
  · have hN : N = [] := List.length_eq_zero_iff.1 (by omega)
    subst hN
    refine (Any.slices_Sort_int_none Try.lays189 u c w).mono ?_
    rintro e w' ⟨rfl, rfl⟩
    exact ⟨rfl, by simpa using hown, Below.refl _ _⟩
theorem slcompact_any (N : List Int) (u : Option Addr) (c base : Nat) (w : World) (hown : w.ownsRow base 3 1 (.slice u N.length c) N.length (N.map (Value.int .i64))) :
    Calls Try.prog 76 #[.slice u N.length c] w fun e w' => e = .returned (.slice u (Lib.compact N).length c) ∧ w'.ownsRow base 3 1 (.slice u (Lib.compact N).length c) (Lib.compact N).length ((Lib.compact N).map (Value.int .i64)) ∧ Below base w w' := by
  by_cases h0 : 0 < N.length
  · obtain ⟨g, cur, rfl, hb, hlt, hg, hnc, hm, hs, ht⟩ := own_block hown rfl h0
    have hle := Lib.compact_length_le N
    have H := Any.slices_Compact_int Try.laysNm220 g 0 c N w (holds_of_blockI hg ht) (by unfold maxLen at hm; omega) hnc
    refine H.mono ?_
    rintro e w' ⟨rfl, q, rfl⟩
    have h := Lib.ownsRow_putRow (q := q) (ys := Lib.compact N ++ List.replicate (N.length - (Lib.compact N).length) 0) hown (by simp; omega) hle
    rw [List.take_left'] at h
    · exact ⟨rfl, h, Lib.below_putRow (Below.refl _ _) hb⟩
    · rfl
  · have hN : N = [] := List.length_eq_zero_iff.1 (by omega)
    subst hN
    refine (Any.slices_Compact_int_empty Try.laysNm220 u c w).mono ?_
    rintro e w' ⟨rfl, rfl⟩
    exact ⟨rfl, hown, Below.refl _ _⟩
theorem rising_any (a b : Int) (t : Tm) (u : Option Addr) (c base : Nat) (w : World) (hnd : ndT t ≤ 20000) (hbase : base ≤ w.heap.size) (hown : w.ownsRow base 3 1 (.slice u (clT a b t).length c) (clT a b t).length ((clT a b t).map (Value.int .i64))) :
    Calls Try.prog 58 #[.slice u (clT a b t).length c] w fun e w' => e = .returned (.slice u (nmT a b t).length c) ∧ w'.ownsRow base 3 1 (.slice u (nmT a b t).length c) (nmT a b t).length ((nmT a b t).map (Value.int .i64)) ∧ Below base w w' := by
  have hR := rise_nm a b t
  have S1 := Lib.hid (slsort_any _ u c base w (by have := cl_len a b t; omega) hbase hown)
  have hml : ((clT a b t).mergeSort fun x y => decide (x ≤ y)).length = (clT a b t).length := List.length_mergeSort _
  rw [← hml] at S1 ⊢
  generalize ((clT a b t).mergeSort fun x y => decide (x ≤ y)) = S at *
  generalize nmT a b t = R at *
  clear hown hml
  have HR := Lib.hid hR
  clear hR
  go_enter Try.func58, Try.ntmps58
  go_wp2_with fail
  refine S1.out.mono ?_
  rintro e w1 ⟨rfl, ho1, hb1⟩
  have C := Lib.hid (slcompact_any S u c base w1 ho1)
  have HB1 := Lib.hid hb1
  clear ho1 hb1 S1
  go_wp2_with fail
  refine C.out.mono ?_
  rw [HR.out]
  rintro e w2 ⟨rfl, ho2, hb2⟩
  have HO := Lib.hid ho2
  have HB := Lib.hid (HB1.out.trans hb2)
  clear ho2 hb2 C
  go_wp2_with fail
  go_ret
  exact ⟨rfl, HO.out, HB.out⟩
end Go.Proofs.Ytackepdhcigdlaa

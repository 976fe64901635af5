import Derived.Test.YtapbjjjlilfmdaaN12
import Derived.SliceStrings
import Derived.ChangeArms
import Derived.ChangeSlices
import Derived.OpenShut
import Derived.ChangeShapes
namespace Go.Proofs.Ytapbjjjlilfmdaa
open Go.RowKit Go.WideMaps
section
variable {H : Type} {enc : TypeId × Value → H} {w : World} {base : Nat} {spare : Nat → Bool} {held : Bool}
theorem open_names {n : Nat} {cs : List Value} {x : DataW H × List MemPlace} (h : DataW.trod enc Try.prog w base spare held n 24 cs = some x) : ∃ (a : Option Addr) (len cap : Nat) (ss : List ByteArray), cs = [.slice a len cap] ∧ (∀ s ∈ ss, s.size ≤ maxLen) ∧ Slc w (.slice a len cap) (ss.map Value.string) := by
  rcases Go.ChangeShapes.open_strings Try.underlying24 Try.underlying9 (by kernel_rfl) h with ⟨rfl, _⟩ | ⟨a, len, cap, ss, rfl, _, hl, hm, hlen, _, hcell, hsz⟩
  · exact ⟨none, 0, 0, [], rfl, (fun s hs => by cases hs), Slc.nil w⟩
  · have hle : len ≤ ss.length := by rw [hlen]; split <;> omega
    have htl : (ss.take len).length = len := by rw [List.length_take]; omega
    refine ⟨some a, len, cap, ss.take len, rfl, fun s hs => hsz s (List.mem_of_mem_take hs), some a, cap, by rw [List.length_map, htl], by rw [List.length_map, htl]; omega, fun hne => ?_⟩
    have hl0 : 0 < len := by
      cases hz : len with
      | zero => rw [hz] at hne; simp at hne
      | succ m => omega
    have hs0 := hcell 0 (by omega)
    have hsp : a.spot = none := by
      have := hs0
      simp only [Addr.add, if_true] at this
      exact spot_none this
    refine ⟨a.block, a.off, by cases a; simp_all, fun i hi => ?_⟩
    simp only [List.length_map, htl] at hi
    have h1 := hcell i (by omega)
    rw [addr_add hsp] at h1
    rw [h1, List.getElem?_map, List.getElem?_take_of_lt hi, List.getElem?_eq_getElem (by omega), List.getD_eq_getElem?_getD, List.getElem?_eq_getElem (by omega)]
    rfl
end
set_option maxHeartbeats 1000000 in
theorem places_walk (v : Value) (l : List ByteArray) (s : ByteArray) (hsz : ∀ x ∈ l, x.size ≤ maxLen) (_hs : s.size ≤ maxLen) (w : World) (hv : Slc w v (l.map Value.string)) :
    Calls Try.prog 8 #[v, .string s] w fun e w' => e = .returned (.bool true) ∧ Below w.heap.size w w' := by
  have hv0 := hv
  obtain ⟨a, cap, rfl, hll, -⟩ := slc_shape hv
  rw [List.length_map] at hv hll hv0 ⊢
  have HV := Lib.hid hv0
  clear hv0 hv
  go_enter Try.func8, Try.ntmps8
  by_cases h3 : (300 : Int) < l.length
  · go_wp2_with fail
    refine (awake_any _).mono ?_
    rintro e w1 ⟨rfl, hb1⟩
    go_wp2_with fail
    go_ret
    exact ⟨rfl, hb1⟩
  · go_wp2_with fail
    refine (place_any l s _ w w HV.out (Below.refl _ _)).mono ?_
    rintro e w1 ⟨rfl, rfl⟩
    go_wp2_with fail
    refine (rplace_any l s _ w w HV.out (Below.refl _ _)).mono ?_
    rintro e w1 ⟨rfl, rfl⟩
    go_wp2_with fail
    refine (distinct_any l _ w HV.out hsz (by omega)).mono ?_
    rintro e w2 ⟨⟨b1, rfl, hd1⟩, hb2⟩
    go_wp2_with fail
    refine (rdistinct_any l _ w2 (HV.out.later hb2)).mono ?_
    rintro e w3 ⟨⟨b2, rfl, hd2⟩, rfl⟩
    have hbb : b1 = b2 := by rw [Bool.eq_iff_iff, hd1, hd2]
    subst hbb
    clear hd1 hd2
    go_wp2_with fail
    refine (awake_any _).mono ?_
    rintro e w4 ⟨rfl, hb4⟩
    go_wp2_with fail
    go_ret
    exact ⟨rfl, hb2.trans (hb4.mono hb2.size)⟩
end Go.Proofs.Ytapbjjjlilfmdaa

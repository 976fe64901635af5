import Derived.Test.YtdklpbefbamchaaGreatBE
import Derived.Test.YtdklpbefbamchaaGreatBA3
import Derived.Test.YtdklpbefbamchaaGreatBD
import Derived.Test.YtdklpbefbamchaaGreatSh
import Derived.Shelf.Sort.Plain
import Derived.Shelf.Slices.In.SortNone
import Derived.Shelf.Slices.CompactI
import Derived.Ground.NamesProg
import Derived.Ground.Names2Prog
import Derived.Sort.OwnSortedInts
import Derived.Lib.OwnBridge
import Derived.Lib.RowBridge
import Derived.BigQuiet
set_option linter.unusedSimpArgs false
set_option linter.unusedVariables false
set_option maxHeartbeats 16000000
set_option maxRecDepth 100000
namespace Go.Proofs.YtdklpbefbamchaaGreat
open Go.RowKit
theorem rgood_p : ∀ (t : Tm), PCalls Tryz.prog 62 [aggD t] [] fun p s => p = .d (.v (.bool (Qae t))) ∧ s = [] := by
  refine Tm.ind ?_
  intro k n sub ih
  have HR := Hh (show Qae (.mk k n sub) = (Qfn (.mk k n sub) && Qbw sub) by simp only [Qae])
  simp only [aggD, Jl, List.map_cons, List.map_nil, Jv, Jw, Jx]
  have IH := Hh ih
  clear ih
  by_cases hk : k = 1 ∨ k = 2 ∨ k = 3 ∨ k = 4 ∨ k = 5 ∨ k = 6 ∨ k = 7 ∨ k = 8
  rotate_left
  · have hf : Hid (Qae (.mk k n sub) = false) := by rw [show Qae (.mk k n sub) = _ from HR.out, Qbf (by omega)]; rfl
    rw [hf.out]
    have h1 : ¬ k = 1 := by omega
    have h2 : ¬ k = 2 := by omega
    have h3 : ¬ k = 3 := by omega
    have h4 : ¬ k = 4 := by omega
    have h5 : ¬ k = 5 := by omega
    have h6 : ¬ k = 6 := by omega
    have h7 : ¬ k = 7 := by omega
    have h8 : ¬ k = 8 := by omega
    clear hk HR hf
    refine pG Tryz.func62 Tryz.ntmps62 ?_
    refine Jd ?_
    intro i0 hi0
    refine go_ ?_
    refine rT Tryz.results62 ?_
    exact ⟨rfl, rfl⟩
  · rcases hk with rfl | rfl | rfl | rfl | rfl | rfl | rfl | rfl
    · by_cases hs : sub = []
      · by_cases h0 : n < 0
        · have hf : Hid (Qae (.mk 1 n sub) = false) := by rw [show Qae (.mk 1 n sub) = _ from HR.out, Qbf (fun h => absurd h.2.2.2.1 (by omega))]; rfl
          rw [hf.out]
          clear HR hf IH
          refine pG Tryz.func62 Tryz.ntmps62 ?_
          refine Jd ?_
          intro i0 hi0
          refine go_ ?_
          refine rT Tryz.results62 ?_
          exact ⟨rfl, rfl⟩
        · by_cases hm : 1048576 < n
          · have hf : Hid (Qae (.mk 1 n sub) = false) := by rw [show Qae (.mk 1 n sub) = _ from HR.out, Qbf (fun h => absurd h.2.2.2.2.1 (by simp [Qbj]; omega))]; rfl
            rw [hf.out]
            clear HR hf IH
            refine pG Tryz.func62 Tryz.ntmps62 ?_
            refine Jd ?_
            intro i0 hi0
            refine go_ ?_
            refine rT Tryz.results62 ?_
            exact ⟨rfl, rfl⟩
          · subst hs
            have HR2 : Hid (Qae (.mk 1 n []) = true) := by rw [show Qae (.mk 1 n []) = _ from HR.out, Qfk ⟨by decide, by decide, rfl, by omega, by simp [Qbj]; omega, .inl (by decide)⟩]; rfl
            generalize Qae (.mk 1 n []) = R at *
            clear HR
            refine pG Tryz.func62 Tryz.ntmps62 ?_
            refine Jd ?_
            intro i0 hi0
            refine go_ ?_
            refine Qai (ι := Unit) (fun _ => True) (fun _ => [(3, .d (.v (.int .i64 0))), (5, .d (.v (.int .i64 0)))]) (fun _ => []) (fun _ => 0) () trivial ?_ ?_ ?_
            · exact sU
            · exact dR
            · rintro _ _
              refine go_ ?_
              refine rT Tryz.results62 ?_
              exact ⟨by rw [HR2.out]; rfl, rfl⟩
      · have hf : Hid (Qae (.mk 1 n sub) = false) := by rw [show Qae (.mk 1 n sub) = _ from HR.out, Qbf (fun h => hs (List.eq_nil_of_length_eq_zero (by have := h.2.2.1; simp [Qbr] at this; first | exact this | (rw [this]; rfl))))]; rfl
        rw [hf.out]
        clear HR hf IH
        refine pG Tryz.func62 Tryz.ntmps62 ?_
        refine Jd ?_
        intro i0 hi0
        refine go_ ?_
        refine rT Tryz.results62 ?_
        exact ⟨rfl, rfl⟩
    · by_cases hs : sub = []
      · by_cases h0 : n < 0
        · have hf : Hid (Qae (.mk 2 n sub) = false) := by rw [show Qae (.mk 2 n sub) = _ from HR.out, Qbf (fun h => absurd h.2.2.2.1 (by omega))]; rfl
          rw [hf.out]
          clear HR hf IH
          refine pG Tryz.func62 Tryz.ntmps62 ?_
          refine Jd ?_
          intro i0 hi0
          refine go_ ?_
          refine rT Tryz.results62 ?_
          exact ⟨rfl, rfl⟩
        · by_cases hm : 7 < n
          · have hf : Hid (Qae (.mk 2 n sub) = false) := by rw [show Qae (.mk 2 n sub) = _ from HR.out, Qbf (fun h => absurd h.2.2.2.2.1 (by simp [Qbj]; omega))]; rfl
            rw [hf.out]
            clear HR hf IH
            refine pG Tryz.func62 Tryz.ntmps62 ?_
            refine Jd ?_
            intro i0 hi0
            refine go_ ?_
            refine rT Tryz.results62 ?_
            exact ⟨rfl, rfl⟩
          · subst hs
            have HR2 : Hid (Qae (.mk 2 n []) = true) := by rw [show Qae (.mk 2 n []) = _ from HR.out, Qfk ⟨by decide, by decide, rfl, by omega, by simp [Qbj]; omega, .inl (by decide)⟩]; rfl
            generalize Qae (.mk 2 n []) = R at *
            clear HR
            refine pG Tryz.func62 Tryz.ntmps62 ?_
            refine Jd ?_
            intro i0 hi0
            refine go_ ?_
            refine Qai (ι := Unit) (fun _ => True) (fun _ => [(3, .d (.v (.int .i64 0))), (5, .d (.v (.int .i64 0)))]) (fun _ => []) (fun _ => 0) () trivial ?_ ?_ ?_
            · exact sU
            · exact dR
            · rintro _ _
              refine go_ ?_
              refine rT Tryz.results62 ?_
              exact ⟨by rw [HR2.out]; rfl, rfl⟩
      · have hf : Hid (Qae (.mk 2 n sub) = false) := by rw [show Qae (.mk 2 n sub) = _ from HR.out, Qbf (fun h => hs (List.eq_nil_of_length_eq_zero (by have := h.2.2.1; simp [Qbr] at this; first | exact this | (rw [this]; rfl))))]; rfl
        rw [hf.out]
        clear HR hf IH
        refine pG Tryz.func62 Tryz.ntmps62 ?_
        refine Jd ?_
        intro i0 hi0
        refine go_ ?_
        refine rT Tryz.results62 ?_
        exact ⟨rfl, rfl⟩
    · by_cases hs : sub.length = 2
      · by_cases h0 : n < 0
        · have hf : Hid (Qae (.mk 3 n sub) = false) := by rw [show Qae (.mk 3 n sub) = _ from HR.out, Qbf (fun h => absurd h.2.2.2.1 (by omega))]; rfl
          rw [hf.out]
          clear HR hf IH
          refine pG Tryz.func62 Tryz.ntmps62 ?_
          refine Jd ?_
          intro i0 hi0
          refine go_ ?_
          refine rT Tryz.results62 ?_
          exact ⟨rfl, rfl⟩
        · by_cases hm : 0 < n
          · have hf : Hid (Qae (.mk 3 n sub) = false) := by rw [show Qae (.mk 3 n sub) = _ from HR.out, Qbf (fun h => absurd h.2.2.2.2.1 (by simp [Qbj]; omega))]; rfl
            rw [hf.out]
            clear HR hf IH
            refine pG Tryz.func62 Tryz.ntmps62 ?_
            refine Jd ?_
            intro i0 hi0
            refine go_ ?_
            refine rT Tryz.results62 ?_
            exact ⟨rfl, rfl⟩
          · have HR2 : Hid (Qae (.mk 3 n sub) = Qbw sub) := by rw [show Qae (.mk 3 n sub) = _ from HR.out, Qfk ⟨by decide, by decide, by rw [hs]; rfl, by omega, by simp [Qbj]; omega, .inl (by decide)⟩]; rfl
            generalize Qae (.mk 3 n sub) = R at *
            clear HR
            refine pG Tryz.func62 Tryz.ntmps62 ?_
            refine Jd ?_
            intro i0 hi0
            refine go_ ?_
            refine Qai (ι := Nat) (fun y => y ≤ 2 ∧ Hid (R = Qbw (List.drop y sub))) (fun y => [(1, .ptr i0 0), (3, .d (.v (.int .i64 2))), (5, .d (.v (.int .i64 (y : Int))))]) (fun _ => [.box i0 26 [.d (.v (.int .i64 3)), .d (.v (.int .i64 n)), .d (.sl (sub.map encD))]]) (fun y => 2 - y) 0 ⟨Nat.zero_le _, HR2.out⟩ ?_ ?_ ?_
            · exact sU
            · exact dR
            · rintro j ⟨hj, hR⟩
              clear HR2
              by_cases hlt : j < 2
              · have hlt2 : j < (sub : List Tm).length := by rw [hs]; exact hlt
                have hx0 := Qaq hlt2
                have hc : (j : Int) < 2 := by omega
                have hn : (0 : Int) ≤ j := by omega
                have hin := wr64 (n := (j : Int) + 1) (by omega) (by omega)
                have hR2 : Hid (R = (Qae (sub : List Tm)[j] && Qbw (List.drop (j + 1) sub))) := by
                  rw [show R = _ from hR.out, List.drop_eq_getElem_cons hlt2]
                  show _ = _
                  simp only [Qbw]
                have hc1 := Hh (IH.out _ (List.getElem_mem hlt2))
                clear hR
                generalize Qae (sub : List Tm)[j] = b at *
                cases b with
                | false =>
                  have hf : Hid (R = false) := by rw [show R = _ from hR2.out]; rfl
                  refine go_ ?_
                  refine Qab (hc1.out) ?_
                  refine rT Tryz.results62 ?_
                  exact ⟨by rw [hf.out]; rfl, rfl⟩
                | true =>
                  have hR3 : Hid (R = Qbw (List.drop (j + 1) sub)) := by rw [show R = _ from hR2.out]; rfl
                  refine go_ ?_
                  refine Qab (hc1.out) ?_
                  exact ⟨j + 1, ⟨hlt, hR3⟩, by omega, sU, dR⟩
              · have hc : ¬ (j : Int) < 2 := by omega
                have hf : Hid (R = true) := by rw [show R = _ from hR.out, List.drop_of_length_le (by rw [hs]; omega)]; rfl
                refine go_ ?_
                refine rT Tryz.results62 ?_
                exact ⟨by rw [hf.out]; rfl, rfl⟩
      · have hf : Hid (Qae (.mk 3 n sub) = false) := by rw [show Qae (.mk 3 n sub) = _ from HR.out, Qbf (fun h => hs (by have := h.2.2.1; simp [Qbr] at this; omega))]; rfl
        have hs2 : ¬ (sub.length : Int) = 2 := by omega
        rw [hf.out]
        clear HR hf IH
        refine pG Tryz.func62 Tryz.ntmps62 ?_
        refine Jd ?_
        intro i0 hi0
        refine go_ ?_
        refine rT Tryz.results62 ?_
        exact ⟨rfl, rfl⟩
    · by_cases hs : sub.length = 2
      · by_cases h0 : n < 0
        · have hf : Hid (Qae (.mk 4 n sub) = false) := by rw [show Qae (.mk 4 n sub) = _ from HR.out, Qbf (fun h => absurd h.2.2.2.1 (by omega))]; rfl
          rw [hf.out]
          clear HR hf IH
          refine pG Tryz.func62 Tryz.ntmps62 ?_
          refine Jd ?_
          intro i0 hi0
          refine go_ ?_
          refine rT Tryz.results62 ?_
          exact ⟨rfl, rfl⟩
        · by_cases hm : 0 < n
          · have hf : Hid (Qae (.mk 4 n sub) = false) := by rw [show Qae (.mk 4 n sub) = _ from HR.out, Qbf (fun h => absurd h.2.2.2.2.1 (by simp [Qbj]; omega))]; rfl
            rw [hf.out]
            clear HR hf IH
            refine pG Tryz.func62 Tryz.ntmps62 ?_
            refine Jd ?_
            intro i0 hi0
            refine go_ ?_
            refine rT Tryz.results62 ?_
            exact ⟨rfl, rfl⟩
          · have HR2 : Hid (Qae (.mk 4 n sub) = Qbw sub) := by rw [show Qae (.mk 4 n sub) = _ from HR.out, Qfk ⟨by decide, by decide, by rw [hs]; rfl, by omega, by simp [Qbj]; omega, .inl (by decide)⟩]; rfl
            generalize Qae (.mk 4 n sub) = R at *
            clear HR
            refine pG Tryz.func62 Tryz.ntmps62 ?_
            refine Jd ?_
            intro i0 hi0
            refine go_ ?_
            refine Qai (ι := Nat) (fun y => y ≤ 2 ∧ Hid (R = Qbw (List.drop y sub))) (fun y => [(1, .ptr i0 0), (3, .d (.v (.int .i64 2))), (5, .d (.v (.int .i64 (y : Int))))]) (fun _ => [.box i0 26 [.d (.v (.int .i64 4)), .d (.v (.int .i64 n)), .d (.sl (sub.map encD))]]) (fun y => 2 - y) 0 ⟨Nat.zero_le _, HR2.out⟩ ?_ ?_ ?_
            · exact sU
            · exact dR
            · rintro j ⟨hj, hR⟩
              clear HR2
              by_cases hlt : j < 2
              · have hlt2 : j < (sub : List Tm).length := by rw [hs]; exact hlt
                have hx0 := Qaq hlt2
                have hc : (j : Int) < 2 := by omega
                have hn : (0 : Int) ≤ j := by omega
                have hin := wr64 (n := (j : Int) + 1) (by omega) (by omega)
                have hR2 : Hid (R = (Qae (sub : List Tm)[j] && Qbw (List.drop (j + 1) sub))) := by
                  rw [show R = _ from hR.out, List.drop_eq_getElem_cons hlt2]
                  show _ = _
                  simp only [Qbw]
                have hc1 := Hh (IH.out _ (List.getElem_mem hlt2))
                clear hR
                generalize Qae (sub : List Tm)[j] = b at *
                cases b with
                | false =>
                  have hf : Hid (R = false) := by rw [show R = _ from hR2.out]; rfl
                  refine go_ ?_
                  refine Qab (hc1.out) ?_
                  refine rT Tryz.results62 ?_
                  exact ⟨by rw [hf.out]; rfl, rfl⟩
                | true =>
                  have hR3 : Hid (R = Qbw (List.drop (j + 1) sub)) := by rw [show R = _ from hR2.out]; rfl
                  refine go_ ?_
                  refine Qab (hc1.out) ?_
                  exact ⟨j + 1, ⟨hlt, hR3⟩, by omega, sU, dR⟩
              · have hc : ¬ (j : Int) < 2 := by omega
                have hf : Hid (R = true) := by rw [show R = _ from hR.out, List.drop_of_length_le (by rw [hs]; omega)]; rfl
                refine go_ ?_
                refine rT Tryz.results62 ?_
                exact ⟨by rw [hf.out]; rfl, rfl⟩
      · have hf : Hid (Qae (.mk 4 n sub) = false) := by rw [show Qae (.mk 4 n sub) = _ from HR.out, Qbf (fun h => hs (by have := h.2.2.1; simp [Qbr] at this; omega))]; rfl
        have hs2 : ¬ (sub.length : Int) = 2 := by omega
        rw [hf.out]
        clear HR hf IH
        refine pG Tryz.func62 Tryz.ntmps62 ?_
        refine Jd ?_
        intro i0 hi0
        refine go_ ?_
        refine rT Tryz.results62 ?_
        exact ⟨rfl, rfl⟩
    · by_cases hs : sub.length = 2
      · by_cases h0 : n < 0
        · have hf : Hid (Qae (.mk 5 n sub) = false) := by rw [show Qae (.mk 5 n sub) = _ from HR.out, Qbf (fun h => absurd h.2.2.2.1 (by omega))]; rfl
          rw [hf.out]
          clear HR hf IH
          refine pG Tryz.func62 Tryz.ntmps62 ?_
          refine Jd ?_
          intro i0 hi0
          refine go_ ?_
          refine rT Tryz.results62 ?_
          exact ⟨rfl, rfl⟩
        · by_cases hm : 0 < n
          · have hf : Hid (Qae (.mk 5 n sub) = false) := by rw [show Qae (.mk 5 n sub) = _ from HR.out, Qbf (fun h => absurd h.2.2.2.2.1 (by simp [Qbj]; omega))]; rfl
            rw [hf.out]
            clear HR hf IH
            refine pG Tryz.func62 Tryz.ntmps62 ?_
            refine Jd ?_
            intro i0 hi0
            refine go_ ?_
            refine rT Tryz.results62 ?_
            exact ⟨rfl, rfl⟩
          · have HR2 : Hid (Qae (.mk 5 n sub) = Qbw sub) := by rw [show Qae (.mk 5 n sub) = _ from HR.out, Qfk ⟨by decide, by decide, by rw [hs]; rfl, by omega, by simp [Qbj]; omega, .inl (by decide)⟩]; rfl
            generalize Qae (.mk 5 n sub) = R at *
            clear HR
            refine pG Tryz.func62 Tryz.ntmps62 ?_
            refine Jd ?_
            intro i0 hi0
            refine go_ ?_
            refine Qai (ι := Nat) (fun y => y ≤ 2 ∧ Hid (R = Qbw (List.drop y sub))) (fun y => [(1, .ptr i0 0), (3, .d (.v (.int .i64 2))), (5, .d (.v (.int .i64 (y : Int))))]) (fun _ => [.box i0 26 [.d (.v (.int .i64 5)), .d (.v (.int .i64 n)), .d (.sl (sub.map encD))]]) (fun y => 2 - y) 0 ⟨Nat.zero_le _, HR2.out⟩ ?_ ?_ ?_
            · exact sU
            · exact dR
            · rintro j ⟨hj, hR⟩
              clear HR2
              by_cases hlt : j < 2
              · have hlt2 : j < (sub : List Tm).length := by rw [hs]; exact hlt
                have hx0 := Qaq hlt2
                have hc : (j : Int) < 2 := by omega
                have hn : (0 : Int) ≤ j := by omega
                have hin := wr64 (n := (j : Int) + 1) (by omega) (by omega)
                have hR2 : Hid (R = (Qae (sub : List Tm)[j] && Qbw (List.drop (j + 1) sub))) := by
                  rw [show R = _ from hR.out, List.drop_eq_getElem_cons hlt2]
                  show _ = _
                  simp only [Qbw]
                have hc1 := Hh (IH.out _ (List.getElem_mem hlt2))
                clear hR
                generalize Qae (sub : List Tm)[j] = b at *
                cases b with
                | false =>
                  have hf : Hid (R = false) := by rw [show R = _ from hR2.out]; rfl
                  refine go_ ?_
                  refine Qab (hc1.out) ?_
                  refine rT Tryz.results62 ?_
                  exact ⟨by rw [hf.out]; rfl, rfl⟩
                | true =>
                  have hR3 : Hid (R = Qbw (List.drop (j + 1) sub)) := by rw [show R = _ from hR2.out]; rfl
                  refine go_ ?_
                  refine Qab (hc1.out) ?_
                  exact ⟨j + 1, ⟨hlt, hR3⟩, by omega, sU, dR⟩
              · have hc : ¬ (j : Int) < 2 := by omega
                have hf : Hid (R = true) := by rw [show R = _ from hR.out, List.drop_of_length_le (by rw [hs]; omega)]; rfl
                refine go_ ?_
                refine rT Tryz.results62 ?_
                exact ⟨by rw [hf.out]; rfl, rfl⟩
      · have hf : Hid (Qae (.mk 5 n sub) = false) := by rw [show Qae (.mk 5 n sub) = _ from HR.out, Qbf (fun h => hs (by have := h.2.2.1; simp [Qbr] at this; omega))]; rfl
        have hs2 : ¬ (sub.length : Int) = 2 := by omega
        rw [hf.out]
        clear HR hf IH
        refine pG Tryz.func62 Tryz.ntmps62 ?_
        refine Jd ?_
        intro i0 hi0
        refine go_ ?_
        refine rT Tryz.results62 ?_
        exact ⟨rfl, rfl⟩
    · by_cases hs : sub = []
      · by_cases h0 : n < 0
        · have hf : Hid (Qae (.mk 6 n sub) = false) := by rw [show Qae (.mk 6 n sub) = _ from HR.out, Qbf (fun h => absurd h.2.2.2.1 (by omega))]; rfl
          rw [hf.out]
          clear HR hf IH
          refine pG Tryz.func62 Tryz.ntmps62 ?_
          refine Jd ?_
          intro i0 hi0
          refine go_ ?_
          refine rT Tryz.results62 ?_
          exact ⟨rfl, rfl⟩
        · by_cases hm : 1048576 < n
          · have hf : Hid (Qae (.mk 6 n sub) = false) := by rw [show Qae (.mk 6 n sub) = _ from HR.out, Qbf (fun h => absurd h.2.2.2.2.1 (by simp [Qbj]; omega))]; rfl
            rw [hf.out]
            clear HR hf IH
            refine pG Tryz.func62 Tryz.ntmps62 ?_
            refine Jd ?_
            intro i0 hi0
            refine go_ ?_
            refine rT Tryz.results62 ?_
            exact ⟨rfl, rfl⟩
          · subst hs
            have HR2 : Hid (Qae (.mk 6 n []) = true) := by rw [show Qae (.mk 6 n []) = _ from HR.out, Qfk ⟨by decide, by decide, rfl, by omega, by simp [Qbj]; omega, .inl (by decide)⟩]; rfl
            generalize Qae (.mk 6 n []) = R at *
            clear HR
            refine pG Tryz.func62 Tryz.ntmps62 ?_
            refine Jd ?_
            intro i0 hi0
            refine go_ ?_
            refine Qai (ι := Unit) (fun _ => True) (fun _ => [(3, .d (.v (.int .i64 0))), (5, .d (.v (.int .i64 0)))]) (fun _ => []) (fun _ => 0) () trivial ?_ ?_ ?_
            · exact sU
            · exact dR
            · rintro _ _
              refine go_ ?_
              refine rT Tryz.results62 ?_
              exact ⟨by rw [HR2.out]; rfl, rfl⟩
      · have hf : Hid (Qae (.mk 6 n sub) = false) := by rw [show Qae (.mk 6 n sub) = _ from HR.out, Qbf (fun h => hs (List.eq_nil_of_length_eq_zero (by have := h.2.2.1; simp [Qbr] at this; first | exact this | (rw [this]; rfl))))]; rfl
        rw [hf.out]
        clear HR hf IH
        refine pG Tryz.func62 Tryz.ntmps62 ?_
        refine Jd ?_
        intro i0 hi0
        refine go_ ?_
        refine rT Tryz.results62 ?_
        exact ⟨rfl, rfl⟩
    · by_cases hs : sub.length = 1
      · by_cases h0 : n < 0
        · have hf : Hid (Qae (.mk 7 n sub) = false) := by rw [show Qae (.mk 7 n sub) = _ from HR.out, Qbf (fun h => absurd h.2.2.2.1 (by omega))]; rfl
          rw [hf.out]
          clear HR hf IH
          refine pG Tryz.func62 Tryz.ntmps62 ?_
          refine Jd ?_
          intro i0 hi0
          refine go_ ?_
          refine rT Tryz.results62 ?_
          exact ⟨rfl, rfl⟩
        · by_cases hm : 1048576 < n
          · have hf : Hid (Qae (.mk 7 n sub) = false) := by rw [show Qae (.mk 7 n sub) = _ from HR.out, Qbf (fun h => absurd h.2.2.2.2.1 (by simp [Qbj]; omega))]; rfl
            rw [hf.out]
            clear HR hf IH
            refine pG Tryz.func62 Tryz.ntmps62 ?_
            refine Jd ?_
            intro i0 hi0
            refine go_ ?_
            refine rT Tryz.results62 ?_
            exact ⟨rfl, rfl⟩
          · match sub, hs with
            | [x], _ =>
            by_cases hx : x.kind = 2
            rotate_left
            · have hf : Hid (Qae (.mk 7 n [x]) = false) := by rw [show Qae (.mk 7 n [x]) = _ from HR.out, Qbf (k := 7) (n := n) (sub := [x]) (fun h => hx (h.2.2.2.2.2.resolve_left (fun h => h rfl)))]; rfl
              rw [hf.out]
              clear HR hf IH
              refine pG Tryz.func62 Tryz.ntmps62 ?_
              refine Jd ?_
              intro i0 hi0
              refine go_ ?_
              refine rT Tryz.results62 ?_
              exact ⟨rfl, rfl⟩
            · have HR2 : Hid (Qae (.mk 7 n [x]) = Qbw [x]) := by rw [show Qae (.mk 7 n [x]) = _ from HR.out, Qfk (k := 7) (n := n) (sub := [x]) ⟨by decide, by decide, rfl, by omega, by simp [Qbj]; omega, .inr hx⟩]; rfl
              have hx2 : (x.kind != 2) = false := by rw [hx]; rfl
              clear hx
              generalize Qae (.mk 7 n [x]) = R at *
              clear HR
              refine pG Tryz.func62 Tryz.ntmps62 ?_
              refine Jd ?_
              intro i0 hi0
              refine go_ ?_
              refine Qai (ι := Nat) (fun y => y ≤ 1 ∧ Hid (R = Qbw (List.drop y [x]))) (fun y => [(1, .ptr i0 0), (3, .d (.v (.int .i64 1))), (5, .d (.v (.int .i64 (y : Int))))]) (fun _ => [.box i0 26 [.d (.v (.int .i64 7)), .d (.v (.int .i64 n)), .d (.sl ([[.v (.int .i64 x.kind), .v (.int .i64 x.num), .sl (x.sub.map encD)]]))]]) (fun y => 1 - y) 0 ⟨Nat.zero_le _, HR2.out⟩ ?_ ?_ ?_
              · exact sU
              · exact dR
              · rintro j ⟨hj, hR⟩
                clear HR2
                by_cases hlt : j < 1
                · obtain rfl : j = 0 := by omega
                  have hR2 : Hid (R = (Qae x && Qbw [])) := by rw [show R = _ from hR.out]; rfl
                  have hc1 := Hh (IH.out x (by simp))
                  clear hR
                  generalize Qae x = b at *
                  cases b with
                  | false =>
                    have hf : Hid (R = false) := by rw [show R = _ from hR2.out]; rfl
                    refine go_ ?_
                    refine Qab (hc1.out) ?_
                    refine rT Tryz.results62 ?_
                    exact ⟨by rw [hf.out]; rfl, rfl⟩
                  | true =>
                    have hR3 : Hid (R = Qbw (List.drop (0 + 1) [x])) := by rw [show R = _ from hR2.out]; rfl
                    refine go_ ?_
                    refine Qab (hc1.out) ?_
                    exact ⟨0 + 1, ⟨by omega, hR3⟩, by omega, sU, dR⟩
                · have hc : ¬ (j : Int) < 1 := by omega
                  have hf : Hid (R = true) := by rw [show R = _ from hR.out, List.drop_of_length_le (by simp; omega)]; rfl
                  refine go_ ?_
                  refine rT Tryz.results62 ?_
                  exact ⟨by rw [hf.out]; rfl, rfl⟩
      · have hf : Hid (Qae (.mk 7 n sub) = false) := by rw [show Qae (.mk 7 n sub) = _ from HR.out, Qbf (fun h => hs (by have := h.2.2.1; simp [Qbr] at this; omega))]; rfl
        have hs2 : ¬ (sub.length : Int) = 1 := by omega
        rw [hf.out]
        clear HR hf IH
        refine pG Tryz.func62 Tryz.ntmps62 ?_
        refine Jd ?_
        intro i0 hi0
        refine go_ ?_
        refine rT Tryz.results62 ?_
        exact ⟨rfl, rfl⟩
    · by_cases hs : sub = []
      · by_cases h0 : n < 0
        · have hf : Hid (Qae (.mk 8 n sub) = false) := by rw [show Qae (.mk 8 n sub) = _ from HR.out, Qbf (fun h => absurd h.2.2.2.1 (by omega))]; rfl
          rw [hf.out]
          clear HR hf IH
          refine pG Tryz.func62 Tryz.ntmps62 ?_
          refine Jd ?_
          intro i0 hi0
          refine go_ ?_
          refine rT Tryz.results62 ?_
          exact ⟨rfl, rfl⟩
        · by_cases hm : 1048576 < n
          · have hf : Hid (Qae (.mk 8 n sub) = false) := by rw [show Qae (.mk 8 n sub) = _ from HR.out, Qbf (fun h => absurd h.2.2.2.2.1 (by simp [Qbj]; omega))]; rfl
            rw [hf.out]
            clear HR hf IH
            refine pG Tryz.func62 Tryz.ntmps62 ?_
            refine Jd ?_
            intro i0 hi0
            refine go_ ?_
            refine rT Tryz.results62 ?_
            exact ⟨rfl, rfl⟩
          · subst hs
            have HR2 : Hid (Qae (.mk 8 n []) = true) := by rw [show Qae (.mk 8 n []) = _ from HR.out, Qfk ⟨by decide, by decide, rfl, by omega, by simp [Qbj]; omega, .inl (by decide)⟩]; rfl
            generalize Qae (.mk 8 n []) = R at *
            clear HR
            refine pG Tryz.func62 Tryz.ntmps62 ?_
            refine Jd ?_
            intro i0 hi0
            refine go_ ?_
            refine Qai (ι := Unit) (fun _ => True) (fun _ => [(3, .d (.v (.int .i64 0))), (5, .d (.v (.int .i64 0)))]) (fun _ => []) (fun _ => 0) () trivial ?_ ?_ ?_
            · exact sU
            · exact dR
            · rintro _ _
              refine go_ ?_
              refine rT Tryz.results62 ?_
              exact ⟨by rw [HR2.out]; rfl, rfl⟩
      · have hf : Hid (Qae (.mk 8 n sub) = false) := by rw [show Qae (.mk 8 n sub) = _ from HR.out, Qbf (fun h => hs (List.eq_nil_of_length_eq_zero (by have := h.2.2.1; simp [Qbr] at this; first | exact this | (rw [this]; rfl))))]; rfl
        rw [hf.out]
        clear HR hf IH
        refine pG Tryz.func62 Tryz.ntmps62 ?_
        refine Jd ?_
        intro i0 hi0
        refine go_ ?_
        refine rT Tryz.results62 ?_
        exact ⟨rfl, rfl⟩
theorem Qli (t : Tm) : PCalls Tryz.prog 15 [aggD t] [] fun p s => p = .d (.v (.bool (Qak t))) ∧ s = [] := by
 have hD := Hh (rDepth_p t)
 have hG := Hh (rgood_p t)
 have HR := Hh (show Qak t = (decide (Qdg t ≤ 128) && Qae t) from rfl)
 generalize Qdg t = z at *
 generalize Qae t = g at *
 simp only [aggD, Jl, List.map_cons, List.map_nil]
 by_cases hz : z ≤ 128
 ·rw [HR.out]
  refine pG Tryz.func15 Tryz.ntmps15 ?_
  refine Jd ?_
  intro i0 hi0
  refine go_ ?_
  refine Qab (hD.out) ?_
  refine Qab (hG.out) ?_
  refine rT Tryz.results15 ?_
  exact ⟨by simp [hz] <;> rfl, rfl⟩
 ·rw [HR.out]
  refine pG Tryz.func15 Tryz.ntmps15 ?_
  refine Jd ?_
  intro i0 hi0
  refine go_ ?_
  refine Qab (hD.out) ?_
  refine rT Tryz.results15 ?_
  exact ⟨by simp [hz] <;> rfl, rfl⟩
theorem eqT_mk (k n k' n' : Int) (s s' : List Tm) : ceqT (.mk k n s) (.mk k' n' s') = ((k == k') && (n == n') && ceqL s s') := by simp only [ceqT]
theorem eqL_ne {a b : List Tm} (h : ¬ a.length = b.length) : ceqL a b = false := by
 cases e : ceqL a b with
 | false => rfl
 | true => exact absurd (ceqL_length e) h
theorem eqL_step {a b : List Tm} {j : Nat} (h1 : j < a.length) (h2 : j < b.length) : ceqL (a.drop j) (b.drop j) = (ceqT a[j] b[j] && ceqL (a.drop (j + 1)) (b.drop (j + 1))) := by
 rw [List.drop_eq_getElem_cons h1, List.drop_eq_getElem_cons h2]
 simp only [ceqL]
theorem eqL_end {a b : List Tm} {j : Nat} (h1 : a.length ≤ j) (h2 : b.length ≤ j) : ceqL (a.drop j) (b.drop j) = true := by
 rw [List.drop_of_length_le h1, List.drop_of_length_le h2]; rfl
theorem requal_p : ∀ (t u : Tm), PCalls Tryz.prog 21 [aggD t, aggD u] [] fun p s => p = .d (.v (.bool (ceqT t u))) ∧ s = [] := by
  refine Tm.ind ?_
  intro k n a ih u
  obtain ⟨k', n', b⟩ := u
  rw [eqT_mk]
  simp only [aggD, Jl, List.map_cons, List.map_nil, Jv, Jw, Jx]
  have IH := Hh ih
  clear ih
  by_cases hk : k = k'
  rotate_left
  · have hf : ((k == k') && (n == n') && ceqL a b) = false := by rw [beq_eq_false_iff_ne.2 hk]; rfl
    rw [hf]
    clear hf
    refine pG Tryz.func21 Tryz.ntmps21 ?_
    refine Jd ?_
    intro i0 hi0
    refine go_ ?_
    refine Jd ?_
    intro i1 hi1
    try simp only [Ja, Rh, Rg, Jb] at hi1
    refine go_ ?_
    refine rT Tryz.results21 ?_
    exact ⟨rfl, rfl⟩
  by_cases hn : n = n'
  rotate_left
  · have hf : ((k == k') && (n == n') && ceqL a b) = false := by rw [beq_eq_false_iff_ne.2 hn, Bool.and_false]; rfl
    rw [hf]
    clear hf
    subst hk
    refine pG Tryz.func21 Tryz.ntmps21 ?_
    refine Jd ?_
    intro i0 hi0
    refine go_ ?_
    refine Jd ?_
    intro i1 hi1
    try simp only [Ja, Rh, Rg, Jb] at hi1
    refine go_ ?_
    refine rT Tryz.results21 ?_
    exact ⟨rfl, rfl⟩
  subst hk hn
  by_cases hl : a.length = b.length
  rotate_left
  · rw [eqL_ne hl, Bool.and_false]
    have hl2 : ((a.length : Int) != b.length) = true := bne_iff_ne.2 (by omega)
    refine pG Tryz.func21 Tryz.ntmps21 ?_
    refine Jd ?_
    intro i0 hi0
    refine go_ ?_
    refine Jd ?_
    intro i1 hi1
    try simp only [Ja, Rh, Rg, Jb] at hi1
    refine go_ ?_
    refine rT Tryz.results21 ?_
    exact ⟨rfl, rfl⟩
  obtain ⟨m, ha, hb⟩ : ∃ m, a.length = m ∧ b.length = m := ⟨_, hl, rfl⟩
  clear hl
  obtain ⟨R, hR0⟩ : ∃ R, R = ceqL a b := ⟨_, rfl⟩
  rw [← hR0, beq_self_eq_true, beq_self_eq_true, Bool.true_and, Bool.true_and]
  have HR0 := Hh hR0
  clear hR0
  refine pE Tryz.func21 Tryz.ntmps21 ?_
  refine Qly (t := 0) (i := 2) (rows := a.map encD) (by simp [PF.get] <;> rfl) rfl fun hml => ?_
  rw [List.length_map, ha] at hml
  refine go_ ?_
  refine Jd ?_
  intro i0 hi0
  refine go_ ?_
  refine Jd ?_
  intro i1 hi1
  try simp only [Ja, Rh, Rg, Jb] at hi1
  refine go_ ?_
  refine Qai (ι := Nat) (fun y => y ≤ m ∧ Hid (R = ceqL (a.drop y) (b.drop y))) (fun y => [(2, .ptr i0 0), (3, .ptr i1 0), (5, .d (.v (.int .i64 (y : Int))))]) (fun _ => [.box i1 26 [.d (.v (.int .i64 k)), .d (.v (.int .i64 n)), .d (.sl (b.map encD))], .box i0 26 [.d (.v (.int .i64 k)), .d (.v (.int .i64 n)), .d (.sl (a.map encD))]]) (fun y => m - y) 0 ⟨Nat.zero_le _, HR0.out⟩ ?_ ?_ ?_
  · exact sU
  · exact dR
  · rintro j ⟨hj, hR⟩
    clear HR0
    unfold maxLen at hml
    by_cases hlt : j < m
    · have h1 : j < a.length := by omega
      have h2 : j < b.length := by omega
      have hx := Qaq h1
      have hy := Qaq h2
      have hc : (j : Int) < m := by omega
      have hn : (0 : Int) ≤ j := by omega
      have hin := wr64 (n := (j : Int) + 1) (by omega) (by omega)
      have hR2 : Hid (R = (ceqT a[j] b[j] && ceqL (a.drop (j + 1)) (b.drop (j + 1)))) := by rw [show R = _ from hR.out, eqL_step h1 h2]; rfl
      have hc1 := Hh (IH.out _ (List.getElem_mem h1) b[j])
      clear hR
      generalize ceqT a[j] b[j] = e at *
      cases e with
      | false =>
        have hf : Hid (R = false) := by rw [show R = _ from hR2.out]; rfl
        refine go_ ?_
        refine Qal [(0, .a), (1, .b), (2, .a), (3, .a), (4, .a), (5, .a), (6, .b), (7, .a), (8, .a), (9, .a), (10, .a), (11, .a)] (by kernel_rfl) (by rfl) (by kernel_rfl) ?_
        refine go_ ?_
        refine Qac (hc1.out) ?_
        refine go_ ?_
        refine rT Tryz.results21 ?_
        exact ⟨by rw [hf.out]; rfl, rfl⟩
      | true =>
        have hR3 : Hid (R = ceqL (a.drop (j + 1)) (b.drop (j + 1))) := by rw [show R = _ from hR2.out]; rfl
        refine go_ ?_
        refine Qal [(0, .a), (1, .b), (2, .a), (3, .a), (4, .a), (5, .a), (6, .b), (7, .a), (8, .a), (9, .a), (10, .a), (11, .a)] (by kernel_rfl) (by rfl) (by kernel_rfl) ?_
        refine go_ ?_
        refine Qac (hc1.out) ?_
        refine go_ ?_
        exact ⟨j + 1, ⟨hlt, hR3⟩, by omega, sU, dR⟩
    · have hc : ¬ (j : Int) < m := by omega
      have hf : Hid (R = true) := by rw [show R = _ from hR.out, eqL_end (by omega) (by omega)]; rfl
      refine go_ ?_
      refine rT Tryz.results21 ?_
      exact ⟨by rw [hf.out]; rfl, rfl⟩
theorem PCalls.norm {P : Program} {f : FuncId} {args : List PV} {st : St} {R R' : PV → St → Prop} (h : PCalls P f args st R) (hr : ∀ p s, R p s → R' p.norm0 []) : PCalls P f args st R' :=
 fun F K w vs h1 h2 => (h F K w vs h1 h2).mono fun _ _ ⟨v, K', p, _, a, b, c, d, e⟩ => ⟨v, K', p.norm0, [], a, b, c.sub Nl, Qjp _ _ _ _ d, hr _ _ e⟩
theorem Qht (l : List Int) : ∀ row ∈ l.map encD, row.length = 1 := Qki rfl
theorem cnd_mem {l : List Tm} : ∀ s ∈ l, cndT s ≤ cndL l := by
  induction l with
  | nil => intro s hs; cases hs
  | cons t ts ih =>
    intro s hs
    simp only [cndL]
    rcases List.mem_cons.1 hs with rfl | hs
    · omega
    · have := ih s hs; omega
theorem rows1a (l m : List Int) : ∀ row ∈ l.map encD ++ m.map encD, row.length = 1 := fun row h => (List.mem_append.1 h).elim (Qht _ row) (Qht _ row)
theorem clS_take {a b : Int} {l : List Tm} {j : Nat} (h : j < l.length) : clS a b (l.take (j + 1)) = clS a b (l.take j) ++ clT a b l[j] := by
 rw [List.take_succ_eq_append_getElem h, clS_append]
 simp only [clS, List.append_nil]
theorem clS_len (a b : Int) (l : List Tm) : (clS a b l).length ≤ cndL l := by
  induction l with
  | nil => exact Nat.le_refl _
  | cons t ts ih =>
    have := cl_len a b t
    simp only [clS, cndL, List.length_append]; omega
theorem collect_o : ∀ (t : Tm) (a b : Int), cndT t ≤ 100000 → PCalls Tryz.prog 214 [aggD t, .d (.v (.int .i64 a)), .d (.v (.int .i64 b))] [] fun p s => ∃ g, p = .own g ((clT a b t).map encD) ∧ s = [.tok g 3 1 (clT a b t).length] := by
 refine Tm.ind ?_
 intro k n sub ih a b hnd
 have hc0 : clT a b (.mk k n sub) = (if k = a ∨ k = b then [n] else []) ++ clS a b sub := by simp only [clT]
 have hns : cndL sub ≤ 100000 := by simp only [cndT] at hnd; omega
 have IH : Hid (∀ s ∈ sub, PCalls Tryz.prog 214 [aggD s, .d (.v (.int .i64 a)), .d (.v (.int .i64 b))] [] fun p st => p = .d (.sl ((clT a b s).map encD)) ∧ st = []) := fun s hs =>
  (ih s hs a b (by have := cnd_mem s hs; omega)).norm fun p st ⟨g, e1, e2⟩ => ⟨by rw [e1]; rfl, rfl⟩
 have hl0 : (if k = a ∨ k = b then [n] else []).length ≤ 1 := by split <;> simp
 simp only [aggD, Jl, List.map_cons, List.map_nil, Jv, Jw, Jx]
 clear ih hnd
 rw [hc0]
 clear hc0
 obtain ⟨r0, hr0⟩ : ∃ r0, (if k = a ∨ k = b then [n] else []) = r0 := ⟨_, rfl⟩
 rw [hr0] at hl0 ⊢
 refine pG Tryz.func214 Tryz.ntmps214 ?_
 refine Jd ?_
 intro i0 hi0
 refine Qq ?_
 refine Qh ?_
 refine Qj ?_
 refine gs_ ?_
 refine Qc ?_
 refine gs_ ?_
 refine PW_own 7 3 1 (by decide) (by simp [PF.get] <;> rfl) fun g hg => ?_
 by_cases hk : k = a ∨ k = b
 ·rw [if_pos hk] at hr0
  by_cases h1 : k = a
  ·clear hk
   refine go_ ?_
   refine Qao ?_
   refine Qap 1 ?_ ?_ ?_ ?_
   ·rfl
   ·simp
   ·simp
   refine gs_ ?_
   clear h1
   refine go_ ?_
   refine Qly (t := 0) (i := 2) (rows := sub.map encD) (by simp [PF.get] <;> rfl) rfl fun hml => ?_
   rw [List.length_map] at hml
   refine Qai (ι := Nat) (fun y => y ≤ sub.length) (fun y => [(1, .d (.v (.int .i64 a))), (2, .d (.v (.int .i64 b))), (7, .own g ((r0 ++ clS a b (sub.take y)).map encD)), (26, .d (.sl (sub.map encD))), (27, .d (.v (.int .i64 sub.length))), (28, .d (.v (.int .i64 (y : Int))))]) (fun y => [.tok g 3 1 (r0 ++ clS a b (sub.take y)).length]) (fun y => sub.length - y) 0 (Nat.zero_le _) ?_ ?_ ?_
   ·subst hr0
    repeat (first | exact Jt _ | refine Js (by simp [PF.get]; rfl) (by first | rfl | (simp [clS, List.take_zero, List.append_nil]; done) | fail) ?_)
   ·subst hr0
    simp only [clS, List.take_zero, List.append_nil]
    exact dR
   ·rintro j hj
    clear hr0
    unfold maxLen at hml
    by_cases hlt : j < sub.length
    ·have hx := Qaq hlt
     have hc : (j : Int) < sub.length := by omega
     have hn : (0 : Int) ≤ j := by omega
     have hin := wr64 (n := (j : Int) + 1) (by omega) (by omega)
     have hT := clS_take (a := a) (b := b) hlt
     have hlen := Nat.le_trans (clS_len a b (sub.take (j + 1))) (Nat.le_trans (Qgv sub (j + 1)) hns)
     rw [hT, List.length_append] at hlen
     have hlA : (r0 ++ clS a b (sub.take j)).length ≤ 100001 := by rw [List.length_append]; omega
     have HT := Hh hT
     clear hT
     have hc1 := Hh (IH.out _ (List.getElem_mem hlt))
     generalize clT a b sub[j] = x at *
     refine go_ ?_
     refine Je ?_
     intro i2 hi2
     try simp only [Ja, Rh, Rg, Jb] at hi2
     refine go_ ?_
     refine Qaa ?_
     refine Qab (hc1.out) ?_
     refine Qap ((r0 ++ clS a b (sub.take j)).length + x.length) ?_ ?_ ?_ ?_
     ·simp
     ·exact rows1a _ _
     ·exact Qht _
     refine go_ ?_
     refine ⟨j + 1, hlt, by omega, ?_, ?_⟩
     ·rw [HT.out, ← List.append_assoc]
      exact sU
     ·rw [HT.out, ← List.append_assoc]
      simp only [List.length_append]
      exact dR
    ·have hc : ¬ (j : Int) < sub.length := by omega
     have htk : sub.take j = sub := List.take_of_length_le (by omega)
     rw [htk]
     refine go_ ?_
     refine Qju (st' := [.tok g 3 1 (r0 ++ clS a b sub).length]) (by simp) (by simp only [Tryz.results214]; rfl) (by simp [resP, PF.get]; rfl) dR ⟨g, by simp [tupP], rfl⟩
  ·have h2 : k = b := hk.resolve_left h1
   clear hk
   have h1b : ¬ b = a := fun e => h1 (h2.trans e)
   refine go_ ?_
   refine Qao ?_
   refine Qap 1 ?_ ?_ ?_ ?_
   ·rfl
   ·simp
   ·simp
   refine gs_ ?_
   clear h1 h2 h1b
   refine go_ ?_
   refine Qly (t := 0) (i := 2) (rows := sub.map encD) (by simp [PF.get] <;> rfl) rfl fun hml => ?_
   rw [List.length_map] at hml
   refine Qai (ι := Nat) (fun y => y ≤ sub.length) (fun y => [(1, .d (.v (.int .i64 a))), (2, .d (.v (.int .i64 b))), (7, .own g ((r0 ++ clS a b (sub.take y)).map encD)), (26, .d (.sl (sub.map encD))), (27, .d (.v (.int .i64 sub.length))), (28, .d (.v (.int .i64 (y : Int))))]) (fun y => [.tok g 3 1 (r0 ++ clS a b (sub.take y)).length]) (fun y => sub.length - y) 0 (Nat.zero_le _) ?_ ?_ ?_
   ·subst hr0
    repeat (first | exact Jt _ | refine Js (by simp [PF.get]; rfl) (by first | rfl | (simp [clS, List.take_zero, List.append_nil]; done) | fail) ?_)
   ·subst hr0
    simp only [clS, List.take_zero, List.append_nil]
    exact dR
   ·rintro j hj
    clear hr0
    unfold maxLen at hml
    by_cases hlt : j < sub.length
    ·have hx := Qaq hlt
     have hc : (j : Int) < sub.length := by omega
     have hn : (0 : Int) ≤ j := by omega
     have hin := wr64 (n := (j : Int) + 1) (by omega) (by omega)
     have hT := clS_take (a := a) (b := b) hlt
     have hlen := Nat.le_trans (clS_len a b (sub.take (j + 1))) (Nat.le_trans (Qgv sub (j + 1)) hns)
     rw [hT, List.length_append] at hlen
     have hlA : (r0 ++ clS a b (sub.take j)).length ≤ 100001 := by rw [List.length_append]; omega
     have HT := Hh hT
     clear hT
     have hc1 := Hh (IH.out _ (List.getElem_mem hlt))
     generalize clT a b sub[j] = x at *
     refine go_ ?_
     refine Je ?_
     intro i2 hi2
     try simp only [Ja, Rh, Rg, Jb] at hi2
     refine go_ ?_
     refine Qaa ?_
     refine Qab (hc1.out) ?_
     refine Qap ((r0 ++ clS a b (sub.take j)).length + x.length) ?_ ?_ ?_ ?_
     ·simp
     ·exact rows1a _ _
     ·exact Qht _
     refine go_ ?_
     refine ⟨j + 1, hlt, by omega, ?_, ?_⟩
     ·rw [HT.out, ← List.append_assoc]
      exact sU
     ·rw [HT.out, ← List.append_assoc]
      simp only [List.length_append]
      exact dR
    ·have hc : ¬ (j : Int) < sub.length := by omega
     have htk : sub.take j = sub := List.take_of_length_le (by omega)
     rw [htk]
     refine go_ ?_
     refine Qju (st' := [.tok g 3 1 (r0 ++ clS a b sub).length]) (by simp) (by simp only [Tryz.results214]; rfl) (by simp [resP, PF.get]; rfl) dR ⟨g, by simp [tupP], rfl⟩
 ·rw [if_neg hk] at hr0
  have h1 : ¬ k = a := fun h => hk (.inl h)
  have h2 : ¬ k = b := fun h => hk (.inr h)
  clear hk
  refine go_ ?_
  refine Qly (t := 0) (i := 2) (rows := sub.map encD) (by simp [PF.get] <;> rfl) rfl fun hml => ?_
  rw [List.length_map] at hml
  refine Qai (ι := Nat) (fun y => y ≤ sub.length) (fun y => [(1, .d (.v (.int .i64 a))), (2, .d (.v (.int .i64 b))), (7, .own g ((r0 ++ clS a b (sub.take y)).map encD)), (26, .d (.sl (sub.map encD))), (27, .d (.v (.int .i64 sub.length))), (28, .d (.v (.int .i64 (y : Int))))]) (fun y => [.tok g 3 1 (r0 ++ clS a b (sub.take y)).length]) (fun y => sub.length - y) 0 (Nat.zero_le _) ?_ ?_ ?_
  ·subst hr0
   repeat (first | exact Jt _ | refine Js (by simp [PF.get]; rfl) (by first | rfl | (simp [clS, List.take_zero, List.append_nil]; done) | fail) ?_)
  ·subst hr0
   simp only [clS, List.take_zero, List.append_nil]
   exact dR
  ·rintro j hj
   clear hr0
   unfold maxLen at hml
   by_cases hlt : j < sub.length
   ·have hx := Qaq hlt
    have hc : (j : Int) < sub.length := by omega
    have hn : (0 : Int) ≤ j := by omega
    have hin := wr64 (n := (j : Int) + 1) (by omega) (by omega)
    have hT := clS_take (a := a) (b := b) hlt
    have hlen := Nat.le_trans (clS_len a b (sub.take (j + 1))) (Nat.le_trans (Qgv sub (j + 1)) hns)
    rw [hT, List.length_append] at hlen
    have hlA : (r0 ++ clS a b (sub.take j)).length ≤ 100001 := by rw [List.length_append]; omega
    have HT := Hh hT
    clear hT
    have hc1 := Hh (IH.out _ (List.getElem_mem hlt))
    generalize clT a b sub[j] = x at *
    refine go_ ?_
    refine Je ?_
    intro i2 hi2
    try simp only [Ja, Rh, Rg, Jb] at hi2
    refine go_ ?_
    refine Qaa ?_
    refine Qab (hc1.out) ?_
    refine Qap ((r0 ++ clS a b (sub.take j)).length + x.length) ?_ ?_ ?_ ?_
    ·simp
    ·exact rows1a _ _
    ·exact Qht _
    refine go_ ?_
    refine ⟨j + 1, hlt, by omega, ?_, ?_⟩
    ·rw [HT.out, ← List.append_assoc]
     exact sU
    ·rw [HT.out, ← List.append_assoc]
     simp only [List.length_append]
     exact dR
   ·have hc : ¬ (j : Int) < sub.length := by omega
    have htk : sub.take j = sub := List.take_of_length_le (by omega)
    rw [htk]
    refine go_ ?_
    refine Qju (st' := [.tok g 3 1 (r0 ++ clS a b sub).length]) (by simp) (by simp only [Tryz.results214]; rfl) (by simp [resP, PF.get]; rfl) dR ⟨g, by simp [tupP], rfl⟩
end Go.Proofs.YtdklpbefbamchaaGreat
namespace Go.Proofs.YtdklpbefbamchaaGreat
open Go.RowKit Go.Shelf
theorem rep_tm {S : Nat → Prop} {w : World} {t : Tm} {cs : List Value} : Rep S w t cs ↔ ∃ v, cs = [.int .i64 t.kind, .int .i64 t.num, v] ∧ RepS S w v t.sub := by
 cases t with
 | mk k n sub =>
 unfold Rep RepS
 simp only [Enc.enc, Enc.sz, tmD, Qmt, RepF, Tm.kind, Tm.num, Tm.sub]
 constructor
 ·rintro ⟨c, cr, rfl, h1, c, cr, rfl, h2, c, cr, rfl, h5, rfl⟩
  simp only [RepV] at h1 h2
  obtain ⟨rfl, -⟩ := h1
  obtain ⟨rfl, -⟩ := h2
  exact ⟨_, rfl, h5⟩
 ·rintro ⟨v, rfl, h5⟩
  exact ⟨_, _, rfl, by simp [RepV, Value.oneCell'], _, _, rfl, by simp [RepV, Value.oneCell'], _, _, rfl, h5, rfl⟩
theorem PCalls.ownI {P : Program} {f : FuncId} {args : List PV} {E : TypeId} {l : List Int} (h : PCalls P f args [] fun p s => ∃ g, p = .own g (l.map encD) ∧ s = [.tok g E 1 l.length]) {w : World} {vs : Array Value} (ha : RelVs (K0 w) w args vs) :
  Calls P f vs w fun e w' => ∃ u c, e = .returned (.slice u l.length c) ∧ w'.ownsRow w.heap.size E 1 (.slice u l.length c) l.length (l.map (Value.int .i64)) ∧ Below w.heap.size w w' := by
 refine (h (F0 w) (K0 w) w vs (rel0 w) ha).mono ?_
 rintro e w' ⟨v, K', p, st', rfl, hx, hr, hv, g, rfl, rfl⟩
 obtain ⟨u, xs, h1, h2, h3, h4, h5⟩ := hr.ents _ (List.mem_singleton.2 rfl)
 generalize hrows : l.map encD = rows at hv
 cases hv with
 | @own _ _ _ u' hd hg hle heq =>
 rw [h1] at hg
 obtain rfl := Option.some.inj hg
 have hlen : rows.length = l.length := by rw [← hrows, List.length_map]
 have hvu := heq (by rw [h3, hlen])
 subst hvu
 obtain ⟨a, cap, hv, hc1, hc2⟩ := Qid hd
 subst hv
 rw [hlen] at *
 refine ⟨a, cap, rfl, ?_, hx.os, hx.tape, hx.output, hx.size, fun k hk => hx.hp k hk⟩
 have hxs : xs = l.map (Value.int .i64) := by
  obtain ⟨ys, hy, a', cap', he, hcell⟩ := hd.rv (es := 1) (by decide) (by rw [← hrows]; exact Qht l)
  have hyl : ys = l.map (Value.int .i64) := by
   refine List.ext_getElem? fun i => ?_
   by_cases hi : i < l.length
   ·have hr1 : rows[i]? = some [D.v (.int .i64 l[i])] := by rw [← hrows, List.getElem?_map, List.getElem?_eq_getElem hi]; rfl
    obtain ⟨x, h6, h7⟩ := hy.2.2 i 0 _ (.v (.int .i64 l[i])) hr1 rfl
    cases h7
    rw [show i * 1 + 0 = i by omega] at h6
    rw [h6, List.getElem?_map, List.getElem?_eq_getElem hi]; rfl
   ·rw [List.getElem?_eq_none (by rw [hy.1, ← hrows, List.length_map]; omega), List.getElem?_eq_none (by rw [List.length_map]; omega)]
  rw [← hyl]
  have hxl : xs.length = l.length := by rw [h4.1]; omega
  have hyll : ys.length = l.length := by rw [hyl, List.length_map]
  rcases h4.2 with ⟨e1, e2⟩ | ⟨g', cap2, cur, e1, e2, e3, e4, e5, e6, e7⟩
  ·rw [List.eq_nil_of_length_eq_zero (hxl.trans e2), List.eq_nil_of_length_eq_zero (hyll.trans e2)]
  ·refine List.ext_getElem? fun i => ?_
   by_cases hi : i < l.length
   ·obtain ⟨y, hyi⟩ : ∃ y, ys[i]? = some y := ⟨_, List.getElem?_eq_getElem (by omega)⟩
    injection e1 with e8 _ _
    injection he with e9 _ _
    have h8 := (hcell ⟨g', 0, none⟩ (by rw [← e9, e8]) i y hyi).1
    rw [hyi, ← e7, List.getElem?_take, if_pos (by omega)]
    rw [Qes, Nat.zero_add, Qhe e3] at h8
    simpa using h8
   ·rw [List.getElem?_eq_none (by omega), List.getElem?_eq_none (by omega)]
 rw [hxs] at h4
 refine ⟨h4.1, ?_⟩
 rcases h4.2 with h | ⟨g', cap', cur, e1, e2, e3, e4⟩
 ·exact .inl h
 ·refine .inr ⟨g', cap', cur, e1, ?_, e3, e4⟩
  have := (h5 g' (by rw [e1]; rfl)).1
  exact Nat.le_of_not_lt this
theorem own_block {w : World} {base e n : Nat} {u : Option Addr} {c : Nat} {N : List Int} (h : w.ownsRow base e 1 (.slice u n c) n (N.map (Value.int .i64))) (hn : N.length = n) (h0 : 0 < n) :
  ∃ g cur, u = some ⟨g, 0, none⟩ ∧ base ≤ g ∧ g < w.heap.size ∧ w.heap[g]? = some (.cells cur e (0, 0)) ∧ n ≤ c ∧ c ≤ maxLen ∧ cur.size = c * 1 ∧ cur.toList.take N.length = N.map (Value.int .i64) := by
 rcases h.2 with ⟨e0, _⟩ | ⟨g', cap', cur, e0, hb, hg, hn', hm, hs, ht⟩
 ·cases e0; omega
 ·injection e0 with e1 _ e3
  subst e1; subst e3
  have hlt : g' < w.heap.size := by
   obtain ⟨h1, _⟩ := Array.getElem?_eq_some_iff.1 hg; exact h1
  exact ⟨g', cur, rfl, hb, hlt, hg, hn', hm, hs, by rw [hn]; simpa using ht⟩
theorem slsort_any (N : List Int) (u : Option Addr) (c base : Nat) (w : World) (hN5 : N.length ≤ 50000) (hbase : base ≤ w.heap.size) (hown : w.ownsRow base 3 1 (.slice u N.length c) N.length (N.map (Value.int .i64))) :
  Calls Tryz.prog 259 #[.slice u N.length c] w fun e w' => e = .returned (.tuple #[]) ∧ w'.ownsRow base 3 1 (.slice u N.length c) N.length ((N.mergeSort fun x y => decide (x ≤ y)).map (Value.int .i64)) ∧ Below base w w' := by
 by_cases h0 : 0 < N.length
 ·obtain ⟨g, cur, rfl, hb, hlt, hg, hnc, hm, hs, ht⟩ := own_block hown rfl h0
  have H := Any.slices_Sort_int Tryz.lays189 g 0 c N w (holds_of_blockI hg ht) hlt (by omega)
  refine H.mono ?_
  rintro e w' ⟨rfl, n, os, rfl⟩
  refine ⟨rfl, ownsRow_sortedI (by simp) hb hg hnc hm hs, ?_⟩
  exact (Below.refl base w).grown (grownBy_sortedI _) hbase (fun k hk => by cases hk; exact hb)
 ·have hN : N = [] := List.length_eq_zero_iff.1 (by omega)
  subst hN
  refine (Any.slices_Sort_int_none Tryz.lays189 u c w).mono ?_
  rintro e w' ⟨rfl, rfl⟩
  exact ⟨rfl, by simpa using hown, Below.refl _ _⟩
theorem slcompact_any (N : List Int) (u : Option Addr) (c base : Nat) (w : World) (hown : w.ownsRow base 3 1 (.slice u N.length c) N.length (N.map (Value.int .i64))) :
  Calls Tryz.prog 260 #[.slice u N.length c] w fun e w' => e = .returned (.slice u (Lib.compact N).length c) ∧ w'.ownsRow base 3 1 (.slice u (Lib.compact N).length c) (Lib.compact N).length ((Lib.compact N).map (Value.int .i64)) ∧ Below base w w' := by
 by_cases h0 : 0 < N.length
 ·obtain ⟨g, cur, rfl, hb, hlt, hg, hnc, hm, hs, ht⟩ := own_block hown rfl h0
  have hle := Lib.compact_length_le N
  have H := Any.slices_Compact_int Tryz.laysNm220 g 0 c N w (holds_of_blockI hg ht) (by unfold maxLen at hm; omega) hnc
  refine H.mono ?_
  rintro e w' ⟨rfl, q, rfl⟩
  have h := Lib.ownsRow_putRow (q := q) (ys := Lib.compact N ++ List.replicate (N.length - (Lib.compact N).length) 0) hown (by simp; omega) hle
  rw [List.take_left'] at h
  ·exact ⟨rfl, h, Lib.below_putRow (Below.refl _ _) hb⟩
  ·rfl
 ·have hN : N = [] := List.length_eq_zero_iff.1 (by omega)
  subst hN
  refine (Any.slices_Compact_int_empty Tryz.laysNm220 u c w).mono ?_
  rintro e w' ⟨rfl, rfl⟩
  exact ⟨rfl, hown, Below.refl _ _⟩
theorem rising_any (a b : Int) (t : Tm) (u : Option Addr) (c base : Nat) (w : World) (hnd : cndT t ≤ 20000) (hbase : base ≤ w.heap.size) (hown : w.ownsRow base 3 1 (.slice u (clT a b t).length c) (clT a b t).length ((clT a b t).map (Value.int .i64))) :
  Calls Tryz.prog 213 #[.slice u (clT a b t).length c] w fun e w' => e = .returned (.slice u (nmT a b t).length c) ∧ w'.ownsRow base 3 1 (.slice u (nmT a b t).length c) (nmT a b t).length ((nmT a b t).map (Value.int .i64)) ∧ Below base w w' := by
 have hR := rise_nm a b t
 have S1 := Hh (slsort_any _ u c base w (by have := cl_len a b t; omega) hbase hown)
 have hml : ((clT a b t).mergeSort fun x y => decide (x ≤ y)).length = (clT a b t).length := List.length_mergeSort _
 rw [← hml] at S1 ⊢
 generalize ((clT a b t).mergeSort fun x y => decide (x ≤ y)) = S at *
 generalize nmT a b t = R at *
 clear hown hml
 have HR := Hh hR
 clear hR
 go_enter Tryz.func213, Tryz.ntmps213
 go_wp2_with fail
 refine S1.out.mono ?_
 rintro e w1 ⟨rfl, ho1, hb1⟩
 have C := Hh (slcompact_any S u c base w1 ho1)
 have HB1 := Hh hb1
 clear ho1 hb1 S1
 go_wp2_with fail
 refine C.out.mono ?_
 rw [HR.out]
 rintro e w2 ⟨rfl, ho2, hb2⟩
 have HO := Hh ho2
 have HB := Hh (HB1.out.trans hb2)
 clear ho2 hb2 C
 go_wp2_with fail
 go_ret
 exact ⟨rfl, HO.out, HB.out⟩
end Go.Proofs.YtdklpbefbamchaaGreat
namespace Go.Proofs.YtdklpbefbamchaaGreat
open Go.RowKit
theorem relK0 {α : Type} [Enc α] [EncOk α] {w : World} {t : α} {cs : List Value} (h : Rep (fun _ => True) w t cs) : RelV (K0 w) w (aggD t) (.agg cs.toArray) := rel_rep (K := K0 w) (fun b o v _ h => ⟨v, h⟩) h
theorem rvI (K : Nat → Nat → Prop) (w : World) (l : List Int) : RV K w 1 (l.map encD) (l.map (Value.int .i64)) := by
 refine ⟨by simp, Qht l, fun i j row d hi hj => ?_⟩
 rw [List.getElem?_map] at hi
 obtain ⟨n, hn, rfl⟩ := Option.map_eq_some_iff.1 hi
 have hj0 : j = 0 := by
  have := (List.getElem?_eq_some_iff.1 hj).1
  simpa [Jf] using this
 subst hj0
 obtain rfl : D.v (.int .i64 n) = d := Option.some.inj hj
 exact ⟨.int .i64 n, by rw [show i * 1 + 0 = i by omega, List.getElem?_map, hn]; rfl, .v trivial⟩
theorem relI {w w' : World} {base e : Nat} {v : Value} {l : List Int} (h : w'.ownsRow base e 1 v l.length (l.map (Value.int .i64))) (hb : w.heap.size ≤ base) {K' : Kp} (hK : ∀ b o u, w.heap.size ≤ b → w'.cell? ⟨b, o, none⟩ = some u → K'.cell b o) : RelD K'.cell w' (.sl (l.map encD)) v := by
 refine (rvI K'.cell w' l).rel (E := e) (n := l.length) ⟨h.1, ?_⟩ (by rw [List.length_map]) fun b hv o ho => ?_
 ·rcases h.2 with h | ⟨g, cap, cur, e1, e2, e3⟩
  ·exact .inl h
  ·exact .inr ⟨g, cap, cur, e1, Nat.zero_le _, e3⟩
 ·rcases h.2 with ⟨e1, -⟩ | ⟨g, cap, cur, e1, e2, e3, e4, e5, e6, e7⟩
  ·rw [e1] at hv; cases hv
  ·rw [e1] at hv
   obtain rfl : g = b := Option.some.inj hv
   obtain ⟨u, hu⟩ : ∃ u, cur[o]? = some u := ⟨_, Array.getElem?_eq_getElem (by omega)⟩
   exact hK g o u (by omega) (by rw [Qhe e3]; exact hu)
theorem tfrees_p (t : Tm) : PCalls Tryz.prog 243 [aggD t] [] fun p s => p = .d (.sl ((enT 8 8 t).map encD)) ∧ s = [] := by
  refine PCalls.data fun K w vs ha => ?_
  obtain ⟨v, rfl, hv⟩ := ha.one
  obtain ⟨cs, rfl, ht⟩ := Qlr hv
  obtain ⟨sv, rfl, hsub⟩ := rep_tm.1 ht
  obtain ⟨ad, nn, cap, rfl⟩ := hsub.form
  have E := boxes1 w #[.int .i64 t.kind, .int .i64 t.num, .slice ad nn cap] 26
  have HT := Hh ht
  have HE := Hh E
  have SH := Hh (((Qie t).mono fun _ _ h => h.1).top (Qdo (relK0 (ht.later E.2.1)) (Qic _ _)))
  clear hv ha hsub ht E
  cases hb : Qak t with
  | true =>
    have hE : enT 8 8 t = nmT 8 8 t := if_pos hb
    have hnd := (Qbu hb).2.2
    rw [hb] at SH
    rw [hE]
    clear hE hb
    go_enter Tryz.func243, Tryz.ntmps243
    go_wp2_with fail
    refine SH.out.mono ?_
    rintro e w1 ⟨rfl, hb1⟩
    have h1 := (hb1.block w.heap.size (by have := HE.out.2.2; omega)).trans HE.out.1
    have c0 := Qhe h1 0
    have c1 := Qhe h1 1
    have c2 := Qhe h1 2
    have HW1 := Hh (HE.out.2.1.trans (hb1.mono HE.out.2.1.size))
    have C := Hh ((collect_o t 8 8 (by omega)).ownI (Qdo (relK0 (HT.out.later HW1.out)) (Qdo (.d (.v trivial)) (Qdo (.d (.v trivial)) (Qic _ _)))))
    clear hb1 SH h1
    go_wp2_with fail
    refine C.out.mono ?_
    rintro e w2 ⟨u, c, rfl, ho, hb2⟩
    have R := Hh (rising_any 8 8 t u c w1.heap.size w2 (by omega) hb2.size ho)
    have HB2 := Hh hb2
    clear hb2 ho C c0 c1 c2
    go_wp2_with fail
    refine R.out.mono ?_
    rintro e w3 ⟨rfl, ho3, hb3⟩
    have HS := Hh ho3
    have HB := Hh (HW1.out.trans ((HB2.out.trans hb3).mono HW1.out.size))
    have HZ := Hh HW1.out.size
    clear hb3 ho3 R
    go_wp2_with fail
    go_ret
    exact ⟨_, rfl, HB.out, fun K' hK => .d (relI HS.out HZ.out hK)⟩
  | false =>
    have hE : enT 8 8 t = [] := if_neg (by rw [hb]; simp)
    rw [hb] at SH
    rw [hE]
    clear hE hb
    go_enter Tryz.func243, Tryz.ntmps243
    go_wp2_with fail
    refine SH.out.mono ?_
    rintro e w1 ⟨rfl, hb1⟩
    have HW1 := Hh (HE.out.2.1.trans (hb1.mono HE.out.2.1.size))
    clear hb1
    go_wp2_with fail
    go_ret
    exact ⟨_, rfl, HW1.out, fun K' hK => .d (.nil (by decide))⟩
theorem tentries_p (t : Tm) : PCalls Tryz.prog 165 [aggD t] [] fun p s => p = .d (.sl ((enT 6 7 t).map encD)) ∧ s = [] := by
  refine PCalls.data fun K w vs ha => ?_
  obtain ⟨v, rfl, hv⟩ := ha.one
  obtain ⟨cs, rfl, ht⟩ := Qlr hv
  obtain ⟨sv, rfl, hsub⟩ := rep_tm.1 ht
  obtain ⟨ad, nn, cap, rfl⟩ := hsub.form
  have E := boxes1 w #[.int .i64 t.kind, .int .i64 t.num, .slice ad nn cap] 26
  have HT := Hh ht
  have HE := Hh E
  have SH := Hh (((Qie t).mono fun _ _ h => h.1).top (Qdo (relK0 (ht.later E.2.1)) (Qic _ _)))
  clear hv ha hsub ht E
  cases hb : Qak t with
  | true =>
    have hE : enT 6 7 t = nmT 6 7 t := if_pos hb
    have hnd := (Qbu hb).2.2
    rw [hb] at SH
    rw [hE]
    clear hE hb
    go_enter Tryz.func165, Tryz.ntmps165
    go_wp2_with fail
    refine SH.out.mono ?_
    rintro e w1 ⟨rfl, hb1⟩
    have h1 := (hb1.block w.heap.size (by have := HE.out.2.2; omega)).trans HE.out.1
    have c0 := Qhe h1 0
    have c1 := Qhe h1 1
    have c2 := Qhe h1 2
    have HW1 := Hh (HE.out.2.1.trans (hb1.mono HE.out.2.1.size))
    have C := Hh ((collect_o t 6 7 (by omega)).ownI (Qdo (relK0 (HT.out.later HW1.out)) (Qdo (.d (.v trivial)) (Qdo (.d (.v trivial)) (Qic _ _)))))
    clear hb1 SH h1
    go_wp2_with fail
    refine C.out.mono ?_
    rintro e w2 ⟨u, c, rfl, ho, hb2⟩
    have R := Hh (rising_any 6 7 t u c w1.heap.size w2 (by omega) hb2.size ho)
    have HB2 := Hh hb2
    clear hb2 ho C c0 c1 c2
    go_wp2_with fail
    refine R.out.mono ?_
    rintro e w3 ⟨rfl, ho3, hb3⟩
    have HS := Hh ho3
    have HB := Hh (HW1.out.trans ((HB2.out.trans hb3).mono HW1.out.size))
    have HZ := Hh HW1.out.size
    clear hb3 ho3 R
    go_wp2_with fail
    go_ret
    exact ⟨_, rfl, HB.out, fun K' hK => .d (relI HS.out HZ.out hK)⟩
  | false =>
    have hE : enT 6 7 t = [] := if_neg (by rw [hb]; simp)
    rw [hb] at SH
    rw [hE]
    clear hE hb
    go_enter Tryz.func165, Tryz.ntmps165
    go_wp2_with fail
    refine SH.out.mono ?_
    rintro e w1 ⟨rfl, hb1⟩
    have HW1 := Hh (HE.out.2.1.trans (hb1.mono HE.out.2.1.size))
    clear hb1
    go_wp2_with fail
    go_ret
    exact ⟨_, rfl, HW1.out, fun K' hK => .d (.nil (by decide))⟩
theorem Qkh (k n : Int) : PCalls Tryz.prog 68 [.d (.v (.int .i64 k)), .d (.v (.int .i64 n))] [] fun p s => p = aggD (Tm.mk k n []) ∧ s = [] := by
 refine pG Tryz.func68 Tryz.ntmps68 ?_
 refine Je ?_
 intro i0 hi0
 refine go_ ?_
 refine Qaa ?_
 refine rT Tryz.results68 ?_
 exact ⟨by simp [aggD, tupP, PV.norm2, PV.norm1, PV.norm0], rfl⟩
theorem rtwo_p (k : Int) (a b : Tm) : PCalls Tryz.prog 124 [.d (.v (.int .i64 k)), aggD a, aggD b] [] fun p s => p = aggD (Tm.mk k 0 [a, b]) ∧ s = [] := by
 simp only [aggD, Jl, List.map_cons, List.map_nil, Jv, Jw, Jx]
 refine pG Tryz.func124 Tryz.ntmps124 ?_
 refine Jd ?_
 intro i0 hi0
 refine go_ ?_
 refine Jd ?_
 intro i1 hi1
 try simp only [Ja, Rh, Rg, Jb] at hi1
 refine go_ ?_
 refine Je ?_
 intro i2 hi2
 try simp only [Ja, Rh, Rg, Jb] at hi2
 refine go_ ?_
 refine Qao ?_
 refine Qaa ?_
 refine rT Tryz.results124 ?_
 exact ⟨by simp [tupP, PV.norm2, PV.norm1, PV.norm0], rfl⟩
theorem Qkj (k n : Int) (l : List Tm) : PCalls Tryz.prog 181 [.d (.v (.int .i64 k)), .d (.v (.int .i64 n)), .d (.sl (l.map encD))] [] fun p s => p = aggD (Tm.mk k n l) ∧ s = [] := by
 refine pG Tryz.func181 Tryz.ntmps181 ?_
 refine Je ?_
 intro i0 hi0
 refine go_ ?_
 refine Qaa ?_
 refine rT Tryz.results181 ?_
 exact ⟨by simp [aggD, tupP, PV.norm2, PV.norm1, PV.norm0], rfl⟩
theorem tsort_p (n : Int) : PCalls Tryz.prog 141 [.d (.v (.int .i64 n))] [] fun p s => p = aggD (Tm.mk 2 n []) ∧ s = [] := by
 have hc := Hh (Qkj 2 n [])
 simp only [aggD, Jl, List.map_cons, List.map_nil, Jv, Jw, Jx] at hc ⊢
 refine pG Tryz.func141 Tryz.ntmps141 ?_
 refine Je ?_
 intro i0 hi0
 refine go_ ?_
 refine Qab (hc.out) ?_
 refine Qaa ?_
 refine rT Tryz.results141 ?_
 exact ⟨by simp [tupP, PV.norm2, PV.norm1, PV.norm0], rfl⟩
theorem tcloned_p : ∀ (t : Tm), cndT t ≤ 100000 → PCalls Tryz.prog 182 [aggD t] [] fun p s => p = aggD t ∧ s = [] := by
 refine Tm.ind ?_
 intro k n sub ih hnd
 have hns : cndL sub ≤ 100000 := by simp only [cndT] at hnd; omega
 have hsl : sub.length ≤ 100000 := Nat.le_trans (Qko sub) hns
 have IH : Hid (∀ s ∈ sub, PCalls Tryz.prog 182 [aggD s] [] fun p st => p = aggD s ∧ st = []) := fun s hs => ih s hs (by have := cnd_mem s hs; omega)
 simp only [aggD, Jl, List.map_cons, List.map_nil, Jv, Jw, Jx]
 clear ih hnd hns
 refine pG Tryz.func182 Tryz.ntmps182 ?_
 refine Jd ?_
 intro i0 hi0
 refine go_ ?_
 refine Je ?_
 intro i1 hi1
 try simp only [Ja, Rh, Rg, Jb] at hi1
 refine go_ ?_
 refine Je ?_
 intro i2 hi2
 try simp only [Ja, Rh, Rg, Jb] at hi2
 refine go_ ?_
 refine Rd ?_
 refine gs_ ?_
 refine PW_ownB i2 2 26 3 eQ (by rfl) (by rfl) (by intro g; simp [St.setBox, *]; rfl) (by decide) ?_
 intro g hg
 refine go_ ?_
 refine Qai (ι := Nat) (fun y => y ≤ sub.length) (fun y => [(2, .ptr i1 0), (3, .ptr i2 0), (12, .d (.sl (sub.map encD))), (13, .d (.v (.int .i64 sub.length))), (14, .d (.v (.int .i64 (y : Int))))]) (fun y => [.tok g 26 3 y, .box i2 26 [.d (.v (.int .i64 k)), .d (.v (.int .i64 n)), .own g ((sub.map encD).take y)], .box i1 26 [.d (.v (.int .i64 0)), .d (.v (.int .i64 0)), .nils]]) (fun y => sub.length - y) 0 (Nat.zero_le _) ?_ ?_ ?_
 ·exact sU
 ·exact dR
 ·rintro j hj
  by_cases hlt : j < sub.length
  ·have hx := Qaq hlt
   have hc : (j : Int) < sub.length := by omega
   have hn : (0 : Int) ≤ j := by omega
   have hin := wr64 (n := (j : Int) + 1) (by omega) (by omega)
   have hc1 := Hh (IH.out _ (List.getElem_mem hlt))
   have hT : (sub.map encD).take (j + 1) = (sub.map encD).take j ++ [encD sub[j]] := by rw [← List.map_take, List.take_succ_eq_append_getElem hlt, List.map_append, List.map_take]; rfl
   have hlen : (sub.take j).length = j := by rw [List.length_take]; omega
   have HT := Hh hT
   clear hT
   refine go_ ?_
   refine Je ?_
   intro i3 hi3
   try simp only [Ja, Rh, Rg, Jb] at hi3
   refine go_ ?_
   refine Qaa ?_
   refine Qfu (J := Qcm [(i2, _), (i3, _)]) [(0, .a), (1, .a), (2, .a), (3, .a), (4, .a), (5, .e), (6, .a), (7, .e)] (by kernel_rfl) (by rfl) (by kernel_rfl) (by (repeat (first | exact Qat _ | refine Ju (by simp [St.box?, *] <;> rfl) ?_))) ?_
   refine lG ?_
   refine Qdv (hc1.out) ?_
   refine lG ?_
   refine PL_bs ?_ rfl (by decide) rfl (by simp; rfl) (by rfl) (by simp; rfl) (by rfl) (by decide) (by decide) eQ (by simp [Qde, toDs, PV.toD]; rfl)
   refine PL_app (j + 1) ?_ ?_ ?_ ?_ ?_
   rotate_left
   ·exact fun row h => Qhu sub row (List.mem_of_mem_take h)
   ·exact Qbt rfl
   ·simp; omega
   ·exact .inr (by (repeat (first | exact Qat _ | refine Ju (by simp [St.box?, *] <;> rfl) ?_)))
   refine lG ?_
   refine PLs ?_
   refine lG ?_
   refine go_ ?_
   refine ⟨j + 1, hlt, by omega, ?_, ?_⟩
   ·exact sU
   ·rw [HT.out]
    simp only [Jl]
    exact dR
  ·have hc : ¬ (j : Int) < sub.length := by omega
   have hj2 : j = sub.length := by omega
   subst hj2
   have htk : (sub.map encD).take sub.length = sub.map encD := List.take_of_length_le (by simp)
   rw [htk]
   refine go_ ?_
   refine Qaa ?_
   refine rT Tryz.results182 ?_
   exact ⟨by simp [tupP, PV.norm2, PV.norm1, PV.norm0], rfl⟩
def copyT (t : Tm) : Tm := if Qak t = true then t else .mk 0 0 []
theorem tCopy_p (t : Tm) : PCalls Tryz.prog 119 [aggD t] [] fun p s => p = aggD (copyT t) ∧ s = [] := by
  have hS := Hh (Qie t)
  have HR := Hh (show copyT t = if Qak t = true then t else .mk 0 0 [] from rfl)
  cases hb : Qak t with
  | true =>
    have hL := Hh (tcloned_p t (by have := (Qbu hb).2.2; omega))
    rw [HR.out, if_pos hb]
    rw [hb] at hS
    clear HR hb
    simp only [aggD, Jl, List.map_cons, List.map_nil] at hS hL ⊢
    refine pG Tryz.func119 Tryz.ntmps119 ?_
    refine Jd ?_
    intro i0 hi0
    refine go_ ?_
    refine Je ?_
    intro i1 hi1
    try simp only [Ja, Rh, Rg, Jb] at hi1
    refine go_ ?_
    refine Qab (hS.out) ?_
    refine Qab (hL.out) ?_
    refine Qaa ?_
    refine rT Tryz.results119 ?_
    exact ⟨by simp [tupP, PV.norm2, PV.norm1, PV.norm0], rfl⟩
  | false =>
    rw [HR.out, if_neg (by rw [hb]; simp)]
    rw [hb] at hS
    clear HR hb
    simp only [aggD, Jl, List.map_cons, List.map_nil, Jv, Jw, Jx] at hS ⊢
    refine pG Tryz.func119 Tryz.ntmps119 ?_
    refine Jd ?_
    intro i0 hi0
    refine go_ ?_
    refine Je ?_
    intro i1 hi1
    try simp only [Ja, Rh, Rg, Jb] at hi1
    refine go_ ?_
    refine Qab (hS.out) ?_
    refine Qaa ?_
    refine rT Tryz.results119 ?_
    exact ⟨by simp [tupP, PV.norm2, PV.norm1, PV.norm0], rfl⟩
def putG : List Int → Int → Bool → List Int
 | [], n, d => if d = true then [] else [n]
 | x :: xs, n, d => if d = true then x :: putG xs n true else if n ≤ x then (if n < x then [n, x] else [x]) ++ putG xs n true else x :: putG xs n false
theorem putG_true (l : List Int) (n : Int) : putG l n true = l := by
 induction l with
 | nil => simp [putG]
 | cons x xs ih => simp [putG, ih]
theorem putG_eq (l : List Int) (n : Int) : putG l n false = putL l n := by
  induction l with
  | nil => simp [putG, putL]
  | cons x xs ih =>
    simp only [putG, putL, putG_true, ih]
    simp only [Bool.false_eq_true, if_false]
    by_cases h1 : x < n
    · rw [if_neg (by omega), if_pos h1]
    · rw [if_neg h1, if_pos (by omega)]
      by_cases h2 : n < x
      · rw [if_pos h2, if_pos h2]; rfl
      · rw [if_neg h2, if_neg h2]; rfl
theorem rput_p (l : List Int) (n : Int) (hl : l.length ≤ 100000) : PCalls Tryz.prog 127 [.d (.sl (l.map encD)), .d (.v (.int .i64 n))] [] fun p s => p = .d (.sl ((putL l n).map encD)) ∧ s = [] := by
  obtain ⟨R, hR0⟩ : ∃ R, R = putG l n false := ⟨_, rfl⟩
  rw [← putG_eq, ← hR0]
  have HR0 := Hh hR0
  clear hR0
  refine pG Tryz.func127 Tryz.ntmps127 ?_
  refine Qdi ?_ (by decide) eD (by simp; rfl) (by rfl) (by simp; rfl) (by rfl) (by decide)
  intro g hg
  refine go_ ?_
  refine Qai (ι := Nat × List Int × Bool) (fun y => y.1 ≤ l.length ∧ y.2.1.length ≤ 2 * y.1 ∧ Hid (R = y.2.1 ++ putG (l.drop y.1) n y.2.2)) (fun y => [(0, .d (.sl (l.map encD))), (1, .d (.v (.int .i64 n))), (5, .own g (y.2.1.map encD)), (6, .d (.v (.bool y.2.2))), (7, .d (.v (.int .i64 (y.1 : Int))))]) (fun y => [.tok g 3 1 y.2.1.length]) (fun y => l.length - y.1) (0, [], false) ⟨Nat.zero_le _, Nat.le_refl _, HR0.out⟩ ?_ ?_ ?_
  · exact sU
  · exact dR
  · rintro ⟨j, o, d⟩ ⟨hj, ho, hR⟩
    simp only at hj ho hR ⊢
    clear HR0
    by_cases hlt : j < l.length
    · have hx := Qaq hlt
      have hc : (j : Int) < l.length := by omega
      have hn : (0 : Int) ≤ j := by omega
      have hin := wr64 (n := (j : Int) + 1) (by omega) (by omega)
      have hR2 := hR.out
      rw [List.drop_eq_getElem_cons hlt] at hR2
      simp only [putG] at hR2
      cases d with
      | true =>
        simp only [if_true] at hR2
        have HR2 := Hh hR2
        clear hR2 hR
        refine go_ ?_
        refine Qao ?_
        refine Qap (o.length + 1) ?_ ?_ ?_ ?_
        · simp
        · exact Qht _
        · exact Qbt rfl
        refine go_ ?_
        refine ⟨(j + 1, o ++ [l[j]], true), ⟨hlt, by simp; omega, by rw [show R = _ from HR2.out, List.append_assoc]; rfl⟩, by simp only; omega, ?_, ?_⟩
        · repeat (first | exact Jt _ | refine Js (by simp [PF.get]; rfl) (by first | rfl | (simp [Jf, hin]; done) | fail) ?_)
        · simp only [List.length_append, List.length_singleton]
          exact dR
      | false =>
        simp only [Bool.false_eq_true, if_false] at hR2
        by_cases h1 : n ≤ l[j]
        · rw [if_pos h1] at hR2
          by_cases h2 : n < l[j]
          · rw [if_pos h2] at hR2
            have HR2 := Hh hR2
            clear hR2 hR
            refine go_ ?_
            refine Qao ?_
            refine Qap (o.length + 1) ?_ ?_ ?_ ?_
            · simp
            · exact Qht _
            · exact Qbt rfl
            refine go_ ?_
            refine Qao ?_
            refine Qap (o.length + 2) ?_ ?_ ?_ ?_
            · simp
            · simpa [Jf] using rows1a o [n]
            · exact Qbt rfl
            refine go_ ?_
            refine ⟨(j + 1, o ++ [n, l[j]], true), ⟨hlt, by simp; omega, by rw [show R = _ from HR2.out, List.append_assoc]; rfl⟩, by simp only; omega, ?_, ?_⟩
            · repeat (first | exact Jt _ | refine Js (by simp [PF.get]; rfl) (by first | rfl | (simp [Jf, hin]; done) | fail) ?_)
            · simp only [List.length_append, List.length_cons, List.length_nil]
              exact dR
          · rw [if_neg h2] at hR2
            have HR2 := Hh hR2
            clear hR2 hR
            refine go_ ?_
            refine Qao ?_
            refine Qap (o.length + 1) ?_ ?_ ?_ ?_
            · simp
            · exact Qht _
            · exact Qbt rfl
            refine go_ ?_
            refine ⟨(j + 1, o ++ [l[j]], true), ⟨hlt, by simp; omega, by rw [show R = _ from HR2.out, List.append_assoc]; rfl⟩, by simp only; omega, ?_, ?_⟩
            · repeat (first | exact Jt _ | refine Js (by simp [PF.get]; rfl) (by first | rfl | (simp [Jf, hin]; done) | fail) ?_)
            · simp only [List.length_append, List.length_singleton]
              exact dR
        · rw [if_neg h1] at hR2
          have HR2 := Hh hR2
          clear hR2 hR
          refine go_ ?_
          refine Qao ?_
          refine Qap (o.length + 1) ?_ ?_ ?_ ?_
          · simp
          · exact Qht _
          · exact Qbt rfl
          refine go_ ?_
          refine ⟨(j + 1, o ++ [l[j]], false), ⟨hlt, by simp; omega, by rw [show R = _ from HR2.out, List.append_assoc]; rfl⟩, by simp only; omega, ?_, ?_⟩
          · repeat (first | exact Jt _ | refine Js (by simp [PF.get]; rfl) (by first | rfl | (simp [Jf, hin]; done) | fail) ?_)
          · simp only [List.length_append, List.length_singleton]
            exact dR
    · have hc : ¬ (j : Int) < l.length := by omega
      have hR2 := hR.out
      rw [List.drop_of_length_le (by omega)] at hR2
      cases d with
      | true =>
        have hf : Hid (R = o) := by show _ = _; rw [show R = _ from hR2]; simp [putG]
        clear hR2 hR
        refine go_ ?_
        refine rT Tryz.results127 ?_
        exact ⟨by rw [hf.out]; rfl, rfl⟩
      | false =>
        have hf : Hid (R = o ++ [n]) := by show _ = _; rw [show R = _ from hR2]; simp [putG]
        clear hR2 hR
        refine go_ ?_
        refine Qao ?_
        refine Qap (o.length + 1) ?_ ?_ ?_ ?_
        · simp
        · exact Qht _
        · exact Qbt rfl
        refine go_ ?_
        refine rT Tryz.results127 ?_
        exact ⟨by rw [hf.out]; simp [tupP, PV.norm2, PV.norm1, PV.norm0, Jf], rfl⟩
theorem Qlz {l : List Tm} {j : Nat} (h : j < l.length) : cndL (l.take (j + 1)) = cndL (l.take j) + cndT l[j] := by
 rw [List.take_succ_eq_append_getElem h, Qgl]; simp only [cndL]; omega
theorem rnumbers_p : ∀ (t : Tm) (a b : Int), cndT t ≤ 50000 → PCalls Tryz.prog 78 [aggD t, .d (.v (.int .i64 a)), .d (.v (.int .i64 b))] [] fun p s => p = .d (.sl ((nmT a b t).map encD)) ∧ s = [] := by
 refine Tm.ind ?_
 intro k n sub ih a b hnd
 have hc0 : nmT a b (.mk k n sub) = nmS a b sub (if k = a ∨ k = b then [n] else []) := by simp only [nmT]
 have hns : cndL sub + 1 ≤ 50000 := by simp only [cndT] at hnd; omega
 have hsl : sub.length ≤ 50000 := Nat.le_trans (Qko sub) (by omega)
 have IH : Hid (∀ s ∈ sub, PCalls Tryz.prog 78 [aggD s, .d (.v (.int .i64 a)), .d (.v (.int .i64 b))] [] fun p st => p = .d (.sl ((nmT a b s).map encD)) ∧ st = []) := fun s hs => ih s hs a b (by have := cnd_mem s hs; omega)
 simp only [aggD, Jl, List.map_cons, List.map_nil, Jv, Jw, Jx]
 clear ih hnd
 rw [hc0]
 clear hc0
 have hl0 : (if k = a ∨ k = b then [n] else []).length ≤ 1 := by split <;> simp
 obtain ⟨r0, hr0⟩ : ∃ r0, (if k = a ∨ k = b then [n] else []) = r0 := ⟨_, rfl⟩
 rw [hr0] at hl0 ⊢
 obtain ⟨R, hR0⟩ : ∃ R, R = nmS a b sub r0 := ⟨_, rfl⟩
 rw [← hR0]
 have HR0 := Hh hR0
 clear hR0
 refine pG Tryz.func78 Tryz.ntmps78 ?_
 refine Jd ?_
 intro i0 hi0
 refine go_ ?_
 refine Qdi ?_ (by decide) eD (by simp; rfl) (by rfl) (by simp; rfl) (by rfl) (by decide)
 intro g hg
 by_cases hk : k = a ∨ k = b
 ·rw [if_pos hk] at hr0
  by_cases h1 : k = a
  ·clear hk
   have h1c : (k == a) = true := beq_iff_eq.2 h1
   clear h1
   refine gs_ ?_
   refine Qc ?_
   refine gs_ ?_
   refine Qc ?_
   refine go_ ?_
   refine Qao ?_
   refine Qap 1 ?_ ?_ ?_ ?_
   ·rfl
   ·simp
   ·simp
   refine gs_ ?_
   refine Qlo 7 (by simp [PF.get] <;> rfl) ?_
   refine go_ ?_
   clear h1c
   refine Qai (ι := Nat × List Int) (fun y => y.1 ≤ sub.length ∧ y.2.length ≤ 1 + cndL (sub.take y.1) ∧ Hid (R = nmS a b (sub.drop y.1) y.2)) (fun y => [(1, .d (.v (.int .i64 a))), (2, .d (.v (.int .i64 b))), (3, .ptr i0 0), (7, .d (.sl (y.2.map encD))), (8, .d (.v (.int .i64 (y.1 : Int))))]) (fun _ => [.box i0 26 [.d (.v (.int .i64 k)), .d (.v (.int .i64 n)), .d (.sl (sub.map encD))]]) (fun y => sub.length - y.1) (0, r0) ⟨Nat.zero_le _, by simp only; omega, HR0.out⟩ ?_ ?_ ?_
   ·subst hr0
    repeat (first | exact Jt _ | refine Js (by simp [PF.get]; rfl) (by first | rfl | (simp [Jf]; done) | fail) ?_)
   ·exact dR
   ·rintro ⟨j, o⟩ ⟨hj, ho, hR⟩
    simp only at hj ho hR ⊢
    clear HR0 hr0
    by_cases hlt : j < sub.length
    ·have hx := Qaq hlt
     have hc : (j : Int) < sub.length := by omega
     have hn : (0 : Int) ≤ j := by omega
     have hin := wr64 (n := (j : Int) + 1) (by omega) (by omega)
     have hR2 : Hid (R = nmS a b (sub.drop (j + 1)) ((nmT a b sub[j]).foldl putL o)) := by
      rw [show R = _ from hR.out, List.drop_eq_getElem_cons hlt]
      show _ = _
      simp only [nmS]
     have hc1 := Hh (IH.out _ (List.getElem_mem hlt))
     have hT1 := Qlz hlt
     have hT2 := Qgv sub (j + 1)
     have hnl := nm_len a b sub[j]
     have hfl := Qme (nmT a b sub[j]) o
     clear hR
     generalize nmT a b sub[j] = l at *
     generalize hF : l.foldl putL o = F at *
     have HF := Hh hF
     clear hF
     refine go_ ?_
     refine Qab (hc1.out) ?_
     refine Qai (ι := Nat × List Int) (fun y => y.1 ≤ l.length ∧ y.2.length ≤ o.length + y.1 ∧ Hid ((l.drop y.1).foldl putL y.2 = F)) (fun y => [(1, .d (.v (.int .i64 a))), (2, .d (.v (.int .i64 b))), (3, .ptr i0 0), (7, .d (.sl (y.2.map encD))), (8, .d (.v (.int .i64 (j : Int)))), (9, .d (.sl (l.map encD))), (10, .d (.v (.int .i64 (y.1 : Int))))]) (fun _ => [.box i0 26 [.d (.v (.int .i64 k)), .d (.v (.int .i64 n)), .d (.sl (sub.map encD))]]) (fun y => l.length - y.1) (0, o) ⟨Nat.zero_le _, Nat.le_refl _, HF.out⟩ ?_ ?_ ?_
     ·exact sU
     ·exact dR
     ·rintro ⟨m, q⟩ ⟨hm, hq, hG⟩
      simp only at hm hq hG ⊢
      clear HF
      by_cases hlm : m < l.length
      ·have hxm := Qaq hlm
       have hcm : (m : Int) < l.length := by omega
       have hnm : (0 : Int) ≤ m := by omega
       have him := wr64 (n := (m : Int) + 1) (by omega) (by omega)
       have hG2 : Hid ((l.drop (m + 1)).foldl putL (putL q l[m]) = F) := by
        have := hG.out
        rw [List.drop_eq_getElem_cons hlm] at this
        exact this
       have hp := Hh (rput_p q l[m] (by omega))
       have hpl := Qkw l[m] q
       clear hG
       generalize putL q l[m] = q' at *
       refine go_ ?_
       refine Qab (hp.out) ?_
       exact ⟨(m + 1, q'), ⟨hlm, by simp only; omega, hG2⟩, by simp only; omega, sU, dR⟩
      ·have hcm : ¬ (m : Int) < l.length := by omega
       have hf : Hid (q = F) := by have := hG.out; rw [List.drop_of_length_le (by omega)] at this; exact this
       rw [← hf.out] at hR2 hfl
       refine go_ ?_
       exact ⟨(j + 1, q), ⟨hlt, by simp only; omega, hR2⟩, by simp only; omega, sU, dR⟩
    ·have hc : ¬ (j : Int) < sub.length := by omega
     have hf : Hid (R = o) := by show _ = _; rw [show R = _ from hR.out, List.drop_of_length_le (by omega)]; simp only [nmS]
     refine go_ ?_
     refine rT Tryz.results78 ?_
     exact ⟨by rw [hf.out]; rfl, rfl⟩
  ·have h2 : k = b := hk.resolve_left h1
   clear hk
   have h1b : (k == a) = false := beq_eq_false_iff_ne.2 h1
   have h2b : (k == b) = true := beq_iff_eq.2 h2
   clear h1 h2
   refine gs_ ?_
   refine Qc ?_
   refine gs_ ?_
   refine Qc ?_
   refine go_ ?_
   refine Qao ?_
   refine Qap 1 ?_ ?_ ?_ ?_
   ·rfl
   ·simp
   ·simp
   refine gs_ ?_
   refine Qlo 7 (by simp [PF.get] <;> rfl) ?_
   refine go_ ?_
   clear h1b h2b
   refine Qai (ι := Nat × List Int) (fun y => y.1 ≤ sub.length ∧ y.2.length ≤ 1 + cndL (sub.take y.1) ∧ Hid (R = nmS a b (sub.drop y.1) y.2)) (fun y => [(1, .d (.v (.int .i64 a))), (2, .d (.v (.int .i64 b))), (3, .ptr i0 0), (7, .d (.sl (y.2.map encD))), (8, .d (.v (.int .i64 (y.1 : Int))))]) (fun _ => [.box i0 26 [.d (.v (.int .i64 k)), .d (.v (.int .i64 n)), .d (.sl (sub.map encD))]]) (fun y => sub.length - y.1) (0, r0) ⟨Nat.zero_le _, by simp only; omega, HR0.out⟩ ?_ ?_ ?_
   ·subst hr0
    repeat (first | exact Jt _ | refine Js (by simp [PF.get]; rfl) (by first | rfl | (simp [Jf]; done) | fail) ?_)
   ·exact dR
   ·rintro ⟨j, o⟩ ⟨hj, ho, hR⟩
    simp only at hj ho hR ⊢
    clear HR0 hr0
    by_cases hlt : j < sub.length
    ·have hx := Qaq hlt
     have hc : (j : Int) < sub.length := by omega
     have hn : (0 : Int) ≤ j := by omega
     have hin := wr64 (n := (j : Int) + 1) (by omega) (by omega)
     have hR2 : Hid (R = nmS a b (sub.drop (j + 1)) ((nmT a b sub[j]).foldl putL o)) := by
      rw [show R = _ from hR.out, List.drop_eq_getElem_cons hlt]
      show _ = _
      simp only [nmS]
     have hc1 := Hh (IH.out _ (List.getElem_mem hlt))
     have hT1 := Qlz hlt
     have hT2 := Qgv sub (j + 1)
     have hnl := nm_len a b sub[j]
     have hfl := Qme (nmT a b sub[j]) o
     clear hR
     generalize nmT a b sub[j] = l at *
     generalize hF : l.foldl putL o = F at *
     have HF := Hh hF
     clear hF
     refine go_ ?_
     refine Qab (hc1.out) ?_
     refine Qai (ι := Nat × List Int) (fun y => y.1 ≤ l.length ∧ y.2.length ≤ o.length + y.1 ∧ Hid ((l.drop y.1).foldl putL y.2 = F)) (fun y => [(1, .d (.v (.int .i64 a))), (2, .d (.v (.int .i64 b))), (3, .ptr i0 0), (7, .d (.sl (y.2.map encD))), (8, .d (.v (.int .i64 (j : Int)))), (9, .d (.sl (l.map encD))), (10, .d (.v (.int .i64 (y.1 : Int))))]) (fun _ => [.box i0 26 [.d (.v (.int .i64 k)), .d (.v (.int .i64 n)), .d (.sl (sub.map encD))]]) (fun y => l.length - y.1) (0, o) ⟨Nat.zero_le _, Nat.le_refl _, HF.out⟩ ?_ ?_ ?_
     ·exact sU
     ·exact dR
     ·rintro ⟨m, q⟩ ⟨hm, hq, hG⟩
      simp only at hm hq hG ⊢
      clear HF
      by_cases hlm : m < l.length
      ·have hxm := Qaq hlm
       have hcm : (m : Int) < l.length := by omega
       have hnm : (0 : Int) ≤ m := by omega
       have him := wr64 (n := (m : Int) + 1) (by omega) (by omega)
       have hG2 : Hid ((l.drop (m + 1)).foldl putL (putL q l[m]) = F) := by
        have := hG.out
        rw [List.drop_eq_getElem_cons hlm] at this
        exact this
       have hp := Hh (rput_p q l[m] (by omega))
       have hpl := Qkw l[m] q
       clear hG
       generalize putL q l[m] = q' at *
       refine go_ ?_
       refine Qab (hp.out) ?_
       exact ⟨(m + 1, q'), ⟨hlm, by simp only; omega, hG2⟩, by simp only; omega, sU, dR⟩
      ·have hcm : ¬ (m : Int) < l.length := by omega
       have hf : Hid (q = F) := by have := hG.out; rw [List.drop_of_length_le (by omega)] at this; exact this
       rw [← hf.out] at hR2 hfl
       refine go_ ?_
       exact ⟨(j + 1, q), ⟨hlt, by simp only; omega, hR2⟩, by simp only; omega, sU, dR⟩
    ·have hc : ¬ (j : Int) < sub.length := by omega
     have hf : Hid (R = o) := by show _ = _; rw [show R = _ from hR.out, List.drop_of_length_le (by omega)]; simp only [nmS]
     refine go_ ?_
     refine rT Tryz.results78 ?_
     exact ⟨by rw [hf.out]; rfl, rfl⟩
 ·rw [if_neg hk] at hr0
  have h1 : ¬ k = a := fun h => hk (.inl h)
  have h2 : ¬ k = b := fun h => hk (.inr h)
  clear hk
  refine gs_ ?_
  refine Qlo 7 (by simp [PF.get] <;> rfl) ?_
  refine go_ ?_
  clear h1 h2
  refine Qai (ι := Nat × List Int) (fun y => y.1 ≤ sub.length ∧ y.2.length ≤ 1 + cndL (sub.take y.1) ∧ Hid (R = nmS a b (sub.drop y.1) y.2)) (fun y => [(1, .d (.v (.int .i64 a))), (2, .d (.v (.int .i64 b))), (3, .ptr i0 0), (7, .d (.sl (y.2.map encD))), (8, .d (.v (.int .i64 (y.1 : Int))))]) (fun _ => [.box i0 26 [.d (.v (.int .i64 k)), .d (.v (.int .i64 n)), .d (.sl (sub.map encD))]]) (fun y => sub.length - y.1) (0, r0) ⟨Nat.zero_le _, by simp only; omega, HR0.out⟩ ?_ ?_ ?_
  ·subst hr0
   repeat (first | exact Jt _ | refine Js (by simp [PF.get]; rfl) (by first | rfl | (simp [Jf]; done) | fail) ?_)
  ·exact dR
  ·rintro ⟨j, o⟩ ⟨hj, ho, hR⟩
   simp only at hj ho hR ⊢
   clear HR0 hr0
   by_cases hlt : j < sub.length
   ·have hx := Qaq hlt
    have hc : (j : Int) < sub.length := by omega
    have hn : (0 : Int) ≤ j := by omega
    have hin := wr64 (n := (j : Int) + 1) (by omega) (by omega)
    have hR2 : Hid (R = nmS a b (sub.drop (j + 1)) ((nmT a b sub[j]).foldl putL o)) := by
     rw [show R = _ from hR.out, List.drop_eq_getElem_cons hlt]
     show _ = _
     simp only [nmS]
    have hc1 := Hh (IH.out _ (List.getElem_mem hlt))
    have hT1 := Qlz hlt
    have hT2 := Qgv sub (j + 1)
    have hnl := nm_len a b sub[j]
    have hfl := Qme (nmT a b sub[j]) o
    clear hR
    generalize nmT a b sub[j] = l at *
    generalize hF : l.foldl putL o = F at *
    have HF := Hh hF
    clear hF
    refine go_ ?_
    refine Qab (hc1.out) ?_
    refine Qai (ι := Nat × List Int) (fun y => y.1 ≤ l.length ∧ y.2.length ≤ o.length + y.1 ∧ Hid ((l.drop y.1).foldl putL y.2 = F)) (fun y => [(1, .d (.v (.int .i64 a))), (2, .d (.v (.int .i64 b))), (3, .ptr i0 0), (7, .d (.sl (y.2.map encD))), (8, .d (.v (.int .i64 (j : Int)))), (9, .d (.sl (l.map encD))), (10, .d (.v (.int .i64 (y.1 : Int))))]) (fun _ => [.box i0 26 [.d (.v (.int .i64 k)), .d (.v (.int .i64 n)), .d (.sl (sub.map encD))]]) (fun y => l.length - y.1) (0, o) ⟨Nat.zero_le _, Nat.le_refl _, HF.out⟩ ?_ ?_ ?_
    ·exact sU
    ·exact dR
    ·rintro ⟨m, q⟩ ⟨hm, hq, hG⟩
     simp only at hm hq hG ⊢
     clear HF
     by_cases hlm : m < l.length
     ·have hxm := Qaq hlm
      have hcm : (m : Int) < l.length := by omega
      have hnm : (0 : Int) ≤ m := by omega
      have him := wr64 (n := (m : Int) + 1) (by omega) (by omega)
      have hG2 : Hid ((l.drop (m + 1)).foldl putL (putL q l[m]) = F) := by
       have := hG.out
       rw [List.drop_eq_getElem_cons hlm] at this
       exact this
      have hp := Hh (rput_p q l[m] (by omega))
      have hpl := Qkw l[m] q
      clear hG
      generalize putL q l[m] = q' at *
      refine go_ ?_
      refine Qab (hp.out) ?_
      exact ⟨(m + 1, q'), ⟨hlm, by simp only; omega, hG2⟩, by simp only; omega, sU, dR⟩
     ·have hcm : ¬ (m : Int) < l.length := by omega
      have hf : Hid (q = F) := by have := hG.out; rw [List.drop_of_length_le (by omega)] at this; exact this
      rw [← hf.out] at hR2 hfl
      refine go_ ?_
      exact ⟨(j + 1, q), ⟨hlt, by simp only; omega, hR2⟩, by simp only; omega, sU, dR⟩
   ·have hc : ¬ (j : Int) < sub.length := by omega
    have hf : Hid (R = o) := by show _ = _; rw [show R = _ from hR.out, List.drop_of_length_le (by omega)]; simp only [nmS]
    refine go_ ?_
    refine rT Tryz.results78 ?_
    exact ⟨by rw [hf.out]; rfl, rfl⟩
def Qfi (t : Tm) (f e : Int) : Bool := Qak t && decide (lsT t 0 ≤ f) && (nmT 6 7 t).all fun n => decide (n < e)
theorem asc_last {l : List Int} (h : l.Pairwise (· < ·)) (e : Int) (hl : 0 < l.length) : (l.all fun n => decide (n < e)) = decide (l[l.length - 1] < e) := by
 rcases List.eq_nil_or_concat l with rfl | ⟨a, x, hx⟩
 ·simp at hl
 ·rw [List.concat_eq_append] at hx
  subst hx
  have h1 := (List.pairwise_append.1 h).2.2
  rw [List.all_append]
  simp only [List.all_cons, List.all_nil, Bool.and_true, List.length_append, List.length_singleton, Nat.add_sub_cancel]
  rw [List.getElem_append_right (Nat.le_refl _)]
  simp only [Nat.sub_self, List.getElem_cons_zero]
  by_cases hx : x < e
  ·have : (a.all fun n => decide (n < e)) = true := List.all_eq_true.2 fun y hy => decide_eq_true (by have := h1 y hy x (by simp); omega)
   rw [this, decide_eq_true hx]; rfl
  ·rw [decide_eq_false hx, Bool.and_false]
theorem tRight_p (t : Tm) (f e : Int) : PCalls Tryz.prog 108 [aggD t, .d (.v (.int .i64 f)), .d (.v (.int .i64 e))] [] fun p s => p = .d (.v (.bool (Qfi t f e))) ∧ s = [] := by
  have hS := Hh (Qie t)
  have HR := Hh (show Qfi t f e = (Qak t && decide (lsT t 0 ≤ f) && (nmT 6 7 t).all fun n => decide (n < e)) from rfl)
  have HE := Hh (tentries_p t)
  generalize Qfi t f e = R at *
  cases hb : Qak t with
  | true =>
    obtain ⟨h1, h2, h3⟩ := Qbu hb
    have hL := Hh (tloose_p t 0 h1 (by decide) (by omega))
    have hlen := Nat.le_trans (nm_len 6 7 t) h3
    have hasc := asc_last (nm_asc 6 7 t) e
    rw [hb] at hS HR
    have hen : enT 6 7 t = nmT 6 7 t := if_pos hb
    rw [hen] at HE
    clear hb h1 h2 h3 hen
    generalize lsT t 0 = z at *
    generalize nmT 6 7 t = l at *
    simp only [aggD, Jl, List.map_cons, List.map_nil] at hS hL HE ⊢
    by_cases hz : z ≤ f
    · have hz2 : ¬ f < z := by omega
      by_cases hl : l = []
      · subst hl
        have hf : Hid (R = true) := by show _ = _; rw [HR.out]; simp [hz]
        clear hasc hlen HR
        refine pG Tryz.func108 Tryz.ntmps108 ?_
        refine Jd ?_
        intro i0 hi0
        refine go_ ?_
        refine Qab (hS.out) ?_
        refine Qab (hL.out) ?_
        refine Qab (HE.out) ?_
        refine rT Tryz.results108 ?_
        exact ⟨by rw [hf.out]; rfl, rfl⟩
      · have hpos : 0 < l.length := List.length_pos_iff.2 hl
        have hlt : l.length - 1 < l.length := by omega
        have hf : Hid (R = decide (l[l.length - 1] < e)) := by show _ = _; rw [HR.out, hasc hpos]; simp [hz]
        have hx := Qaq hlt
        have hq : ¬ (l.length : Int) = 0 := by omega
        have hw : IntKind.i64.wrap ((l.length : Int) - 1) = ((l.length - 1 : Nat) : Int) := by rw [wr64 (by omega) (by omega)]; omega
        have hn : (0 : Int) ≤ ((l.length - 1 : Nat) : Int) := by omega
        clear hasc HR
        generalize hk : l.length - 1 = k at *
        refine pG Tryz.func108 Tryz.ntmps108 ?_
        refine Jd ?_
        intro i0 hi0
        refine go_ ?_
        refine Qab (hS.out) ?_
        refine Qab (hL.out) ?_
        refine Qab (HE.out) ?_
        refine rT Tryz.results108 ?_
        exact ⟨by rw [hf.out]; rfl, rfl⟩
    · have hz2 : f < z := by omega
      have hf : Hid (R = false) := by show _ = _; rw [HR.out]; simp [hz]
      clear hasc hlen HR
      refine pG Tryz.func108 Tryz.ntmps108 ?_
      refine Jd ?_
      intro i0 hi0
      refine go_ ?_
      refine Qab (hS.out) ?_
      refine Qab (hL.out) ?_
      refine rT Tryz.results108 ?_
      exact ⟨by rw [hf.out]; rfl, rfl⟩
  | false =>
    have hf : Hid (R = false) := by show _ = _; rw [HR.out, hb]; rfl
    rw [hb] at hS
    clear HR hb
    simp only [aggD, Jl, List.map_cons, List.map_nil] at hS ⊢
    refine pG Tryz.func108 Tryz.ntmps108 ?_
    refine Jd ?_
    intro i0 hi0
    refine go_ ?_
    refine Qab (hS.out) ?_
    refine rT Tryz.results108 ?_
    exact ⟨by rw [hf.out]; rfl, rfl⟩
theorem rRight_p (t : Tm) (f e : Int) : PCalls Tryz.prog 77 [aggD t, .d (.v (.int .i64 f)), .d (.v (.int .i64 e))] [] fun p s => p = .d (.v (.bool (Qfi t f e))) ∧ s = [] := by
  have hS := Hh (Qli t)
  have HR := Hh (show Qfi t f e = (Qak t && decide (lsT t 0 ≤ f) && (nmT 6 7 t).all fun n => decide (n < e)) from rfl)
  generalize Qfi t f e = R at *
  cases hb : Qak t with
  | true =>
    obtain ⟨h1, h2, h3⟩ := Qbu hb
    have hL := Hh (rloose_p t 0 h1 (by decide) (by omega))
    have HN := Hh (rnumbers_p t 6 7 (by omega))
    have hlen := Nat.le_trans (nm_len 6 7 t) h3
    rw [hb] at hS HR
    clear hb h1 h2 h3
    generalize lsT t 0 = z at *
    generalize nmT 6 7 t = l at *
    simp only [aggD, Jl, List.map_cons, List.map_nil] at hS hL HN ⊢
    by_cases hz : z ≤ f
    · have hz2 : ¬ f < z := by omega
      have hR0 : Hid (R = (l.drop 0).all fun n => decide (n < e)) := by show _ = _; rw [HR.out]; simp [hz]
      clear HR
      refine pG Tryz.func77 Tryz.ntmps77 ?_
      refine Jd ?_
      intro i0 hi0
      refine go_ ?_
      refine Qab (hS.out) ?_
      refine Qab (hL.out) ?_
      refine Qab (HN.out) ?_
      refine Qai (ι := Nat) (fun y => y ≤ l.length ∧ Hid (R = (l.drop y).all fun n => decide (n < e))) (fun y => [(2, .d (.v (.int .i64 e))), (7, .d (.sl (l.map encD))), (8, .d (.v (.int .i64 (y : Int))))]) (fun _ => []) (fun y => l.length - y) 0 ⟨Nat.zero_le _, hR0⟩ ?_ ?_ ?_
      · exact sU
      · exact dR
      · rintro j ⟨hj, hR⟩
        clear hR0
        by_cases hlt : j < l.length
        · have hx := Qaq hlt
          have hc : (j : Int) < l.length := by omega
          have hn : (0 : Int) ≤ j := by omega
          have hin := wr64 (n := (j : Int) + 1) (by omega) (by omega)
          have hR2 : Hid (R = (decide (l[j] < e) && (l.drop (j + 1)).all fun n => decide (n < e))) := by
            rw [show R = _ from hR.out, List.drop_eq_getElem_cons hlt]; rfl
          clear hR
          by_cases hle : l[j] < e
          · have hR3 : Hid (R = (l.drop (j + 1)).all fun n => decide (n < e)) := by show _ = _; rw [show R = _ from hR2.out, decide_eq_true hle]; rfl
            have hle2 : ¬ e ≤ l[j] := by omega
            clear hR2
            refine go_ ?_
            exact ⟨j + 1, ⟨hlt, hR3⟩, by omega, sU, dR⟩
          · have hf : Hid (R = false) := by show _ = _; rw [show R = _ from hR2.out, decide_eq_false hle]; rfl
            have hle2 : e ≤ l[j] := by omega
            clear hR2
            refine go_ ?_
            refine rT Tryz.results77 ?_
            exact ⟨by rw [hf.out]; rfl, rfl⟩
        · have hc : ¬ (j : Int) < l.length := by omega
          have hf : Hid (R = true) := by show _ = _; rw [show R = _ from hR.out, List.drop_of_length_le (by omega)]; rfl
          refine go_ ?_
          refine rT Tryz.results77 ?_
          exact ⟨by rw [hf.out]; rfl, rfl⟩
    · have hz2 : f < z := by omega
      have hf : Hid (R = false) := by show _ = _; rw [HR.out]; simp [hz]
      clear HR
      refine pG Tryz.func77 Tryz.ntmps77 ?_
      refine Jd ?_
      intro i0 hi0
      refine go_ ?_
      refine Qab (hS.out) ?_
      refine Qab (hL.out) ?_
      refine rT Tryz.results77 ?_
      exact ⟨by rw [hf.out]; rfl, rfl⟩
  | false =>
    have hf : Hid (R = false) := by show _ = _; rw [HR.out, hb]; rfl
    rw [hb] at hS
    clear HR hb
    simp only [aggD, Jl, List.map_cons, List.map_nil] at hS ⊢
    refine pG Tryz.func77 Tryz.ntmps77 ?_
    refine Jd ?_
    intro i0 hi0
    refine go_ ?_
    refine Qab (hS.out) ?_
    refine rT Tryz.results77 ?_
    exact ⟨by rw [hf.out]; rfl, rfl⟩
end Go.Proofs.YtdklpbefbamchaaGreat

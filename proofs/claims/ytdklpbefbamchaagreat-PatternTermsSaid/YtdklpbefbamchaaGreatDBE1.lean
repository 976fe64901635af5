import Derived.Test.YtdklpbefbamchaaGreatDBE
import Derived.Test.YtdklpbefbamchaaGreatDBA5
set_option linter.unusedSimpArgs false
set_option linter.unusedVariables false
set_option maxHeartbeats 16000000
set_option maxRecDepth 100000
namespace Go.Proofs.YtdklpbefbamchaaGreat
open Go.RowKit
theorem rgood_p : ∀ (t : Tm), PCalls Tryz.prog 62 [aggD t] [] fun p s => p = .d (.v (.bool (Qac t))) ∧ s = [] := by
  refine Tm.ind ?_
  intro k n sub ih
  have HR := Lib.hid (show Qac (.mk k n sub) = (Qdf (.mk k n sub) && Qbr sub) by simp only [Qac])
  simp only [aggD, Jl, List.map_cons, List.map_nil, Tm.kind_mk, Tm.num_mk, Tm.sub_mk]
  have IH := Lib.hid ih
  clear ih
  by_cases hk : k = 1 ∨ k = 2 ∨ k = 3 ∨ k = 4 ∨ k = 5 ∨ k = 6 ∨ k = 7 ∨ k = 8
  rotate_left
  · have hf : Hid (Qac (.mk k n sub) = false) := by rw [show Qac (.mk k n sub) = _ from HR.out, Qbi (by omega)]; rfl
    rw [hf.out]
    have h1 : ¬ k = 1 := by omega
    have h2 : ¬ k = 2 := by omega
    have h3 : ¬ k = 3 := by omega
    have h4 : ¬ k = 4 := by omega
    have h5 : ¬ k = 5 := by omega
    have h6 : ¬ k = 6 := by omega
    have h7 : ¬ k = 7 := by omega
    have h8 : ¬ k = 8 := by omega
    clear hk HR hf
    refine PCalls.enter Tryz.func62 rfl Tryz.ntmps62 (by simp) ?_
    simp only [Qab]
    refine go_ ?_
    refine Jd ?_
    intro i0 hi0
    refine go_ ?_
    refine Jm (by simp) (by simp only [Tryz.results62]; rfl) (by simp [resP, St.box?, PF.get, Jn, TyK.agg, *]; rfl) Nl ?_
    exact ⟨rfl, rfl⟩
  · rcases hk with rfl | rfl | rfl | rfl | rfl | rfl | rfl | rfl
    · by_cases hs : sub = []
      · by_cases h0 : n < 0
        · have hf : Hid (Qac (.mk 1 n sub) = false) := by rw [show Qac (.mk 1 n sub) = _ from HR.out, Qbi (fun h => absurd h.2.2.2.1 (by omega))]; rfl
          rw [hf.out]
          clear HR hf IH
          refine PCalls.enter Tryz.func62 rfl Tryz.ntmps62 (by simp) ?_
          simp only [Qab]
          refine go_ ?_
          refine Jd ?_
          intro i0 hi0
          refine go_ ?_
          refine Jm (by simp) (by simp only [Tryz.results62]; rfl) (by simp [resP, St.box?, PF.get, Jn, TyK.agg, *]; rfl) Nl ?_
          exact ⟨rfl, rfl⟩
        · by_cases hm : 1048576 < n
          · have hf : Hid (Qac (.mk 1 n sub) = false) := by rw [show Qac (.mk 1 n sub) = _ from HR.out, Qbi (fun h => absurd h.2.2.2.2.1 (by simp [Qbc]; omega))]; rfl
            rw [hf.out]
            clear HR hf IH
            refine PCalls.enter Tryz.func62 rfl Tryz.ntmps62 (by simp) ?_
            simp only [Qab]
            refine go_ ?_
            refine Jd ?_
            intro i0 hi0
            refine go_ ?_
            refine Jm (by simp) (by simp only [Tryz.results62]; rfl) (by simp [resP, St.box?, PF.get, Jn, TyK.agg, *]; rfl) Nl ?_
            exact ⟨rfl, rfl⟩
          · subst hs
            have HR2 : Hid (Qac (.mk 1 n []) = true) := by rw [show Qac (.mk 1 n []) = _ from HR.out, Qed ⟨by decide, by decide, rfl, by omega, by simp [Qbc]; omega, .inl (by decide)⟩]; rfl
            generalize Qac (.mk 1 n []) = R at *
            clear HR
            refine PCalls.enter Tryz.func62 rfl Tryz.ntmps62 (by simp) ?_
            simp only [Qab]
            refine go_ ?_
            refine Jd ?_
            intro i0 hi0
            refine go_ ?_
            refine Qak (ι := Unit) (fun _ => True) (fun _ => [(3, .d (.v (.int .i64 0))), (5, .d (.v (.int .i64 0)))]) (fun _ => []) (fun _ => 0) () trivial ?_ ?_ ?_
            · repeat (first | exact Jt _ | refine Js (by simp [PF.get]; rfl) (by first | rfl | (simp [*]; done) | fail) ?_)
            · repeat (first | exact List.Sublist.refl _ | exact List.nil_sublist _ | refine List.Sublist.cons_cons _ ?_ | refine List.Sublist.cons _ ?_)
            · rintro _ _
              refine go_ ?_
              refine Jm (by simp) (by simp only [Tryz.results62]; rfl) (by simp [resP, St.box?, PF.get, Jn, TyK.agg, *]; rfl) Nl ?_
              exact ⟨by rw [HR2.out]; rfl, rfl⟩
      · have hf : Hid (Qac (.mk 1 n sub) = false) := by rw [show Qac (.mk 1 n sub) = _ from HR.out, Qbi (fun h => hs (List.eq_nil_of_length_eq_zero (by have := h.2.2.1; simp [Qbl] at this; first | exact this | (rw [this]; rfl))))]; rfl
        rw [hf.out]
        clear HR hf IH
        refine PCalls.enter Tryz.func62 rfl Tryz.ntmps62 (by simp) ?_
        simp only [Qab]
        refine go_ ?_
        refine Jd ?_
        intro i0 hi0
        refine go_ ?_
        refine Jm (by simp) (by simp only [Tryz.results62]; rfl) (by simp [resP, St.box?, PF.get, Jn, TyK.agg, *]; rfl) Nl ?_
        exact ⟨rfl, rfl⟩
    · by_cases hs : sub = []
      · by_cases h0 : n < 0
        · have hf : Hid (Qac (.mk 2 n sub) = false) := by rw [show Qac (.mk 2 n sub) = _ from HR.out, Qbi (fun h => absurd h.2.2.2.1 (by omega))]; rfl
          rw [hf.out]
          clear HR hf IH
          refine PCalls.enter Tryz.func62 rfl Tryz.ntmps62 (by simp) ?_
          simp only [Qab]
          refine go_ ?_
          refine Jd ?_
          intro i0 hi0
          refine go_ ?_
          refine Jm (by simp) (by simp only [Tryz.results62]; rfl) (by simp [resP, St.box?, PF.get, Jn, TyK.agg, *]; rfl) Nl ?_
          exact ⟨rfl, rfl⟩
        · by_cases hm : 7 < n
          · have hf : Hid (Qac (.mk 2 n sub) = false) := by rw [show Qac (.mk 2 n sub) = _ from HR.out, Qbi (fun h => absurd h.2.2.2.2.1 (by simp [Qbc]; omega))]; rfl
            rw [hf.out]
            clear HR hf IH
            refine PCalls.enter Tryz.func62 rfl Tryz.ntmps62 (by simp) ?_
            simp only [Qab]
            refine go_ ?_
            refine Jd ?_
            intro i0 hi0
            refine go_ ?_
            refine Jm (by simp) (by simp only [Tryz.results62]; rfl) (by simp [resP, St.box?, PF.get, Jn, TyK.agg, *]; rfl) Nl ?_
            exact ⟨rfl, rfl⟩
          · subst hs
            have HR2 : Hid (Qac (.mk 2 n []) = true) := by rw [show Qac (.mk 2 n []) = _ from HR.out, Qed ⟨by decide, by decide, rfl, by omega, by simp [Qbc]; omega, .inl (by decide)⟩]; rfl
            generalize Qac (.mk 2 n []) = R at *
            clear HR
            refine PCalls.enter Tryz.func62 rfl Tryz.ntmps62 (by simp) ?_
            simp only [Qab]
            refine go_ ?_
            refine Jd ?_
            intro i0 hi0
            refine go_ ?_
            refine Qak (ι := Unit) (fun _ => True) (fun _ => [(3, .d (.v (.int .i64 0))), (5, .d (.v (.int .i64 0)))]) (fun _ => []) (fun _ => 0) () trivial ?_ ?_ ?_
            · repeat (first | exact Jt _ | refine Js (by simp [PF.get]; rfl) (by first | rfl | (simp [*]; done) | fail) ?_)
            · repeat (first | exact List.Sublist.refl _ | exact List.nil_sublist _ | refine List.Sublist.cons_cons _ ?_ | refine List.Sublist.cons _ ?_)
            · rintro _ _
              refine go_ ?_
              refine Jm (by simp) (by simp only [Tryz.results62]; rfl) (by simp [resP, St.box?, PF.get, Jn, TyK.agg, *]; rfl) Nl ?_
              exact ⟨by rw [HR2.out]; rfl, rfl⟩
      · have hf : Hid (Qac (.mk 2 n sub) = false) := by rw [show Qac (.mk 2 n sub) = _ from HR.out, Qbi (fun h => hs (List.eq_nil_of_length_eq_zero (by have := h.2.2.1; simp [Qbl] at this; first | exact this | (rw [this]; rfl))))]; rfl
        rw [hf.out]
        clear HR hf IH
        refine PCalls.enter Tryz.func62 rfl Tryz.ntmps62 (by simp) ?_
        simp only [Qab]
        refine go_ ?_
        refine Jd ?_
        intro i0 hi0
        refine go_ ?_
        refine Jm (by simp) (by simp only [Tryz.results62]; rfl) (by simp [resP, St.box?, PF.get, Jn, TyK.agg, *]; rfl) Nl ?_
        exact ⟨rfl, rfl⟩
    · by_cases hs : sub.length = 2
      · by_cases h0 : n < 0
        · have hf : Hid (Qac (.mk 3 n sub) = false) := by rw [show Qac (.mk 3 n sub) = _ from HR.out, Qbi (fun h => absurd h.2.2.2.1 (by omega))]; rfl
          rw [hf.out]
          clear HR hf IH
          refine PCalls.enter Tryz.func62 rfl Tryz.ntmps62 (by simp) ?_
          simp only [Qab]
          refine go_ ?_
          refine Jd ?_
          intro i0 hi0
          refine go_ ?_
          refine Jm (by simp) (by simp only [Tryz.results62]; rfl) (by simp [resP, St.box?, PF.get, Jn, TyK.agg, *]; rfl) Nl ?_
          exact ⟨rfl, rfl⟩
        · by_cases hm : 0 < n
          · have hf : Hid (Qac (.mk 3 n sub) = false) := by rw [show Qac (.mk 3 n sub) = _ from HR.out, Qbi (fun h => absurd h.2.2.2.2.1 (by simp [Qbc]; omega))]; rfl
            rw [hf.out]
            clear HR hf IH
            refine PCalls.enter Tryz.func62 rfl Tryz.ntmps62 (by simp) ?_
            simp only [Qab]
            refine go_ ?_
            refine Jd ?_
            intro i0 hi0
            refine go_ ?_
            refine Jm (by simp) (by simp only [Tryz.results62]; rfl) (by simp [resP, St.box?, PF.get, Jn, TyK.agg, *]; rfl) Nl ?_
            exact ⟨rfl, rfl⟩
          · have HR2 : Hid (Qac (.mk 3 n sub) = Qbr sub) := by rw [show Qac (.mk 3 n sub) = _ from HR.out, Qed ⟨by decide, by decide, by rw [hs]; rfl, by omega, by simp [Qbc]; omega, .inl (by decide)⟩]; rfl
            generalize Qac (.mk 3 n sub) = R at *
            clear HR
            refine PCalls.enter Tryz.func62 rfl Tryz.ntmps62 (by simp) ?_
            simp only [Qab]
            refine go_ ?_
            refine Jd ?_
            intro i0 hi0
            refine go_ ?_
            refine Qak (ι := Nat) (fun y => y ≤ 2 ∧ Hid (R = Qbr (List.drop y sub))) (fun y => [(1, .ptr i0 0), (3, .d (.v (.int .i64 2))), (5, .d (.v (.int .i64 (y : Int))))]) (fun _ => [.box i0 26 [.d (.v (.int .i64 3)), .d (.v (.int .i64 n)), .d (.sl (sub.map encD))]]) (fun y => 2 - y) 0 ⟨Nat.zero_le _, HR2.out⟩ ?_ ?_ ?_
            · repeat (first | exact Jt _ | refine Js (by simp [PF.get]; rfl) (by first | rfl | (simp [*]; done) | fail) ?_)
            · repeat (first | exact List.Sublist.refl _ | exact List.nil_sublist _ | refine List.Sublist.cons_cons _ ?_ | refine List.Sublist.cons _ ?_)
            · rintro j ⟨hj, hR⟩
              clear HR2
              by_cases hlt : j < 2
              · have hlt2 : j < (sub : List Tm).length := by rw [hs]; exact hlt
                have hx0 := Qal hlt2
                have hc : (j : Int) < 2 := by omega
                have hn : (0 : Int) ≤ j := by omega
                have hin := wr64 (n := (j : Int) + 1) (by omega) (by omega)
                have hR2 : Hid (R = (Qac (sub : List Tm)[j] && Qbr (List.drop (j + 1) sub))) := by
                  rw [show R = _ from hR.out, List.drop_eq_getElem_cons hlt2]
                  show _ = _
                  simp only [Qbr]
                have hc1 := Lib.hid (IH.out _ (List.getElem_mem hlt2))
                clear hR
                generalize Qac (sub : List Tm)[j] = b at *
                cases b with
                | false =>
                  have hf : Hid (R = false) := by rw [show R = _ from hR2.out]; rfl
                  refine go_ ?_
                  refine Jc (hc1.out) ?_
                  refine go_ ?_
                  refine Jm (by simp) (by simp only [Tryz.results62]; rfl) (by simp [resP, St.box?, PF.get, Jn, TyK.agg, *]; rfl) Nl ?_
                  exact ⟨by rw [hf.out]; rfl, rfl⟩
                | true =>
                  have hR3 : Hid (R = Qbr (List.drop (j + 1) sub)) := by rw [show R = _ from hR2.out]; rfl
                  refine go_ ?_
                  refine Jc (hc1.out) ?_
                  refine go_ ?_
                  exact ⟨j + 1, ⟨hlt, hR3⟩, by omega, by repeat (first | exact Jt _ | refine Js (by simp [PF.get]; rfl) (by first | rfl | (simp [*]; done) | fail) ?_), by repeat (first | exact List.Sublist.refl _ | exact List.nil_sublist _ | refine List.Sublist.cons_cons _ ?_ | refine List.Sublist.cons _ ?_)⟩
              · have hc : ¬ (j : Int) < 2 := by omega
                have hf : Hid (R = true) := by rw [show R = _ from hR.out, List.drop_of_length_le (by rw [hs]; omega)]; rfl
                refine go_ ?_
                refine Jm (by simp) (by simp only [Tryz.results62]; rfl) (by simp [resP, St.box?, PF.get, Jn, TyK.agg, *]; rfl) Nl ?_
                exact ⟨by rw [hf.out]; rfl, rfl⟩
      · have hf : Hid (Qac (.mk 3 n sub) = false) := by rw [show Qac (.mk 3 n sub) = _ from HR.out, Qbi (fun h => hs (by have := h.2.2.1; simp [Qbl] at this; omega))]; rfl
        have hs2 : ¬ (sub.length : Int) = 2 := by omega
        rw [hf.out]
        clear HR hf IH
        refine PCalls.enter Tryz.func62 rfl Tryz.ntmps62 (by simp) ?_
        simp only [Qab]
        refine go_ ?_
        refine Jd ?_
        intro i0 hi0
        refine go_ ?_
        refine Jm (by simp) (by simp only [Tryz.results62]; rfl) (by simp [resP, St.box?, PF.get, Jn, TyK.agg, *]; rfl) Nl ?_
        exact ⟨rfl, rfl⟩
    · by_cases hs : sub.length = 2
      · by_cases h0 : n < 0
        · have hf : Hid (Qac (.mk 4 n sub) = false) := by rw [show Qac (.mk 4 n sub) = _ from HR.out, Qbi (fun h => absurd h.2.2.2.1 (by omega))]; rfl
          rw [hf.out]
          clear HR hf IH
          refine PCalls.enter Tryz.func62 rfl Tryz.ntmps62 (by simp) ?_
          simp only [Qab]
          refine go_ ?_
          refine Jd ?_
          intro i0 hi0
          refine go_ ?_
          refine Jm (by simp) (by simp only [Tryz.results62]; rfl) (by simp [resP, St.box?, PF.get, Jn, TyK.agg, *]; rfl) Nl ?_
          exact ⟨rfl, rfl⟩
        · by_cases hm : 0 < n
          · have hf : Hid (Qac (.mk 4 n sub) = false) := by rw [show Qac (.mk 4 n sub) = _ from HR.out, Qbi (fun h => absurd h.2.2.2.2.1 (by simp [Qbc]; omega))]; rfl
            rw [hf.out]
            clear HR hf IH
            refine PCalls.enter Tryz.func62 rfl Tryz.ntmps62 (by simp) ?_
            simp only [Qab]
            refine go_ ?_
            refine Jd ?_
            intro i0 hi0
            refine go_ ?_
            refine Jm (by simp) (by simp only [Tryz.results62]; rfl) (by simp [resP, St.box?, PF.get, Jn, TyK.agg, *]; rfl) Nl ?_
            exact ⟨rfl, rfl⟩
          · have HR2 : Hid (Qac (.mk 4 n sub) = Qbr sub) := by rw [show Qac (.mk 4 n sub) = _ from HR.out, Qed ⟨by decide, by decide, by rw [hs]; rfl, by omega, by simp [Qbc]; omega, .inl (by decide)⟩]; rfl
            generalize Qac (.mk 4 n sub) = R at *
            clear HR
            refine PCalls.enter Tryz.func62 rfl Tryz.ntmps62 (by simp) ?_
            simp only [Qab]
            refine go_ ?_
            refine Jd ?_
            intro i0 hi0
            refine go_ ?_
            refine Qak (ι := Nat) (fun y => y ≤ 2 ∧ Hid (R = Qbr (List.drop y sub))) (fun y => [(1, .ptr i0 0), (3, .d (.v (.int .i64 2))), (5, .d (.v (.int .i64 (y : Int))))]) (fun _ => [.box i0 26 [.d (.v (.int .i64 4)), .d (.v (.int .i64 n)), .d (.sl (sub.map encD))]]) (fun y => 2 - y) 0 ⟨Nat.zero_le _, HR2.out⟩ ?_ ?_ ?_
            · repeat (first | exact Jt _ | refine Js (by simp [PF.get]; rfl) (by first | rfl | (simp [*]; done) | fail) ?_)
            · repeat (first | exact List.Sublist.refl _ | exact List.nil_sublist _ | refine List.Sublist.cons_cons _ ?_ | refine List.Sublist.cons _ ?_)
            · rintro j ⟨hj, hR⟩
              clear HR2
              by_cases hlt : j < 2
              · have hlt2 : j < (sub : List Tm).length := by rw [hs]; exact hlt
                have hx0 := Qal hlt2
                have hc : (j : Int) < 2 := by omega
                have hn : (0 : Int) ≤ j := by omega
                have hin := wr64 (n := (j : Int) + 1) (by omega) (by omega)
                have hR2 : Hid (R = (Qac (sub : List Tm)[j] && Qbr (List.drop (j + 1) sub))) := by
                  rw [show R = _ from hR.out, List.drop_eq_getElem_cons hlt2]
                  show _ = _
                  simp only [Qbr]
                have hc1 := Lib.hid (IH.out _ (List.getElem_mem hlt2))
                clear hR
                generalize Qac (sub : List Tm)[j] = b at *
                cases b with
                | false =>
                  have hf : Hid (R = false) := by rw [show R = _ from hR2.out]; rfl
                  refine go_ ?_
                  refine Jc (hc1.out) ?_
                  refine go_ ?_
                  refine Jm (by simp) (by simp only [Tryz.results62]; rfl) (by simp [resP, St.box?, PF.get, Jn, TyK.agg, *]; rfl) Nl ?_
                  exact ⟨by rw [hf.out]; rfl, rfl⟩
                | true =>
                  have hR3 : Hid (R = Qbr (List.drop (j + 1) sub)) := by rw [show R = _ from hR2.out]; rfl
                  refine go_ ?_
                  refine Jc (hc1.out) ?_
                  refine go_ ?_
                  exact ⟨j + 1, ⟨hlt, hR3⟩, by omega, by repeat (first | exact Jt _ | refine Js (by simp [PF.get]; rfl) (by first | rfl | (simp [*]; done) | fail) ?_), by repeat (first | exact List.Sublist.refl _ | exact List.nil_sublist _ | refine List.Sublist.cons_cons _ ?_ | refine List.Sublist.cons _ ?_)⟩
              · have hc : ¬ (j : Int) < 2 := by omega
                have hf : Hid (R = true) := by rw [show R = _ from hR.out, List.drop_of_length_le (by rw [hs]; omega)]; rfl
                refine go_ ?_
                refine Jm (by simp) (by simp only [Tryz.results62]; rfl) (by simp [resP, St.box?, PF.get, Jn, TyK.agg, *]; rfl) Nl ?_
                exact ⟨by rw [hf.out]; rfl, rfl⟩
      · have hf : Hid (Qac (.mk 4 n sub) = false) := by rw [show Qac (.mk 4 n sub) = _ from HR.out, Qbi (fun h => hs (by have := h.2.2.1; simp [Qbl] at this; omega))]; rfl
        have hs2 : ¬ (sub.length : Int) = 2 := by omega
        rw [hf.out]
        clear HR hf IH
        refine PCalls.enter Tryz.func62 rfl Tryz.ntmps62 (by simp) ?_
        simp only [Qab]
        refine go_ ?_
        refine Jd ?_
        intro i0 hi0
        refine go_ ?_
        refine Jm (by simp) (by simp only [Tryz.results62]; rfl) (by simp [resP, St.box?, PF.get, Jn, TyK.agg, *]; rfl) Nl ?_
        exact ⟨rfl, rfl⟩
    · by_cases hs : sub.length = 2
      · by_cases h0 : n < 0
        · have hf : Hid (Qac (.mk 5 n sub) = false) := by rw [show Qac (.mk 5 n sub) = _ from HR.out, Qbi (fun h => absurd h.2.2.2.1 (by omega))]; rfl
          rw [hf.out]
          clear HR hf IH
          refine PCalls.enter Tryz.func62 rfl Tryz.ntmps62 (by simp) ?_
          simp only [Qab]
          refine go_ ?_
          refine Jd ?_
          intro i0 hi0
          refine go_ ?_
          refine Jm (by simp) (by simp only [Tryz.results62]; rfl) (by simp [resP, St.box?, PF.get, Jn, TyK.agg, *]; rfl) Nl ?_
          exact ⟨rfl, rfl⟩
        · by_cases hm : 0 < n
          · have hf : Hid (Qac (.mk 5 n sub) = false) := by rw [show Qac (.mk 5 n sub) = _ from HR.out, Qbi (fun h => absurd h.2.2.2.2.1 (by simp [Qbc]; omega))]; rfl
            rw [hf.out]
            clear HR hf IH
            refine PCalls.enter Tryz.func62 rfl Tryz.ntmps62 (by simp) ?_
            simp only [Qab]
            refine go_ ?_
            refine Jd ?_
            intro i0 hi0
            refine go_ ?_
            refine Jm (by simp) (by simp only [Tryz.results62]; rfl) (by simp [resP, St.box?, PF.get, Jn, TyK.agg, *]; rfl) Nl ?_
            exact ⟨rfl, rfl⟩
          · have HR2 : Hid (Qac (.mk 5 n sub) = Qbr sub) := by rw [show Qac (.mk 5 n sub) = _ from HR.out, Qed ⟨by decide, by decide, by rw [hs]; rfl, by omega, by simp [Qbc]; omega, .inl (by decide)⟩]; rfl
            generalize Qac (.mk 5 n sub) = R at *
            clear HR
            refine PCalls.enter Tryz.func62 rfl Tryz.ntmps62 (by simp) ?_
            simp only [Qab]
            refine go_ ?_
            refine Jd ?_
            intro i0 hi0
            refine go_ ?_
            refine Qak (ι := Nat) (fun y => y ≤ 2 ∧ Hid (R = Qbr (List.drop y sub))) (fun y => [(1, .ptr i0 0), (3, .d (.v (.int .i64 2))), (5, .d (.v (.int .i64 (y : Int))))]) (fun _ => [.box i0 26 [.d (.v (.int .i64 5)), .d (.v (.int .i64 n)), .d (.sl (sub.map encD))]]) (fun y => 2 - y) 0 ⟨Nat.zero_le _, HR2.out⟩ ?_ ?_ ?_
            · repeat (first | exact Jt _ | refine Js (by simp [PF.get]; rfl) (by first | rfl | (simp [*]; done) | fail) ?_)
            · repeat (first | exact List.Sublist.refl _ | exact List.nil_sublist _ | refine List.Sublist.cons_cons _ ?_ | refine List.Sublist.cons _ ?_)
            · rintro j ⟨hj, hR⟩
              clear HR2
              by_cases hlt : j < 2
              · have hlt2 : j < (sub : List Tm).length := by rw [hs]; exact hlt
                have hx0 := Qal hlt2
                have hc : (j : Int) < 2 := by omega
                have hn : (0 : Int) ≤ j := by omega
                have hin := wr64 (n := (j : Int) + 1) (by omega) (by omega)
                have hR2 : Hid (R = (Qac (sub : List Tm)[j] && Qbr (List.drop (j + 1) sub))) := by
                  rw [show R = _ from hR.out, List.drop_eq_getElem_cons hlt2]
                  show _ = _
                  simp only [Qbr]
                have hc1 := Lib.hid (IH.out _ (List.getElem_mem hlt2))
                clear hR
                generalize Qac (sub : List Tm)[j] = b at *
                cases b with
                | false =>
                  have hf : Hid (R = false) := by rw [show R = _ from hR2.out]; rfl
                  refine go_ ?_
                  refine Jc (hc1.out) ?_
                  refine go_ ?_
                  refine Jm (by simp) (by simp only [Tryz.results62]; rfl) (by simp [resP, St.box?, PF.get, Jn, TyK.agg, *]; rfl) Nl ?_
                  exact ⟨by rw [hf.out]; rfl, rfl⟩
                | true =>
                  have hR3 : Hid (R = Qbr (List.drop (j + 1) sub)) := by rw [show R = _ from hR2.out]; rfl
                  refine go_ ?_
                  refine Jc (hc1.out) ?_
                  refine go_ ?_
                  exact ⟨j + 1, ⟨hlt, hR3⟩, by omega, by repeat (first | exact Jt _ | refine Js (by simp [PF.get]; rfl) (by first | rfl | (simp [*]; done) | fail) ?_), by repeat (first | exact List.Sublist.refl _ | exact List.nil_sublist _ | refine List.Sublist.cons_cons _ ?_ | refine List.Sublist.cons _ ?_)⟩
              · have hc : ¬ (j : Int) < 2 := by omega
                have hf : Hid (R = true) := by rw [show R = _ from hR.out, List.drop_of_length_le (by rw [hs]; omega)]; rfl
                refine go_ ?_
                refine Jm (by simp) (by simp only [Tryz.results62]; rfl) (by simp [resP, St.box?, PF.get, Jn, TyK.agg, *]; rfl) Nl ?_
                exact ⟨by rw [hf.out]; rfl, rfl⟩
      · have hf : Hid (Qac (.mk 5 n sub) = false) := by rw [show Qac (.mk 5 n sub) = _ from HR.out, Qbi (fun h => hs (by have := h.2.2.1; simp [Qbl] at this; omega))]; rfl
        have hs2 : ¬ (sub.length : Int) = 2 := by omega
        rw [hf.out]
        clear HR hf IH
        refine PCalls.enter Tryz.func62 rfl Tryz.ntmps62 (by simp) ?_
        simp only [Qab]
        refine go_ ?_
        refine Jd ?_
        intro i0 hi0
        refine go_ ?_
        refine Jm (by simp) (by simp only [Tryz.results62]; rfl) (by simp [resP, St.box?, PF.get, Jn, TyK.agg, *]; rfl) Nl ?_
        exact ⟨rfl, rfl⟩
    · by_cases hs : sub = []
      · by_cases h0 : n < 0
        · have hf : Hid (Qac (.mk 6 n sub) = false) := by rw [show Qac (.mk 6 n sub) = _ from HR.out, Qbi (fun h => absurd h.2.2.2.1 (by omega))]; rfl
          rw [hf.out]
          clear HR hf IH
          refine PCalls.enter Tryz.func62 rfl Tryz.ntmps62 (by simp) ?_
          simp only [Qab]
          refine go_ ?_
          refine Jd ?_
          intro i0 hi0
          refine go_ ?_
          refine Jm (by simp) (by simp only [Tryz.results62]; rfl) (by simp [resP, St.box?, PF.get, Jn, TyK.agg, *]; rfl) Nl ?_
          exact ⟨rfl, rfl⟩
        · by_cases hm : 1048576 < n
          · have hf : Hid (Qac (.mk 6 n sub) = false) := by rw [show Qac (.mk 6 n sub) = _ from HR.out, Qbi (fun h => absurd h.2.2.2.2.1 (by simp [Qbc]; omega))]; rfl
            rw [hf.out]
            clear HR hf IH
            refine PCalls.enter Tryz.func62 rfl Tryz.ntmps62 (by simp) ?_
            simp only [Qab]
            refine go_ ?_
            refine Jd ?_
            intro i0 hi0
            refine go_ ?_
            refine Jm (by simp) (by simp only [Tryz.results62]; rfl) (by simp [resP, St.box?, PF.get, Jn, TyK.agg, *]; rfl) Nl ?_
            exact ⟨rfl, rfl⟩
          · subst hs
            have HR2 : Hid (Qac (.mk 6 n []) = true) := by rw [show Qac (.mk 6 n []) = _ from HR.out, Qed ⟨by decide, by decide, rfl, by omega, by simp [Qbc]; omega, .inl (by decide)⟩]; rfl
            generalize Qac (.mk 6 n []) = R at *
            clear HR
            refine PCalls.enter Tryz.func62 rfl Tryz.ntmps62 (by simp) ?_
            simp only [Qab]
            refine go_ ?_
            refine Jd ?_
            intro i0 hi0
            refine go_ ?_
            refine Qak (ι := Unit) (fun _ => True) (fun _ => [(3, .d (.v (.int .i64 0))), (5, .d (.v (.int .i64 0)))]) (fun _ => []) (fun _ => 0) () trivial ?_ ?_ ?_
            · repeat (first | exact Jt _ | refine Js (by simp [PF.get]; rfl) (by first | rfl | (simp [*]; done) | fail) ?_)
            · repeat (first | exact List.Sublist.refl _ | exact List.nil_sublist _ | refine List.Sublist.cons_cons _ ?_ | refine List.Sublist.cons _ ?_)
            · rintro _ _
              refine go_ ?_
              refine Jm (by simp) (by simp only [Tryz.results62]; rfl) (by simp [resP, St.box?, PF.get, Jn, TyK.agg, *]; rfl) Nl ?_
              exact ⟨by rw [HR2.out]; rfl, rfl⟩
      · have hf : Hid (Qac (.mk 6 n sub) = false) := by rw [show Qac (.mk 6 n sub) = _ from HR.out, Qbi (fun h => hs (List.eq_nil_of_length_eq_zero (by have := h.2.2.1; simp [Qbl] at this; first | exact this | (rw [this]; rfl))))]; rfl
        rw [hf.out]
        clear HR hf IH
        refine PCalls.enter Tryz.func62 rfl Tryz.ntmps62 (by simp) ?_
        simp only [Qab]
        refine go_ ?_
        refine Jd ?_
        intro i0 hi0
        refine go_ ?_
        refine Jm (by simp) (by simp only [Tryz.results62]; rfl) (by simp [resP, St.box?, PF.get, Jn, TyK.agg, *]; rfl) Nl ?_
        exact ⟨rfl, rfl⟩
    · by_cases hs : sub.length = 1
      · by_cases h0 : n < 0
        · have hf : Hid (Qac (.mk 7 n sub) = false) := by rw [show Qac (.mk 7 n sub) = _ from HR.out, Qbi (fun h => absurd h.2.2.2.1 (by omega))]; rfl
          rw [hf.out]
          clear HR hf IH
          refine PCalls.enter Tryz.func62 rfl Tryz.ntmps62 (by simp) ?_
          simp only [Qab]
          refine go_ ?_
          refine Jd ?_
          intro i0 hi0
          refine go_ ?_
          refine Jm (by simp) (by simp only [Tryz.results62]; rfl) (by simp [resP, St.box?, PF.get, Jn, TyK.agg, *]; rfl) Nl ?_
          exact ⟨rfl, rfl⟩
        · by_cases hm : 1048576 < n
          · have hf : Hid (Qac (.mk 7 n sub) = false) := by rw [show Qac (.mk 7 n sub) = _ from HR.out, Qbi (fun h => absurd h.2.2.2.2.1 (by simp [Qbc]; omega))]; rfl
            rw [hf.out]
            clear HR hf IH
            refine PCalls.enter Tryz.func62 rfl Tryz.ntmps62 (by simp) ?_
            simp only [Qab]
            refine go_ ?_
            refine Jd ?_
            intro i0 hi0
            refine go_ ?_
            refine Jm (by simp) (by simp only [Tryz.results62]; rfl) (by simp [resP, St.box?, PF.get, Jn, TyK.agg, *]; rfl) Nl ?_
            exact ⟨rfl, rfl⟩
          · match sub, hs with
            | [x], _ =>
            by_cases hx : x.kind = 2
            rotate_left
            · have hf : Hid (Qac (.mk 7 n [x]) = false) := by rw [show Qac (.mk 7 n [x]) = _ from HR.out, Qbi (k := 7) (n := n) (sub := [x]) (fun h => hx (h.2.2.2.2.2.resolve_left (fun h => h rfl)))]; rfl
              rw [hf.out]
              clear HR hf IH
              refine PCalls.enter Tryz.func62 rfl Tryz.ntmps62 (by simp) ?_
              simp only [Qab]
              refine go_ ?_
              refine Jd ?_
              intro i0 hi0
              refine go_ ?_
              refine Jm (by simp) (by simp only [Tryz.results62]; rfl) (by simp [resP, St.box?, PF.get, Jn, TyK.agg, *]; rfl) Nl ?_
              exact ⟨rfl, rfl⟩
            · have HR2 : Hid (Qac (.mk 7 n [x]) = Qbr [x]) := by rw [show Qac (.mk 7 n [x]) = _ from HR.out, Qed (k := 7) (n := n) (sub := [x]) ⟨by decide, by decide, rfl, by omega, by simp [Qbc]; omega, .inr hx⟩]; rfl
              have hx2 : (x.kind != 2) = false := by rw [hx]; rfl
              clear hx
              generalize Qac (.mk 7 n [x]) = R at *
              clear HR
              refine PCalls.enter Tryz.func62 rfl Tryz.ntmps62 (by simp) ?_
              simp only [Qab]
              refine go_ ?_
              refine Jd ?_
              intro i0 hi0
              refine go_ ?_
              refine Qak (ι := Nat) (fun y => y ≤ 1 ∧ Hid (R = Qbr (List.drop y [x]))) (fun y => [(1, .ptr i0 0), (3, .d (.v (.int .i64 1))), (5, .d (.v (.int .i64 (y : Int))))]) (fun _ => [.box i0 26 [.d (.v (.int .i64 7)), .d (.v (.int .i64 n)), .d (.sl ([[.v (.int .i64 x.kind), .v (.int .i64 x.num), .sl (x.sub.map encD)]]))]]) (fun y => 1 - y) 0 ⟨Nat.zero_le _, HR2.out⟩ ?_ ?_ ?_
              · repeat (first | exact Jt _ | refine Js (by simp [PF.get]; rfl) (by first | rfl | (simp [*]; done) | fail) ?_)
              · repeat (first | exact List.Sublist.refl _ | exact List.nil_sublist _ | refine List.Sublist.cons_cons _ ?_ | refine List.Sublist.cons _ ?_)
              · rintro j ⟨hj, hR⟩
                clear HR2
                by_cases hlt : j < 1
                · obtain rfl : j = 0 := by omega
                  have hR2 : Hid (R = (Qac x && Qbr [])) := by rw [show R = _ from hR.out]; rfl
                  have hc1 := Lib.hid (IH.out x (by simp))
                  clear hR
                  generalize Qac x = b at *
                  cases b with
                  | false =>
                    have hf : Hid (R = false) := by rw [show R = _ from hR2.out]; rfl
                    refine go_ ?_
                    refine Jc (hc1.out) ?_
                    refine go_ ?_
                    refine Jm (by simp) (by simp only [Tryz.results62]; rfl) (by simp [resP, St.box?, PF.get, Jn, TyK.agg, *]; rfl) Nl ?_
                    exact ⟨by rw [hf.out]; rfl, rfl⟩
                  | true =>
                    have hR3 : Hid (R = Qbr (List.drop (0 + 1) [x])) := by rw [show R = _ from hR2.out]; rfl
                    refine go_ ?_
                    refine Jc (hc1.out) ?_
                    refine go_ ?_
                    exact ⟨0 + 1, ⟨by omega, hR3⟩, by omega, by repeat (first | exact Jt _ | refine Js (by simp [PF.get]; rfl) (by first | rfl | (simp [*]; done) | fail) ?_), by repeat (first | exact List.Sublist.refl _ | exact List.nil_sublist _ | refine List.Sublist.cons_cons _ ?_ | refine List.Sublist.cons _ ?_)⟩
                · have hc : ¬ (j : Int) < 1 := by omega
                  have hf : Hid (R = true) := by rw [show R = _ from hR.out, List.drop_of_length_le (by simp; omega)]; rfl
                  refine go_ ?_
                  refine Jm (by simp) (by simp only [Tryz.results62]; rfl) (by simp [resP, St.box?, PF.get, Jn, TyK.agg, *]; rfl) Nl ?_
                  exact ⟨by rw [hf.out]; rfl, rfl⟩
      · have hf : Hid (Qac (.mk 7 n sub) = false) := by rw [show Qac (.mk 7 n sub) = _ from HR.out, Qbi (fun h => hs (by have := h.2.2.1; simp [Qbl] at this; omega))]; rfl
        have hs2 : ¬ (sub.length : Int) = 1 := by omega
        rw [hf.out]
        clear HR hf IH
        refine PCalls.enter Tryz.func62 rfl Tryz.ntmps62 (by simp) ?_
        simp only [Qab]
        refine go_ ?_
        refine Jd ?_
        intro i0 hi0
        refine go_ ?_
        refine Jm (by simp) (by simp only [Tryz.results62]; rfl) (by simp [resP, St.box?, PF.get, Jn, TyK.agg, *]; rfl) Nl ?_
        exact ⟨rfl, rfl⟩
    · by_cases hs : sub = []
      · by_cases h0 : n < 0
        · have hf : Hid (Qac (.mk 8 n sub) = false) := by rw [show Qac (.mk 8 n sub) = _ from HR.out, Qbi (fun h => absurd h.2.2.2.1 (by omega))]; rfl
          rw [hf.out]
          clear HR hf IH
          refine PCalls.enter Tryz.func62 rfl Tryz.ntmps62 (by simp) ?_
          simp only [Qab]
          refine go_ ?_
          refine Jd ?_
          intro i0 hi0
          refine go_ ?_
          refine Jm (by simp) (by simp only [Tryz.results62]; rfl) (by simp [resP, St.box?, PF.get, Jn, TyK.agg, *]; rfl) Nl ?_
          exact ⟨rfl, rfl⟩
        · by_cases hm : 1048576 < n
          · have hf : Hid (Qac (.mk 8 n sub) = false) := by rw [show Qac (.mk 8 n sub) = _ from HR.out, Qbi (fun h => absurd h.2.2.2.2.1 (by simp [Qbc]; omega))]; rfl
            rw [hf.out]
            clear HR hf IH
            refine PCalls.enter Tryz.func62 rfl Tryz.ntmps62 (by simp) ?_
            simp only [Qab]
            refine go_ ?_
            refine Jd ?_
            intro i0 hi0
            refine go_ ?_
            refine Jm (by simp) (by simp only [Tryz.results62]; rfl) (by simp [resP, St.box?, PF.get, Jn, TyK.agg, *]; rfl) Nl ?_
            exact ⟨rfl, rfl⟩
          · subst hs
            have HR2 : Hid (Qac (.mk 8 n []) = true) := by rw [show Qac (.mk 8 n []) = _ from HR.out, Qed ⟨by decide, by decide, rfl, by omega, by simp [Qbc]; omega, .inl (by decide)⟩]; rfl
            generalize Qac (.mk 8 n []) = R at *
            clear HR
            refine PCalls.enter Tryz.func62 rfl Tryz.ntmps62 (by simp) ?_
            simp only [Qab]
            refine go_ ?_
            refine Jd ?_
            intro i0 hi0
            refine go_ ?_
            refine Qak (ι := Unit) (fun _ => True) (fun _ => [(3, .d (.v (.int .i64 0))), (5, .d (.v (.int .i64 0)))]) (fun _ => []) (fun _ => 0) () trivial ?_ ?_ ?_
            · repeat (first | exact Jt _ | refine Js (by simp [PF.get]; rfl) (by first | rfl | (simp [*]; done) | fail) ?_)
            · repeat (first | exact List.Sublist.refl _ | exact List.nil_sublist _ | refine List.Sublist.cons_cons _ ?_ | refine List.Sublist.cons _ ?_)
            · rintro _ _
              refine go_ ?_
              refine Jm (by simp) (by simp only [Tryz.results62]; rfl) (by simp [resP, St.box?, PF.get, Jn, TyK.agg, *]; rfl) Nl ?_
              exact ⟨by rw [HR2.out]; rfl, rfl⟩
      · have hf : Hid (Qac (.mk 8 n sub) = false) := by rw [show Qac (.mk 8 n sub) = _ from HR.out, Qbi (fun h => hs (List.eq_nil_of_length_eq_zero (by have := h.2.2.1; simp [Qbl] at this; first | exact this | (rw [this]; rfl))))]; rfl
        rw [hf.out]
        clear HR hf IH
        refine PCalls.enter Tryz.func62 rfl Tryz.ntmps62 (by simp) ?_
        simp only [Qab]
        refine go_ ?_
        refine Jd ?_
        intro i0 hi0
        refine go_ ?_
        refine Jm (by simp) (by simp only [Tryz.results62]; rfl) (by simp [resP, St.box?, PF.get, Jn, TyK.agg, *]; rfl) Nl ?_
        exact ⟨rfl, rfl⟩
theorem Qfc (t : Tm) : PCalls Tryz.prog 15 [aggD t] [] fun p s => p = .d (.v (.bool (Qad t))) ∧ s = [] := by
 have hD := Lib.hid (rDepth_p t)
 have hG := Lib.hid (rgood_p t)
 have HR := Lib.hid (show Qad t = (decide (Qcq t ≤ 128) && Qac t) from rfl)
 generalize Qcq t = z at *
 generalize Qac t = g at *
 simp only [aggD, Jl, List.map_cons, List.map_nil]
 by_cases hz : z ≤ 128
 ·rw [HR.out]
  refine PCalls.enter Tryz.func15 rfl Tryz.ntmps15 (by simp) ?_
  simp only [Qab]
  refine go_ ?_
  refine Jd ?_
  intro i0 hi0
  refine go_ ?_
  refine Jc (hD.out) ?_
  refine go_ ?_
  refine Jc (hG.out) ?_
  refine go_ ?_
  refine Jm (by simp) (by simp only [Tryz.results15]; rfl) (by simp [resP, St.box?, PF.get, Jn, TyK.agg, *]; rfl) Nl ?_
  exact ⟨by simp [hz] <;> rfl, rfl⟩
 ·rw [HR.out]
  refine PCalls.enter Tryz.func15 rfl Tryz.ntmps15 (by simp) ?_
  simp only [Qab]
  refine go_ ?_
  refine Jd ?_
  intro i0 hi0
  refine go_ ?_
  refine Jc (hD.out) ?_
  refine go_ ?_
  refine Jm (by simp) (by simp only [Tryz.results15]; rfl) (by simp [resP, St.box?, PF.get, Jn, TyK.agg, *]; rfl) Nl ?_
  exact ⟨by simp [hz] <;> rfl, rfl⟩
theorem tunder_p (t : Tm) (i : Int) : PCalls Tryz.prog 212 [aggD t, .d (.v (.int .i64 i))] [] fun p s => p = .d (.v (.int .i64 (undB t.kind i))) ∧ s = [] := by
 have HR := Lib.hid (show undB t.kind i = if i = 1 ∧ (t.kind = 3 ∨ t.kind = 4) then 1 else 0 from rfl)
 simp only [aggD, Jl, List.map_cons, List.map_nil]
 by_cases h1 : i = 1
 ·by_cases h3 : t.kind = 3
  ·have hf : Hid (undB t.kind i = 1) := by rw [show undB t.kind i = _ from HR.out, if_pos ⟨h1, .inl h3⟩]; rfl
   rw [hf.out]
   clear HR hf
   subst h1
   refine PCalls.enter Tryz.func212 rfl Tryz.ntmps212 (by simp) ?_
   simp only [Qab]
   refine go_ ?_
   refine Jd ?_
   intro i0 hi0
   refine go_ ?_
   refine Jm (by simp) (by simp only [Tryz.results212]; rfl) (by simp [resP, St.box?, PF.get, Jn, TyK.agg, *]; rfl) Nl ?_
   exact ⟨rfl, rfl⟩
  ·by_cases h4 : t.kind = 4
   ·have hf : Hid (undB t.kind i = 1) := by rw [show undB t.kind i = _ from HR.out, if_pos ⟨h1, .inr h4⟩]; rfl
    rw [hf.out]
    clear HR hf h3
    subst h1
    refine PCalls.enter Tryz.func212 rfl Tryz.ntmps212 (by simp) ?_
    simp only [Qab]
    refine go_ ?_
    refine Jd ?_
    intro i0 hi0
    refine go_ ?_
    refine Jm (by simp) (by simp only [Tryz.results212]; rfl) (by simp [resP, St.box?, PF.get, Jn, TyK.agg, *]; rfl) Nl ?_
    exact ⟨rfl, rfl⟩
   ·have hf : Hid (undB t.kind i = 0) := by rw [show undB t.kind i = _ from HR.out, if_neg (fun h => h.2.elim h3 h4)]; rfl
    rw [hf.out]
    clear HR hf
    subst h1
    refine PCalls.enter Tryz.func212 rfl Tryz.ntmps212 (by simp) ?_
    simp only [Qab]
    refine go_ ?_
    refine Jd ?_
    intro i0 hi0
    refine go_ ?_
    refine Jm (by simp) (by simp only [Tryz.results212]; rfl) (by simp [resP, St.box?, PF.get, Jn, TyK.agg, *]; rfl) Nl ?_
    exact ⟨rfl, rfl⟩
 ·have hf : Hid (undB t.kind i = 0) := by rw [show undB t.kind i = _ from HR.out, if_neg (fun h => h1 h.1)]; rfl
  rw [hf.out]
  clear HR hf
  refine PCalls.enter Tryz.func212 rfl Tryz.ntmps212 (by simp) ?_
  simp only [Qab]
  refine go_ ?_
  refine Jd ?_
  intro i0 hi0
  refine go_ ?_
  refine Jm (by simp) (by simp only [Tryz.results212]; rfl) (by simp [resP, St.box?, PF.get, Jn, TyK.agg, *]; rfl) Nl ?_
  exact ⟨rfl, rfl⟩
def benB (k i : Int) : Int := if i = 1 ∧ k ≠ 5 then 1 else 0
theorem rbeneath_p (t : Tm) (i : Int) : PCalls Tryz.prog 186 [aggD t, .d (.v (.int .i64 i))] [] fun p s => p = .d (.v (.int .i64 (benB t.kind i))) ∧ s = [] := by
 have HR := Lib.hid (show benB t.kind i = if i = 1 ∧ t.kind ≠ 5 then 1 else 0 from rfl)
 simp only [aggD, Jl, List.map_cons, List.map_nil]
 by_cases h1 : i = 1
 ·by_cases h3 : t.kind = 5
  ·have hf : Hid (benB t.kind i = 0) := by rw [show benB t.kind i = _ from HR.out, if_neg (fun h => h.2 h3)]; rfl
   rw [hf.out]
   clear HR hf
   subst h1
   refine PCalls.enter Tryz.func186 rfl Tryz.ntmps186 (by simp) ?_
   simp only [Qab]
   refine go_ ?_
   refine Jd ?_
   intro i0 hi0
   refine go_ ?_
   refine Jm (by simp) (by simp only [Tryz.results186]; rfl) (by simp [resP, St.box?, PF.get, Jn, TyK.agg, *]; rfl) Nl ?_
   exact ⟨rfl, rfl⟩
  ·have hf : Hid (benB t.kind i = 1) := by rw [show benB t.kind i = _ from HR.out, if_pos ⟨h1, h3⟩]; rfl
   rw [hf.out]
   clear HR hf
   subst h1
   refine PCalls.enter Tryz.func186 rfl Tryz.ntmps186 (by simp) ?_
   simp only [Qab]
   refine go_ ?_
   refine Jd ?_
   intro i0 hi0
   refine go_ ?_
   refine Jm (by simp) (by simp only [Tryz.results186]; rfl) (by simp [resP, St.box?, PF.get, Jn, TyK.agg, *]; rfl) Nl ?_
   exact ⟨rfl, rfl⟩
 ·have hf : Hid (benB t.kind i = 0) := by rw [show benB t.kind i = _ from HR.out, if_neg (fun h => h1 h.1)]; rfl
  rw [hf.out]
  clear HR hf
  refine PCalls.enter Tryz.func186 rfl Tryz.ntmps186 (by simp) ?_
  simp only [Qab]
  refine go_ ?_
  refine Jd ?_
  intro i0 hi0
  refine go_ ?_
  refine Jm (by simp) (by simp only [Tryz.results186]; rfl) (by simp [resP, St.box?, PF.get, Jn, TyK.agg, *]; rfl) Nl ?_
  exact ⟨rfl, rfl⟩
theorem ben_und {k n : Int} {sub : List Tm} (h : Qac (.mk k n sub) = true) (j : Nat) (hj : j < sub.length) : benB k (j : Int) = undB k (j : Int) := by
 have h1 := Qgp (Qcp h).1
 have hs : (sub.length : Int) = Qbl k := h1.2.2.2.2
 unfold benB undB
 by_cases e : (j : Int) = 1
 ·have : k = 3 ∨ k = 4 ∨ k = 5 := by
   unfold Qbl at hs
   split at hs
   ·assumption
   ·split at hs <;> omega
  rcases this with rfl | rfl | rfl <;> simp [e]
 ·rw [if_neg (fun h => e h.1), if_neg (fun h => e h.1)]
theorem ls_var {n b : Int} {sub : List Tm} : lsT (.mk 1 n sub) b = max 0 (n + 1 - b) := by simp only [lsT]; rfl
theorem ls_not {k n b : Int} {sub : List Tm} (h : ¬ k = 1) : lsT (.mk k n sub) b = lsL k sub 0 b 0 := by simp only [lsT]; rw [if_neg h]
theorem max_if2 (a b : Int) : (if a < b then b else a) = max a b := (cmax_if a b).symm
theorem good_1 {n : Int} {sub : List Tm} (h : Qac (.mk 1 n sub) = true) : sub = [] := by
 have h1 := Qgp (Qcp h).1
 have hs : (sub.length : Int) = Qbl 1 := h1.2.2.2.2
 exact List.eq_nil_of_length_eq_zero (by simpa [Qbl] using hs)
theorem tloose_p : ∀ (t : Tm) (b : Int), Qac t = true → 0 ≤ b → b + chgT t ≤ 1000 → PCalls Tryz.prog 164 [aggD t, .d (.v (.int .i64 b))] [] fun p s => p = .d (.v (.int .i64 (lsT t b))) ∧ s = [] := by
 refine Tm.ind ?_
 intro k n sub ih b hg h0 h1
 have hnum := Qgp (Qcp hg).1
 simp only [aggD, Jl, List.map_cons, List.map_nil, Tm.kind_mk, Tm.num_mk, Tm.sub_mk]
 by_cases hk : k = 1
 ·subst hk
  rw [ls_var]
  have hw1 := wr64 (n := n + 1) (by omega) (by omega)
  have hw2 := wr64 (n := n + 1 - b) (by omega) (by omega)
  clear ih hg hnum
  refine PCalls.enter Tryz.func164 rfl Tryz.ntmps164 (by simp) ?_
  simp only [Qab]
  refine go_ ?_
  refine Jd ?_
  intro i0 hi0
  refine go_ ?_
  refine POps_max ((max 0 (n + 1 - b))) (max_if2 _ _) ?_
  refine go_ ?_
  refine Jm (by simp) (by simp only [Tryz.results164]; rfl) (by simp [resP, St.box?, PF.get, Jn, TyK.agg, *]; rfl) Nl ?_
  exact ⟨rfl, rfl⟩
 ·rw [ls_not hk]
  have HR : ∃ R, R = lsL k sub 0 b 0 := ⟨_, rfl⟩
  obtain ⟨R, hR0⟩ := HR
  rw [← hR0]
  have hgs := (Qcp hg).2
  have hhg : ∀ s ∈ sub, (chgT s : Int) + 1 ≤ chgT (.mk k n sub) := fun s hs => by
   have h2 : chgT s ≤ chgL sub := hgL_mem s hs
   simp only [chgT]; omega
  have hll : sub.length ≤ 2 := by
   have := hnum.2.2.2.2
   unfold Qbl at this
   split at this
   ·omega
   ·split at this <;> omega
  have IH := Lib.hid ih
  have CU := Lib.hid (tunder_p (.mk k n sub))
  simp only [aggD, Jl, List.map_cons, List.map_nil, Tm.kind_mk, Tm.num_mk, Tm.sub_mk] at CU
  clear ih hg hnum
  refine PCalls.enter Tryz.func164 rfl Tryz.ntmps164 (by simp) ?_
  simp only [Qab]
  refine go_ ?_
  refine Jd ?_
  intro i0 hi0
  refine go_ ?_
  refine Qak (ι := Nat × Int) (fun y => y.1 ≤ sub.length ∧ 0 ≤ y.2 ∧ y.2 ≤ 1048577 ∧ Hid (R = lsL k (sub.drop y.1) y.1 b y.2)) (fun y => [(1, .d (.v (.int .i64 b))), (2, .ptr i0 0), (5, .d (.v (.int .i64 y.2))), (18, .d (.sl (sub.map encD))), (19, .d (.v (.int .i64 sub.length))), (20, .d (.v (.int .i64 (y.1 : Int))))]) (fun _ => [.box i0 26 [.d (.v (.int .i64 k)), .d (.v (.int .i64 n)), .d (.sl (sub.map encD))]]) (fun y => sub.length - y.1) (0, 0) ⟨Nat.zero_le _, by decide, by simp only; omega, hR0⟩ ?_ ?_ ?_
  ·repeat (first | exact Jt _ | refine Js (by simp [PF.get]; rfl) (by first | rfl | (simp [*]; done) | fail) ?_)
  ·repeat (first | exact List.Sublist.refl _ | exact List.nil_sublist _ | refine List.Sublist.cons_cons _ ?_ | refine List.Sublist.cons _ ?_)
  ·rintro ⟨j, m⟩ ⟨hj, hm0, hm1, hR⟩
   simp only at hj hm0 hm1 hR ⊢
   clear hR0
   by_cases hlt : j < sub.length
   ·have hx := Qal hlt
    have hc : (j : Int) < sub.length := by omega
    have hn : (0 : Int) ≤ j := by omega
    have hin := wr64 (n := (j : Int) + 1) (by omega) (by omega)
    have hu := und_bd k j
    have hh := hhg _ (List.getElem_mem hlt)
    have hR2 : Hid (R = lsL k (sub.drop (j + 1)) (j + 1) b (max m (lsT sub[j] (b + undB k j)))) := by
     rw [show R = _ from hR.out, List.drop_eq_getElem_cons hlt]
     show _ = _
     simp only [lsL]
    have hb2 := ls_bd sub[j] (b + undB k j) (hgs _ (List.getElem_mem hlt)) (by omega)
    have hc1 := Lib.hid (IH.out _ (List.getElem_mem hlt) (b + undB k j) (hgs _ (List.getElem_mem hlt)) (by omega) (by omega))
    have hcu := Lib.hid (CU.out j)
    have hw := wr64 (n := b + undB k j) (by omega) (by omega)
    clear hR hgs hhg hu
    generalize lsT sub[j] (b + undB k j) = x' at *
    generalize undB k j = u at *
    have hmx : 0 ≤ max m x' ∧ max m x' ≤ 1048577 := by omega
    refine go_ ?_
    refine Je ?_
    intro i2 hi2
    try simp only [Ja, Rh, Rg, Jb] at hi2
    refine go_ ?_
    refine Rd ?_
    refine go_ ?_
    refine Qax [(0, .a), (1, .b), (2, .a), (3, .b), (4, .a), (5, .a), (6, .a), (7, .a), (8, .a), (9, .a)] (by kernel_rfl) (by rfl) (by kernel_rfl) ?_
    refine go_ ?_
    refine Qaa (hcu.out) ?_
    refine go_ ?_
    refine Qaa (hc1.out) ?_
    refine go_ ?_
    refine POrd_max ((max m x')) (max_if2 _ _) ?_
    refine go_ ?_
    exact ⟨(j + 1, max m x'), ⟨hlt, hmx.1, hmx.2, hR2⟩, by simp only; omega, by repeat (first | exact Jt _ | refine Js (by simp [PF.get]; rfl) (by first | rfl | (simp [*]; done) | fail) ?_), by repeat (first | exact List.Sublist.refl _ | exact List.nil_sublist _ | refine List.Sublist.cons_cons _ ?_ | refine List.Sublist.cons _ ?_)⟩
   ·have hc : ¬ (j : Int) < sub.length := by omega
    have hf : Hid (R = m) := by rw [show R = _ from hR.out, List.drop_of_length_le (by omega)]; rfl
    refine go_ ?_
    refine Jm (by simp) (by simp only [Tryz.results164]; rfl) (by simp [resP, St.box?, PF.get, Jn, TyK.agg, *]; rfl) Nl ?_
    exact ⟨by rw [hf.out]; rfl, rfl⟩
theorem rloose_p : ∀ (t : Tm) (b : Int), Qac t = true → 0 ≤ b → b + chgT t ≤ 1000 → PCalls Tryz.prog 126 [aggD t, .d (.v (.int .i64 b))] [] fun p s => p = .d (.v (.int .i64 (lsT t b))) ∧ s = [] := by
 refine Tm.ind ?_
 intro k n sub ih b hg h0 h1
 have hnum := Qgp (Qcp hg).1
 by_cases hk : k = 1 ∧ b ≤ n
 ·obtain ⟨hk, hbn⟩ := hk
  subst hk
  simp only [aggD, Jl, List.map_cons, List.map_nil, Tm.kind_mk, Tm.num_mk, Tm.sub_mk]
  have HR : Hid (lsT (.mk 1 n sub) b = n - b + 1) := by rw [ls_var]; show _ = _; omega
  rw [HR.out]
  have hw1 := wr64 (n := n - b) (by omega) (by omega)
  have hw2 := wr64 (n := n - b + 1) (by omega) (by omega)
  clear ih hg hnum HR
  refine PCalls.enter Tryz.func126 rfl Tryz.ntmps126 (by simp) ?_
  simp only [Qab]
  refine go_ ?_
  refine Jd ?_
  intro i0 hi0
  refine go_ ?_
  refine Jm (by simp) (by simp only [Tryz.results126]; rfl) (by simp [resP, St.box?, PF.get, Jn, TyK.agg, *]; rfl) Nl ?_
  exact ⟨rfl, rfl⟩
 ·by_cases hk1 : k = 1
  ·subst hk1
   obtain rfl := good_1 hg
   have hbn : ¬ b ≤ n := fun h => hk ⟨rfl, h⟩
   have HR : Hid (lsT (.mk 1 n []) b = 0) := by rw [ls_var]; show _ = _; omega
   rw [HR.out]
   simp only [aggD, Jl, List.map_cons, List.map_nil, Tm.kind_mk, Tm.num_mk, Tm.sub_mk]
   clear ih hg hnum HR hk h1
   refine PCalls.enter Tryz.func126 rfl Tryz.ntmps126 (by simp) ?_
   simp only [Qab]
   refine go_ ?_
   refine Jd ?_
   intro i0 hi0
   refine go_ ?_
   refine Qak (ι := Unit) (fun _ => True) (fun _ => [(2, .ptr i0 0), (5, .d (.v (.int .i64 0))), (6, .d (.v (.int .i64 0)))]) (fun _ => [.box i0 26 [.d (.v (.int .i64 1)), .d (.v (.int .i64 n)), .d (.sl [])]]) (fun _ => 0) () trivial ?_ ?_ ?_
   ·repeat (first | exact Jt _ | refine Js (by simp [PF.get]; rfl) (by first | rfl | (simp [*]; done) | fail) ?_)
   ·repeat (first | exact List.Sublist.refl _ | exact List.nil_sublist _ | refine List.Sublist.cons_cons _ ?_ | refine List.Sublist.cons _ ?_)
   ·rintro _ _
    refine go_ ?_
    refine Jm (by simp) (by simp only [Tryz.results126]; rfl) (by simp [resP, St.box?, PF.get, Jn, TyK.agg, *]; rfl) Nl ?_
    exact ⟨rfl, rfl⟩
  ·have HR : ∃ R, R = lsL k sub 0 b 0 := ⟨_, rfl⟩
   obtain ⟨R, hR0⟩ := HR
   rw [ls_not hk1, ← hR0]
   have hgs := (Qcp hg).2
   have hbe := fun j hj => ben_und hg j hj
   have hhg : ∀ s ∈ sub, (chgT s : Int) + 1 ≤ chgT (.mk k n sub) := fun s hs => by
    have h2 : chgT s ≤ chgL sub := hgL_mem s hs
    simp only [chgT]; omega
   have hll : sub.length ≤ 2 := by
    have := hnum.2.2.2.2
    unfold Qbl at this
    split at this
    ·omega
    ·split at this <;> omega
   have IH := Lib.hid ih
   have CU := Lib.hid (rbeneath_p (.mk k n sub))
   simp only [aggD, Jl, List.map_cons, List.map_nil, Tm.kind_mk, Tm.num_mk, Tm.sub_mk] at CU ⊢
   have HB := Lib.hid hbe
   clear ih hg hnum hk hbe
   refine PCalls.enter Tryz.func126 rfl Tryz.ntmps126 (by simp) ?_
   simp only [Qab]
   refine go_ ?_
   refine Jd ?_
   intro i0 hi0
   refine go_ ?_
   refine Qak (ι := Nat × Int) (fun y => y.1 ≤ sub.length ∧ 0 ≤ y.2 ∧ y.2 ≤ 1048577 ∧ Hid (R = lsL k (sub.drop y.1) y.1 b y.2)) (fun y => [(1, .d (.v (.int .i64 b))), (2, .ptr i0 0), (5, .d (.v (.int .i64 y.2))), (6, .d (.v (.int .i64 (y.1 : Int))))]) (fun _ => [.box i0 26 [.d (.v (.int .i64 k)), .d (.v (.int .i64 n)), .d (.sl (sub.map encD))]]) (fun y => sub.length - y.1) (0, 0) ⟨Nat.zero_le _, by decide, by simp only; omega, hR0⟩ ?_ ?_ ?_
   ·repeat (first | exact Jt _ | refine Js (by simp [PF.get]; rfl) (by first | rfl | (simp [*]; done) | fail) ?_)
   ·repeat (first | exact List.Sublist.refl _ | exact List.nil_sublist _ | refine List.Sublist.cons_cons _ ?_ | refine List.Sublist.cons _ ?_)
   ·rintro ⟨j, m⟩ ⟨hj, hm0, hm1, hR⟩
    simp only at hj hm0 hm1 hR ⊢
    clear hR0 hk1
    by_cases hlt : j < sub.length
    ·have hx := Qal hlt
     have hc : (j : Int) < sub.length := by omega
     have hn : (0 : Int) ≤ j := by omega
     have hin := wr64 (n := (j : Int) + 1) (by omega) (by omega)
     have hu := und_bd k j
     have hh := hhg _ (List.getElem_mem hlt)
     have hR2 : Hid (R = lsL k (sub.drop (j + 1)) (j + 1) b (max m (lsT sub[j] (b + undB k j)))) := by
      rw [show R = _ from hR.out, List.drop_eq_getElem_cons hlt]
      show _ = _
      simp only [lsL]
     have hb2 := ls_bd sub[j] (b + undB k j) (hgs _ (List.getElem_mem hlt)) (by omega)
     have hc1 := Lib.hid (IH.out _ (List.getElem_mem hlt) (b + undB k j) (hgs _ (List.getElem_mem hlt)) (by omega) (by omega))
     have hcu := CU.out j
     rw [HB.out j hlt] at hcu
     have HCU := Lib.hid hcu
     have hw := wr64 (n := b + undB k j) (by omega) (by omega)
     clear hR hgs hhg hu hcu
     generalize lsT sub[j] (b + undB k j) = x' at *
     generalize undB k j = u at *
     have hmx : 0 ≤ max m x' ∧ max m x' ≤ 1048577 := by omega
     refine go_ ?_
     refine Qax [(0, .a), (1, .a), (2, .b), (3, .a), (4, .a), (5, .a), (6, .a), (7, .b), (8, .a), (9, .a), (10, .a), (11, .a), (12, .a), (13, .a)] (by kernel_rfl) (by rfl) (by kernel_rfl) ?_
     refine go_ ?_
     refine Qaa (HCU.out) ?_
     refine go_ ?_
     refine Qaa (hc1.out) ?_
     refine go_ ?_
     refine POrd_max ((max m x')) (max_if2 _ _) ?_
     refine go_ ?_
     exact ⟨(j + 1, max m x'), ⟨hlt, hmx.1, hmx.2, hR2⟩, by simp only; omega, by repeat (first | exact Jt _ | refine Js (by simp [PF.get]; rfl) (by first | rfl | (simp [*]; done) | fail) ?_), by repeat (first | exact List.Sublist.refl _ | exact List.nil_sublist _ | refine List.Sublist.cons_cons _ ?_ | refine List.Sublist.cons _ ?_)⟩
    ·have hc : ¬ (j : Int) < sub.length := by omega
     have hf : Hid (R = m) := by rw [show R = _ from hR.out, List.drop_of_length_le (by omega)]; rfl
     refine go_ ?_
     refine Jm (by simp) (by simp only [Tryz.results126]; rfl) (by simp [resP, St.box?, PF.get, Jn, TyK.agg, *]; rfl) Nl ?_
     exact ⟨by rw [hf.out]; rfl, rfl⟩
theorem PCalls.norm {P : Program} {f : FuncId} {args : List PV} {st : St} {R R' : PV → St → Prop} (h : PCalls P f args st R) (hr : ∀ p s, R p s → R' p.norm0 []) : PCalls P f args st R' :=
 fun F K w vs h1 h2 => (h F K w vs h1 h2).mono fun _ _ ⟨v, K', p, _, a, b, c, d, e⟩ => ⟨v, K', p.norm0, [], a, b, c.sub Nl, Qhw _ _ _ _ d, hr _ _ e⟩
theorem Qfq (l : List Int) : ∀ row ∈ l.map encD, row.length = 1 := Qil rfl
theorem cnd_mem {l : List Tm} : ∀ s ∈ l, cndT s ≤ cndL l := by
  induction l with
  | nil => intro s hs; cases hs
  | cons t ts ih =>
    intro s hs
    simp only [cndL]
    rcases List.mem_cons.1 hs with rfl | hs
    · omega
    · have := ih s hs; omega
theorem rows1a (l m : List Int) : ∀ row ∈ l.map encD ++ m.map encD, row.length = 1 := fun row h => (List.mem_append.1 h).elim (Qfq _ row) (Qfq _ row)
theorem clS_take {a b : Int} {l : List Tm} {j : Nat} (h : j < l.length) : clS a b (l.take (j + 1)) = clS a b (l.take j) ++ clT a b l[j] := by
 rw [List.take_succ_eq_append_getElem h, clS_append]
 simp only [clS, List.append_nil]
theorem clS_len (a b : Int) (l : List Tm) : (clS a b l).length ≤ cndL l := by
  induction l with
  | nil => exact Nat.le_refl _
  | cons t ts ih =>
    have := cl_len a b t
    simp only [clS, cndL, List.length_append]; omega
theorem collect_o : ∀ (t : Tm) (a b : Int), cndT t ≤ 100000 → PCalls Tryz.prog 214 [aggD t, .d (.v (.int .i64 a)), .d (.v (.int .i64 b))] [] fun p s => ∃ g, p = .own g ((clT a b t).map encD) ∧ s = [.tok g 3 1 (clT a b t).length] := by
 refine Tm.ind ?_
 intro k n sub ih a b hnd
 have hc0 : clT a b (.mk k n sub) = (if k = a ∨ k = b then [n] else []) ++ clS a b sub := by simp only [clT]
 have hns : cndL sub ≤ 100000 := by simp only [cndT] at hnd; omega
 have IH : Hid (∀ s ∈ sub, PCalls Tryz.prog 214 [aggD s, .d (.v (.int .i64 a)), .d (.v (.int .i64 b))] [] fun p st => p = .d (.sl ((clT a b s).map encD)) ∧ st = []) := fun s hs =>
  (ih s hs a b (by have := cnd_mem s hs; omega)).norm fun p st ⟨g, e1, e2⟩ => ⟨by rw [e1]; rfl, rfl⟩
 have hl0 : (if k = a ∨ k = b then [n] else []).length ≤ 1 := by split <;> simp
 simp only [aggD, Jl, List.map_cons, List.map_nil, Tm.kind_mk, Tm.num_mk, Tm.sub_mk]
 clear ih hnd
 rw [hc0]
 clear hc0
 obtain ⟨r0, hr0⟩ : ∃ r0, (if k = a ∨ k = b then [n] else []) = r0 := ⟨_, rfl⟩
 rw [hr0] at hl0 ⊢
 refine PCalls.enter Tryz.func214 rfl Tryz.ntmps214 (by simp) ?_
 simp only [Qab]
 refine go_ ?_
 refine Jd ?_
 intro i0 hi0
 refine Qq ?_
 refine Qh ?_
 refine Qj ?_
 refine gs_ ?_
 refine Qc ?_
 refine gs_ ?_
 refine PW_own 7 3 1 (by decide) (by simp [PF.get] <;> rfl) fun g hg => ?_
 by_cases hk : k = a ∨ k = b
 ·rw [if_pos hk] at hr0
  by_cases h1 : k = a
  ·clear hk
   refine go_ ?_
   refine Qam ?_
   refine go_ ?_
   refine Qba 1 ?_ ?_ ?_ ?_
   ·rfl
   ·simp
   ·simp
   refine gs_ ?_
   clear h1
   refine go_ ?_
   refine Qio (t := 0) (i := 2) (rows := sub.map encD) (by simp [PF.get] <;> rfl) rfl fun hml => ?_
   rw [List.length_map] at hml
   refine Qak (ι := Nat) (fun y => y ≤ sub.length) (fun y => [(1, .d (.v (.int .i64 a))), (2, .d (.v (.int .i64 b))), (7, .own g ((r0 ++ clS a b (sub.take y)).map encD)), (26, .d (.sl (sub.map encD))), (27, .d (.v (.int .i64 sub.length))), (28, .d (.v (.int .i64 (y : Int))))]) (fun y => [.tok g 3 1 (r0 ++ clS a b (sub.take y)).length]) (fun y => sub.length - y) 0 (Nat.zero_le _) ?_ ?_ ?_
   ·subst hr0
    repeat (first | exact Jt _ | refine Js (by simp [PF.get]; rfl) (by first | rfl | (simp [clS, List.take_zero, List.append_nil]; done) | fail) ?_)
   ·subst hr0
    simp only [clS, List.take_zero, List.append_nil]
    repeat (first | exact List.Sublist.refl _ | exact List.nil_sublist _ | refine List.Sublist.cons_cons _ ?_ | refine List.Sublist.cons _ ?_)
   ·rintro j hj
    clear hr0
    unfold maxLen at hml
    by_cases hlt : j < sub.length
    ·have hx := Qal hlt
     have hc : (j : Int) < sub.length := by omega
     have hn : (0 : Int) ≤ j := by omega
     have hin := wr64 (n := (j : Int) + 1) (by omega) (by omega)
     have hT := clS_take (a := a) (b := b) hlt
     have hlen := Nat.le_trans (clS_len a b (sub.take (j + 1))) (Nat.le_trans (Qex sub (j + 1)) hns)
     rw [hT, List.length_append] at hlen
     have hlA : (r0 ++ clS a b (sub.take j)).length ≤ 100001 := by rw [List.length_append]; omega
     have HT := Lib.hid hT
     clear hT
     have hc1 := Lib.hid (IH.out _ (List.getElem_mem hlt))
     generalize clT a b sub[j] = x at *
     refine go_ ?_
     refine Je ?_
     intro i2 hi2
     try simp only [Ja, Rh, Rg, Jb] at hi2
     refine go_ ?_
     refine Rd ?_
     refine go_ ?_
     refine Jc (hc1.out) ?_
     refine go_ ?_
     refine Qba ((r0 ++ clS a b (sub.take j)).length + x.length) ?_ ?_ ?_ ?_
     ·simp
     ·exact rows1a _ _
     ·exact Qfq _
     refine go_ ?_
     refine ⟨j + 1, hlt, by omega, ?_, ?_⟩
     ·rw [HT.out, ← List.append_assoc]
      repeat (first | exact Jt _ | refine Js (by simp [PF.get]; rfl) (by first | rfl | (simp [*]; done) | fail) ?_)
     ·rw [HT.out, ← List.append_assoc]
      simp only [List.length_append]
      repeat (first | exact List.Sublist.refl _ | exact List.nil_sublist _ | refine List.Sublist.cons_cons _ ?_ | refine List.Sublist.cons _ ?_)
    ·have hc : ¬ (j : Int) < sub.length := by omega
     have htk : sub.take j = sub := List.take_of_length_le (by omega)
     rw [htk]
     refine go_ ?_
     refine Qgw (st' := [.tok g 3 1 (r0 ++ clS a b sub).length]) (by simp) (by simp only [Tryz.results214]; rfl) (by simp [resP, PF.get]; rfl) (by repeat (first | exact List.Sublist.refl _ | exact List.nil_sublist _ | refine List.Sublist.cons_cons _ ?_ | refine List.Sublist.cons _ ?_)) ⟨g, by simp [tupP], rfl⟩
  ·have h2 : k = b := hk.resolve_left h1
   clear hk
   have h1b : ¬ b = a := fun e => h1 (h2.trans e)
   refine go_ ?_
   refine Qam ?_
   refine go_ ?_
   refine Qba 1 ?_ ?_ ?_ ?_
   ·rfl
   ·simp
   ·simp
   refine gs_ ?_
   clear h1 h2 h1b
   refine go_ ?_
   refine Qio (t := 0) (i := 2) (rows := sub.map encD) (by simp [PF.get] <;> rfl) rfl fun hml => ?_
   rw [List.length_map] at hml
   refine Qak (ι := Nat) (fun y => y ≤ sub.length) (fun y => [(1, .d (.v (.int .i64 a))), (2, .d (.v (.int .i64 b))), (7, .own g ((r0 ++ clS a b (sub.take y)).map encD)), (26, .d (.sl (sub.map encD))), (27, .d (.v (.int .i64 sub.length))), (28, .d (.v (.int .i64 (y : Int))))]) (fun y => [.tok g 3 1 (r0 ++ clS a b (sub.take y)).length]) (fun y => sub.length - y) 0 (Nat.zero_le _) ?_ ?_ ?_
   ·subst hr0
    repeat (first | exact Jt _ | refine Js (by simp [PF.get]; rfl) (by first | rfl | (simp [clS, List.take_zero, List.append_nil]; done) | fail) ?_)
   ·subst hr0
    simp only [clS, List.take_zero, List.append_nil]
    repeat (first | exact List.Sublist.refl _ | exact List.nil_sublist _ | refine List.Sublist.cons_cons _ ?_ | refine List.Sublist.cons _ ?_)
   ·rintro j hj
    clear hr0
    unfold maxLen at hml
    by_cases hlt : j < sub.length
    ·have hx := Qal hlt
     have hc : (j : Int) < sub.length := by omega
     have hn : (0 : Int) ≤ j := by omega
     have hin := wr64 (n := (j : Int) + 1) (by omega) (by omega)
     have hT := clS_take (a := a) (b := b) hlt
     have hlen := Nat.le_trans (clS_len a b (sub.take (j + 1))) (Nat.le_trans (Qex sub (j + 1)) hns)
     rw [hT, List.length_append] at hlen
     have hlA : (r0 ++ clS a b (sub.take j)).length ≤ 100001 := by rw [List.length_append]; omega
     have HT := Lib.hid hT
     clear hT
     have hc1 := Lib.hid (IH.out _ (List.getElem_mem hlt))
     generalize clT a b sub[j] = x at *
     refine go_ ?_
     refine Je ?_
     intro i2 hi2
     try simp only [Ja, Rh, Rg, Jb] at hi2
     refine go_ ?_
     refine Rd ?_
     refine go_ ?_
     refine Jc (hc1.out) ?_
     refine go_ ?_
     refine Qba ((r0 ++ clS a b (sub.take j)).length + x.length) ?_ ?_ ?_ ?_
     ·simp
     ·exact rows1a _ _
     ·exact Qfq _
     refine go_ ?_
     refine ⟨j + 1, hlt, by omega, ?_, ?_⟩
     ·rw [HT.out, ← List.append_assoc]
      repeat (first | exact Jt _ | refine Js (by simp [PF.get]; rfl) (by first | rfl | (simp [*]; done) | fail) ?_)
     ·rw [HT.out, ← List.append_assoc]
      simp only [List.length_append]
      repeat (first | exact List.Sublist.refl _ | exact List.nil_sublist _ | refine List.Sublist.cons_cons _ ?_ | refine List.Sublist.cons _ ?_)
    ·have hc : ¬ (j : Int) < sub.length := by omega
     have htk : sub.take j = sub := List.take_of_length_le (by omega)
     rw [htk]
     refine go_ ?_
     refine Qgw (st' := [.tok g 3 1 (r0 ++ clS a b sub).length]) (by simp) (by simp only [Tryz.results214]; rfl) (by simp [resP, PF.get]; rfl) (by repeat (first | exact List.Sublist.refl _ | exact List.nil_sublist _ | refine List.Sublist.cons_cons _ ?_ | refine List.Sublist.cons _ ?_)) ⟨g, by simp [tupP], rfl⟩
 ·rw [if_neg hk] at hr0
  have h1 : ¬ k = a := fun h => hk (.inl h)
  have h2 : ¬ k = b := fun h => hk (.inr h)
  clear hk
  refine go_ ?_
  refine Qio (t := 0) (i := 2) (rows := sub.map encD) (by simp [PF.get] <;> rfl) rfl fun hml => ?_
  rw [List.length_map] at hml
  refine Qak (ι := Nat) (fun y => y ≤ sub.length) (fun y => [(1, .d (.v (.int .i64 a))), (2, .d (.v (.int .i64 b))), (7, .own g ((r0 ++ clS a b (sub.take y)).map encD)), (26, .d (.sl (sub.map encD))), (27, .d (.v (.int .i64 sub.length))), (28, .d (.v (.int .i64 (y : Int))))]) (fun y => [.tok g 3 1 (r0 ++ clS a b (sub.take y)).length]) (fun y => sub.length - y) 0 (Nat.zero_le _) ?_ ?_ ?_
  ·subst hr0
   repeat (first | exact Jt _ | refine Js (by simp [PF.get]; rfl) (by first | rfl | (simp [clS, List.take_zero, List.append_nil]; done) | fail) ?_)
  ·subst hr0
   simp only [clS, List.take_zero, List.append_nil]
   repeat (first | exact List.Sublist.refl _ | exact List.nil_sublist _ | refine List.Sublist.cons_cons _ ?_ | refine List.Sublist.cons _ ?_)
  ·rintro j hj
   clear hr0
   unfold maxLen at hml
   by_cases hlt : j < sub.length
   ·have hx := Qal hlt
    have hc : (j : Int) < sub.length := by omega
    have hn : (0 : Int) ≤ j := by omega
    have hin := wr64 (n := (j : Int) + 1) (by omega) (by omega)
    have hT := clS_take (a := a) (b := b) hlt
    have hlen := Nat.le_trans (clS_len a b (sub.take (j + 1))) (Nat.le_trans (Qex sub (j + 1)) hns)
    rw [hT, List.length_append] at hlen
    have hlA : (r0 ++ clS a b (sub.take j)).length ≤ 100001 := by rw [List.length_append]; omega
    have HT := Lib.hid hT
    clear hT
    have hc1 := Lib.hid (IH.out _ (List.getElem_mem hlt))
    generalize clT a b sub[j] = x at *
    refine go_ ?_
    refine Je ?_
    intro i2 hi2
    try simp only [Ja, Rh, Rg, Jb] at hi2
    refine go_ ?_
    refine Rd ?_
    refine go_ ?_
    refine Jc (hc1.out) ?_
    refine go_ ?_
    refine Qba ((r0 ++ clS a b (sub.take j)).length + x.length) ?_ ?_ ?_ ?_
    ·simp
    ·exact rows1a _ _
    ·exact Qfq _
    refine go_ ?_
    refine ⟨j + 1, hlt, by omega, ?_, ?_⟩
    ·rw [HT.out, ← List.append_assoc]
     repeat (first | exact Jt _ | refine Js (by simp [PF.get]; rfl) (by first | rfl | (simp [*]; done) | fail) ?_)
    ·rw [HT.out, ← List.append_assoc]
     simp only [List.length_append]
     repeat (first | exact List.Sublist.refl _ | exact List.nil_sublist _ | refine List.Sublist.cons_cons _ ?_ | refine List.Sublist.cons _ ?_)
   ·have hc : ¬ (j : Int) < sub.length := by omega
    have htk : sub.take j = sub := List.take_of_length_le (by omega)
    rw [htk]
    refine go_ ?_
    refine Qgw (st' := [.tok g 3 1 (r0 ++ clS a b sub).length]) (by simp) (by simp only [Tryz.results214]; rfl) (by simp [resP, PF.get]; rfl) (by repeat (first | exact List.Sublist.refl _ | exact List.nil_sublist _ | refine List.Sublist.cons_cons _ ?_ | refine List.Sublist.cons _ ?_)) ⟨g, by simp [tupP], rfl⟩
end Go.Proofs.YtdklpbefbamchaaGreat

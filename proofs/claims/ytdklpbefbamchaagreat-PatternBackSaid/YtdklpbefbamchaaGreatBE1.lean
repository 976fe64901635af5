import Derived.Test.YtdklpbefbamchaaGreatBE
import Derived.Test.YtdklpbefbamchaaGreatBA5
set_option linter.unusedSimpArgs false
set_option linter.unusedVariables false
set_option maxHeartbeats 16000000
set_option maxRecDepth 100000
namespace Go.Proofs.YtdklpbefbamchaaGreat
open Go.RowKit
theorem head_mk {k n : Int} {sub : List Tm} : Qds (.mk k n sub) = decide (1 ≤ k ∧ k ≤ 8 ∧ (sub.length : Int) = Qbn k ∧ 0 ≤ n ∧ n ≤ Qbh k ∧ (k ≠ 7 ∨ fst0 sub = 2)) := rfl
theorem rgood_p : ∀ (t : Tm), PCalls Tryz.prog 62 [aggD t] [] fun p s => p = .d (.v (.bool (Qaj t))) ∧ s = [] := by
  refine Tm.ind ?_
  intro k n sub ih
  have HR := Lib.hid (show Qaj (.mk k n sub) = (Qds (.mk k n sub) && Qbt sub) by simp only [Qaj])
  simp only [aggD, Jl, List.map_cons, List.map_nil, Tm.kind_mk, Tm.num_mk, Tm.sub_mk]
  have IH := Lib.hid ih
  clear ih
  by_cases hk : k = 1 ∨ k = 2 ∨ k = 3 ∨ k = 4 ∨ k = 5 ∨ k = 6 ∨ k = 7 ∨ k = 8
  rotate_left
  · have hf : Hid (Qaj (.mk k n sub) = false) := by rw [show Qaj (.mk k n sub) = _ from HR.out, Qbj (by omega)]; rfl
    rw [hf.out]
    have h1 : ¬ k = 1 := by omega
    have h2 : ¬ k = 2 := by omega
    have h3 : ¬ k = 3 := by omega
    have h4 : ¬ k = 4 := by omega
    have h5 : ¬ k = 5 := by omega
    have h6 : ¬ k = 6 := by omega
    have h7 : ¬ k = 7 := by omega
    have h8 : ¬ k = 8 := by omega
    clear hk HR hf
    refine PCalls.enter Tryz.func62 rfl Tryz.ntmps62 (by simp) ?_
    simp only [Qab]
    refine go_ ?_
    refine Jd ?_
    intro i0 hi0
    refine go_ ?_
    refine Jm (by simp) (by simp only [Tryz.results62]; rfl) (by simp [resP, St.box?, PF.get, Jn, TyK.agg, *]; rfl) Nl ?_
    exact ⟨rfl, rfl⟩
  · rcases hk with rfl | rfl | rfl | rfl | rfl | rfl | rfl | rfl
    · by_cases hs : sub = []
      · by_cases h0 : n < 0
        · have hf : Hid (Qaj (.mk 1 n sub) = false) := by rw [show Qaj (.mk 1 n sub) = _ from HR.out, Qbj (fun h => absurd h.2.2.2.1 (by omega))]; rfl
          rw [hf.out]
          clear HR hf IH
          refine PCalls.enter Tryz.func62 rfl Tryz.ntmps62 (by simp) ?_
          simp only [Qab]
          refine go_ ?_
          refine Jd ?_
          intro i0 hi0
          refine go_ ?_
          refine Jm (by simp) (by simp only [Tryz.results62]; rfl) (by simp [resP, St.box?, PF.get, Jn, TyK.agg, *]; rfl) Nl ?_
          exact ⟨rfl, rfl⟩
        · by_cases hm : 1048576 < n
          · have hf : Hid (Qaj (.mk 1 n sub) = false) := by rw [show Qaj (.mk 1 n sub) = _ from HR.out, Qbj (fun h => absurd h.2.2.2.2.1 (by simp [Qbh]; omega))]; rfl
            rw [hf.out]
            clear HR hf IH
            refine PCalls.enter Tryz.func62 rfl Tryz.ntmps62 (by simp) ?_
            simp only [Qab]
            refine go_ ?_
            refine Jd ?_
            intro i0 hi0
            refine go_ ?_
            refine Jm (by simp) (by simp only [Tryz.results62]; rfl) (by simp [resP, St.box?, PF.get, Jn, TyK.agg, *]; rfl) Nl ?_
            exact ⟨rfl, rfl⟩
          · subst hs
            have HR2 : Hid (Qaj (.mk 1 n []) = true) := by rw [show Qaj (.mk 1 n []) = _ from HR.out, Qdx ⟨by decide, by decide, rfl, by omega, by simp [Qbh]; omega, .inl (by decide)⟩]; rfl
            generalize Qaj (.mk 1 n []) = R at *
            clear HR
            refine PCalls.enter Tryz.func62 rfl Tryz.ntmps62 (by simp) ?_
            simp only [Qab]
            refine go_ ?_
            refine Jd ?_
            intro i0 hi0
            refine go_ ?_
            refine Qak (ι := Unit) (fun _ => True) (fun _ => [(3, .d (.v (.int .i64 0))), (5, .d (.v (.int .i64 0)))]) (fun _ => []) (fun _ => 0) () trivial ?_ ?_ ?_
            · repeat (first | exact Jt _ | refine Js (by simp [PF.get]; rfl) (by first | rfl | (simp [*]; done) | fail) ?_)
            · repeat (first | exact List.Sublist.refl _ | exact List.nil_sublist _ | refine List.Sublist.cons_cons _ ?_ | refine List.Sublist.cons _ ?_)
            · rintro _ _
              refine go_ ?_
              refine Jm (by simp) (by simp only [Tryz.results62]; rfl) (by simp [resP, St.box?, PF.get, Jn, TyK.agg, *]; rfl) Nl ?_
              exact ⟨by rw [HR2.out]; rfl, rfl⟩
      · have hf : Hid (Qaj (.mk 1 n sub) = false) := by rw [show Qaj (.mk 1 n sub) = _ from HR.out, Qbj (fun h => hs (List.eq_nil_of_length_eq_zero (by have := h.2.2.1; simp [Qbn] at this; first | exact this | (rw [this]; rfl))))]; rfl
        rw [hf.out]
        clear HR hf IH
        refine PCalls.enter Tryz.func62 rfl Tryz.ntmps62 (by simp) ?_
        simp only [Qab]
        refine go_ ?_
        refine Jd ?_
        intro i0 hi0
        refine go_ ?_
        refine Jm (by simp) (by simp only [Tryz.results62]; rfl) (by simp [resP, St.box?, PF.get, Jn, TyK.agg, *]; rfl) Nl ?_
        exact ⟨rfl, rfl⟩
    · by_cases hs : sub = []
      · by_cases h0 : n < 0
        · have hf : Hid (Qaj (.mk 2 n sub) = false) := by rw [show Qaj (.mk 2 n sub) = _ from HR.out, Qbj (fun h => absurd h.2.2.2.1 (by omega))]; rfl
          rw [hf.out]
          clear HR hf IH
          refine PCalls.enter Tryz.func62 rfl Tryz.ntmps62 (by simp) ?_
          simp only [Qab]
          refine go_ ?_
          refine Jd ?_
          intro i0 hi0
          refine go_ ?_
          refine Jm (by simp) (by simp only [Tryz.results62]; rfl) (by simp [resP, St.box?, PF.get, Jn, TyK.agg, *]; rfl) Nl ?_
          exact ⟨rfl, rfl⟩
        · by_cases hm : 7 < n
          · have hf : Hid (Qaj (.mk 2 n sub) = false) := by rw [show Qaj (.mk 2 n sub) = _ from HR.out, Qbj (fun h => absurd h.2.2.2.2.1 (by simp [Qbh]; omega))]; rfl
            rw [hf.out]
            clear HR hf IH
            refine PCalls.enter Tryz.func62 rfl Tryz.ntmps62 (by simp) ?_
            simp only [Qab]
            refine go_ ?_
            refine Jd ?_
            intro i0 hi0
            refine go_ ?_
            refine Jm (by simp) (by simp only [Tryz.results62]; rfl) (by simp [resP, St.box?, PF.get, Jn, TyK.agg, *]; rfl) Nl ?_
            exact ⟨rfl, rfl⟩
          · subst hs
            have HR2 : Hid (Qaj (.mk 2 n []) = true) := by rw [show Qaj (.mk 2 n []) = _ from HR.out, Qdx ⟨by decide, by decide, rfl, by omega, by simp [Qbh]; omega, .inl (by decide)⟩]; rfl
            generalize Qaj (.mk 2 n []) = R at *
            clear HR
            refine PCalls.enter Tryz.func62 rfl Tryz.ntmps62 (by simp) ?_
            simp only [Qab]
            refine go_ ?_
            refine Jd ?_
            intro i0 hi0
            refine go_ ?_
            refine Qak (ι := Unit) (fun _ => True) (fun _ => [(3, .d (.v (.int .i64 0))), (5, .d (.v (.int .i64 0)))]) (fun _ => []) (fun _ => 0) () trivial ?_ ?_ ?_
            · repeat (first | exact Jt _ | refine Js (by simp [PF.get]; rfl) (by first | rfl | (simp [*]; done) | fail) ?_)
            · repeat (first | exact List.Sublist.refl _ | exact List.nil_sublist _ | refine List.Sublist.cons_cons _ ?_ | refine List.Sublist.cons _ ?_)
            · rintro _ _
              refine go_ ?_
              refine Jm (by simp) (by simp only [Tryz.results62]; rfl) (by simp [resP, St.box?, PF.get, Jn, TyK.agg, *]; rfl) Nl ?_
              exact ⟨by rw [HR2.out]; rfl, rfl⟩
      · have hf : Hid (Qaj (.mk 2 n sub) = false) := by rw [show Qaj (.mk 2 n sub) = _ from HR.out, Qbj (fun h => hs (List.eq_nil_of_length_eq_zero (by have := h.2.2.1; simp [Qbn] at this; first | exact this | (rw [this]; rfl))))]; rfl
        rw [hf.out]
        clear HR hf IH
        refine PCalls.enter Tryz.func62 rfl Tryz.ntmps62 (by simp) ?_
        simp only [Qab]
        refine go_ ?_
        refine Jd ?_
        intro i0 hi0
        refine go_ ?_
        refine Jm (by simp) (by simp only [Tryz.results62]; rfl) (by simp [resP, St.box?, PF.get, Jn, TyK.agg, *]; rfl) Nl ?_
        exact ⟨rfl, rfl⟩
    · by_cases hs : sub.length = 2
      · by_cases h0 : n < 0
        · have hf : Hid (Qaj (.mk 3 n sub) = false) := by rw [show Qaj (.mk 3 n sub) = _ from HR.out, Qbj (fun h => absurd h.2.2.2.1 (by omega))]; rfl
          rw [hf.out]
          clear HR hf IH
          refine PCalls.enter Tryz.func62 rfl Tryz.ntmps62 (by simp) ?_
          simp only [Qab]
          refine go_ ?_
          refine Jd ?_
          intro i0 hi0
          refine go_ ?_
          refine Jm (by simp) (by simp only [Tryz.results62]; rfl) (by simp [resP, St.box?, PF.get, Jn, TyK.agg, *]; rfl) Nl ?_
          exact ⟨rfl, rfl⟩
        · by_cases hm : 0 < n
          · have hf : Hid (Qaj (.mk 3 n sub) = false) := by rw [show Qaj (.mk 3 n sub) = _ from HR.out, Qbj (fun h => absurd h.2.2.2.2.1 (by simp [Qbh]; omega))]; rfl
            rw [hf.out]
            clear HR hf IH
            refine PCalls.enter Tryz.func62 rfl Tryz.ntmps62 (by simp) ?_
            simp only [Qab]
            refine go_ ?_
            refine Jd ?_
            intro i0 hi0
            refine go_ ?_
            refine Jm (by simp) (by simp only [Tryz.results62]; rfl) (by simp [resP, St.box?, PF.get, Jn, TyK.agg, *]; rfl) Nl ?_
            exact ⟨rfl, rfl⟩
          · have HR2 : Hid (Qaj (.mk 3 n sub) = Qbt sub) := by rw [show Qaj (.mk 3 n sub) = _ from HR.out, Qdx ⟨by decide, by decide, by rw [hs]; rfl, by omega, by simp [Qbh]; omega, .inl (by decide)⟩]; rfl
            generalize Qaj (.mk 3 n sub) = R at *
            clear HR
            refine PCalls.enter Tryz.func62 rfl Tryz.ntmps62 (by simp) ?_
            simp only [Qab]
            refine go_ ?_
            refine Jd ?_
            intro i0 hi0
            refine go_ ?_
            refine Qak (ι := Nat) (fun y => y ≤ 2 ∧ Hid (R = Qbt (List.drop y sub))) (fun y => [(1, .ptr i0 0), (3, .d (.v (.int .i64 2))), (5, .d (.v (.int .i64 (y : Int))))]) (fun _ => [.box i0 26 [.d (.v (.int .i64 3)), .d (.v (.int .i64 n)), .d (.sl (sub.map encD))]]) (fun y => 2 - y) 0 ⟨Nat.zero_le _, HR2.out⟩ ?_ ?_ ?_
            · repeat (first | exact Jt _ | refine Js (by simp [PF.get]; rfl) (by first | rfl | (simp [*]; done) | fail) ?_)
            · repeat (first | exact List.Sublist.refl _ | exact List.nil_sublist _ | refine List.Sublist.cons_cons _ ?_ | refine List.Sublist.cons _ ?_)
            · rintro j ⟨hj, hR⟩
              clear HR2
              by_cases hlt : j < 2
              · have hlt2 : j < (sub : List Tm).length := by rw [hs]; exact hlt
                have hx0 := Qal hlt2
                have hc : (j : Int) < 2 := by omega
                have hn : (0 : Int) ≤ j := by omega
                have hin := wr64 (n := (j : Int) + 1) (by omega) (by omega)
                have hR2 : Hid (R = (Qaj (sub : List Tm)[j] && Qbt (List.drop (j + 1) sub))) := by
                  rw [show R = _ from hR.out, List.drop_eq_getElem_cons hlt2]
                  show _ = _
                  simp only [Qbt]
                have hc1 := Lib.hid (IH.out _ (List.getElem_mem hlt2))
                clear hR
                generalize Qaj (sub : List Tm)[j] = b at *
                cases b with
                | false =>
                  have hf : Hid (R = false) := by rw [show R = _ from hR2.out]; rfl
                  refine go_ ?_
                  refine Jc (hc1.out) ?_
                  refine go_ ?_
                  refine Jm (by simp) (by simp only [Tryz.results62]; rfl) (by simp [resP, St.box?, PF.get, Jn, TyK.agg, *]; rfl) Nl ?_
                  exact ⟨by rw [hf.out]; rfl, rfl⟩
                | true =>
                  have hR3 : Hid (R = Qbt (List.drop (j + 1) sub)) := by rw [show R = _ from hR2.out]; rfl
                  refine go_ ?_
                  refine Jc (hc1.out) ?_
                  refine go_ ?_
                  exact ⟨j + 1, ⟨hlt, hR3⟩, by omega, by repeat (first | exact Jt _ | refine Js (by simp [PF.get]; rfl) (by first | rfl | (simp [*]; done) | fail) ?_), by repeat (first | exact List.Sublist.refl _ | exact List.nil_sublist _ | refine List.Sublist.cons_cons _ ?_ | refine List.Sublist.cons _ ?_)⟩
              · have hc : ¬ (j : Int) < 2 := by omega
                have hf : Hid (R = true) := by rw [show R = _ from hR.out, List.drop_of_length_le (by rw [hs]; omega)]; rfl
                refine go_ ?_
                refine Jm (by simp) (by simp only [Tryz.results62]; rfl) (by simp [resP, St.box?, PF.get, Jn, TyK.agg, *]; rfl) Nl ?_
                exact ⟨by rw [hf.out]; rfl, rfl⟩
      · have hf : Hid (Qaj (.mk 3 n sub) = false) := by rw [show Qaj (.mk 3 n sub) = _ from HR.out, Qbj (fun h => hs (by have := h.2.2.1; simp [Qbn] at this; omega))]; rfl
        have hs2 : ¬ (sub.length : Int) = 2 := by omega
        rw [hf.out]
        clear HR hf IH
        refine PCalls.enter Tryz.func62 rfl Tryz.ntmps62 (by simp) ?_
        simp only [Qab]
        refine go_ ?_
        refine Jd ?_
        intro i0 hi0
        refine go_ ?_
        refine Jm (by simp) (by simp only [Tryz.results62]; rfl) (by simp [resP, St.box?, PF.get, Jn, TyK.agg, *]; rfl) Nl ?_
        exact ⟨rfl, rfl⟩
    · by_cases hs : sub.length = 2
      · by_cases h0 : n < 0
        · have hf : Hid (Qaj (.mk 4 n sub) = false) := by rw [show Qaj (.mk 4 n sub) = _ from HR.out, Qbj (fun h => absurd h.2.2.2.1 (by omega))]; rfl
          rw [hf.out]
          clear HR hf IH
          refine PCalls.enter Tryz.func62 rfl Tryz.ntmps62 (by simp) ?_
          simp only [Qab]
          refine go_ ?_
          refine Jd ?_
          intro i0 hi0
          refine go_ ?_
          refine Jm (by simp) (by simp only [Tryz.results62]; rfl) (by simp [resP, St.box?, PF.get, Jn, TyK.agg, *]; rfl) Nl ?_
          exact ⟨rfl, rfl⟩
        · by_cases hm : 0 < n
          · have hf : Hid (Qaj (.mk 4 n sub) = false) := by rw [show Qaj (.mk 4 n sub) = _ from HR.out, Qbj (fun h => absurd h.2.2.2.2.1 (by simp [Qbh]; omega))]; rfl
            rw [hf.out]
            clear HR hf IH
            refine PCalls.enter Tryz.func62 rfl Tryz.ntmps62 (by simp) ?_
            simp only [Qab]
            refine go_ ?_
            refine Jd ?_
            intro i0 hi0
            refine go_ ?_
            refine Jm (by simp) (by simp only [Tryz.results62]; rfl) (by simp [resP, St.box?, PF.get, Jn, TyK.agg, *]; rfl) Nl ?_
            exact ⟨rfl, rfl⟩
          · have HR2 : Hid (Qaj (.mk 4 n sub) = Qbt sub) := by rw [show Qaj (.mk 4 n sub) = _ from HR.out, Qdx ⟨by decide, by decide, by rw [hs]; rfl, by omega, by simp [Qbh]; omega, .inl (by decide)⟩]; rfl
            generalize Qaj (.mk 4 n sub) = R at *
            clear HR
            refine PCalls.enter Tryz.func62 rfl Tryz.ntmps62 (by simp) ?_
            simp only [Qab]
            refine go_ ?_
            refine Jd ?_
            intro i0 hi0
            refine go_ ?_
            refine Qak (ι := Nat) (fun y => y ≤ 2 ∧ Hid (R = Qbt (List.drop y sub))) (fun y => [(1, .ptr i0 0), (3, .d (.v (.int .i64 2))), (5, .d (.v (.int .i64 (y : Int))))]) (fun _ => [.box i0 26 [.d (.v (.int .i64 4)), .d (.v (.int .i64 n)), .d (.sl (sub.map encD))]]) (fun y => 2 - y) 0 ⟨Nat.zero_le _, HR2.out⟩ ?_ ?_ ?_
            · repeat (first | exact Jt _ | refine Js (by simp [PF.get]; rfl) (by first | rfl | (simp [*]; done) | fail) ?_)
            · repeat (first | exact List.Sublist.refl _ | exact List.nil_sublist _ | refine List.Sublist.cons_cons _ ?_ | refine List.Sublist.cons _ ?_)
            · rintro j ⟨hj, hR⟩
              clear HR2
              by_cases hlt : j < 2
              · have hlt2 : j < (sub : List Tm).length := by rw [hs]; exact hlt
                have hx0 := Qal hlt2
                have hc : (j : Int) < 2 := by omega
                have hn : (0 : Int) ≤ j := by omega
                have hin := wr64 (n := (j : Int) + 1) (by omega) (by omega)
                have hR2 : Hid (R = (Qaj (sub : List Tm)[j] && Qbt (List.drop (j + 1) sub))) := by
                  rw [show R = _ from hR.out, List.drop_eq_getElem_cons hlt2]
                  show _ = _
                  simp only [Qbt]
                have hc1 := Lib.hid (IH.out _ (List.getElem_mem hlt2))
                clear hR
                generalize Qaj (sub : List Tm)[j] = b at *
                cases b with
                | false =>
                  have hf : Hid (R = false) := by rw [show R = _ from hR2.out]; rfl
                  refine go_ ?_
                  refine Jc (hc1.out) ?_
                  refine go_ ?_
                  refine Jm (by simp) (by simp only [Tryz.results62]; rfl) (by simp [resP, St.box?, PF.get, Jn, TyK.agg, *]; rfl) Nl ?_
                  exact ⟨by rw [hf.out]; rfl, rfl⟩
                | true =>
                  have hR3 : Hid (R = Qbt (List.drop (j + 1) sub)) := by rw [show R = _ from hR2.out]; rfl
                  refine go_ ?_
                  refine Jc (hc1.out) ?_
                  refine go_ ?_
                  exact ⟨j + 1, ⟨hlt, hR3⟩, by omega, by repeat (first | exact Jt _ | refine Js (by simp [PF.get]; rfl) (by first | rfl | (simp [*]; done) | fail) ?_), by repeat (first | exact List.Sublist.refl _ | exact List.nil_sublist _ | refine List.Sublist.cons_cons _ ?_ | refine List.Sublist.cons _ ?_)⟩
              · have hc : ¬ (j : Int) < 2 := by omega
                have hf : Hid (R = true) := by rw [show R = _ from hR.out, List.drop_of_length_le (by rw [hs]; omega)]; rfl
                refine go_ ?_
                refine Jm (by simp) (by simp only [Tryz.results62]; rfl) (by simp [resP, St.box?, PF.get, Jn, TyK.agg, *]; rfl) Nl ?_
                exact ⟨by rw [hf.out]; rfl, rfl⟩
      · have hf : Hid (Qaj (.mk 4 n sub) = false) := by rw [show Qaj (.mk 4 n sub) = _ from HR.out, Qbj (fun h => hs (by have := h.2.2.1; simp [Qbn] at this; omega))]; rfl
        have hs2 : ¬ (sub.length : Int) = 2 := by omega
        rw [hf.out]
        clear HR hf IH
        refine PCalls.enter Tryz.func62 rfl Tryz.ntmps62 (by simp) ?_
        simp only [Qab]
        refine go_ ?_
        refine Jd ?_
        intro i0 hi0
        refine go_ ?_
        refine Jm (by simp) (by simp only [Tryz.results62]; rfl) (by simp [resP, St.box?, PF.get, Jn, TyK.agg, *]; rfl) Nl ?_
        exact ⟨rfl, rfl⟩
    · by_cases hs : sub.length = 2
      · by_cases h0 : n < 0
        · have hf : Hid (Qaj (.mk 5 n sub) = false) := by rw [show Qaj (.mk 5 n sub) = _ from HR.out, Qbj (fun h => absurd h.2.2.2.1 (by omega))]; rfl
          rw [hf.out]
          clear HR hf IH
          refine PCalls.enter Tryz.func62 rfl Tryz.ntmps62 (by simp) ?_
          simp only [Qab]
          refine go_ ?_
          refine Jd ?_
          intro i0 hi0
          refine go_ ?_
          refine Jm (by simp) (by simp only [Tryz.results62]; rfl) (by simp [resP, St.box?, PF.get, Jn, TyK.agg, *]; rfl) Nl ?_
          exact ⟨rfl, rfl⟩
        · by_cases hm : 0 < n
          · have hf : Hid (Qaj (.mk 5 n sub) = false) := by rw [show Qaj (.mk 5 n sub) = _ from HR.out, Qbj (fun h => absurd h.2.2.2.2.1 (by simp [Qbh]; omega))]; rfl
            rw [hf.out]
            clear HR hf IH
            refine PCalls.enter Tryz.func62 rfl Tryz.ntmps62 (by simp) ?_
            simp only [Qab]
            refine go_ ?_
            refine Jd ?_
            intro i0 hi0
            refine go_ ?_
            refine Jm (by simp) (by simp only [Tryz.results62]; rfl) (by simp [resP, St.box?, PF.get, Jn, TyK.agg, *]; rfl) Nl ?_
            exact ⟨rfl, rfl⟩
          · have HR2 : Hid (Qaj (.mk 5 n sub) = Qbt sub) := by rw [show Qaj (.mk 5 n sub) = _ from HR.out, Qdx ⟨by decide, by decide, by rw [hs]; rfl, by omega, by simp [Qbh]; omega, .inl (by decide)⟩]; rfl
            generalize Qaj (.mk 5 n sub) = R at *
            clear HR
            refine PCalls.enter Tryz.func62 rfl Tryz.ntmps62 (by simp) ?_
            simp only [Qab]
            refine go_ ?_
            refine Jd ?_
            intro i0 hi0
            refine go_ ?_
            refine Qak (ι := Nat) (fun y => y ≤ 2 ∧ Hid (R = Qbt (List.drop y sub))) (fun y => [(1, .ptr i0 0), (3, .d (.v (.int .i64 2))), (5, .d (.v (.int .i64 (y : Int))))]) (fun _ => [.box i0 26 [.d (.v (.int .i64 5)), .d (.v (.int .i64 n)), .d (.sl (sub.map encD))]]) (fun y => 2 - y) 0 ⟨Nat.zero_le _, HR2.out⟩ ?_ ?_ ?_
            · repeat (first | exact Jt _ | refine Js (by simp [PF.get]; rfl) (by first | rfl | (simp [*]; done) | fail) ?_)
            · repeat (first | exact List.Sublist.refl _ | exact List.nil_sublist _ | refine List.Sublist.cons_cons _ ?_ | refine List.Sublist.cons _ ?_)
            · rintro j ⟨hj, hR⟩
              clear HR2
              by_cases hlt : j < 2
              · have hlt2 : j < (sub : List Tm).length := by rw [hs]; exact hlt
                have hx0 := Qal hlt2
                have hc : (j : Int) < 2 := by omega
                have hn : (0 : Int) ≤ j := by omega
                have hin := wr64 (n := (j : Int) + 1) (by omega) (by omega)
                have hR2 : Hid (R = (Qaj (sub : List Tm)[j] && Qbt (List.drop (j + 1) sub))) := by
                  rw [show R = _ from hR.out, List.drop_eq_getElem_cons hlt2]
                  show _ = _
                  simp only [Qbt]
                have hc1 := Lib.hid (IH.out _ (List.getElem_mem hlt2))
                clear hR
                generalize Qaj (sub : List Tm)[j] = b at *
                cases b with
                | false =>
                  have hf : Hid (R = false) := by rw [show R = _ from hR2.out]; rfl
                  refine go_ ?_
                  refine Jc (hc1.out) ?_
                  refine go_ ?_
                  refine Jm (by simp) (by simp only [Tryz.results62]; rfl) (by simp [resP, St.box?, PF.get, Jn, TyK.agg, *]; rfl) Nl ?_
                  exact ⟨by rw [hf.out]; rfl, rfl⟩
                | true =>
                  have hR3 : Hid (R = Qbt (List.drop (j + 1) sub)) := by rw [show R = _ from hR2.out]; rfl
                  refine go_ ?_
                  refine Jc (hc1.out) ?_
                  refine go_ ?_
                  exact ⟨j + 1, ⟨hlt, hR3⟩, by omega, by repeat (first | exact Jt _ | refine Js (by simp [PF.get]; rfl) (by first | rfl | (simp [*]; done) | fail) ?_), by repeat (first | exact List.Sublist.refl _ | exact List.nil_sublist _ | refine List.Sublist.cons_cons _ ?_ | refine List.Sublist.cons _ ?_)⟩
              · have hc : ¬ (j : Int) < 2 := by omega
                have hf : Hid (R = true) := by rw [show R = _ from hR.out, List.drop_of_length_le (by rw [hs]; omega)]; rfl
                refine go_ ?_
                refine Jm (by simp) (by simp only [Tryz.results62]; rfl) (by simp [resP, St.box?, PF.get, Jn, TyK.agg, *]; rfl) Nl ?_
                exact ⟨by rw [hf.out]; rfl, rfl⟩
      · have hf : Hid (Qaj (.mk 5 n sub) = false) := by rw [show Qaj (.mk 5 n sub) = _ from HR.out, Qbj (fun h => hs (by have := h.2.2.1; simp [Qbn] at this; omega))]; rfl
        have hs2 : ¬ (sub.length : Int) = 2 := by omega
        rw [hf.out]
        clear HR hf IH
        refine PCalls.enter Tryz.func62 rfl Tryz.ntmps62 (by simp) ?_
        simp only [Qab]
        refine go_ ?_
        refine Jd ?_
        intro i0 hi0
        refine go_ ?_
        refine Jm (by simp) (by simp only [Tryz.results62]; rfl) (by simp [resP, St.box?, PF.get, Jn, TyK.agg, *]; rfl) Nl ?_
        exact ⟨rfl, rfl⟩
    · by_cases hs : sub = []
      · by_cases h0 : n < 0
        · have hf : Hid (Qaj (.mk 6 n sub) = false) := by rw [show Qaj (.mk 6 n sub) = _ from HR.out, Qbj (fun h => absurd h.2.2.2.1 (by omega))]; rfl
          rw [hf.out]
          clear HR hf IH
          refine PCalls.enter Tryz.func62 rfl Tryz.ntmps62 (by simp) ?_
          simp only [Qab]
          refine go_ ?_
          refine Jd ?_
          intro i0 hi0
          refine go_ ?_
          refine Jm (by simp) (by simp only [Tryz.results62]; rfl) (by simp [resP, St.box?, PF.get, Jn, TyK.agg, *]; rfl) Nl ?_
          exact ⟨rfl, rfl⟩
        · by_cases hm : 1048576 < n
          · have hf : Hid (Qaj (.mk 6 n sub) = false) := by rw [show Qaj (.mk 6 n sub) = _ from HR.out, Qbj (fun h => absurd h.2.2.2.2.1 (by simp [Qbh]; omega))]; rfl
            rw [hf.out]
            clear HR hf IH
            refine PCalls.enter Tryz.func62 rfl Tryz.ntmps62 (by simp) ?_
            simp only [Qab]
            refine go_ ?_
            refine Jd ?_
            intro i0 hi0
            refine go_ ?_
            refine Jm (by simp) (by simp only [Tryz.results62]; rfl) (by simp [resP, St.box?, PF.get, Jn, TyK.agg, *]; rfl) Nl ?_
            exact ⟨rfl, rfl⟩
          · subst hs
            have HR2 : Hid (Qaj (.mk 6 n []) = true) := by rw [show Qaj (.mk 6 n []) = _ from HR.out, Qdx ⟨by decide, by decide, rfl, by omega, by simp [Qbh]; omega, .inl (by decide)⟩]; rfl
            generalize Qaj (.mk 6 n []) = R at *
            clear HR
            refine PCalls.enter Tryz.func62 rfl Tryz.ntmps62 (by simp) ?_
            simp only [Qab]
            refine go_ ?_
            refine Jd ?_
            intro i0 hi0
            refine go_ ?_
            refine Qak (ι := Unit) (fun _ => True) (fun _ => [(3, .d (.v (.int .i64 0))), (5, .d (.v (.int .i64 0)))]) (fun _ => []) (fun _ => 0) () trivial ?_ ?_ ?_
            · repeat (first | exact Jt _ | refine Js (by simp [PF.get]; rfl) (by first | rfl | (simp [*]; done) | fail) ?_)
            · repeat (first | exact List.Sublist.refl _ | exact List.nil_sublist _ | refine List.Sublist.cons_cons _ ?_ | refine List.Sublist.cons _ ?_)
            · rintro _ _
              refine go_ ?_
              refine Jm (by simp) (by simp only [Tryz.results62]; rfl) (by simp [resP, St.box?, PF.get, Jn, TyK.agg, *]; rfl) Nl ?_
              exact ⟨by rw [HR2.out]; rfl, rfl⟩
      · have hf : Hid (Qaj (.mk 6 n sub) = false) := by rw [show Qaj (.mk 6 n sub) = _ from HR.out, Qbj (fun h => hs (List.eq_nil_of_length_eq_zero (by have := h.2.2.1; simp [Qbn] at this; first | exact this | (rw [this]; rfl))))]; rfl
        rw [hf.out]
        clear HR hf IH
        refine PCalls.enter Tryz.func62 rfl Tryz.ntmps62 (by simp) ?_
        simp only [Qab]
        refine go_ ?_
        refine Jd ?_
        intro i0 hi0
        refine go_ ?_
        refine Jm (by simp) (by simp only [Tryz.results62]; rfl) (by simp [resP, St.box?, PF.get, Jn, TyK.agg, *]; rfl) Nl ?_
        exact ⟨rfl, rfl⟩
    · by_cases hs : sub.length = 1
      · by_cases h0 : n < 0
        · have hf : Hid (Qaj (.mk 7 n sub) = false) := by rw [show Qaj (.mk 7 n sub) = _ from HR.out, Qbj (fun h => absurd h.2.2.2.1 (by omega))]; rfl
          rw [hf.out]
          clear HR hf IH
          refine PCalls.enter Tryz.func62 rfl Tryz.ntmps62 (by simp) ?_
          simp only [Qab]
          refine go_ ?_
          refine Jd ?_
          intro i0 hi0
          refine go_ ?_
          refine Jm (by simp) (by simp only [Tryz.results62]; rfl) (by simp [resP, St.box?, PF.get, Jn, TyK.agg, *]; rfl) Nl ?_
          exact ⟨rfl, rfl⟩
        · by_cases hm : 1048576 < n
          · have hf : Hid (Qaj (.mk 7 n sub) = false) := by rw [show Qaj (.mk 7 n sub) = _ from HR.out, Qbj (fun h => absurd h.2.2.2.2.1 (by simp [Qbh]; omega))]; rfl
            rw [hf.out]
            clear HR hf IH
            refine PCalls.enter Tryz.func62 rfl Tryz.ntmps62 (by simp) ?_
            simp only [Qab]
            refine go_ ?_
            refine Jd ?_
            intro i0 hi0
            refine go_ ?_
            refine Jm (by simp) (by simp only [Tryz.results62]; rfl) (by simp [resP, St.box?, PF.get, Jn, TyK.agg, *]; rfl) Nl ?_
            exact ⟨rfl, rfl⟩
          · match sub, hs with
            | [x], _ =>
            by_cases hx : x.kind = 2
            rotate_left
            · have hf : Hid (Qaj (.mk 7 n [x]) = false) := by rw [show Qaj (.mk 7 n [x]) = _ from HR.out, Qbj (k := 7) (n := n) (sub := [x]) (fun h => hx (h.2.2.2.2.2.resolve_left (fun h => h rfl)))]; rfl
              rw [hf.out]
              clear HR hf IH
              refine PCalls.enter Tryz.func62 rfl Tryz.ntmps62 (by simp) ?_
              simp only [Qab]
              refine go_ ?_
              refine Jd ?_
              intro i0 hi0
              refine go_ ?_
              refine Jm (by simp) (by simp only [Tryz.results62]; rfl) (by simp [resP, St.box?, PF.get, Jn, TyK.agg, *]; rfl) Nl ?_
              exact ⟨rfl, rfl⟩
            · have HR2 : Hid (Qaj (.mk 7 n [x]) = Qbt [x]) := by rw [show Qaj (.mk 7 n [x]) = _ from HR.out, Qdx (k := 7) (n := n) (sub := [x]) ⟨by decide, by decide, rfl, by omega, by simp [Qbh]; omega, .inr hx⟩]; rfl
              have hx2 : (x.kind != 2) = false := by rw [hx]; rfl
              clear hx
              generalize Qaj (.mk 7 n [x]) = R at *
              clear HR
              refine PCalls.enter Tryz.func62 rfl Tryz.ntmps62 (by simp) ?_
              simp only [Qab]
              refine go_ ?_
              refine Jd ?_
              intro i0 hi0
              refine go_ ?_
              refine Qak (ι := Nat) (fun y => y ≤ 1 ∧ Hid (R = Qbt (List.drop y [x]))) (fun y => [(1, .ptr i0 0), (3, .d (.v (.int .i64 1))), (5, .d (.v (.int .i64 (y : Int))))]) (fun _ => [.box i0 26 [.d (.v (.int .i64 7)), .d (.v (.int .i64 n)), .d (.sl ([[.v (.int .i64 x.kind), .v (.int .i64 x.num), .sl (x.sub.map encD)]]))]]) (fun y => 1 - y) 0 ⟨Nat.zero_le _, HR2.out⟩ ?_ ?_ ?_
              · repeat (first | exact Jt _ | refine Js (by simp [PF.get]; rfl) (by first | rfl | (simp [*]; done) | fail) ?_)
              · repeat (first | exact List.Sublist.refl _ | exact List.nil_sublist _ | refine List.Sublist.cons_cons _ ?_ | refine List.Sublist.cons _ ?_)
              · rintro j ⟨hj, hR⟩
                clear HR2
                by_cases hlt : j < 1
                · obtain rfl : j = 0 := by omega
                  have hR2 : Hid (R = (Qaj x && Qbt [])) := by rw [show R = _ from hR.out]; rfl
                  have hc1 := Lib.hid (IH.out x (by simp))
                  clear hR
                  generalize Qaj x = b at *
                  cases b with
                  | false =>
                    have hf : Hid (R = false) := by rw [show R = _ from hR2.out]; rfl
                    refine go_ ?_
                    refine Jc (hc1.out) ?_
                    refine go_ ?_
                    refine Jm (by simp) (by simp only [Tryz.results62]; rfl) (by simp [resP, St.box?, PF.get, Jn, TyK.agg, *]; rfl) Nl ?_
                    exact ⟨by rw [hf.out]; rfl, rfl⟩
                  | true =>
                    have hR3 : Hid (R = Qbt (List.drop (0 + 1) [x])) := by rw [show R = _ from hR2.out]; rfl
                    refine go_ ?_
                    refine Jc (hc1.out) ?_
                    refine go_ ?_
                    exact ⟨0 + 1, ⟨by omega, hR3⟩, by omega, by repeat (first | exact Jt _ | refine Js (by simp [PF.get]; rfl) (by first | rfl | (simp [*]; done) | fail) ?_), by repeat (first | exact List.Sublist.refl _ | exact List.nil_sublist _ | refine List.Sublist.cons_cons _ ?_ | refine List.Sublist.cons _ ?_)⟩
                · have hc : ¬ (j : Int) < 1 := by omega
                  have hf : Hid (R = true) := by rw [show R = _ from hR.out, List.drop_of_length_le (by simp; omega)]; rfl
                  refine go_ ?_
                  refine Jm (by simp) (by simp only [Tryz.results62]; rfl) (by simp [resP, St.box?, PF.get, Jn, TyK.agg, *]; rfl) Nl ?_
                  exact ⟨by rw [hf.out]; rfl, rfl⟩
      · have hf : Hid (Qaj (.mk 7 n sub) = false) := by rw [show Qaj (.mk 7 n sub) = _ from HR.out, Qbj (fun h => hs (by have := h.2.2.1; simp [Qbn] at this; omega))]; rfl
        have hs2 : ¬ (sub.length : Int) = 1 := by omega
        rw [hf.out]
        clear HR hf IH
        refine PCalls.enter Tryz.func62 rfl Tryz.ntmps62 (by simp) ?_
        simp only [Qab]
        refine go_ ?_
        refine Jd ?_
        intro i0 hi0
        refine go_ ?_
        refine Jm (by simp) (by simp only [Tryz.results62]; rfl) (by simp [resP, St.box?, PF.get, Jn, TyK.agg, *]; rfl) Nl ?_
        exact ⟨rfl, rfl⟩
    · by_cases hs : sub = []
      · by_cases h0 : n < 0
        · have hf : Hid (Qaj (.mk 8 n sub) = false) := by rw [show Qaj (.mk 8 n sub) = _ from HR.out, Qbj (fun h => absurd h.2.2.2.1 (by omega))]; rfl
          rw [hf.out]
          clear HR hf IH
          refine PCalls.enter Tryz.func62 rfl Tryz.ntmps62 (by simp) ?_
          simp only [Qab]
          refine go_ ?_
          refine Jd ?_
          intro i0 hi0
          refine go_ ?_
          refine Jm (by simp) (by simp only [Tryz.results62]; rfl) (by simp [resP, St.box?, PF.get, Jn, TyK.agg, *]; rfl) Nl ?_
          exact ⟨rfl, rfl⟩
        · by_cases hm : 1048576 < n
          · have hf : Hid (Qaj (.mk 8 n sub) = false) := by rw [show Qaj (.mk 8 n sub) = _ from HR.out, Qbj (fun h => absurd h.2.2.2.2.1 (by simp [Qbh]; omega))]; rfl
            rw [hf.out]
            clear HR hf IH
            refine PCalls.enter Tryz.func62 rfl Tryz.ntmps62 (by simp) ?_
            simp only [Qab]
            refine go_ ?_
            refine Jd ?_
            intro i0 hi0
            refine go_ ?_
            refine Jm (by simp) (by simp only [Tryz.results62]; rfl) (by simp [resP, St.box?, PF.get, Jn, TyK.agg, *]; rfl) Nl ?_
            exact ⟨rfl, rfl⟩
          · subst hs
            have HR2 : Hid (Qaj (.mk 8 n []) = true) := by rw [show Qaj (.mk 8 n []) = _ from HR.out, Qdx ⟨by decide, by decide, rfl, by omega, by simp [Qbh]; omega, .inl (by decide)⟩]; rfl
            generalize Qaj (.mk 8 n []) = R at *
            clear HR
            refine PCalls.enter Tryz.func62 rfl Tryz.ntmps62 (by simp) ?_
            simp only [Qab]
            refine go_ ?_
            refine Jd ?_
            intro i0 hi0
            refine go_ ?_
            refine Qak (ι := Unit) (fun _ => True) (fun _ => [(3, .d (.v (.int .i64 0))), (5, .d (.v (.int .i64 0)))]) (fun _ => []) (fun _ => 0) () trivial ?_ ?_ ?_
            · repeat (first | exact Jt _ | refine Js (by simp [PF.get]; rfl) (by first | rfl | (simp [*]; done) | fail) ?_)
            · repeat (first | exact List.Sublist.refl _ | exact List.nil_sublist _ | refine List.Sublist.cons_cons _ ?_ | refine List.Sublist.cons _ ?_)
            · rintro _ _
              refine go_ ?_
              refine Jm (by simp) (by simp only [Tryz.results62]; rfl) (by simp [resP, St.box?, PF.get, Jn, TyK.agg, *]; rfl) Nl ?_
              exact ⟨by rw [HR2.out]; rfl, rfl⟩
      · have hf : Hid (Qaj (.mk 8 n sub) = false) := by rw [show Qaj (.mk 8 n sub) = _ from HR.out, Qbj (fun h => hs (List.eq_nil_of_length_eq_zero (by have := h.2.2.1; simp [Qbn] at this; first | exact this | (rw [this]; rfl))))]; rfl
        rw [hf.out]
        clear HR hf IH
        refine PCalls.enter Tryz.func62 rfl Tryz.ntmps62 (by simp) ?_
        simp only [Qab]
        refine go_ ?_
        refine Jd ?_
        intro i0 hi0
        refine go_ ?_
        refine Jm (by simp) (by simp only [Tryz.results62]; rfl) (by simp [resP, St.box?, PF.get, Jn, TyK.agg, *]; rfl) Nl ?_
        exact ⟨rfl, rfl⟩
theorem Qgx (t : Tm) : PCalls Tryz.prog 15 [aggD t] [] fun p s => p = .d (.v (.bool (Qai t))) ∧ s = [] := by
 have hD := Lib.hid (rDepth_p t)
 have hG := Lib.hid (rgood_p t)
 have HR := Lib.hid (show Qai t = (decide (Qct t ≤ 128) && Qaj t) from rfl)
 generalize Qct t = z at *
 generalize Qaj t = g at *
 simp only [aggD, Jl, List.map_cons, List.map_nil]
 by_cases hz : z ≤ 128
 ·rw [HR.out]
  refine PCalls.enter Tryz.func15 rfl Tryz.ntmps15 (by simp) ?_
  simp only [Qab]
  refine go_ ?_
  refine Jd ?_
  intro i0 hi0
  refine go_ ?_
  refine Jc (hD.out) ?_
  refine go_ ?_
  refine Jc (hG.out) ?_
  refine go_ ?_
  refine Jm (by simp) (by simp only [Tryz.results15]; rfl) (by simp [resP, St.box?, PF.get, Jn, TyK.agg, *]; rfl) Nl ?_
  exact ⟨by simp [hz] <;> rfl, rfl⟩
 ·rw [HR.out]
  refine PCalls.enter Tryz.func15 rfl Tryz.ntmps15 (by simp) ?_
  simp only [Qab]
  refine go_ ?_
  refine Jd ?_
  intro i0 hi0
  refine go_ ?_
  refine Jc (hD.out) ?_
  refine go_ ?_
  refine Jm (by simp) (by simp only [Tryz.results15]; rfl) (by simp [resP, St.box?, PF.get, Jn, TyK.agg, *]; rfl) Nl ?_
  exact ⟨by simp [hz] <;> rfl, rfl⟩
theorem tunder_p (t : Tm) (i : Int) : PCalls Tryz.prog 212 [aggD t, .d (.v (.int .i64 i))] [] fun p s => p = .d (.v (.int .i64 (undB t.kind i))) ∧ s = [] := by
 have HR := Lib.hid (show undB t.kind i = if i = 1 ∧ (t.kind = 3 ∨ t.kind = 4) then 1 else 0 from rfl)
 simp only [aggD, Jl, List.map_cons, List.map_nil]
 by_cases h1 : i = 1
 ·by_cases h3 : t.kind = 3
  ·have hf : Hid (undB t.kind i = 1) := by rw [show undB t.kind i = _ from HR.out, if_pos ⟨h1, .inl h3⟩]; rfl
   rw [hf.out]
   clear HR hf
   subst h1
   refine PCalls.enter Tryz.func212 rfl Tryz.ntmps212 (by simp) ?_
   simp only [Qab]
   refine go_ ?_
   refine Jd ?_
   intro i0 hi0
   refine go_ ?_
   refine Jm (by simp) (by simp only [Tryz.results212]; rfl) (by simp [resP, St.box?, PF.get, Jn, TyK.agg, *]; rfl) Nl ?_
   exact ⟨rfl, rfl⟩
  ·by_cases h4 : t.kind = 4
   ·have hf : Hid (undB t.kind i = 1) := by rw [show undB t.kind i = _ from HR.out, if_pos ⟨h1, .inr h4⟩]; rfl
    rw [hf.out]
    clear HR hf h3
    subst h1
    refine PCalls.enter Tryz.func212 rfl Tryz.ntmps212 (by simp) ?_
    simp only [Qab]
    refine go_ ?_
    refine Jd ?_
    intro i0 hi0
    refine go_ ?_
    refine Jm (by simp) (by simp only [Tryz.results212]; rfl) (by simp [resP, St.box?, PF.get, Jn, TyK.agg, *]; rfl) Nl ?_
    exact ⟨rfl, rfl⟩
   ·have hf : Hid (undB t.kind i = 0) := by rw [show undB t.kind i = _ from HR.out, if_neg (fun h => h.2.elim h3 h4)]; rfl
    rw [hf.out]
    clear HR hf
    subst h1
    refine PCalls.enter Tryz.func212 rfl Tryz.ntmps212 (by simp) ?_
    simp only [Qab]
    refine go_ ?_
    refine Jd ?_
    intro i0 hi0
    refine go_ ?_
    refine Jm (by simp) (by simp only [Tryz.results212]; rfl) (by simp [resP, St.box?, PF.get, Jn, TyK.agg, *]; rfl) Nl ?_
    exact ⟨rfl, rfl⟩
 ·have hf : Hid (undB t.kind i = 0) := by rw [show undB t.kind i = _ from HR.out, if_neg (fun h => h1 h.1)]; rfl
  rw [hf.out]
  clear HR hf
  refine PCalls.enter Tryz.func212 rfl Tryz.ntmps212 (by simp) ?_
  simp only [Qab]
  refine go_ ?_
  refine Jd ?_
  intro i0 hi0
  refine go_ ?_
  refine Jm (by simp) (by simp only [Tryz.results212]; rfl) (by simp [resP, St.box?, PF.get, Jn, TyK.agg, *]; rfl) Nl ?_
  exact ⟨rfl, rfl⟩
def benB (k i : Int) : Int := if i = 1 ∧ k ≠ 5 then 1 else 0
theorem rbeneath_p (t : Tm) (i : Int) : PCalls Tryz.prog 186 [aggD t, .d (.v (.int .i64 i))] [] fun p s => p = .d (.v (.int .i64 (benB t.kind i))) ∧ s = [] := by
 have HR := Lib.hid (show benB t.kind i = if i = 1 ∧ t.kind ≠ 5 then 1 else 0 from rfl)
 simp only [aggD, Jl, List.map_cons, List.map_nil]
 by_cases h1 : i = 1
 ·by_cases h3 : t.kind = 5
  ·have hf : Hid (benB t.kind i = 0) := by rw [show benB t.kind i = _ from HR.out, if_neg (fun h => h.2 h3)]; rfl
   rw [hf.out]
   clear HR hf
   subst h1
   refine PCalls.enter Tryz.func186 rfl Tryz.ntmps186 (by simp) ?_
   simp only [Qab]
   refine go_ ?_
   refine Jd ?_
   intro i0 hi0
   refine go_ ?_
   refine Jm (by simp) (by simp only [Tryz.results186]; rfl) (by simp [resP, St.box?, PF.get, Jn, TyK.agg, *]; rfl) Nl ?_
   exact ⟨rfl, rfl⟩
  ·have hf : Hid (benB t.kind i = 1) := by rw [show benB t.kind i = _ from HR.out, if_pos ⟨h1, h3⟩]; rfl
   rw [hf.out]
   clear HR hf
   subst h1
   refine PCalls.enter Tryz.func186 rfl Tryz.ntmps186 (by simp) ?_
   simp only [Qab]
   refine go_ ?_
   refine Jd ?_
   intro i0 hi0
   refine go_ ?_
   refine Jm (by simp) (by simp only [Tryz.results186]; rfl) (by simp [resP, St.box?, PF.get, Jn, TyK.agg, *]; rfl) Nl ?_
   exact ⟨rfl, rfl⟩
 ·have hf : Hid (benB t.kind i = 0) := by rw [show benB t.kind i = _ from HR.out, if_neg (fun h => h1 h.1)]; rfl
  rw [hf.out]
  clear HR hf
  refine PCalls.enter Tryz.func186 rfl Tryz.ntmps186 (by simp) ?_
  simp only [Qab]
  refine go_ ?_
  refine Jd ?_
  intro i0 hi0
  refine go_ ?_
  refine Jm (by simp) (by simp only [Tryz.results186]; rfl) (by simp [resP, St.box?, PF.get, Jn, TyK.agg, *]; rfl) Nl ?_
  exact ⟨rfl, rfl⟩
theorem ben_und {k n : Int} {sub : List Tm} (h : Qaj (.mk k n sub) = true) (j : Nat) (hj : j < sub.length) : benB k (j : Int) = undB k (j : Int) := by
 have h1 := Qhk (Qcs h).1
 have hs : (sub.length : Int) = Qbn k := h1.2.2.2.2
 unfold benB undB
 by_cases e : (j : Int) = 1
 ·have : k = 3 ∨ k = 4 ∨ k = 5 := by
   unfold Qbn at hs
   split at hs
   ·assumption
   ·split at hs <;> omega
  rcases this with rfl | rfl | rfl <;> simp [e]
 ·rw [if_neg (fun h => e h.1), if_neg (fun h => e h.1)]
theorem ls_var {n b : Int} {sub : List Tm} : lsT (.mk 1 n sub) b = max 0 (n + 1 - b) := by simp only [lsT]; rfl
theorem ls_not {k n b : Int} {sub : List Tm} (h : ¬ k = 1) : lsT (.mk k n sub) b = lsL k sub 0 b 0 := by simp only [lsT]; rw [if_neg h]
theorem max_if2 (a b : Int) : (if a < b then b else a) = max a b := (cmax_if a b).symm
theorem good_1 {n : Int} {sub : List Tm} (h : Qaj (.mk 1 n sub) = true) : sub = [] := by
 have h1 := Qhk (Qcs h).1
 have hs : (sub.length : Int) = Qbn 1 := h1.2.2.2.2
 exact List.eq_nil_of_length_eq_zero (by simpa [Qbn] using hs)
theorem tloose_p : ∀ (t : Tm) (b : Int), Qaj t = true → 0 ≤ b → b + chgT t ≤ 1000 → PCalls Tryz.prog 164 [aggD t, .d (.v (.int .i64 b))] [] fun p s => p = .d (.v (.int .i64 (lsT t b))) ∧ s = [] := by
 refine Tm.ind ?_
 intro k n sub ih b hg h0 h1
 have hnum := Qhk (Qcs hg).1
 simp only [aggD, Jl, List.map_cons, List.map_nil, Tm.kind_mk, Tm.num_mk, Tm.sub_mk]
 by_cases hk : k = 1
 ·subst hk
  rw [ls_var]
  have hw1 := wr64 (n := n + 1) (by omega) (by omega)
  have hw2 := wr64 (n := n + 1 - b) (by omega) (by omega)
  clear ih hg hnum
  refine PCalls.enter Tryz.func164 rfl Tryz.ntmps164 (by simp) ?_
  simp only [Qab]
  refine go_ ?_
  refine Jd ?_
  intro i0 hi0
  refine go_ ?_
  refine POps_max ((max 0 (n + 1 - b))) (max_if2 _ _) ?_
  refine go_ ?_
  refine Jm (by simp) (by simp only [Tryz.results164]; rfl) (by simp [resP, St.box?, PF.get, Jn, TyK.agg, *]; rfl) Nl ?_
  exact ⟨rfl, rfl⟩
 ·rw [ls_not hk]
  have HR : ∃ R, R = lsL k sub 0 b 0 := ⟨_, rfl⟩
  obtain ⟨R, hR0⟩ := HR
  rw [← hR0]
  have hgs := (Qcs hg).2
  have hhg : ∀ s ∈ sub, (chgT s : Int) + 1 ≤ chgT (.mk k n sub) := fun s hs => by
   have h2 : chgT s ≤ chgL sub := hgL_mem s hs
   simp only [chgT]; omega
  have hll : sub.length ≤ 2 := by
   have := hnum.2.2.2.2
   unfold Qbn at this
   split at this
   ·omega
   ·split at this <;> omega
  have IH := Lib.hid ih
  have CU := Lib.hid (tunder_p (.mk k n sub))
  simp only [aggD, Jl, List.map_cons, List.map_nil, Tm.kind_mk, Tm.num_mk, Tm.sub_mk] at CU
  clear ih hg hnum
  refine PCalls.enter Tryz.func164 rfl Tryz.ntmps164 (by simp) ?_
  simp only [Qab]
  refine go_ ?_
  refine Jd ?_
  intro i0 hi0
  refine go_ ?_
  refine Qak (ι := Nat × Int) (fun y => y.1 ≤ sub.length ∧ 0 ≤ y.2 ∧ y.2 ≤ 1048577 ∧ Hid (R = lsL k (sub.drop y.1) y.1 b y.2)) (fun y => [(1, .d (.v (.int .i64 b))), (2, .ptr i0 0), (5, .d (.v (.int .i64 y.2))), (18, .d (.sl (sub.map encD))), (19, .d (.v (.int .i64 sub.length))), (20, .d (.v (.int .i64 (y.1 : Int))))]) (fun _ => [.box i0 26 [.d (.v (.int .i64 k)), .d (.v (.int .i64 n)), .d (.sl (sub.map encD))]]) (fun y => sub.length - y.1) (0, 0) ⟨Nat.zero_le _, by decide, by simp only; omega, hR0⟩ ?_ ?_ ?_
  ·repeat (first | exact Jt _ | refine Js (by simp [PF.get]; rfl) (by first | rfl | (simp [*]; done) | fail) ?_)
  ·repeat (first | exact List.Sublist.refl _ | exact List.nil_sublist _ | refine List.Sublist.cons_cons _ ?_ | refine List.Sublist.cons _ ?_)
  ·rintro ⟨j, m⟩ ⟨hj, hm0, hm1, hR⟩
   simp only at hj hm0 hm1 hR ⊢
   clear hR0
   by_cases hlt : j < sub.length
   ·have hx := Qal hlt
    have hc : (j : Int) < sub.length := by omega
    have hn : (0 : Int) ≤ j := by omega
    have hin := wr64 (n := (j : Int) + 1) (by omega) (by omega)
    have hu := und_bd k j
    have hh := hhg _ (List.getElem_mem hlt)
    have hR2 : Hid (R = lsL k (sub.drop (j + 1)) (j + 1) b (max m (lsT sub[j] (b + undB k j)))) := by
     rw [show R = _ from hR.out, List.drop_eq_getElem_cons hlt]
     show _ = _
     simp only [lsL]
    have hb2 := ls_bd sub[j] (b + undB k j) (hgs _ (List.getElem_mem hlt)) (by omega)
    have hc1 := Lib.hid (IH.out _ (List.getElem_mem hlt) (b + undB k j) (hgs _ (List.getElem_mem hlt)) (by omega) (by omega))
    have hcu := Lib.hid (CU.out j)
    have hw := wr64 (n := b + undB k j) (by omega) (by omega)
    clear hR hgs hhg hu
    generalize lsT sub[j] (b + undB k j) = x' at *
    generalize undB k j = u at *
    have hmx : 0 ≤ max m x' ∧ max m x' ≤ 1048577 := by omega
    refine go_ ?_
    refine Je ?_
    intro i2 hi2
    try simp only [Ja, Rh, Rg, Jb] at hi2
    refine go_ ?_
    refine Rd ?_
    refine go_ ?_
    refine Qan [(0, .a), (1, .b), (2, .a), (3, .b), (4, .a), (5, .a), (6, .a), (7, .a), (8, .a), (9, .a)] (by kernel_rfl) (by rfl) (by kernel_rfl) ?_
    refine go_ ?_
    refine Qaa (hcu.out) ?_
    refine go_ ?_
    refine Qaa (hc1.out) ?_
    refine go_ ?_
    refine POrd_max ((max m x')) (max_if2 _ _) ?_
    refine go_ ?_
    exact ⟨(j + 1, max m x'), ⟨hlt, hmx.1, hmx.2, hR2⟩, by simp only; omega, by repeat (first | exact Jt _ | refine Js (by simp [PF.get]; rfl) (by first | rfl | (simp [*]; done) | fail) ?_), by repeat (first | exact List.Sublist.refl _ | exact List.nil_sublist _ | refine List.Sublist.cons_cons _ ?_ | refine List.Sublist.cons _ ?_)⟩
   ·have hc : ¬ (j : Int) < sub.length := by omega
    have hf : Hid (R = m) := by rw [show R = _ from hR.out, List.drop_of_length_le (by omega)]; rfl
    refine go_ ?_
    refine Jm (by simp) (by simp only [Tryz.results164]; rfl) (by simp [resP, St.box?, PF.get, Jn, TyK.agg, *]; rfl) Nl ?_
    exact ⟨by rw [hf.out]; rfl, rfl⟩
theorem rloose_p : ∀ (t : Tm) (b : Int), Qaj t = true → 0 ≤ b → b + chgT t ≤ 1000 → PCalls Tryz.prog 126 [aggD t, .d (.v (.int .i64 b))] [] fun p s => p = .d (.v (.int .i64 (lsT t b))) ∧ s = [] := by
 refine Tm.ind ?_
 intro k n sub ih b hg h0 h1
 have hnum := Qhk (Qcs hg).1
 by_cases hk : k = 1 ∧ b ≤ n
 ·obtain ⟨hk, hbn⟩ := hk
  subst hk
  simp only [aggD, Jl, List.map_cons, List.map_nil, Tm.kind_mk, Tm.num_mk, Tm.sub_mk]
  have HR : Hid (lsT (.mk 1 n sub) b = n - b + 1) := by rw [ls_var]; show _ = _; omega
  rw [HR.out]
  have hw1 := wr64 (n := n - b) (by omega) (by omega)
  have hw2 := wr64 (n := n - b + 1) (by omega) (by omega)
  clear ih hg hnum HR
  refine PCalls.enter Tryz.func126 rfl Tryz.ntmps126 (by simp) ?_
  simp only [Qab]
  refine go_ ?_
  refine Jd ?_
  intro i0 hi0
  refine go_ ?_
  refine Jm (by simp) (by simp only [Tryz.results126]; rfl) (by simp [resP, St.box?, PF.get, Jn, TyK.agg, *]; rfl) Nl ?_
  exact ⟨rfl, rfl⟩
 ·by_cases hk1 : k = 1
  ·subst hk1
   obtain rfl := good_1 hg
   have hbn : ¬ b ≤ n := fun h => hk ⟨rfl, h⟩
   have HR : Hid (lsT (.mk 1 n []) b = 0) := by rw [ls_var]; show _ = _; omega
   rw [HR.out]
   simp only [aggD, Jl, List.map_cons, List.map_nil, Tm.kind_mk, Tm.num_mk, Tm.sub_mk]
   clear ih hg hnum HR hk h1
   refine PCalls.enter Tryz.func126 rfl Tryz.ntmps126 (by simp) ?_
   simp only [Qab]
   refine go_ ?_
   refine Jd ?_
   intro i0 hi0
   refine go_ ?_
   refine Qak (ι := Unit) (fun _ => True) (fun _ => [(2, .ptr i0 0), (5, .d (.v (.int .i64 0))), (6, .d (.v (.int .i64 0)))]) (fun _ => [.box i0 26 [.d (.v (.int .i64 1)), .d (.v (.int .i64 n)), .d (.sl [])]]) (fun _ => 0) () trivial ?_ ?_ ?_
   ·repeat (first | exact Jt _ | refine Js (by simp [PF.get]; rfl) (by first | rfl | (simp [*]; done) | fail) ?_)
   ·repeat (first | exact List.Sublist.refl _ | exact List.nil_sublist _ | refine List.Sublist.cons_cons _ ?_ | refine List.Sublist.cons _ ?_)
   ·rintro _ _
    refine go_ ?_
    refine Jm (by simp) (by simp only [Tryz.results126]; rfl) (by simp [resP, St.box?, PF.get, Jn, TyK.agg, *]; rfl) Nl ?_
    exact ⟨rfl, rfl⟩
  ·have HR : ∃ R, R = lsL k sub 0 b 0 := ⟨_, rfl⟩
   obtain ⟨R, hR0⟩ := HR
   rw [ls_not hk1, ← hR0]
   have hgs := (Qcs hg).2
   have hbe := fun j hj => ben_und hg j hj
   have hhg : ∀ s ∈ sub, (chgT s : Int) + 1 ≤ chgT (.mk k n sub) := fun s hs => by
    have h2 : chgT s ≤ chgL sub := hgL_mem s hs
    simp only [chgT]; omega
   have hll : sub.length ≤ 2 := by
    have := hnum.2.2.2.2
    unfold Qbn at this
    split at this
    ·omega
    ·split at this <;> omega
   have IH := Lib.hid ih
   have CU := Lib.hid (rbeneath_p (.mk k n sub))
   simp only [aggD, Jl, List.map_cons, List.map_nil, Tm.kind_mk, Tm.num_mk, Tm.sub_mk] at CU ⊢
   have HB := Lib.hid hbe
   clear ih hg hnum hk hbe
   refine PCalls.enter Tryz.func126 rfl Tryz.ntmps126 (by simp) ?_
   simp only [Qab]
   refine go_ ?_
   refine Jd ?_
   intro i0 hi0
   refine go_ ?_
   refine Qak (ι := Nat × Int) (fun y => y.1 ≤ sub.length ∧ 0 ≤ y.2 ∧ y.2 ≤ 1048577 ∧ Hid (R = lsL k (sub.drop y.1) y.1 b y.2)) (fun y => [(1, .d (.v (.int .i64 b))), (2, .ptr i0 0), (5, .d (.v (.int .i64 y.2))), (6, .d (.v (.int .i64 (y.1 : Int))))]) (fun _ => [.box i0 26 [.d (.v (.int .i64 k)), .d (.v (.int .i64 n)), .d (.sl (sub.map encD))]]) (fun y => sub.length - y.1) (0, 0) ⟨Nat.zero_le _, by decide, by simp only; omega, hR0⟩ ?_ ?_ ?_
   ·repeat (first | exact Jt _ | refine Js (by simp [PF.get]; rfl) (by first | rfl | (simp [*]; done) | fail) ?_)
   ·repeat (first | exact List.Sublist.refl _ | exact List.nil_sublist _ | refine List.Sublist.cons_cons _ ?_ | refine List.Sublist.cons _ ?_)
   ·rintro ⟨j, m⟩ ⟨hj, hm0, hm1, hR⟩
    simp only at hj hm0 hm1 hR ⊢
    clear hR0 hk1
    by_cases hlt : j < sub.length
    ·have hx := Qal hlt
     have hc : (j : Int) < sub.length := by omega
     have hn : (0 : Int) ≤ j := by omega
     have hin := wr64 (n := (j : Int) + 1) (by omega) (by omega)
     have hu := und_bd k j
     have hh := hhg _ (List.getElem_mem hlt)
     have hR2 : Hid (R = lsL k (sub.drop (j + 1)) (j + 1) b (max m (lsT sub[j] (b + undB k j)))) := by
      rw [show R = _ from hR.out, List.drop_eq_getElem_cons hlt]
      show _ = _
      simp only [lsL]
     have hb2 := ls_bd sub[j] (b + undB k j) (hgs _ (List.getElem_mem hlt)) (by omega)
     have hc1 := Lib.hid (IH.out _ (List.getElem_mem hlt) (b + undB k j) (hgs _ (List.getElem_mem hlt)) (by omega) (by omega))
     have hcu := CU.out j
     rw [HB.out j hlt] at hcu
     have HCU := Lib.hid hcu
     have hw := wr64 (n := b + undB k j) (by omega) (by omega)
     clear hR hgs hhg hu hcu
     generalize lsT sub[j] (b + undB k j) = x' at *
     generalize undB k j = u at *
     have hmx : 0 ≤ max m x' ∧ max m x' ≤ 1048577 := by omega
     refine go_ ?_
     refine Qan [(0, .a), (1, .a), (2, .b), (3, .a), (4, .a), (5, .a), (6, .a), (7, .b), (8, .a), (9, .a), (10, .a), (11, .a), (12, .a), (13, .a)] (by kernel_rfl) (by rfl) (by kernel_rfl) ?_
     refine go_ ?_
     refine Qaa (HCU.out) ?_
     refine go_ ?_
     refine Qaa (hc1.out) ?_
     refine go_ ?_
     refine POrd_max ((max m x')) (max_if2 _ _) ?_
     refine go_ ?_
     exact ⟨(j + 1, max m x'), ⟨hlt, hmx.1, hmx.2, hR2⟩, by simp only; omega, by repeat (first | exact Jt _ | refine Js (by simp [PF.get]; rfl) (by first | rfl | (simp [*]; done) | fail) ?_), by repeat (first | exact List.Sublist.refl _ | exact List.nil_sublist _ | refine List.Sublist.cons_cons _ ?_ | refine List.Sublist.cons _ ?_)⟩
    ·have hc : ¬ (j : Int) < sub.length := by omega
     have hf : Hid (R = m) := by rw [show R = _ from hR.out, List.drop_of_length_le (by omega)]; rfl
     refine go_ ?_
     refine Jm (by simp) (by simp only [Tryz.results126]; rfl) (by simp [resP, St.box?, PF.get, Jn, TyK.agg, *]; rfl) Nl ?_
     exact ⟨by rw [hf.out]; rfl, rfl⟩
theorem eqT_mk (k n k' n' : Int) (s s' : List Tm) : ceqT (.mk k n s) (.mk k' n' s') = ((k == k') && (n == n') && ceqL s s') := by simp only [ceqT]
theorem eqL_ne {a b : List Tm} (h : ¬ a.length = b.length) : ceqL a b = false := by
 cases e : ceqL a b with
 | false => rfl
 | true => exact absurd (ceqL_length e) h
theorem eqL_step {a b : List Tm} {j : Nat} (h1 : j < a.length) (h2 : j < b.length) : ceqL (a.drop j) (b.drop j) = (ceqT a[j] b[j] && ceqL (a.drop (j + 1)) (b.drop (j + 1))) := by
 rw [List.drop_eq_getElem_cons h1, List.drop_eq_getElem_cons h2]
 simp only [ceqL]
theorem eqL_end {a b : List Tm} {j : Nat} (h1 : a.length ≤ j) (h2 : b.length ≤ j) : ceqL (a.drop j) (b.drop j) = true := by
 rw [List.drop_of_length_le h1, List.drop_of_length_le h2]; rfl
theorem requal_p : ∀ (t u : Tm), PCalls Tryz.prog 21 [aggD t, aggD u] [] fun p s => p = .d (.v (.bool (ceqT t u))) ∧ s = [] := by
  refine Tm.ind ?_
  intro k n a ih u
  obtain ⟨k', n', b⟩ := u
  rw [eqT_mk]
  simp only [aggD, Jl, List.map_cons, List.map_nil, Tm.kind_mk, Tm.num_mk, Tm.sub_mk]
  have IH := Lib.hid ih
  clear ih
  by_cases hk : k = k'
  rotate_left
  · have hf : ((k == k') && (n == n') && ceqL a b) = false := by rw [beq_eq_false_iff_ne.2 hk]; rfl
    rw [hf]
    clear hf
    refine PCalls.enter Tryz.func21 rfl Tryz.ntmps21 (by simp) ?_
    simp only [Qab]
    refine go_ ?_
    refine Jd ?_
    intro i0 hi0
    refine go_ ?_
    refine Jd ?_
    intro i1 hi1
    try simp only [Ja, Rh, Rg, Jb] at hi1
    refine go_ ?_
    refine Jm (by simp) (by simp only [Tryz.results21]; rfl) (by simp [resP, St.box?, PF.get, Jn, TyK.agg, *]; rfl) Nl ?_
    exact ⟨rfl, rfl⟩
  by_cases hn : n = n'
  rotate_left
  · have hf : ((k == k') && (n == n') && ceqL a b) = false := by rw [beq_eq_false_iff_ne.2 hn, Bool.and_false]; rfl
    rw [hf]
    clear hf
    subst hk
    refine PCalls.enter Tryz.func21 rfl Tryz.ntmps21 (by simp) ?_
    simp only [Qab]
    refine go_ ?_
    refine Jd ?_
    intro i0 hi0
    refine go_ ?_
    refine Jd ?_
    intro i1 hi1
    try simp only [Ja, Rh, Rg, Jb] at hi1
    refine go_ ?_
    refine Jm (by simp) (by simp only [Tryz.results21]; rfl) (by simp [resP, St.box?, PF.get, Jn, TyK.agg, *]; rfl) Nl ?_
    exact ⟨rfl, rfl⟩
  subst hk hn
  by_cases hl : a.length = b.length
  rotate_left
  · rw [eqL_ne hl, Bool.and_false]
    have hl2 : ((a.length : Int) != b.length) = true := bne_iff_ne.2 (by omega)
    refine PCalls.enter Tryz.func21 rfl Tryz.ntmps21 (by simp) ?_
    simp only [Qab]
    refine go_ ?_
    refine Jd ?_
    intro i0 hi0
    refine go_ ?_
    refine Jd ?_
    intro i1 hi1
    try simp only [Ja, Rh, Rg, Jb] at hi1
    refine go_ ?_
    refine Jm (by simp) (by simp only [Tryz.results21]; rfl) (by simp [resP, St.box?, PF.get, Jn, TyK.agg, *]; rfl) Nl ?_
    exact ⟨rfl, rfl⟩
  obtain ⟨m, ha, hb⟩ : ∃ m, a.length = m ∧ b.length = m := ⟨_, hl, rfl⟩
  clear hl
  obtain ⟨R, hR0⟩ : ∃ R, R = ceqL a b := ⟨_, rfl⟩
  rw [← hR0, beq_self_eq_true, beq_self_eq_true, Bool.true_and, Bool.true_and]
  have HR0 := Lib.hid hR0
  clear hR0
  refine PCalls.enter Tryz.func21 rfl Tryz.ntmps21 (by simp) ?_
  simp only [Qab]
  refine Qhh (t := 0) (i := 2) (rows := a.map encD) (by simp [PF.get] <;> rfl) rfl fun hml => ?_
  rw [List.length_map, ha] at hml
  refine go_ ?_
  refine Jd ?_
  intro i0 hi0
  refine go_ ?_
  refine Jd ?_
  intro i1 hi1
  try simp only [Ja, Rh, Rg, Jb] at hi1
  refine go_ ?_
  refine Qak (ι := Nat) (fun y => y ≤ m ∧ Hid (R = ceqL (a.drop y) (b.drop y))) (fun y => [(2, .ptr i0 0), (3, .ptr i1 0), (5, .d (.v (.int .i64 (y : Int))))]) (fun _ => [.box i1 26 [.d (.v (.int .i64 k)), .d (.v (.int .i64 n)), .d (.sl (b.map encD))], .box i0 26 [.d (.v (.int .i64 k)), .d (.v (.int .i64 n)), .d (.sl (a.map encD))]]) (fun y => m - y) 0 ⟨Nat.zero_le _, HR0.out⟩ ?_ ?_ ?_
  · repeat (first | exact Jt _ | refine Js (by simp [PF.get]; rfl) (by first | rfl | (simp [*]; done) | fail) ?_)
  · repeat (first | exact List.Sublist.refl _ | exact List.nil_sublist _ | refine List.Sublist.cons_cons _ ?_ | refine List.Sublist.cons _ ?_)
  · rintro j ⟨hj, hR⟩
    clear HR0
    unfold maxLen at hml
    by_cases hlt : j < m
    · have h1 : j < a.length := by omega
      have h2 : j < b.length := by omega
      have hx := Qal h1
      have hy := Qal h2
      have hc : (j : Int) < m := by omega
      have hn : (0 : Int) ≤ j := by omega
      have hin := wr64 (n := (j : Int) + 1) (by omega) (by omega)
      have hR2 : Hid (R = (ceqT a[j] b[j] && ceqL (a.drop (j + 1)) (b.drop (j + 1)))) := by rw [show R = _ from hR.out, eqL_step h1 h2]; rfl
      have hc1 := Lib.hid (IH.out _ (List.getElem_mem h1) b[j])
      clear hR
      generalize ceqT a[j] b[j] = e at *
      cases e with
      | false =>
        have hf : Hid (R = false) := by rw [show R = _ from hR2.out]; rfl
        refine go_ ?_
        refine Qan [(0, .a), (1, .b), (2, .a), (3, .a), (4, .a), (5, .a), (6, .b), (7, .a), (8, .a), (9, .a), (10, .a), (11, .a)] (by kernel_rfl) (by rfl) (by kernel_rfl) ?_
        refine go_ ?_
        refine Qaa (hc1.out) ?_
        refine go_ ?_
        refine Jm (by simp) (by simp only [Tryz.results21]; rfl) (by simp [resP, St.box?, PF.get, Jn, TyK.agg, *]; rfl) Nl ?_
        exact ⟨by rw [hf.out]; rfl, rfl⟩
      | true =>
        have hR3 : Hid (R = ceqL (a.drop (j + 1)) (b.drop (j + 1))) := by rw [show R = _ from hR2.out]; rfl
        refine go_ ?_
        refine Qan [(0, .a), (1, .b), (2, .a), (3, .a), (4, .a), (5, .a), (6, .b), (7, .a), (8, .a), (9, .a), (10, .a), (11, .a)] (by kernel_rfl) (by rfl) (by kernel_rfl) ?_
        refine go_ ?_
        refine Qaa (hc1.out) ?_
        refine go_ ?_
        exact ⟨j + 1, ⟨hlt, hR3⟩, by omega, by repeat (first | exact Jt _ | refine Js (by simp [PF.get]; rfl) (by first | rfl | (simp [*]; done) | fail) ?_), by repeat (first | exact List.Sublist.refl _ | exact List.nil_sublist _ | refine List.Sublist.cons_cons _ ?_ | refine List.Sublist.cons _ ?_)⟩
    · have hc : ¬ (j : Int) < m := by omega
      have hf : Hid (R = true) := by rw [show R = _ from hR.out, eqL_end (by omega) (by omega)]; rfl
      refine go_ ?_
      refine Jm (by simp) (by simp only [Tryz.results21]; rfl) (by simp [resP, St.box?, PF.get, Jn, TyK.agg, *]; rfl) Nl ?_
      exact ⟨by rw [hf.out]; rfl, rfl⟩
end Go.Proofs.YtdklpbefbamchaaGreat

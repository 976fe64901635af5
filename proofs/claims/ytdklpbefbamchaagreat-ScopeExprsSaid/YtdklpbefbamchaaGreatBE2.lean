import Derived.Test.YtdklpbefbamchaaGreatBE1
import Derived.Test.YtdklpbefbamchaaGreatBA5
import Derived.Test.YtdklpbefbamchaaGreatBD
import Derived.Test.YtdklpbefbamchaaGreatSh
import Derived.Shelf.Sort.Plain
import Derived.Shelf.Slices.In.SortNone
import Derived.Shelf.Slices.CompactI
import Derived.Ground.NamesProg
import Derived.Ground.Names2Prog
import Derived.Sort.OwnSortedInts
import Derived.Lib.OwnBridge
import Derived.Lib.RowBridge
import Derived.BigQuiet
set_option linter.unusedSimpArgs false
set_option linter.unusedVariables false
set_option maxHeartbeats 16000000
set_option maxRecDepth 100000
namespace Go.Proofs.YtdklpbefbamchaaGreat
open Go.RowKit
theorem rgood_p : ∀ (t : Tm), PCalls Tryz.prog 62 [aggD t] [] fun p s => p = .d (.v (.bool (Qah t))) ∧ s = [] := by
  refine Tm.ind ?_
  intro k n sub ih
  have HR := Lib.hid (show Qah (.mk k n sub) = (Qei (.mk k n sub) && Qbt sub) by simp only [Qah])
  simp only [aggD, Jl, List.map_cons, List.map_nil, Jv, Jw, Jx]
  have IH := Lib.hid ih
  clear ih
  by_cases hk : k = 1 ∨ k = 2 ∨ k = 3 ∨ k = 4 ∨ k = 5 ∨ k = 6 ∨ k = 7 ∨ k = 8
  rotate_left
  · have hf : Hid (Qah (.mk k n sub) = false) := by rw [show Qah (.mk k n sub) = _ from HR.out, Qbg (by omega)]; rfl
    rw [hf.out]
    have h1 : ¬ k = 1 := by omega
    have h2 : ¬ k = 2 := by omega
    have h3 : ¬ k = 3 := by omega
    have h4 : ¬ k = 4 := by omega
    have h5 : ¬ k = 5 := by omega
    have h6 : ¬ k = 6 := by omega
    have h7 : ¬ k = 7 := by omega
    have h8 : ¬ k = 8 := by omega
    clear hk HR hf
    refine PCalls.enter Tryz.func62 rfl Tryz.ntmps62 (by simp) ?_
    simp only [Qaa]
    refine go_ ?_
    refine Jd ?_
    intro i0 hi0
    refine go_ ?_
    refine Jm (by simp) (by simp only [Tryz.results62]; rfl) (by simp [resP, St.box?, PF.get, Jn, TyK.agg, *]; rfl) Nl ?_
    exact ⟨rfl, rfl⟩
  · rcases hk with rfl | rfl | rfl | rfl | rfl | rfl | rfl | rfl
    · by_cases hs : sub = []
      · by_cases h0 : n < 0
        · have hf : Hid (Qah (.mk 1 n sub) = false) := by rw [show Qah (.mk 1 n sub) = _ from HR.out, Qbg (fun h => absurd h.2.2.2.1 (by omega))]; rfl
          rw [hf.out]
          clear HR hf IH
          refine PCalls.enter Tryz.func62 rfl Tryz.ntmps62 (by simp) ?_
          simp only [Qaa]
          refine go_ ?_
          refine Jd ?_
          intro i0 hi0
          refine go_ ?_
          refine Jm (by simp) (by simp only [Tryz.results62]; rfl) (by simp [resP, St.box?, PF.get, Jn, TyK.agg, *]; rfl) Nl ?_
          exact ⟨rfl, rfl⟩
        · by_cases hm : 1048576 < n
          · have hf : Hid (Qah (.mk 1 n sub) = false) := by rw [show Qah (.mk 1 n sub) = _ from HR.out, Qbg (fun h => absurd h.2.2.2.2.1 (by simp [Qbb]; omega))]; rfl
            rw [hf.out]
            clear HR hf IH
            refine PCalls.enter Tryz.func62 rfl Tryz.ntmps62 (by simp) ?_
            simp only [Qaa]
            refine go_ ?_
            refine Jd ?_
            intro i0 hi0
            refine go_ ?_
            refine Jm (by simp) (by simp only [Tryz.results62]; rfl) (by simp [resP, St.box?, PF.get, Jn, TyK.agg, *]; rfl) Nl ?_
            exact ⟨rfl, rfl⟩
          · subst hs
            have HR2 : Hid (Qah (.mk 1 n []) = true) := by rw [show Qah (.mk 1 n []) = _ from HR.out, Qeq ⟨by decide, by decide, rfl, by omega, by simp [Qbb]; omega, .inl (by decide)⟩]; rfl
            generalize Qah (.mk 1 n []) = R at *
            clear HR
            refine PCalls.enter Tryz.func62 rfl Tryz.ntmps62 (by simp) ?_
            simp only [Qaa]
            refine go_ ?_
            refine Jd ?_
            intro i0 hi0
            refine go_ ?_
            refine Qao (ι := Unit) (fun _ => True) (fun _ => [(3, .d (.v (.int .i64 0))), (5, .d (.v (.int .i64 0)))]) (fun _ => []) (fun _ => 0) () trivial ?_ ?_ ?_
            · repeat (first | exact Jt _ | refine Js (by simp [PF.get]; rfl) (by first | rfl | (simp [*]; done) | fail) ?_)
            · repeat (first | exact List.Sublist.refl _ | exact List.nil_sublist _ | refine List.Sublist.cons_cons _ ?_ | refine List.Sublist.cons _ ?_)
            · rintro _ _
              refine go_ ?_
              refine Jm (by simp) (by simp only [Tryz.results62]; rfl) (by simp [resP, St.box?, PF.get, Jn, TyK.agg, *]; rfl) Nl ?_
              exact ⟨by rw [HR2.out]; rfl, rfl⟩
      · have hf : Hid (Qah (.mk 1 n sub) = false) := by rw [show Qah (.mk 1 n sub) = _ from HR.out, Qbg (fun h => hs (List.eq_nil_of_length_eq_zero (by have := h.2.2.1; simp [Qaz] at this; first | exact this | (rw [this]; rfl))))]; rfl
        rw [hf.out]
        clear HR hf IH
        refine PCalls.enter Tryz.func62 rfl Tryz.ntmps62 (by simp) ?_
        simp only [Qaa]
        refine go_ ?_
        refine Jd ?_
        intro i0 hi0
        refine go_ ?_
        refine Jm (by simp) (by simp only [Tryz.results62]; rfl) (by simp [resP, St.box?, PF.get, Jn, TyK.agg, *]; rfl) Nl ?_
        exact ⟨rfl, rfl⟩
    · by_cases hs : sub = []
      · by_cases h0 : n < 0
        · have hf : Hid (Qah (.mk 2 n sub) = false) := by rw [show Qah (.mk 2 n sub) = _ from HR.out, Qbg (fun h => absurd h.2.2.2.1 (by omega))]; rfl
          rw [hf.out]
          clear HR hf IH
          refine PCalls.enter Tryz.func62 rfl Tryz.ntmps62 (by simp) ?_
          simp only [Qaa]
          refine go_ ?_
          refine Jd ?_
          intro i0 hi0
          refine go_ ?_
          refine Jm (by simp) (by simp only [Tryz.results62]; rfl) (by simp [resP, St.box?, PF.get, Jn, TyK.agg, *]; rfl) Nl ?_
          exact ⟨rfl, rfl⟩
        · by_cases hm : 7 < n
          · have hf : Hid (Qah (.mk 2 n sub) = false) := by rw [show Qah (.mk 2 n sub) = _ from HR.out, Qbg (fun h => absurd h.2.2.2.2.1 (by simp [Qbb]; omega))]; rfl
            rw [hf.out]
            clear HR hf IH
            refine PCalls.enter Tryz.func62 rfl Tryz.ntmps62 (by simp) ?_
            simp only [Qaa]
            refine go_ ?_
            refine Jd ?_
            intro i0 hi0
            refine go_ ?_
            refine Jm (by simp) (by simp only [Tryz.results62]; rfl) (by simp [resP, St.box?, PF.get, Jn, TyK.agg, *]; rfl) Nl ?_
            exact ⟨rfl, rfl⟩
          · subst hs
            have HR2 : Hid (Qah (.mk 2 n []) = true) := by rw [show Qah (.mk 2 n []) = _ from HR.out, Qeq ⟨by decide, by decide, rfl, by omega, by simp [Qbb]; omega, .inl (by decide)⟩]; rfl
            generalize Qah (.mk 2 n []) = R at *
            clear HR
            refine PCalls.enter Tryz.func62 rfl Tryz.ntmps62 (by simp) ?_
            simp only [Qaa]
            refine go_ ?_
            refine Jd ?_
            intro i0 hi0
            refine go_ ?_
            refine Qao (ι := Unit) (fun _ => True) (fun _ => [(3, .d (.v (.int .i64 0))), (5, .d (.v (.int .i64 0)))]) (fun _ => []) (fun _ => 0) () trivial ?_ ?_ ?_
            · repeat (first | exact Jt _ | refine Js (by simp [PF.get]; rfl) (by first | rfl | (simp [*]; done) | fail) ?_)
            · repeat (first | exact List.Sublist.refl _ | exact List.nil_sublist _ | refine List.Sublist.cons_cons _ ?_ | refine List.Sublist.cons _ ?_)
            · rintro _ _
              refine go_ ?_
              refine Jm (by simp) (by simp only [Tryz.results62]; rfl) (by simp [resP, St.box?, PF.get, Jn, TyK.agg, *]; rfl) Nl ?_
              exact ⟨by rw [HR2.out]; rfl, rfl⟩
      · have hf : Hid (Qah (.mk 2 n sub) = false) := by rw [show Qah (.mk 2 n sub) = _ from HR.out, Qbg (fun h => hs (List.eq_nil_of_length_eq_zero (by have := h.2.2.1; simp [Qaz] at this; first | exact this | (rw [this]; rfl))))]; rfl
        rw [hf.out]
        clear HR hf IH
        refine PCalls.enter Tryz.func62 rfl Tryz.ntmps62 (by simp) ?_
        simp only [Qaa]
        refine go_ ?_
        refine Jd ?_
        intro i0 hi0
        refine go_ ?_
        refine Jm (by simp) (by simp only [Tryz.results62]; rfl) (by simp [resP, St.box?, PF.get, Jn, TyK.agg, *]; rfl) Nl ?_
        exact ⟨rfl, rfl⟩
    · by_cases hs : sub.length = 2
      · by_cases h0 : n < 0
        · have hf : Hid (Qah (.mk 3 n sub) = false) := by rw [show Qah (.mk 3 n sub) = _ from HR.out, Qbg (fun h => absurd h.2.2.2.1 (by omega))]; rfl
          rw [hf.out]
          clear HR hf IH
          refine PCalls.enter Tryz.func62 rfl Tryz.ntmps62 (by simp) ?_
          simp only [Qaa]
          refine go_ ?_
          refine Jd ?_
          intro i0 hi0
          refine go_ ?_
          refine Jm (by simp) (by simp only [Tryz.results62]; rfl) (by simp [resP, St.box?, PF.get, Jn, TyK.agg, *]; rfl) Nl ?_
          exact ⟨rfl, rfl⟩
        · by_cases hm : 0 < n
          · have hf : Hid (Qah (.mk 3 n sub) = false) := by rw [show Qah (.mk 3 n sub) = _ from HR.out, Qbg (fun h => absurd h.2.2.2.2.1 (by simp [Qbb]; omega))]; rfl
            rw [hf.out]
            clear HR hf IH
            refine PCalls.enter Tryz.func62 rfl Tryz.ntmps62 (by simp) ?_
            simp only [Qaa]
            refine go_ ?_
            refine Jd ?_
            intro i0 hi0
            refine go_ ?_
            refine Jm (by simp) (by simp only [Tryz.results62]; rfl) (by simp [resP, St.box?, PF.get, Jn, TyK.agg, *]; rfl) Nl ?_
            exact ⟨rfl, rfl⟩
          · have HR2 : Hid (Qah (.mk 3 n sub) = Qbt sub) := by rw [show Qah (.mk 3 n sub) = _ from HR.out, Qeq ⟨by decide, by decide, by rw [hs]; rfl, by omega, by simp [Qbb]; omega, .inl (by decide)⟩]; rfl
            generalize Qah (.mk 3 n sub) = R at *
            clear HR
            refine PCalls.enter Tryz.func62 rfl Tryz.ntmps62 (by simp) ?_
            simp only [Qaa]
            refine go_ ?_
            refine Jd ?_
            intro i0 hi0
            refine go_ ?_
            refine Qao (ι := Nat) (fun y => y ≤ 2 ∧ Hid (R = Qbt (List.drop y sub))) (fun y => [(1, .ptr i0 0), (3, .d (.v (.int .i64 2))), (5, .d (.v (.int .i64 (y : Int))))]) (fun _ => [.box i0 26 [.d (.v (.int .i64 3)), .d (.v (.int .i64 n)), .d (.sl (sub.map encD))]]) (fun y => 2 - y) 0 ⟨Nat.zero_le _, HR2.out⟩ ?_ ?_ ?_
            · repeat (first | exact Jt _ | refine Js (by simp [PF.get]; rfl) (by first | rfl | (simp [*]; done) | fail) ?_)
            · repeat (first | exact List.Sublist.refl _ | exact List.nil_sublist _ | refine List.Sublist.cons_cons _ ?_ | refine List.Sublist.cons _ ?_)
            · rintro j ⟨hj, hR⟩
              clear HR2
              by_cases hlt : j < 2
              · have hlt2 : j < (sub : List Tm).length := by rw [hs]; exact hlt
                have hx0 := Qar hlt2
                have hc : (j : Int) < 2 := by omega
                have hn : (0 : Int) ≤ j := by omega
                have hin := wr64 (n := (j : Int) + 1) (by omega) (by omega)
                have hR2 : Hid (R = (Qah (sub : List Tm)[j] && Qbt (List.drop (j + 1) sub))) := by
                  rw [show R = _ from hR.out, List.drop_eq_getElem_cons hlt2]
                  show _ = _
                  simp only [Qbt]
                have hc1 := Lib.hid (IH.out _ (List.getElem_mem hlt2))
                clear hR
                generalize Qah (sub : List Tm)[j] = b at *
                cases b with
                | false =>
                  have hf : Hid (R = false) := by rw [show R = _ from hR2.out]; rfl
                  refine go_ ?_
                  refine Jc (hc1.out) ?_
                  refine go_ ?_
                  refine Jm (by simp) (by simp only [Tryz.results62]; rfl) (by simp [resP, St.box?, PF.get, Jn, TyK.agg, *]; rfl) Nl ?_
                  exact ⟨by rw [hf.out]; rfl, rfl⟩
                | true =>
                  have hR3 : Hid (R = Qbt (List.drop (j + 1) sub)) := by rw [show R = _ from hR2.out]; rfl
                  refine go_ ?_
                  refine Jc (hc1.out) ?_
                  refine go_ ?_
                  exact ⟨j + 1, ⟨hlt, hR3⟩, by omega, by repeat (first | exact Jt _ | refine Js (by simp [PF.get]; rfl) (by first | rfl | (simp [*]; done) | fail) ?_), by repeat (first | exact List.Sublist.refl _ | exact List.nil_sublist _ | refine List.Sublist.cons_cons _ ?_ | refine List.Sublist.cons _ ?_)⟩
              · have hc : ¬ (j : Int) < 2 := by omega
                have hf : Hid (R = true) := by rw [show R = _ from hR.out, List.drop_of_length_le (by rw [hs]; omega)]; rfl
                refine go_ ?_
                refine Jm (by simp) (by simp only [Tryz.results62]; rfl) (by simp [resP, St.box?, PF.get, Jn, TyK.agg, *]; rfl) Nl ?_
                exact ⟨by rw [hf.out]; rfl, rfl⟩
      · have hf : Hid (Qah (.mk 3 n sub) = false) := by rw [show Qah (.mk 3 n sub) = _ from HR.out, Qbg (fun h => hs (by have := h.2.2.1; simp [Qaz] at this; omega))]; rfl
        have hs2 : ¬ (sub.length : Int) = 2 := by omega
        rw [hf.out]
        clear HR hf IH
        refine PCalls.enter Tryz.func62 rfl Tryz.ntmps62 (by simp) ?_
        simp only [Qaa]
        refine go_ ?_
        refine Jd ?_
        intro i0 hi0
        refine go_ ?_
        refine Jm (by simp) (by simp only [Tryz.results62]; rfl) (by simp [resP, St.box?, PF.get, Jn, TyK.agg, *]; rfl) Nl ?_
        exact ⟨rfl, rfl⟩
    · by_cases hs : sub.length = 2
      · by_cases h0 : n < 0
        · have hf : Hid (Qah (.mk 4 n sub) = false) := by rw [show Qah (.mk 4 n sub) = _ from HR.out, Qbg (fun h => absurd h.2.2.2.1 (by omega))]; rfl
          rw [hf.out]
          clear HR hf IH
          refine PCalls.enter Tryz.func62 rfl Tryz.ntmps62 (by simp) ?_
          simp only [Qaa]
          refine go_ ?_
          refine Jd ?_
          intro i0 hi0
          refine go_ ?_
          refine Jm (by simp) (by simp only [Tryz.results62]; rfl) (by simp [resP, St.box?, PF.get, Jn, TyK.agg, *]; rfl) Nl ?_
          exact ⟨rfl, rfl⟩
        · by_cases hm : 0 < n
          · have hf : Hid (Qah (.mk 4 n sub) = false) := by rw [show Qah (.mk 4 n sub) = _ from HR.out, Qbg (fun h => absurd h.2.2.2.2.1 (by simp [Qbb]; omega))]; rfl
            rw [hf.out]
            clear HR hf IH
            refine PCalls.enter Tryz.func62 rfl Tryz.ntmps62 (by simp) ?_
            simp only [Qaa]
            refine go_ ?_
            refine Jd ?_
            intro i0 hi0
            refine go_ ?_
            refine Jm (by simp) (by simp only [Tryz.results62]; rfl) (by simp [resP, St.box?, PF.get, Jn, TyK.agg, *]; rfl) Nl ?_
            exact ⟨rfl, rfl⟩
          · have HR2 : Hid (Qah (.mk 4 n sub) = Qbt sub) := by rw [show Qah (.mk 4 n sub) = _ from HR.out, Qeq ⟨by decide, by decide, by rw [hs]; rfl, by omega, by simp [Qbb]; omega, .inl (by decide)⟩]; rfl
            generalize Qah (.mk 4 n sub) = R at *
            clear HR
            refine PCalls.enter Tryz.func62 rfl Tryz.ntmps62 (by simp) ?_
            simp only [Qaa]
            refine go_ ?_
            refine Jd ?_
            intro i0 hi0
            refine go_ ?_
            refine Qao (ι := Nat) (fun y => y ≤ 2 ∧ Hid (R = Qbt (List.drop y sub))) (fun y => [(1, .ptr i0 0), (3, .d (.v (.int .i64 2))), (5, .d (.v (.int .i64 (y : Int))))]) (fun _ => [.box i0 26 [.d (.v (.int .i64 4)), .d (.v (.int .i64 n)), .d (.sl (sub.map encD))]]) (fun y => 2 - y) 0 ⟨Nat.zero_le _, HR2.out⟩ ?_ ?_ ?_
            · repeat (first | exact Jt _ | refine Js (by simp [PF.get]; rfl) (by first | rfl | (simp [*]; done) | fail) ?_)
            · repeat (first | exact List.Sublist.refl _ | exact List.nil_sublist _ | refine List.Sublist.cons_cons _ ?_ | refine List.Sublist.cons _ ?_)
            · rintro j ⟨hj, hR⟩
              clear HR2
              by_cases hlt : j < 2
              · have hlt2 : j < (sub : List Tm).length := by rw [hs]; exact hlt
                have hx0 := Qar hlt2
                have hc : (j : Int) < 2 := by omega
                have hn : (0 : Int) ≤ j := by omega
                have hin := wr64 (n := (j : Int) + 1) (by omega) (by omega)
                have hR2 : Hid (R = (Qah (sub : List Tm)[j] && Qbt (List.drop (j + 1) sub))) := by
                  rw [show R = _ from hR.out, List.drop_eq_getElem_cons hlt2]
                  show _ = _
                  simp only [Qbt]
                have hc1 := Lib.hid (IH.out _ (List.getElem_mem hlt2))
                clear hR
                generalize Qah (sub : List Tm)[j] = b at *
                cases b with
                | false =>
                  have hf : Hid (R = false) := by rw [show R = _ from hR2.out]; rfl
                  refine go_ ?_
                  refine Jc (hc1.out) ?_
                  refine go_ ?_
                  refine Jm (by simp) (by simp only [Tryz.results62]; rfl) (by simp [resP, St.box?, PF.get, Jn, TyK.agg, *]; rfl) Nl ?_
                  exact ⟨by rw [hf.out]; rfl, rfl⟩
                | true =>
                  have hR3 : Hid (R = Qbt (List.drop (j + 1) sub)) := by rw [show R = _ from hR2.out]; rfl
                  refine go_ ?_
                  refine Jc (hc1.out) ?_
                  refine go_ ?_
                  exact ⟨j + 1, ⟨hlt, hR3⟩, by omega, by repeat (first | exact Jt _ | refine Js (by simp [PF.get]; rfl) (by first | rfl | (simp [*]; done) | fail) ?_), by repeat (first | exact List.Sublist.refl _ | exact List.nil_sublist _ | refine List.Sublist.cons_cons _ ?_ | refine List.Sublist.cons _ ?_)⟩
              · have hc : ¬ (j : Int) < 2 := by omega
                have hf : Hid (R = true) := by rw [show R = _ from hR.out, List.drop_of_length_le (by rw [hs]; omega)]; rfl
                refine go_ ?_
                refine Jm (by simp) (by simp only [Tryz.results62]; rfl) (by simp [resP, St.box?, PF.get, Jn, TyK.agg, *]; rfl) Nl ?_
                exact ⟨by rw [hf.out]; rfl, rfl⟩
      · have hf : Hid (Qah (.mk 4 n sub) = false) := by rw [show Qah (.mk 4 n sub) = _ from HR.out, Qbg (fun h => hs (by have := h.2.2.1; simp [Qaz] at this; omega))]; rfl
        have hs2 : ¬ (sub.length : Int) = 2 := by omega
        rw [hf.out]
        clear HR hf IH
        refine PCalls.enter Tryz.func62 rfl Tryz.ntmps62 (by simp) ?_
        simp only [Qaa]
        refine go_ ?_
        refine Jd ?_
        intro i0 hi0
        refine go_ ?_
        refine Jm (by simp) (by simp only [Tryz.results62]; rfl) (by simp [resP, St.box?, PF.get, Jn, TyK.agg, *]; rfl) Nl ?_
        exact ⟨rfl, rfl⟩
    · by_cases hs : sub.length = 2
      · by_cases h0 : n < 0
        · have hf : Hid (Qah (.mk 5 n sub) = false) := by rw [show Qah (.mk 5 n sub) = _ from HR.out, Qbg (fun h => absurd h.2.2.2.1 (by omega))]; rfl
          rw [hf.out]
          clear HR hf IH
          refine PCalls.enter Tryz.func62 rfl Tryz.ntmps62 (by simp) ?_
          simp only [Qaa]
          refine go_ ?_
          refine Jd ?_
          intro i0 hi0
          refine go_ ?_
          refine Jm (by simp) (by simp only [Tryz.results62]; rfl) (by simp [resP, St.box?, PF.get, Jn, TyK.agg, *]; rfl) Nl ?_
          exact ⟨rfl, rfl⟩
        · by_cases hm : 0 < n
          · have hf : Hid (Qah (.mk 5 n sub) = false) := by rw [show Qah (.mk 5 n sub) = _ from HR.out, Qbg (fun h => absurd h.2.2.2.2.1 (by simp [Qbb]; omega))]; rfl
            rw [hf.out]
            clear HR hf IH
            refine PCalls.enter Tryz.func62 rfl Tryz.ntmps62 (by simp) ?_
            simp only [Qaa]
            refine go_ ?_
            refine Jd ?_
            intro i0 hi0
            refine go_ ?_
            refine Jm (by simp) (by simp only [Tryz.results62]; rfl) (by simp [resP, St.box?, PF.get, Jn, TyK.agg, *]; rfl) Nl ?_
            exact ⟨rfl, rfl⟩
          · have HR2 : Hid (Qah (.mk 5 n sub) = Qbt sub) := by rw [show Qah (.mk 5 n sub) = _ from HR.out, Qeq ⟨by decide, by decide, by rw [hs]; rfl, by omega, by simp [Qbb]; omega, .inl (by decide)⟩]; rfl
            generalize Qah (.mk 5 n sub) = R at *
            clear HR
            refine PCalls.enter Tryz.func62 rfl Tryz.ntmps62 (by simp) ?_
            simp only [Qaa]
            refine go_ ?_
            refine Jd ?_
            intro i0 hi0
            refine go_ ?_
            refine Qao (ι := Nat) (fun y => y ≤ 2 ∧ Hid (R = Qbt (List.drop y sub))) (fun y => [(1, .ptr i0 0), (3, .d (.v (.int .i64 2))), (5, .d (.v (.int .i64 (y : Int))))]) (fun _ => [.box i0 26 [.d (.v (.int .i64 5)), .d (.v (.int .i64 n)), .d (.sl (sub.map encD))]]) (fun y => 2 - y) 0 ⟨Nat.zero_le _, HR2.out⟩ ?_ ?_ ?_
            · repeat (first | exact Jt _ | refine Js (by simp [PF.get]; rfl) (by first | rfl | (simp [*]; done) | fail) ?_)
            · repeat (first | exact List.Sublist.refl _ | exact List.nil_sublist _ | refine List.Sublist.cons_cons _ ?_ | refine List.Sublist.cons _ ?_)
            · rintro j ⟨hj, hR⟩
              clear HR2
              by_cases hlt : j < 2
              · have hlt2 : j < (sub : List Tm).length := by rw [hs]; exact hlt
                have hx0 := Qar hlt2
                have hc : (j : Int) < 2 := by omega
                have hn : (0 : Int) ≤ j := by omega
                have hin := wr64 (n := (j : Int) + 1) (by omega) (by omega)
                have hR2 : Hid (R = (Qah (sub : List Tm)[j] && Qbt (List.drop (j + 1) sub))) := by
                  rw [show R = _ from hR.out, List.drop_eq_getElem_cons hlt2]
                  show _ = _
                  simp only [Qbt]
                have hc1 := Lib.hid (IH.out _ (List.getElem_mem hlt2))
                clear hR
                generalize Qah (sub : List Tm)[j] = b at *
                cases b with
                | false =>
                  have hf : Hid (R = false) := by rw [show R = _ from hR2.out]; rfl
                  refine go_ ?_
                  refine Jc (hc1.out) ?_
                  refine go_ ?_
                  refine Jm (by simp) (by simp only [Tryz.results62]; rfl) (by simp [resP, St.box?, PF.get, Jn, TyK.agg, *]; rfl) Nl ?_
                  exact ⟨by rw [hf.out]; rfl, rfl⟩
                | true =>
                  have hR3 : Hid (R = Qbt (List.drop (j + 1) sub)) := by rw [show R = _ from hR2.out]; rfl
                  refine go_ ?_
                  refine Jc (hc1.out) ?_
                  refine go_ ?_
                  exact ⟨j + 1, ⟨hlt, hR3⟩, by omega, by repeat (first | exact Jt _ | refine Js (by simp [PF.get]; rfl) (by first | rfl | (simp [*]; done) | fail) ?_), by repeat (first | exact List.Sublist.refl _ | exact List.nil_sublist _ | refine List.Sublist.cons_cons _ ?_ | refine List.Sublist.cons _ ?_)⟩
              · have hc : ¬ (j : Int) < 2 := by omega
                have hf : Hid (R = true) := by rw [show R = _ from hR.out, List.drop_of_length_le (by rw [hs]; omega)]; rfl
                refine go_ ?_
                refine Jm (by simp) (by simp only [Tryz.results62]; rfl) (by simp [resP, St.box?, PF.get, Jn, TyK.agg, *]; rfl) Nl ?_
                exact ⟨by rw [hf.out]; rfl, rfl⟩
      · have hf : Hid (Qah (.mk 5 n sub) = false) := by rw [show Qah (.mk 5 n sub) = _ from HR.out, Qbg (fun h => hs (by have := h.2.2.1; simp [Qaz] at this; omega))]; rfl
        have hs2 : ¬ (sub.length : Int) = 2 := by omega
        rw [hf.out]
        clear HR hf IH
        refine PCalls.enter Tryz.func62 rfl Tryz.ntmps62 (by simp) ?_
        simp only [Qaa]
        refine go_ ?_
        refine Jd ?_
        intro i0 hi0
        refine go_ ?_
        refine Jm (by simp) (by simp only [Tryz.results62]; rfl) (by simp [resP, St.box?, PF.get, Jn, TyK.agg, *]; rfl) Nl ?_
        exact ⟨rfl, rfl⟩
    · by_cases hs : sub = []
      · by_cases h0 : n < 0
        · have hf : Hid (Qah (.mk 6 n sub) = false) := by rw [show Qah (.mk 6 n sub) = _ from HR.out, Qbg (fun h => absurd h.2.2.2.1 (by omega))]; rfl
          rw [hf.out]
          clear HR hf IH
          refine PCalls.enter Tryz.func62 rfl Tryz.ntmps62 (by simp) ?_
          simp only [Qaa]
          refine go_ ?_
          refine Jd ?_
          intro i0 hi0
          refine go_ ?_
          refine Jm (by simp) (by simp only [Tryz.results62]; rfl) (by simp [resP, St.box?, PF.get, Jn, TyK.agg, *]; rfl) Nl ?_
          exact ⟨rfl, rfl⟩
        · by_cases hm : 1048576 < n
          · have hf : Hid (Qah (.mk 6 n sub) = false) := by rw [show Qah (.mk 6 n sub) = _ from HR.out, Qbg (fun h => absurd h.2.2.2.2.1 (by simp [Qbb]; omega))]; rfl
            rw [hf.out]
            clear HR hf IH
            refine PCalls.enter Tryz.func62 rfl Tryz.ntmps62 (by simp) ?_
            simp only [Qaa]
            refine go_ ?_
            refine Jd ?_
            intro i0 hi0
            refine go_ ?_
            refine Jm (by simp) (by simp only [Tryz.results62]; rfl) (by simp [resP, St.box?, PF.get, Jn, TyK.agg, *]; rfl) Nl ?_
            exact ⟨rfl, rfl⟩
          · subst hs
            have HR2 : Hid (Qah (.mk 6 n []) = true) := by rw [show Qah (.mk 6 n []) = _ from HR.out, Qeq ⟨by decide, by decide, rfl, by omega, by simp [Qbb]; omega, .inl (by decide)⟩]; rfl
            generalize Qah (.mk 6 n []) = R at *
            clear HR
            refine PCalls.enter Tryz.func62 rfl Tryz.ntmps62 (by simp) ?_
            simp only [Qaa]
            refine go_ ?_
            refine Jd ?_
            intro i0 hi0
            refine go_ ?_
            refine Qao (ι := Unit) (fun _ => True) (fun _ => [(3, .d (.v (.int .i64 0))), (5, .d (.v (.int .i64 0)))]) (fun _ => []) (fun _ => 0) () trivial ?_ ?_ ?_
            · repeat (first | exact Jt _ | refine Js (by simp [PF.get]; rfl) (by first | rfl | (simp [*]; done) | fail) ?_)
            · repeat (first | exact List.Sublist.refl _ | exact List.nil_sublist _ | refine List.Sublist.cons_cons _ ?_ | refine List.Sublist.cons _ ?_)
            · rintro _ _
              refine go_ ?_
              refine Jm (by simp) (by simp only [Tryz.results62]; rfl) (by simp [resP, St.box?, PF.get, Jn, TyK.agg, *]; rfl) Nl ?_
              exact ⟨by rw [HR2.out]; rfl, rfl⟩
      · have hf : Hid (Qah (.mk 6 n sub) = false) := by rw [show Qah (.mk 6 n sub) = _ from HR.out, Qbg (fun h => hs (List.eq_nil_of_length_eq_zero (by have := h.2.2.1; simp [Qaz] at this; first | exact this | (rw [this]; rfl))))]; rfl
        rw [hf.out]
        clear HR hf IH
        refine PCalls.enter Tryz.func62 rfl Tryz.ntmps62 (by simp) ?_
        simp only [Qaa]
        refine go_ ?_
        refine Jd ?_
        intro i0 hi0
        refine go_ ?_
        refine Jm (by simp) (by simp only [Tryz.results62]; rfl) (by simp [resP, St.box?, PF.get, Jn, TyK.agg, *]; rfl) Nl ?_
        exact ⟨rfl, rfl⟩
    · by_cases hs : sub.length = 1
      · by_cases h0 : n < 0
        · have hf : Hid (Qah (.mk 7 n sub) = false) := by rw [show Qah (.mk 7 n sub) = _ from HR.out, Qbg (fun h => absurd h.2.2.2.1 (by omega))]; rfl
          rw [hf.out]
          clear HR hf IH
          refine PCalls.enter Tryz.func62 rfl Tryz.ntmps62 (by simp) ?_
          simp only [Qaa]
          refine go_ ?_
          refine Jd ?_
          intro i0 hi0
          refine go_ ?_
          refine Jm (by simp) (by simp only [Tryz.results62]; rfl) (by simp [resP, St.box?, PF.get, Jn, TyK.agg, *]; rfl) Nl ?_
          exact ⟨rfl, rfl⟩
        · by_cases hm : 1048576 < n
          · have hf : Hid (Qah (.mk 7 n sub) = false) := by rw [show Qah (.mk 7 n sub) = _ from HR.out, Qbg (fun h => absurd h.2.2.2.2.1 (by simp [Qbb]; omega))]; rfl
            rw [hf.out]
            clear HR hf IH
            refine PCalls.enter Tryz.func62 rfl Tryz.ntmps62 (by simp) ?_
            simp only [Qaa]
            refine go_ ?_
            refine Jd ?_
            intro i0 hi0
            refine go_ ?_
            refine Jm (by simp) (by simp only [Tryz.results62]; rfl) (by simp [resP, St.box?, PF.get, Jn, TyK.agg, *]; rfl) Nl ?_
            exact ⟨rfl, rfl⟩
          · match sub, hs with
            | [x], _ =>
            by_cases hx : x.kind = 2
            rotate_left
            · have hf : Hid (Qah (.mk 7 n [x]) = false) := by rw [show Qah (.mk 7 n [x]) = _ from HR.out, Qbg (k := 7) (n := n) (sub := [x]) (fun h => hx (h.2.2.2.2.2.resolve_left (fun h => h rfl)))]; rfl
              rw [hf.out]
              clear HR hf IH
              refine PCalls.enter Tryz.func62 rfl Tryz.ntmps62 (by simp) ?_
              simp only [Qaa]
              refine go_ ?_
              refine Jd ?_
              intro i0 hi0
              refine go_ ?_
              refine Jm (by simp) (by simp only [Tryz.results62]; rfl) (by simp [resP, St.box?, PF.get, Jn, TyK.agg, *]; rfl) Nl ?_
              exact ⟨rfl, rfl⟩
            · have HR2 : Hid (Qah (.mk 7 n [x]) = Qbt [x]) := by rw [show Qah (.mk 7 n [x]) = _ from HR.out, Qeq (k := 7) (n := n) (sub := [x]) ⟨by decide, by decide, rfl, by omega, by simp [Qbb]; omega, .inr hx⟩]; rfl
              have hx2 : (x.kind != 2) = false := by rw [hx]; rfl
              clear hx
              generalize Qah (.mk 7 n [x]) = R at *
              clear HR
              refine PCalls.enter Tryz.func62 rfl Tryz.ntmps62 (by simp) ?_
              simp only [Qaa]
              refine go_ ?_
              refine Jd ?_
              intro i0 hi0
              refine go_ ?_
              refine Qao (ι := Nat) (fun y => y ≤ 1 ∧ Hid (R = Qbt (List.drop y [x]))) (fun y => [(1, .ptr i0 0), (3, .d (.v (.int .i64 1))), (5, .d (.v (.int .i64 (y : Int))))]) (fun _ => [.box i0 26 [.d (.v (.int .i64 7)), .d (.v (.int .i64 n)), .d (.sl ([[.v (.int .i64 x.kind), .v (.int .i64 x.num), .sl (x.sub.map encD)]]))]]) (fun y => 1 - y) 0 ⟨Nat.zero_le _, HR2.out⟩ ?_ ?_ ?_
              · repeat (first | exact Jt _ | refine Js (by simp [PF.get]; rfl) (by first | rfl | (simp [*]; done) | fail) ?_)
              · repeat (first | exact List.Sublist.refl _ | exact List.nil_sublist _ | refine List.Sublist.cons_cons _ ?_ | refine List.Sublist.cons _ ?_)
              · rintro j ⟨hj, hR⟩
                clear HR2
                by_cases hlt : j < 1
                · obtain rfl : j = 0 := by omega
                  have hR2 : Hid (R = (Qah x && Qbt [])) := by rw [show R = _ from hR.out]; rfl
                  have hc1 := Lib.hid (IH.out x (by simp))
                  clear hR
                  generalize Qah x = b at *
                  cases b with
                  | false =>
                    have hf : Hid (R = false) := by rw [show R = _ from hR2.out]; rfl
                    refine go_ ?_
                    refine Jc (hc1.out) ?_
                    refine go_ ?_
                    refine Jm (by simp) (by simp only [Tryz.results62]; rfl) (by simp [resP, St.box?, PF.get, Jn, TyK.agg, *]; rfl) Nl ?_
                    exact ⟨by rw [hf.out]; rfl, rfl⟩
                  | true =>
                    have hR3 : Hid (R = Qbt (List.drop (0 + 1) [x])) := by rw [show R = _ from hR2.out]; rfl
                    refine go_ ?_
                    refine Jc (hc1.out) ?_
                    refine go_ ?_
                    exact ⟨0 + 1, ⟨by omega, hR3⟩, by omega, by repeat (first | exact Jt _ | refine Js (by simp [PF.get]; rfl) (by first | rfl | (simp [*]; done) | fail) ?_), by repeat (first | exact List.Sublist.refl _ | exact List.nil_sublist _ | refine List.Sublist.cons_cons _ ?_ | refine List.Sublist.cons _ ?_)⟩
                · have hc : ¬ (j : Int) < 1 := by omega
                  have hf : Hid (R = true) := by rw [show R = _ from hR.out, List.drop_of_length_le (by simp; omega)]; rfl
                  refine go_ ?_
                  refine Jm (by simp) (by simp only [Tryz.results62]; rfl) (by simp [resP, St.box?, PF.get, Jn, TyK.agg, *]; rfl) Nl ?_
                  exact ⟨by rw [hf.out]; rfl, rfl⟩
      · have hf : Hid (Qah (.mk 7 n sub) = false) := by rw [show Qah (.mk 7 n sub) = _ from HR.out, Qbg (fun h => hs (by have := h.2.2.1; simp [Qaz] at this; omega))]; rfl
        have hs2 : ¬ (sub.length : Int) = 1 := by omega
        rw [hf.out]
        clear HR hf IH
        refine PCalls.enter Tryz.func62 rfl Tryz.ntmps62 (by simp) ?_
        simp only [Qaa]
        refine go_ ?_
        refine Jd ?_
        intro i0 hi0
        refine go_ ?_
        refine Jm (by simp) (by simp only [Tryz.results62]; rfl) (by simp [resP, St.box?, PF.get, Jn, TyK.agg, *]; rfl) Nl ?_
        exact ⟨rfl, rfl⟩
    · by_cases hs : sub = []
      · by_cases h0 : n < 0
        · have hf : Hid (Qah (.mk 8 n sub) = false) := by rw [show Qah (.mk 8 n sub) = _ from HR.out, Qbg (fun h => absurd h.2.2.2.1 (by omega))]; rfl
          rw [hf.out]
          clear HR hf IH
          refine PCalls.enter Tryz.func62 rfl Tryz.ntmps62 (by simp) ?_
          simp only [Qaa]
          refine go_ ?_
          refine Jd ?_
          intro i0 hi0
          refine go_ ?_
          refine Jm (by simp) (by simp only [Tryz.results62]; rfl) (by simp [resP, St.box?, PF.get, Jn, TyK.agg, *]; rfl) Nl ?_
          exact ⟨rfl, rfl⟩
        · by_cases hm : 1048576 < n
          · have hf : Hid (Qah (.mk 8 n sub) = false) := by rw [show Qah (.mk 8 n sub) = _ from HR.out, Qbg (fun h => absurd h.2.2.2.2.1 (by simp [Qbb]; omega))]; rfl
            rw [hf.out]
            clear HR hf IH
            refine PCalls.enter Tryz.func62 rfl Tryz.ntmps62 (by simp) ?_
            simp only [Qaa]
            refine go_ ?_
            refine Jd ?_
            intro i0 hi0
            refine go_ ?_
            refine Jm (by simp) (by simp only [Tryz.results62]; rfl) (by simp [resP, St.box?, PF.get, Jn, TyK.agg, *]; rfl) Nl ?_
            exact ⟨rfl, rfl⟩
          · subst hs
            have HR2 : Hid (Qah (.mk 8 n []) = true) := by rw [show Qah (.mk 8 n []) = _ from HR.out, Qeq ⟨by decide, by decide, rfl, by omega, by simp [Qbb]; omega, .inl (by decide)⟩]; rfl
            generalize Qah (.mk 8 n []) = R at *
            clear HR
            refine PCalls.enter Tryz.func62 rfl Tryz.ntmps62 (by simp) ?_
            simp only [Qaa]
            refine go_ ?_
            refine Jd ?_
            intro i0 hi0
            refine go_ ?_
            refine Qao (ι := Unit) (fun _ => True) (fun _ => [(3, .d (.v (.int .i64 0))), (5, .d (.v (.int .i64 0)))]) (fun _ => []) (fun _ => 0) () trivial ?_ ?_ ?_
            · repeat (first | exact Jt _ | refine Js (by simp [PF.get]; rfl) (by first | rfl | (simp [*]; done) | fail) ?_)
            · repeat (first | exact List.Sublist.refl _ | exact List.nil_sublist _ | refine List.Sublist.cons_cons _ ?_ | refine List.Sublist.cons _ ?_)
            · rintro _ _
              refine go_ ?_
              refine Jm (by simp) (by simp only [Tryz.results62]; rfl) (by simp [resP, St.box?, PF.get, Jn, TyK.agg, *]; rfl) Nl ?_
              exact ⟨by rw [HR2.out]; rfl, rfl⟩
      · have hf : Hid (Qah (.mk 8 n sub) = false) := by rw [show Qah (.mk 8 n sub) = _ from HR.out, Qbg (fun h => hs (List.eq_nil_of_length_eq_zero (by have := h.2.2.1; simp [Qaz] at this; first | exact this | (rw [this]; rfl))))]; rfl
        rw [hf.out]
        clear HR hf IH
        refine PCalls.enter Tryz.func62 rfl Tryz.ntmps62 (by simp) ?_
        simp only [Qaa]
        refine go_ ?_
        refine Jd ?_
        intro i0 hi0
        refine go_ ?_
        refine Jm (by simp) (by simp only [Tryz.results62]; rfl) (by simp [resP, St.box?, PF.get, Jn, TyK.agg, *]; rfl) Nl ?_
        exact ⟨rfl, rfl⟩
theorem Qiy (t : Tm) : PCalls Tryz.prog 15 [aggD t] [] fun p s => p = .d (.v (.bool (Qak t))) ∧ s = [] := by
 have hD := Lib.hid (rDepth_p t)
 have hG := Lib.hid (rgood_p t)
 have HR := Lib.hid (show Qak t = (decide (Qcv t ≤ 128) && Qah t) from rfl)
 generalize Qcv t = z at *
 generalize Qah t = g at *
 simp only [aggD, Jl, List.map_cons, List.map_nil]
 by_cases hz : z ≤ 128
 ·rw [HR.out]
  refine PCalls.enter Tryz.func15 rfl Tryz.ntmps15 (by simp) ?_
  simp only [Qaa]
  refine go_ ?_
  refine Jd ?_
  intro i0 hi0
  refine go_ ?_
  refine Jc (hD.out) ?_
  refine go_ ?_
  refine Jc (hG.out) ?_
  refine go_ ?_
  refine Jm (by simp) (by simp only [Tryz.results15]; rfl) (by simp [resP, St.box?, PF.get, Jn, TyK.agg, *]; rfl) Nl ?_
  exact ⟨by simp [hz] <;> rfl, rfl⟩
 ·rw [HR.out]
  refine PCalls.enter Tryz.func15 rfl Tryz.ntmps15 (by simp) ?_
  simp only [Qaa]
  refine go_ ?_
  refine Jd ?_
  intro i0 hi0
  refine go_ ?_
  refine Jc (hD.out) ?_
  refine go_ ?_
  refine Jm (by simp) (by simp only [Tryz.results15]; rfl) (by simp [resP, St.box?, PF.get, Jn, TyK.agg, *]; rfl) Nl ?_
  exact ⟨by simp [hz] <;> rfl, rfl⟩
theorem eqT_mk (k n k' n' : Int) (s s' : List Tm) : ceqT (.mk k n s) (.mk k' n' s') = ((k == k') && (n == n') && ceqL s s') := by simp only [ceqT]
theorem eqL_ne {a b : List Tm} (h : ¬ a.length = b.length) : ceqL a b = false := by
 cases e : ceqL a b with
 | false => rfl
 | true => exact absurd (ceqL_length e) h
theorem eqL_step {a b : List Tm} {j : Nat} (h1 : j < a.length) (h2 : j < b.length) : ceqL (a.drop j) (b.drop j) = (ceqT a[j] b[j] && ceqL (a.drop (j + 1)) (b.drop (j + 1))) := by
 rw [List.drop_eq_getElem_cons h1, List.drop_eq_getElem_cons h2]
 simp only [ceqL]
theorem eqL_end {a b : List Tm} {j : Nat} (h1 : a.length ≤ j) (h2 : b.length ≤ j) : ceqL (a.drop j) (b.drop j) = true := by
 rw [List.drop_of_length_le h1, List.drop_of_length_le h2]; rfl
theorem requal_p : ∀ (t u : Tm), PCalls Tryz.prog 21 [aggD t, aggD u] [] fun p s => p = .d (.v (.bool (ceqT t u))) ∧ s = [] := by
  refine Tm.ind ?_
  intro k n a ih u
  obtain ⟨k', n', b⟩ := u
  rw [eqT_mk]
  simp only [aggD, Jl, List.map_cons, List.map_nil, Jv, Jw, Jx]
  have IH := Lib.hid ih
  clear ih
  by_cases hk : k = k'
  rotate_left
  · have hf : ((k == k') && (n == n') && ceqL a b) = false := by rw [beq_eq_false_iff_ne.2 hk]; rfl
    rw [hf]
    clear hf
    refine PCalls.enter Tryz.func21 rfl Tryz.ntmps21 (by simp) ?_
    simp only [Qaa]
    refine go_ ?_
    refine Jd ?_
    intro i0 hi0
    refine go_ ?_
    refine Jd ?_
    intro i1 hi1
    try simp only [Ja, Rh, Rg, Jb] at hi1
    refine go_ ?_
    refine Jm (by simp) (by simp only [Tryz.results21]; rfl) (by simp [resP, St.box?, PF.get, Jn, TyK.agg, *]; rfl) Nl ?_
    exact ⟨rfl, rfl⟩
  by_cases hn : n = n'
  rotate_left
  · have hf : ((k == k') && (n == n') && ceqL a b) = false := by rw [beq_eq_false_iff_ne.2 hn, Bool.and_false]; rfl
    rw [hf]
    clear hf
    subst hk
    refine PCalls.enter Tryz.func21 rfl Tryz.ntmps21 (by simp) ?_
    simp only [Qaa]
    refine go_ ?_
    refine Jd ?_
    intro i0 hi0
    refine go_ ?_
    refine Jd ?_
    intro i1 hi1
    try simp only [Ja, Rh, Rg, Jb] at hi1
    refine go_ ?_
    refine Jm (by simp) (by simp only [Tryz.results21]; rfl) (by simp [resP, St.box?, PF.get, Jn, TyK.agg, *]; rfl) Nl ?_
    exact ⟨rfl, rfl⟩
  subst hk hn
  by_cases hl : a.length = b.length
  rotate_left
  · rw [eqL_ne hl, Bool.and_false]
    have hl2 : ((a.length : Int) != b.length) = true := bne_iff_ne.2 (by omega)
    refine PCalls.enter Tryz.func21 rfl Tryz.ntmps21 (by simp) ?_
    simp only [Qaa]
    refine go_ ?_
    refine Jd ?_
    intro i0 hi0
    refine go_ ?_
    refine Jd ?_
    intro i1 hi1
    try simp only [Ja, Rh, Rg, Jb] at hi1
    refine go_ ?_
    refine Jm (by simp) (by simp only [Tryz.results21]; rfl) (by simp [resP, St.box?, PF.get, Jn, TyK.agg, *]; rfl) Nl ?_
    exact ⟨rfl, rfl⟩
  obtain ⟨m, ha, hb⟩ : ∃ m, a.length = m ∧ b.length = m := ⟨_, hl, rfl⟩
  clear hl
  obtain ⟨R, hR0⟩ : ∃ R, R = ceqL a b := ⟨_, rfl⟩
  rw [← hR0, beq_self_eq_true, beq_self_eq_true, Bool.true_and, Bool.true_and]
  have HR0 := Lib.hid hR0
  clear hR0
  refine PCalls.enter Tryz.func21 rfl Tryz.ntmps21 (by simp) ?_
  simp only [Qaa]
  refine Qif (t := 0) (i := 2) (rows := a.map encD) (by simp [PF.get] <;> rfl) rfl fun hml => ?_
  rw [List.length_map, ha] at hml
  refine go_ ?_
  refine Jd ?_
  intro i0 hi0
  refine go_ ?_
  refine Jd ?_
  intro i1 hi1
  try simp only [Ja, Rh, Rg, Jb] at hi1
  refine go_ ?_
  refine Qao (ι := Nat) (fun y => y ≤ m ∧ Hid (R = ceqL (a.drop y) (b.drop y))) (fun y => [(2, .ptr i0 0), (3, .ptr i1 0), (5, .d (.v (.int .i64 (y : Int))))]) (fun _ => [.box i1 26 [.d (.v (.int .i64 k)), .d (.v (.int .i64 n)), .d (.sl (b.map encD))], .box i0 26 [.d (.v (.int .i64 k)), .d (.v (.int .i64 n)), .d (.sl (a.map encD))]]) (fun y => m - y) 0 ⟨Nat.zero_le _, HR0.out⟩ ?_ ?_ ?_
  · repeat (first | exact Jt _ | refine Js (by simp [PF.get]; rfl) (by first | rfl | (simp [*]; done) | fail) ?_)
  · repeat (first | exact List.Sublist.refl _ | exact List.nil_sublist _ | refine List.Sublist.cons_cons _ ?_ | refine List.Sublist.cons _ ?_)
  · rintro j ⟨hj, hR⟩
    clear HR0
    unfold maxLen at hml
    by_cases hlt : j < m
    · have h1 : j < a.length := by omega
      have h2 : j < b.length := by omega
      have hx := Qar h1
      have hy := Qar h2
      have hc : (j : Int) < m := by omega
      have hn : (0 : Int) ≤ j := by omega
      have hin := wr64 (n := (j : Int) + 1) (by omega) (by omega)
      have hR2 : Hid (R = (ceqT a[j] b[j] && ceqL (a.drop (j + 1)) (b.drop (j + 1)))) := by rw [show R = _ from hR.out, eqL_step h1 h2]; rfl
      have hc1 := Lib.hid (IH.out _ (List.getElem_mem h1) b[j])
      clear hR
      generalize ceqT a[j] b[j] = e at *
      cases e with
      | false =>
        have hf : Hid (R = false) := by rw [show R = _ from hR2.out]; rfl
        refine go_ ?_
        refine Qay [(0, .a), (1, .b), (2, .a), (3, .a), (4, .a), (5, .a), (6, .b), (7, .a), (8, .a), (9, .a), (10, .a), (11, .a)] (by kernel_rfl) (by rfl) (by kernel_rfl) ?_
        refine go_ ?_
        refine Qbd (hc1.out) ?_
        refine go_ ?_
        refine Jm (by simp) (by simp only [Tryz.results21]; rfl) (by simp [resP, St.box?, PF.get, Jn, TyK.agg, *]; rfl) Nl ?_
        exact ⟨by rw [hf.out]; rfl, rfl⟩
      | true =>
        have hR3 : Hid (R = ceqL (a.drop (j + 1)) (b.drop (j + 1))) := by rw [show R = _ from hR2.out]; rfl
        refine go_ ?_
        refine Qay [(0, .a), (1, .b), (2, .a), (3, .a), (4, .a), (5, .a), (6, .b), (7, .a), (8, .a), (9, .a), (10, .a), (11, .a)] (by kernel_rfl) (by rfl) (by kernel_rfl) ?_
        refine go_ ?_
        refine Qbd (hc1.out) ?_
        refine go_ ?_
        exact ⟨j + 1, ⟨hlt, hR3⟩, by omega, by repeat (first | exact Jt _ | refine Js (by simp [PF.get]; rfl) (by first | rfl | (simp [*]; done) | fail) ?_), by repeat (first | exact List.Sublist.refl _ | exact List.nil_sublist _ | refine List.Sublist.cons_cons _ ?_ | refine List.Sublist.cons _ ?_)⟩
    · have hc : ¬ (j : Int) < m := by omega
      have hf : Hid (R = true) := by rw [show R = _ from hR.out, eqL_end (by omega) (by omega)]; rfl
      refine go_ ?_
      refine Jm (by simp) (by simp only [Tryz.results21]; rfl) (by simp [resP, St.box?, PF.get, Jn, TyK.agg, *]; rfl) Nl ?_
      exact ⟨by rw [hf.out]; rfl, rfl⟩
theorem PCalls.norm {P : Program} {f : FuncId} {args : List PV} {st : St} {R R' : PV → St → Prop} (h : PCalls P f args st R) (hr : ∀ p s, R p s → R' p.norm0 []) : PCalls P f args st R' :=
 fun F K w vs h1 h2 => (h F K w vs h1 h2).mono fun _ _ ⟨v, K', p, _, a, b, c, d, e⟩ => ⟨v, K', p.norm0, [], a, b, c.sub Nl, Qiv _ _ _ _ d, hr _ _ e⟩
theorem Qgn (l : List Int) : ∀ row ∈ l.map encD, row.length = 1 := rows_of rfl
theorem cnd_mem {l : List Tm} : ∀ s ∈ l, cndT s ≤ cndL l := by
  induction l with
  | nil => intro s hs; cases hs
  | cons t ts ih =>
    intro s hs
    simp only [cndL]
    rcases List.mem_cons.1 hs with rfl | hs
    · omega
    · have := ih s hs; omega
theorem rows1a (l m : List Int) : ∀ row ∈ l.map encD ++ m.map encD, row.length = 1 := fun row h => (List.mem_append.1 h).elim (Qgn _ row) (Qgn _ row)
theorem clS_take {a b : Int} {l : List Tm} {j : Nat} (h : j < l.length) : clS a b (l.take (j + 1)) = clS a b (l.take j) ++ clT a b l[j] := by
 rw [List.take_succ_eq_append_getElem h, clS_append]
 simp only [clS, List.append_nil]
theorem clS_len (a b : Int) (l : List Tm) : (clS a b l).length ≤ cndL l := by
  induction l with
  | nil => exact Nat.le_refl _
  | cons t ts ih =>
    have := cl_len a b t
    simp only [clS, cndL, List.length_append]; omega
theorem collect_o : ∀ (t : Tm) (a b : Int), cndT t ≤ 100000 → PCalls Tryz.prog 214 [aggD t, .d (.v (.int .i64 a)), .d (.v (.int .i64 b))] [] fun p s => ∃ g, p = .own g ((clT a b t).map encD) ∧ s = [.tok g 3 1 (clT a b t).length] := by
 refine Tm.ind ?_
 intro k n sub ih a b hnd
 have hc0 : clT a b (.mk k n sub) = (if k = a ∨ k = b then [n] else []) ++ clS a b sub := by simp only [clT]
 have hns : cndL sub ≤ 100000 := by simp only [cndT] at hnd; omega
 have IH : Hid (∀ s ∈ sub, PCalls Tryz.prog 214 [aggD s, .d (.v (.int .i64 a)), .d (.v (.int .i64 b))] [] fun p st => p = .d (.sl ((clT a b s).map encD)) ∧ st = []) := fun s hs =>
  (ih s hs a b (by have := cnd_mem s hs; omega)).norm fun p st ⟨g, e1, e2⟩ => ⟨by rw [e1]; rfl, rfl⟩
 have hl0 : (if k = a ∨ k = b then [n] else []).length ≤ 1 := by split <;> simp
 simp only [aggD, Jl, List.map_cons, List.map_nil, Jv, Jw, Jx]
 clear ih hnd
 rw [hc0]
 clear hc0
 obtain ⟨r0, hr0⟩ : ∃ r0, (if k = a ∨ k = b then [n] else []) = r0 := ⟨_, rfl⟩
 rw [hr0] at hl0 ⊢
 refine PCalls.enter Tryz.func214 rfl Tryz.ntmps214 (by simp) ?_
 simp only [Qaa]
 refine go_ ?_
 refine Jd ?_
 intro i0 hi0
 refine Qq ?_
 refine Qh ?_
 refine Qj ?_
 refine gs_ ?_
 refine Qc ?_
 refine gs_ ?_
 refine PW_own 7 3 1 (by decide) (by simp [PF.get] <;> rfl) fun g hg => ?_
 by_cases hk : k = a ∨ k = b
 ·rw [if_pos hk] at hr0
  by_cases h1 : k = a
  ·clear hk
   refine go_ ?_
   refine Qam ?_
   refine go_ ?_
   refine Qai 1 ?_ ?_ ?_ ?_
   ·rfl
   ·simp
   ·simp
   refine gs_ ?_
   clear h1
   refine go_ ?_
   refine Qif (t := 0) (i := 2) (rows := sub.map encD) (by simp [PF.get] <;> rfl) rfl fun hml => ?_
   rw [List.length_map] at hml
   refine Qao (ι := Nat) (fun y => y ≤ sub.length) (fun y => [(1, .d (.v (.int .i64 a))), (2, .d (.v (.int .i64 b))), (7, .own g ((r0 ++ clS a b (sub.take y)).map encD)), (26, .d (.sl (sub.map encD))), (27, .d (.v (.int .i64 sub.length))), (28, .d (.v (.int .i64 (y : Int))))]) (fun y => [.tok g 3 1 (r0 ++ clS a b (sub.take y)).length]) (fun y => sub.length - y) 0 (Nat.zero_le _) ?_ ?_ ?_
   ·subst hr0
    repeat (first | exact Jt _ | refine Js (by simp [PF.get]; rfl) (by first | rfl | (simp [clS, List.take_zero, List.append_nil]; done) | fail) ?_)
   ·subst hr0
    simp only [clS, List.take_zero, List.append_nil]
    repeat (first | exact List.Sublist.refl _ | exact List.nil_sublist _ | refine List.Sublist.cons_cons _ ?_ | refine List.Sublist.cons _ ?_)
   ·rintro j hj
    clear hr0
    unfold maxLen at hml
    by_cases hlt : j < sub.length
    ·have hx := Qar hlt
     have hc : (j : Int) < sub.length := by omega
     have hn : (0 : Int) ≤ j := by omega
     have hin := wr64 (n := (j : Int) + 1) (by omega) (by omega)
     have hT := clS_take (a := a) (b := b) hlt
     have hlen := Nat.le_trans (clS_len a b (sub.take (j + 1))) (Nat.le_trans (Qfs sub (j + 1)) hns)
     rw [hT, List.length_append] at hlen
     have hlA : (r0 ++ clS a b (sub.take j)).length ≤ 100001 := by rw [List.length_append]; omega
     have HT := Lib.hid hT
     clear hT
     have hc1 := Lib.hid (IH.out _ (List.getElem_mem hlt))
     generalize clT a b sub[j] = x at *
     refine go_ ?_
     refine Je ?_
     intro i2 hi2
     try simp only [Ja, Rh, Rg, Jb] at hi2
     refine go_ ?_
     refine Rd ?_
     refine go_ ?_
     refine Jc (hc1.out) ?_
     refine go_ ?_
     refine Qai ((r0 ++ clS a b (sub.take j)).length + x.length) ?_ ?_ ?_ ?_
     ·simp
     ·exact rows1a _ _
     ·exact Qgn _
     refine go_ ?_
     refine ⟨j + 1, hlt, by omega, ?_, ?_⟩
     ·rw [HT.out, ← List.append_assoc]
      repeat (first | exact Jt _ | refine Js (by simp [PF.get]; rfl) (by first | rfl | (simp [*]; done) | fail) ?_)
     ·rw [HT.out, ← List.append_assoc]
      simp only [List.length_append]
      repeat (first | exact List.Sublist.refl _ | exact List.nil_sublist _ | refine List.Sublist.cons_cons _ ?_ | refine List.Sublist.cons _ ?_)
    ·have hc : ¬ (j : Int) < sub.length := by omega
     have htk : sub.take j = sub := List.take_of_length_le (by omega)
     rw [htk]
     refine go_ ?_
     refine Qfv (st' := [.tok g 3 1 (r0 ++ clS a b sub).length]) (by simp) (by simp only [Tryz.results214]; rfl) (by simp [resP, PF.get]; rfl) (by repeat (first | exact List.Sublist.refl _ | exact List.nil_sublist _ | refine List.Sublist.cons_cons _ ?_ | refine List.Sublist.cons _ ?_)) ⟨g, by simp [tupP], rfl⟩
  ·have h2 : k = b := hk.resolve_left h1
   clear hk
   have h1b : ¬ b = a := fun e => h1 (h2.trans e)
   refine go_ ?_
   refine Qam ?_
   refine go_ ?_
   refine Qai 1 ?_ ?_ ?_ ?_
   ·rfl
   ·simp
   ·simp
   refine gs_ ?_
   clear h1 h2 h1b
   refine go_ ?_
   refine Qif (t := 0) (i := 2) (rows := sub.map encD) (by simp [PF.get] <;> rfl) rfl fun hml => ?_
   rw [List.length_map] at hml
   refine Qao (ι := Nat) (fun y => y ≤ sub.length) (fun y => [(1, .d (.v (.int .i64 a))), (2, .d (.v (.int .i64 b))), (7, .own g ((r0 ++ clS a b (sub.take y)).map encD)), (26, .d (.sl (sub.map encD))), (27, .d (.v (.int .i64 sub.length))), (28, .d (.v (.int .i64 (y : Int))))]) (fun y => [.tok g 3 1 (r0 ++ clS a b (sub.take y)).length]) (fun y => sub.length - y) 0 (Nat.zero_le _) ?_ ?_ ?_
   ·subst hr0
    repeat (first | exact Jt _ | refine Js (by simp [PF.get]; rfl) (by first | rfl | (simp [clS, List.take_zero, List.append_nil]; done) | fail) ?_)
   ·subst hr0
    simp only [clS, List.take_zero, List.append_nil]
    repeat (first | exact List.Sublist.refl _ | exact List.nil_sublist _ | refine List.Sublist.cons_cons _ ?_ | refine List.Sublist.cons _ ?_)
   ·rintro j hj
    clear hr0
    unfold maxLen at hml
    by_cases hlt : j < sub.length
    ·have hx := Qar hlt
     have hc : (j : Int) < sub.length := by omega
     have hn : (0 : Int) ≤ j := by omega
     have hin := wr64 (n := (j : Int) + 1) (by omega) (by omega)
     have hT := clS_take (a := a) (b := b) hlt
     have hlen := Nat.le_trans (clS_len a b (sub.take (j + 1))) (Nat.le_trans (Qfs sub (j + 1)) hns)
     rw [hT, List.length_append] at hlen
     have hlA : (r0 ++ clS a b (sub.take j)).length ≤ 100001 := by rw [List.length_append]; omega
     have HT := Lib.hid hT
     clear hT
     have hc1 := Lib.hid (IH.out _ (List.getElem_mem hlt))
     generalize clT a b sub[j] = x at *
     refine go_ ?_
     refine Je ?_
     intro i2 hi2
     try simp only [Ja, Rh, Rg, Jb] at hi2
     refine go_ ?_
     refine Rd ?_
     refine go_ ?_
     refine Jc (hc1.out) ?_
     refine go_ ?_
     refine Qai ((r0 ++ clS a b (sub.take j)).length + x.length) ?_ ?_ ?_ ?_
     ·simp
     ·exact rows1a _ _
     ·exact Qgn _
     refine go_ ?_
     refine ⟨j + 1, hlt, by omega, ?_, ?_⟩
     ·rw [HT.out, ← List.append_assoc]
      repeat (first | exact Jt _ | refine Js (by simp [PF.get]; rfl) (by first | rfl | (simp [*]; done) | fail) ?_)
     ·rw [HT.out, ← List.append_assoc]
      simp only [List.length_append]
      repeat (first | exact List.Sublist.refl _ | exact List.nil_sublist _ | refine List.Sublist.cons_cons _ ?_ | refine List.Sublist.cons _ ?_)
    ·have hc : ¬ (j : Int) < sub.length := by omega
     have htk : sub.take j = sub := List.take_of_length_le (by omega)
     rw [htk]
     refine go_ ?_
     refine Qfv (st' := [.tok g 3 1 (r0 ++ clS a b sub).length]) (by simp) (by simp only [Tryz.results214]; rfl) (by simp [resP, PF.get]; rfl) (by repeat (first | exact List.Sublist.refl _ | exact List.nil_sublist _ | refine List.Sublist.cons_cons _ ?_ | refine List.Sublist.cons _ ?_)) ⟨g, by simp [tupP], rfl⟩
 ·rw [if_neg hk] at hr0
  have h1 : ¬ k = a := fun h => hk (.inl h)
  have h2 : ¬ k = b := fun h => hk (.inr h)
  clear hk
  refine go_ ?_
  refine Qif (t := 0) (i := 2) (rows := sub.map encD) (by simp [PF.get] <;> rfl) rfl fun hml => ?_
  rw [List.length_map] at hml
  refine Qao (ι := Nat) (fun y => y ≤ sub.length) (fun y => [(1, .d (.v (.int .i64 a))), (2, .d (.v (.int .i64 b))), (7, .own g ((r0 ++ clS a b (sub.take y)).map encD)), (26, .d (.sl (sub.map encD))), (27, .d (.v (.int .i64 sub.length))), (28, .d (.v (.int .i64 (y : Int))))]) (fun y => [.tok g 3 1 (r0 ++ clS a b (sub.take y)).length]) (fun y => sub.length - y) 0 (Nat.zero_le _) ?_ ?_ ?_
  ·subst hr0
   repeat (first | exact Jt _ | refine Js (by simp [PF.get]; rfl) (by first | rfl | (simp [clS, List.take_zero, List.append_nil]; done) | fail) ?_)
  ·subst hr0
   simp only [clS, List.take_zero, List.append_nil]
   repeat (first | exact List.Sublist.refl _ | exact List.nil_sublist _ | refine List.Sublist.cons_cons _ ?_ | refine List.Sublist.cons _ ?_)
  ·rintro j hj
   clear hr0
   unfold maxLen at hml
   by_cases hlt : j < sub.length
   ·have hx := Qar hlt
    have hc : (j : Int) < sub.length := by omega
    have hn : (0 : Int) ≤ j := by omega
    have hin := wr64 (n := (j : Int) + 1) (by omega) (by omega)
    have hT := clS_take (a := a) (b := b) hlt
    have hlen := Nat.le_trans (clS_len a b (sub.take (j + 1))) (Nat.le_trans (Qfs sub (j + 1)) hns)
    rw [hT, List.length_append] at hlen
    have hlA : (r0 ++ clS a b (sub.take j)).length ≤ 100001 := by rw [List.length_append]; omega
    have HT := Lib.hid hT
    clear hT
    have hc1 := Lib.hid (IH.out _ (List.getElem_mem hlt))
    generalize clT a b sub[j] = x at *
    refine go_ ?_
    refine Je ?_
    intro i2 hi2
    try simp only [Ja, Rh, Rg, Jb] at hi2
    refine go_ ?_
    refine Rd ?_
    refine go_ ?_
    refine Jc (hc1.out) ?_
    refine go_ ?_
    refine Qai ((r0 ++ clS a b (sub.take j)).length + x.length) ?_ ?_ ?_ ?_
    ·simp
    ·exact rows1a _ _
    ·exact Qgn _
    refine go_ ?_
    refine ⟨j + 1, hlt, by omega, ?_, ?_⟩
    ·rw [HT.out, ← List.append_assoc]
     repeat (first | exact Jt _ | refine Js (by simp [PF.get]; rfl) (by first | rfl | (simp [*]; done) | fail) ?_)
    ·rw [HT.out, ← List.append_assoc]
     simp only [List.length_append]
     repeat (first | exact List.Sublist.refl _ | exact List.nil_sublist _ | refine List.Sublist.cons_cons _ ?_ | refine List.Sublist.cons _ ?_)
   ·have hc : ¬ (j : Int) < sub.length := by omega
    have htk : sub.take j = sub := List.take_of_length_le (by omega)
    rw [htk]
    refine go_ ?_
    refine Qfv (st' := [.tok g 3 1 (r0 ++ clS a b sub).length]) (by simp) (by simp only [Tryz.results214]; rfl) (by simp [resP, PF.get]; rfl) (by repeat (first | exact List.Sublist.refl _ | exact List.nil_sublist _ | refine List.Sublist.cons_cons _ ?_ | refine List.Sublist.cons _ ?_)) ⟨g, by simp [tupP], rfl⟩
end Go.Proofs.YtdklpbefbamchaaGreat
namespace Go.Proofs.YtdklpbefbamchaaGreat
open Go.RowKit Go.Shelf
theorem rep_tm {S : Nat → Prop} {w : World} {t : Tm} {cs : List Value} : Rep S w t cs ↔ ∃ v, cs = [.int .i64 t.kind, .int .i64 t.num, v] ∧ RepS S w v t.sub := by
 cases t with
 | mk k n sub =>
 unfold Rep RepS
 simp only [Enc.enc, Enc.sz, tmD, Qkd, RepF, Tm.kind, Tm.num, Tm.sub]
 constructor
 ·rintro ⟨c, cr, rfl, h1, c, cr, rfl, h2, c, cr, rfl, h5, rfl⟩
  simp only [RepV] at h1 h2
  obtain ⟨rfl, -⟩ := h1
  obtain ⟨rfl, -⟩ := h2
  exact ⟨_, rfl, h5⟩
 ·rintro ⟨v, rfl, h5⟩
  exact ⟨_, _, rfl, by simp [RepV, Value.oneCell'], _, _, rfl, by simp [RepV, Value.oneCell'], _, _, rfl, h5, rfl⟩
theorem PCalls.ownI {P : Program} {f : FuncId} {args : List PV} {E : TypeId} {l : List Int} (h : PCalls P f args [] fun p s => ∃ g, p = .own g (l.map encD) ∧ s = [.tok g E 1 l.length]) {w : World} {vs : Array Value} (ha : RelVs (K0 w) w args vs) :
  Calls P f vs w fun e w' => ∃ u c, e = .returned (.slice u l.length c) ∧ w'.ownsRow w.heap.size E 1 (.slice u l.length c) l.length (l.map (Value.int .i64)) ∧ Below w.heap.size w w' := by
 refine (h (F0 w) (K0 w) w vs (rel0 w) ha).mono ?_
 rintro e w' ⟨v, K', p, st', rfl, hx, hr, hv, g, rfl, rfl⟩
 obtain ⟨u, xs, h1, h2, h3, h4, h5⟩ := hr.ents _ (List.mem_singleton.2 rfl)
 generalize hrows : l.map encD = rows at hv
 cases hv with
 | @own _ _ _ u' hd hg hle heq =>
 rw [h1] at hg
 obtain rfl := Option.some.inj hg
 have hlen : rows.length = l.length := by rw [← hrows, List.length_map]
 have hvu := heq (by rw [h3, hlen])
 subst hvu
 obtain ⟨a, cap, hv, hc1, hc2⟩ := Qgv hd
 subst hv
 rw [hlen] at *
 refine ⟨a, cap, rfl, ?_, hx.os, hx.tape, hx.output, hx.size, fun k hk => hx.hp k hk⟩
 have hxs : xs = l.map (Value.int .i64) := by
  obtain ⟨ys, hy, a', cap', he, hcell⟩ := hd.rv (es := 1) (by decide) (by rw [← hrows]; exact Qgn l)
  have hyl : ys = l.map (Value.int .i64) := by
   refine List.ext_getElem? fun i => ?_
   by_cases hi : i < l.length
   ·have hr1 : rows[i]? = some [D.v (.int .i64 l[i])] := by rw [← hrows, List.getElem?_map, List.getElem?_eq_getElem hi]; rfl
    obtain ⟨x, h6, h7⟩ := hy.2.2 i 0 _ (.v (.int .i64 l[i])) hr1 rfl
    cases h7
    rw [show i * 1 + 0 = i by omega] at h6
    rw [h6, List.getElem?_map, List.getElem?_eq_getElem hi]; rfl
   ·rw [List.getElem?_eq_none (by rw [hy.1, ← hrows, List.length_map]; omega), List.getElem?_eq_none (by rw [List.length_map]; omega)]
  rw [← hyl]
  have hxl : xs.length = l.length := by rw [h4.1]; omega
  have hyll : ys.length = l.length := by rw [hyl, List.length_map]
  rcases h4.2 with ⟨e1, e2⟩ | ⟨g', cap2, cur, e1, e2, e3, e4, e5, e6, e7⟩
  ·rw [List.eq_nil_of_length_eq_zero (hxl.trans e2), List.eq_nil_of_length_eq_zero (hyll.trans e2)]
  ·refine List.ext_getElem? fun i => ?_
   by_cases hi : i < l.length
   ·obtain ⟨y, hyi⟩ : ∃ y, ys[i]? = some y := ⟨_, List.getElem?_eq_getElem (by omega)⟩
    injection e1 with e8 _ _
    injection he with e9 _ _
    have h8 := (hcell ⟨g', 0, none⟩ (by rw [← e9, e8]) i y hyi).1
    rw [hyi, ← e7, List.getElem?_take, if_pos (by omega)]
    rw [Qeh, Nat.zero_add, Qfz e3] at h8
    simpa using h8
   ·rw [List.getElem?_eq_none (by omega), List.getElem?_eq_none (by omega)]
 rw [hxs] at h4
 refine ⟨h4.1, ?_⟩
 rcases h4.2 with h | ⟨g', cap', cur, e1, e2, e3, e4⟩
 ·exact .inl h
 ·refine .inr ⟨g', cap', cur, e1, ?_, e3, e4⟩
  have := (h5 g' (by rw [e1]; rfl)).1
  exact Nat.le_of_not_lt this
theorem own_block {w : World} {base e n : Nat} {u : Option Addr} {c : Nat} {N : List Int} (h : w.ownsRow base e 1 (.slice u n c) n (N.map (Value.int .i64))) (hn : N.length = n) (h0 : 0 < n) :
  ∃ g cur, u = some ⟨g, 0, none⟩ ∧ base ≤ g ∧ g < w.heap.size ∧ w.heap[g]? = some (.cells cur e (0, 0)) ∧ n ≤ c ∧ c ≤ maxLen ∧ cur.size = c * 1 ∧ cur.toList.take N.length = N.map (Value.int .i64) := by
 rcases h.2 with ⟨e0, _⟩ | ⟨g', cap', cur, e0, hb, hg, hn', hm, hs, ht⟩
 ·cases e0; omega
 ·injection e0 with e1 _ e3
  subst e1; subst e3
  have hlt : g' < w.heap.size := by
   obtain ⟨h1, _⟩ := Array.getElem?_eq_some_iff.1 hg; exact h1
  exact ⟨g', cur, rfl, hb, hlt, hg, hn', hm, hs, by rw [hn]; simpa using ht⟩
theorem slsort_any (N : List Int) (u : Option Addr) (c base : Nat) (w : World) (hN5 : N.length ≤ 50000) (hbase : base ≤ w.heap.size) (hown : w.ownsRow base 3 1 (.slice u N.length c) N.length (N.map (Value.int .i64))) :
  Calls Tryz.prog 259 #[.slice u N.length c] w fun e w' => e = .returned (.tuple #[]) ∧ w'.ownsRow base 3 1 (.slice u N.length c) N.length ((N.mergeSort fun x y => decide (x ≤ y)).map (Value.int .i64)) ∧ Below base w w' := by
 by_cases h0 : 0 < N.length
 ·obtain ⟨g, cur, rfl, hb, hlt, hg, hnc, hm, hs, ht⟩ := own_block hown rfl h0
  have H := Any.slices_Sort_int Tryz.lays189 g 0 c N w (holds_of_blockI hg ht) hlt (by omega)
  refine H.mono ?_
  rintro e w' ⟨rfl, n, os, rfl⟩
  refine ⟨rfl, ownsRow_sortedI (by simp) hb hg hnc hm hs, ?_⟩
  exact (Below.refl base w).grown (grownBy_sortedI _) hbase (fun k hk => by cases hk; exact hb)
 ·have hN : N = [] := List.length_eq_zero_iff.1 (by omega)
  subst hN
  refine (Any.slices_Sort_int_none Tryz.lays189 u c w).mono ?_
  rintro e w' ⟨rfl, rfl⟩
  exact ⟨rfl, by simpa using hown, Below.refl _ _⟩
theorem slcompact_any (N : List Int) (u : Option Addr) (c base : Nat) (w : World) (hown : w.ownsRow base 3 1 (.slice u N.length c) N.length (N.map (Value.int .i64))) :
  Calls Tryz.prog 260 #[.slice u N.length c] w fun e w' => e = .returned (.slice u (Lib.compact N).length c) ∧ w'.ownsRow base 3 1 (.slice u (Lib.compact N).length c) (Lib.compact N).length ((Lib.compact N).map (Value.int .i64)) ∧ Below base w w' := by
 by_cases h0 : 0 < N.length
 ·obtain ⟨g, cur, rfl, hb, hlt, hg, hnc, hm, hs, ht⟩ := own_block hown rfl h0
  have hle := Lib.compact_length_le N
  have H := Any.slices_Compact_int Tryz.laysNm220 g 0 c N w (holds_of_blockI hg ht) (by unfold maxLen at hm; omega) hnc
  refine H.mono ?_
  rintro e w' ⟨rfl, q, rfl⟩
  have h := Lib.ownsRow_putRow (q := q) (ys := Lib.compact N ++ List.replicate (N.length - (Lib.compact N).length) 0) hown (by simp; omega) hle
  rw [List.take_left'] at h
  ·exact ⟨rfl, h, Lib.below_putRow (Below.refl _ _) hb⟩
  ·rfl
 ·have hN : N = [] := List.length_eq_zero_iff.1 (by omega)
  subst hN
  refine (Any.slices_Compact_int_empty Tryz.laysNm220 u c w).mono ?_
  rintro e w' ⟨rfl, rfl⟩
  exact ⟨rfl, hown, Below.refl _ _⟩
theorem rising_any (a b : Int) (t : Tm) (u : Option Addr) (c base : Nat) (w : World) (hnd : cndT t ≤ 20000) (hbase : base ≤ w.heap.size) (hown : w.ownsRow base 3 1 (.slice u (clT a b t).length c) (clT a b t).length ((clT a b t).map (Value.int .i64))) :
  Calls Tryz.prog 213 #[.slice u (clT a b t).length c] w fun e w' => e = .returned (.slice u (nmT a b t).length c) ∧ w'.ownsRow base 3 1 (.slice u (nmT a b t).length c) (nmT a b t).length ((nmT a b t).map (Value.int .i64)) ∧ Below base w w' := by
 have hR := rise_nm a b t
 have S1 := Lib.hid (slsort_any _ u c base w (by have := cl_len a b t; omega) hbase hown)
 have hml : ((clT a b t).mergeSort fun x y => decide (x ≤ y)).length = (clT a b t).length := List.length_mergeSort _
 rw [← hml] at S1 ⊢
 generalize ((clT a b t).mergeSort fun x y => decide (x ≤ y)) = S at *
 generalize nmT a b t = R at *
 clear hown hml
 have HR := Lib.hid hR
 clear hR
 go_enter Tryz.func213, Tryz.ntmps213
 go_wp2_with fail
 refine S1.out.mono ?_
 rintro e w1 ⟨rfl, ho1, hb1⟩
 have C := Lib.hid (slcompact_any S u c base w1 ho1)
 have HB1 := Lib.hid hb1
 clear ho1 hb1 S1
 go_wp2_with fail
 refine C.out.mono ?_
 rw [HR.out]
 rintro e w2 ⟨rfl, ho2, hb2⟩
 have HO := Lib.hid ho2
 have HB := Lib.hid (HB1.out.trans hb2)
 clear ho2 hb2 C
 go_wp2_with fail
 go_ret
 exact ⟨rfl, HO.out, HB.out⟩
end Go.Proofs.YtdklpbefbamchaaGreat

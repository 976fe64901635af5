import Derived.Test.YtdklpbefbamchaaGreatDBS3
import Derived.Test.YtdklpbefbamchaaGreatPBS
import Derived.Test.YtdklpbefbamchaaGreatPBN
import Derived.Test.YtdklpbefbamchaaGreatPBV
set_option linter.unusedSimpArgs false
set_option linter.unusedVariables false
set_option maxHeartbeats 16000000
set_option maxRecDepth 100000
namespace Go.Proofs.YtdklpbefbamchaaGreat
open Go.RowKit
def lowS : ByteArray := ⟨#[95]⟩
open Classical in
theorem rnplace_p (l : List ByteArray) (s : ByteArray) : PCalls Tryz.prog 152 [.d (.sl (l.map encD)), .d (.v (.string s))] [] fun p st => p = .d (.v (.int .i64 (Qbx l s l.length))) ∧ st = [] := by
 refine PCalls.flat trivial fun K w vs ha => ?_
 obtain ⟨v, u, rfl, hv, hu⟩ := ha.two
 obtain ⟨rfl, -⟩ := hu.flat
 refine (rplace_any l s v w w (slc_str hv).1 (Below.refl _ _)).mono ?_
 rintro e w' ⟨rfl, rfl⟩
 exact ⟨rfl, Below.refl _ _⟩
def findI (o : Option Nat) : Int := match o with | some c => c | none => -1
theorem rfindI_p (l : List En) (s : ByteArray) : PCalls Tryz.prog 148 [.d (.sl (l.map encD)), .d (.v (.string s))] [] fun p st => p = .d (.v (.int .i64 (findI (findN s l 0)))) ∧ st = [] := by
  obtain ⟨R, hR⟩ : ∃ R, R = findN s l 0 := ⟨_, rfl⟩
  rw [← hR]
  have HR : Hid (R = findN s (l.drop 0) 0) := hR
  clear hR
  refine PCalls.enter Tryz.func148 rfl Tryz.ntmps148 (by simp) ?_
  simp only [Qab]
  refine Qdt (t := 0) (rows := l.map encD) (by simp [PF.get] <;> rfl) rfl fun hml => ?_
  rw [List.length_map] at hml
  unfold maxLen at hml
  refine go_ ?_
  refine Qak (ι := Nat) (fun y => y ≤ l.length ∧ Hid (R = findN s (l.drop y) y)) (fun y => [(0, .d (.sl (l.map encD))), (1, .d (.v (.string s))), (5, .d (.v (.int .i64 (y : Int))))]) (fun _ => []) (fun y => l.length - y) 0 ⟨Nat.zero_le _, HR.out⟩ ?_ ?_ ?_
  · repeat (first | exact Jt _ | refine Js (by simp [PF.get]; rfl) (by first | rfl | (simp [*]; done) | fail) ?_)
  · repeat (first | exact List.Sublist.refl _ | exact List.nil_sublist _ | refine List.Sublist.cons_cons _ ?_ | refine List.Sublist.cons _ ?_)
  · rintro j ⟨hj, hR⟩
    clear HR
    by_cases hlt : j < l.length
    · have hx := Qal hlt
      have hc : (j : Int) < l.length := by omega
      have hn : (0 : Int) ≤ j := by omega
      have hin := wr64 (n := (j : Int) + 1) (by omega) (by omega)
      have hR2 : Hid (R = if (l[j].name.toList == s.toList) = true then some j else findN s (l.drop (j + 1)) (j + 1)) := by
        rw [show R = _ from hR.out, List.drop_eq_getElem_cons hlt]; rfl
      clear hR
      cases hq : (l[j].name.toList == s.toList) with
      | true =>
        have hf : Hid (R = some j) := by show _ = _; rw [show R = _ from hR2.out, hq]; rfl
        clear hR2
        refine go_ ?_
        refine Jm (by simp) (by simp only [Tryz.results148]; rfl) (by simp [resP, St.box?, PF.get, Jn, TyK.agg, *]; rfl) Nl ?_
        exact ⟨by rw [hf.out]; rfl, rfl⟩
      | false =>
        have hR3 : Hid (R = findN s (l.drop (j + 1)) (j + 1)) := by show _ = _; rw [show R = _ from hR2.out, hq]; rfl
        clear hR2
        refine go_ ?_
        exact ⟨j + 1, ⟨hlt, hR3⟩, by omega, by repeat (first | exact Jt _ | refine Js (by simp [PF.get]; rfl) (by first | rfl | (simp [*]; done) | fail) ?_), by repeat (first | exact List.Sublist.refl _ | exact List.nil_sublist _ | refine List.Sublist.cons_cons _ ?_ | refine List.Sublist.cons _ ?_)⟩
    · have hc : ¬ (j : Int) < l.length := by omega
      have hf : Hid (R = none) := by rw [show R = _ from hR.out, List.drop_of_length_le (by omega)]; rfl
      refine go_ ?_
      refine Jm (by simp) (by simp only [Tryz.results148]; rfl) (by simp [resP, St.box?, PF.get, Jn, TyK.agg, *]; rfl) Nl ?_
      exact ⟨by rw [hf.out]; rfl, rfl⟩
end Go.Proofs.YtdklpbefbamchaaGreat

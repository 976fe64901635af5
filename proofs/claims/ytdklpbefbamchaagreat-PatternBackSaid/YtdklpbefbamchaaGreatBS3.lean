import Derived.Test.YtdklpbefbamchaaGreatBS
import Derived.Test.YtdklpbefbamchaaGreatBE
import Derived.Test.YtdklpbefbamchaaGreatBE4
import Derived.Test.YtdklpbefbamchaaGreatBA5
import Derived.Maps.OwnOps
import Derived.Lib.SliceRun
import Derived.Test.YtdklpbefbamchaaGreatProg
import Derived.Test.YtdklpbefbamchaaGreatBS2
set_option linter.unusedSimpArgs false
set_option linter.unusedVariables false
set_option maxHeartbeats 16000000
set_option maxRecDepth 100000
namespace Go.Proofs.YtdklpbefbamchaaGreat
open Go.RowKit
theorem formed_at {l : List En} (h : formedB l = true) {i : Nat} {x : En} (hx : l[i]? = some x) : Qca l x i = true := by
 unfold formedB at h
 simp only [Bool.and_eq_true, decide_eq_true_eq] at h
 have := (allP_iff _ _ _).1 h.2.2 i x hx
 rwa [Nat.zero_add] at this
theorem entry_shaped {l : List En} {x : En} {i : Nat} (h : Qca l x i = true) : Qai x.ty = true := by
 unfold Qca Qbv Qdl at h
 simp only [Bool.and_eq_true] at h
 exact h.2.1.1.1.1
theorem Qjf {l : List En} {i : Nat} {x : En} (hF : formedB l = true) (hx : l[i]? = some x) (hk : x.kind = 2) : ∃ (q m : Nat) (d : En), x.of_ = q ∧ q < i ∧ l[q]? = some d ∧ d.kind = 1 ∧ x.pars = m ∧ d.pars = m ∧ m ≤ 24 ∧ 0 ≤ d.inds ∧ d.inds ≤ 24 ∧ Qai x.ty = true ∧ (Qat x.ty).length ≤ 24 ∧ m ≤ (Qat x.ty).length ∧ m ≤ (Qbr (benT x.ty)).length ∧ Qbq (benT x.ty) q m d.inds (Qat x.ty).length = true := by
 have he := formed_at hF hx
 have hs := entry_shaped he
 have hc : conB l x i = true := by
  have h2 := he
  unfold Qca at h2
  simp only [Bool.and_eq_true] at h2
  rw [(kind_con hk).1] at h2
  exact h2.2.2
 unfold conB at hc
 rw [Bool.and_eq_true] at hc
 obtain ⟨q, d, hq, hqi, hd, hdk, hpp⟩ := Qgu hc.1
 have hB := fam_ok (i := i) (fun j y hj hy => formed_at hF hy) q d hqi hd hdk
 have h3 := hc.2
 rw [con_tele hs] at h3
 simp only [Bool.and_eq_true, decide_eq_true_eq] at h3
 obtain ⟨h24, hpt, ha⟩ := h3
 obtain ⟨m, hm⟩ : ∃ m : Nat, x.pars = m := ⟨x.pars.toNat, by omega⟩
 unfold Qhl at ha
 rw [hq, Int.toNat_natCast, hd, hm] at ha
 have hal : ((Qbr (benT x.ty)).length : Int) = m + d.inds := by
  have h4 := ha
  unfold Qbq at h4
  simp only [Bool.and_eq_true, beq_iff_eq] at h4
  exact h4.2.2.1
 exact ⟨q, m, d, hq, hqi, hd, hdk, hm, by omega, by omega, hB.2.1, hB.2.2, hs, by omega, by omega, by omega, ha⟩
theorem is_at {l : List En} {n : Nat} {k : Int} {x : En} (hx : l[n]? = some x) : isE l n k = (x.kind == k) := by
 have hlt := (List.getElem?_eq_some_iff.1 hx).1
 unfold isE
 rw [decide_eq_true (show (0 : Int) ≤ n by omega), decide_eq_true (show (n : Int) < l.length by omega), Int.toNat_natCast, hx]; rfl
end Go.Proofs.YtdklpbefbamchaaGreat

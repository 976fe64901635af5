import Derived.Test.YtdklpbefbamchaaGreatBA5
import Derived.Test.YtdklpbefbamchaaGreatBA3
import Derived.Test.YtdklpbefbamchaaGreatTab
import Derived.Test.YtdklpbefbamchaaGreatBUtf
import Derived.Test.YtdklpbefbamchaaGreatT8
import Derived.Test.YtdklpbefbamchaaGreatT6
import Derived.Test.YtdklpbefbamchaaGreatBU
set_option linter.unusedSimpArgs false
set_option linter.unusedVariables false
set_option maxHeartbeats 16000000
set_option maxRecDepth 100000
namespace Go.Proofs.YtdklpbefbamchaaGreat
open Go.RowKit
@[simp] theorem size_mk (a : Array UInt8) : (ByteArray.mk a).size = a.size := rfl
@[simp] theorem maxLen_v : maxLen = 9223372036854775807 := rfl
def Wr (o : List UInt8 × Bool) (T : List UInt8) : Prop := (o.2 = false ∧ o.1 = T ∧ T.length ≤ 65535) ∨ (o.2 = true ∧ o.1.length ≤ 65535 ∧ 65535 < T.length)
theorem Wr.len {o : List UInt8 × Bool} {T : List UInt8} (h : Wr o T) : o.1.length ≤ 65535 := by
 rcases h with ⟨_, h, h2⟩ | ⟨_, h, _⟩
 ·rw [h]; exact h2
 ·exact h
def txts (l : List ByteArray) : List UInt8 := (l.map ByteArray.toList).flatten
theorem txts_take {l : List ByteArray} {k : Nat} (h : k < l.length) : txts (l.take (k + 1)) = txts (l.take k) ++ l[k].toList := by
 unfold txts
 rw [List.take_succ_eq_append_getElem h, List.map_append, List.flatten_append]; simp
theorem size_toList (s : ByteArray) : s.toList.length = s.size := by rw [ByteArray.toList_eq]; simp
theorem Wr.next {o : List UInt8 × Bool} {T : List UInt8} {l : List ByteArray} {k : Nat} (h : k < l.length) (hW : Wr o (T ++ txts (l.take k))) (hbig : ¬ 65535 - (o.1.length : Int) < (l[k].size : Int)) : Wr (o.1 ++ l[k].toList, o.2) (T ++ txts (l.take (k + 1))) := by
 rw [txts_take h, ← List.append_assoc]
 have hz := size_toList l[k]
 rcases hW with ⟨h1, h2, h3⟩ | ⟨h1, h2, h3⟩
 ·refine .inl ⟨h1, by rw [h2], ?_⟩
  rw [← h2, List.length_append, hz]; omega
 ·refine .inr ⟨h1, ?_, ?_⟩
  ·simp only [List.length_append, hz]; omega
  ·rw [List.length_append]; omega
theorem ex_cases {k a n : Int} {s : ByteArray} {sub : List Nd} (h : Qca (.mk k a s n sub) false = true) :
    (k = 1 ∧ sub = []) ∨ (k = 2 ∧ sub = [] ∧ 0 ≤ n ∧ n ≤ 7) ∨ ∃ x y, (k = 3 ∨ k = 4 ∨ k = 5) ∧ sub = [x, y] ∧ Qca x false = true ∧ Qca y false = true := by
  rw [goodT_mk] at h
  simp only [Bool.and_eq_true, decide_eq_true_eq, beq_iff_eq] at h
  obtain ⟨⟨⟨⟨⟨h1, h2⟩, h3⟩, h4⟩, h5⟩, h6⟩ := h
  have h7 : ¬ 6 ≤ k := by simpa using h5
  by_cases h345 : k = 3 ∨ k = 4 ∨ k = 5
  · refine .inr (.inr ?_)
    have hm : sub.length = 2 := by
      unfold Qdr at h2
      rw [if_neg (by omega), if_pos h345] at h2
      have := of_decide_eq_true h2
      omega
    match sub, hm with
    | [x, y], _ =>
      have hk : (k == 8) = false := by rw [beq_eq_false_iff_ne]; omega
      rw [hk] at h6
      simp only [Qdx, Bool.and_eq_true] at h6
      exact ⟨x, y, h345, rfl, h6.1, h6.2.1⟩
  · have hm : sub = [] := by
      unfold Qdr at h2
      rw [if_neg (by omega), if_neg h345, if_neg (by omega)] at h2
      have := of_decide_eq_true h2
      exact List.eq_nil_of_length_eq_zero (by omega)
    by_cases k1 : k = 1
    · exact .inl ⟨k1, hm⟩
    · have k2 : k = 2 := by omega
      unfold numB at h4
      rw [if_pos k2] at h4
      have := of_decide_eq_true h4
      exact .inr (.inl ⟨k2, hm, this.1, this.2⟩)
theorem nd_flat {f : FuncId} {t : Nd} {b : Bool} (h : ∀ (cs : List Value) (w : World), NdC w t cs → Calls Tryz.prog f #[.agg cs.toArray] w fun e w' => e = .returned (.bool b) ∧ Below w.heap.size w w') : PCalls Tryz.prog f [aggD t] [] fun p s => p = .d (.v (.bool b)) ∧ s = [] := by
 refine PCalls.flat trivial fun K w vs ha => ?_
 obtain ⟨v, rfl, hv⟩ := ha.one
 obtain ⟨cs, rfl, hc⟩ := agg_nd hv
 exact h cs w hc
theorem texpr_p (t : Nd) : PCalls Tryz.prog 102 [aggD t] [] fun p s => p = .d (.v (.bool (Qdj t))) ∧ s = [] := nd_flat (expr_any t)
theorem rexpr_p (t : Nd) : PCalls Tryz.prog 105 [aggD t] [] fun p s => p = .d (.v (.bool (Qdj t))) ∧ s = [] := nd_flat (rexpr_any t)
end Go.Proofs.YtdklpbefbamchaaGreat

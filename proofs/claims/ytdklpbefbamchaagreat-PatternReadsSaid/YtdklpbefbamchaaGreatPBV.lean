import Derived.Test.YtdklpbefbamchaaGreatPBA
import Derived.Test.YtdklpbefbamchaaGreatPBU
set_option linter.unusedSimpArgs false
set_option linter.unusedVariables false
set_option maxHeartbeats 16000000
set_option maxRecDepth 100000
namespace Go.Proofs.YtdklpbefbamchaaGreat
open Go.RowKit
@[simp] theorem size_mk (a : Array UInt8) : (ByteArray.mk a).size = a.size := rfl
@[simp] theorem maxLen_v : maxLen = 9223372036854775807 := rfl
def Wr (o : List UInt8 × Bool) (T : List UInt8) : Prop := (o.2 = false ∧ o.1 = T ∧ T.length ≤ 65535) ∨ (o.2 = true ∧ o.1.length ≤ 65535 ∧ 65535 < T.length)
theorem Wr.len {o : List UInt8 × Bool} {T : List UInt8} (h : Wr o T) : o.1.length ≤ 65535 := by
 rcases h with ⟨_, h, h2⟩ | ⟨_, h, _⟩
 ·rw [h]; exact h2
 ·exact h
def txts (l : List ByteArray) : List UInt8 := (l.map ByteArray.toList).flatten
theorem txts_take {l : List ByteArray} {k : Nat} (h : k < l.length) : txts (l.take (k + 1)) = txts (l.take k) ++ l[k].toList := by
 unfold txts
 rw [List.take_succ_eq_append_getElem h, List.map_append, List.flatten_append]; simp
theorem size_toList (s : ByteArray) : s.toList.length = s.size := by rw [ByteArray.toList_eq]; simp
theorem Wr.next {o : List UInt8 × Bool} {T : List UInt8} {l : List ByteArray} {k : Nat} (h : k < l.length) (hW : Wr o (T ++ txts (l.take k))) (hbig : ¬ 65535 - (o.1.length : Int) < (l[k].size : Int)) : Wr (o.1 ++ l[k].toList, o.2) (T ++ txts (l.take (k + 1))) := by
 rw [txts_take h, ← List.append_assoc]
 have hz := size_toList l[k]
 rcases hW with ⟨h1, h2, h3⟩ | ⟨h1, h2, h3⟩
 ·refine .inl ⟨h1, by rw [h2], ?_⟩
  rw [← h2, List.length_append, hz]; omega
 ·refine .inr ⟨h1, ?_, ?_⟩
  ·simp only [List.length_append, hz]; omega
  ·rw [List.length_append]; omega
theorem nd_flat {f : FuncId} {t : Nd} {b : Bool} (h : ∀ (cs : List Value) (w : World), NdC w t cs → Calls Tryz.prog f #[.agg cs.toArray] w fun e w' => e = .returned (.bool b) ∧ Below w.heap.size w w') : PCalls Tryz.prog f [aggD t] [] fun p s => p = .d (.v (.bool b)) ∧ s = [] := by
 refine PCalls.flat trivial fun K w vs ha => ?_
 obtain ⟨v, rfl, hv⟩ := ha.one
 obtain ⟨cs, rfl, hc⟩ := agg_nd hv
 exact h cs w hc
theorem tpat_p (t : Nd) : PCalls Tryz.prog 84 [aggD t] [] fun p s => p = .d (.v (.bool (patB t))) ∧ s = [] := nd_flat (pattern_any t)
theorem rpat_p (t : Nd) : PCalls Tryz.prog 86 [aggD t] [] fun p s => p = .d (.v (.bool (patB t))) ∧ s = [] := nd_flat (rpattern_any t)
theorem pat_cases {k a n : Int} {s : ByteArray} {sub : List Nd} (h : goodT (.mk k a s n sub) true = true) :
    (k = 6 ∧ sub = []) ∨ (k = 7 ∧ sub = []) ∨ (k = 9 ∧ sub = []) ∨ (k = 10 ∧ ∃ x, sub = [x] ∧ goodT x false = true) ∨ (k = 8 ∧ goodL sub true = true) := by
  rw [goodT_mk] at h
  simp only [Bool.and_eq_true, decide_eq_true_eq, beq_iff_eq] at h
  obtain ⟨⟨⟨⟨⟨h1, h2⟩, h3⟩, h4⟩, h5⟩, h6⟩ := h
  have h7 : 6 ≤ k := by simpa using h5
  by_cases k8 : k = 8
  · subst k8; exact .inr (.inr (.inr (.inr ⟨rfl, h6⟩)))
  have hk : (k == 8) = false := by rw [beq_eq_false_iff_ne]; exact k8
  rw [hk] at h6
  by_cases k10 : k = 10
  · refine .inr (.inr (.inr (.inl ⟨k10, ?_⟩)))
    unfold manyB at h2
    rw [if_neg k8, if_neg (by omega), if_pos k10] at h2
    have hm := of_decide_eq_true h2
    match sub, hm with
    | [x], _ =>
      simp only [goodL, Bool.and_eq_true] at h6
      exact ⟨x, rfl, h6.1⟩
    | [], hm => simp at hm
    | _ :: _ :: _, hm => simp at hm; omega
  · unfold manyB at h2
    rw [if_neg k8, if_neg (by omega), if_neg k10] at h2
    have hm := of_decide_eq_true h2
    have hn : sub = [] := List.eq_nil_of_length_eq_zero (by omega)
    rcases (show k = 6 ∨ k = 7 ∨ k = 9 by omega) with h | h | h
    · exact .inl ⟨h, hn⟩
    · exact .inr (.inl ⟨h, hn⟩)
    · exact .inr (.inr (.inl ⟨h, hn⟩))
end Go.Proofs.YtdklpbefbamchaaGreat

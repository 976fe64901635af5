import Derived.Test.YtdklpbefbamchaaGreatQBU
set_option linter.unusedSimpArgs false
set_option linter.unusedVariables false
set_option maxHeartbeats 16000000
set_option maxRecDepth 100000
namespace Go.Proofs.YtdklpbefbamchaaGreat
open Go.RowKit
@[simp] theorem size_mk (a : Array UInt8) : (ByteArray.mk a).size = a.size := rfl
@[simp] theorem maxLen_v : maxLen = 9223372036854775807 := rfl
def Wr (o : List UInt8 × Bool) (T : List UInt8) : Prop := (o.2 = false ∧ o.1 = T ∧ T.length ≤ 65535) ∨ (o.2 = true ∧ o.1.length ≤ 65535 ∧ 65535 < T.length)
theorem Wr.len {o : List UInt8 × Bool} {T : List UInt8} (h : Wr o T) : o.1.length ≤ 65535 := by
 rcases h with ⟨_, h, h2⟩ | ⟨_, h, _⟩
 ·rw [h]; exact h2
 ·exact h
def txts (l : List ByteArray) : List UInt8 := (l.map ByteArray.toList).flatten
theorem txts_take {l : List ByteArray} {k : Nat} (h : k < l.length) : txts (l.take (k + 1)) = txts (l.take k) ++ l[k].toList := by
 unfold txts
 rw [List.take_succ_eq_append_getElem h, List.map_append, List.flatten_append]; simp
theorem size_toList (s : ByteArray) : s.toList.length = s.size := by rw [ByteArray.toList_eq]; simp
theorem Wr.next {o : List UInt8 × Bool} {T : List UInt8} {l : List ByteArray} {k : Nat} (h : k < l.length) (hW : Wr o (T ++ txts (l.take k))) (hbig : ¬ 65535 - (o.1.length : Int) < (l[k].size : Int)) : Wr (o.1 ++ l[k].toList, o.2) (T ++ txts (l.take (k + 1))) := by
 rw [txts_take h, ← List.append_assoc]
 have hz := size_toList l[k]
 rcases hW with ⟨h1, h2, h3⟩ | ⟨h1, h2, h3⟩
 ·refine .inl ⟨h1, by rw [h2], ?_⟩
  rw [← h2, List.length_append, hz]; omega
 ·refine .inr ⟨h1, ?_, ?_⟩
  ·simp only [List.length_append, hz]; omega
  ·rw [List.length_append]; omega
theorem PW_perm {P : Program} {n : Nat} {c : Code} {Q : Exit → PF → St → Prop} {fr : PF} {st st' : St} (hp : st.Perm st') (h : PW P n c Q fr st') : PW P n c Q fr st := fun F K w a h1 h2 => h F K w a (h1.perm hp) h2
end Go.Proofs.YtdklpbefbamchaaGreat

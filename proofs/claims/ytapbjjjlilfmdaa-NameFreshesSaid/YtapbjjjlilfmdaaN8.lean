import Derived.Test.YtapbjjjlilfmdaaN7
import Derived.Maps.OwnOps
import Derived.Maps.Views
namespace Go.Proofs.Ytapbjjjlilfmdaa
open Go.RowKit Go.WideMaps
theorem zero3 (w : World) : (zeroValue 3).run Try.prog w = .ok (.int .i64 0) w := by rfl
/-- how often a text is among texts -/
def cnt (l : List ByteArray) (s : ByteArray) : Nat := (l.filter (fun x => x.toList == s.toList)).length
theorem cnt_snoc (l : List ByteArray) (x s : ByteArray) : cnt (l ++ [x]) s = cnt l s + (if x.toList == s.toList then 1 else 0) := by
  unfold cnt
  rw [List.filter_append, List.length_append]
  congr 1
  by_cases h : x.toList == s.toList <;> simp [h]
theorem cnt_le (l : List ByteArray) (s : ByteArray) : cnt l s ≤ l.length := List.length_filter_le _ _
/-- a map of the call's own that holds how often each text came -/
def Seen (w : World) (b : Nat) (l : List ByteArray) : Prop :=
  ∃ (D : DataW Unit), w.ownsMap Try.prog 9 (plainElem Try.prog 3) b l.length D ∧ Maps.IsMap D ∧ ∀ s : ByteArray, D.atKey (.string s.data.toList) (.lit (.int .i64 0)) = .lit (.int .i64 (cnt l s))
theorem Seen.made (w : World) : Seen (w.alloc (.map #[] 0)) w.heap.size [] :=
  ⟨.map [], World.ownsMap_made w _ _ _, ⟨_, rfl⟩, fun _ => rfl⟩
theorem key_str (s : ByteArray) (hs : s.size ≤ maxLen) : keyOf Try.prog 9 (.string s) = some (.string s.data.toList) := keyOf_string_mk (P := Try.prog) Try.underlying9 hs
theorem Seen.look {w : World} {b : Nat} {l : List ByteArray} (h : Seen w b l) (s : ByteArray) (hs : s.size ≤ maxLen) :
    (Instr.lookup 42 (.map (some b)) (.string s) false).run Try.prog w = .ok (.int .i64 (cnt l s)) w := by
  obtain ⟨D, h1, h2, h3⟩ := h
  obtain ⟨c, hrun, hat, -⟩ := h1.lookup_int (Maps.string_keyed Try.underlying9) Try.underlying42 Try.underlying3 (zero3 _) (key_str s hs)
  rw [h3 s] at hat
  simp only [DataW.lit.injEq, Lit.int.injEq, true_and] at hat
  rw [hrun, hat]
theorem Seen.put {w : World} {b : Nat} {l : List ByteArray} (h : Seen w b l) (x : ByteArray) (hs : x.size ≤ maxLen) (hl : l.length < 100000) :
    ∃ w', (Instr.mapUpdate 42 (.map (some b)) (.string x) (.int .i64 (cnt l x + 1))).run Try.prog w = .ok () w' ∧ Seen w' b (l ++ [x]) ∧ w.grownBy w' (some b) := by
  obtain ⟨D, h1, h2, h3⟩ := h
  have hc := cnt_le l x
  obtain ⟨w', hrun, hown, hg⟩ := h1.update (Maps.string_keyed Try.underlying9) Try.underlying42 (by unfold maxLen; omega) (key_str x hs) (plainElem_int Try.underlying3 (a := (cnt l x + 1 : Int)) (by simp [Lit.wf, IntKind.min, IntKind.max, IntKind.signed, IntKind.bits]; omega))
  refine ⟨w', hrun, ⟨_, by rw [List.length_append]; exact hown, ?_, fun s => ?_⟩, hg⟩
  · exact hown.isMap
  · have hk : WideAt.IsKeyLit (.string x.data.toList) := trivial
    by_cases he : x.toList == s.toList
    · have : x = s := by
        apply ByteArray.ext
        have := beq_iff_eq.1 he
        rw [ByteArray.toList_eq, ByteArray.toList_eq] at this
        exact Array.toList_inj.mp this
      subst this
      rw [Maps.atKey_put_same h2 hk, cnt_snoc, if_pos he]
      simp
    · have hne : (Lit.string s.data.toList) ≠ Lit.string x.data.toList := by
        intro e
        simp only [Lit.string.injEq] at e
        apply he
        rw [ByteArray.toList_eq, ByteArray.toList_eq, e]
        simp
      rw [Maps.atKey_put_other hne, h3 s, cnt_snoc, if_neg he]
      rfl
end Go.Proofs.Ytapbjjjlilfmdaa

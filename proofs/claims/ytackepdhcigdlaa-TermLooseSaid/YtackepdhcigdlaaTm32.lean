import Derived.Test.YtackepdhcigdlaaTm30
import Derived.Test.YtackepdhcigdlaaTm31
import Derived.Deep.LoopGhost
namespace Go.Proofs.Ytackepdhcigdlaa
open Go.RowKit
theorem applyT_append (l l' : List Tm) : ∀ (f : Tm), applyT f (l ++ l') = applyT (applyT f l) l' := by
  induction l with
  | nil => intro f; rfl
  | cons a l ih => intro f; exact ih _
theorem applyT_snoc (f : Tm) (l : List Tm) (a : Tm) : applyT f (l ++ [a]) = .mk 5 0 [applyT f l, a] := by rw [applyT_append]; rfl
theorem nil_or_snoc {α : Type} (l : List α) : l = [] ∨ ∃ m a, l = m ++ [a] := by
  rcases List.eq_nil_or_concat l with h | ⟨m, a, h⟩
  · exact .inl h
  · exact .inr ⟨m, a, by rw [h, List.concat_eq_append]⟩
theorem spine_uniq : ∀ (n : Nat) (l l' : List Tm) (h h' : Tm), l.length = n → h.kind ≠ 5 → h'.kind ≠ 5 → applyT h l = applyT h' l' → h = h' ∧ l = l' := by
  intro n
  induction n with
  | zero =>
    intro l l' h h' hn h5 h5' he
    obtain rfl := List.eq_nil_of_length_eq_zero hn
    rcases nil_or_snoc l' with rfl | ⟨m, a, rfl⟩
    · exact ⟨he, rfl⟩
    · rw [applyT_snoc] at he
      exact absurd (show h.kind = 5 by rw [show h = _ from he]; rfl) h5
  | succ n ih =>
    intro l l' h h' hn h5 h5' he
    rcases nil_or_snoc l with rfl | ⟨m, a, rfl⟩
    · simp at hn
    · rcases nil_or_snoc l' with rfl | ⟨m', a', rfl⟩
      · rw [applyT_snoc] at he
        exact absurd (show h'.kind = 5 by rw [show h' = _ from he.symm]; rfl) h5'
      · rw [applyT_snoc, applyT_snoc] at he
        simp only [Tm.mk.injEq, List.cons.injEq, and_true, true_and] at he
        obtain ⟨e1, rfl⟩ := he
        obtain ⟨rfl, rfl⟩ := ih m m' h h' (by simpa using hn) h5 h5' e1
        exact ⟨rfl, rfl⟩
theorem dpL_ge : ∀ (l : List Tm) (h m : Int), m ≤ dpL l h m := by
  intro l
  induction l with
  | nil => intro h m; simp only [dpL]; omega
  | cons t ts ih => intro h m; simp only [dpL]; have := ih h (max m (dpT t (h + 1))); omega
theorem dp_app (k n : Int) (y : Tm) (ts : List Tm) (h : Int) (hh : h ≤ 128) : dpT y (h + 1) ≤ dpT (.mk k n (y :: ts)) h := by
  simp only [dpT]
  rw [if_neg (by omega)]
  simp only [dpL]
  have := dpL_ge ts h (max h (dpT y (h + 1)))
  omega
theorem dp_spine : ∀ (l : List Tm) (x : Tm) (h : Int), h + l.length ≤ 129 → dpT x (h + l.length) ≤ dpT (applyT x l) h := by
  intro l
  induction l with
  | nil => intro x h _; simp [applyT]
  | cons a l ih =>
    intro x h hh
    simp only [List.length_cons, Int.natCast_add] at hh ⊢
    have h1 := ih (.mk 5 0 [x, a]) h (by omega)
    have h2 := dp_app 5 0 x [a] (h + l.length) (by omega)
    rw [show h + ((l.length : Int) + ((1 : Nat) : Int)) = h + l.length + 1 by omega]
    exact Int.le_trans h2 h1
theorem spine_len {x : Tm} {l : List Tm} (h : shapedB (applyT x l) = true) : l.length ≤ 127 := by
  rcases Nat.lt_or_ge l.length 128 with hl | hl
  · omega
  · exfalso
    have hd : dpT (applyT x l) 1 ≤ 128 := by
      simp only [shapedB, Bool.and_eq_true] at h
      have := of_decide_eq_true h.1
      unfold depthT at this
      split at this <;> omega
    have e : applyT x l = applyT (applyT x (l.take (l.length - 128))) (l.drop (l.length - 128)) := by rw [← applyT_append, List.take_append_drop]
    rw [e] at hd
    have hdl : (l.drop (l.length - 128)).length = 128 := by simp; omega
    have h1 := dp_spine (l.drop (l.length - 128)) (applyT x (l.take (l.length - 128))) 1 (by rw [hdl]; decide)
    rw [hdl] at h1
    have h2 := (dp_bd (applyT x (l.take (l.length - 128))) (1 + ((128 : Nat) : Int)) (by decide)).1
    have : (1 : Int) + ((128 : Nat) : Int) = 129 := by decide
    omega
theorem good_app {x : Tm} (hg : goodB x = true) (h5 : x.kind = 5) : ∃ y b, x = .mk 5 0 [y, b] ∧ goodB y = true ∧ goodB b = true := by
  cases x with
  | mk k n sub =>
    have h5' : k = 5 := h5
    subst h5'
    obtain ⟨h1, h2⟩ := good_parts hg
    have h3 := of_decide_eq_true h1
    simp only [Tm.kind, Tm.num, Tm.sub] at h3
    obtain ⟨_, _, hl, hn0, hn1, _⟩ := h3
    have hl2 : sub.length = 2 := by have : subsOf 5 = 2 := by decide
                                    omega
    have hn : n = 0 := by have : mostOf 5 = 0 := by decide
                          omega
    subst hn
    match sub, hl2 with
    | [y, b], _ => exact ⟨y, b, rfl, h2 y (by simp), h2 b (by simp)⟩
end Go.Proofs.Ytackepdhcigdlaa

import Derived.Test.YtffgfjnbgplckaaBA
import Derived.Test.YtffgfjnbgplckaaTab
import Derived.Test.YtffgfjnbgplckaaT35
set_option linter.unusedSimpArgs false
set_option linter.unusedVariables false
namespace Go.Proofs.Ytffgfjnbgplckaa
open Go.RowKit
set_option linter.unusedVariables false
theorem agg_nd {K : Kp} {w : World} {t : Nd} {v : Value} (h : RelV K w (aggD t) v) : ∃ cs : List Value, v = .agg cs.toArray ∧ NdC w t cs := by
  obtain ⟨cs, e, h⟩ := rep_rel h
  exact ⟨cs, e, Rep.toC _ _ h⟩
theorem sl_nd {K : Kp} {w : World} {l : List Nd} {v : Value} (h : RelV K w (.d (slD l)) v) : NdS w v l := by
  cases h with
  | d h => exact (repS_rel (α := Nd) (by decide) h).toC
theorem agg_form {α : Type} [Enc α] [EncOk α] {S : Nat → Prop} {K : Kp} {w : World} (hK : ∀ b o v, S b → w.cell? ⟨b, o, none⟩ = some v → K.cell b o) {l : List α} {v : Value} (h0 : 0 < Enc.sz α) (h : RepS S w v l) : RelV K w (.d (slD l)) v := .d (relS_of hK h0 h)
theorem of_p (t : Nd) : PCalls Try.prog 12 [aggD t] [] fun p s => p = .tup [aggD (budT t 1000).1, .d (.v (.bool (okN t)))] ∧ s = [] := by
  refine PCalls.data fun K w vs ha => ?_
  obtain ⟨v, rfl, hv⟩ := ha.one
  obtain ⟨cs, rfl, hc⟩ := agg_nd hv
  have hns : t.name.size ≤ maxLen := by obtain ⟨_, _, _, _, _, h⟩ := nd_open hc; exact h
  refine (of_any t cs w hc).mono ?_
  rintro e w' ⟨u, rfl, hr, hb⟩
  refine ⟨_, rfl, hb, fun K' hK => ?_⟩
  refine .tup rfl fun i p v hp hv => ?_
  match i with
  | 0 =>
    have e1 := Option.some.inj hp
    have e2 := Option.some.inj hv
    subst e1; subst e2
    have : Rep (fun b => w.heap.size ≤ b) w' (budT t 1000).1 [.int .i64 t.kind, .int .i64 t.at, .string t.name, .int .i64 t.num, u] := by
      cases t with
      | mk k a s n sub =>
        rw [show budT (.mk k a s n sub) 1000 = (.mk k a s n (budL sub (1000 - 1)).1, (budL sub (1000 - 1)).2) by simp only [budT]] at hr ⊢
        exact rep_nd.2 ⟨u, rfl, hns, hr⟩
    exact rel_rep (fun b o v h1 h2 => hK b o v h1 h2) this
  | 1 =>
    have e1 := Option.some.inj hp
    have e2 := Option.some.inj hv
    subst e1; subst e2
    exact .d (.v trivial)
  | n + 2 => simp at hp
theorem tup2 {K : Kp} {w : World} {p q : PV} {v u : Value} (h1 : RelV K w p v) (h2 : RelV K w q u) : RelV K w (.tup [p, q]) (.tuple #[v, u]) := by
  refine .tup rfl fun i p v hp hv => ?_
  match i with
  | 0 => 
    have e1 := Option.some.inj hp
    have e2 := Option.some.inj hv
    subst e1; subst e2; exact h1
  | 1 => 
    have e1 := Option.some.inj hp
    have e2 := Option.some.inj hv
    subst e1; subst e2; exact h2
  | n + 2 => simp at hp
def okPs (l : List Nd) : Bool := l.all okN
def cvPs (l : List Nd) : List Nd := if l.all okN then l else []
def okBs (l : List Bd) : Bool := l.all okB
def cvBs (l : List Bd) : List Bd := if l.all okB then l else []
def cvN (t : Nd) : Nd := (budT t 1000).1
theorem cvPs_ok {l : List Nd} (h : okPs l = true) : cvPs l = l := by unfold cvPs; unfold okPs at h; rw [if_pos h]
theorem cvBs_ok {l : List Bd} (h : okBs l = true) : cvBs l = l := by unfold cvBs; unfold okBs at h; rw [if_pos h]
theorem cvN_ok {t : Nd} (h : okN t = true) : cvN t = t := (ok_same h).1
theorem lof_p (t : Nd) : PCalls Try.prog 12 [aggD t] [] fun p s => p = .tup [aggD (cvN t), .d (.v (.bool (okN t)))] ∧ s = [] := of_p t
theorem lnodes_p (l : List Nd) (hl : l.length ≤ 1000) : PCalls Try.prog 58 [.d (slD l)] [] fun p s => p = .tup [.d (slD (cvPs l)), .d (.v (.bool (okPs l)))] ∧ s = [] := by
  refine PCalls.data fun K w vs ha => ?_
  obtain ⟨v, rfl, hv⟩ := ha.one
  refine (nodes_any l v w (sl_nd hv) hl).mono ?_
  rintro e w' ⟨u, rfl, hr, hb⟩
  exact ⟨_, rfl, hb, fun K' hK => tup2 (agg_form hK (by decide) hr) (.d (.v trivial))⟩
theorem lbinds_p (l : List Bd) (hl : l.length ≤ 1000) : PCalls Try.prog 57 [.d (slD l)] [] fun p s => p = .tup [.d (slD (cvBs l)), .d (.v (.bool (okBs l)))] ∧ s = [] := by
  refine PCalls.data fun K w vs ha => ?_
  obtain ⟨v, rfl, hv⟩ := ha.one
  have hv' : RepS (fun _ => True) w v l := by cases hv with | d h => exact repS_rel (by decide) h
  refine (lbinds_any _ l v w hv' hl).mono ?_
  rintro e w' ⟨u, rfl, hr, hb⟩
  exact ⟨_, rfl, hb, fun K' hK => tup2 (agg_form hK (by decide) hr) (.d (.v trivial))⟩
end Go.Proofs.Ytffgfjnbgplckaa

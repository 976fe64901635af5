import Derived.Test.YtffgfjnbgplckaaBA
import Derived.Test.YtffgfjnbgplckaaTab
import Derived.Test.YtffgfjnbgplckaaT35
import Derived.Test.YtffgfjnbgplckaaT12
import Derived.Test.YtffgfjnbgplckaaBD
set_option linter.unusedSimpArgs false
set_option linter.unusedVariables false
namespace Go.Proofs.Ytffgfjnbgplckaa
open Go.RowKit
set_option linter.unusedVariables false
theorem agg_nd {K : Kp} {w : World} {t : Nd} {v : Value} (h : RelV K w (aggD t) v) : ∃ cs : List Value, v = .agg cs.toArray ∧ NdC w t cs := by
  obtain ⟨cs, e, h⟩ := rep_rel h
  exact ⟨cs, e, Rep.toC _ _ h⟩
theorem sl_nd {K : Kp} {w : World} {l : List Nd} {v : Value} (h : RelV K w (.d (slD l)) v) : NdS w v l := by
  cases h with
  | d h => exact (repS_rel (α := Nd) (by decide) h).toC
theorem agg_form {α : Type} [Enc α] [EncOk α] {S : Nat → Prop} {K : Kp} {w : World} (hK : ∀ b o v, S b → w.cell? ⟨b, o, none⟩ = some v → K.cell b o) {l : List α} {v : Value} (h0 : 0 < Enc.sz α) (h : RepS S w v l) : RelV K w (.d (slD l)) v := .d (relS_of hK h0 h)
theorem of_p (t : Nd) : PCalls Try.prog 12 [aggD t] [] fun p s => p = .tup [aggD (budT t 1000).1, .d (.v (.bool (okN t)))] ∧ s = [] := by
  refine PCalls.data fun K w vs ha => ?_
  obtain ⟨v, rfl, hv⟩ := ha.one
  obtain ⟨cs, rfl, hc⟩ := agg_nd hv
  have hns : t.name.size ≤ maxLen := by obtain ⟨_, _, _, _, _, h⟩ := nd_open hc; exact h
  refine (of_any t cs w hc).mono ?_
  rintro e w' ⟨u, rfl, hr, hb⟩
  refine ⟨_, rfl, hb, fun K' hK => ?_⟩
  refine .tup rfl fun i p v hp hv => ?_
  match i with
  | 0 =>
    have e1 := Option.some.inj hp
    have e2 := Option.some.inj hv
    subst e1; subst e2
    have : Rep (fun b => w.heap.size ≤ b) w' (budT t 1000).1 [.int .i64 t.kind, .int .i64 t.at, .string t.name, .int .i64 t.num, u] := by
      cases t with
      | mk k a s n sub =>
        rw [show budT (.mk k a s n sub) 1000 = (.mk k a s n (budL sub (1000 - 1)).1, (budL sub (1000 - 1)).2) by simp only [budT]] at hr ⊢
        exact rep_nd.2 ⟨u, rfl, hns, hr⟩
    exact rel_rep (fun b o v h1 h2 => hK b o v h1 h2) this
  | 1 =>
    have e1 := Option.some.inj hp
    have e2 := Option.some.inj hv
    subst e1; subst e2
    exact .d (.v trivial)
  | n + 2 => simp at hp
theorem tup2 {K : Kp} {w : World} {p q : PV} {v u : Value} (h1 : RelV K w p v) (h2 : RelV K w q u) : RelV K w (.tup [p, q]) (.tuple #[v, u]) := by
  refine .tup rfl fun i p v hp hv => ?_
  match i with
  | 0 => 
    have e1 := Option.some.inj hp
    have e2 := Option.some.inj hv
    subst e1; subst e2; exact h1
  | 1 => 
    have e1 := Option.some.inj hp
    have e2 := Option.some.inj hv
    subst e1; subst e2; exact h2
  | n + 2 => simp at hp
def okPs (l : List Nd) : Bool := l.all okN
def cvPs (l : List Nd) : List Nd := if l.all okN then l else []
def okBs (l : List Bd) : Bool := l.all okB
def cvBs (l : List Bd) : List Bd := if l.all okB then l else []
def cvN (t : Nd) : Nd := (budT t 1000).1
theorem cvPs_ok {l : List Nd} (h : okPs l = true) : cvPs l = l := by unfold cvPs; unfold okPs at h; rw [if_pos h]
theorem cvBs_ok {l : List Bd} (h : okBs l = true) : cvBs l = l := by unfold cvBs; unfold okBs at h; rw [if_pos h]
theorem cvN_ok {t : Nd} (h : okN t = true) : cvN t = t := (ok_same h).1
theorem lof_p (t : Nd) : PCalls Try.prog 12 [aggD t] [] fun p s => p = .tup [aggD (cvN t), .d (.v (.bool (okN t)))] ∧ s = [] := of_p t
theorem lnodes_p (l : List Nd) (hl : l.length ≤ 1000) : PCalls Try.prog 58 [.d (slD l)] [] fun p s => p = .tup [.d (slD (cvPs l)), .d (.v (.bool (okPs l)))] ∧ s = [] := by
  refine PCalls.data fun K w vs ha => ?_
  obtain ⟨v, rfl, hv⟩ := ha.one
  refine (nodes_any l v w (sl_nd hv) hl).mono ?_
  rintro e w' ⟨u, rfl, hr, hb⟩
  exact ⟨_, rfl, hb, fun K' hK => tup2 (agg_form hK (by decide) hr) (.d (.v trivial))⟩
theorem lbinds_p (l : List Bd) (hl : l.length ≤ 1000) : PCalls Try.prog 57 [.d (slD l)] [] fun p s => p = .tup [.d (slD (cvBs l)), .d (.v (.bool (okBs l)))] ∧ s = [] := by
  refine PCalls.data fun K w vs ha => ?_
  obtain ⟨v, rfl, hv⟩ := ha.one
  have hv' : RepS (fun _ => True) w v l := by cases hv with | d h => exact repS_rel (by decide) h
  refine (lbinds_any _ l v w hv' hl).mono ?_
  rintro e w' ⟨u, rfl, hr, hb⟩
  exact ⟨_, rfl, hb, fun K' hK => tup2 (agg_form hK (by decide) hr) (.d (.v trivial))⟩
end Go.Proofs.Ytffgfjnbgplckaa

namespace Go.Proofs.Ytffgfjnbgplckaa
open Go.RowKit
theorem repF_last {S : Nat → Prop} {w : World} {ds : List Dt} {cs : List Value} {o n : Nat} (h : RepF S w ds ((cs.drop o).take n)) (hl : cs.length ≤ o + n) : RepF S w ds (cs.drop o) := by
  rwa [List.take_of_length_le (by rw [List.length_drop]; omega)] at h
section
variable {H : Type} {enc : TypeId × Value → H} {w : World} {base : Nat} {spare : Nat → Bool} {held : Bool}
theorem opn_sl {α : Type} [Enc α] {T e : TypeId} (ht : Try.prog.underlying T = some (.slice e)) (hc : Try.prog.cellsOf e = Enc.sz α) (hpos : 0 < Enc.sz α) (ho : ∀ n, OpnAt α enc w base spare held e n) {n : Nat} {cs : List Value} {x : DataW H × List MemPlace} (h : DataW.trod enc Try.prog w base spare held n T cs = some x) : ∃ l : List α, RepF (fun _ => True) w [.s (Enc.sz α) (l.map Enc.enc)] cs := by
  obtain ⟨v, l, rfl, hl⟩ := opn_slice (α := α) ht hc hpos (fun m' _ => ho m') h
  exact ⟨l, repF_slice hl⟩
theorem opn_bd (n : Nat) : OpnAt Bd enc w base spare held 112 n := by
  intro cs x h
  obtain ⟨xs, m, rfl, _, hlen, hxs, hf⟩ := DataW.trod_struct Try.underlying112 h
  have c0 : Try.prog.cellsOf 112 = 7 := by kernel_rfl
  have c1 : Try.prog.cellsOf 9 = 1 := by kernel_rfl
  have c2 : Try.prog.cellsOf 3 = 1 := by kernel_rfl
  have c3 : Try.prog.cellsOf 24 = 5 := by kernel_rfl
  rw [c0] at hlen
  match xs, hxs with
  | [x0, x1, x2], _ =>
    have h0 : DataW.trod enc Try.prog w base spare held m 9 ((cs.drop 0).take (Try.prog.cellsOf 9)) = some x0 := hf 0 _ rfl
    have h1 : DataW.trod enc Try.prog w base spare held m 3 ((cs.drop 1).take (Try.prog.cellsOf 3)) = some x1 := hf 1 _ rfl
    have h2 : DataW.trod enc Try.prog w base spare held m 24 ((cs.drop 2).take (Try.prog.cellsOf 24)) = some x2 := hf 2 _ rfl
    rw [c1] at h0
    rw [c2] at h1
    rw [c3] at h2
    obtain ⟨s, hs⟩ := opn_str (by kernel_rfl) m _ _ h0
    obtain ⟨a, ha⟩ := opn_int (by kernel_rfl) m _ _ h1
    obtain ⟨t, ht⟩ := opn_nd m _ _ h2
    exact ⟨⟨s, a, t⟩, repF_at (o := 0) (n := 1) (m := 1) (ds := [.str s]) rfl hs (repF_at (o := 1) (n := 1) (m := 2) (ds := [.v (.int .i64 a)]) rfl ha (repF_last ht (by omega)))⟩
theorem opn_rw (n : Nat) : OpnAt Rw enc w base spare held 82 n := by
  intro cs x h
  obtain ⟨xs, m, rfl, _, hlen, hxs, hf⟩ := DataW.trod_struct Try.underlying82 h
  have c0 : Try.prog.cellsOf 82 = 8 := by kernel_rfl
  have c1 : Try.prog.cellsOf 3 = 1 := by kernel_rfl
  have c2 : Try.prog.cellsOf 22 = 1 := by kernel_rfl
  have c3 : Try.prog.cellsOf 4 = 1 := by kernel_rfl
  have c4 : Try.prog.cellsOf 24 = 5 := by kernel_rfl
  rw [c0] at hlen
  match xs, hxs with
  | [x0, x1, x2, x3], _ =>
    have h0 : DataW.trod enc Try.prog w base spare held m 3 ((cs.drop 0).take (Try.prog.cellsOf 3)) = some x0 := hf 0 _ rfl
    have h1 : DataW.trod enc Try.prog w base spare held m 22 ((cs.drop 1).take (Try.prog.cellsOf 22)) = some x1 := hf 1 _ rfl
    have h2 : DataW.trod enc Try.prog w base spare held m 4 ((cs.drop 2).take (Try.prog.cellsOf 4)) = some x2 := hf 2 _ rfl
    have h3 : DataW.trod enc Try.prog w base spare held m 24 ((cs.drop 3).take (Try.prog.cellsOf 24)) = some x3 := hf 3 _ rfl
    rw [c1] at h0
    rw [c2] at h1
    rw [c3] at h2
    rw [c4] at h3
    obtain ⟨a, ha⟩ := opn_int (by kernel_rfl) m _ _ h0
    obtain ⟨l, hl⟩ := opn_sl (α := Nd) Try.underlying22 c4 (by decide) opn_nd h1
    obtain ⟨q, hq⟩ := opn_bool (by kernel_rfl) m _ _ h2
    obtain ⟨t, ht⟩ := opn_nd m _ _ h3
    exact ⟨⟨a, l, q, t⟩, repF_at (o := 0) (n := 1) (m := 1) (ds := [.v (.int .i64 a)]) rfl ha (repF_at (o := 1) (n := 1) (m := 2) (ds := [.s 5 (l.map ndD)]) rfl hl (repF_at (o := 2) (n := 1) (m := 3) (ds := [.v (.bool q)]) rfl hq (repF_last ht (by omega))))⟩
theorem opn_dc (n : Nat) : OpnAt Dc enc w base spare held 49 n := by
  intro cs x h
  obtain ⟨xs, m, rfl, _, hlen, hxs, hf⟩ := DataW.trod_struct Try.underlying49 h
  have c0 : Try.prog.cellsOf 49 = 11 := by kernel_rfl
  have c1 : Try.prog.cellsOf 3 = 1 := by kernel_rfl
  have c2 : Try.prog.cellsOf 9 = 1 := by kernel_rfl
  have c3 : Try.prog.cellsOf 46 = 1 := by kernel_rfl
  have c4 : Try.prog.cellsOf 24 = 5 := by kernel_rfl
  have c5 : Try.prog.cellsOf 47 = 1 := by kernel_rfl
  have d1 : Try.prog.cellsOf 112 = 7 := by kernel_rfl
  have d2 : Try.prog.cellsOf 82 = 8 := by kernel_rfl
  rw [c0] at hlen
  match xs, hxs with
  | [x0, x1, x2, x3, x4, x5, x6], _ =>
    have h0 : DataW.trod enc Try.prog w base spare held m 3 ((cs.drop 0).take (Try.prog.cellsOf 3)) = some x0 := hf 0 _ rfl
    have h1 : DataW.trod enc Try.prog w base spare held m 3 ((cs.drop 1).take (Try.prog.cellsOf 3)) = some x1 := hf 1 _ rfl
    have h2 : DataW.trod enc Try.prog w base spare held m 9 ((cs.drop 2).take (Try.prog.cellsOf 9)) = some x2 := hf 2 _ rfl
    have h3 : DataW.trod enc Try.prog w base spare held m 46 ((cs.drop 3).take (Try.prog.cellsOf 46)) = some x3 := hf 3 _ rfl
    have h4 : DataW.trod enc Try.prog w base spare held m 24 ((cs.drop 4).take (Try.prog.cellsOf 24)) = some x4 := hf 4 _ rfl
    have h5 : DataW.trod enc Try.prog w base spare held m 46 ((cs.drop 9).take (Try.prog.cellsOf 46)) = some x5 := hf 5 _ rfl
    have h6 : DataW.trod enc Try.prog w base spare held m 47 ((cs.drop 10).take (Try.prog.cellsOf 47)) = some x6 := hf 6 _ rfl
    rw [c1] at h0 h1
    rw [c2] at h2
    rw [c3] at h3 h5
    rw [c4] at h4
    rw [c5] at h6
    obtain ⟨k, hk⟩ := opn_int (by kernel_rfl) m _ _ h0
    obtain ⟨a, ha⟩ := opn_int (by kernel_rfl) m _ _ h1
    obtain ⟨s, hs⟩ := opn_str (by kernel_rfl) m _ _ h2
    obtain ⟨tl, htl⟩ := opn_sl (α := Bd) Try.underlying46 d1 (by decide) opn_bd h3
    obtain ⟨t, ht⟩ := opn_nd m _ _ h4
    obtain ⟨cl, hcl⟩ := opn_sl (α := Bd) Try.underlying46 d1 (by decide) opn_bd h5
    obtain ⟨rl, hrl⟩ := opn_sl (α := Rw) Try.underlying47 d2 (by decide) opn_rw h6
    exact ⟨⟨k, a, s, tl, t, cl, rl⟩, repF_at (o := 0) (n := 1) (m := 1) (ds := [.v (.int .i64 k)]) rfl hk (repF_at (o := 1) (n := 1) (m := 2) (ds := [.v (.int .i64 a)]) rfl ha (repF_at (o := 2) (n := 1) (m := 3) (ds := [.str s]) rfl hs (repF_at (o := 3) (n := 1) (m := 4) (ds := [.s 7 (tl.map Enc.enc)]) rfl htl (repF_at (o := 4) (n := 5) (m := 9) (ds := ndD t) rfl ht (repF_at (o := 9) (n := 1) (m := 10) (ds := [.s 7 (cl.map Enc.enc)]) rfl hcl (repF_last hrl (by omega)))))))⟩
def DcC (w : World) (d : Dc) (cs : List Value) : Prop := Rep (fun _ => True) w d cs
def DcS (w : World) (v : Value) (l : List Dc) : Prop := RepS (fun _ => True) w v l
theorem open_dc_cs (n : Nat) (cs : List Value) (x : DataW H × List MemPlace) (h : DataW.trod enc Try.prog w base spare held n 49 cs = some x) : ∃ t, DcC w t cs := opn_dc n cs x h
theorem open_dcs {n : Nat} {cs : List Value} {x : DataW H × List MemPlace} (h : DataW.trod enc Try.prog w base spare held n 67 cs = some x) : ∃ (a : Option Addr) (len cap : Nat) (ts : List Dc), cs = [.slice a len cap] ∧ DcS w (.slice a len cap) ts := by
  obtain ⟨v, l, rfl, hl⟩ := opn_slice (α := Dc) Try.underlying67 (by kernel_rfl) (by decide) (fun m' _ => opn_dc m') h
  obtain ⟨a, c, rfl, _⟩ := hl.shape
  exact ⟨a, _, c, l, rfl, hl⟩
end
end Go.Proofs.Ytffgfjnbgplckaa

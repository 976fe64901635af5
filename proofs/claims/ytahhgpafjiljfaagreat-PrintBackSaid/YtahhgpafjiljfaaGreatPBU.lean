import Derived.Test.YtahhgpafjiljfaaGreatPBA2
import Derived.Test.YtahhgpafjiljfaaGreatPTab
import Derived.Test.YtahhgpafjiljfaaGreatPT35
import Derived.Test.YtahhgpafjiljfaaGreatPT12
import Derived.Test.YtahhgpafjiljfaaGreatPBD
set_option linter.unusedSimpArgs false
set_option linter.unusedVariables false
set_option maxHeartbeats 16000000
set_option maxRecDepth 100000
namespace Go.Proofs.YtahhgpafjiljfaaGreat
open Go.RowKit
theorem agg_nd {K : Kp} {w : World} {t : Nd} {v : Value} (h : RelV K w (aggD t) v) : ∃ cs : List Value, v = .agg cs.toArray ∧ NdC w t cs := by
 obtain ⟨cs, e, h⟩ := Qkn h
 exact ⟨cs, e, Rep.toC _ _ h⟩
theorem agg_form {α : Type} [Enc α] [EncOk α] {S : Nat → Prop} {K : Kp} {w : World} (hK : ∀ b o v, S b → w.cell? ⟨b, o, none⟩ = some v → K.cell b o) {l : List α} {v : Value} (h0 : 0 < Enc.sz α) (h : RepS S w v l) : RelV K w (.d (slD l)) v := .d (relS_of hK h0 h)
theorem tup2 {K : Kp} {w : World} {p q : PV} {v u : Value} (h1 : RelV K w p v) (h2 : RelV K w q u) : RelV K w (.tup [p, q]) (.tuple #[v, u]) := by
  refine .tup rfl fun i p v hp hv => ?_
  match i with
  | 0 =>
    have e1 := Option.some.inj hp
    have e2 := Option.some.inj hv
    subst e1; subst e2; exact h1
  | 1 =>
    have e1 := Option.some.inj hp
    have e2 := Option.some.inj hv
    subst e1; subst e2; exact h2
  | n + 2 => simp at hp
theorem Qmm {S : Nat → Prop} {w : World} {ds : List Dt} {cs : List Value} {o n : Nat} (h : RepF S w ds ((cs.drop o).take n)) (hl : cs.length ≤ o + n) : RepF S w ds (cs.drop o) := by
 rwa [List.take_of_length_le (by rw [List.length_drop]; omega)] at h
section
variable {H : Type} {enc : TypeId × Value → H} {w : World} {base : Nat} {spare : Nat → Bool} {held : Bool}
theorem opn_sl {α : Type} [Enc α] {T e : TypeId} (ht : Tryz.prog.underlying T = some (.slice e)) (hc : Tryz.prog.cellsOf e = Enc.sz α) (hpos : 0 < Enc.sz α) (ho : ∀ n, OpnAt α enc w base spare held e n) {n : Nat} {cs : List Value} {x : DataW H × List MemPlace} (h : DataW.trod enc Tryz.prog w base spare held n T cs = some x) : ∃ l : List α, RepF (fun _ => True) w [.s (Enc.sz α) (l.map Enc.enc)] cs := by
 obtain ⟨v, l, rfl, hl⟩ := opn_slice (α := α) ht hc hpos (fun m' _ => ho m') h
 exact ⟨l, repF_slice hl⟩
theorem opn_bd (n : Nat) : OpnAt Bd enc w base spare held 120 n := by
  intro cs x h
  obtain ⟨xs, m, rfl, _, hlen, hxs, hf⟩ := DataW.trod_struct Tryz.underlying120 h
  have c0 : Tryz.prog.cellsOf 120 = 7 := by kernel_rfl
  have c1 : Tryz.prog.cellsOf 9 = 1 := by kernel_rfl
  have c2 : Tryz.prog.cellsOf 3 = 1 := by kernel_rfl
  have c3 : Tryz.prog.cellsOf 25 = 5 := by kernel_rfl
  rw [c0] at hlen
  match xs, hxs with
  | [x0, x1, x2], _ =>
    have h0 : DataW.trod enc Tryz.prog w base spare held m 9 ((cs.drop 0).take (Tryz.prog.cellsOf 9)) = some x0 := hf 0 _ rfl
    have h1 : DataW.trod enc Tryz.prog w base spare held m 3 ((cs.drop 1).take (Tryz.prog.cellsOf 3)) = some x1 := hf 1 _ rfl
    have h2 : DataW.trod enc Tryz.prog w base spare held m 25 ((cs.drop 2).take (Tryz.prog.cellsOf 25)) = some x2 := hf 2 _ rfl
    rw [c1] at h0
    rw [c2] at h1
    rw [c3] at h2
    obtain ⟨s, hs⟩ := opn_str (by kernel_rfl) m _ _ h0
    obtain ⟨a, ha⟩ := Qim (by kernel_rfl) m _ _ h1
    obtain ⟨t, ht⟩ := opn_nd m _ _ h2
    exact ⟨⟨s, a, t⟩, Qfc (o := 0) (n := 1) (m := 1) (ds := [.str s]) rfl hs (Qfc (o := 1) (n := 1) (m := 2) (ds := [.v (.int .i64 a)]) rfl ha (Qmm ht (by omega)))⟩
theorem opn_rw (n : Nat) : OpnAt Rw enc w base spare held 62 n := by
  intro cs x h
  obtain ⟨xs, m, rfl, _, hlen, hxs, hf⟩ := DataW.trod_struct Tryz.underlying62 h
  have c0 : Tryz.prog.cellsOf 62 = 8 := by kernel_rfl
  have c1 : Tryz.prog.cellsOf 3 = 1 := by kernel_rfl
  have c2 : Tryz.prog.cellsOf 23 = 1 := by kernel_rfl
  have c3 : Tryz.prog.cellsOf 4 = 1 := by kernel_rfl
  have c4 : Tryz.prog.cellsOf 25 = 5 := by kernel_rfl
  rw [c0] at hlen
  match xs, hxs with
  | [x0, x1, x2, x3], _ =>
    have h0 : DataW.trod enc Tryz.prog w base spare held m 3 ((cs.drop 0).take (Tryz.prog.cellsOf 3)) = some x0 := hf 0 _ rfl
    have h1 : DataW.trod enc Tryz.prog w base spare held m 23 ((cs.drop 1).take (Tryz.prog.cellsOf 23)) = some x1 := hf 1 _ rfl
    have h2 : DataW.trod enc Tryz.prog w base spare held m 4 ((cs.drop 2).take (Tryz.prog.cellsOf 4)) = some x2 := hf 2 _ rfl
    have h3 : DataW.trod enc Tryz.prog w base spare held m 25 ((cs.drop 3).take (Tryz.prog.cellsOf 25)) = some x3 := hf 3 _ rfl
    rw [c1] at h0
    rw [c2] at h1
    rw [c3] at h2
    rw [c4] at h3
    obtain ⟨a, ha⟩ := Qim (by kernel_rfl) m _ _ h0
    obtain ⟨l, hl⟩ := opn_sl (α := Nd) Tryz.underlying23 c4 (by decide) opn_nd h1
    obtain ⟨q, hq⟩ := opn_bool (by kernel_rfl) m _ _ h2
    obtain ⟨t, ht⟩ := opn_nd m _ _ h3
    exact ⟨⟨a, l, q, t⟩, Qfc (o := 0) (n := 1) (m := 1) (ds := [.v (.int .i64 a)]) rfl ha (Qfc (o := 1) (n := 1) (m := 2) (ds := [.s 5 (l.map ndD)]) rfl hl (Qfc (o := 2) (n := 1) (m := 3) (ds := [.v (.bool q)]) rfl hq (Qmm ht (by omega))))⟩
theorem opn_dc (n : Nat) : OpnAt Dc enc w base spare held 40 n := by
  intro cs x h
  obtain ⟨xs, m, rfl, _, hlen, hxs, hf⟩ := DataW.trod_struct Tryz.underlying40 h
  have c0 : Tryz.prog.cellsOf 40 = 11 := by kernel_rfl
  have c1 : Tryz.prog.cellsOf 3 = 1 := by kernel_rfl
  have c2 : Tryz.prog.cellsOf 9 = 1 := by kernel_rfl
  have c3 : Tryz.prog.cellsOf 37 = 1 := by kernel_rfl
  have c4 : Tryz.prog.cellsOf 25 = 5 := by kernel_rfl
  have c5 : Tryz.prog.cellsOf 38 = 1 := by kernel_rfl
  have d1 : Tryz.prog.cellsOf 120 = 7 := by kernel_rfl
  have d2 : Tryz.prog.cellsOf 62 = 8 := by kernel_rfl
  rw [c0] at hlen
  match xs, hxs with
  | [x0, x1, x2, x3, x4, x5, x6], _ =>
    have h0 : DataW.trod enc Tryz.prog w base spare held m 3 ((cs.drop 0).take (Tryz.prog.cellsOf 3)) = some x0 := hf 0 _ rfl
    have h1 : DataW.trod enc Tryz.prog w base spare held m 3 ((cs.drop 1).take (Tryz.prog.cellsOf 3)) = some x1 := hf 1 _ rfl
    have h2 : DataW.trod enc Tryz.prog w base spare held m 9 ((cs.drop 2).take (Tryz.prog.cellsOf 9)) = some x2 := hf 2 _ rfl
    have h3 : DataW.trod enc Tryz.prog w base spare held m 37 ((cs.drop 3).take (Tryz.prog.cellsOf 37)) = some x3 := hf 3 _ rfl
    have h4 : DataW.trod enc Tryz.prog w base spare held m 25 ((cs.drop 4).take (Tryz.prog.cellsOf 25)) = some x4 := hf 4 _ rfl
    have h5 : DataW.trod enc Tryz.prog w base spare held m 37 ((cs.drop 9).take (Tryz.prog.cellsOf 37)) = some x5 := hf 5 _ rfl
    have h6 : DataW.trod enc Tryz.prog w base spare held m 38 ((cs.drop 10).take (Tryz.prog.cellsOf 38)) = some x6 := hf 6 _ rfl
    rw [c1] at h0 h1
    rw [c2] at h2
    rw [c3] at h3 h5
    rw [c4] at h4
    rw [c5] at h6
    obtain ⟨k, hk⟩ := Qim (by kernel_rfl) m _ _ h0
    obtain ⟨a, ha⟩ := Qim (by kernel_rfl) m _ _ h1
    obtain ⟨s, hs⟩ := opn_str (by kernel_rfl) m _ _ h2
    obtain ⟨tl, htl⟩ := opn_sl (α := Bd) Tryz.underlying37 d1 (by decide) opn_bd h3
    obtain ⟨t, ht⟩ := opn_nd m _ _ h4
    obtain ⟨cl, hcl⟩ := opn_sl (α := Bd) Tryz.underlying37 d1 (by decide) opn_bd h5
    obtain ⟨rl, hrl⟩ := opn_sl (α := Rw) Tryz.underlying38 d2 (by decide) opn_rw h6
    exact ⟨⟨k, a, s, tl, t, cl, rl⟩, Qfc (o := 0) (n := 1) (m := 1) (ds := [.v (.int .i64 k)]) rfl hk (Qfc (o := 1) (n := 1) (m := 2) (ds := [.v (.int .i64 a)]) rfl ha (Qfc (o := 2) (n := 1) (m := 3) (ds := [.str s]) rfl hs (Qfc (o := 3) (n := 1) (m := 4) (ds := [.s 7 (tl.map Enc.enc)]) rfl htl (Qfc (o := 4) (n := 5) (m := 9) (ds := ndD t) rfl ht (Qfc (o := 9) (n := 1) (m := 10) (ds := [.s 7 (cl.map Enc.enc)]) rfl hcl (Qmm hrl (by omega)))))))⟩
def DcC (w : World) (d : Dc) (cs : List Value) : Prop := Rep (fun _ => True) w d cs
theorem open_dc_cs (n : Nat) (cs : List Value) (x : DataW H × List MemPlace) (h : DataW.trod enc Tryz.prog w base spare held n 40 cs = some x) : ∃ t, DcC w t cs := opn_dc n cs x h
end
end Go.Proofs.YtahhgpafjiljfaaGreat

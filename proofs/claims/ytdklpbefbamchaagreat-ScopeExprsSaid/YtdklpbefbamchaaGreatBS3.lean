import Derived.Test.YtdklpbefbamchaaGreatBE5
import Derived.Test.YtdklpbefbamchaaGreatBS
import Derived.Test.YtdklpbefbamchaaGreatBS2
import Derived.Test.YtdklpbefbamchaaGreatBA5
set_option linter.unusedSimpArgs false
set_option linter.unusedVariables false
set_option maxHeartbeats 16000000
set_option maxRecDepth 100000
namespace Go.Proofs.YtdklpbefbamchaaGreat
open Go.RowKit
section
variable {H : Type} {enc : TypeId × Value → H} {w : World} {base : Nat} {spare : Nat → Bool} {held : Bool}
theorem opn_en (n : Nat) : OpnB En EnOk enc w base spare held 40 n := by
  intro cs x h hw
  obtain ⟨xs, m, rfl, rfl, hlen, hxs, hf⟩ := DataW.trod_struct Tryz.underlying40 h
  have c0 : Tryz.prog.cellsOf 40 = 15 := by kernel_rfl
  have c1 : Tryz.prog.cellsOf 3 = 1 := by kernel_rfl
  have c2 : Tryz.prog.cellsOf 9 = 1 := by kernel_rfl
  have c3 : Tryz.prog.cellsOf 26 = 3 := by kernel_rfl
  have c4 : Tryz.prog.cellsOf 38 = 1 := by kernel_rfl
  have b1 : Tryz.prog.bytesOf 3 = 8 := by kernel_rfl
  rw [c0] at hlen
  match xs, hxs with
  | [x0, x1, x2, x3, x4, x5, x6, x7, x8, x9, x10], _ =>
    have h0 : DataW.trod enc Tryz.prog w base spare held m 3 ((cs.drop 0).take (Tryz.prog.cellsOf 3)) = some x0 := hf 0 _ rfl
    have h1 : DataW.trod enc Tryz.prog w base spare held m 9 ((cs.drop 1).take (Tryz.prog.cellsOf 9)) = some x1 := hf 1 _ rfl
    have h2 : DataW.trod enc Tryz.prog w base spare held m 26 ((cs.drop 2).take (Tryz.prog.cellsOf 26)) = some x2 := hf 2 _ rfl
    have h3 : DataW.trod enc Tryz.prog w base spare held m 26 ((cs.drop 5).take (Tryz.prog.cellsOf 26)) = some x3 := hf 3 _ rfl
    have h4 : DataW.trod enc Tryz.prog w base spare held m 3 ((cs.drop 8).take (Tryz.prog.cellsOf 3)) = some x4 := hf 4 _ rfl
    have h5 : DataW.trod enc Tryz.prog w base spare held m 3 ((cs.drop 9).take (Tryz.prog.cellsOf 3)) = some x5 := hf 5 _ rfl
    have h6 : DataW.trod enc Tryz.prog w base spare held m 3 ((cs.drop 10).take (Tryz.prog.cellsOf 3)) = some x6 := hf 6 _ rfl
    have h7 : DataW.trod enc Tryz.prog w base spare held m 3 ((cs.drop 11).take (Tryz.prog.cellsOf 3)) = some x7 := hf 7 _ rfl
    have h8 : DataW.trod enc Tryz.prog w base spare held m 3 ((cs.drop 12).take (Tryz.prog.cellsOf 3)) = some x8 := hf 8 _ rfl
    have h9 : DataW.trod enc Tryz.prog w base spare held m 38 ((cs.drop 13).take (Tryz.prog.cellsOf 38)) = some x9 := hf 9 _ rfl
    have h10 : DataW.trod enc Tryz.prog w base spare held m 38 ((cs.drop 14).take (Tryz.prog.cellsOf 38)) = some x10 := hf 10 _ rfl
    have w9 : Wl Tryz.prog 38 x9.1 := wl_part Tryz.underlying40 hw (j := 9) rfl rfl
    have w10 : Wl Tryz.prog 38 x10.1 := wl_part Tryz.underlying40 hw (j := 10) rfl rfl
    rw [c1] at h0 h4 h5 h6 h7 h8
    rw [c2] at h1
    rw [c3] at h2 h3
    rw [c4] at h9 h10
    obtain ⟨k, hk⟩ := Qec (by kernel_rfl) m _ _ h0
    obtain ⟨s, hs⟩ := opn_str (by kernel_rfl) m _ _ h1
    obtain ⟨t, ht⟩ := opn_tm m _ _ h2
    obtain ⟨u, hu⟩ := opn_tm m _ _ h3
    obtain ⟨a4, ha4⟩ := Qec (by kernel_rfl) m _ _ h4
    obtain ⟨a5, ha5⟩ := Qec (by kernel_rfl) m _ _ h5
    obtain ⟨a6, ha6⟩ := Qec (by kernel_rfl) m _ _ h6
    obtain ⟨a7, ha7⟩ := Qec (by kernel_rfl) m _ _ h7
    obtain ⟨a8, ha8⟩ := Qec (by kernel_rfl) m _ _ h8
    obtain ⟨v9, l9, e9, r9, -, z9⟩ := Qhx (α := Int) Tryz.underlying38 c1 (by decide) (fun m' _ => (Qec (by kernel_rfl) m').toB) h9 w9
    obtain ⟨v10, l10, e10, r10, -, z10⟩ := Qhx (α := Int) Tryz.underlying38 c1 (by decide) (fun m' _ => (Qec (by kernel_rfl) m').toB) h10 w10
    have q9 : RepF (fun _ => True) w [.s 1 (l9.map Enc.enc)] ((cs.drop 13).take 1) := by rw [e9]; exact repF_slice r9
    have q10 : RepF (fun _ => True) w [.s 1 (l10.map Enc.enc)] ((cs.drop 14).take 1) := by rw [e10]; exact repF_slice r10
    rw [b1] at z9 z10
    unfold reachBytes at z9 z10
    refine ⟨⟨k, s, t, u, a4, a5, a6, a7, a8, l9, l10⟩, ?_, by show l9.length ≤ _; omega, by show l10.length ≤ _; omega⟩
    have hall := Qfk (o := 0) (n := 1) (m := 1) (ds := [.v (.int .i64 k)]) rfl hk (Qfk (o := 1) (n := 1) (m := 2) (ds := [.str s]) rfl hs (Qfk (o := 2) (n := 3) (m := 5) (ds := tmD t) rfl ht (Qfk (o := 5) (n := 3) (m := 8) (ds := tmD u) rfl hu (Qfk (o := 8) (n := 1) (m := 9) (ds := [.v (.int .i64 a4)]) rfl ha4 (Qfk (o := 9) (n := 1) (m := 10) (ds := [.v (.int .i64 a5)]) rfl ha5 (Qfk (o := 10) (n := 1) (m := 11) (ds := [.v (.int .i64 a6)]) rfl ha6 (Qfk (o := 11) (n := 1) (m := 12) (ds := [.v (.int .i64 a7)]) rfl ha7 (Qfk (o := 12) (n := 1) (m := 13) (ds := [.v (.int .i64 a8)]) rfl ha8 (Qfk (o := 13) (n := 1) (m := 14) (ds := [.s 1 (l9.map Enc.enc)]) rfl q9 (repF_tail q10 (by omega)))))))))))
    unfold Rep
    simp only [Enc.enc, List.append_assoc]
    exact hall
def EnS (w : World) (v : Value) (l : List En) : Prop := RepS (fun _ => True) w v l ∧ ∀ e ∈ l, EnOk e
theorem open_ens {n : Nat} {cs : List Value} {x : DataW H × List MemPlace} (h : DataW.trod enc Tryz.prog w base spare held n 22 cs = some x) (hw : Wl Tryz.prog 22 x.1) : ∃ (a : Option Addr) (len cap : Nat) (ts : List En), cs = [.slice a len cap] ∧ EnS w (.slice a len cap) ts := by
 obtain ⟨v, l, rfl, hl, hok, _⟩ := Qhx (α := En) Tryz.underlying22 (by kernel_rfl) (by decide) (fun m' _ => opn_en m') h hw
 obtain ⟨a, c, rfl, _⟩ := hl.shape
 exact ⟨a, _, c, l, rfl, hl, hok⟩
end
theorem ceq_refl : ∀ t : Tm, ceqT t t = true := by
  refine Tm.ind ?_
  intro k n sub ih
  have hl : ∀ l : List Tm, (∀ s ∈ l, ceqT s s = true) → ceqL l l = true := by
    intro l
    induction l with
    | nil => intro _; rfl
    | cons t ts iht =>
      intro h
      simp only [ceqL, Bool.and_eq_true]
      exact ⟨h t (by simp), iht fun s hs => h s (by simp [hs])⟩
  simp only [ceqT, beq_self_eq_true, Bool.true_and, hl sub ih]
theorem find_at (s : ByteArray) : ∀ (l : List En) (b i : Nat), (∀ j x, j < i → l[j]? = some x → (x.name.toList == s.toList) = false) → (∃ x, l[i]? = some x ∧ (x.name.toList == s.toList) = true) → Qdd s l b = some (b + i) := by
  intro l
  induction l with
  | nil => rintro b i _ ⟨x, h, _⟩; simp at h
  | cons y l ih =>
    rintro b i h1 ⟨x, h2, h3⟩
    cases i with
    | zero =>
      cases h2
      simp only [Qdd]
      rw [if_pos h3]; rfl
    | succ i =>
      have h0 := h1 0 y (by omega) rfl
      simp only [Qdd]
      rw [if_neg (by rw [h0]; decide), ih (b + 1) i (fun j x hj hx => h1 (j + 1) x (by omega) (by simpa using hx)) ⟨x, by simpa using h2, h3⟩]
      congr 1; omega
theorem find_formed {l : List En} (h : formedB l = true) {i : Nat} (hi : i < l.length) : Qdd l[i].name l 0 = some i := by
 have hd := (dist_iff _).1 (formed_dist h)
 rw [find_at l[i].name l 0 i ?_ ⟨l[i], List.getElem?_eq_getElem hi, by simp⟩, Nat.zero_add]
 intro j x hj hx
 have := hd j i hj (by rw [Qfj]; exact hi)
 rw [List.getD_eq_getElem?_getD, List.getD_eq_getElem?_getD] at this
 unfold nms at this
 rw [List.getElem?_map, List.getElem?_map, hx, List.getElem?_eq_getElem hi] at this
 exact this
end Go.Proofs.YtdklpbefbamchaaGreat

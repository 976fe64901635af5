import Derived.Test.YtdklpbefbamchaaGreatDBS
import Derived.Test.YtdklpbefbamchaaGreatDBE
import Derived.Test.YtdklpbefbamchaaGreatDBE4
import Derived.Test.YtdklpbefbamchaaGreatDBA5
import Derived.Maps.OwnOps
import Derived.Lib.SliceRun
import Derived.Test.YtdklpbefbamchaaGreatProg
import Derived.Test.YtdklpbefbamchaaGreatDBS2
set_option linter.unusedSimpArgs false
set_option linter.unusedVariables false
set_option maxHeartbeats 16000000
set_option maxRecDepth 100000
namespace Go.Proofs.YtdklpbefbamchaaGreat
open Go.RowKit
theorem formed_at {l : List En} (h : formedB l = true) {i : Nat} {x : En} (hx : l[i]? = some x) : Qcb l x i = true := by
 unfold formedB at h
 simp only [Bool.and_eq_true, decide_eq_true_eq] at h
 have := (allP_iff _ _ _).1 h.2.2 i x hx
 rwa [Nat.zero_add] at this
theorem entry_shaped {l : List En} {x : En} {i : Nat} (h : Qcb l x i = true) : Qad x.ty = true := by
 unfold Qcb Qcf Qds at h
 simp only [Bool.and_eq_true] at h
 exact h.2.1.1.1.1
theorem Qjo {l : List En} {i : Nat} {x : En} (hF : formedB l = true) (hx : l[i]? = some x) (hk : x.kind = 2) : ∃ (q m : Nat) (d : En), x.of_ = q ∧ q < i ∧ l[q]? = some d ∧ d.kind = 1 ∧ x.pars = m ∧ d.pars = m ∧ m ≤ 24 ∧ 0 ≤ d.inds ∧ d.inds ≤ 24 ∧ Qad x.ty = true ∧ (Qar x.ty).length ≤ 24 ∧ m ≤ (Qar x.ty).length ∧ m ≤ (Qav (benT x.ty)).length ∧ Qbp (benT x.ty) q m d.inds (Qar x.ty).length = true := by
 have he := formed_at hF hx
 have hs := entry_shaped he
 have hc : conB l x i = true := by
  have h2 := he
  unfold Qcb at h2
  simp only [Bool.and_eq_true] at h2
  rw [(kind_con hk).1] at h2
  exact h2.2.2
 unfold conB at hc
 rw [Bool.and_eq_true] at hc
 obtain ⟨q, d, hq, hqi, hd, hdk, hpp⟩ := Qgv hc.1
 have hB := fam_ok (i := i) (fun j y hj hy => formed_at hF hy) q d hqi hd hdk
 have h3 := hc.2
 rw [con_tele hs] at h3
 simp only [Bool.and_eq_true, decide_eq_true_eq] at h3
 obtain ⟨h24, hpt, ha⟩ := h3
 obtain ⟨m, hm⟩ : ∃ m : Nat, x.pars = m := ⟨x.pars.toNat, by omega⟩
 unfold Qhl at ha
 rw [hq, Int.toNat_natCast, hd, hm] at ha
 have hal : ((Qav (benT x.ty)).length : Int) = m + d.inds := by
  have h4 := ha
  unfold Qbp at h4
  simp only [Bool.and_eq_true, beq_iff_eq] at h4
  exact h4.2.2.1
 exact ⟨q, m, d, hq, hqi, hd, hdk, hm, by omega, by omega, hB.2.1, hB.2.2, hs, by omega, by omega, by omega, ha⟩
theorem is_at {l : List En} {n : Nat} {k : Int} {x : En} (hx : l[n]? = some x) : isE l n k = (x.kind == k) := by
 have hlt := (List.getElem?_eq_some_iff.1 hx).1
 unfold isE
 rw [decide_eq_true (show (0 : Int) ≤ n by omega), decide_eq_true (show (n : Int) < l.length by omega), Int.toNat_natCast, hx]; rfl
section
variable {H : Type} {enc : TypeId × Value → H} {w : World} {base : Nat} {spare : Nat → Bool} {held : Bool}
theorem opn_en (n : Nat) : OpnB En EnOk enc w base spare held 40 n := by
  intro cs x h hw
  obtain ⟨xs, m, rfl, rfl, hlen, hxs, hf⟩ := DataW.trod_struct Tryz.underlying40 h
  have c0 : Tryz.prog.cellsOf 40 = 15 := by kernel_rfl
  have c1 : Tryz.prog.cellsOf 3 = 1 := by kernel_rfl
  have c2 : Tryz.prog.cellsOf 9 = 1 := by kernel_rfl
  have c3 : Tryz.prog.cellsOf 26 = 3 := by kernel_rfl
  have c4 : Tryz.prog.cellsOf 38 = 1 := by kernel_rfl
  have b1 : Tryz.prog.bytesOf 3 = 8 := by kernel_rfl
  rw [c0] at hlen
  match xs, hxs with
  | [x0, x1, x2, x3, x4, x5, x6, x7, x8, x9, x10], _ =>
    have h0 : DataW.trod enc Tryz.prog w base spare held m 3 ((cs.drop 0).take (Tryz.prog.cellsOf 3)) = some x0 := hf 0 _ rfl
    have h1 : DataW.trod enc Tryz.prog w base spare held m 9 ((cs.drop 1).take (Tryz.prog.cellsOf 9)) = some x1 := hf 1 _ rfl
    have h2 : DataW.trod enc Tryz.prog w base spare held m 26 ((cs.drop 2).take (Tryz.prog.cellsOf 26)) = some x2 := hf 2 _ rfl
    have h3 : DataW.trod enc Tryz.prog w base spare held m 26 ((cs.drop 5).take (Tryz.prog.cellsOf 26)) = some x3 := hf 3 _ rfl
    have h4 : DataW.trod enc Tryz.prog w base spare held m 3 ((cs.drop 8).take (Tryz.prog.cellsOf 3)) = some x4 := hf 4 _ rfl
    have h5 : DataW.trod enc Tryz.prog w base spare held m 3 ((cs.drop 9).take (Tryz.prog.cellsOf 3)) = some x5 := hf 5 _ rfl
    have h6 : DataW.trod enc Tryz.prog w base spare held m 3 ((cs.drop 10).take (Tryz.prog.cellsOf 3)) = some x6 := hf 6 _ rfl
    have h7 : DataW.trod enc Tryz.prog w base spare held m 3 ((cs.drop 11).take (Tryz.prog.cellsOf 3)) = some x7 := hf 7 _ rfl
    have h8 : DataW.trod enc Tryz.prog w base spare held m 3 ((cs.drop 12).take (Tryz.prog.cellsOf 3)) = some x8 := hf 8 _ rfl
    have h9 : DataW.trod enc Tryz.prog w base spare held m 38 ((cs.drop 13).take (Tryz.prog.cellsOf 38)) = some x9 := hf 9 _ rfl
    have h10 : DataW.trod enc Tryz.prog w base spare held m 38 ((cs.drop 14).take (Tryz.prog.cellsOf 38)) = some x10 := hf 10 _ rfl
    have w9 : Wl Tryz.prog 38 x9.1 := wl_part Tryz.underlying40 hw (j := 9) rfl rfl
    have w10 : Wl Tryz.prog 38 x10.1 := wl_part Tryz.underlying40 hw (j := 10) rfl rfl
    rw [c1] at h0 h4 h5 h6 h7 h8
    rw [c2] at h1
    rw [c3] at h2 h3
    rw [c4] at h9 h10
    obtain ⟨k, hk⟩ := Qdm (by kernel_rfl) m _ _ h0
    obtain ⟨s, hs⟩ := opn_str (by kernel_rfl) m _ _ h1
    obtain ⟨t, ht⟩ := opn_tm m _ _ h2
    obtain ⟨u, hu⟩ := opn_tm m _ _ h3
    obtain ⟨a4, ha4⟩ := Qdm (by kernel_rfl) m _ _ h4
    obtain ⟨a5, ha5⟩ := Qdm (by kernel_rfl) m _ _ h5
    obtain ⟨a6, ha6⟩ := Qdm (by kernel_rfl) m _ _ h6
    obtain ⟨a7, ha7⟩ := Qdm (by kernel_rfl) m _ _ h7
    obtain ⟨a8, ha8⟩ := Qdm (by kernel_rfl) m _ _ h8
    obtain ⟨v9, l9, e9, r9, -, z9⟩ := Qgb (α := Int) Tryz.underlying38 c1 (by decide) (fun m' _ => (Qdm (by kernel_rfl) m').toB) h9 w9
    obtain ⟨v10, l10, e10, r10, -, z10⟩ := Qgb (α := Int) Tryz.underlying38 c1 (by decide) (fun m' _ => (Qdm (by kernel_rfl) m').toB) h10 w10
    have q9 : RepF (fun _ => True) w [.s 1 (l9.map Enc.enc)] ((cs.drop 13).take 1) := by rw [e9]; exact Qjg r9
    have q10 : RepF (fun _ => True) w [.s 1 (l10.map Enc.enc)] ((cs.drop 14).take 1) := by rw [e10]; exact Qjg r10
    rw [b1] at z9 z10
    unfold reachBytes at z9 z10
    refine ⟨⟨k, s, t, u, a4, a5, a6, a7, a8, l9, l10⟩, ?_, by show l9.length ≤ _; omega, by show l10.length ≤ _; omega⟩
    have hall := Qdj (o := 0) (n := 1) (m := 1) (ds := [.v (.int .i64 k)]) rfl hk (Qdj (o := 1) (n := 1) (m := 2) (ds := [.str s]) rfl hs (Qdj (o := 2) (n := 3) (m := 5) (ds := tmD t) rfl ht (Qdj (o := 5) (n := 3) (m := 8) (ds := tmD u) rfl hu (Qdj (o := 8) (n := 1) (m := 9) (ds := [.v (.int .i64 a4)]) rfl ha4 (Qdj (o := 9) (n := 1) (m := 10) (ds := [.v (.int .i64 a5)]) rfl ha5 (Qdj (o := 10) (n := 1) (m := 11) (ds := [.v (.int .i64 a6)]) rfl ha6 (Qdj (o := 11) (n := 1) (m := 12) (ds := [.v (.int .i64 a7)]) rfl ha7 (Qdj (o := 12) (n := 1) (m := 13) (ds := [.v (.int .i64 a8)]) rfl ha8 (Qdj (o := 13) (n := 1) (m := 14) (ds := [.s 1 (l9.map Enc.enc)]) rfl q9 (repF_tail q10 (by omega)))))))))))
    unfold Rep
    simp only [Enc.enc, List.append_assoc]
    exact hall
def EnS (w : World) (v : Value) (l : List En) : Prop := RepS (fun _ => True) w v l ∧ ∀ e ∈ l, EnOk e
theorem open_ens {n : Nat} {cs : List Value} {x : DataW H × List MemPlace} (h : DataW.trod enc Tryz.prog w base spare held n 22 cs = some x) (hw : Wl Tryz.prog 22 x.1) : ∃ (a : Option Addr) (len cap : Nat) (ts : List En), cs = [.slice a len cap] ∧ EnS w (.slice a len cap) ts := by
 obtain ⟨v, l, rfl, hl, hok, _⟩ := Qgb (α := En) Tryz.underlying22 (by kernel_rfl) (by decide) (fun m' _ => opn_en m') h hw
 obtain ⟨a, c, rfl, _⟩ := hl.shape
 exact ⟨a, _, c, l, rfl, hl, hok⟩
end
end Go.Proofs.YtdklpbefbamchaaGreat

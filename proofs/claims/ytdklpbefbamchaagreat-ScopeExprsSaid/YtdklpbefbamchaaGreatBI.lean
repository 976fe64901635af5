import Derived.Test.YtdklpbefbamchaaGreatBE1
import Derived.Test.YtdklpbefbamchaaGreatBS3
import Derived.Test.YtdklpbefbamchaaGreatBN1
import Derived.Test.YtdklpbefbamchaaGreatT6
import Derived.Test.YtdklpbefbamchaaGreatBG
import Derived.Test.YtdklpbefbamchaaGreatBA6
import Derived.Test.YtdklpbefbamchaaGreatBS2
import Derived.Test.YtdklpbefbamchaaGreatBS
import Derived.Test.YtdklpbefbamchaaGreatBU
import Derived.Test.YtdklpbefbamchaaGreatBV
import Derived.Test.YtdklpbefbamchaaGreatBE2
set_option linter.unusedSimpArgs false
set_option linter.unusedVariables false
set_option maxHeartbeats 16000000
set_option maxRecDepth 100000
namespace Go.Proofs.YtdklpbefbamchaaGreat
open Go.RowKit
def Qgl (l : List En) (ns : List ByteArray) (s : ByteArray) (a : Int) : Tm × Option Int :=
 if 0 ≤ Qap ns s ns.length then (.mk 1 ((ns.length : Int) - 1 - Qap ns s ns.length) [], none) else match Qdd s l 0 with
  | some c => (.mk 6 c [], none)
  | none => (.mk 6 0 [], some a)
def kndE (k : Int) : Int := if k = 3 then 3 else if k = 4 then 4 else 5
def innE (k : Int) (s : ByteArray) (ns : List ByteArray) : List ByteArray := if k = 5 then ns else ns ++ [s]
def scT (l : List En) : Nd → List ByteArray → Tm × Option Int
  | .mk k a s n [x, y], ns =>
    if k = 1 then Qgl l ns s a else if k = 2 then (.mk 2 n [], none)
    else (.mk (kndE k) 0 [(scT l x ns).1, (scT l y (innE k s ns)).1], (scT l x ns).2.or (scT l y (innE k s ns)).2)
  | .mk k a s n _, ns => if k = 1 then Qgl l ns s a else (.mk 2 n [], none)
theorem sc_two {l : List En} {k a n : Int} {s : ByteArray} {x y : Nd} {ns : List ByteArray} (h : k = 3 ∨ k = 4 ∨ k = 5) : scT l (.mk k a s n [x, y]) ns = (.mk (kndE k) 0 [(scT l x ns).1, (scT l y (innE k s ns)).1], (scT l x ns).2.or (scT l y (innE k s ns)).2) := by
 simp only [scT]; rw [if_neg (by omega), if_neg (by omega)]
theorem Qjj {l : List En} {a n : Int} {s : ByteArray} {ns : List ByteArray} : scT l (.mk 1 a s n []) ns = Qgl l ns s a := by simp only [scT]; rfl
theorem sc_set {l : List En} {a n : Int} {s : ByteArray} {ns : List ByteArray} : scT l (.mk 2 a s n []) ns = (.mk 2 n [], none) := by simp only [scT]; rfl
def xS : ByteArray := ⟨#[120]⟩
def lowS : ByteArray := ⟨#[95]⟩
open Classical in
noncomputable def freN (L : List ByteArray) : Nat := if h : L.length ≤ 300 then (fresh_N (Qbx xS) L h).choose else 0
theorem freN_ok {L : List ByteArray} (h : L.length ≤ 300) : 1 ≤ freN L ∧ freN L ≤ 20 * L.length + 40 ∧ cnt L (Qcc (Qbx xS) (freN L)) = 0 ∧ ∀ n, 1 ≤ n → n < freN L → cnt L (Qcc (Qbx xS) n) ≠ 0 := by
 unfold freN
 rw [dif_pos h]
 exact (fresh_N (Qbx xS) L h).choose_spec
noncomputable def freX (L : List ByteArray) : ByteArray := Qct xS L (freN L)
noncomputable def bndX (l : List En) (ns : List ByteArray) (k : Int) (y : Tm) : ByteArray := if k = 4 ∨ hasT y 0 = true then freX (nms l ++ ns) else lowS
def zNdX : Nd := .mk 0 0 ByteArray.empty 0 []
def varX (ns : List ByteArray) (n : Int) : Nd × Bool :=
 match ns[((ns.length : Int) - 1 - n).toNat]? with
 | some s => (.mk 1 0 s 0 [], (s.toList == [95]) || !(Qap ns s ns.length == (ns.length : Int) - 1 - n))
 | none => (zNdX, true)
def conX (l : List En) (ns : List ByteArray) (n : Int) : Nd × Bool :=
 match l[n.toNat]? with
 | some e => (.mk 1 0 e.name 0 [], decide (0 ≤ Qap ns e.name ns.length))
 | none => (zNdX, true)
noncomputable def exT (l : List En) : Tm → List ByteArray → Nd × Bool
  | .mk k n [x, y], ns =>
    if k = 3 ∨ k = 4 then (.mk k 0 (bndX l ns k y) 0 [(exT l x ns).1, (exT l y (ns ++ [bndX l ns k y])).1], (exT l x ns).2 || (exT l y (ns ++ [bndX l ns k y])).2)
    else if k = 5 then (.mk 5 0 ByteArray.empty 0 [(exT l x ns).1, (exT l y ns).1], (exT l x ns).2 || (exT l y ns).2)
    else (zNdX, true)
  | .mk k n _, ns => if k = 1 then varX ns n else if k = 2 then (.mk 2 0 ByteArray.empty n [], false) else if k = 6 then conX l ns n else (zNdX, true)
theorem ex_bind {l : List En} {k n : Int} {x y : Tm} {ns : List ByteArray} (h : k = 3 ∨ k = 4) : exT l (.mk k n [x, y]) ns = (.mk k 0 (bndX l ns k y) 0 [(exT l x ns).1, (exT l y (ns ++ [bndX l ns k y])).1], (exT l x ns).2 || (exT l y (ns ++ [bndX l ns k y])).2) := by
 simp only [exT]; rw [if_pos h]
theorem ex_app {l : List En} {n : Int} {x y : Tm} {ns : List ByteArray} : exT l (.mk 5 n [x, y]) ns = (.mk 5 0 ByteArray.empty 0 [(exT l x ns).1, (exT l y ns).1], (exT l x ns).2 || (exT l y ns).2) := by
 simp only [exT]; rw [if_neg (by decide), if_pos trivial]
theorem ex_var {l : List En} {n : Int} {ns : List ByteArray} : exT l (.mk 1 n []) ns = varX ns n := by simp only [exT]; rfl
theorem ex_set {l : List En} {n : Int} {ns : List ByteArray} : exT l (.mk 2 n []) ns = (.mk 2 0 ByteArray.empty n [], false) := by simp only [exT]; rfl
theorem ex_con {l : List En} {n : Int} {ns : List ByteArray} : exT l (.mk 6 n []) ns = conX l ns n := by simp only [exT]; rfl
theorem ex_free {l : List En} {n : Int} {ns : List ByteArray} : exT l (.mk 8 n []) ns = (zNdX, true) := by simp only [exT]; rfl
theorem ex_elim {l : List En} {n : Int} {x : Tm} {ns : List ByteArray} : exT l (.mk 7 n [x]) ns = (zNdX, true) := by simp only [exT]; rfl
theorem Qke {k n : Int} {sub : List Tm} (h : Qah (.mk k n sub) = true) :
  ((k = 1 ∨ k = 2 ∨ k = 6 ∨ k = 8) ∧ sub = [] ∧ 0 ≤ n ∧ n ≤ 1048576) ∨ (∃ x, k = 7 ∧ sub = [x]) ∨ ∃ x y, (k = 3 ∨ k = 4 ∨ k = 5) ∧ n = 0 ∧ sub = [x, y] ∧ Qah x = true ∧ Qah y = true := by
 obtain ⟨h1, h2⟩ := Qby h
 obtain ⟨q1, q2, q3, q4, q5⟩ := Qft h1
 have hm : n ≤ Qbb k := by
  unfold Qei at h1
  have := of_decide_eq_true h1
  exact this.2.2.2.2.1
 by_cases k3 : k = 3 ∨ k = 4 ∨ k = 5
 ·have hs : Qaz k = 2 := by unfold Qaz; rw [if_pos k3]
  have hn : Qbb k = 0 := by unfold Qbb; rw [if_neg (by omega), if_pos k3]
  match sub, show sub.length = 2 by omega with
  | [x, y], _ => exact .inr (.inr ⟨x, y, k3, by omega, rfl, h2 x (by simp), h2 y (by simp)⟩)
 ·by_cases k7 : k = 7
  ·have hs : Qaz k = 1 := by subst k7; rfl
   match sub, show sub.length = 1 by omega with
   | [x], _ => exact .inr (.inl ⟨x, k7, rfl⟩)
  ·have hs : Qaz k = 0 := by unfold Qaz; rw [if_neg k3, if_neg k7]
   refine .inl ⟨by omega, List.eq_nil_of_length_eq_zero (by omega), q3, q4⟩
theorem cnt_ne {l : List ByteArray} {s : ByteArray} (h : s ∈ l) : cnt l s ≠ 0 := by
 have h1 : 0 < (l.filter (fun x => x.toList == s.toList)).length := List.length_pos_of_mem (List.mem_filter.2 ⟨h, by simp⟩)
 unfold cnt
 omega
theorem scope_back (l : List En) (hF : formedB l = true) : ∀ (t : Tm) (ns : List ByteArray), Qah t = true → (exT l t ns).2 = false → scT l (exT l t ns).1 ns = (t, none) := by
  refine Tm.ind ?_
  intro k n sub ih ns hg he
  rcases Qke hg with ⟨hk, rfl, h0, h1⟩ | ⟨x, rfl, rfl⟩ | ⟨x, y, hk, rfl, rfl, gx, gy⟩
  · rcases hk with rfl | rfl | rfl | rfl
    · rw [ex_var] at he ⊢
      unfold varX at he ⊢
      cases hs : ns[((ns.length : Int) - 1 - n).toNat]? with
      | none => rw [hs] at he; cases he
      | some s =>
        rw [hs] at he
        simp only [Bool.or_eq_false_iff, Bool.not_eq_false', beq_iff_eq] at he
        have hlt := (List.getElem?_eq_some_iff.1 hs).1
        simp only
        rw [Qjj]
        unfold Qgl
        have hb := (Qhu ns s ns.length).2
        by_cases hp : 0 ≤ Qap ns s ns.length
        · rw [if_pos hp, he.2]
          congr 2; omega
        · have hb2 := (Qhu ns s ns.length).1
          have hcn := (Qku ns s ns.length (Nat.le_refl _)).1 (by omega)
          rw [List.take_length] at hcn
          have : cnt ns s ≠ 0 := by
            have hm : s ∈ ns := List.mem_of_getElem? hs
            exact cnt_ne hm
          exact absurd hcn this
    · rw [ex_set]; exact sc_set
    · rw [ex_con] at he ⊢
      unfold conX at he ⊢
      cases hs : l[n.toNat]? with
      | none => rw [hs] at he; cases he
      | some e =>
        rw [hs] at he
        have hp := of_decide_eq_false he
        simp only
        rw [Qjj]
        unfold Qgl
        have hlt := (List.getElem?_eq_some_iff.1 hs).1
        have hf := find_formed hF hlt
        have hge : l[n.toNat] = e := (List.getElem?_eq_some_iff.1 hs).2
        rw [hge] at hf
        rw [if_neg hp, hf]
        simp only
        rw [Int.toNat_of_nonneg h0]
    · rw [ex_free] at he; cases he
  · rw [ex_elim] at he; cases he
  · by_cases k5 : k = 5
    · subst k5
      rw [ex_app] at he ⊢
      simp only [Bool.or_eq_false_iff] at he
      simp only
      rw [sc_two (by omega)]
      unfold innE
      rw [if_pos (by trivial), ih x (by simp) ns gx he.1, ih y (by simp) ns gy he.2]
      rfl
    · have hk2 : k = 3 ∨ k = 4 := by omega
      rw [ex_bind hk2] at he ⊢
      simp only [Bool.or_eq_false_iff] at he
      simp only
      rw [sc_two hk]
      unfold innE
      rw [if_neg k5, ih x (by simp) ns gx he.1, ih y (by simp) _ gy he.2]
      unfold kndE
      rcases hk2 with rfl | rfl <;> rfl
theorem nplace_p (l : List ByteArray) (s : ByteArray) : PCalls Tryz.prog 159 [.d (.sl (l.map encD)), .d (.v (.string s))] [] fun p st => p = .d (.v (.int .i64 (Qap l s l.length))) ∧ st = [] := by
 refine PCalls.flat trivial fun K w vs ha => ?_
 obtain ⟨v, u, rfl, hv, hu⟩ := ha.two
 obtain ⟨rfl, -⟩ := hu.flat
 refine (place_any l s v w w (Qic hv).1 (Below.refl _ _)).mono ?_
 rintro e w' ⟨rfl, rfl⟩
 exact ⟨rfl, Below.refl _ _⟩
theorem Qkw (l : List ByteArray) (s : ByteArray) : PCalls Tryz.prog 152 [.d (.sl (l.map encD)), .d (.v (.string s))] [] fun p st => p = .d (.v (.int .i64 (Qap l s l.length))) ∧ st = [] := by
 refine PCalls.flat trivial fun K w vs ha => ?_
 obtain ⟨v, u, rfl, hv, hu⟩ := ha.two
 obtain ⟨rfl, -⟩ := hu.flat
 refine (Qfe l s v w w (Qic hv).1 (Below.refl _ _)).mono ?_
 rintro e w' ⟨rfl, rfl⟩
 exact ⟨rfl, Below.refl _ _⟩
theorem xS_right : Qaq xS = true := by decide +kernel
theorem xS_size : xS.size ≤ maxLen := by decide
theorem freE_0 {L : List ByteArray} (h : L.length ≤ 300) : Qel xS L = 0 := by unfold Qel; rw [if_pos xS_right, if_neg (by omega)]
theorem Qhr (L : List ByteArray) (h : L.length ≤ 300) : (freX L).size ≤ maxLen := by
 unfold freX Qct
 rw [if_pos xS_right, if_neg (by omega)]
 split
 ·exact xS_size
 ·obtain ⟨-, h2, -, -⟩ := freN_ok h
  obtain ⟨e1, e2⟩ := Qkv xS xS_right
  obtain ⟨e3, e4⟩ := stem_ok xS e1 e2
  have := numS_sizeN (Qbx xS) e3 e4 (freN L) (by omega)
  unfold maxLen
  omega
theorem nfresh_p (L : List ByteArray) (h : L.length ≤ 300) : PCalls Tryz.prog 262 [.d (.v (.string xS)), .d (.sl (L.map encD))] [] fun p st => p = .tup [.d (.v (.string (freX L))), .d (.v (.int .i64 0))] ∧ st = [] := by
 refine PCalls.data fun K w vs ha => ?_
 obtain ⟨u, v, rfl, hu, hv⟩ := ha.two
 obtain ⟨rfl, -⟩ := hu.flat
 obtain ⟨q1, q2⟩ := Qic hv
 obtain ⟨n1, n2, n3, n4⟩ := freN_ok h
 refine (fresh_any xS xS_size L v w q1 q2 (freN L) fun _ _ _ => ⟨n1, by omega, n3, n4⟩).mono ?_
 rintro e w' ⟨rfl, hb⟩
 rw [freE_0 h]
 exact ⟨_, rfl, hb, fun K' hK => tup2 (.d (.v (Qhr L h))) (.d (.v trivial))⟩
theorem rnfresh_p (L : List ByteArray) (h : L.length ≤ 300) : PCalls Tryz.prog 170 [.d (.v (.string xS)), .d (.sl (L.map encD))] [] fun p st => p = .tup [.d (.v (.string (freX L))), .d (.v (.int .i64 0))] ∧ st = [] := by
 refine PCalls.data fun K w vs ha => ?_
 obtain ⟨u, v, rfl, hu, hv⟩ := ha.two
 obtain ⟨rfl, -⟩ := hu.flat
 obtain ⟨q1, q2⟩ := Qic hv
 obtain ⟨n1, n2, n3, n4⟩ := freN_ok h
 refine (rfresh_any xS xS_size L v w q1 h (freN L) n1 n2 n3 n4).mono ?_
 rintro e w' ⟨rfl, hb⟩
 rw [freE_0 h]
 exact ⟨_, rfl, hb, fun K' hK => tup2 (.d (.v (Qhr L h))) (.d (.v trivial))⟩
theorem snames_o (l : List En) (hl : l.length ≤ 100000) : PCalls Tryz.prog 129 [.d (.sl (l.map encD))] [] fun p s => ∃ g, p = .own g ((nms l).map encD) ∧ s = [.tok g 9 1 (nms l).length] := by
 refine PCalls.enter Tryz.func129 rfl Tryz.ntmps129 (by simp) ?_
 simp only [Qaa]
 refine go_ ?_
 refine PW_own 3 9 1 (by decide) (by simp [PF.get] <;> rfl) fun g hg => ?_
 refine Qao (ι := List ByteArray × Nat) (fun y => y.2 ≤ l.length ∧ Hid (y.1 = (nms l).take y.2)) (fun y => [(3, .own g (y.1.map encD)), (6, .d (.sl (l.map encD))), (7, .d (.v (.int .i64 l.length))), (8, .d (.v (.int .i64 (y.2 : Int))))]) (fun y => [.tok g 9 1 y.1.length]) (fun y => l.length - y.2) ([], 0) ⟨Nat.zero_le _, rfl⟩ ?_ ?_ ?_
 ·repeat (first | exact Jt _ | refine Js (by simp [PF.get]; rfl) (by first | rfl | (simp [*]; done) | fail) ?_)
 ·repeat (first | exact List.Sublist.refl _ | exact List.nil_sublist _ | refine List.Sublist.cons_cons _ ?_ | refine List.Sublist.cons _ ?_)
 ·rintro ⟨m, j⟩ ⟨hj, hm⟩
  simp only at hj hm ⊢
  by_cases hlt : j < l.length
  ·have hx := Qar hlt
   have hc : (j : Int) < l.length := by omega
   have hn : (0 : Int) ≤ j := by omega
   have hin := wr64 (n := (j : Int) + 1) (by omega) (by omega)
   have hM : Hid (m ++ [l[j].name] = (nms l).take (j + 1)) := by show _ = _; rw [Qjw hlt, show m = _ from hm.out]
   have hml : m.length ≤ 100000 := by rw [show m = _ from hm.out, List.length_take]; omega
   clear hm
   refine go_ ?_
   refine Je ?_
   intro i2 hi2
   try simp only [Ja, Rh, Rg, Jb] at hi2
   refine go_ ?_
   refine Rd ?_
   refine go_ ?_
   refine Qam ?_
   refine go_ ?_
   refine Qai (m.length + 1) ?_ ?_ ?_ ?_
   ·simp
   ·exact Qal _
   ·exact Qau rfl
   refine go_ ?_
   refine ⟨(m ++ [l[j].name], j + 1), ⟨hlt, hM⟩, by simp only; omega, ?_, ?_⟩
   ·repeat (first | exact Jt _ | refine Js (by simp [PF.get]; rfl) (by first | rfl | (simp [Jg]; done) | fail) ?_)
   ·simp only [List.length_append, List.length_singleton]
    repeat (first | exact List.Sublist.refl _ | exact List.nil_sublist _ | refine List.Sublist.cons_cons _ ?_ | refine List.Sublist.cons _ ?_)
  ·have hc : ¬ (j : Int) < l.length := by omega
   have hf : Hid (m = nms l) := by show _ = _; rw [show m = _ from hm.out, List.take_of_length_le (by rw [Qfj]; omega)]
   clear hm
   refine go_ ?_
   rw [show m = _ from hf.out]
   refine Qfv (st' := [.tok g 9 1 (nms l).length]) (by simp) (by simp only [Tryz.results129]; rfl) (by simp [resP, PF.get]; rfl) (by repeat (first | exact List.Sublist.refl _ | exact List.nil_sublist _ | refine List.Sublist.cons_cons _ ?_ | refine List.Sublist.cons _ ?_)) ⟨g, by simp [tupP], by simp⟩
theorem rnames_o (l : List En) (hl : l.length ≤ 100000) : PCalls Tryz.prog 95 [.d (.sl (l.map encD))] [] fun p s => ∃ g, p = .own g ((nms l).map encD) ∧ s = [.tok g 9 1 (nms l).length] := by
 refine PCalls.enter Tryz.func95 rfl Tryz.ntmps95 (by simp) ?_
 simp only [Qaa]
 refine go_ ?_
 refine Qba ?_ (by decide) (by first | (simp [nev, nevA, nevB, Jp, PF.eval, PF.get, PF.wants, cPV, Qad, PV.rows, Qae, evUn, Jq, Qag, Qaf, Jn, TyK.agg, Qac, St.box?, St.tok?, St.setBox, St.setTok, Qab, spl, PV.ps, PV.one, Jo, aggD, slD, Jh, Jk, Ji, Jj, Jg, Jf, *]; done) | fail) (by simp; rfl) (by rfl) (by simp; rfl) (by rfl) (by decide)
 intro g hg
 refine go_ ?_
 refine Qao (ι := List ByteArray × Nat) (fun y => y.2 ≤ l.length ∧ Hid (y.1 = (nms l).take y.2)) (fun y => [(0, .d (.sl (l.map encD))), (3, .own g (y.1.map encD)), (4, .d (.v (.int .i64 (y.2 : Int))))]) (fun y => [.tok g 9 1 y.1.length]) (fun y => l.length - y.2) ([], 0) ⟨Nat.zero_le _, rfl⟩ ?_ ?_ ?_
 ·repeat (first | exact Jt _ | refine Js (by simp [PF.get]; rfl) (by first | rfl | (simp [*]; done) | fail) ?_)
 ·repeat (first | exact List.Sublist.refl _ | exact List.nil_sublist _ | refine List.Sublist.cons_cons _ ?_ | refine List.Sublist.cons _ ?_)
 ·rintro ⟨m, j⟩ ⟨hj, hm⟩
  simp only at hj hm ⊢
  by_cases hlt : j < l.length
  ·have hx := Qar hlt
   have hc : (j : Int) < l.length := by omega
   have hn : (0 : Int) ≤ j := by omega
   have hin := wr64 (n := (j : Int) + 1) (by omega) (by omega)
   have hM : Hid (m ++ [l[j].name] = (nms l).take (j + 1)) := by show _ = _; rw [Qjw hlt, show m = _ from hm.out]
   have hml : m.length ≤ 100000 := by rw [show m = _ from hm.out, List.length_take]; omega
   clear hm
   refine go_ ?_
   refine Qam ?_
   refine go_ ?_
   refine Qai (m.length + 1) ?_ ?_ ?_ ?_
   ·simp
   ·exact Qal _
   ·exact Qau rfl
   refine go_ ?_
   refine ⟨(m ++ [l[j].name], j + 1), ⟨hlt, hM⟩, by simp only; omega, ?_, ?_⟩
   ·repeat (first | exact Jt _ | refine Js (by simp [PF.get]; rfl) (by first | rfl | (simp [Jg]; done) | fail) ?_)
   ·simp only [List.length_append, List.length_singleton]
    repeat (first | exact List.Sublist.refl _ | exact List.nil_sublist _ | refine List.Sublist.cons_cons _ ?_ | refine List.Sublist.cons _ ?_)
  ·have hc : ¬ (j : Int) < l.length := by omega
   have hf : Hid (m = nms l) := by show _ = _; rw [show m = _ from hm.out, List.take_of_length_le (by rw [Qfj]; omega)]
   clear hm
   refine go_ ?_
   rw [show m = _ from hf.out]
   refine Qfv (st' := [.tok g 9 1 (nms l).length]) (by simp) (by simp only [Tryz.results95]; rfl) (by simp [resP, PF.get]; rfl) (by repeat (first | exact List.Sublist.refl _ | exact List.nil_sublist _ | refine List.Sublist.cons_cons _ ?_ | refine List.Sublist.cons _ ?_)) ⟨g, by simp [tupP], by simp⟩
def scS (i0 : Nat) (l : List En) (σ : Int × Int) : St := [.box i0 157 [.d (.sl (l.map encD)), .d (.v (.int .i64 σ.1)), .d (.v (.int .i64 σ.2))]]
def fsS (e a : Int) (σ : Int × Int) : Int × Int := if σ.1 = 0 then (e, a) else σ
def orS (e : Int) (o : Option Int) (σ : Int × Int) : Int × Int := match o with
 | some a => fsS e a σ
 | none => σ
theorem orS_or (e : Int) (he : e ≠ 0) (o p : Option Int) (σ : Int × Int) : orS e p (orS e o σ) = orS e (o.or p) σ := by
  cases o with
  | none => rfl
  | some a =>
    cases p with
    | none => rfl
    | some b =>
      show fsS e b (fsS e a σ) = fsS e a σ
      unfold fsS
      by_cases h : σ.1 = 0
      · rw [if_pos h, if_neg he]
      · rw [if_neg h, if_neg h]
theorem Qjk (i0 : Nat) (l : List En) (σ : Int × Int) (e a : Int) : PCalls Tryz.prog 167 [.ptr i0 0, .d (.v (.int .i64 e)), .d (.v (.int .i64 a))] (scS i0 l σ) fun p s => p = .tup [] ∧ s = scS i0 l (fsS e a σ) := by
 unfold scS
 obtain ⟨b, at_⟩ := σ
 by_cases h : b = 0
 ·subst h
  refine PCalls.enter Tryz.func167 rfl Tryz.ntmps167 (by simp) ?_
  simp only [Qaa]
  refine go_ ?_
  refine Rd ?_
  refine go_ ?_
  refine Rd ?_
  refine go_ ?_
  refine Jm (st' := scS i0 l (e, a)) (by simp) (by simp only [Tryz.results167]; rfl) (by simp [resP]; rfl) (by repeat (first | exact List.Sublist.refl _ | exact List.nil_sublist _ | refine List.Sublist.cons_cons _ ?_ | refine List.Sublist.cons _ ?_)) ⟨rfl, rfl⟩
 ·have HF := Lib.hid (show fsS e a (b, at_) = (b, at_) by unfold fsS; rw [if_neg h])
  rw [HF.out]
  clear HF
  refine PCalls.enter Tryz.func167 rfl Tryz.ntmps167 (by simp) ?_
  simp only [Qaa]
  refine go_ ?_
  refine Jm (st' := scS i0 l (b, at_)) (by simp) (by simp only [Tryz.results167]; rfl) (by simp [resP]; rfl) (by repeat (first | exact List.Sublist.refl _ | exact List.nil_sublist _ | refine List.Sublist.cons_cons _ ?_ | refine List.Sublist.cons _ ?_)) ⟨rfl, rfl⟩
theorem get_str {l : List ByteArray} {k : Nat} (h : k < l.length) : (l.map encD)[k]? = some [D.v (.string l[k])] := by
 rw [List.getElem?_map, List.getElem?_eq_getElem h]; rfl
theorem sfindS_p (i0 : Nat) (l : List En) (σ : Int × Int) (ns : List ByteArray) (hns : ns.length ≤ 1000) (t : Nd) : PCalls Tryz.prog 161 [.ptr i0 0, .d (.sl (ns.map encD)), aggD t] (scS i0 l σ) fun p s => p = aggD (Qgl l ns t.name t.at).1 ∧ s = scS i0 l (orS 3 (Qgl l ns t.name t.at).2 σ) := by
  obtain ⟨R, hR⟩ : ∃ R, R = Qgl l ns t.name t.at := ⟨_, rfl⟩
  rw [← hR]
  have HR := Lib.hid (show R = _ from hR)
  unfold Qgl at HR
  clear hR
  have hF := Lib.hid (sfind_p l t.name)
  have hfl := Lib.hid (fun σ a => Qjk i0 l σ 3 a)
  have hw0 := wr64 (n := (ns.length : Int) - 1) (by omega) (by omega)
  simp only [aggD, Jh, List.map_cons, List.map_nil]
  unfold scS
  refine PCalls.enter Tryz.func161 rfl Tryz.ntmps161 (by simp) ?_
  simp only [Qaa]
  refine go_ ?_
  refine Jd ?_
  intro i1 hi1
  try simp only [Ja, Rh, Rg, Jb] at hi1
  refine go_ ?_
  refine Je ?_
  intro i2 hi2
  try simp only [Ja, Rh, Rg, Jb] at hi2
  refine go_ ?_
  refine Qao (ι := Nat) (fun k => k ≤ ns.length ∧ Hid (Qap ns t.name k = Qap ns t.name ns.length)) (fun k => [(0, .ptr i0 0), (1, .d (.sl (ns.map encD))), (5, .ptr i1 0), (6, .ptr i2 0), (7, .d (.v (.int .i64 ((k : Int) - 1))))]) (fun _ => [.box i2 26 [.d (.v (.int .i64 0)), .d (.v (.int .i64 0)), .nils], .box i1 68 [.d (.v (.int .i64 t.kind)), .d (.v (.int .i64 t.at)), .d (.v (.string t.name)), .d (.v (.int .i64 t.num)), .d (.sl (t.sub.map encD))], .box i0 157 [.d (.sl (l.map encD)), .d (.v (.int .i64 σ.1)), .d (.v (.int .i64 σ.2))]]) (fun k => k) ns.length ⟨Nat.le_refl _, rfl⟩ ?_ ?_ ?_
  · repeat (first | exact Jt _ | refine Js (by simp [PF.get]; rfl) (by first | rfl | (simp [*]; done) | fail) ?_)
  · repeat (first | exact List.Sublist.refl _ | exact List.nil_sublist _ | refine List.Sublist.cons_cons _ ?_ | refine List.Sublist.cons _ ?_)
  · rintro k ⟨hk, hp⟩
    cases k with
    | succ k =>
      have hlt : k < ns.length := hk
      have e : ((k + 1 : Nat) : Int) - 1 = k := by omega
      rw [e]
      have hx := get_str hlt
      have hc : (k : Int) < ns.length := by omega
      have hn : (0 : Int) ≤ k := by omega
      have hin := wr64 (n := (k : Int) - 1) (by omega) (by omega)
      have hst : Hid (Qap ns t.name ns.length = if (ns[k].toList == t.name.toList) = true then (k : Int) else Qap ns t.name k) := by
        show _ = _
        rw [← hp.out, Qap, Qga ns t.name k hlt]
      clear hp
      cases hq : (ns[k].toList == t.name.toList) with
      | true =>
        have hpk : Qap ns t.name ns.length = k := by rw [hst.out, if_pos hq]
        have hRv : Hid (R = (.mk 1 ((ns.length : Int) - 1 - k) [], none)) := by
          show _ = _
          rw [show R = _ from HR.out, hpk, if_pos (by omega)]
        rw [hRv.out]
        have hv := Lib.hid (tmVar_p ((ns.length : Int) - 1 - k))
        have hw1 := wr64 (n := (ns.length : Int) - 1 - k) (by omega) (by omega)
        simp only [aggD, Jl, List.map_cons, List.map_nil, Jv, Jw, Jx] at hv ⊢
        clear hpk hst HR hF hfl hRv
        refine go_ ?_
        refine Qay [(0, .a), (1, .a), (2, .a), (3, .a), (4, .a), (5, .b), (6, .a)] (by kernel_rfl) (by rfl) (by kernel_rfl) ?_
        refine go_ ?_
        refine Jc (hv.out) ?_
        refine go_ ?_
        refine Rd ?_
        refine go_ ?_
        refine Jm (st' := [.box i0 157 [.d (.sl (l.map encD)), .d (.v (.int .i64 σ.1)), .d (.v (.int .i64 σ.2))]]) (by simp) (by simp only [Tryz.results161]; rfl) (by simp [resP, St.box?, PF.get, Jn, TyK.agg, *]; rfl) (by repeat (first | exact List.Sublist.refl _ | exact List.nil_sublist _ | refine List.Sublist.cons_cons _ ?_ | refine List.Sublist.cons _ ?_)) ?_
        exact ⟨by simp [tupP, PV.norm2, PV.norm1, PV.norm0], rfl⟩
      | false =>
        have hp2 : Hid (Qap ns t.name k = Qap ns t.name ns.length) := by show _ = _; rw [hst.out, if_neg (by rw [hq]; decide)]
        clear hst
        refine go_ ?_
        refine Qay [(0, .a), (1, .a), (2, .a), (3, .a), (4, .a), (5, .b), (6, .a)] (by kernel_rfl) (by rfl) (by kernel_rfl) ?_
        refine go_ ?_
        exact ⟨k, ⟨by omega, hp2⟩, by omega, by repeat (first | exact Jt _ | refine Js (by simp [PF.get]; rfl) (by first | rfl | (simp [*]; done) | fail) ?_), by repeat (first | exact List.Sublist.refl _ | exact List.nil_sublist _ | refine List.Sublist.cons_cons _ ?_ | refine List.Sublist.cons _ ?_)⟩
    | zero =>
      have hpm : Qap ns t.name ns.length = -1 := by rw [← hp.out]; rfl
      have HR2 : Hid (R = match Qdd t.name l 0 with | some c => (.mk 6 c [], none) | none => (.mk 6 0 [], some t.at)) := by
        show _ = _
        rw [show R = _ from HR.out, hpm, if_neg (by omega)]
        try (cases Qdd t.name l 0 <;> rfl)
      have e : ((0 : Nat) : Int) - 1 = -1 := by omega
      rw [e]
      clear HR hp hpm
      cases hfd : Qdd t.name l 0 with
      | some c =>
        rw [hfd] at HR2 hF
        have hRv : Hid (R = (.mk 6 c [], none)) := HR2.out
        rw [hRv.out]
        unfold findP at hF
        have hv := Lib.hid (tmConst_p c)
        simp only [aggD, Jl, List.map_cons, List.map_nil, Jv, Jw, Jx] at hv ⊢
        clear HR2 hfl hRv hfd
        refine go_ ?_
        refine Qay [(0, .a), (1, .a), (2, .a), (3, .b), (4, .a), (5, .b), (6, .a), (7, .a), (8, .a), (9, .a), (10, .a), (11, .a)] (by kernel_rfl) (by rfl) (by kernel_rfl) ?_
        refine go_ ?_
        refine Qbd (hF.out) ?_
        refine go_ ?_
        refine Jc (hv.out) ?_
        refine go_ ?_
        refine Rd ?_
        refine go_ ?_
        refine Jm (st' := [.box i0 157 [.d (.sl (l.map encD)), .d (.v (.int .i64 σ.1)), .d (.v (.int .i64 σ.2))]]) (by simp) (by simp only [Tryz.results161]; rfl) (by simp [resP, St.box?, PF.get, Jn, TyK.agg, *]; rfl) (by repeat (first | exact List.Sublist.refl _ | exact List.nil_sublist _ | refine List.Sublist.cons_cons _ ?_ | refine List.Sublist.cons _ ?_)) ?_
        exact ⟨by simp [tupP, PV.norm2, PV.norm1, PV.norm0], rfl⟩
      | none =>
        rw [hfd] at HR2 hF
        have hRv : Hid (R = (.mk 6 0 [], some t.at)) := HR2.out
        rw [hRv.out]
        unfold findP at hF
        have hv := Lib.hid (tmConst_p 0)
        simp only [aggD, Jl, List.map_cons, List.map_nil, Jv, Jw, Jx] at hv ⊢
        have hf2 := hfl.out σ t.at
        unfold scS at hf2
        have hf2 := Lib.hid hf2
        clear HR2 hfl hRv hfd
        refine go_ ?_
        refine Qay [(0, .a), (1, .a), (2, .a), (3, .b), (4, .a), (5, .b), (6, .a), (7, .a), (8, .a), (9, .a), (10, .a), (11, .a)] (by kernel_rfl) (by rfl) (by kernel_rfl) ?_
        refine go_ ?_
        refine Qbd (hF.out) ?_
        refine go_ ?_
        refine Re 2 1 (hf2.out) ?_
        rintro _ _ ⟨rfl, rfl⟩
        simp only [List.cons_append, List.nil_append, List.append_nil, Ja, Rh, Rg]
        refine go_ ?_
        refine Jc (hv.out) ?_
        refine go_ ?_
        refine Rd ?_
        refine go_ ?_
        refine Jm (st' := [.box i0 157 [.d (.sl (l.map encD)), .d (.v (.int .i64 (fsS 3 t.at σ).1)), .d (.v (.int .i64 (fsS 3 t.at σ).2))]]) (by simp) (by simp only [Tryz.results161]; rfl) (by simp [resP, St.box?, PF.get, Jn, TyK.agg, *]; rfl) (by repeat (first | exact List.Sublist.refl _ | exact List.nil_sublist _ | refine List.Sublist.cons_cons _ ?_ | refine List.Sublist.cons _ ?_)) ?_
        exact ⟨by simp [tupP, PV.norm2, PV.norm1, PV.norm0], rfl⟩
theorem hg_two (k a n : Int) (s : ByteArray) (x y : Nd) : hgT x + 1 ≤ hgT (.mk k a s n [x, y]) ∧ hgT y + 1 ≤ hgT (.mk k a s n [x, y]) := by
 simp only [hgT, hgL]; omega
theorem sterm_p (l : List En) : ∀ (t : Nd) (ns : List ByteArray) (i0 : Nat) (σ : Int × Int), Qca t false = true → ns.length + hgT t ≤ 900 → PCalls Tryz.prog 104 [.ptr i0 0, .d (.sl (ns.map encD)), aggD t] (scS i0 l σ) fun p s => p = aggD (scT l t ns).1 ∧ s = scS i0 l (orS 3 (scT l t ns).2 σ) := by
 refine Nd.ind ?_
 intro k a s n sub ih ns i0 σ hg hh
 rcases ex_cases hg with ⟨rfl, rfl⟩ | ⟨rfl, rfl, h0, h7⟩ | ⟨x, y, hk, rfl, gx, gy⟩
 ·have hc := sfindS_p i0 l σ ns (by omega) (.mk 1 a s n [])
  rw [Qjj]
  simp only [Nd.name, Nd.at] at hc
  generalize Qgl l ns s a = R at *
  simp only [aggD, Jh, List.map_cons, List.map_nil, Nd.kind, Nd.at, Nd.name, Nd.num, Nd.sub] at hc ⊢
  simp only [Jl, List.map_cons, List.map_nil] at hc ⊢
  unfold scS at hc ⊢
  have HC := Lib.hid hc
  clear hc ih hg
  refine PCalls.enter Tryz.func104 rfl Tryz.ntmps104 (by simp) ?_
  simp only [Qaa]
  refine go_ ?_
  refine Jd ?_
  intro i1 hi1
  try simp only [Ja, Rh, Rg, Jb] at hi1
  refine go_ ?_
  refine Je ?_
  intro i2 hi2
  try simp only [Ja, Rh, Rg, Jb] at hi2
  refine go_ ?_
  refine Re 2 1 (HC.out) ?_
  rintro _ _ ⟨rfl, rfl⟩
  simp only [List.cons_append, List.nil_append, List.append_nil, Ja, Rh, Rg]
  refine go_ ?_
  refine Rd ?_
  refine go_ ?_
  refine Jm (st' := [.box i0 157 [.d (.sl (l.map encD)), .d (.v (.int .i64 (orS 3 R.2 σ).1)), .d (.v (.int .i64 (orS 3 R.2 σ).2))]]) (by simp) (by simp only [Tryz.results104]; rfl) (by simp [resP, St.box?, PF.get, Jn, TyK.agg, *]; rfl) (by repeat (first | exact List.Sublist.refl _ | exact List.nil_sublist _ | refine List.Sublist.cons_cons _ ?_ | refine List.Sublist.cons _ ?_)) ?_
  exact ⟨by simp [tupP, PV.norm2, PV.norm1, PV.norm0], rfl⟩
 ·rw [sc_set]
  have hc := Lib.hid (tsort_p n)
  simp only [aggD, Jh, Jl, List.map_cons, List.map_nil, Nd.kind, Nd.at, Nd.name, Nd.num, Nd.sub, Jv, Jw, Jx] at hc ⊢
  unfold scS
  clear ih hg
  refine PCalls.enter Tryz.func104 rfl Tryz.ntmps104 (by simp) ?_
  simp only [Qaa]
  refine go_ ?_
  refine Jd ?_
  intro i1 hi1
  try simp only [Ja, Rh, Rg, Jb] at hi1
  refine go_ ?_
  refine Je ?_
  intro i2 hi2
  try simp only [Ja, Rh, Rg, Jb] at hi2
  refine go_ ?_
  refine Jc (hc.out) ?_
  refine go_ ?_
  refine Rd ?_
  refine go_ ?_
  refine Jm (st' := [.box i0 157 [.d (.sl (l.map encD)), .d (.v (.int .i64 σ.1)), .d (.v (.int .i64 σ.2))]]) (by simp) (by simp only [Tryz.results104]; rfl) (by simp [resP, St.box?, PF.get, Jn, TyK.agg, *]; rfl) (by repeat (first | exact List.Sublist.refl _ | exact List.nil_sublist _ | refine List.Sublist.cons_cons _ ?_ | refine List.Sublist.cons _ ?_)) ?_
  exact ⟨by simp [tupP, PV.norm2, PV.norm1, PV.norm0], rfl⟩
 ·rw [sc_two hk]
  obtain ⟨q1, q2⟩ := hg_two k a n s x y
  have c1 := ih x (by simp) ns i0 σ gx (by omega)
  have hinn : (innE k s ns).length ≤ ns.length + 1 := by
   unfold innE
   split
   ·omega
   ·rw [List.length_append, List.length_singleton]; omega
  have c2 := ih y (by simp) (innE k s ns) i0 (orS 3 (scT l x ns).2 σ) gy (by omega)
  rw [orS_or 3 (by decide)] at c2
  have hA : ns.map encD ++ [[D.v (.string s)]] = (ns ++ [s]).map encD := by rw [List.map_append]; rfl
  have HA := Lib.hid hA
  have hlen : ns.length ≤ 900 := by omega
  clear ih hg hA hh q1 q2 hinn
  generalize scT l x ns = X at *
  generalize hY : scT l y (innE k s ns) = Y at *
  clear hY
  have H3 := Lib.hid (tmPi_p X.1 Y.1)
  have H4 := Lib.hid (tmLam_p X.1 Y.1)
  have H5 := Lib.hid (tmApp_p X.1 Y.1)
  simp only [aggD, Jh, List.map_cons, List.map_nil, Nd.kind, Nd.at, Nd.name, Nd.num, Nd.sub] at c1 c2 ⊢
  simp only [aggD, Jl, List.map_cons, List.map_nil, Jv, Jw, Jx] at c1 c2 H3 H4 H5 ⊢
  unfold scS at c1 c2 ⊢
  have C1 := Lib.hid c1
  have C2 := Lib.hid c2
  clear c1 c2
  rcases hk with rfl | rfl | rfl
  ·have hi : innE 3 s ns = ns ++ [s] := rfl
   rw [hi] at C2
   rw [show kndE 3 = 3 from rfl]
   refine PCalls.enter Tryz.func104 rfl Tryz.ntmps104 (by simp) ?_
   simp only [Qaa]
   refine go_ ?_
   refine Jd ?_
   intro i1 hi1
   try simp only [Ja, Rh, Rg, Jb] at hi1
   refine go_ ?_
   refine Je ?_
   intro i2 hi2
   try simp only [Ja, Rh, Rg, Jb] at hi2
   refine go_ ?_
   refine Re 2 1 (C1.out) ?_
   rintro _ _ ⟨rfl, rfl⟩
   simp only [List.cons_append, List.nil_append, List.append_nil, Ja, Rh, Rg]
   refine go_ ?_
   refine Je ?_
   intro i3 hi3
   try simp only [Ja, Rh, Rg, Jb] at hi3
   refine go_ ?_
   refine Rd ?_
   refine go_ ?_
   refine Qay [(0, .a), (1, .a), (2, .a), (3, .a), (4, .a), (5, .a), (6, .a), (7, .b), (8, .a), (9, .e), (10, .a)] (by kernel_rfl) (by rfl) (by kernel_rfl) ?_
   refine go_ ?_
   refine Qld ?_ (Qal _)
   refine go_ ?_
   refine POrd_bs_a ?_
   refine go_ ?_
   refine Qkm ?_ ?_ ?_ ?_ ?_ ?_
   rotate_left
   ·exact Qal _
   ·exact Qau rfl
   ·simp
   ·simp [maxLen]; omega
   ·simp; omega
   rw [HA.out]
   refine go_ ?_
   refine Re 3 1 (C2.out) ?_
   rintro _ _ ⟨rfl, rfl⟩
   simp only [List.cons_append, List.nil_append, List.append_nil, Ja, Rh, Rg]
   refine go_ ?_
   refine Je ?_
   intro i4 hi4
   try simp only [Ja, Rh, Rg, Jb] at hi4
   refine go_ ?_
   refine Rd ?_
   refine go_ ?_
   refine Jc (H3.out) ?_
   refine go_ ?_
   refine Rd ?_
   refine go_ ?_
   refine Jm (st' := [.box i0 157 [.d (.sl (l.map encD)), .d (.v (.int .i64 (orS 3 (X.2.or Y.2) σ).1)), .d (.v (.int .i64 (orS 3 (X.2.or Y.2) σ).2))]]) (by simp) (by simp only [Tryz.results104]; rfl) (by simp [resP, St.box?, PF.get, Jn, TyK.agg, *]; rfl) (by repeat (first | exact List.Sublist.refl _ | exact List.nil_sublist _ | refine List.Sublist.cons_cons _ ?_ | refine List.Sublist.cons _ ?_)) ?_
   exact ⟨by simp [tupP, PV.norm2, PV.norm1, PV.norm0], rfl⟩
  ·have hi : innE 4 s ns = ns ++ [s] := rfl
   rw [hi] at C2
   rw [show kndE 4 = 4 from rfl]
   refine PCalls.enter Tryz.func104 rfl Tryz.ntmps104 (by simp) ?_
   simp only [Qaa]
   refine go_ ?_
   refine Jd ?_
   intro i1 hi1
   try simp only [Ja, Rh, Rg, Jb] at hi1
   refine go_ ?_
   refine Je ?_
   intro i2 hi2
   try simp only [Ja, Rh, Rg, Jb] at hi2
   refine go_ ?_
   refine Re 2 1 (C1.out) ?_
   rintro _ _ ⟨rfl, rfl⟩
   simp only [List.cons_append, List.nil_append, List.append_nil, Ja, Rh, Rg]
   refine go_ ?_
   refine Je ?_
   intro i3 hi3
   try simp only [Ja, Rh, Rg, Jb] at hi3
   refine go_ ?_
   refine Rd ?_
   refine go_ ?_
   refine Qay [(0, .a), (1, .a), (2, .a), (3, .a), (4, .a), (5, .a), (6, .a), (7, .b), (8, .a), (9, .e), (10, .a)] (by kernel_rfl) (by rfl) (by kernel_rfl) ?_
   refine go_ ?_
   refine Qld ?_ (Qal _)
   refine go_ ?_
   refine POrd_bs_a ?_
   refine go_ ?_
   refine Qkm ?_ ?_ ?_ ?_ ?_ ?_
   rotate_left
   ·exact Qal _
   ·exact Qau rfl
   ·simp
   ·simp [maxLen]; omega
   ·simp; omega
   rw [HA.out]
   refine go_ ?_
   refine Re 3 1 (C2.out) ?_
   rintro _ _ ⟨rfl, rfl⟩
   simp only [List.cons_append, List.nil_append, List.append_nil, Ja, Rh, Rg]
   refine go_ ?_
   refine Je ?_
   intro i4 hi4
   try simp only [Ja, Rh, Rg, Jb] at hi4
   refine go_ ?_
   refine Rd ?_
   refine go_ ?_
   refine Jc (H4.out) ?_
   refine go_ ?_
   refine Rd ?_
   refine go_ ?_
   refine Jm (st' := [.box i0 157 [.d (.sl (l.map encD)), .d (.v (.int .i64 (orS 3 (X.2.or Y.2) σ).1)), .d (.v (.int .i64 (orS 3 (X.2.or Y.2) σ).2))]]) (by simp) (by simp only [Tryz.results104]; rfl) (by simp [resP, St.box?, PF.get, Jn, TyK.agg, *]; rfl) (by repeat (first | exact List.Sublist.refl _ | exact List.nil_sublist _ | refine List.Sublist.cons_cons _ ?_ | refine List.Sublist.cons _ ?_)) ?_
   exact ⟨by simp [tupP, PV.norm2, PV.norm1, PV.norm0], rfl⟩
  ·have hi : innE 5 s ns = ns := rfl
   rw [hi] at C2
   rw [show kndE 5 = 5 from rfl]
   refine PCalls.enter Tryz.func104 rfl Tryz.ntmps104 (by simp) ?_
   simp only [Qaa]
   refine go_ ?_
   refine Jd ?_
   intro i1 hi1
   try simp only [Ja, Rh, Rg, Jb] at hi1
   refine go_ ?_
   refine Je ?_
   intro i2 hi2
   try simp only [Ja, Rh, Rg, Jb] at hi2
   refine go_ ?_
   refine Re 2 1 (C1.out) ?_
   rintro _ _ ⟨rfl, rfl⟩
   simp only [List.cons_append, List.nil_append, List.append_nil, Ja, Rh, Rg]
   refine go_ ?_
   refine Je ?_
   intro i3 hi3
   try simp only [Ja, Rh, Rg, Jb] at hi3
   refine go_ ?_
   refine Rd ?_
   refine go_ ?_
   refine Re 3 1 (C2.out) ?_
   rintro _ _ ⟨rfl, rfl⟩
   simp only [List.cons_append, List.nil_append, List.append_nil, Ja, Rh, Rg]
   refine go_ ?_
   refine Je ?_
   intro i4 hi4
   try simp only [Ja, Rh, Rg, Jb] at hi4
   refine go_ ?_
   refine Rd ?_
   refine go_ ?_
   refine Jc (H5.out) ?_
   refine go_ ?_
   refine Rd ?_
   refine go_ ?_
   refine Jm (st' := [.box i0 157 [.d (.sl (l.map encD)), .d (.v (.int .i64 (orS 3 (X.2.or Y.2) σ).1)), .d (.v (.int .i64 (orS 3 (X.2.or Y.2) σ).2))]]) (by simp) (by simp only [Tryz.results104]; rfl) (by simp [resP, St.box?, PF.get, Jn, TyK.agg, *]; rfl) (by repeat (first | exact List.Sublist.refl _ | exact List.nil_sublist _ | refine List.Sublist.cons_cons _ ?_ | refine List.Sublist.cons _ ?_)) ?_
   exact ⟨by simp [tupP, PV.norm2, PV.norm1, PV.norm0], rfl⟩
def namB (s : ByteArray) : Bool := s.toList == [95] || Qaq s
noncomputable def chkE (l : List En) (ns : List ByteArray) : Int := if (ns.all namB && formedB l) = true then (if 24 < ns.length then 2 else 0) else 5
theorem snamed_p (ns : List ByteArray) : PCalls Tryz.prog 160 [.d (.sl (ns.map encD))] [] fun p s => p = .d (.v (.bool (ns.all namB))) ∧ s = [] := by
  obtain ⟨R, hR⟩ : ∃ R, R = ns.all namB := ⟨_, rfl⟩
  rw [← hR]
  have HR : Hid (R = (ns.drop 0).all namB) := hR
  clear hR
  refine PCalls.enter Tryz.func160 rfl Tryz.ntmps160 (by simp) ?_
  simp only [Qaa]
  refine Qeg (t := 0) (rows := ns.map encD) (by simp [PF.get] <;> rfl) rfl fun hml => ?_
  rw [List.length_map] at hml
  unfold maxLen at hml
  refine go_ ?_
  refine Qao (ι := Nat) (fun y => y ≤ ns.length ∧ Hid (R = (ns.drop y).all namB)) (fun y => [(5, .d (.sl (ns.map encD))), (6, .d (.v (.int .i64 ns.length))), (7, .d (.v (.int .i64 (y : Int))))]) (fun _ => []) (fun y => ns.length - y) 0 ⟨Nat.zero_le _, HR.out⟩ ?_ ?_ ?_
  · repeat (first | exact Jt _ | refine Js (by simp [PF.get]; rfl) (by first | rfl | (simp [*]; done) | fail) ?_)
  · repeat (first | exact List.Sublist.refl _ | exact List.nil_sublist _ | refine List.Sublist.cons_cons _ ?_ | refine List.Sublist.cons _ ?_)
  · rintro j ⟨hj, hR⟩
    clear HR
    by_cases hlt : j < ns.length
    · have hx := get_str hlt
      have hc : (j : Int) < ns.length := by omega
      have hn : (0 : Int) ≤ j := by omega
      have hin := wr64 (n := (j : Int) + 1) (by omega) (by omega)
      have hR2 : Hid (R = (namB ns[j] && (ns.drop (j + 1)).all namB)) := by
        show _ = _; rw [show R = _ from hR.out, List.drop_eq_getElem_cons hlt, List.all_cons]
      have hc1 := Lib.hid (nright_p ns[j])
      unfold namB at hR2
      clear hR
      generalize Qaq ns[j] = q at *
      cases hu : (ns[j].toList == [95]) with
      | true =>
        rw [hu, Bool.true_or, Bool.true_and] at hR2
        refine go_ ?_
        exact ⟨j + 1, ⟨hlt, hR2⟩, by omega, by repeat (first | exact Jt _ | refine Js (by simp [PF.get]; rfl) (by first | rfl | (simp [*]; done) | fail) ?_), by repeat (first | exact List.Sublist.refl _ | exact List.nil_sublist _ | refine List.Sublist.cons_cons _ ?_ | refine List.Sublist.cons _ ?_)⟩
      | false =>
        rw [hu, Bool.false_or] at hR2
        refine go_ ?_
        refine Jr (hc1.out) ?_
        cases q with
        | false =>
          have hf : Hid (R = false) := by show _ = _; rw [show R = _ from hR2.out]; rfl
          refine go_ ?_
          refine Jm (by simp) (by simp only [Tryz.results160]; rfl) (by simp [resP, St.box?, PF.get, Jn, TyK.agg, *]; rfl) Nl ?_
          exact ⟨by rw [hf.out]; rfl, rfl⟩
        | true =>
          rw [Bool.true_and] at hR2
          refine go_ ?_
          exact ⟨j + 1, ⟨hlt, hR2⟩, by omega, by repeat (first | exact Jt _ | refine Js (by simp [PF.get]; rfl) (by first | rfl | (simp [*]; done) | fail) ?_), by repeat (first | exact List.Sublist.refl _ | exact List.nil_sublist _ | refine List.Sublist.cons_cons _ ?_ | refine List.Sublist.cons _ ?_)⟩
    · have hc : ¬ (j : Int) < ns.length := by omega
      have hf : Hid (R = true) := by show _ = _; rw [show R = _ from hR.out, List.drop_of_length_le (by omega)]; rfl
      refine go_ ?_
      refine Jm (by simp) (by simp only [Tryz.results160]; rfl) (by simp [resP, St.box?, PF.get, Jn, TyK.agg, *]; rfl) Nl ?_
      exact ⟨by rw [hf.out]; rfl, rfl⟩
theorem scheck_p (l : List En) (ns : List ByteArray) (ho : ∀ e ∈ l, EnOk e) : PCalls Tryz.prog 103 [.d (.sl (l.map encD)), .d (.sl (ns.map encD))] [] fun p s => p = .d (.v (.int .i64 (chkE l ns))) ∧ s = [] := by
  obtain ⟨R, hR⟩ : ∃ R, R = chkE l ns := ⟨_, rfl⟩
  rw [← hR]
  unfold chkE at hR
  have HR := Lib.hid hR
  have H1 := Lib.hid (snamed_p ns)
  have H2 := Lib.hid (sformed_p l ho)
  clear hR ho
  generalize ns.all namB = a at *
  generalize formedB l = b at *
  cases a with
  | false =>
    have hf : Hid (R = 5) := HR.out
    refine PCalls.enter Tryz.func103 rfl Tryz.ntmps103 (by simp) ?_
    simp only [Qaa]
    refine go_ ?_
    refine Jc (H1.out) ?_
    refine go_ ?_
    refine Jm (by simp) (by simp only [Tryz.results103]; rfl) (by simp [resP, St.box?, PF.get, Jn, TyK.agg, *]; rfl) Nl ?_
    exact ⟨by rw [hf.out]; rfl, rfl⟩
  | true =>
    cases b with
    | false =>
      have hf : Hid (R = 5) := HR.out
      refine PCalls.enter Tryz.func103 rfl Tryz.ntmps103 (by simp) ?_
      simp only [Qaa]
      refine go_ ?_
      refine Jc (H1.out) ?_
      refine go_ ?_
      refine Jr (H2.out) ?_
      refine go_ ?_
      refine Jm (by simp) (by simp only [Tryz.results103]; rfl) (by simp [resP, St.box?, PF.get, Jn, TyK.agg, *]; rfl) Nl ?_
      exact ⟨by rw [hf.out]; rfl, rfl⟩
    | true =>
      by_cases hn : 24 < ns.length
      · have hf : Hid (R = 2) := by show _ = _; rw [show R = _ from HR.out]; simp [hn]
        have hn2 : (24 : Int) < ns.length := by omega
        clear HR hn
        refine PCalls.enter Tryz.func103 rfl Tryz.ntmps103 (by simp) ?_
        simp only [Qaa]
        refine go_ ?_
        refine Jc (H1.out) ?_
        refine go_ ?_
        refine Jr (H2.out) ?_
        refine go_ ?_
        refine Jm (by simp) (by simp only [Tryz.results103]; rfl) (by simp [resP, St.box?, PF.get, Jn, TyK.agg, *]; rfl) Nl ?_
        exact ⟨by rw [hf.out]; rfl, rfl⟩
      · have hf : Hid (R = 0) := by show _ = _; rw [show R = _ from HR.out]; simp [hn]
        have hn2 : ¬ (24 : Int) < ns.length := by omega
        clear HR hn
        refine PCalls.enter Tryz.func103 rfl Tryz.ntmps103 (by simp) ?_
        simp only [Qaa]
        refine go_ ?_
        refine Jc (H1.out) ?_
        refine go_ ?_
        refine Jr (H2.out) ?_
        refine go_ ?_
        refine Jm (by simp) (by simp only [Tryz.results103]; rfl) (by simp [resP, St.box?, PF.get, Jn, TyK.agg, *]; rfl) Nl ?_
        exact ⟨by rw [hf.out]; rfl, rfl⟩
theorem exB_good {t : Nd} (h : Qdj t = true) : Qca t false = true := by unfold Qdj at h; simp only [Bool.and_eq_true] at h; exact h.2
theorem exB_hg {t : Nd} (h : Qdj t = true) : hgT t ≤ 128 := by
 unfold Qdj Qev at h
 simp only [Bool.and_eq_true, decide_eq_true_eq] at h
 have h1 := h.1
 unfold Qek at h1
 split at h1
 ·omega
 ·have := dp_hg t 1 (by omega) (by omega)
  omega
def zeT : Tm := .mk 0 0 []
noncomputable def stA (l : List En) (ns : List ByteArray) (t : Nd) : Tm × Int × Int :=
 if Qdj t = true then (if chkE l ns = 0 then (match (scT l t ns).2 with | some a => (zeT, a, 3) | none => if Qak (scT l t ns).1 = true then ((scT l t ns).1, 0, 0) else (zeT, 0, 2)) else (zeT, 0, chkE l ns)) else (zeT, 0, 5)
def stP (x : Tm × Int × Int) : PV := .tup [aggD x.1, .d (.v (.int .i64 x.2.1)), .d (.v (.int .i64 x.2.2))]
theorem Qjf {l : List En} {ns : List ByteArray} (h : chkE l ns = 0) : ns.length ≤ 24 ∧ formedB l = true := by
 unfold chkE at h
 split at h
 ·rename_i h1
  simp only [Bool.and_eq_true] at h1
  split at h
  ·omega
  ·exact ⟨by omega, h1.2⟩
 ·omega
theorem sTerm_p (l : List En) (ns : List ByteArray) (t : Nd) (ho : ∀ e ∈ l, EnOk e) : PCalls Tryz.prog 52 [.d (.sl (l.map encD)), .d (.sl (ns.map encD)), aggD t] [] fun p s => p = stP (stA l ns t) ∧ s = [] := by
  have hE := Lib.hid (texpr_p t)
  have hC := Lib.hid (scheck_p l ns ho)
  have hT := fun (h1 : Qdj t = true) (h2 : chkE l ns = 0) (i0 : Nat) => sterm_p l t ns i0 (0, 0) (exB_good h1) (by have := exB_hg h1; have := (Qjf h2).1; omega)
  have hS := Lib.hid (Qfx (scT l t ns).1)
  obtain ⟨R, hR⟩ : ∃ R, R = stA l ns t := ⟨_, rfl⟩
  rw [← hR]
  unfold stA at hR
  have HR := Lib.hid hR
  have HT := Lib.hid hT
  clear hR hT ho
  generalize Qdj t = ex at *
  generalize chkE l ns = ck at *
  generalize scT l t ns = X at *
  generalize Qak X.1 = sh at *
  simp only [aggD, Jh, Jl, List.map_cons, List.map_nil] at hE HT hS ⊢
  cases ex with
  | false =>
    have hf : Hid (R = (zeT, 0, 5)) := HR.out
    rw [hf.out]
    unfold zeT stP
    simp only [aggD, Jl, List.map_cons, List.map_nil, Jv, Jw, Jx]
    clear HR hf HT hS hC
    refine PCalls.enter Tryz.func52 rfl Tryz.ntmps52 (by simp) ?_
    simp only [Qaa]
    refine go_ ?_
    refine Jd ?_
    intro i5 hi5
    try simp only [Ja, Rh, Rg, Jb] at hi5
    refine go_ ?_
    refine Je ?_
    intro i6 hi6
    try simp only [Ja, Rh, Rg, Jb] at hi6
    refine go_ ?_
    refine Jc (hE.out) ?_
    refine go_ ?_
    refine Rd ?_
    refine go_ ?_
    refine Jm (by simp) (by simp only [Tryz.results52]; rfl) (by simp [resP, St.box?, PF.get, Jn, TyK.agg, *]; rfl) Nl ?_
    exact ⟨by simp [tupP, PV.norm2, PV.norm1, PV.norm0], rfl⟩
  | true =>
  by_cases hck : ck = 0
  rotate_left
  · have hf : Hid (R = (zeT, 0, ck)) := by show _ = _; rw [show R = _ from HR.out, if_pos rfl, if_neg hck]
    rw [hf.out]
    unfold zeT stP
    simp only [aggD, Jl, List.map_cons, List.map_nil, Jv, Jw, Jx]
    clear HR hf HT hS
    refine PCalls.enter Tryz.func52 rfl Tryz.ntmps52 (by simp) ?_
    simp only [Qaa]
    refine go_ ?_
    refine Jd ?_
    intro i5 hi5
    try simp only [Ja, Rh, Rg, Jb] at hi5
    refine go_ ?_
    refine Je ?_
    intro i6 hi6
    try simp only [Ja, Rh, Rg, Jb] at hi6
    refine go_ ?_
    refine Jc (hE.out) ?_
    refine go_ ?_
    refine Jc (hC.out) ?_
    refine go_ ?_
    refine Rd ?_
    refine go_ ?_
    refine Jm (by simp) (by simp only [Tryz.results52]; rfl) (by simp [resP, St.box?, PF.get, Jn, TyK.agg, *]; rfl) Nl ?_
    exact ⟨by simp [tupP, PV.norm2, PV.norm1, PV.norm0], rfl⟩
  subst hck
  have hTT := HT.out rfl rfl
  clear HT
  obtain ⟨T, o⟩ := X
  simp only at hTT hS HR
  unfold scS at hTT
  cases o with
  | some a =>
    have hf : Hid (R = (zeT, a, 3)) := by show _ = _; rw [show R = _ from HR.out]; rfl
    rw [hf.out]
    have HT := Lib.hid hTT
    unfold zeT stP
    simp only [aggD, Jl, List.map_cons, List.map_nil, Jv, Jw, Jx, orS, fsS, if_true] at HT ⊢
    clear HR hf hS hTT
    refine PCalls.enter Tryz.func52 rfl Tryz.ntmps52 (by simp) ?_
    simp only [Qaa]
    refine go_ ?_
    refine Jd ?_
    intro i5 hi5
    try simp only [Ja, Rh, Rg, Jb] at hi5
    refine go_ ?_
    refine Je ?_
    intro i6 hi6
    try simp only [Ja, Rh, Rg, Jb] at hi6
    refine go_ ?_
    refine Jc (hE.out) ?_
    refine go_ ?_
    refine Jc (hC.out) ?_
    refine go_ ?_
    refine Jd ?_
    intro i7 hi7
    try simp only [Ja, Rh, Rg, Jb] at hi7
    refine go_ ?_
    refine Re 0 1 (HT.out i7) ?_
    rintro _ _ ⟨rfl, rfl⟩
    simp only [List.cons_append, List.nil_append, List.append_nil, Ja, Rh, Rg]
    refine go_ ?_
    refine Je ?_
    intro i8 hi8
    try simp only [Ja, Rh, Rg, Jb] at hi8
    refine go_ ?_
    refine Rd ?_
    refine go_ ?_
    refine Qew (J := Qdp [(i7, _)]) [(0, .a), (1, .a), (2, .a), (3, .a), (4, .a), (5, .a), (6, .a), (7, .a), (8, .a), (9, .e), (10, .a), (11, .a)] (by kernel_rfl) (by rfl) (by kernel_rfl) (by (repeat (first | exact Qat _ | refine Ju (by simp [St.box?, *] <;> rfl) ?_))) ?_
    repeat (first | with_reducible refine Qbj ?_ | refine Qbi ?_ | refine Qbw ?_ | refine Qbv ?_)
    refine Qgq rfl rfl (by simp [nev, nevA, nevB, Jp, PF.eval, PF.get, PF.wants, cPV, Qad, PV.rows, Qae, evUn, Jq, Qag, Qaf, Jn, TyK.agg, Qac, St.box?, St.tok?, St.setBox, St.setTok, Qab, spl, PV.ps, PV.one, Jo, aggD, slD, Jh, Jk, Ji, Jj, Jg, Jf, *]; rfl) (by rfl) (by simp [nev, nevA, nevB, Jp, PF.eval, PF.get, PF.wants, cPV, Qad, PV.rows, Qae, evUn, Jq, Qag, Qaf, Jn, TyK.agg, Qac, St.box?, St.tok?, St.setBox, St.setTok, Qab, spl, PV.ps, PV.one, Jo, aggD, slD, Jh, Jk, Ji, Jj, Jg, Jf, *]; rfl) (by simp [PV.ps, aggD, slD, Jh, Jk, Ji, Jj, Jg, Jf]; rfl) (by first | rfl | (simp [*]; done) | (simp [PV.one, *]; done) | fail) (by simp; rfl) (by first | (simp; done) | fail) (by simp [nev, nevA, nevB, Jp, PF.eval, PF.get, PF.wants, cPV, Qad, PV.rows, Qae, evUn, Jq, Qag, Qaf, Jn, TyK.agg, Qac, St.box?, St.tok?, St.setBox, St.setTok, Qab, spl, PV.ps, PV.one, Jo, aggD, slD, Jh, Jk, Ji, Jj, Jg, Jf, *]; rfl) (by rfl) (by first | (simp; done) | fail) (by simp [St.setBox, spl, *]; rfl) (by first | exact .inl (by decide +kernel) | exact .inr (by (repeat (first | exact Qat _ | refine Ju (by simp [St.box?, *] <;> rfl) ?_)))) ?_
    repeat (first | with_reducible refine Qbj ?_ | refine Qbi ?_ | refine Qbw ?_ | refine Qbv ?_)
    refine go_ ?_
    refine Jm (by simp) (by simp only [Tryz.results52]; rfl) (by simp [resP, St.box?, PF.get, Jn, TyK.agg, *]; rfl) Nl ?_
    exact ⟨by simp [tupP, PV.norm2, PV.norm1, PV.norm0], rfl⟩
  | none =>
    have HT := Lib.hid hTT
    simp only [orS] at HT
    cases sh with
    | false =>
      have hf : Hid (R = (zeT, 0, 2)) := by show _ = _; rw [show R = _ from HR.out]; rfl
      rw [hf.out]
      unfold zeT stP
      simp only [aggD, Jl, List.map_cons, List.map_nil, Jv, Jw, Jx]
      clear HR hf hTT
      refine PCalls.enter Tryz.func52 rfl Tryz.ntmps52 (by simp) ?_
      simp only [Qaa]
      refine go_ ?_
      refine Jd ?_
      intro i5 hi5
      try simp only [Ja, Rh, Rg, Jb] at hi5
      refine go_ ?_
      refine Je ?_
      intro i6 hi6
      try simp only [Ja, Rh, Rg, Jb] at hi6
      refine go_ ?_
      refine Jc (hE.out) ?_
      refine go_ ?_
      refine Jc (hC.out) ?_
      refine go_ ?_
      refine Jd ?_
      intro i7 hi7
      try simp only [Ja, Rh, Rg, Jb] at hi7
      refine go_ ?_
      refine Re 0 1 (HT.out i7) ?_
      rintro _ _ ⟨rfl, rfl⟩
      simp only [List.cons_append, List.nil_append, List.append_nil, Ja, Rh, Rg]
      refine go_ ?_
      refine Je ?_
      intro i8 hi8
      try simp only [Ja, Rh, Rg, Jb] at hi8
      refine go_ ?_
      refine Rd ?_
      refine go_ ?_
      refine Jc (hS.out) ?_
      refine go_ ?_
      refine Rd ?_
      refine go_ ?_
      refine Jm (by simp) (by simp only [Tryz.results52]; rfl) (by simp [resP, St.box?, PF.get, Jn, TyK.agg, *]; rfl) Nl ?_
      exact ⟨by simp [tupP, PV.norm2, PV.norm1, PV.norm0], rfl⟩
    | true =>
      have hf : Hid (R = (T, 0, 0)) := by show _ = _; rw [show R = _ from HR.out]; rfl
      rw [hf.out]
      unfold stP
      simp only [aggD, Jl, List.map_cons, List.map_nil]
      clear HR hf hTT
      refine PCalls.enter Tryz.func52 rfl Tryz.ntmps52 (by simp) ?_
      simp only [Qaa]
      refine go_ ?_
      refine Jd ?_
      intro i5 hi5
      try simp only [Ja, Rh, Rg, Jb] at hi5
      refine go_ ?_
      refine Je ?_
      intro i6 hi6
      try simp only [Ja, Rh, Rg, Jb] at hi6
      refine go_ ?_
      refine Jc (hE.out) ?_
      refine go_ ?_
      refine Jc (hC.out) ?_
      refine go_ ?_
      refine Jd ?_
      intro i7 hi7
      try simp only [Ja, Rh, Rg, Jb] at hi7
      refine go_ ?_
      refine Re 0 1 (HT.out i7) ?_
      rintro _ _ ⟨rfl, rfl⟩
      simp only [List.cons_append, List.nil_append, List.append_nil, Ja, Rh, Rg]
      refine go_ ?_
      refine Je ?_
      intro i8 hi8
      try simp only [Ja, Rh, Rg, Jb] at hi8
      refine go_ ?_
      refine Rd ?_
      refine go_ ?_
      refine Jc (hS.out) ?_
      refine go_ ?_
      refine Rd ?_
      refine go_ ?_
      refine Jm (by simp) (by simp only [Tryz.results52]; rfl) (by simp [resP, St.box?, PF.get, Jn, TyK.agg, *]; rfl) Nl ?_
      exact ⟨by simp [tupP, PV.norm2, PV.norm1, PV.norm0], rfl⟩
end Go.Proofs.YtdklpbefbamchaaGreat

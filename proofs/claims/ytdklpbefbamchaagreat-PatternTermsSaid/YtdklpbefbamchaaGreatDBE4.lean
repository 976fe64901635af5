import Derived.Test.YtdklpbefbamchaaGreatDBE3
import Derived.Test.YtdklpbefbamchaaGreatDBE2
import Derived.Test.YtdklpbefbamchaaGreatDBD
import Derived.SizedLaws
set_option linter.unusedSimpArgs false
set_option linter.unusedVariables false
set_option maxHeartbeats 16000000
set_option maxRecDepth 100000
namespace Go.Proofs.YtdklpbefbamchaaGreat
open Go.RowKit
theorem Qfe (n : Int) (f a : Tm) : Qan (.mk 5 n [f, a]) = Qan f ∧ Qav (.mk 5 n [f, a]) = Qav f ++ [a] := by
 unfold Qan Qav; rw [spineT_app]; exact ⟨rfl, rfl⟩
theorem Qdh {t : Tm} (h : t.kind ≠ 5) : Qan t = t ∧ Qav t = [] := by
 unfold Qan Qav; rw [spineT_not h]; exact ⟨rfl, rfl⟩
theorem Qdu (k n : Int) (a b : Tm) : cndT (.mk k n [a, b]) = cndT a + cndT b + 1 := by simp only [cndT, cndL]; omega
theorem Qhh : ∀ (t : Tm), (Qav t).length ≤ cndT t := by
 refine Tm.ind ?_
 intro k n sub ih
 unfold Qav Qdk
 split
 ·rename_i f a
  have := ih f (by simp)
  unfold Qav at this
  rw [List.length_append, List.length_singleton, Qdu]
  omega
 ·exact Nat.zero_le _
theorem Qij (t : Tm) (hg : Qac t = true) : PCalls Tryz.prog 91 [aggD t] [] fun p s => p = aggD (Qan t) ∧ s = [] := by
 obtain ⟨R, hR0⟩ : ∃ R, R = Qan t := ⟨_, rfl⟩
 rw [← hR0]
 have HR0 := Lib.hid hR0
 have HG := Lib.hid hg
 clear hR0 hg
 simp only [aggD, Jl, List.map_cons, List.map_nil]
 refine PCalls.enter Tryz.func91 rfl Tryz.ntmps91 (by simp) ?_
 simp only [Qab]
 refine go_ ?_
 refine Jd ?_
 intro i0 hi0
 refine go_ ?_
 refine Je ?_
 intro i1 hi1
 try simp only [Ja, Rh, Rg, Jb] at hi1
 refine go_ ?_
 refine Qak (ι := Tm) (fun x => Hid (Qac x = true) ∧ Hid (R = Qan x)) (fun x => [(1, .ptr i0 0), (2, .ptr i1 0)]) (fun x => [.box i1 26 [.d (.v (.int .i64 0)), .d (.v (.int .i64 0)), .nils], .box i0 26 [.d (.v (.int .i64 x.kind)), .d (.v (.int .i64 x.num)), .d (.sl (x.sub.map encD))]]) (fun x => cndT x) t ⟨HG.out, HR0.out⟩ ?_ ?_ ?_
 ·repeat (first | exact Jt _ | refine Js (by simp [PF.get]; rfl) (by first | rfl | (simp [*]; done) | fail) ?_)
 ·repeat (first | exact List.Sublist.refl _ | exact List.nil_sublist _ | refine List.Sublist.cons_cons _ ?_ | refine List.Sublist.cons _ ?_)
 ·rintro x ⟨hgx, hR⟩
  clear HR0 HG
  by_cases h5 : x.kind = 5
  ·obtain ⟨f, a, rfl, hf, ha⟩ := Qey hgx.out h5
   have hR2 : Hid (R = Qan f) := by show _ = _; rw [show R = _ from hR.out, (Qfe 0 f a).1]
   have hnd := Qdu 5 0 f a
   clear hR h5 hgx
   simp only [Tm.kind_mk, Tm.num_mk, Tm.sub_mk, List.map_cons, List.map_nil]
   refine go_ ?_
   refine Rd ?_
   refine go_ ?_
   exact ⟨f, ⟨hf, hR2⟩, by omega, by repeat (first | exact Jt _ | refine Js (by simp [PF.get]; rfl) (by first | rfl | (simp [*]; done) | fail) ?_), by repeat (first | exact List.Sublist.refl _ | exact List.nil_sublist _ | refine List.Sublist.cons_cons _ ?_ | refine List.Sublist.cons _ ?_)⟩
  ·have hf : Hid (R = x) := by show _ = _; rw [show R = _ from hR.out, (Qdh h5).1]
   clear hR
   refine go_ ?_
   refine Rd ?_
   refine go_ ?_
   refine Jm (by simp) (by simp only [Tryz.results91]; rfl) (by simp [resP, St.box?, PF.get, Jn, TyK.agg, *]; rfl) Nl ?_
   exact ⟨by rw [hf.out]; simp [tupP, PV.norm2, PV.norm1, PV.norm0], rfl⟩
theorem rargs_o : ∀ (m : Nat) (t : Tm), cndT t ≤ m → Qac t = true → cndT t ≤ 100000 → PCalls Tryz.prog 92 [aggD t] [] fun p s => ∃ g, p = .own g ((Qav t).map encD) ∧ s = [.tok g 26 3 (Qav t).length] := by
  intro m
  induction m with
  | zero => intro t h; have := Qcc t; omega
  | succ m ih =>
    intro t hm hg hnd
    by_cases h5 : t.kind = 5
    · obtain ⟨f, a, rfl, hf, ha⟩ := Qey hg h5
      have hn2 := Qdu 5 0 f a
      have hp := Qcc a
      have IH := Lib.hid (ih f (by omega) hf (by omega))
      rw [(Qfe 0 f a).2]
      have hal : (Qav f).length ≤ 100000 := Nat.le_trans (Qhh f) (by omega)
      clear ih hm hg h5
      generalize Qav f = l at *
      simp only [aggD, Jl, List.map_cons, List.map_nil, Tm.kind_mk, Tm.num_mk, Tm.sub_mk] at IH ⊢
      refine PCalls.enter Tryz.func92 rfl Tryz.ntmps92 (by simp) ?_
      simp only [Qab]
      refine go_ ?_
      refine Jd ?_
      intro i0 hi0
      refine go_ ?_
      refine Qjm (J := Qcy [(i0, _)]) [(0, .a), (1, .a), (2, .a), (3, .a), (5, .a), (6, .a), (7, .a), (8, .a), (9, .a), (4, .e), (10, .e), (11, .a)] (by kernel_rfl) (by rfl) (by kernel_rfl) (by (repeat (first | exact Qap _ | refine Ju (by simp [St.box?, *] <;> rfl) ?_))) ?_
      repeat (first | with_reducible refine Qce ?_ | refine Qcd ?_ | refine Qct ?_ | refine Qcs ?_)
      refine PL_bs ?_ rfl (by decide) rfl (by simp; rfl) (by rfl) (by simp; rfl) (by rfl) (by decide) (by decide) (by simp [nev, nevA, nevB, Jp, PF.eval, PF.get, PF.wants, cPV, Qag, PV.rows, Qah, evUn, Jq, Qaj, Qai, Jn, TyK.agg, Qaf, St.box?, St.tok?, St.setBox, St.setTok, Qae, spl, PV.ps, PV.one, Jo, aggD, slD, Jh, Jk, Ji, Jj, Jg, Jf, *]; rfl) (by simp [Qco, toDs, PV.toD]; rfl)
      repeat (first | with_reducible refine Qce ?_ | refine Qcd ?_ | refine Qct ?_ | refine Qcs ?_)
      refine PL_callX 0 0 (IH.out) ?_
      rintro _ _ ⟨g, rfl, rfl⟩
      refine ⟨.inr (by (repeat (first | exact Qap _ | refine Ju (by simp [St.box?, *] <;> rfl) ?_))), ?_⟩
      refine PL_app (l.length + 1) ?_ ?_ ?_ ?_ ?_
      rotate_left
      · exact Qem _
      · exact Qbw rfl
      · simp
      · exact .inr (by (repeat (first | exact Qap _ | refine Ju (by simp [St.box?, *] <;> rfl) ?_)))
      repeat (first | with_reducible refine Qce ?_ | refine Qcd ?_ | refine Qct ?_ | refine Qcs ?_)
      refine go_ ?_
      refine Qgw (st' := [.tok g 26 3 (l.length + 1)]) (by simp) (by simp only [Tryz.results92]; rfl) (by simp [resP, PF.get]; rfl) (by repeat (first | exact List.Sublist.refl _ | exact List.nil_sublist _ | refine List.Sublist.cons_cons _ ?_ | refine List.Sublist.cons _ ?_)) ⟨g, by simp [tupP], by simp⟩
    · rw [(Qdh h5).2]
      simp only [aggD, Jl, List.map_cons, List.map_nil]
      have h5b : (t.kind != 5) = true := bne_iff_ne.2 h5
      refine PCalls.enter Tryz.func92 rfl Tryz.ntmps92 (by simp) ?_
      simp only [Qab]
      refine go_ ?_
      refine Jd ?_
      intro i0 hi0
      refine go_ ?_
      refine Qdq ?_ (by decide) (by first | (simp [nev, nevA, nevB, Jp, PF.eval, PF.get, PF.wants, cPV, Qag, PV.rows, Qah, evUn, Jq, Qaj, Qai, Jn, TyK.agg, Qaf, St.box?, St.tok?, St.setBox, St.setTok, Qae, spl, PV.ps, PV.one, Jo, aggD, slD, Jh, Jk, Ji, Jj, Jg, Jf, *]; done) | fail) (by simp; rfl) (by rfl) (by simp; rfl) (by rfl) (by decide)
      intro g hg2
      refine go_ ?_
      refine Qgw (st' := [.tok g 26 3 0]) (by simp) (by simp only [Tryz.results92]; rfl) (by simp [resP, PF.get]; rfl) (by repeat (first | exact List.Sublist.refl _ | exact List.nil_sublist _ | refine List.Sublist.cons_cons _ ?_ | refine List.Sublist.cons _ ?_)) ⟨g, by simp [tupP], by simp⟩
theorem rArgs_p (t : Tm) (hg : Qac t = true) (hn : cndT t ≤ 100000) : PCalls Tryz.prog 92 [aggD t] [] fun p s => p = .d (.sl ((Qav t).map encD)) ∧ s = [] :=
 (rargs_o _ t (Nat.le_refl _) hg hn).norm fun p st ⟨g, e1, e2⟩ => ⟨by rw [e1]; rfl, rfl⟩
def Qar : Tm → List Tm
 | .mk 3 _ [a, b] => a :: Qar b
 | _ => []
def benT : Tm → Tm
  | .mk k n sub => match k, sub with
    | 3, [_, b] => benT b
    | k, sub => .mk k n sub
theorem Qin (m : Int) (a b : Tm) : Qar (.mk 3 m [a, b]) = a :: Qar b ∧ benT (.mk 3 m [a, b]) = benT b := by constructor <;> simp only [Qar, benT]
theorem Qim {t : Tm} (h : t.kind ≠ 3) : Qar t = [] ∧ benT t = t := by
 obtain ⟨k, m, sub⟩ := t
 have hk : k ≠ 3 := h
 constructor
 ·unfold Qar
  split
  ·rename_i e; injection e with e1 _ _; exact absurd e1 hk
  ·rfl
 ·unfold benT
  split
  ·exact absurd rfl hk
  ·rfl
theorem tele_len : ∀ (t : Tm), (Qar t).length ≤ cndT t := by
 refine Tm.ind ?_
 intro k n sub ih
 unfold Qar
 split
 ·rename_i a b e
  injection e with e1 e2 e3
  subst e1; subst e2; subst e3
  have := ih b (by simp)
  rw [List.length_cons, Qdu]; omega
 ·exact Nat.zero_le _
theorem rTele_p (t : Tm) (hg : Qac t = true) (hn : cndT t ≤ 100000) : PCalls Tryz.prog 154 [aggD t] [] fun p s => p = .d (.sl ((Qar t).map encD)) ∧ s = [] := by
 obtain ⟨R, hR0⟩ : ∃ R, R = Qar t := ⟨_, rfl⟩
 have hlen := tele_len t
 rw [← hR0] at hlen ⊢
 have HR0 : Hid (R = [] ++ Qar t) := hR0
 have HG := Lib.hid hg
 clear hR0 hg
 simp only [aggD, Jl, List.map_cons, List.map_nil]
 refine PCalls.enter Tryz.func154 rfl Tryz.ntmps154 (by simp) ?_
 simp only [Qab]
 refine go_ ?_
 refine Jd ?_
 intro i0 hi0
 refine go_ ?_
 refine Qdq ?_ (by decide) (by first | (simp [nev, nevA, nevB, Jp, PF.eval, PF.get, PF.wants, cPV, Qag, PV.rows, Qah, evUn, Jq, Qaj, Qai, Jn, TyK.agg, Qaf, St.box?, St.tok?, St.setBox, St.setTok, Qae, spl, PV.ps, PV.one, Jo, aggD, slD, Jh, Jk, Ji, Jj, Jg, Jf, *]; done) | fail) (by simp; rfl) (by rfl) (by simp; rfl) (by rfl) (by decide)
 intro g hg
 refine go_ ?_
 refine Qak (ι := List Tm × Tm) (fun y => Hid (Qac y.2 = true) ∧ Hid (R = y.1 ++ Qar y.2)) (fun y => [(1, .ptr i0 0), (3, .own g (y.1.map encD))]) (fun y => [.tok g 26 3 y.1.length, .box i0 26 [.d (.v (.int .i64 y.2.kind)), .d (.v (.int .i64 y.2.num)), .d (.sl (y.2.sub.map encD))]]) (fun y => cndT y.2) ([], t) ⟨HG.out, HR0.out⟩ ?_ ?_ ?_
 ·repeat (first | exact Jt _ | refine Js (by simp [PF.get]; rfl) (by first | rfl | (simp [*]; done) | fail) ?_)
 ·repeat (first | exact List.Sublist.refl _ | exact List.nil_sublist _ | refine List.Sublist.cons_cons _ ?_ | refine List.Sublist.cons _ ?_)
 ·rintro ⟨l, x⟩ ⟨hgx, hR⟩
  simp only at hgx hR ⊢
  clear HR0 HG
  by_cases h3 : x.kind = 3
  ·obtain ⟨a, b, rfl, ha, hb⟩ := Qgo hgx.out h3
   have hR2 : Hid (R = (l ++ [a]) ++ Qar b) := by show _ = _; rw [show R = _ from hR.out, (Qin 0 a b).1, List.append_assoc]; rfl
   have hnd := Qdu 3 0 a b
   have hll : l.length ≤ 100000 := by
    have := congrArg List.length hR2.out
    simp only [List.length_append] at this
    omega
   clear hR h3 hgx
   simp only [Tm.kind_mk, Tm.num_mk, Tm.sub_mk, List.map_cons, List.map_nil]
   refine go_ ?_
   refine Qam ?_
   refine go_ ?_
   refine Qba (l.length + 1) ?_ ?_ ?_ ?_
   ·simp
   ·exact Qem _
   ·exact Qbw rfl
   refine go_ ?_
   refine Rd ?_
   refine go_ ?_
   refine ⟨(l ++ [a], b), ⟨hb, hR2⟩, by simp only; omega, ?_, ?_⟩
   ·repeat (first | exact Jt _ | refine Js (by simp [PF.get]; rfl) (by first | rfl | (simp [*]; done) | fail) ?_)
   ·simp only [List.length_append, List.length_singleton]
    repeat (first | exact List.Sublist.refl _ | exact List.nil_sublist _ | refine List.Sublist.cons_cons _ ?_ | refine List.Sublist.cons _ ?_)
  ·have hf : Hid (R = l) := by show _ = _; rw [show R = _ from hR.out, (Qim h3).1, List.append_nil]
   clear hR
   refine go_ ?_
   refine Jm (by simp) (by simp only [Tryz.results154]; rfl) (by simp [resP, St.box?, PF.get, Jn, TyK.agg, *]; rfl) Nl ?_
   exact ⟨by rw [hf.out]; rfl, rfl⟩
theorem rBeneath_p (t : Tm) (hg : Qac t = true) : PCalls Tryz.prog 158 [aggD t] [] fun p s => p = aggD (benT t) ∧ s = [] := by
 obtain ⟨R, hR0⟩ : ∃ R, R = benT t := ⟨_, rfl⟩
 rw [← hR0]
 have HR0 := Lib.hid hR0
 have HG := Lib.hid hg
 clear hR0 hg
 simp only [aggD, Jl, List.map_cons, List.map_nil]
 refine PCalls.enter Tryz.func158 rfl Tryz.ntmps158 (by simp) ?_
 simp only [Qab]
 refine go_ ?_
 refine Jd ?_
 intro i0 hi0
 refine go_ ?_
 refine Je ?_
 intro i1 hi1
 try simp only [Ja, Rh, Rg, Jb] at hi1
 refine go_ ?_
 refine Qak (ι := Tm) (fun x => Hid (Qac x = true) ∧ Hid (R = benT x)) (fun x => [(1, .ptr i0 0), (2, .ptr i1 0)]) (fun x => [.box i1 26 [.d (.v (.int .i64 0)), .d (.v (.int .i64 0)), .nils], .box i0 26 [.d (.v (.int .i64 x.kind)), .d (.v (.int .i64 x.num)), .d (.sl (x.sub.map encD))]]) (fun x => cndT x) t ⟨HG.out, HR0.out⟩ ?_ ?_ ?_
 ·repeat (first | exact Jt _ | refine Js (by simp [PF.get]; rfl) (by first | rfl | (simp [*]; done) | fail) ?_)
 ·repeat (first | exact List.Sublist.refl _ | exact List.nil_sublist _ | refine List.Sublist.cons_cons _ ?_ | refine List.Sublist.cons _ ?_)
 ·rintro x ⟨hgx, hR⟩
  clear HR0 HG
  by_cases h3 : x.kind = 3
  ·obtain ⟨a, b, rfl, ha, hb⟩ := Qgo hgx.out h3
   have hR2 : Hid (R = benT b) := by show _ = _; rw [show R = _ from hR.out, (Qin 0 a b).2]
   have hnd := Qdu 3 0 a b
   clear hR h3 hgx
   simp only [Tm.kind_mk, Tm.num_mk, Tm.sub_mk, List.map_cons, List.map_nil]
   refine go_ ?_
   refine Rd ?_
   refine go_ ?_
   exact ⟨b, ⟨hb, hR2⟩, by omega, by repeat (first | exact Jt _ | refine Js (by simp [PF.get]; rfl) (by first | rfl | (simp [*]; done) | fail) ?_), by repeat (first | exact List.Sublist.refl _ | exact List.nil_sublist _ | refine List.Sublist.cons_cons _ ?_ | refine List.Sublist.cons _ ?_)⟩
  ·have hf : Hid (R = x) := by show _ = _; rw [show R = _ from hR.out, (Qim h3).2]
   clear hR
   refine go_ ?_
   refine Rd ?_
   refine go_ ?_
   refine Jm (by simp) (by simp only [Tryz.results158]; rfl) (by simp [resP, St.box?, PF.get, Jn, TyK.agg, *]; rfl) Nl ?_
   exact ⟨by rw [hf.out]; simp [tupP, PV.norm2, PV.norm1, PV.norm0], rfl⟩
theorem lst3 {cs : List Value} (h : cs.length = 3) : ∃ a b c, cs = [a, b, c] := by
 match cs, h with
 | [a, b, c], _ => exact ⟨a, b, c, rfl⟩
theorem repF_tail {S : Nat → Prop} {w : World} {ds : List Dt} {cs : List Value} {o n : Nat} (h : RepF S w ds ((cs.drop o).take n)) (hl : cs.length ≤ o + n) : RepF S w ds (cs.drop o) := by
 rwa [List.take_of_length_le (by rw [List.length_drop]; omega)] at h
def Wl {H : Type} (P : Program) (t : TypeId) (d : DataW H) : Prop := (DataW.weights P t d).all (· ≤ reachBytes) = true
section
variable {H : Type} {P : Program}
theorem wl_arg {ts : List TypeId} {ds : List (DataW H)} (h : (DataW.weightsEach P ts ds).all (· ≤ reachBytes) = true) {j : Nat} {t : TypeId} {d : DataW H} (ht : ts[j]? = some t) (hd : ds[j]? = some d) : Wl P t d := by
 unfold Wl
 rw [List.all_eq_true] at h ⊢
 exact fun w hw => h w (DataW.weights_mem_each ht hd w hw)
theorem wl_part {t : TypeId} {fs : Array Field} {ds : List (DataW H)} (hu : P.underlying t = some (.struct fs)) (h : Wl P t (.agg ds)) {j : Nat} {f : Field} {d : DataW H} (hf : fs[j]? = some f) (hd : ds[j]? = some d) : Wl P f.type d := by
 unfold Wl at h
 simp only [DataW.weights, hu] at h
 exact wl_arg h (by rw [List.getElem?_map, Array.getElem?_toList, hf]; rfl) hd
theorem weights_all {e : TypeId} {d : DataW H} {x : Nat} (hx : x ∈ DataW.weights P e d) : ∀ l : List (DataW H), d ∈ l → x ∈ DataW.weightsAll P e l := by
  intro l
  induction l with
  | nil => intro h; cases h
  | cons y l ih =>
    intro h
    simp only [DataW.weightsAll, List.mem_append]
    rcases List.mem_cons.1 h with rfl | h
    · exact .inl hx
    · exact .inr (ih h)
theorem wl_slice {t e : TypeId} {elems spare : List (DataW H)} (hu : P.underlying t = some (.slice e)) (h : Wl P t (.slice elems spare)) : (elems.length + spare.length) * P.bytesOf e ≤ reachBytes ∧ ∀ d ∈ elems, Wl P e d := by
 unfold Wl at h
 simp only [DataW.weights, hu, List.all_cons, Bool.and_eq_true, decide_eq_true_eq, List.all_eq_true, List.mem_append] at h
 refine ⟨h.1, fun d hd => ?_⟩
 unfold Wl
 rw [List.all_eq_true]
 exact fun w hw => by simpa using h.2 w (.inl (weights_all hw _ hd))
end
section
variable {H : Type} {enc : TypeId × Value → H} {w : World} {base : Nat} {spare : Nat → Bool} {held : Bool}
def OpnB (α : Type) [Enc α] (Ok : α → Prop) (enc : TypeId × Value → H) (w : World) (base : Nat) (spare : Nat → Bool) (held : Bool) (T : TypeId) (n : Nat) : Prop :=
 ∀ (cs : List Value) (x : DataW H × List MemPlace), DataW.trod enc Tryz.prog w base spare held n T cs = some x → Wl Tryz.prog T x.1 → ∃ a : α, Rep (fun _ => True) w a cs ∧ Ok a
theorem OpnAt.toB {α : Type} [Enc α] {T : TypeId} {n : Nat} (h : OpnAt α enc w base spare held T n) : OpnB α (fun _ => True) enc w base spare held T n := fun cs x h1 _ => by
 obtain ⟨a, ha⟩ := h cs x h1
 exact ⟨a, ha, trivial⟩
theorem Qgb {α : Type} [Enc α] {Ok : α → Prop} {T e : TypeId} {n : Nat} (ht : Tryz.prog.underlying T = some (.slice e)) (hc : Tryz.prog.cellsOf e = Enc.sz α) (hpos : 0 < Enc.sz α)
  (ih : ∀ m, m < n → OpnB α Ok enc w base spare held e m) {cs : List Value} {x : DataW H × List MemPlace} (h : DataW.trod enc Tryz.prog w base spare held n T cs = some x) (hw : Wl Tryz.prog T x.1) : ∃ (v : Value) (l : List α), cs = [v] ∧ RepS (fun _ => True) w v l ∧ (∀ a ∈ l, Ok a) ∧ l.length * Tryz.prog.bytesOf e ≤ reachBytes := by
 rcases DataW.trod_slice ht h with ⟨rfl, _⟩ | ⟨a, len, cap, elems, rest, m, rfl, rfl, rfl, _, hl, hm, hlen, hel, _, _⟩
 ·exact ⟨_, [], rfl, RepS.nil, by simp, by simp⟩
 ·rw [hc] at hel
  obtain ⟨hb, hws⟩ := wl_slice ht hw
  have each : ∀ i, i < len → ∃ p : List Value × α, w.cells? base (a.add (i * Enc.sz α)) (Enc.sz α) = some p.1 ∧ (Rep (fun _ => True) w p.2 p.1 ∧ Ok p.2) := by
   intro i hi
   have h1 := hel i hi
   rw [List.getElem?_eq_getElem (by omega)] at h1
   obtain ⟨cs', h2, h3⟩ := Option.bind_eq_some_iff.1 h1
   obtain ⟨t, ht⟩ := ih m (by omega) cs' _ h3 (hws _ (List.mem_map.2 ⟨_, List.getElem_mem _, rfl⟩))
   exact ⟨(cs', t), h2, ht⟩
  obtain ⟨ps, hpl, hp⟩ := Qjy (Q := fun i (p : List Value × α) => w.cells? base (a.add (i * Enc.sz α)) (Enc.sz α) = some p.1 ∧ (Rep (fun _ => True) w p.2 p.1 ∧ Ok p.2)) each
  refine ⟨_, ps.map (·.2), rfl, RepS.mk (css := ps.map (·.1)) ?_ ?_, ?_, ?_⟩
  ·refine ⟨some a, cap, by simp [hpl], by simpa [hpl] using hl, hm, fun hne => ?_⟩
   have hl0 : 0 < ps.length := by
    cases ps with
    | nil => exact absurd rfl hne
    | cons _ _ => simp
   obtain ⟨_, hcl0, hcell0⟩ := World.cells?_some (hp 0 hl0).1
   have h0 := hcell0 0 hpos
   simp only [Nat.zero_mul, Addr.add, if_true] at h0
   rw [List.getElem?_eq_getElem (by omega)] at h0
   have hs : a.spot = none := Qjw h0
   refine ⟨a.block, a.off, by cases a; simp_all, trivial, World.block_lt_of_cell? w _ h0, fun i c hic => ?_⟩
   simp only [List.getElem?_map, Option.map_eq_some_iff] at hic
   obtain ⟨p, hpi, rfl⟩ := hic
   obtain ⟨hi, hpe⟩ := List.getElem?_eq_some_iff.1 hpi
   have hpp := (hp i hi).1
   rw [hpe] at hpp
   obtain ⟨_, hcl, hcell⟩ := World.cells?_some hpp
   refine ⟨hcl, fun j u hu => ?_⟩
   have hj : j < Enc.sz α := by
    have := (List.getElem?_eq_some_iff.1 hu).1; omega
   have := hcell j hj
   rw [hu, Qfs (x := a) hs, Qfs rfl] at this
   simpa [Nat.add_assoc] using this
  ·refine RepL.mk (by simp) fun i hi => ?_
   have hi' : i < ps.length := by simpa using hi
   exact ⟨ps[i].1, by simp [hi'], by have h := (hp i hi').2.1; unfold Rep at h; simpa using h⟩
  ·intro y hy
   obtain ⟨p, hpm, rfl⟩ := List.mem_map.1 hy
   obtain ⟨i, hi, rfl⟩ := List.getElem_of_mem hpm
   exact (hp i hi).2.2
  ·rw [List.length_map, hpl]
   refine Nat.le_trans (Nat.mul_le_mul_right _ ?_) hb
   rw [List.length_map]; omega
theorem opn_tm : ∀ (n : Nat), OpnAt Tm enc w base spare held 26 n := by
  intro n
  induction n using Nat.strongRecOn with
  | ind n ih =>
    intro cs x h
    obtain ⟨xs, m, rfl, _, hlen, hxs, hf⟩ := DataW.trod_struct Tryz.underlying26 h
    have hc : Tryz.prog.cellsOf 26 = 3 := by kernel_rfl
    have hc3 : Tryz.prog.cellsOf 3 = 1 := by kernel_rfl
    have hcs : Tryz.prog.cellsOf 24 = 1 := by kernel_rfl
    rw [hc] at hlen
    obtain ⟨c0, c1, c2, rfl⟩ := lst3 hlen
    match xs, hxs with
    | [x0, x1, x2], _ =>
      have h0 : DataW.trod enc Tryz.prog w base spare held m 3 (([c0, c1, c2].drop 0).take (Tryz.prog.cellsOf 3)) = some x0 := hf 0 _ rfl
      have h1 : DataW.trod enc Tryz.prog w base spare held m 3 (([c0, c1, c2].drop 1).take (Tryz.prog.cellsOf 3)) = some x1 := hf 1 _ rfl
      have h2 : DataW.trod enc Tryz.prog w base spare held m 24 (([c0, c1, c2].drop 2).take (Tryz.prog.cellsOf 24)) = some x2 := hf 2 _ rfl
      rw [hc3] at h0 h1
      rw [hcs] at h2
      obtain ⟨k, hk⟩ := Qdm (by kernel_rfl) m _ _ h0
      obtain ⟨a, ha⟩ := Qdm (by kernel_rfl) m _ _ h1
      obtain ⟨v, l, hv, hl⟩ := opn_slice (α := Tm) Tryz.underlying24 hc (by decide) (fun m' hm' => ih m' (by omega)) h2
      have e : [c0] = [.int .i64 k] := rep_int.1 hk
      have e1 : [c1] = [.int .i64 a] := rep_int.1 ha
      have e2 : [c2] = [v] := hv
      obtain rfl := (List.cons.inj e).1
      obtain rfl := (List.cons.inj e1).1
      obtain rfl := (List.cons.inj e2).1
      exact ⟨.mk k a l, rep_tm.2 ⟨c2, rfl, hl⟩⟩
end
end Go.Proofs.YtdklpbefbamchaaGreat

import Derived.Test.YtpaifjlikgnlfaaBS
import Derived.Test.YtpaifjlikgnlfaaBA3
import Derived.Test.YtpaifjlikgnlfaaBE1
set_option linter.unusedSimpArgs false
set_option linter.unusedVariables false
set_option maxHeartbeats 16000000
set_option maxRecDepth 100000
namespace Go.Proofs.Ytpaifjlikgnlfaa
open Go.RowKit
theorem sformed_p (l : List En) (ho : ∀ e ∈ l, EnOk e) : PCalls Try.prog 12 [.d (.sl (l.map encD))] [] fun p s => p = .d (.v (.bool (formedB l))) ∧ s = [] := by
 obtain ⟨R, hR⟩ : ∃ R, R = formedB l := ⟨_, rfl⟩
 rw [← hR]
 unfold formedB at hR
 have HR0 := Hh hR
 clear hR
 by_cases hl : (l.length : Int) ≤ 256
 rotate_left
 ·have hf : Hid (R = false) := by show _ = _; rw [show R = _ from HR0.out, decide_eq_false hl]; rfl
  have h256 : (256 : Int) < l.length := by omega
  clear HR0 ho
  refine pG Try.func12 Try.ntmps12 ?_
  refine rT Try.results12 ?_
  exact ⟨by rw [hf.out]; rfl, rfl⟩
 have HR : Hid (R = (distB (nms l) && allP (Qbf l) (l.drop 0) 0)) := by show _ = _; rw [show R = _ from HR0.out, decide_eq_true hl]; rfl
 have h256 : ¬ (256 : Int) < l.length := by omega
 have hN := Hh (snames_p l (by omega))
 have hD := Hh (sdistinct_p (nms l) (by rw [nms_len]; omega))
 have HO := Hh ho
 clear HR0 ho
 generalize distB (nms l) = db at *
 generalize nms l = ns at *
 refine pG Try.func12 Try.ntmps12 ?_
 refine Qai (hN.out) ?_
 refine Qai (hD.out) ?_
 clear hN hD
 rcases Bool.eq_false_or_eq_true (db) with hd | hd
 rotate_left
 ·have hf : Hid (R = false) := by show _ = _; rw [show R = _ from HR.out, hd]; rfl
  clear HR
  refine go_ ?_
  refine rT Try.results12 ?_
  exact ⟨by rw [hf.out]; rfl, rfl⟩
 have HR1 : Hid (R = allP (Qbf l) (l.drop 0) 0) := by show _ = _; rw [show R = _ from HR.out, hd]; rfl
 clear HR
 refine go_ ?_
 refine Qaf (ι := Nat) (fun y => y ≤ l.length ∧ Hid (R = allP (Qbf l) (l.drop y) y) ∧ Hid (∀ (j : Nat) (x : En), j < y → l[j]? = some x → Qbf l x j = true)) (fun y => [(0, .d (.sl (l.map encD))), (14, .d (.v (.int .i64 l.length))), (15, .d (.v (.int .i64 (y : Int))))]) (fun _ => []) (fun y => l.length - y) 0 ⟨Nat.zero_le _, HR1.out, fun j x hj => by omega⟩ ?_ ?_ ?_
 ·exact sU
 ·exact dR
 ·rintro j ⟨hj, hR, hA⟩
  clear HR1
  by_cases hlt : j < l.length
  ·have hx := Qam hlt
   have hc : (j : Int) < l.length := by omega
   have hn : (0 : Int) ≤ j := by omega
   have hin := wr64 (n := (j : Int) + 1) (by omega) (by omega)
   have hR2 : Hid (R = (Qbf l l[j] j && allP (Qbf l) (l.drop (j + 1)) (j + 1))) := by
    rw [show R = _ from hR.out, List.drop_eq_getElem_cons hlt]; rfl
   have hE := Hh (sentry_p l j hlt (by omega) HO.out (fam_ok hA.out))
   have hA2 : Hid (Qbf l l[j] j = true → ∀ (q : Nat) (x : En), q < j + 1 → l[q]? = some x → Qbf l x q = true) := by
    intro he q z hq hz
    by_cases hqj : q = j
    ·subst hqj
     rw [List.getElem?_eq_getElem hlt] at hz
     cases hz; exact he
    ·exact hA.out q z (by omega) hz
   clear hR hA
   generalize Qbf l l[j] j = b at *
   refine go_ ?_
   refine Qaa (hE.out) ?_
   clear hE
   rcases Bool.eq_false_or_eq_true (b) with hb | hb
   rotate_left
   ·have hf : Hid (R = false) := by show _ = _; rw [show R = _ from hR2.out, hb]; rfl
    clear hR2 hA2
    refine go_ ?_
    refine rT Try.results12 ?_
    exact ⟨by rw [hf.out]; rfl, rfl⟩
   have hR3 : Hid (R = allP (Qbf l) (l.drop (j + 1)) (j + 1)) := by show _ = _; rw [show R = _ from hR2.out, hb]; rfl
   have hA3 := Hh (hA2.out hb)
   clear hR2 hA2
   refine go_ ?_
   exact ⟨j + 1, ⟨hlt, hR3, hA3⟩, by omega, sU, dR⟩
  ·have hc : ¬ (j : Int) < l.length := by omega
   have hf : Hid (R = true) := by show _ = _; rw [show R = _ from hR.out, List.drop_of_length_le (by omega)]; rfl
   refine go_ ?_
   refine rT Try.results12 ?_
   exact ⟨by rw [hf.out]; rfl, rfl⟩
theorem reverse0_p : PCalls Try.prog 47 [.d (.sl [])] [] fun p s => p = .tup [] ∧ s = [] := by
 have hw := wr64 (n := (0 : Int) - 1) (by omega) (by omega)
 refine pG Try.func47 Try.ntmps47 ?_
 refine Qaf (ι := Unit) (fun _ => True) (fun _ => [(0, .d (.sl [])), (2, .d (.v (.int .i64 0))), (3, .d (.v (.int .i64 (-1))))]) (fun _ => []) (fun _ => 0) () trivial ?_ ?_ ?_
 ·exact sU
 ·exact dR
 ·rintro _ _
  refine go_ ?_
  refine rT Try.results47 ?_
  exact ⟨rfl, rfl⟩
theorem tSpine0_p (t : Tm) (h : t.kind ≠ 5) : PCalls Try.prog 32 [aggD t] [] fun p s => p = .tup [aggD t, .d (.sl [])] ∧ s = [] := by
 have h5 : (t.kind == 5) = false := beq_eq_false_iff_ne.2 h
 clear h
 simp only [aggD, Jl, List.map_cons, List.map_nil]
 refine pG Try.func32 Try.ntmps32 ?_
 refine Jd ?_
 intro i0 hi0
 try simp only [Ja, Rh, Rg, Jb] at hi0
 refine go_ ?_
 refine Je ?_
 intro i1 hi1
 try simp only [Ja, Rh, Rg, Jb] at hi1
 refine go_ ?_
 refine Je ?_
 intro i2 hi2
 try simp only [Ja, Rh, Rg, Jb] at hi2
 refine go_ ?_
 refine Qab ?_
 refine Qaf (ι := Unit) (fun _ => True) (fun _ => [(2, .ptr i1 0), (4, .nils), (5, .ptr i2 0)]) (fun _ => [.box i2 30 [.d (.v (.int .i64 t.kind)), .d (.v (.int .i64 t.num)), .d (.sl (t.sub.map encD))], .box i1 30 [.d (.v (.int .i64 0)), .d (.v (.int .i64 0)), .nils]]) (fun _ => 0) () trivial ?_ ?_ ?_
 ·exact sU
 ·exact dR
 ·rintro _ _
  refine go_ ?_
  refine Qaa (reverse0_p) ?_
  refine Qab ?_
  refine rT Try.results32 ?_
  exact ⟨rfl, rfl⟩
structure Rc where
 is_ : Bool
 around : List Tm
 at_ : List Tm
instance : Enc Rc := ⟨3, fun r => [.v (.bool r.is_), .s 3 (r.around.map Enc.enc), .s 3 (r.at_.map Enc.enc)], fun r => by simp⟩
instance : EncOk Rc := ⟨fun r d hd => by
 simp only [Enc.enc, List.mem_cons, List.not_mem_nil, or_false] at hd
 rcases hd with rfl | rfl | rfl
 ·exact .v trivial
 ·exact Qee (α := Tm) (by decide) r.around
 ·exact Qee (α := Tm) (by decide) r.at_⟩
@[simp] theorem encD_rc (r : Rc) : encD r = [.v (.bool r.is_), .sl (r.around.map encD), .sl (r.at_.map encD)] := by
 unfold encD
 simp only [Enc.enc, dtL, dtD, Qcq, List.map_map]
 rfl
theorem whole_err {t : Tm} (h : (Qae t).2.2 ≠ 0) : (Qae t).1 = [] ∧ (Qae t).2.1 = .mk 0 0 [] := by
 unfold Qae Qar at h ⊢
 split
 ·exact ⟨rfl, rfl⟩
 ·rename_i h1
  rw [if_neg h1] at h
  split
  ·exact ⟨rfl, rfl⟩
  ·rename_i h2
   rw [if_neg h2] at h
   cases hc : Qbv (min (piN t : Int) 25).toNat t with
   | none => exact ⟨rfl, rfl⟩
   | some y => rw [hc] at h; exact absurd rfl h
def recT (t : Tm) (of_ pars inds binders : Int) : Rc :=
 if ((Qae t).2.2 == 0 && Qax (Qae t).2.1 of_ pars inds (binders + (Qae t).1.length)) = true then ⟨true, (Qae t).1, (Qby (Qae t).2.1).drop pars.toNat⟩ else ⟨false, [], []⟩
theorem srec_p (l : List En) (t : Tm) (q : Nat) (d : En) (b : Nat) (hd : l[q]? = some d) (hp0 : 0 ≤ d.pars) (hp1 : d.pars ≤ 24) (hn0 : 0 ≤ d.inds) (hn1 : d.inds ≤ 24) (hb : b ≤ 1000) :
  PCalls Try.prog 34 [.d (.sl (l.map encD)), aggD t, .d (.v (.int .i64 q)), .d (.v (.int .i64 b))] [] fun p s => p = aggD (recT t q d.pars d.inds b) ∧ s = [] := by
 have hW := Hh (Qft t)
 unfold Qcp at hW
 have hok : (Qae t).2.2 = 0 → ((Qae t).1.length : Int) ≤ 24 ∧ Qad (Qae t).2.1 = true := fun h => whole_ok h
 have her : (Qae t).2.2 ≠ 0 → (Qae t).1 = [] ∧ (Qae t).2.1 = .mk 0 0 [] := fun h => whole_err h
 obtain ⟨R, hR⟩ : ∃ R, R = recT t q d.pars d.inds b := ⟨_, rfl⟩
 rw [← hR]
 unfold recT at hR
 generalize Qae t = W at *
 obtain ⟨sl, sx, se⟩ := W
 simp only at hR hok her hW
 have HR := Hh hR
 have HO := Hh hok
 have HX := Hh her
 have hq0 : (0 : Int) ≤ q := by omega
 have hql : (q : Int) < l.length := by have := (List.getElem?_eq_some_iff.1 hd).1; omega
 clear hR hok her
 simp only [aggD, Jl, encD_rc, List.map_cons, List.map_nil] at hW ⊢
 by_cases h0 : se = 0
 rotate_left
 ·obtain ⟨e1, e2⟩ := HX.out h0
  subst e1
  subst e2
  have hS := Hh (tSpine0_p (.mk 0 0 []) (by decide))
  simp only [aggD, Jl, List.map_cons, List.map_nil] at hS
  have hf : Hid (R = ⟨false, [], []⟩) := by show _ = _; rw [show R = _ from HR.out, beq_eq_false_iff_ne.2 h0]; rfl
  have h0b : (se != 0) = true := bne_iff_ne.2 h0
  clear HR HO HX h0
  refine pG Try.func34 Try.ntmps34 ?_
  refine Jd ?_
  intro i0 hi0
  try simp only [Ja, Rh, Rg, Jb] at hi0
  refine go_ ?_
  refine Je ?_
  intro i1 hi1
  try simp only [Ja, Rh, Rg, Jb] at hi1
  refine go_ ?_
  refine Qaa (hW.out) ?_
  refine Je ?_
  intro i2 hi2
  try simp only [Ja, Rh, Rg, Jb] at hi2
  refine go_ ?_
  refine Qab ?_
  refine Qaa (hS.out) ?_
  refine Je ?_
  intro i3 hi3
  try simp only [Ja, Rh, Rg, Jb] at hi3
  refine go_ ?_
  refine Qab ?_
  refine Qas [(0, .a), (1, .a), (2, .a), (3, .a), (4, .b), (5, .a), (6, .a), (7, .a), (8, .a), (9, .b), (10, .a), (11, .a), (12, .a), (13, .a), (14, .b), (15, .a), (16, .a), (17, .a), (18, .a), (19, .a), (20, .a), (21, .a), (22, .a), (23, .a), (24, .a), (25, .a), (26, .a), (27, .a), (28, .a), (29, .a), (30, .a), (31, .a), (32, .a)] (by kernel_rfl) (by rfl) (by kernel_rfl) ?_
  refine go_ ?_
  refine go_ ?_
  refine Qab ?_
  refine rT Try.results34 ?_
  exact ⟨by rw [hf.out]; rfl, rfl⟩
 obtain ⟨h24, hsx⟩ := HO.out h0
 subst h0
 have H24 := Hh h24
 have hS := Hh (tSpine_p sx hsx)
 have hA := Hh (Qfq sx q d.pars d.inds ((b : Int) + sl.length) hsx hp0 hp1 hn0 hn1 (by omega) (by omega))
 obtain ⟨m, hm⟩ : ∃ m : Nat, d.pars = m := ⟨d.pars.toNat, by omega⟩
 have hw := wr64 (n := (b : Int) + sl.length) (by omega) (by omega)
 have HR2 : Hid (R = if Qax sx q d.pars d.inds ((b : Int) + sl.length) = true then ⟨true, sl, (Qby sx).drop m⟩ else ⟨false, [], []⟩) := by
  show _ = _
  rw [show R = _ from HR.out]
  simp only [beq_self_eq_true, Bool.true_and]
  rw [show d.pars.toNat = m by omega]
 have HAL : Hid (Qax sx q d.pars d.inds ((b : Int) + sl.length) = true → (headT sx).kind = 6 ∧ (headT sx).num = q ∧ m ≤ (Qby sx).length) := by
  intro h
  unfold Qax at h
  simp only [Bool.and_eq_true, beq_iff_eq] at h
  exact ⟨h.1, h.2.1, by omega⟩
 have hlen : (Qby sx).length ≤ 8192 := by have := args_len sx; have := (Qbu hsx).2.2; omega
 clear HR HO HX h24 hsx
 rw [hm] at hA HR2 HAL
 simp only [aggD, Jl, List.map_cons, List.map_nil] at hA hS
 generalize Qax sx q m d.inds ((b : Int) + sl.length) = A at *
 generalize headT sx = h at *
 generalize Qby sx = a at *
 have hm0 : (0 : Int) ≤ m := by omega
 by_cases c1 : h.kind = 6
 rotate_left
 ·have c1b : (h.kind != 6) = true := bne_iff_ne.2 c1
  have hf : Hid (R = ⟨false, [], []⟩) := by
   show _ = _
   rw [show R = _ from HR2.out, if_neg (fun e => c1 (HAL.out e).1)]
  clear HR2 HAL c1
  refine pG Try.func34 Try.ntmps34 ?_
  refine Jd ?_
  intro i0 hi0
  try simp only [Ja, Rh, Rg, Jb] at hi0
  refine go_ ?_
  refine Je ?_
  intro i1 hi1
  try simp only [Ja, Rh, Rg, Jb] at hi1
  refine go_ ?_
  refine Qaa (hW.out) ?_
  refine Je ?_
  intro i2 hi2
  try simp only [Ja, Rh, Rg, Jb] at hi2
  refine go_ ?_
  refine Qab ?_
  refine Qaa (hS.out) ?_
  refine Je ?_
  intro i3 hi3
  try simp only [Ja, Rh, Rg, Jb] at hi3
  refine go_ ?_
  refine Qab ?_
  refine Qas [(0, .a), (1, .a), (2, .a), (3, .a), (4, .b), (5, .a), (6, .a), (7, .a), (8, .a), (9, .b), (10, .a), (11, .a), (12, .a), (13, .a), (14, .b), (15, .a), (16, .a), (17, .a), (18, .a), (19, .a), (20, .a), (21, .a), (22, .a), (23, .a), (24, .a), (25, .a), (26, .a), (27, .a), (28, .a), (29, .a), (30, .a), (31, .a), (32, .a)] (by kernel_rfl) (by rfl) (by kernel_rfl) ?_
  refine go_ ?_
  refine go_ ?_
  refine Qab ?_
  refine rT Try.results34 ?_
  exact ⟨by rw [hf.out]; rfl, rfl⟩
 have c1b : (h.kind != 6) = false := by rw [c1]; rfl
 by_cases c2 : h.num = q
 rotate_left
 ·have c2b : (h.num != (q : Int)) = true := bne_iff_ne.2 c2
  have hf : Hid (R = ⟨false, [], []⟩) := by
   show _ = _
   rw [show R = _ from HR2.out, if_neg (fun e => c2 (HAL.out e).2.1)]
  clear HR2 HAL c1 c2
  refine pG Try.func34 Try.ntmps34 ?_
  refine Jd ?_
  intro i0 hi0
  try simp only [Ja, Rh, Rg, Jb] at hi0
  refine go_ ?_
  refine Je ?_
  intro i1 hi1
  try simp only [Ja, Rh, Rg, Jb] at hi1
  refine go_ ?_
  refine Qaa (hW.out) ?_
  refine Je ?_
  intro i2 hi2
  try simp only [Ja, Rh, Rg, Jb] at hi2
  refine go_ ?_
  refine Qab ?_
  refine Qaa (hS.out) ?_
  refine Je ?_
  intro i3 hi3
  try simp only [Ja, Rh, Rg, Jb] at hi3
  refine go_ ?_
  refine Qab ?_
  refine Qas [(0, .a), (1, .a), (2, .a), (3, .a), (4, .b), (5, .a), (6, .a), (7, .a), (8, .a), (9, .b), (10, .a), (11, .a), (12, .a), (13, .a), (14, .b), (15, .a), (16, .a), (17, .a), (18, .a), (19, .a), (20, .a), (21, .a), (22, .a), (23, .a), (24, .a), (25, .a), (26, .a), (27, .a), (28, .a), (29, .a), (30, .a), (31, .a), (32, .a)] (by kernel_rfl) (by rfl) (by kernel_rfl) ?_
  refine go_ ?_
  refine go_ ?_
  refine Qab ?_
  refine rT Try.results34 ?_
  exact ⟨by rw [hf.out]; rfl, rfl⟩
 have c2b : (h.num != (q : Int)) = false := by rw [c2]; simp
 clear c1 c2
 refine pG Try.func34 Try.ntmps34 ?_
 refine Jd ?_
 intro i0 hi0
 try simp only [Ja, Rh, Rg, Jb] at hi0
 refine go_ ?_
 refine Je ?_
 intro i1 hi1
 try simp only [Ja, Rh, Rg, Jb] at hi1
 refine go_ ?_
 refine Qaa (hW.out) ?_
 refine Je ?_
 intro i2 hi2
 try simp only [Ja, Rh, Rg, Jb] at hi2
 refine go_ ?_
 refine Qab ?_
 refine Qaa (hS.out) ?_
 refine Je ?_
 intro i3 hi3
 try simp only [Ja, Rh, Rg, Jb] at hi3
 refine go_ ?_
 refine Qab ?_
 refine Qas [(0, .a), (1, .a), (2, .a), (3, .a), (4, .b), (5, .a), (6, .a), (7, .a), (8, .a), (9, .b), (10, .a), (11, .a), (12, .a), (13, .a), (14, .b), (15, .a), (16, .a), (17, .a), (18, .a), (19, .a), (20, .a), (21, .a), (22, .a), (23, .a), (24, .a), (25, .a), (26, .a), (27, .a), (28, .a), (29, .a), (30, .a), (31, .a), (32, .a)] (by kernel_rfl) (by rfl) (by kernel_rfl) ?_
 refine go_ ?_
 refine Qeb (hA.out) ?_
 refine go_ ?_
 rcases Bool.eq_false_or_eq_true (A) with ha | ha
 rotate_left
 ·have hf : Hid (R = ⟨false, [], []⟩) := by
   show _ = _
   rw [show R = _ from HR2.out, ha]; rfl
  clear HR2 HAL
  refine go_ ?_
  refine Qab ?_
  refine rT Try.results34 ?_
  exact ⟨by rw [hf.out]; rfl, rfl⟩
 have hma := (HAL.out ha).2.2
 have hf : Hid (R = ⟨true, sl, a.drop m⟩) := by
  show _ = _
  rw [show R = _ from HR2.out, ha]; rfl
 have hC := Hh (clone_tm_p (a.drop m) (by rw [List.length_drop]; omega))
 clear HR2 HAL
 refine go_ ?_
 have hsl : List.drop m (List.take a.length (List.map encD a)) = (a.drop m).map encD := by rw [List.take_of_length_le (by rw [List.length_map]; exact Nat.le_refl _), List.map_drop]
 refine POps_slice m a.length ?_ (by decide) eD (by simp; rfl) (by rfl) (by decide) eQ (by simp [PV.rows]; rfl) (by first | rfl | (simp [lowOf, PF.eval, PF.get, cPV, Qdh, *]; done) | fail) (by first | rfl | (simp [Qeq, PF.eval, PF.get, cPV, Qdh, *]; done) | fail) (by first | omega | (simp; done) | (simp; omega)) (by first | omega | (simp; done) | (simp; omega)) ?_
 rotate_left
 ·exact Qdj _
 rw [hsl]
 generalize a.drop m = a' at *
 clear hsl
 refine go_ ?_
 refine Qaa (hC.out) ?_
 refine Qab ?_
 refine rT Try.results34 ?_
 exact ⟨by rw [hf.out]; rfl, rfl⟩
structure Cn where
 args : List Tm
 inds : List Tm
 recs : List Rc
def aggC (c : Cn) : PV := .agg [.d (.sl (c.args.map encD)), .d (.sl (c.inds.map encD)), .d (.sl (c.recs.map encD))]
def Qdo (of_ pars inds : Int) : List Tm → Nat → List Rc
 | [], _ => []
 | a :: r, b => recT a of_ pars inds b :: Qdo of_ pars inds r (b + 1)
theorem recsT_app (of_ pars inds : Int) : ∀ (l r : List Tm) (b : Nat), Qdo of_ pars inds (l ++ r) b = Qdo of_ pars inds l b ++ Qdo of_ pars inds r (b + l.length) := by
  intro l
  induction l with
  | nil => intro r b; rfl
  | cons a l ih =>
    intro r b
    simp only [List.cons_append, Qdo, List.length_cons]
    rw [ih, show b + 1 + l.length = b + (l.length + 1) by omega]
theorem recsT_len (of_ pars inds : Int) : ∀ (l : List Tm) (b : Nat), (Qdo of_ pars inds l b).length = l.length := by
 intro l
 induction l with
 | nil => intro b; rfl
 | cons a l ih => intro b; simp only [Qdo, List.length_cons, ih]
def Qef (x : En) (pars inds : Int) : Cn := ⟨(Qaz x.ty).drop pars.toNat, (Qby (benT x.ty)).drop pars.toNat, Qdo x.of_ pars inds ((Qaz x.ty).drop pars.toNat) pars.toNat⟩
theorem rows3r (l : List Rc) : ∀ row ∈ l.map encD, row.length = 3 := rows_of rfl
theorem sparts_p (l : List En) (i q m : Nat) (x d : En) (hi : l[i]? = some x) (hd : l[q]? = some d) (hq : x.of_ = q) (hm : x.pars = m) (hdm : d.pars = m) (hm1 : m ≤ 24) (hn0 : 0 ≤ d.inds) (hn1 : d.inds ≤ 24) (hs : Qad x.ty = true) (h24 : (Qaz x.ty).length ≤ 24) (hmt : m ≤ (Qaz x.ty).length) (hma : m ≤ (Qby (benT x.ty)).length) :
  PCalls Try.prog 22 [.d (.sl (l.map encD)), .d (.v (.int .i64 i))] [] fun p s => p = aggC (Qef x d.pars d.inds) ∧ s = [] := by
 have hW := Hh (Qft x.ty)
 rw [whole_in hs h24] at hW
 unfold Qcp at hW
 have hsb : Qad (benT x.ty) = true := (Qfu _ x.ty (Nat.le_refl _) hs).2.2.2.2.1
 have hS := Hh (tSpine_p (benT x.ty) hsb)
 obtain ⟨R, hR⟩ : ∃ R, R = Qef x d.pars d.inds := ⟨_, rfl⟩
 rw [← hR]
 unfold Qef at hR
 rw [hdm, Int.toNat_natCast, hq] at hR
 have HR := Hh hR
 have hrec := fun (t : Tm) (b : Nat) (hb : b ≤ 1000) => srec_p l t q d b hd (by omega) (by omega) hn0 hn1 hb
 rw [hdm] at hrec
 have HREC := Hh hrec
 have hi0 : (0 : Int) ≤ i := by omega
 have hil : (i : Int) < l.length := by have := (List.getElem?_eq_some_iff.1 hi).1; omega
 have hm0 : (0 : Int) ≤ m := by omega
 have hlen : (Qby (benT x.ty)).length ≤ 8192 := by have := args_len (benT x.ty); have := (Qbu hsb).2.2; omega
 clear hR hs hsb hrec hn0 hn1 hd
 simp only [aggD, Jl, List.map_cons, List.map_nil, Int.natCast_zero] at hW hS
 unfold aggC
 generalize benT x.ty = T at *
 generalize Qaz x.ty = sl at *
 generalize headT T = h at *
 generalize Qby T = a at *
 generalize d.inds = di at *
 have hC := Hh (clone_tm_p (a.drop m) (by rw [List.length_drop]; omega))
 have hsl1 : List.drop m (List.take sl.length (List.map encD sl)) = (sl.drop m).map encD := by rw [List.take_of_length_le (by rw [List.length_map]; exact Nat.le_refl _), List.map_drop]
 have hsl2 : List.drop m (List.take a.length (List.map encD a)) = (a.drop m).map encD := by rw [List.take_of_length_le (by rw [List.length_map]; exact Nat.le_refl _), List.map_drop]
 have hlA : (sl.drop m).length ≤ 24 := by rw [List.length_drop]; omega
 have HS1 := Hh hsl1
 have HS2 := Hh hsl2
 clear hsl1 hsl2
 generalize a.drop m = a' at *
 generalize sl.drop m = sl' at *
 refine pG Try.func22 Try.ntmps22 ?_
 refine Je ?_
 intro i0 hi0
 try simp only [Ja, Rh, Rg, Jb] at hi0
 refine go_ ?_
 refine Je ?_
 intro i1 hi1
 try simp only [Ja, Rh, Rg, Jb] at hi1
 refine go_ ?_
 refine Qab ?_
 refine Qaa (hW.out) ?_
 refine Je ?_
 intro i2 hi2
 try simp only [Ja, Rh, Rg, Jb] at hi2
 refine go_ ?_
 refine Qab ?_
 refine Qaa (hS.out) ?_
 refine Je ?_
 intro i3 hi3
 try simp only [Ja, Rh, Rg, Jb] at hi3
 refine go_ ?_
 refine Qab ?_
 refine Qgb (J := Qct [(i1, _)]) [(0, .a), (1, .a), (2, .a), (3, .a), (4, .a), (5, .a), (6, .a), (7, .a), (8, .a), (9, .a), (10, .e), (11, .e)] (by kernel_rfl) (by rfl) (by kernel_rfl) (by (repeat (first | exact Qbn _ | refine Ju (by simp [St.box?, *] <;> rfl) ?_))) ?_
 refine jG ?_
 refine Qfg m sl.length ?_ ?_ HS1.out
 rotate_left
 ·exact Qdj _
 refine jG ?_
 refine Qfg m a.length ?_ ?_ HS2.out
 rotate_left
 ·exact Qdj _
 refine jG ?_
 refine PJ_call2 (hC.out) ?_
 refine jG ?_
 refine PJ_alloc rfl (by decide) rfl (by simp; rfl) (fun i hi => by simp only [Ja, Rh, Rg] at hi; (repeat (first | exact Qbn _ | refine Ju (by simp [St.box?, *] <;> rfl) ?_))) ?_
 intro i4 hi4
 try simp only [Ja, Rh, Rg, Jb] at hi4
 refine jG ?_
 refine PJs ?_
 refine jG ?_
 refine go_ ?_
 refine PW_ownB i4 2 42 3 eQ (by rfl) (by rfl) (by intro g; simp [St.setBox, *]; rfl) (by decide) ?_
 intro g hg
 have HR0 : Hid (R = ⟨sl', a', Qdo q m di sl' m⟩) := HR.out
 clear HR HS1 HS2 hC hlen hmt hma h24
 refine Qaf (ι := List Rc × Nat) (fun y => y.2 ≤ sl'.length ∧ Hid (y.1 = Qdo q m di (sl'.take y.2) m)) (fun y => [(0, .d (.sl (l.map encD))), (4, .ptr i0 0), (5, .ptr i1 0), (11, .ptr i4 0), (41, .d (.sl (sl'.map encD))), (42, .d (.v (.int .i64 sl'.length))), (43, .d (.v (.int .i64 (y.2 : Int))))])
  (fun y => [.tok g 42 3 y.1.length, .box i4 36 [.d (.sl (sl'.map encD)), .d (.sl (a'.map encD)), .own g (y.1.map encD)], .box i1 33 [.d (.v (.int .i64 x.kind)), .d (.v (.string x.name)), .d (.v (.int .i64 x.ty.kind)), .d (.v (.int .i64 x.ty.num)), .d (.sl (x.ty.sub.map encD)), .d (.v (.int .i64 x.body.kind)), .d (.v (.int .i64 x.body.num)), .d (.sl (x.body.sub.map encD)), .d (.v (.int .i64 q)), .d (.v (.int .i64 x.place)), .d (.v (.int .i64 m)), .d (.v (.int .i64 x.inds)), .d (.v (.int .i64 x.level)), .d (.sl (x.cons.map encD)), .d (.sl (x.fields.map encD))], .box i0 36 [.nils, .nils, .nils]]) (fun y => sl'.length - y.2) ([], 0) ⟨Nat.zero_le _, rfl⟩ ?_ ?_ ?_
 ·exact sU
 ·exact dR
 ·rintro ⟨rs, j⟩ ⟨hj, hrs⟩
  simp only at hj hrs ⊢
  by_cases hlt : j < sl'.length
  ·have hx := Qam hlt
   have hc : (j : Int) < sl'.length := by omega
   have hn : (0 : Int) ≤ j := by omega
   have hin := wr64 (n := (j : Int) + 1) (by omega) (by omega)
   have hw := wr64 (n := (m : Int) + j) (by omega) (by omega)
   have hc1 := Hh (HREC.out sl'[j] (m + j) (by omega))
   rw [Int.natCast_add] at hc1
   have hjl : (sl'.take j).length = j := by rw [List.length_take]; omega
   have HM : Hid (rs ++ [recT sl'[j] q m di ((m + j : Nat) : Int)] = Qdo q m di (sl'.take (j + 1)) m) := by
    show _ = _
    rw [List.take_succ_eq_append_getElem hlt, recsT_app, hjl, show rs = _ from hrs.out]; rfl
   have hrl : rs.length ≤ 24 := by rw [show rs = _ from hrs.out, recsT_len]; omega
   rw [Int.natCast_add] at HM
   clear hrs hjl
   simp only [aggD, Jl, encD_rc, List.map_cons, List.map_nil] at hc1
   generalize recT sl'[j] q m di ((m : Int) + j) = r at *
   refine go_ ?_
   refine Je ?_
   intro i5 hi5
   try simp only [Ja, Rh, Rg, Jb] at hi5
   refine go_ ?_
   refine Qab ?_
   refine Qas [(0, .a), (1, .b), (2, .a), (3, .b), (4, .a), (5, .b), (6, .a), (7, .b), (8, .a), (9, .a), (10, .a), (11, .a), (12, .e), (13, .a), (14, .e)] (by kernel_rfl) (by rfl) (by kernel_rfl) ?_
   refine go_ ?_
   refine Qaw (hc1.out) ?_
   refine go_ ?_
   refine POrd_bs_a ?_
   refine go_ ?_
   refine POrd_app_a (rs.length + 1) ?_ ?_ ?_ ?_
   ·simp
   ·exact rows3r _
   ·exact Qfp rfl
   refine go_ ?_
   refine Qga ?_
   refine go_ ?_
   refine ⟨(rs ++ [r], j + 1), ⟨hlt, HM⟩, by simp only; omega, ?_, ?_⟩
   ·exact sU
   ·simp only [List.length_append, List.length_singleton, List.map_append, List.map_cons, List.map_nil, encD_rc]
    exact dR
  ·have hc : ¬ (j : Int) < sl'.length := by omega
   have hf : rs = Qdo q m di sl' m := by rw [show rs = _ from hrs.out, List.take_of_length_le (by omega)]
   clear hrs
   refine go_ ?_
   refine Qab ?_
   refine rT Try.results22 ?_
   exact ⟨by rw [show R = _ from HR0.out, ← hf]; rfl, rfl⟩
theorem formed_at {l : List En} (h : formedB l = true) {i : Nat} {x : En} (hx : l[i]? = some x) : Qbf l x i = true := by
 unfold formedB at h
 simp only [Bool.and_eq_true, decide_eq_true_eq] at h
 have := (allP_iff _ _ _).1 h.2.2 i x hx
 rwa [Nat.zero_add] at this
theorem entry_shaped {l : List En} {x : En} {i : Nat} (h : Qbf l x i = true) : Qad x.ty = true := by
 unfold Qbf Qcv Qeg at h
 simp only [Bool.and_eq_true] at h
 exact h.2.1.1.1.1
theorem con_facts {l : List En} {i : Nat} {x : En} (hF : formedB l = true) (hx : l[i]? = some x) (hk : x.kind = 2) : ∃ (q m : Nat) (d : En), x.of_ = q ∧ q < i ∧ l[q]? = some d ∧ d.kind = 1 ∧ x.pars = m ∧ d.pars = m ∧ m ≤ 24 ∧ 0 ≤ d.inds ∧ d.inds ≤ 24 ∧ Qad x.ty = true ∧ (Qaz x.ty).length ≤ 24 ∧ m ≤ (Qaz x.ty).length ∧ m ≤ (Qby (benT x.ty)).length ∧ Qax (benT x.ty) q m d.inds (Qaz x.ty).length = true := by
 have he := formed_at hF hx
 have hs := entry_shaped he
 have hc : conB l x i = true := by
  have h2 := he
  unfold Qbf at h2
  simp only [Bool.and_eq_true] at h2
  rw [(kind_con hk).1] at h2
  exact h2.2.2
 unfold conB at hc
 rw [Bool.and_eq_true] at hc
 obtain ⟨q, d, hq, hqi, hd, hdk, hpp⟩ := Qgh hc.1
 have hB := fam_ok (i := i) (fun j y hj hy => formed_at hF hy) q d hqi hd hdk
 have h3 := hc.2
 rw [con_tele hs] at h3
 simp only [Bool.and_eq_true, decide_eq_true_eq] at h3
 obtain ⟨h24, hpt, ha⟩ := h3
 obtain ⟨m, hm⟩ : ∃ m : Nat, x.pars = m := ⟨x.pars.toNat, by omega⟩
 unfold Qdv at ha
 rw [hq, Int.toNat_natCast, hd, hm] at ha
 have hal : ((Qby (benT x.ty)).length : Int) = m + d.inds := by
  have h4 := ha
  unfold Qax at h4
  simp only [Bool.and_eq_true, beq_iff_eq] at h4
  exact h4.2.2.1
 exact ⟨q, m, d, hq, hqi, hd, hdk, hm, by omega, by omega, hB.2.1, hB.2.2, hs, by omega, by omega, by omega, ha⟩
theorem is_at {l : List En} {n : Nat} {k : Int} {x : En} (hx : l[n]? = some x) : isE l n k = (x.kind == k) := by
 have hlt := (List.getElem?_eq_some_iff.1 hx).1
 unfold isE
 rw [decide_eq_true (show (0 : Int) ≤ n by omega), decide_eq_true (show (n : Int) < l.length by omega), Int.toNat_natCast, hx]; rfl
theorem sParts_ok (l : List En) (i : Nat) (x : En) (ho : ∀ e ∈ l, EnOk e) (hF : formedB l = true) (hx : l[i]? = some x) (hk : x.kind = 2) :
  PCalls Try.prog 10 [.d (.sl (l.map encD)), .d (.v (.int .i64 i))] [] fun p s => p = .tup [aggC (Qef x x.pars (Qdv l x.of_)), .d (.v (.int .i64 0))] ∧ s = [] := by
 obtain ⟨q, m, d, hq, hqi, hd, hdk, hm, hdm, hm1, hn0, hn1, hs, h24, hmt, hma, -⟩ := con_facts hF hx hk
 have hP := Hh (sparts_p l i q m x d hx hd hq hm hdm hm1 hn0 hn1 hs h24 hmt hma)
 have hI := Hh (sis_p l i 2)
 rw [is_at hx, hk] at hI
 have hW := Hh (sformed_p l ho)
 rw [hF] at hW
 have e1 : Qef x x.pars (Qdv l x.of_) = Qef x d.pars d.inds := by
  unfold Qdv
  rw [hq, Int.toNat_natCast, hd, hm, hdm]
 rw [e1]
 generalize Qef x d.pars d.inds = c at *
 unfold aggC at hP ⊢
 clear hs h24 hmt hma e1 hx hd
 refine pG Try.func10 Try.ntmps10 ?_
 refine Je ?_
 intro i0 hi0
 try simp only [Ja, Rh, Rg, Jb] at hi0
 refine go_ ?_
 refine Qaa (hW.out) ?_
 refine Qaa (hI.out) ?_
 refine Qaa (hP.out) ?_
 refine Qab ?_
 refine rT Try.results10 ?_
 exact ⟨rfl, rfl⟩
def natL : List En := [⟨1, ⟨#[78, 97, 116]⟩, .mk 2 0 [], .mk 0 0 [], 0, 0, 0, 0, 0, [1, 2], []⟩, ⟨2, ⟨#[122, 101, 114, 111]⟩, .mk 6 0 [], .mk 0 0 [], 0, 0, 0, 0, 0, [], []⟩, ⟨2, ⟨#[115, 117, 99]⟩, .mk 3 0 [.mk 6 0 [], .mk 6 0 []], .mk 0 0 [], 0, 1, 0, 0, 0, [], []⟩]
theorem lnat_p : PCalls Try.prog 11 [] [] fun p s => p = .d (.sl (natL.map encD)) ∧ s = [] := by
 have k1 : (⟨#[78, 97, 116]⟩ : ByteArray).size ≤ maxLen := by show 3 ≤ maxLen; unfold maxLen; omega
 have k2 : (⟨#[122, 101, 114, 111]⟩ : ByteArray).size ≤ maxLen := by show 4 ≤ maxLen; unfold maxLen; omega
 have k3 : (⟨#[115, 117, 99]⟩ : ByteArray).size ≤ maxLen := by show 3 ≤ maxLen; unfold maxLen; omega
 refine pG Try.func11 Try.ntmps11 ?_
 refine Je ?_
 intro i0 hi0
 try simp only [Ja, Rh, Rg, Jb] at hi0
 refine go_ ?_
 refine Qab ?_
 refine Qbx ?_
 refine Qbx ?_
 refine Qbx ?_
 refine rT Try.results11 ?_
 exact ⟨by simp [natL, Jf, tupP, PV.norm2, PV.norm1, PV.norm0], rfl⟩
theorem nat_dist : distB (nms natL) = true := by
 rw [dist_iff]
 intro i j hij hj
 have h3 : (nms natL).length = 3 := rfl
 rw [h3] at hj
 rcases (by omega : (i = 0 ∧ j = 1) ∨ (i = 0 ∧ j = 2) ∨ (i = 1 ∧ j = 2)) with ⟨rfl, rfl⟩ | ⟨rfl, rfl⟩ | ⟨rfl, rfl⟩ <;> decide +kernel
theorem nat_entries : allP (Qbf natL) natL 0 = true := by decide +kernel
theorem nat_formed : formedB natL = true := by
 unfold formedB
 rw [nat_dist, nat_entries]; rfl
theorem nat_ok : ∀ e ∈ natL, EnOk e := by
 intro e he
 simp only [natL, List.mem_cons, List.not_mem_nil, or_false] at he
 rcases he with rfl | rfl | rfl <;> exact ⟨by decide, by decide⟩
def natC : Cn := Qef natL[2] natL[2].pars (Qdv natL natL[2].of_)
theorem natC_ok : natC.args.length = 1 ∧ ∃ r, natC.recs = [r] ∧ r.is_ = true := by
 refine ⟨by decide +kernel, ⟨(natC.recs[0]?).getD ⟨false, [], []⟩, ?_, by decide +kernel⟩⟩
 have h : natC.recs.length = 1 := by decide +kernel
 match hr : natC.recs, h with
 | [r], _ => rfl
theorem awake12_p : PCalls Try.prog 5 [] [] fun p s => p = .d (.v (.bool true)) ∧ s = [] := by
 have hN := Hh lnat_p
 have hP := Hh (sParts_ok natL 2 natL[2] nat_ok nat_formed rfl rfl)
 have hF := Hh (sformed_p natL nat_ok)
 rw [nat_formed] at hF
 obtain ⟨hc1, r, hc2, hc3⟩ := natC_ok
 have hP2 : Hid (PCalls Try.prog 10 [.d (.sl (natL.map encD)), .d (.v (.int .i64 2))] [] fun p s => p = .tup [aggC natC, .d (.v (.int .i64 0))] ∧ s = []) := hP.out
 unfold aggC at hP2
 clear hP
 generalize natC = c at *
 generalize natL = nl at *
 obtain ⟨ca, ci, cr⟩ := c
 simp only at hc1 hc2 hP2
 subst hc2
 obtain ⟨ri, ra, rt⟩ := r
 simp only at hc3
 subst hc3
 have hc0 : (ca.length : Int) = 1 := by omega
 refine pG Try.func5 Try.ntmps5 ?_
 refine Qaa (hN.out) ?_
 refine Qaa (hP2.out) ?_
 refine Je ?_
 intro i0 hi0
 try simp only [Ja, Rh, Rg, Jb] at hi0
 refine go_ ?_
 refine Qab ?_
 refine Qaa (hN.out) ?_
 refine Qaa (hF.out) ?_
 refine rT Try.results5 ?_
 exact ⟨rfl, rfl⟩
theorem ceq_refl : ∀ t : Tm, ceqT t t = true := by
  refine Tm.ind ?_
  intro k n sub ih
  have hl : ∀ l : List Tm, (∀ s ∈ l, ceqT s s = true) → ceqL l l = true := by
    intro l
    induction l with
    | nil => intro _; rfl
    | cons t ts iht =>
      intro h
      simp only [ceqL, Bool.and_eq_true]
      exact ⟨h t (by simp), iht fun s hs => h s (by simp [hs])⟩
  simp only [ceqT, beq_self_eq_true, Bool.true_and, hl sub ih]
theorem Qfc (t : Tm) : Qbb t t = true := by
 unfold Qbb
 rw [ceq_refl]
 cases Qad t <;> rfl
theorem eqI_refl : ∀ l : List Int, eqI l l = true := by
 intro l
 induction l with
 | nil => rfl
 | cons x l ih => simp only [eqI, ih]; simp
theorem Qge (l : List Int) : eqIs l l = true := by
 unfold eqIs
 rw [eqI_refl]; simp
theorem sameE_refl (x : En) : Qdd x x = true := by
 unfold Qdd
 rw [Qfc, Qfc, Qge, Qge]
 simp
theorem sameS_refl (l : List En) : Qch l l = true := by
 have : ∀ l : List En, Qce l l = true := by
  intro l
  induction l with
  | nil => rfl
  | cons x l ih => simp only [Qce, sameE_refl, ih]; rfl
 unfold Qch
 rw [this]; simp
theorem light_p (l : List En) : PCalls Try.prog 4 [.d (.sl (l.map encD))] [] fun p s => p = .d (.v (.bool (decide ((l.length : Int) ≤ 300)))) ∧ s = [] := by
 refine pG Try.func4 Try.ntmps4 ?_
 refine rT Try.results4 ?_
 exact ⟨rfl, rfl⟩
theorem sequal_p (a b : List Int) : PCalls Try.prog 16 [.d (.sl (a.map encD)), .d (.sl (b.map encD))] [] fun p s => p = .d (.v (.bool (eqIs a b))) ∧ s = [] := by
  have HR := Hh (show eqIs a b = (!((a.length : Int) != b.length) && eqI (a.drop 0) (b.drop 0)) from rfl)
  generalize eqIs a b = R at *
  refine pE Try.func16 Try.ntmps16 ?_
  refine Qcu (t := 0) (rows := a.map encD) (by simp [PF.get] <;> rfl) rfl fun hml => ?_
  rw [List.length_map] at hml
  unfold maxLen at hml
  refine go_ ?_
  by_cases hl : (a.length : Int) = b.length
  rotate_left
  · have hq : ((a.length : Int) != b.length) = true := bne_iff_ne.2 hl
    have hf : Hid (R = false) := by show _ = _; rw [show R = _ from HR.out, hq]; rfl
    clear HR hl
    refine go_ ?_
    refine rT Try.results16 ?_
    exact ⟨by rw [hf.out]; rfl, rfl⟩
  have hq : ((a.length : Int) != b.length) = false := by rw [hl]; simp
  have HR0 : Hid (R = eqI (a.drop 0) (b.drop 0)) := by show _ = _; rw [show R = _ from HR.out, hq]; rfl
  have hab : a.length = b.length := by omega
  have HAB := Hh hab
  clear HR hl hab
  refine go_ ?_
  refine Qaf (ι := Nat) (fun y => y ≤ a.length ∧ Hid (R = eqI (a.drop y) (b.drop y))) (fun y => [(0, .d (.sl (a.map encD))), (1, .d (.sl (b.map encD))), (12, .d (.v (.int .i64 a.length))), (13, .d (.v (.int .i64 (y : Int))))]) (fun _ => []) (fun y => a.length - y) 0 ⟨Nat.zero_le _, HR0.out⟩ ?_ ?_ ?_
  · exact sU
  · exact dR
  · rintro j ⟨hj, hR⟩
    clear HR0 hq
    by_cases hlt : j < a.length
    · have hlt2 : j < b.length := by have := HAB.out; omega
      have hx := Qam hlt
      have hy := Qam hlt2
      have hc : (j : Int) < a.length := by omega
      have hc2 : (j : Int) < b.length := by omega
      have hn : (0 : Int) ≤ j := by omega
      have hin := wr64 (n := (j : Int) + 1) (by omega) (by omega)
      have hR2 : Hid (R = (!(a[j] != b[j]) && eqI (a.drop (j + 1)) (b.drop (j + 1)))) := by
        rw [show R = _ from hR.out, List.drop_eq_getElem_cons hlt, List.drop_eq_getElem_cons hlt2]; rfl
      clear hR
      cases hq : (a[j] != b[j]) with
      | true =>
        have hf : Hid (R = false) := by show _ = _; rw [show R = _ from hR2.out, hq]; rfl
        clear hR2
        refine go_ ?_
        refine Qas [(0, .a), (1, .a), (2, .a), (3, .a), (4, .a), (5, .a), (6, .a), (7, .a), (8, .a)] (by kernel_rfl) (by rfl) (by kernel_rfl) ?_
        refine go_ ?_
        refine rT Try.results16 ?_
        exact ⟨by rw [hf.out]; rfl, rfl⟩
      | false =>
        have hR3 : Hid (R = eqI (a.drop (j + 1)) (b.drop (j + 1))) := by show _ = _; rw [show R = _ from hR2.out, hq]; rfl
        clear hR2
        refine go_ ?_
        refine Qas [(0, .a), (1, .a), (2, .a), (3, .a), (4, .a), (5, .a), (6, .a), (7, .a), (8, .a)] (by kernel_rfl) (by rfl) (by kernel_rfl) ?_
        refine go_ ?_
        exact ⟨j + 1, ⟨hlt, hR3⟩, by omega, sU, dR⟩
    · have hc : ¬ (j : Int) < a.length := by omega
      have hf : Hid (R = true) := by rw [show R = _ from hR.out, List.drop_of_length_le (by omega)]; rfl
      refine go_ ?_
      refine rT Try.results16 ?_
      exact ⟨by rw [hf.out]; rfl, rfl⟩
theorem sameTB_eq (t u : Tm) : Qbb t u = (csameB t u || (!Qad t && !Qad u)) := by
 unfold Qbb csameB
 cases Qad t <;> cases Qad u <;> simp
theorem Qgs (t u : Tm) : PCalls Try.prog 15 [aggD t, aggD u] [] fun p s => p = .d (.v (.bool (Qbb t u))) ∧ s = [] := by
  have hT := Hh (Qca t)
  have hU := Hh (Qca u)
  have hE := Hh (tSame_p t u)
  have HR := Hh (sameTB_eq t u)
  generalize Qbb t u = R at *
  generalize Qad t = a at *
  generalize Qad u = b at *
  generalize csameB t u = c at *
  simp only [aggD, Jl, List.map_cons, List.map_nil] at hT hU hE ⊢
  refine pG Try.func15 Try.ntmps15 ?_
  refine Jd ?_
  intro i0 hi0
  refine go_ ?_
  refine Jd ?_
  intro i1 hi1
  try simp only [Ja, Rh, Rg, Jb] at hi1
  refine go_ ?_
  refine Qaa (hE.out) ?_
  cases c with
  | true =>
    refine go_ ?_
    refine rT Try.results15 ?_
    exact ⟨by rw [HR.out]; simp [tupP, PV.norm2, PV.norm1, PV.norm0], rfl⟩
  | false =>
    refine go_ ?_
    refine Qai (hT.out) ?_
    cases a with
    | true =>
      refine go_ ?_
      refine rT Try.results15 ?_
      exact ⟨by rw [HR.out]; simp [tupP, PV.norm2, PV.norm1, PV.norm0], rfl⟩
    | false =>
      refine go_ ?_
      refine Qai (hU.out) ?_
      refine rT Try.results15 ?_
      exact ⟨by rw [HR.out]; simp [tupP, PV.norm2, PV.norm1, PV.norm0], rfl⟩
def sameP (x y : En) : Bool := (x.kind == y.kind) && ((x.name.toList == y.name.toList) && ((x.of_ == y.of_) && ((x.place == y.place) && ((x.pars == y.pars) && ((x.inds == y.inds) && ((x.level == y.level) && (Qbb x.ty y.ty && (Qbb x.body y.body && (eqIs x.cons y.cons && eqIs x.fields y.fields)))))))))
theorem sameP_E (x y : En) : sameP x y = Qdd x y := by
 have h : ∀ a b : Int, (!(a != b)) = (a == b) := fun a b => by rw [bne, Bool.not_not]
 unfold sameP Qdd
 rw [h, h, h, h, h, h]
theorem ssame1_p (x y : En) : PCalls Try.prog 14 [aggD x, aggD y] [] fun p s => p = .d (.v (.bool (Qdd x y))) ∧ s = [] := by
 have h1 := Hh (Qgs x.ty y.ty)
 have h2 := Hh (Qgs x.body y.body)
 have h3 := Hh (sequal_p x.cons y.cons)
 have h4 := Hh (sequal_p x.fields y.fields)
 have HR := Hh (show sameP x y = ((x.kind == y.kind) && ((x.name.toList == y.name.toList) && ((x.of_ == y.of_) && ((x.place == y.place) && ((x.pars == y.pars) && ((x.inds == y.inds) && ((x.level == y.level) && (Qbb x.ty y.ty && (Qbb x.body y.body && (eqIs x.cons y.cons && eqIs x.fields y.fields)))))))))) from rfl)
 rw [← sameP_E]
 generalize sameP x y = R at *
 simp only [aggD, Jl, encD_en, List.map_cons, List.map_nil] at h1 h2 ⊢
 generalize Qbb x.ty y.ty = e1 at *
 generalize Qbb x.body y.body = e2 at *
 generalize eqIs x.cons y.cons = e3 at *
 generalize eqIs x.fields y.fields = e4 at *
 refine pG Try.func14 Try.ntmps14 ?_
 refine Jd ?_
 intro i0 hi0
 try simp only [Ja, Rh, Rg, Jb] at hi0
 refine go_ ?_
 refine Jd ?_
 intro i1 hi1
 try simp only [Ja, Rh, Rg, Jb] at hi1
 refine go_ ?_
 rcases Bool.eq_false_or_eq_true ((x.kind == y.kind)) with c0 | c0
 rotate_left
 ·skip
  have hf : Hid (R = false) := by show _ = _; rw [show R = _ from HR.out, c0]; simp
  clear HR
  refine go_ ?_
  refine rT Try.results14 ?_
  exact ⟨by rw [hf.out]; rfl, rfl⟩
 refine go_ ?_
 rcases Bool.eq_false_or_eq_true ((x.name.toList == y.name.toList)) with c1 | c1
 rotate_left
 ·skip
  have hf : Hid (R = false) := by show _ = _; rw [show R = _ from HR.out, c0, c1]; simp
  clear HR
  refine go_ ?_
  refine rT Try.results14 ?_
  exact ⟨by rw [hf.out]; rfl, rfl⟩
 refine go_ ?_
 rcases Bool.eq_false_or_eq_true ((x.of_ == y.of_)) with c2 | c2
 rotate_left
 ·skip
  have hf : Hid (R = false) := by show _ = _; rw [show R = _ from HR.out, c0, c1, c2]; simp
  clear HR
  refine go_ ?_
  refine rT Try.results14 ?_
  exact ⟨by rw [hf.out]; rfl, rfl⟩
 refine go_ ?_
 rcases Bool.eq_false_or_eq_true ((x.place == y.place)) with c3 | c3
 rotate_left
 ·skip
  have hf : Hid (R = false) := by show _ = _; rw [show R = _ from HR.out, c0, c1, c2, c3]; simp
  clear HR
  refine go_ ?_
  refine rT Try.results14 ?_
  exact ⟨by rw [hf.out]; rfl, rfl⟩
 refine go_ ?_
 rcases Bool.eq_false_or_eq_true ((x.pars == y.pars)) with c4 | c4
 rotate_left
 ·skip
  have hf : Hid (R = false) := by show _ = _; rw [show R = _ from HR.out, c0, c1, c2, c3, c4]; simp
  clear HR
  refine go_ ?_
  refine rT Try.results14 ?_
  exact ⟨by rw [hf.out]; rfl, rfl⟩
 refine go_ ?_
 rcases Bool.eq_false_or_eq_true ((x.inds == y.inds)) with c5 | c5
 rotate_left
 ·skip
  have hf : Hid (R = false) := by show _ = _; rw [show R = _ from HR.out, c0, c1, c2, c3, c4, c5]; simp
  clear HR
  refine go_ ?_
  refine rT Try.results14 ?_
  exact ⟨by rw [hf.out]; rfl, rfl⟩
 refine go_ ?_
 rcases Bool.eq_false_or_eq_true ((x.level == y.level)) with c6 | c6
 rotate_left
 ·skip
  have hf : Hid (R = false) := by show _ = _; rw [show R = _ from HR.out, c0, c1, c2, c3, c4, c5, c6]; simp
  clear HR
  refine go_ ?_
  refine rT Try.results14 ?_
  exact ⟨by rw [hf.out]; rfl, rfl⟩
 refine go_ ?_
 refine Qai (h1.out) ?_
 rcases Bool.eq_false_or_eq_true (e1) with d1 | d1
 rotate_left
 ·skip
  have hf : Hid (R = false) := by show _ = _; rw [show R = _ from HR.out, c0, c1, c2, c3, c4, c5, c6, d1]; simp
  clear HR
  refine go_ ?_
  refine rT Try.results14 ?_
  exact ⟨by rw [hf.out]; rfl, rfl⟩
 refine go_ ?_
 refine Qai (h2.out) ?_
 rcases Bool.eq_false_or_eq_true (e2) with d2 | d2
 rotate_left
 ·skip
  have hf : Hid (R = false) := by show _ = _; rw [show R = _ from HR.out, c0, c1, c2, c3, c4, c5, c6, d1, d2]; simp
  clear HR
  refine go_ ?_
  refine rT Try.results14 ?_
  exact ⟨by rw [hf.out]; rfl, rfl⟩
 refine go_ ?_
 refine Qai (h3.out) ?_
 rcases Bool.eq_false_or_eq_true (e3) with d3 | d3
 rotate_left
 ·skip
  have hf : Hid (R = false) := by show _ = _; rw [show R = _ from HR.out, c0, c1, c2, c3, c4, c5, c6, d1, d2, d3]; simp
  clear HR
  refine go_ ?_
  refine rT Try.results14 ?_
  exact ⟨by rw [hf.out]; rfl, rfl⟩
 refine go_ ?_
 refine Qai (h4.out) ?_
 have hf : Hid (R = e4) := by show _ = _; rw [show R = _ from HR.out, c0, c1, c2, c3, c4, c5, c6, d1, d2, d3]; simp
 clear HR
 refine rT Try.results14 ?_
 exact ⟨by rw [hf.out]; rfl, rfl⟩
theorem sameL_len {a b : List En} (h : a.length = b.length) : Qch a b = Qce a b := by
 unfold Qch
 rw [h]; simp
theorem sameL_step {a b : List En} {j : Nat} (h1 : j < a.length) (h2 : j < b.length) : Qce (a.drop j) (b.drop j) = (Qdd a[j] b[j] && Qce (a.drop (j + 1)) (b.drop (j + 1))) := by
 rw [List.drop_eq_getElem_cons h1, List.drop_eq_getElem_cons h2]; rfl
theorem seqf_p (a b : List En) (f : FuncId) (hca : Qau Try.prog f = true) (h : ∀ x y : En, PCalls Try.prog f [aggD x, aggD y] [] fun p s => p = .d (.v (.bool (Qdd x y))) ∧ s = []) :
    PCalls Try.prog 13 [.d (.sl (a.map encD)), .d (.sl (b.map encD)), .fn (.func f) [] []] [] fun p s => p = .d (.v (.bool (Qch a b))) ∧ s = [] := by
  have HC := Hh h
  have HCA := Hh hca
  clear h hca
  by_cases hl : a.length = b.length
  · rw [sameL_len hl]
    obtain ⟨R, hR⟩ : ∃ R, R = Qce a b := ⟨_, rfl⟩
    rw [← hR]
    have HR : Hid (R = Qce (a.drop 0) (b.drop 0)) := hR
    have hne : ((a.length : Int) != b.length) = false := by rw [hl]; simp
    have HL := Hh hl
    clear hR hl
    refine pE Try.func13 Try.ntmps13 ?_
    refine Qcu (t := 0) (rows := a.map encD) (by simp [PF.get] <;> rfl) rfl fun hml => ?_
    rw [List.length_map] at hml
    unfold maxLen at hml
    refine go_ ?_
    refine Qaf (ι := Nat) (fun y => y ≤ a.length ∧ Hid (R = Qce (a.drop y) (b.drop y))) (fun y => [(0, .d (.sl (a.map encD))), (1, .d (.sl (b.map encD))), (2, .fn (.func f) [] []), (15, .d (.sl (a.map encD))), (16, .d (.v (.int .i64 a.length))), (17, .d (.v (.int .i64 (y : Int))))]) (fun _ => []) (fun y => a.length - y) 0 ⟨Nat.zero_le _, HR.out⟩ ?_ ?_ ?_
    · exact sU
    · exact dR
    · rintro j ⟨hj, hR⟩
      clear HR
      by_cases hlt : j < a.length
      · have hlb : j < b.length := by have := HL.out; omega
        have hx3 : a[j]? = some a[j] := List.getElem?_eq_getElem hlt
        have hy3 : b[j]? = some b[j] := List.getElem?_eq_getElem hlb
        have hc : (j : Int) < a.length := by omega
        have hc2 : (j : Int) < b.length := by omega
        have hn : (0 : Int) ≤ j := by omega
        have hin := wr64 (n := (j : Int) + 1) (by omega) (by omega)
        have hR2 := Hh (hR.out.trans (sameL_step hlt hlb))
        have hc1 := Hh (HC.out a[j] b[j])
        have HLT := Hh hlt
        clear hR
        generalize Qdd a[j] b[j] = q at *
        generalize a[j] = x at *
        generalize b[j] = y at *
        clear hlt hlb
        simp only [aggD, encD_en, List.map_cons, List.map_nil] at hc1
        refine go_ ?_
        refine Je ?_
        intro i2 hi2
        try simp only [Ja, Rh, Rg, Jb] at hi2
        refine go_ ?_
        refine Qab ?_
        refine Je ?_
        intro i3 hi3
        try simp only [Ja, Rh, Rg, Jb] at hi3
        refine go_ ?_
        refine Qab ?_
        refine POps_callC 0 0 hc1.out ?_ HCA.out
        rintro p s ⟨rfl, rfl⟩
        simp only [List.cons_append, List.nil_append, List.append_nil, Ja, Rh, Rg]
        cases q with
        | false =>
          have hf : Hid (R = false) := by show _ = _; rw [show R = _ from hR2.out]; rfl
          clear hR2
          refine go_ ?_
          refine rT Try.results13 ?_
          exact ⟨by rw [hf.out]; rfl, rfl⟩
        | true =>
          have hR3 : Hid (R = Qce (a.drop (j + 1)) (b.drop (j + 1))) := by show _ = _; rw [show R = _ from hR2.out]; rfl
          clear hR2
          refine go_ ?_
          exact ⟨j + 1, ⟨HLT.out, hR3⟩, by have := HLT.out; omega, sU, dR⟩
      · have hc : ¬ (j : Int) < a.length := by omega
        have hf : Hid (R = true) := by rw [show R = _ from hR.out, List.drop_of_length_le (by omega)]; rfl
        refine go_ ?_
        refine rT Try.results13 ?_
        exact ⟨by rw [hf.out]; rfl, rfl⟩
  · have hne : ((a.length : Int) != b.length) = true := by rw [bne_iff_ne]; omega
    have hf : Qch a b = false := by unfold Qch; rw [hne]; rfl
    rw [hf]
    clear hf hl
    refine pG Try.func13 Try.ntmps13 ?_
    refine rT Try.results13 ?_
    exact ⟨rfl, rfl⟩
theorem ssame_p (a b : List En) : PCalls Try.prog 6 [.d (.sl (a.map encD)), .d (.sl (b.map encD))] [] fun p s => p = .d (.v (.bool (Qch a b))) ∧ s = [] := by
 have hc := Hh (seqf_p a b 14 rfl ssame1_p)
 generalize Qch a b = q at *
 refine pG Try.func6 Try.ntmps6 ?_
 refine Qaa (hc.out) ?_
 refine rT Try.results6 ?_
 exact ⟨by simp [tupP, PV.norm2, PV.norm1, PV.norm0], rfl⟩
end Go.Proofs.Ytpaifjlikgnlfaa

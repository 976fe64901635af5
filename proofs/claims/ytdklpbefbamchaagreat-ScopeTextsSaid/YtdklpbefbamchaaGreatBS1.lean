import Derived.Test.YtdklpbefbamchaaGreatBS
import Derived.Test.YtdklpbefbamchaaGreatBE2
import Derived.Test.YtdklpbefbamchaaGreatBA3
import Derived.Maps.OwnOps
import Derived.Test.YtdklpbefbamchaaGreatBN
set_option linter.unusedSimpArgs false
set_option linter.unusedVariables false
set_option maxHeartbeats 16000000
set_option maxRecDepth 100000
namespace Go.Proofs.YtdklpbefbamchaaGreat
open Go.RowKit
theorem rSplit_p (t : Tm) (n : Int) : PCalls Tryz.prog 209 [aggD t, .d (.v (.int .i64 n))] [] fun p s => p = Qee (Qax t n) ∧ s = [] := by
  have hS := Hh (Qli t)
  cases hb : Qak t with
  | false =>
    have hR : Qax t n = ([], .mk 0 0 [], 5) := by unfold Qax; rw [if_pos (.inl hb)]
    rw [hR]
    rw [hb] at hS
    unfold Qee
    simp only [aggD, Jl, List.map_cons, List.map_nil, Jv, Jw, Jx] at hS ⊢
    refine pG Tryz.func209 Tryz.ntmps209 ?_
    refine Jd ?_
    intro i0 hi0
    refine go_ ?_
    refine Je ?_
    intro i1 hi1
    try simp only [Ja, Rh, Rg, Jb] at hi1
    refine go_ ?_
    refine Qab (hS.out) ?_
    refine Qaa ?_
    refine rT Tryz.results209 ?_
    exact ⟨by simp [tupP, PV.norm2, PV.norm1, PV.norm0], rfl⟩
  | true =>
    rw [hb] at hS
    by_cases h0 : n < 0
    · have hR : Qax t n = ([], .mk 0 0 [], 5) := by unfold Qax; rw [if_pos (.inr h0)]
      rw [hR]
      unfold Qee
      simp only [aggD, Jl, List.map_cons, List.map_nil, Jv, Jw, Jx] at hS ⊢
      refine pG Tryz.func209 Tryz.ntmps209 ?_
      refine Jd ?_
      intro i0 hi0
      refine go_ ?_
      refine Je ?_
      intro i1 hi1
      try simp only [Ja, Rh, Rg, Jb] at hi1
      refine go_ ?_
      refine Qab (hS.out) ?_
      refine Qaa ?_
      refine rT Tryz.results209 ?_
      exact ⟨by simp [tupP, PV.norm2, PV.norm1, PV.norm0], rfl⟩
    · by_cases h24 : 24 < n
      · have hR : Qax t n = ([], .mk 0 0 [], 2) := by unfold Qax; rw [if_neg (by rw [hb]; simp; omega), if_pos h24]
        rw [hR]
        unfold Qee
        simp only [aggD, Jl, List.map_cons, List.map_nil, Jv, Jw, Jx] at hS ⊢
        refine pG Tryz.func209 Tryz.ntmps209 ?_
        refine Jd ?_
        intro i0 hi0
        refine go_ ?_
        refine Je ?_
        intro i1 hi1
        try simp only [Ja, Rh, Rg, Jb] at hi1
        refine go_ ?_
        refine Qab (hS.out) ?_
        refine Qaa ?_
        refine rT Tryz.results209 ?_
        exact ⟨by simp [tupP, PV.norm2, PV.norm1, PV.norm0], rfl⟩
      · obtain ⟨m, rfl⟩ : ∃ m : Nat, n = m := ⟨n.toNat, by omega⟩
        have hR := Qlb hb (by omega) (show (m : Int) ≤ 24 by omega)
        have hg := (Qbu hb).1
        obtain ⟨R, hR0⟩ : ∃ R, R = Qdh m t := ⟨_, rfl⟩
        rw [hR, Int.toNat_natCast, ← hR0]
        have HR0 : Hid (R = Qhi [] (Qdh m t)) := by show _ = _; rw [joinC_nil, hR0]
        have hm24 : m ≤ 24 := by omega
        have HG := Hh hg
        clear hb hR hR0 hg h0
        unfold Qee
        simp only [aggD, Jl, List.map_cons, List.map_nil] at hS ⊢
        refine pG Tryz.func209 Tryz.ntmps209 ?_
        refine Jd ?_
        intro i0 hi0
        refine go_ ?_
        refine Je ?_
        intro i1 hi1
        try simp only [Ja, Rh, Rg, Jb] at hi1
        refine go_ ?_
        refine Jc (hS.out) ?_
        refine gs_ ?_
        refine Qc ?_
        refine gs_ ?_
        refine Qc ?_
        refine gs_ ?_
        refine Qdi ?_ (by decide) eD (by simp; rfl) (by rfl) (by simp; rfl) (by rfl) (by decide)
        intro g hg
        refine go_ ?_
        refine Qai (ι := Nat × List Tm × Tm) (fun y => y.1 ≤ m ∧ y.2.1.length = y.1 ∧ Hid (Qae y.2.2 = true) ∧ Hid (R = Qhi y.2.1 (Qdh (m - y.1) y.2.2))) (fun y => [(1, .d (.v (.int .i64 m))), (2, .ptr i0 0), (5, .ptr i1 0), (7, .own g (y.2.1.map encD)), (8, .d (.v (.int .i64 (y.1 : Int))))]) (fun y => [.tok g 26 3 y.2.1.length, .box i1 26 [.d (.v (.int .i64 0)), .d (.v (.int .i64 0)), .nils], .box i0 26 [.d (.v (.int .i64 y.2.2.kind)), .d (.v (.int .i64 y.2.2.num)), .d (.sl (y.2.2.sub.map encD))]]) (fun y => m - y.1) (0, [], t) ⟨Nat.zero_le _, rfl, HG.out, HR0.out⟩ ?_ ?_ ?_
        · exact sU
        · exact dR
        · rintro ⟨j, l, x⟩ ⟨hj, hl, hgx, hR⟩
          simp only at hj hl hgx hR ⊢
          have HL := Hh hl
          clear HR0 HG hl
          by_cases hlt : j < m
          · have hc : (j : Int) < m := by omega
            have hin := wr64 (n := (j : Int) + 1) (by omega) (by omega)
            by_cases h3 : x.kind = 3
            · obtain ⟨a, b, rfl, ha, hb⟩ := Qkf hgx.out h3
              have hR2 : Hid (R = Qhi (l ++ [a]) (Qdh (m - (j + 1)) b)) := by
                show _ = _
                rw [show R = _ from hR.out, show m - j = (m - (j + 1)) + 1 by omega, Qjb, joinC_step]
              clear hR h3 hgx
              simp only [Jv, Jw, Jx, List.map_cons, List.map_nil]
              refine go_ ?_
              refine Qao ?_
              have hl8 : l.length ≤ 24 := by have := HL.out; omega
              refine Qap (l.length + 1) ?_ ?_ ?_ ?_
              · simp
              · exact Qhu _
              · exact Qbt rfl
              refine go_ ?_
              refine Qaa ?_
              refine ⟨(j + 1, l ++ [a], b), ⟨hlt, by simp only; rw [List.length_append, show l.length = j from HL.out]; rfl, hb, hR2⟩, by simp only; omega, ?_, ?_⟩
              · repeat (first | exact Jt _ | refine Js (by simp [PF.get]; rfl) (by first | rfl | (simp [hin]; done) | fail) ?_)
              · simp only [List.length_append, List.length_singleton]
                exact dR
            · have hf : Hid (R = none) := by
                show _ = _
                rw [show R = _ from hR.out, show m - j = (m - (j + 1)) + 1 by omega, Qma h3]; rfl
              clear hR
              refine go_ ?_
              refine Qaa ?_
              refine rT Tryz.results209 ?_
              exact ⟨by rw [hf.out]; simp [splitO, tupP, PV.norm2, PV.norm1, PV.norm0], rfl⟩
          · have hc : ¬ (j : Int) < m := by omega
            have hf : Hid (R = some (l, x)) := by
              show _ = _
              rw [show R = _ from hR.out, show m - j = 0 by omega]
              simp [Qdh, Qhi]
            clear hR
            refine go_ ?_
            refine Qal [(0, .a), (1, .b), (2, .a), (3, .e), (4, .a)] (by kernel_rfl) (by rfl) (by kernel_rfl) ?_
            refine go_ ?_
            refine Qck ?_
            refine go_ ?_
            refine rT Tryz.results209 ?_
            exact ⟨by rw [hf.out]; simp [splitO, tupP, PV.norm2, PV.norm1, PV.norm0], rfl⟩
def fam4R (l : List En) (x : En) (n : Nat) : Bool := match l[n]? with | some d => Qak d.ty && (((Qba d.ty).length : Int) == x.pars + x.fields.length) | none => false
def fam3R (l : List En) (x : En) (i : Nat) : Bool := ((x.fields.length : Int) == 0) || ((x.inds == 0) && (((x.cons.length : Int) == 1) && ((runW x.fields ((i : Int) + 2) 0 && Qbp l i x.fields 4 0) && fam4R l x (i + 1))))
def famR (l : List En) (x : En) (i : Nat) : Bool := fam1 x && (fam2 l x i (Qax x.ty (x.pars + x.inds)) && fam3R l x i)
theorem rfamily_p (l : List En) (i : Nat) (hi : i < l.length) (hl : l.length ≤ 3000000000000000000) (ho : EnOk l[i]) : PCalls Tryz.prog 155 [.d (.sl (l.map encD)), .d (.v (.int .i64 i))] [] fun p s => p = .d (.v (.bool (famR l l[i] i))) ∧ s = [] := by
  obtain ⟨R, hR⟩ : ∃ R, R = famR l l[i] i := ⟨_, rfl⟩
  rw [← hR]
  have hn : (0 : Int) ≤ i := by omega
  have hx3 : l[i]? = some l[i] := List.getElem?_eq_getElem hi
  unfold famR at hR
  generalize l[i] = x at *
  have hN := Hh (rzero_p x.body)
  simp only [aggD, Jl, List.map_cons, List.map_nil] at hN
  have hw1 := wr64 (n := (i : Int) + 1) (by omega) (by omega)
  have hw2 := wr64 (n := (i : Int) + 2) (by omega) (by omega)
  have HO := Hh ho
  have HL := Hh (show i + 1 < 4000000000000000000 by omega)
  have HR := Hh hR
  clear hR hi ho hl
  refine pG Tryz.func155 Tryz.ntmps155 ?_
  refine Je ?_
  intro i0 hi0
  refine go_ ?_
  refine Qaa ?_
  by_cases a1 : 0 ≤ x.pars
  rotate_left
  · have a1b : x.pars < 0 := by omega
    have HF : Hid (R = false) := by show _ = _; rw [show R = _ from HR.out]; unfold fam1; skip; simp [a1]
    clear HR a1
    refine go_ ?_
    refine rT Tryz.results155 ?_
    exact ⟨by rw [HF.out]; rfl, rfl⟩
  have a1c : ¬ x.pars < 0 := by omega
  refine go_ ?_
  by_cases a2 : 0 ≤ x.inds
  rotate_left
  · have a2b : x.inds < 0 := by omega
    have HF : Hid (R = false) := by show _ = _; rw [show R = _ from HR.out]; unfold fam1; skip; simp [a2]
    clear HR a2
    refine go_ ?_
    refine rT Tryz.results155 ?_
    exact ⟨by rw [HF.out]; rfl, rfl⟩
  have a2c : ¬ x.inds < 0 := by omega
  refine go_ ?_
  by_cases a3 : x.pars ≤ 24
  rotate_left
  · have a3b : 24 < x.pars := by omega
    have HF : Hid (R = false) := by show _ = _; rw [show R = _ from HR.out]; unfold fam1; skip; simp [a3]
    clear HR a3
    refine go_ ?_
    refine rT Tryz.results155 ?_
    exact ⟨by rw [HF.out]; rfl, rfl⟩
  have a3c : ¬ 24 < x.pars := by omega
  refine go_ ?_
  by_cases a4 : x.inds ≤ 24
  rotate_left
  · have a4b : 24 < x.inds := by omega
    have HF : Hid (R = false) := by show _ = _; rw [show R = _ from HR.out]; unfold fam1; try rw [decide_eq_false (show ¬ x.inds ≤ 24 - x.pars by omega)]; simp [a4]
    clear HR a4
    refine go_ ?_
    refine rT Tryz.results155 ?_
    exact ⟨by rw [HF.out]; rfl, rfl⟩
  have a4c : ¬ 24 < x.inds := by omega
  refine go_ ?_
  have hw3 := wr64 (n := x.pars + x.inds) (by omega) (by omega)
  refine go_ ?_
  by_cases a8 : x.pars + x.inds ≤ 24
  rotate_left
  · have a8b : 24 < x.pars + x.inds := by omega
    have HF : Hid (R = false) := by show _ = _; rw [show R = _ from HR.out]; unfold fam1; try rw [decide_eq_false (show ¬ x.inds ≤ 24 - x.pars by omega)]; simp [a8]
    clear HR a8
    refine go_ ?_
    refine rT Tryz.results155 ?_
    exact ⟨by rw [HF.out]; rfl, rfl⟩
  have a8c : ¬ 24 < x.pars + x.inds := by omega
  refine go_ ?_
  have a9 : x.inds ≤ 24 - x.pars := by omega
  by_cases a5 : x.of_ = 0
  rotate_left
  · have a5b : (x.of_ != 0) = true := bne_iff_ne.2 a5
    have HF : Hid (R = false) := by show _ = _; rw [show R = _ from HR.out]; unfold fam1; skip; simp [a5]
    clear HR a5
    refine go_ ?_
    refine rT Tryz.results155 ?_
    exact ⟨by rw [HF.out]; rfl, rfl⟩
  have a5c : (x.of_ != 0) = false := by rw [a5]; rfl
  refine go_ ?_
  by_cases a6 : x.place = 0
  rotate_left
  · have a6b : (x.place != 0) = true := bne_iff_ne.2 a6
    have HF : Hid (R = false) := by show _ = _; rw [show R = _ from HR.out]; unfold fam1; skip; simp [a6]
    clear HR a6
    refine go_ ?_
    refine rT Tryz.results155 ?_
    exact ⟨by rw [HF.out]; rfl, rfl⟩
  have a6c : (x.place != 0) = false := by rw [a6]; rfl
  refine go_ ?_
  refine Qad (hN.out) ?_
  clear hN
  by_cases a7 : Qez x.body = true
  rotate_left
  · have a7b : Qez x.body = false := by simpa using a7
    have HF : Hid (R = false) := by show _ = _; rw [show R = _ from HR.out]; unfold fam1; skip; simp [a7]
    clear HR a7
    refine go_ ?_
    refine rT Tryz.results155 ?_
    exact ⟨by rw [HF.out]; rfl, rfl⟩
  have a7c : Qez x.body = Qez x.body := rfl
  refine go_ ?_
  have HR1 : Hid (R = (fam2 l x i (Qax x.ty (x.pars + x.inds)) && fam3R l x i)) := by
    show _ = _
    rw [show R = _ from HR.out]
    unfold fam1
    simp [a1, a2, a3, a9, a5, a6, a7]
  clear HR
  have HB := Hh (And.intro (And.intro a1 a3) (And.intro a2 a9))
  clear a1 a2 a3 a4 a5 a6 a7 a8 a8c
  clear a1c a2c a3c a4c a5c a6c
  have hW := Hh (rSplit_p x.ty (x.pars + x.inds))
  unfold fam2 at HR1
  generalize Qax x.ty (x.pars + x.inds) = W at *
  obtain ⟨sl, sx, se⟩ := W
  simp only at HR1
  unfold Qee at hW
  simp only [aggD, Jl, List.map_cons, List.map_nil] at hW
  refine go_ ?_
  refine Qab (hW.out) ?_
  clear hW
  refine Je ?_
  intro i1 hi1
  try simp only [Ja, Rh, Rg, Jb] at hi1
  refine go_ ?_
  refine Qaa ?_
  by_cases b1 : se = 0
  rotate_left
  · have b1b : (se != 0) = true := bne_iff_ne.2 b1
    have HF : Hid (R = false) := by show _ = _; rw [show R = _ from HR1.out]; skip; skip; simp [b1]
    clear HR1 b1
    refine go_ ?_
    refine rT Tryz.results155 ?_
    exact ⟨by rw [HF.out]; rfl, rfl⟩
  have b1c : (se != 0) = false := by rw [b1]; rfl
  refine go_ ?_
  by_cases b2 : sx.kind = 2
  rotate_left
  · have b2b : (sx.kind != 2) = true := bne_iff_ne.2 b2
    have HF : Hid (R = false) := by show _ = _; rw [show R = _ from HR1.out]; skip; skip; simp [b2]
    clear HR1 b2
    refine go_ ?_
    refine rT Tryz.results155 ?_
    exact ⟨by rw [HF.out]; rfl, rfl⟩
  have b2c : (sx.kind != 2) = false := by rw [b2]; rfl
  refine go_ ?_
  by_cases b3 : sx.num = x.level
  rotate_left
  · have b3b : (sx.num != x.level) = true := bne_iff_ne.2 b3
    have HF : Hid (R = false) := by show _ = _; rw [show R = _ from HR1.out]; skip; skip; simp [b3]
    clear HR1 b3
    refine go_ ?_
    refine rT Tryz.results155 ?_
    exact ⟨by rw [HF.out]; rfl, rfl⟩
  have b3c : (sx.num != x.level) = false := by rw [b3]; simp
  refine go_ ?_
  by_cases b4 : (x.cons.length : Int) ≤ 16
  rotate_left
  · have b4b : 16 < (x.cons.length : Int) := by omega
    have HF : Hid (R = false) := by show _ = _; rw [show R = _ from HR1.out]; skip; skip; simp [b4]
    clear HR1 b4
    refine go_ ?_
    refine rT Tryz.results155 ?_
    exact ⟨by rw [HF.out]; rfl, rfl⟩
  have b4c : ¬ 16 < (x.cons.length : Int) := by omega
  refine go_ ?_
  have hrw := Hh (rrow_p l x.cons ((i : Int) + 1) i 2)
  generalize hRw : (runW x.cons ((i : Int) + 1) 0 && Qbp l i x.cons 2 0) = Rw at *
  have hRw2 := Hh hRw
  clear hRw
  refine Qad (hrw.out) ?_
  clear hrw
  by_cases b5 : Rw = true
  rotate_left
  · have b5b : Rw = false := by simpa using b5
    have HF : Hid (R = false) := by show _ = _; rw [show R = _ from HR1.out]; skip; skip; simp [b5]
    clear HR1 b5
    refine go_ ?_
    refine rT Tryz.results155 ?_
    exact ⟨by rw [HF.out]; rfl, rfl⟩
  have b5c : 0 = 0 := rfl
  refine go_ ?_
  have HR2 : Hid (R = fam3R l x i) := by
    show _ = _
    rw [show R = _ from HR1.out]
    simp only [b1, b2, b3, b4, b5, decide_true, beq_self_eq_true, Bool.true_and]
  clear HR1
  have HC := Hh (fun h => one_con (l := l) h HL.out (Bool.and_eq_true_iff.1 (hRw2.out.trans b5)).1 (Bool.and_eq_true_iff.1 (hRw2.out.trans b5)).2)
  clear b1 b2 b3 b4 b5 b1c b2c b3c b4c b5c HL hRw2
  unfold fam3R at HR2
  by_cases c1 : (x.fields.length : Int) = 0
  · have c1b : ((x.fields.length : Int) == 0) = true := beq_iff_eq.2 c1
    have HF : Hid (R = true) := by show _ = _; rw [show R = _ from HR2.out, c1b]; rfl
    clear c1 HR2 HC
    refine go_ ?_
    refine rT Tryz.results155 ?_
    exact ⟨by rw [HF.out]; rfl, rfl⟩
  have c1b : ((x.fields.length : Int) == 0) = false := beq_eq_false_iff_ne.2 c1
  have HR3 : Hid (R = ((x.inds == 0) && (((x.cons.length : Int) == 1) && ((runW x.fields ((i : Int) + 2) 0 && Qbp l i x.fields 4 0) && fam4R l x (i + 1))))) := by show _ = _; rw [show R = _ from HR2.out, c1b]; rfl
  clear HR2 c1
  refine go_ ?_
  refine Qal [(0, .a), (1, .b), (2, .a), (3, .a), (4, .a), (5, .b), (6, .a), (7, .a), (8, .a), (9, .a), (10, .a), (11, .a), (12, .b), (13, .a), (14, .a), (15, .a), (16, .a), (17, .a), (18, .a), (19, .a), (20, .a), (21, .a), (22, .a), (23, .a), (24, .a), (25, .a), (26, .a), (27, .a), (28, .a), (29, .a), (30, .a), (31, .a), (32, .a), (33, .a), (34, .a), (35, .a), (36, .a), (37, .b), (38, .a), (39, .b), (40, .a), (41, .a), (42, .a), (43, .a), (44, .a)] (by kernel_rfl) (by rfl) (by kernel_rfl) ?_
  refine go_ ?_
  by_cases d1 : x.inds = 0
  rotate_left
  · have d1b : (x.inds == 0) = false := beq_eq_false_iff_ne.2 d1
    have HF : Hid (R = false) := by show _ = _; rw [show R = _ from HR3.out]; skip; skip; simp [d1]
    clear HR3 d1
    refine go_ ?_
    refine rT Tryz.results155 ?_
    exact ⟨by rw [HF.out]; rfl, rfl⟩
  have d1c : (x.inds == 0) = true := by rw [d1]; rfl
  refine go_ ?_
  by_cases d2 : (x.cons.length : Int) = 1
  rotate_left
  · have d2b : ((x.cons.length : Int) == 1) = false := beq_eq_false_iff_ne.2 d2
    have HF : Hid (R = false) := by show _ = _; rw [show R = _ from HR3.out]; skip; skip; simp [d2]
    clear HR3 d2
    refine go_ ?_
    refine rT Tryz.results155 ?_
    exact ⟨by rw [HF.out]; rfl, rfl⟩
  have d2c : ((x.cons.length : Int) == 1) = true := by rw [d2]; rfl
  refine go_ ?_
  have hrw := Hh (rrow_p l x.fields ((i : Int) + 2) i 4)
  generalize (runW x.fields ((i : Int) + 2) 0 && Qbp l i x.fields 4 0) = Rv at *
  refine Qcn (hrw.out) ?_
  refine go_ ?_
  clear hrw
  by_cases d3 : Rv = true
  rotate_left
  · have d3b : Rv = false := by simpa using d3
    have HF : Hid (R = false) := by show _ = _; rw [show R = _ from HR3.out]; skip; skip; simp [d3]
    clear HR3 d3
    refine go_ ?_
    refine rT Tryz.results155 ?_
    exact ⟨by rw [HF.out]; rfl, rfl⟩
  have d3c : 0 = 0 := rfl
  refine go_ ?_
  have hil := HC.out d2
  have hd : l[i + 1]? = some l[i + 1] := List.getElem?_eq_getElem hil
  have HR4 : Hid (R = fam4R l x (i + 1)) := by
    show _ = _
    rw [show R = _ from HR3.out]
    simp [d1, d2, d3]
  clear HR3 HC d1 d2 d1c d2c d3c
  unfold fam4R at HR4
  rw [hd] at HR4
  have hil2 := Hh hil
  generalize l[i + 1] = d at *
  clear hil
  simp only at HR4
  have hV := Hh (Qli d.ty)
  simp only [aggD, Jl, List.map_cons, List.map_nil] at hV
  have hc1 : (0 : Int) ≤ (i : Int) + 1 := by omega
  have hc2 : ((i : Int) + 1).toNat = i + 1 := by omega
  refine go_ ?_
  refine Qcn (hV.out) ?_
  refine go_ ?_
  clear hV
  cases e1 : Qak d.ty with
  | false =>
    have HF : Hid (R = false) := by show _ = _; rw [show R = _ from HR4.out, e1]; rfl
    clear HR4
    refine go_ ?_
    refine rT Tryz.results155 ?_
    exact ⟨by rw [HF.out]; rfl, rfl⟩
  | true =>
  have hg := Qbu e1
  have hT := Hh (rTele_p d.ty hg.1 (by have := hg.2.2; omega))
  simp only [aggD, Jl, List.map_cons, List.map_nil] at hT
  have hw5 := wr64 (n := x.pars + x.fields.length) (by have := HB.out.1; omega) (by have := HB.out.1; have := HO.out.2; omega)
  have HF : Hid (R = (((Qba d.ty).length : Int) == x.pars + x.fields.length)) := by show _ = _; rw [show R = _ from HR4.out, e1]; rfl
  clear HR4 hg
  generalize Qba d.ty = tl at *
  refine go_ ?_
  refine Qcn (hT.out) ?_
  refine go_ ?_
  clear hT
  refine go_ ?_
  refine rT Tryz.results155 ?_
  exact ⟨by rw [HF.out]; rfl, rfl⟩
theorem Qhm : ∀ (m : Nat) (t : Tm), cndT t ≤ m → Qak t = true → (Qba t).length = piN t ∧ Qdh (piN t) t = some (Qba t, benT t) ∧ (∀ n, n ≤ piN t → ∃ y, Qdh n t = some ((Qba t).take n, y)) ∧ (∀ n, piN t < n → Qdh n t = none) ∧ Qak (benT t) = true ∧ ∀ s ∈ Qba t, Qak s = true := by
  intro m
  induction m with
  | zero => intro t h; have := Qiz t; omega
  | succ m ih =>
    intro t h hs
    by_cases hk : t.kind = 3
    · obtain ⟨y, b, rfl, hy, hb⟩ := Qkf (Qbu hs).1 hk
      rw [Qja] at h
      have hp := Qiz y
      have hsp := Qnp hs
      obtain ⟨h1, h2, h3, h4, h5, h6⟩ := ih b (by omega) hsp.2
      rw [(tele_pi 0 y b).1, (tele_pi 0 y b).2, piN_pi]
      refine ⟨by rw [List.length_cons, h1], by rw [Qjb, h2]; rfl, ?_, ?_, h5, ?_⟩
      · intro n hn
        cases n with
        | zero => exact ⟨_, rfl⟩
        | succ n =>
          obtain ⟨z, hz⟩ := h3 n (by omega)
          exact ⟨z, by rw [Qjb, hz]; rfl⟩
      · intro n hn
        cases n with
        | zero => omega
        | succ n => rw [Qjb, h4 n (by omega)]; rfl
      · intro s hm
        cases hm with
        | head => exact hsp.1
        | tail _ hm => exact h6 s hm
    · rw [(tele_no hk).1, (tele_no hk).2, piN_no (fun e => hk e.1)]
      refine ⟨rfl, rfl, ?_, ?_, hs, by simp⟩
      · intro n hn
        obtain rfl : n = 0 := by omega
        exact ⟨t, rfl⟩
      · intro n hn
        cases n with
        | zero => omega
        | succ n => exact Qma hk
theorem whole_in {t : Tm} (hs : Qak t = true) (h : (Qba t).length ≤ 24) : Qbx t = (Qba t, benT t, 0) := by
 obtain ⟨h1, h2, -⟩ := Qhm _ t (Nat.le_refl _) hs
 unfold Qbx
 rw [show min (piN t : Int) 25 = (piN t : Int) by omega, Qlb hs (by omega) (by omega), Int.toNat_natCast, h2]; rfl
theorem Qnr {t : Tm} (hs : Qak t = true) (h : ¬ (Qba t).length ≤ 24) : Qbx t = ([], .mk 0 0 [], 2) := by
 obtain ⟨h1, h2, -⟩ := Qhm _ t (Nat.le_refl _) hs
 unfold Qbx Qax
 rw [show min (piN t : Int) 25 = 25 by omega, if_neg (by rw [hs]; simp), if_pos (by omega)]
theorem whole_bad {t : Tm} (hs : Qak t = false) : Qbx t = ([], .mk 0 0 [], 5) := by
 unfold Qbx Qax
 rw [if_pos (.inl hs)]
theorem split_le {t : Tm} {n : Nat} (hs : Qak t = true) (h24 : n ≤ 24) (h : n ≤ (Qba t).length) : ∃ y, Qax t n = ((Qba t).take n, y, 0) := by
 obtain ⟨h1, h2, h3, -⟩ := Qhm _ t (Nat.le_refl _) hs
 obtain ⟨y, hy⟩ := h3 n (by omega)
 exact ⟨y, by rw [Qlb hs (by omega) (by omega), Int.toNat_natCast, hy]; rfl⟩
theorem split_gt {t : Tm} {n : Nat} (hs : Qak t = true) (h24 : n ≤ 24) (h : (Qba t).length < n) : (Qax t n).2.2 = 6 := by
 obtain ⟨h1, h2, h3, h4, -⟩ := Qhm _ t (Nat.le_refl _) hs
 rw [Qlb hs (by omega) (by omega), Int.toNat_natCast, h4 n (by omega)]; rfl
theorem split_big {t : Tm} {n : Int} (hs : Qak t = true) (h24 : 24 < n) : (Qax t n).2.2 = 2 := by
 unfold Qax
 rw [if_neg (by rw [hs]; simp; omega), if_pos h24]
theorem con_tele {l : List En} {x : En} (hs : Qak x.ty = true) : (((Qbx x.ty).2.2 == 0) && (decide (x.pars ≤ (Qbx x.ty).1.length) && Qbv (Qbx x.ty).2.1 x.of_ x.pars (indsOf l x.of_) (Qbx x.ty).1.length)) =
  (decide (((Qba x.ty).length : Int) ≤ 24) && (decide (x.pars ≤ (Qba x.ty).length) && Qbv (benT x.ty) x.of_ x.pars (indsOf l x.of_) (Qba x.ty).length)) := by
 by_cases h : (Qba x.ty).length ≤ 24
 ·rw [whole_in hs h, decide_eq_true (show ((Qba x.ty).length : Int) ≤ 24 by omega)]; rfl
 ·rw [Qnr hs h, decide_eq_false (show ¬ ((Qba x.ty).length : Int) ≤ 24 by omega)]; rfl
theorem proj_tele {x : En} (hs : Qak x.ty = true) (h0 : 0 ≤ x.pars) : (((Qax x.ty (x.pars + 1)).2.2 == 0) && (match (Qax x.ty (x.pars + 1)).1[x.pars.toNat]? with | some t => Qbv t x.of_ x.pars 0 x.pars | none => false)) =
  (decide (x.pars + 1 ≤ 24) && (decide (x.pars + 1 ≤ (Qba x.ty).length) && (match (Qba x.ty)[x.pars.toNat]? with | some t => Qbv t x.of_ x.pars 0 x.pars | none => false))) := by
 obtain ⟨m, hm⟩ : ∃ m : Nat, x.pars = m := ⟨x.pars.toNat, by omega⟩
 rw [hm, Int.toNat_natCast]
 by_cases h24 : (m : Int) + 1 ≤ 24
 ·rw [decide_eq_true h24]
  by_cases hl : m + 1 ≤ (Qba x.ty).length
  ·obtain ⟨y, hy⟩ := split_le hs (show m + 1 ≤ 24 by omega) hl
   rw [show ((m + 1 : Nat) : Int) = (m : Int) + 1 by omega] at hy
   rw [hy, decide_eq_true (show (m : Int) + 1 ≤ (Qba x.ty).length by omega)]
   simp only [beq_self_eq_true, Bool.true_and]
   rw [List.getElem?_take, if_pos (by omega)]
  ·have := split_gt hs (show m + 1 ≤ 24 by omega) (show (Qba x.ty).length < m + 1 by omega)
   rw [show ((m + 1 : Nat) : Int) = (m : Int) + 1 by omega] at this
   rw [this, decide_eq_false (show ¬ (m : Int) + 1 ≤ (Qba x.ty).length by omega)]; rfl
 ·rw [split_big hs (by omega), decide_eq_false h24]; rfl
def Qhj (l : List En) (x : En) (i : Nat) : Bool := if x.kind = 1 then famR l x i else if x.kind = 3 then defB x i else if x.kind = 2 then conB l x i else if x.kind = 4 then Qip l x i else false
def Qcp (l : List En) (x : En) (i : Nat) : Bool := Qam x.name && (Qct x.ty i && Qhj l x i)
theorem rentry_p (l : List En) (i : Nat) (hi : i < l.length) (hl : l.length ≤ 3000000000000000000) (ho : ∀ e ∈ l, EnOk e) (hf : FamOk l i) : PCalls Tryz.prog 96 [.d (.sl (l.map encD)), .d (.v (.int .i64 i))] [] fun p s => p = .d (.v (.bool (Qcp l l[i] i))) ∧ s = [] := by
 have hF := Hh (rfamily_p l i hi hl (ho _ (List.getElem_mem hi)))
 have hO := Hh (rowned_p l i hi)
 have hR := Hh (Qjv l[i].name)
 have hC := Hh (rclosed_p l[i].ty i)
 have hD := Hh (rclosed_p l[i].body i)
 simp only [aggD, Jl, List.map_cons, List.map_nil] at hC hD
 have hn : (0 : Int) ≤ i := by omega
 have hx3 : l[i]? = some l[i] := List.getElem?_eq_getElem hi
 have HR := Hh (show Qcp l l[i] i = (Qam l[i].name && (Qct l[i].ty i && Qhj l l[i] i)) from rfl)
 have hE := ho _ (List.getElem_mem hi)
 generalize Qcp l l[i] i = R at *
 generalize l[i] = x at *
 have HE := Hh hE
 have hFam := Hh hf
 clear hi hl ho hf hE
 generalize hB : Qam x.name = B at *
 clear hB
 refine pG Tryz.func96 Tryz.ntmps96 ?_
 refine Je ?_
 intro i0 hi0
 refine go_ ?_
 refine Qaa ?_
 refine Qab (hR.out) ?_
 clear hR
 rcases Bool.eq_false_or_eq_true (B) with b1 | b1
 rotate_left
 ·have HF : Hid (R = false) := by show _ = _; rw [show R = _ from HR.out, b1]; rfl
  clear HR
  refine go_ ?_
  refine rT Tryz.results96 ?_
  exact ⟨by rw [HF.out]; rfl, rfl⟩
 have hcs : Qct x.ty i = true → Qak x.ty = true := fun h => by
  unfold Qct Qfi at h
  simp only [Bool.and_eq_true] at h
  exact h.1.1.1
 have HCS := Hh hcs
 clear hcs
 generalize Qct x.ty i = C at *
 refine go_ ?_
 refine Qad (hC.out) ?_
 clear hC
 rcases Bool.eq_false_or_eq_true (C) with b2 | b2
 rotate_left
 ·have HF : Hid (R = false) := by show _ = _; rw [show R = _ from HR.out, b1, b2]; rfl
  clear HR HCS
  refine go_ ?_
  refine rT Tryz.results96 ?_
  exact ⟨by rw [HF.out]; rfl, rfl⟩
 have HR2 : Hid (R = Qhj l x i) := by show _ = _; rw [show R = _ from HR.out, b1, b2]; rfl
 have hs := HCS.out b2
 have HS := Hh hs
 have hT := Hh (rTele_p x.ty (Qbu hs).1 (by have := (Qbu hs).2.2; omega))
 have hBn := Hh (rBeneath_p x.ty (Qbu hs).1)
 simp only [aggD, Jl, List.map_cons, List.map_nil] at hT hBn
 clear HR HCS hs
 refine go_ ?_
 refine Qab (hT.out) ?_
 by_cases k1 : x.kind = 1
 ·have HF : Hid (R = famR l x i) := by show _ = _; rw [show R = _ from HR2.out]; unfold Qhj; rw [if_pos k1]
  have kb : (x.kind == 1) = true := beq_iff_eq.2 k1
  clear HR2 k1
  generalize famR l x i = Q1 at *
  refine go_ ?_
  refine Qab (hF.out) ?_
  refine rT Tryz.results96 ?_
  exact ⟨by rw [HF.out]; rfl, rfl⟩
 have kb1 : (x.kind == 1) = false := beq_eq_false_iff_ne.2 k1
 clear hF
 refine go_ ?_
 by_cases k3 : x.kind = 3
 ·have HD : Hid (R = (Qct x.body i && ((x.of_ == 0) && ((x.place == 0) && ((x.pars == 0) && ((x.inds == 0) && ((x.level == 0) && ((x.cons.length : Int) + x.fields.length == 0)))))))) := by show _ = _; rw [show R = _ from HR2.out]; unfold Qhj; rw [if_neg k1, if_pos k3]; rfl
  have kb : (x.kind == 3) = true := beq_iff_eq.2 k3
  clear HR2 k1 k3
  generalize Qct x.body i = C2 at *
  refine go_ ?_
  refine Qab (hD.out) ?_
  clear hD
  rcases Bool.eq_false_or_eq_true (C2) with c0 | c0
  rotate_left
  ·have HF : Hid (R = false) := by show _ = _; rw [show R = _ from HD.out, c0]; rfl
   clear HD
   refine go_ ?_
   refine rT Tryz.results96 ?_
   exact ⟨by rw [HF.out]; rfl, rfl⟩
  refine go_ ?_
  rcases Bool.eq_false_or_eq_true (x.of_ == 0) with c1 | c1
  rotate_left
  ·have HF : Hid (R = false) := by show _ = _; rw [show R = _ from HD.out, c1]; simp
   clear HD
   refine go_ ?_
   refine rT Tryz.results96 ?_
   exact ⟨by rw [HF.out]; rfl, rfl⟩
  refine go_ ?_
  rcases Bool.eq_false_or_eq_true (x.place == 0) with c2 | c2
  rotate_left
  ·have HF : Hid (R = false) := by show _ = _; rw [show R = _ from HD.out, c2]; simp
   clear HD
   refine go_ ?_
   refine rT Tryz.results96 ?_
   exact ⟨by rw [HF.out]; rfl, rfl⟩
  refine go_ ?_
  rcases Bool.eq_false_or_eq_true (x.pars == 0) with c3 | c3
  rotate_left
  ·have HF : Hid (R = false) := by show _ = _; rw [show R = _ from HD.out, c3]; simp
   clear HD
   refine go_ ?_
   refine rT Tryz.results96 ?_
   exact ⟨by rw [HF.out]; rfl, rfl⟩
  refine go_ ?_
  rcases Bool.eq_false_or_eq_true (x.inds == 0) with c4 | c4
  rotate_left
  ·have HF : Hid (R = false) := by show _ = _; rw [show R = _ from HD.out, c4]; simp
   clear HD
   refine go_ ?_
   refine rT Tryz.results96 ?_
   exact ⟨by rw [HF.out]; rfl, rfl⟩
  refine go_ ?_
  rcases Bool.eq_false_or_eq_true (x.level == 0) with c5 | c5
  rotate_left
  ·have HF : Hid (R = false) := by show _ = _; rw [show R = _ from HD.out, c5]; simp
   clear HD
   refine go_ ?_
   refine rT Tryz.results96 ?_
   exact ⟨by rw [HF.out]; rfl, rfl⟩
  refine go_ ?_
  have HD2 : Hid (R = ((x.cons.length : Int) + x.fields.length == 0)) := by show _ = _; rw [show R = _ from HD.out, c0, c1, c2, c3, c4, c5]; rfl
  clear HD
  by_cases c6 : (x.cons.length : Int) = 0
  rotate_left
  ·have c6b : ((x.cons.length : Int) == 0) = false := beq_eq_false_iff_ne.2 c6
   have HF : Hid (R = false) := by show _ = _; rw [show R = _ from HD2.out]; exact beq_eq_false_iff_ne.2 (by omega)
   clear HD2 c6
   refine go_ ?_
   refine rT Tryz.results96 ?_
   exact ⟨by rw [HF.out]; rfl, rfl⟩
  have c6b : ((x.cons.length : Int) == 0) = true := beq_iff_eq.2 c6
  have HF : Hid (R = ((x.fields.length : Int) == 0)) := by show _ = _; rw [show R = _ from HD2.out, c6, Int.zero_add]
  clear HD2 c6
  refine go_ ?_
  refine rT Tryz.results96 ?_
  exact ⟨by rw [HF.out]; rfl, rfl⟩
 have kb3 : (x.kind == 3) = false := beq_eq_false_iff_ne.2 k3
 clear hD
 by_cases k2 : x.kind = 2
 ·have HD : Hid (R = (Qdu l x i && (decide (((Qba x.ty).length : Int) ≤ 24) && (decide (x.pars ≤ (Qba x.ty).length) && Qbv (benT x.ty) x.of_ x.pars (indsOf l x.of_) (Qba x.ty).length)))) := by show _ = _; rw [show R = _ from HR2.out]; unfold Qhj; rw [if_neg k1, if_neg k3, if_pos k2]; unfold conB; rw [con_tele HS.out]
  have kb : (x.kind == 2) = true := beq_iff_eq.2 k2
  have kn : (x.kind != 2) = false := by rw [k2]; rfl
  clear HR2 k1 k3 k2
  have hgt : Hid ((Qdu l x i) = true → ∃ (q : Nat) (d : En), x.of_ = q ∧ q < i ∧ l[q]? = some d ∧ d.kind = 1 ∧ x.pars = d.pars) := fun h => Qlh h
  generalize Qdu l x i = OB at *
  refine go_ ?_
  refine Qad (hO.out) ?_
  clear hO
  rcases Bool.eq_false_or_eq_true (OB) with c0 | c0
  rotate_left
  ·have HF : Hid (R = false) := by show _ = _; rw [show R = _ from HD.out, c0]; rfl
   clear HD hgt
   refine go_ ?_
   refine rT Tryz.results96 ?_
   exact ⟨by rw [HF.out]; rfl, rfl⟩
  obtain ⟨q, d, hq, hqi, hd, hdk, hpp⟩ := hgt.out c0
  have hB := Hh (hFam.out q d hqi hd hdk)
  have hq0 : (0 : Int) ≤ q := by omega
  rw [c0] at HD
  unfold indsOf at HD
  rw [hq, Int.toNat_natCast, hd] at HD
  simp only [Bool.true_and] at HD
  have hlen := tele_len x.ty
  have hsb : Qak (benT x.ty) = true := (Qhm _ x.ty (Nat.le_refl _) HS.out).2.2.2.2.1
  have hcb := (Qbu HS.out).2.2
  have HL := Hh (show (Qba x.ty).length ≤ 8192 by omega)
  have hP := Hh hpp
  have HSB := Hh hsb
  clear hgt hpp hdk hqi hlen hsb hcb hT
  generalize benT x.ty = sx at *
  generalize Qba x.ty = sl at *
  by_cases c1 : (sl.length : Int) ≤ 24
  rotate_left
  ·have HF : Hid (R = false) := by show _ = _; rw [show R = _ from HD.out, decide_eq_false c1]; rfl
   clear HD hBn
   refine go_ ?_
   refine Qal [(0, .a), (1, .a), (2, .a), (3, .a), (4, .a), (5, .b), (6, .a), (7, .a), (8, .a), (9, .a), (10, .b), (11, .a), (12, .a), (13, .b), (14, .a), (15, .b), (16, .a), (17, .a), (18, .b), (19, .a), (20, .a), (21, .a), (22, .a), (23, .a), (24, .a), (25, .a)] (by kernel_rfl) (by rfl) (by kernel_rfl) ?_
   refine go_ ?_
   refine rT Tryz.results96 ?_
   exact ⟨by rw [HF.out]; rfl, rfl⟩
  by_cases c2 : x.pars ≤ (sl.length : Int)
  rotate_left
  ·have HF : Hid (R = false) := by show _ = _; rw [show R = _ from HD.out, decide_eq_false c2]; simp
   clear HD hBn
   refine go_ ?_
   refine Qal [(0, .a), (1, .a), (2, .a), (3, .a), (4, .a), (5, .b), (6, .a), (7, .a), (8, .a), (9, .a), (10, .b), (11, .a), (12, .a), (13, .b), (14, .a), (15, .b), (16, .a), (17, .a), (18, .b), (19, .a), (20, .a), (21, .a), (22, .a), (23, .a), (24, .a), (25, .a)] (by kernel_rfl) (by rfl) (by kernel_rfl) ?_
   refine go_ ?_
   refine rT Tryz.results96 ?_
   exact ⟨by rw [HF.out]; rfl, rfl⟩
  have hA := Hh (rapplied_p sx q x.pars d.inds sl.length HSB.out (by rw [hP.out]; exact hB.out.1.1) (by rw [hP.out]; exact hB.out.1.2) hB.out.2.1 hB.out.2.2 (by omega) (by omega))
  simp only [aggD, Jl, List.map_cons, List.map_nil] at hA
  have HF : Hid (R = Qbv sx q x.pars d.inds sl.length) := by
   show _ = _
   rw [show R = _ from HD.out, decide_eq_true c1, decide_eq_true c2]; rfl
  clear HD HSB HL hB hP
  generalize Qbv sx q x.pars d.inds sl.length = A at *
  refine go_ ?_
  refine Qal [(0, .a), (1, .a), (2, .a), (3, .a), (4, .a), (5, .b), (6, .a), (7, .a), (8, .a), (9, .a), (10, .b), (11, .a), (12, .a), (13, .b), (14, .a), (15, .b), (16, .a), (17, .a), (18, .b), (19, .a), (20, .a), (21, .a), (22, .a), (23, .a), (24, .a), (25, .a)] (by kernel_rfl) (by rfl) (by kernel_rfl) ?_
  refine go_ ?_
  refine Qcn (hBn.out) ?_
  refine go_ ?_
  refine Qcn (hA.out) ?_
  refine go_ ?_
  refine rT Tryz.results96 ?_
  exact ⟨by rw [HF.out]; rfl, rfl⟩
 have kb2 : (x.kind == 2) = false := beq_eq_false_iff_ne.2 k2
 have kn2 : (x.kind != 2) = true := bne_iff_ne.2 k2
 by_cases k4 : x.kind = 4
 rotate_left
 ·have kn4 : (x.kind != 4) = true := bne_iff_ne.2 k4
  have HF : Hid (R = false) := by show _ = _; rw [show R = _ from HR2.out]; unfold Qhj; rw [if_neg k1, if_neg k3, if_neg k2, if_neg k4]
  clear HR2 k1 k3 k2 k4
  refine go_ ?_
  refine rT Tryz.results96 ?_
  exact ⟨by rw [HF.out]; rfl, rfl⟩
 have kn4 : (x.kind != 4) = false := by rw [k4]; rfl
 have HD : Hid (R = Qip l x i) := by show _ = _; rw [show R = _ from HR2.out]; unfold Qhj; rw [if_neg k1, if_neg k3, if_neg k2, if_pos k4]
 clear HR2 k1 k3 k2 k4
 have hgt : Hid ((Qdu l x i) = true → ∃ (q : Nat) (d : En), x.of_ = q ∧ q < i ∧ l[q]? = some d ∧ d.kind = 1 ∧ x.pars = d.pars) := fun h => Qlh h
 have HD1 := Hh (show Qip l x i = (Qdu l x i && (((Qax x.ty (x.pars + 1)).2.2 == 0) && (match (Qax x.ty (x.pars + 1)).1[x.pars.toNat]? with | some t => Qbv t x.of_ x.pars 0 x.pars | none => false))) from rfl)
 generalize Qdu l x i = OB at *
 refine go_ ?_
 refine Qad (hO.out) ?_
 clear hO
 rcases Bool.eq_false_or_eq_true (OB) with c0 | c0
 rotate_left
 ·have HF : Hid (R = false) := by show _ = _; rw [show R = _ from HD.out, show Qip l x i = _ from HD1.out, c0]; rfl
  clear HD hgt HD1
  refine go_ ?_
  refine rT Tryz.results96 ?_
  exact ⟨by rw [HF.out]; rfl, rfl⟩
 obtain ⟨q, d, hq, hqi, hd, hdk, hpp⟩ := hgt.out c0
 have hB := hFam.out q d hqi hd hdk
 obtain ⟨m, hm⟩ : ∃ m : Nat, x.pars = m := ⟨x.pars.toNat, by omega⟩
 have hm24 : Hid ((m : Int) ≤ 24) := by show (m : Int) ≤ 24; omega
 have hm0 : (0 : Int) ≤ m := by omega
 have hws := wr64 (n := (m : Int) + 1) (by omega) (by omega)
 have HD2 : Hid (R = (decide ((m : Int) + 1 ≤ 24) && (decide ((m : Int) + 1 ≤ (Qba x.ty).length) && (match (Qba x.ty)[m]? with | some t => Qbv t q m 0 m | none => false)))) := by
  have e := proj_tele (x := x) HS.out (by omega)
  show R = _
  rw [show R = Qip l x i from HD.out]
  refine Eq.trans HD1.out ?_
  rw [c0, Bool.true_and]
  refine Eq.trans e ?_
  rw [hm, hq, Int.toNat_natCast] <;> rfl
 have hcb := (Qbu HS.out).2.2
 have hlen := tele_len x.ty
 have HSL := Hh (Qhm _ x.ty (Nat.le_refl _) HS.out).2.2.2.2.2
 clear HD HD1 hgt hpp hdk hqi hB hBn hcb hlen
 generalize Qba x.ty = sl at *
 by_cases c1 : (m : Int) + 1 ≤ 24
 rotate_left
 ·have HF : Hid (R = false) := by show _ = _; rw [show R = _ from HD2.out, decide_eq_false c1]; rfl
  clear HD2
  refine go_ ?_
  refine Qal [(0, .a), (1, .b), (2, .a), (3, .a), (4, .a), (5, .a), (6, .a), (7, .b), (8, .a), (9, .a), (10, .a), (11, .a), (12, .a), (13, .b), (14, .a), (15, .a), (16, .b), (17, .a), (18, .a), (19, .a), (20, .b), (21, .a), (22, .b), (23, .a), (24, .b), (25, .a), (26, .a), (27, .a)] (by kernel_rfl) (by rfl) (by kernel_rfl) ?_
  refine go_ ?_
  refine rT Tryz.results96 ?_
  exact ⟨by rw [HF.out]; rfl, rfl⟩
 by_cases c2 : (m : Int) + 1 ≤ (sl.length : Int)
 rotate_left
 ·have HF : Hid (R = false) := by show _ = _; rw [show R = _ from HD2.out, decide_eq_false c2]; simp
  clear HD2
  refine go_ ?_
  refine Qal [(0, .a), (1, .b), (2, .a), (3, .a), (4, .a), (5, .a), (6, .a), (7, .b), (8, .a), (9, .a), (10, .a), (11, .a), (12, .a), (13, .b), (14, .a), (15, .a), (16, .b), (17, .a), (18, .a), (19, .a), (20, .b), (21, .a), (22, .b), (23, .a), (24, .b), (25, .a), (26, .a), (27, .a)] (by kernel_rfl) (by rfl) (by kernel_rfl) ?_
  refine go_ ?_
  refine rT Tryz.results96 ?_
  exact ⟨by rw [HF.out]; rfl, rfl⟩
 have hml : m < sl.length := by omega
 have hy : sl[m]? = some sl[m] := List.getElem?_eq_getElem hml
 have hsy := Hh (HSL.out _ (List.getElem_mem hml))
 have hm1 : (m : Int) < sl.length := by omega
 rw [hy] at HD2
 generalize sl[m] = y at *
 clear hml HSL
 have hA := Hh (rapplied_p y q m 0 m hsy.out hm0 hm24.out (by omega) (by omega) hm0 (by have := hm24.out; omega))
 simp only [aggD, Jl, List.map_cons, List.map_nil] at hA
 have HF : Hid (R = Qbv y q m 0 m) := by
  show _ = _
  rw [show R = _ from HD2.out, decide_eq_true c1, decide_eq_true c2]; rfl
 clear HD2 hsy hm24
 generalize Qbv y q m 0 m = A at *
 refine go_ ?_
 refine Qal [(0, .a), (1, .b), (2, .a), (3, .a), (4, .a), (5, .a), (6, .a), (7, .b), (8, .a), (9, .a), (10, .a), (11, .a), (12, .a), (13, .b), (14, .a), (15, .a), (16, .b), (17, .a), (18, .a), (19, .a), (20, .b), (21, .a), (22, .b), (23, .a), (24, .b), (25, .a), (26, .a), (27, .a)] (by kernel_rfl) (by rfl) (by kernel_rfl) ?_
 refine go_ ?_
 refine Qcn (hT.out) ?_
 refine go_ ?_
 refine Qcn (hA.out) ?_
 refine go_ ?_
 refine rT Tryz.results96 ?_
 exact ⟨by rw [HF.out]; rfl, rfl⟩
def nms (l : List En) : List ByteArray := l.map En.name
theorem nms_len (l : List En) : (nms l).length = l.length := List.length_map _
theorem nms_take {l : List En} {j : Nat} (h : j < l.length) : (nms l).take (j + 1) = (nms l).take j ++ [l[j].name] := by
 rw [List.take_succ_eq_append_getElem (by rw [nms_len]; exact h)]
 unfold nms
 rw [List.getElem_map]
theorem Qel (l : List ByteArray) : ∀ row ∈ l.map encD, row.length = 1 := Qki rfl
theorem snames_p (l : List En) (hl : l.length ≤ 100000) : PCalls Tryz.prog 129 [.d (.sl (l.map encD))] [] fun p s => p = .d (.sl ((nms l).map encD)) ∧ s = [] := by
 refine pG Tryz.func129 Tryz.ntmps129 ?_
 refine PW_own 3 9 1 (by decide) (by simp [PF.get] <;> rfl) fun g hg => ?_
 refine Qai (ι := List ByteArray × Nat) (fun y => y.2 ≤ l.length ∧ Hid (y.1 = (nms l).take y.2)) (fun y => [(3, .own g (y.1.map encD)), (6, .d (.sl (l.map encD))), (7, .d (.v (.int .i64 l.length))), (8, .d (.v (.int .i64 (y.2 : Int))))]) (fun y => [.tok g 9 1 y.1.length]) (fun y => l.length - y.2) ([], 0) ⟨Nat.zero_le _, rfl⟩ ?_ ?_ ?_
 ·exact sU
 ·exact dR
 ·rintro ⟨m, j⟩ ⟨hj, hm⟩
  simp only at hj hm ⊢
  by_cases hlt : j < l.length
  ·have hx := Qaq hlt
   have hc : (j : Int) < l.length := by omega
   have hn : (0 : Int) ≤ j := by omega
   have hin := wr64 (n := (j : Int) + 1) (by omega) (by omega)
   have hM : Hid (m ++ [l[j].name] = (nms l).take (j + 1)) := by show _ = _; rw [nms_take hlt, show m = _ from hm.out]
   have hml : m.length ≤ 100000 := by rw [show m = _ from hm.out, List.length_take]; omega
   clear hm
   refine go_ ?_
   refine Je ?_
   intro i2 hi2
   try simp only [Ja, Rh, Rg, Jb] at hi2
   refine go_ ?_
   refine Qaa ?_
   refine Qao ?_
   refine Qap (m.length + 1) ?_ ?_ ?_ ?_
   ·simp
   ·exact Qel _
   ·exact Qbt rfl
   refine go_ ?_
   refine ⟨(m ++ [l[j].name], j + 1), ⟨hlt, hM⟩, by simp only; omega, ?_, ?_⟩
   ·repeat (first | exact Jt _ | refine Js (by simp [PF.get]; rfl) (by first | rfl | (simp [Jg]; done) | fail) ?_)
   ·simp only [List.length_append, List.length_singleton]
    exact dR
  ·have hc : ¬ (j : Int) < l.length := by omega
   have hf : Hid (m = nms l) := by show _ = _; rw [show m = _ from hm.out, List.take_of_length_le (by rw [nms_len]; omega)]
   clear hm
   refine go_ ?_
   refine rT Tryz.results129 ?_
   exact ⟨by rw [hf.out]; rfl, rfl⟩
theorem rnames_p (l : List En) (hl : l.length ≤ 100000) : PCalls Tryz.prog 95 [.d (.sl (l.map encD))] [] fun p s => p = .d (.sl ((nms l).map encD)) ∧ s = [] := by
 refine pG Tryz.func95 Tryz.ntmps95 ?_
 refine Qdi ?_ (by decide) eD (by simp; rfl) (by rfl) (by simp; rfl) (by rfl) (by decide)
 intro g hg
 refine go_ ?_
 refine Qai (ι := List ByteArray × Nat) (fun y => y.2 ≤ l.length ∧ Hid (y.1 = (nms l).take y.2)) (fun y => [(0, .d (.sl (l.map encD))), (3, .own g (y.1.map encD)), (4, .d (.v (.int .i64 (y.2 : Int))))]) (fun y => [.tok g 9 1 y.1.length]) (fun y => l.length - y.2) ([], 0) ⟨Nat.zero_le _, rfl⟩ ?_ ?_ ?_
 ·exact sU
 ·exact dR
 ·rintro ⟨m, j⟩ ⟨hj, hm⟩
  simp only at hj hm ⊢
  by_cases hlt : j < l.length
  ·have hx := Qaq hlt
   have hc : (j : Int) < l.length := by omega
   have hn : (0 : Int) ≤ j := by omega
   have hin := wr64 (n := (j : Int) + 1) (by omega) (by omega)
   have hM : Hid (m ++ [l[j].name] = (nms l).take (j + 1)) := by show _ = _; rw [nms_take hlt, show m = _ from hm.out]
   have hml : m.length ≤ 100000 := by rw [show m = _ from hm.out, List.length_take]; omega
   clear hm
   refine go_ ?_
   refine Qao ?_
   refine Qap (m.length + 1) ?_ ?_ ?_ ?_
   ·simp
   ·exact Qel _
   ·exact Qbt rfl
   refine go_ ?_
   refine ⟨(m ++ [l[j].name], j + 1), ⟨hlt, hM⟩, by simp only; omega, ?_, ?_⟩
   ·repeat (first | exact Jt _ | refine Js (by simp [PF.get]; rfl) (by first | rfl | (simp [Jg]; done) | fail) ?_)
   ·simp only [List.length_append, List.length_singleton]
    exact dR
  ·have hc : ¬ (j : Int) < l.length := by omega
   have hf : Hid (m = nms l) := by show _ = _; rw [show m = _ from hm.out, List.take_of_length_le (by rw [nms_len]; omega)]
   clear hm
   refine go_ ?_
   refine rT Tryz.results95 ?_
   exact ⟨by rw [hf.out]; rfl, rfl⟩
theorem slc_str {K : Kp} {w : World} {l : List ByteArray} {v : Value} (h : RelV K w (.d (.sl (l.map encD))) v) : Slc w v (l.map Value.string) ∧ ∀ x ∈ l, x.size ≤ maxLen := by
  cases h with
  | d h =>
    generalize hr : l.map encD = rows at h
    cases h with
    | @nil a cap hm =>
      have hl : l = [] := by cases l with | nil => rfl | cons x r => cases hr
      subst hl
      exact ⟨⟨a, cap, rfl, Nat.zero_le _, fun h => absurd rfl h⟩, by simp⟩
    | @sl sz _ b off cap vals h1 h2 h3 h4 h5 =>
      have hlen : rows.length = l.length := by rw [← hr, List.length_map]
      have hsz : 0 < l.length → sz = 1 := fun h0 => by
        rw [← h3 (encD l[0]) (by rw [← hr]; exact List.mem_map.2 ⟨_, List.getElem_mem h0, rfl⟩)]; rfl
      have hat : ∀ (i : Nat) (hi : i < l.length), w.cell? ⟨b, off + i, none⟩ = some (.string l[i]) ∧ l[i].size ≤ maxLen := by
        intro i hi
        have hri : rows[i]? = some [D.v (.string l[i])] := by rw [← hr, List.getElem?_map, List.getElem?_eq_getElem hi]; rfl
        have e1 := h4 i 0 _ _ hri rfl
        have e2 := h5 i 0 _ _ hri rfl
        rw [hsz (by omega), Nat.mul_one, Nat.add_zero] at e1
        generalize hu : vals i 0 = u at e1 e2
        cases e2 with
        | v h => exact ⟨e1.2, h⟩
      refine ⟨⟨some ⟨b, off, none⟩, cap, by rw [List.length_map, hlen], by rw [List.length_map]; omega, fun hne => ⟨b, off, rfl, fun j hj => ?_⟩⟩, fun x hx => ?_⟩
      · rw [List.length_map] at hj
        rw [(hat j hj).1, List.getElem?_map, List.getElem?_eq_getElem hj]; rfl
      · obtain ⟨i, hi, rfl⟩ := List.getElem_of_mem hx
        exact (hat i hi).2
noncomputable def distB (l : List ByteArray) : Bool := @decide (DistN l l.length) (Classical.propDecidable _)
theorem dist_iff (l : List ByteArray) : distB l = true ↔ DistN l l.length := @decide_eq_true_iff _ (Classical.propDecidable _)
theorem dist_ret {l : List ByteArray} {b : Bool} (h : b = true ↔ DistN l l.length) : b = distB l := by
 rw [Bool.eq_iff_iff, h, dist_iff]
theorem sdistinct_p (l : List ByteArray) (hl : l.length ≤ 8192) : PCalls Tryz.prog 128 [.d (.sl (l.map encD))] [] fun p s => p = .d (.v (.bool (distB l))) ∧ s = [] := by
 refine PCalls.flat trivial fun K w vs ha => ?_
 obtain ⟨v, rfl, hv⟩ := ha.one
 obtain ⟨h1, h2⟩ := slc_str hv
 refine (distinct_any l v w h1 h2 hl).mono ?_
 rintro e w' ⟨⟨b, rfl, hb⟩, hbe⟩
 exact ⟨by rw [dist_ret hb], hbe⟩
theorem rdistinct_p (l : List ByteArray) : PCalls Tryz.prog 94 [.d (.sl (l.map encD))] [] fun p s => p = .d (.v (.bool (distB l))) ∧ s = [] := by
 refine PCalls.flat trivial fun K w vs ha => ?_
 obtain ⟨v, rfl, hv⟩ := ha.one
 obtain ⟨h1, h2⟩ := slc_str hv
 refine (rdistinct_any l v w h1).mono ?_
 rintro e w' ⟨⟨b, rfl, hb⟩, rfl⟩
 exact ⟨by rw [dist_ret hb], Below.refl _ _⟩
def allP (p : En → Nat → Bool) : List En → Nat → Bool
 | [], _ => true
 | x :: r, i => p x i && allP p r (i + 1)
theorem allP_iff (p : En → Nat → Bool) : ∀ (r : List En) (i : Nat), allP p r i = true ↔ ∀ (j : Nat) (x : En), r[j]? = some x → p x (i + j) = true := by
  intro r
  induction r with
  | nil => intro i; simp [allP]
  | cons y r ih =>
    intro i
    simp only [allP, Bool.and_eq_true, ih]
    constructor
    · rintro ⟨h1, h2⟩ j x hx
      cases j with
      | zero => cases hx; exact h1
      | succ j => rw [show i + (j + 1) = i + 1 + j by omega]; exact h2 j x (by simpa using hx)
    · intro h
      exact ⟨h 0 y rfl, fun j x hx => by rw [show i + 1 + j = i + (j + 1) by omega]; exact h (j + 1) x (by simpa using hx)⟩
noncomputable def formedB (l : List En) : Bool := decide ((l.length : Int) ≤ 256) && (distB (nms l) && allP (Qdd l) l 0)
noncomputable def formedR (l : List En) : Bool := decide ((l.length : Int) ≤ 256) && (distB (nms l) && allP (Qcp l) l 0)
theorem fam3_R {l : List En} {x : En} {i : Nat} (h : fam3 l x i = true) : fam3R l x i = true := by
  unfold fam3 at h
  unfold fam3R
  rw [Bool.or_eq_true] at h ⊢
  rcases h with h | h
  · exact .inl h
  · refine .inr ?_
    simp only [Bool.and_eq_true] at h ⊢
    obtain ⟨h1, h2, h3, h4, h5⟩ := h
    refine ⟨h1, h2, ⟨h3, h4⟩, ?_⟩
    unfold fam4 at h5
    unfold fam4R
    cases hd : l[i + 1]? with
    | none => rw [hd] at h5; cases h5
    | some d =>
      rw [hd] at h5
      simp only [Bool.and_eq_true] at h5 ⊢
      obtain ⟨h6, h7⟩ := h5
      have hs : Qak d.ty = true := by
        cases hs : Qak d.ty with
        | true => rfl
        | false => rw [whole_bad hs] at h6; cases h6
      refine ⟨hs, ?_⟩
      by_cases hl : (Qba d.ty).length ≤ 24
      · rw [whole_in hs hl] at h7; exact h7
      · rw [Qnr hs hl] at h6; cases h6
theorem fam3_B {l : List En} {x : En} {i : Nat} (h : fam3R l x i = true) (hc : ∀ d, l[i + 1]? = some d → (Qbx d.ty).2.2 = 0) : fam3 l x i = true := by
  unfold fam3R at h
  unfold fam3
  rw [Bool.or_eq_true] at h ⊢
  rcases h with h | h
  · exact .inl h
  · refine .inr ?_
    simp only [Bool.and_eq_true] at h ⊢
    obtain ⟨h1, h2, ⟨h3, h4⟩, h5⟩ := h
    refine ⟨h1, h2, h3, h4, ?_⟩
    unfold fam4R at h5
    unfold fam4
    cases hd : l[i + 1]? with
    | none => rw [hd] at h5; cases h5
    | some d =>
      rw [hd] at h5
      simp only [Bool.and_eq_true] at h5 ⊢
      obtain ⟨hs, h7⟩ := h5
      have h6 := hc d hd
      refine ⟨beq_iff_eq.2 h6, ?_⟩
      by_cases hl : (Qba d.ty).length ≤ 24
      · rw [whole_in hs hl]; exact h7
      · rw [Qnr hs hl] at h6; simp at h6
theorem con_whole {l : List En} {x : En} {i : Int} (h : conB l x i = true) : (Qbx x.ty).2.2 = 0 := by
 unfold conB at h
 simp only [Bool.and_eq_true] at h
 exact beq_iff_eq.1 h.2.1
theorem run_at : ∀ (c : List Int) (f : Int) (k : Nat), runW c f k = true → ∀ (j : Nat) (n : Int), c[j]? = some n → n = IntKind.i64.wrap (f + ((k + j : Nat) : Int)) := by
  intro c
  induction c with
  | nil => intro f k _ j n h; simp at h
  | cons y c ih =>
    intro f k h j n hn
    simp only [runW, Bool.and_eq_true] at h
    cases j with
    | zero => cases hn; exact beq_iff_eq.1 h.1
    | succ j =>
      have := ih f (k + 1) h.2 j n (by simpa using hn)
      rw [this, show k + 1 + j = k + (j + 1) by omega]
theorem mem_at {l : List En} {of_ k : Int} : ∀ (c : List Int) (i : Nat), Qbp l of_ c k i = true → ∀ (j : Nat) (n : Int), c[j]? = some n → memE l of_ n k (i + j) = true := by
  intro c
  induction c with
  | nil => intro i _ j n h; simp at h
  | cons y c ih =>
    intro i h j n hn
    simp only [Qbp, Bool.and_eq_true] at h
    cases j with
    | zero => cases hn; exact h.1
    | succ j =>
      have := ih (i + 1) h.2 j n (by simpa using hn)
      rw [show i + (j + 1) = i + 1 + j by omega]; exact this
theorem memE_get {l : List En} {of_ n k : Int} {i : Nat} (h : memE l of_ n k i = true) : ∃ (m : Nat) (d : En), n = m ∧ l[m]? = some d ∧ d.kind = k ∧ d.of_ = of_ ∧ d.place = i := by
 unfold memE at h
 rw [Bool.and_eq_true] at h
 obtain ⟨m, rfl, hm, hk⟩ := Qjf h.1
 have h2 := h.2
 rw [Int.toNat_natCast, List.getElem?_eq_getElem hm] at h2
 simp only [Bool.and_eq_true, beq_iff_eq] at h2
 exact ⟨m, l[m], rfl, List.getElem?_eq_getElem hm, hk, h2.1, h2.2⟩
theorem kind_con {l : List En} {d : En} {i : Nat} (hk : d.kind = 2) : kindB l d i = conB l d i ∧ Qhj l d i = conB l d i := by
 unfold kindB Qhj
 rw [hk]; simp
theorem fam_con {l : List En} {x : En} {i : Nat} (hi : i < 4000000000000000000) (h : famR l x i = true) (hf : (x.fields.length : Int) ≠ 0) : ∃ d, l[i + 1]? = some d ∧ d.kind = 2 := by
  unfold famR fam2 fam3R at h
  simp only [Bool.and_eq_true, Bool.or_eq_true] at h
  obtain ⟨-, ⟨-, -, -, -, hr, hm⟩, h3⟩ := h
  rcases h3 with h3 | ⟨-, h4, -⟩
  · exact absurd (beq_iff_eq.1 h3) hf
  · have h5 : x.cons.length = 1 := by have := beq_iff_eq.1 h4; omega
    match hc : x.cons, h5 with
    | [n], _ =>
      rw [hc] at hr hm
      have h6 := run_at _ _ _ hr 0 n rfl
      obtain ⟨m, d, h7, h8, h9, -, -⟩ := memE_get (mem_at _ _ hm 0 n rfl)
      rw [wr64 (by omega) (by omega)] at h6
      have : m = i + 1 := by omega
      exact ⟨d, by rw [← this]; exact h8, h9⟩
theorem famB_R {l : List En} {x : En} {i : Nat} (h : famB l x i = true) : famR l x i = true := by
 unfold famB at h
 unfold famR
 simp only [Bool.and_eq_true] at h ⊢
 exact ⟨h.1, h.2.1, fam3_R h.2.2⟩
theorem entryB_R {l : List En} {x : En} {i : Nat} (h : Qdd l x i = true) : Qcp l x i = true := by
 unfold Qdd at h
 unfold Qcp
 simp only [Bool.and_eq_true] at h ⊢
 refine ⟨h.1, h.2.1, ?_⟩
 have h3 := h.2.2
 unfold kindB at h3
 unfold Qhj
 by_cases k1 : x.kind = 1
 ·rw [if_pos k1] at h3 ⊢; exact famB_R h3
 rw [if_neg k1] at h3 ⊢
 by_cases k2 : x.kind = 2
 ·rw [if_pos k2] at h3; rw [if_neg (by omega), if_pos k2]; exact h3
 rw [if_neg k2] at h3
 by_cases k4 : x.kind = 4
 ·rw [if_pos k4] at h3; rw [if_neg (by omega), if_neg k2, if_pos k4]; exact h3
 rw [if_neg k4] at h3
 by_cases k3 : x.kind = 3
 ·rw [if_pos k3] at h3 ⊢; exact h3
 rw [if_neg k3] at h3; cases h3
theorem entryR_B {l : List En} {x : En} {i : Nat} (hi : i < 4000000000000000000) (h : Qcp l x i = true) (hn : ∀ d, l[i + 1]? = some d → Qcp l d (i + 1) = true) : Qdd l x i = true := by
 unfold Qcp at h
 unfold Qdd
 simp only [Bool.and_eq_true] at h ⊢
 refine ⟨h.1, h.2.1, ?_⟩
 have h3 := h.2.2
 unfold Qhj at h3
 unfold kindB
 by_cases k1 : x.kind = 1
 ·rw [if_pos k1] at h3 ⊢
  unfold famB
  have h4 := h3
  unfold famR at h4
  simp only [Bool.and_eq_true] at h4 ⊢
  refine ⟨h4.1, h4.2.1, ?_⟩
  by_cases hf : (x.fields.length : Int) = 0
  ·unfold fam3; rw [hf]; rfl
  ·obtain ⟨d, hd, hk⟩ := fam_con hi h3 hf
   have h5 := hn d hd
   unfold Qcp at h5
   simp only [Bool.and_eq_true] at h5
   have h6 := h5.2.2
   rw [(kind_con hk).2] at h6
   refine fam3_B h4.2.2 fun d' hd' => ?_
   rw [hd] at hd'
   cases hd'
   exact con_whole h6
 rw [if_neg k1] at h3 ⊢
 by_cases k3 : x.kind = 3
 ·rw [if_pos k3] at h3; rw [if_neg (by omega), if_neg (by omega), if_pos k3]; exact h3
 rw [if_neg k3] at h3
 by_cases k2 : x.kind = 2
 ·rw [if_pos k2] at h3 ⊢; exact h3
 rw [if_neg k2] at h3 ⊢
 by_cases k4 : x.kind = 4
 ·rw [if_pos k4] at h3 ⊢; exact h3
 rw [if_neg k4] at h3; cases h3
theorem formed_eq (l : List En) : formedB l = formedR l := by
 unfold formedB formedR
 by_cases hl : (l.length : Int) ≤ 256
 ·have : allP (Qdd l) l 0 = allP (Qcp l) l 0 := by
   rw [Bool.eq_iff_iff, allP_iff, allP_iff]
   constructor
   ·intro h j x hx; exact entryB_R (h j x hx)
   ·intro h j x hx
    have hj := (List.getElem?_eq_some_iff.1 hx).1
    exact entryR_B (by omega) (h j x hx) fun d hd => by have := h (0 + j + 1) d hd; rw [Nat.zero_add] at this; exact this
  rw [this]
 ·rw [decide_eq_false hl]; rfl
theorem fam_ok {l : List En} {i : Nat} (h : ∀ (j : Nat) (x : En), j < i → l[j]? = some x → Qdd l x j = true) : FamOk l i := by
 intro q d hq hd hk
 have h1 := h q d hq hd
 unfold Qdd kindB at h1
 rw [if_pos hk] at h1
 simp only [Bool.and_eq_true] at h1
 have h2 := h1.2.2
 unfold famB fam1 at h2
 simp only [Bool.and_eq_true, decide_eq_true_eq] at h2
 obtain ⟨⟨a, b, c, e, -⟩, -⟩ := h2
 omega
theorem fam_okR {l : List En} {i : Nat} (h : ∀ (j : Nat) (x : En), j < i → l[j]? = some x → Qcp l x j = true) : FamOk l i := by
 intro q d hq hd hk
 have h1 := h q d hq hd
 unfold Qcp Qhj at h1
 rw [if_pos hk] at h1
 simp only [Bool.and_eq_true] at h1
 have h2 := h1.2.2
 unfold famR fam1 at h2
 simp only [Bool.and_eq_true, decide_eq_true_eq] at h2
 obtain ⟨⟨a, b, c, e, -⟩, -⟩ := h2
 omega
theorem sformed_p (l : List En) (ho : ∀ e ∈ l, EnOk e) : PCalls Tryz.prog 80 [.d (.sl (l.map encD))] [] fun p s => p = .d (.v (.bool (formedB l))) ∧ s = [] := by
 obtain ⟨R, hR⟩ : ∃ R, R = formedB l := ⟨_, rfl⟩
 rw [← hR]
 unfold formedB at hR
 have HR0 := Hh hR
 clear hR
 by_cases hl : (l.length : Int) ≤ 256
 rotate_left
 ·have hf : Hid (R = false) := by show _ = _; rw [show R = _ from HR0.out, decide_eq_false hl]; rfl
  have h256 : (256 : Int) < l.length := by omega
  clear HR0 ho
  refine pG Tryz.func80 Tryz.ntmps80 ?_
  refine rT Tryz.results80 ?_
  exact ⟨by rw [hf.out]; rfl, rfl⟩
 have HR : Hid (R = (distB (nms l) && allP (Qdd l) (l.drop 0) 0)) := by show _ = _; rw [show R = _ from HR0.out, decide_eq_true hl]; rfl
 have h256 : ¬ (256 : Int) < l.length := by omega
 have hN := Hh (snames_p l (by omega))
 have hD := Hh (sdistinct_p (nms l) (by rw [nms_len]; omega))
 have HO := Hh ho
 clear HR0 ho
 generalize distB (nms l) = db at *
 generalize nms l = ns at *
 refine pG Tryz.func80 Tryz.ntmps80 ?_
 refine Qad (hN.out) ?_
 refine Qad (hD.out) ?_
 clear hN hD
 rcases Bool.eq_false_or_eq_true (db) with hd | hd
 rotate_left
 ·have hf : Hid (R = false) := by show _ = _; rw [show R = _ from HR.out, hd]; rfl
  clear HR
  refine go_ ?_
  refine rT Tryz.results80 ?_
  exact ⟨by rw [hf.out]; rfl, rfl⟩
 have HR1 : Hid (R = allP (Qdd l) (l.drop 0) 0) := by show _ = _; rw [show R = _ from HR.out, hd]; rfl
 clear HR
 refine go_ ?_
 refine Qai (ι := Nat) (fun y => y ≤ l.length ∧ Hid (R = allP (Qdd l) (l.drop y) y) ∧ Hid (∀ (j : Nat) (x : En), j < y → l[j]? = some x → Qdd l x j = true)) (fun y => [(0, .d (.sl (l.map encD))), (14, .d (.v (.int .i64 l.length))), (15, .d (.v (.int .i64 (y : Int))))]) (fun _ => []) (fun y => l.length - y) 0 ⟨Nat.zero_le _, HR1.out, fun j x hj => by omega⟩ ?_ ?_ ?_
 ·exact sU
 ·exact dR
 ·rintro j ⟨hj, hR, hA⟩
  clear HR1
  by_cases hlt : j < l.length
  ·have hx := Qaq hlt
   have hc : (j : Int) < l.length := by omega
   have hn : (0 : Int) ≤ j := by omega
   have hin := wr64 (n := (j : Int) + 1) (by omega) (by omega)
   have hR2 : Hid (R = (Qdd l l[j] j && allP (Qdd l) (l.drop (j + 1)) (j + 1))) := by
    rw [show R = _ from hR.out, List.drop_eq_getElem_cons hlt]; rfl
   have hE := Hh (sentry_p l j hlt (by omega) HO.out (fam_ok hA.out))
   have hA2 : Hid (Qdd l l[j] j = true → ∀ (q : Nat) (x : En), q < j + 1 → l[q]? = some x → Qdd l x q = true) := by
    intro he q z hq hz
    by_cases hqj : q = j
    ·subst hqj
     rw [List.getElem?_eq_getElem hlt] at hz
     cases hz; exact he
    ·exact hA.out q z (by omega) hz
   clear hR hA
   generalize Qdd l l[j] j = b at *
   refine go_ ?_
   refine Qab (hE.out) ?_
   clear hE
   rcases Bool.eq_false_or_eq_true (b) with hb | hb
   rotate_left
   ·have hf : Hid (R = false) := by show _ = _; rw [show R = _ from hR2.out, hb]; rfl
    clear hR2 hA2
    refine go_ ?_
    refine rT Tryz.results80 ?_
    exact ⟨by rw [hf.out]; rfl, rfl⟩
   have hR3 : Hid (R = allP (Qdd l) (l.drop (j + 1)) (j + 1)) := by show _ = _; rw [show R = _ from hR2.out, hb]; rfl
   have hA3 := Hh (hA2.out hb)
   clear hR2 hA2
   refine go_ ?_
   exact ⟨j + 1, ⟨hlt, hR3, hA3⟩, by omega, sU, dR⟩
  ·have hc : ¬ (j : Int) < l.length := by omega
   have hf : Hid (R = true) := by show _ = _; rw [show R = _ from hR.out, List.drop_of_length_le (by omega)]; rfl
   refine go_ ?_
   refine rT Tryz.results80 ?_
   exact ⟨by rw [hf.out]; rfl, rfl⟩
theorem rformed_p (l : List En) (ho : ∀ e ∈ l, EnOk e) : PCalls Tryz.prog 44 [.d (.sl (l.map encD))] [] fun p s => p = .d (.v (.bool (formedR l))) ∧ s = [] := by
 obtain ⟨R, hR⟩ : ∃ R, R = formedR l := ⟨_, rfl⟩
 rw [← hR]
 unfold formedR at hR
 have HR0 := Hh hR
 clear hR
 by_cases hl : (l.length : Int) ≤ 256
 rotate_left
 ·have hf : Hid (R = false) := by show _ = _; rw [show R = _ from HR0.out, decide_eq_false hl]; rfl
  have h256 : (256 : Int) < l.length := by omega
  clear HR0 ho
  refine pG Tryz.func44 Tryz.ntmps44 ?_
  refine rT Tryz.results44 ?_
  exact ⟨by rw [hf.out]; rfl, rfl⟩
 have HR : Hid (R = (distB (nms l) && allP (Qcp l) (l.drop 0) 0)) := by show _ = _; rw [show R = _ from HR0.out, decide_eq_true hl]; rfl
 have h256 : ¬ (256 : Int) < l.length := by omega
 have hN := Hh (rnames_p l (by omega))
 have hD := Hh (rdistinct_p (nms l))
 have HO := Hh ho
 clear HR0 ho
 generalize distB (nms l) = db at *
 generalize nms l = ns at *
 refine pG Tryz.func44 Tryz.ntmps44 ?_
 refine Qad (hN.out) ?_
 refine Qad (hD.out) ?_
 clear hN hD
 rcases Bool.eq_false_or_eq_true (db) with hd | hd
 rotate_left
 ·have hf : Hid (R = false) := by show _ = _; rw [show R = _ from HR.out, hd]; rfl
  clear HR
  refine go_ ?_
  refine rT Tryz.results44 ?_
  exact ⟨by rw [hf.out]; rfl, rfl⟩
 have HR1 : Hid (R = allP (Qcp l) (l.drop 0) 0) := by show _ = _; rw [show R = _ from HR.out, hd]; rfl
 clear HR
 refine go_ ?_
 refine Qai (ι := Nat) (fun y => y ≤ l.length ∧ Hid (R = allP (Qcp l) (l.drop y) y) ∧ Hid (∀ (j : Nat) (x : En), j < y → l[j]? = some x → Qcp l x j = true)) (fun y => [(0, .d (.sl (l.map encD))), (3, .d (.v (.int .i64 (y : Int))))]) (fun _ => []) (fun y => l.length - y) 0 ⟨Nat.zero_le _, HR1.out, fun j x hj => by omega⟩ ?_ ?_ ?_
 ·exact sU
 ·exact dR
 ·rintro j ⟨hj, hR, hA⟩
  clear HR1
  by_cases hlt : j < l.length
  ·have hx := Qaq hlt
   have hc : (j : Int) < l.length := by omega
   have hn : (0 : Int) ≤ j := by omega
   have hin := wr64 (n := (j : Int) + 1) (by omega) (by omega)
   have hR2 : Hid (R = (Qcp l l[j] j && allP (Qcp l) (l.drop (j + 1)) (j + 1))) := by
    rw [show R = _ from hR.out, List.drop_eq_getElem_cons hlt]; rfl
   have hE := Hh (rentry_p l j hlt (by omega) HO.out (fam_okR hA.out))
   have hA2 : Hid (Qcp l l[j] j = true → ∀ (q : Nat) (x : En), q < j + 1 → l[q]? = some x → Qcp l x q = true) := by
    intro he q z hq hz
    by_cases hqj : q = j
    ·subst hqj
     rw [List.getElem?_eq_getElem hlt] at hz
     cases hz; exact he
    ·exact hA.out q z (by omega) hz
   clear hR hA
   generalize Qcp l l[j] j = b at *
   refine go_ ?_
   refine Qab (hE.out) ?_
   clear hE
   rcases Bool.eq_false_or_eq_true (b) with hb | hb
   rotate_left
   ·have hf : Hid (R = false) := by show _ = _; rw [show R = _ from hR2.out, hb]; rfl
    clear hR2 hA2
    refine go_ ?_
    refine rT Tryz.results44 ?_
    exact ⟨by rw [hf.out]; rfl, rfl⟩
   have hR3 : Hid (R = allP (Qcp l) (l.drop (j + 1)) (j + 1)) := by show _ = _; rw [show R = _ from hR2.out, hb]; rfl
   have hA3 := Hh (hA2.out hb)
   clear hR2 hA2
   refine go_ ?_
   exact ⟨j + 1, ⟨hlt, hR3, hA3⟩, by omega, sU, dR⟩
  ·have hc : ¬ (j : Int) < l.length := by omega
   have hf : Hid (R = true) := by show _ = _; rw [show R = _ from hR.out, List.drop_of_length_le (by omega)]; rfl
   refine go_ ?_
   refine rT Tryz.results44 ?_
   exact ⟨by rw [hf.out]; rfl, rfl⟩
structure Rc where
 is_ : Bool
 around : List Tm
 at_ : List Tm
instance : Enc Rc := ⟨3, fun r => [.v (.bool r.is_), .s 3 (r.around.map Enc.enc), .s 3 (r.at_.map Enc.enc)], fun r => by simp⟩
instance : EncOk Rc := ⟨fun r d hd => by
 simp only [Enc.enc, List.mem_cons, List.not_mem_nil, or_false] at hd
 rcases hd with rfl | rfl | rfl
 ·exact .v trivial
 ·exact Qjt (α := Tm) (by decide) r.around
 ·exact Qjt (α := Tm) (by decide) r.at_⟩
@[simp] theorem encD_rc (r : Rc) : encD r = [.v (.bool r.is_), .sl (r.around.map encD), .sl (r.at_.map encD)] := by
 unfold encD
 simp only [Enc.enc, dtL, dtD, Qfx, List.map_map]
 rfl
namespace Go.Proofs.YtdklpbefbamchaaGreat
open Go.RowKit
structure Cn where
 args : List Tm
 inds : List Tm
 recs : List Rc
end Go.Proofs.YtdklpbefbamchaaGreat

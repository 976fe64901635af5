import Derived.Test.YtdklpbefbamchaaGreatBI2
set_option linter.unusedSimpArgs false
set_option linter.unusedVariables false
set_option maxHeartbeats 16000000
set_option maxRecDepth 100000
namespace Go.Proofs.YtdklpbefbamchaaGreat
open Go.RowKit
def shP (x : Nd × Int) : PV := .agg [.d (.v (.int .i64 x.1.kind)), .d (.v (.int .i64 x.1.at)), .d (.v (.string x.1.name)), .d (.v (.int .i64 x.1.num)), .d (.sl (x.1.sub.map encD)), .d (.v (.int .i64 x.2))]
def shO (x : Nd × Bool) : Nd × Int := if x.2 = true then (zNdX, 16) else (x.1, 0)
def YC (l : List En) (t : Tm) (ns : List ByteArray) : Prop := PCalls Tryz.prog 110 [.d (.sl (l.map encD)), .d (.sl (ns.map encD)), aggD t] [] fun p s => p = shP (shO (exT l t ns)) ∧ s = []
theorem Qex {P : Program} {n : Nat} {c : Code} {Q : Exit → PF → St → Prop} {fr : PF} {st : St} (h : (st.filterMap Ent.tid).Nodup → PW P n c Q fr st) : PW P n c Q fr st :=
 fun F K w a hr hf => h hr.nt F K w a hr hf
theorem sh_z (b : Nd) : shP (shO (b, true)) = .agg [.d (.v (.int .i64 0)), .d (.v (.int .i64 0)), .d (.v (.string ByteArray.empty)), .d (.v (.int .i64 0)), .d (.sl []), .d (.v (.int .i64 16))] := rfl
theorem sh_y (b : Nd) : shP (shO (b, false)) = .agg [.d (.v (.int .i64 b.kind)), .d (.v (.int .i64 b.at)), .d (.v (.string b.name)), .d (.v (.int .i64 b.num)), .d (.sl (b.sub.map encD)), .d (.v (.int .i64 0))] := rfl
theorem sh_mk (k a n : Int) (s : ByteArray) (sub : List Nd) : shP (shO (.mk k a s n sub, false)) = .agg [.d (.v (.int .i64 k)), .d (.v (.int .i64 a)), .d (.v (.string s)), .d (.v (.int .i64 n)), .d (.sl (sub.map encD)), .d (.v (.int .i64 0))] := rfl
theorem rsh5_p (l : List En) (x y : Tm) (ns : List ByteArray) (hns : ns.length ≤ 300) (X Y : Nd × Bool)
    (d1 : PCalls Tryz.prog 110 [.d (.sl (l.map encD)), .d (.sl (ns.map encD)), aggD x] [] fun p s => p = shP (shO X) ∧ s = [])
    (d2 : PCalls Tryz.prog 110 [.d (.sl (l.map encD)), .d (.sl (ns.map encD)), aggD y] [] fun p s => p = shP (shO Y) ∧ s = []) :
    PCalls Tryz.prog 110 [.d (.sl (l.map encD)), .d (.sl (ns.map encD)), aggD (Tm.mk 5 0 [x, y])] [] fun p s => p = shP (shO (.mk 5 0 ByteArray.empty 0 [X.1, Y.1], X.2 || Y.2)) ∧ s = [] := by
  rw [Qds]
  simp only [List.map_cons, List.map_nil, Jl]
  rw [Qdg] at d1 d2
  obtain ⟨X1, X2⟩ := X
  obtain ⟨Y1, Y2⟩ := Y
  cases X2 with
  | true =>
    rw [sh_z] at d1
    show PCalls _ _ _ _ fun p s => p = shP (shO (_, true)) ∧ s = []
    rw [sh_z]
    have D1 := Lib.hid d1
    clear d1
    cases Y2 with
    | true =>
      rw [sh_z] at d2
      have D2 := Lib.hid d2
      clear d2
      refine PCalls.enter Tryz.func110 rfl Tryz.ntmps110 (by simp) ?_
      simp only [Qaa]
      refine go_ ?_
      refine Jd ?_
      intro i5 hi5
      try simp only [Ja, Rh, Rg, Jb] at hi5
      refine go_ ?_
      refine Je ?_
      intro i6 hi6
      try simp only [Ja, Rh, Rg, Jb] at hi6
      refine go_ ?_
      refine Je ?_
      intro i8 hi8
      try simp only [Ja, Rh, Rg, Jb] at hi8
      refine go_ ?_
      refine Rd ?_
      refine go_ ?_
      refine Qba ?_ (by decide) (by first | (simp [nev, nevA, nevB, Jp, PF.eval, PF.get, PF.wants, cPV, Qad, PV.rows, Qae, evUn, Jq, Qag, Qaf, Jn, TyK.agg, Qac, St.box?, St.tok?, St.setBox, St.setTok, Qab, spl, PV.ps, PV.one, Jo, aggD, slD, Jh, Jk, Ji, Jj, Jg, Jf, *]; done) | fail) (by simp; rfl) (by rfl) (by simp; rfl) (by rfl) (by decide)
      intro g hg
      refine go_ ?_
      refine Qai ns.length ?_ ?_ ?_ ?_
      · simp
      · simp
      · exact Qal _
      rw [List.nil_append]
      refine go_ ?_
      refine Jc (D1.out) ?_
      refine go_ ?_
      refine Je ?_
      intro i12 hi12
      try simp only [Ja, Rh, Rg, Jb] at hi12
      refine go_ ?_
      refine Rd ?_
      refine go_ ?_
      refine Jc (D2.out) ?_
      refine go_ ?_
      refine Je ?_
      intro i13 hi13
      try simp only [Ja, Rh, Rg, Jb] at hi13
      refine go_ ?_
      refine Rd ?_
      refine go_ ?_
      refine Rd ?_
      refine go_ ?_
      refine Jm (by simp) (by simp only [Tryz.results110]; rfl) (by simp [resP, St.box?, PF.get, Jn, TyK.agg, *]; rfl) Nl ?_
      exact ⟨by simp [tupP, PV.norm2, PV.norm1, PV.norm0], rfl⟩
    | false =>
      rw [sh_y] at d2
      have D2 := Lib.hid d2
      clear d2
      refine PCalls.enter Tryz.func110 rfl Tryz.ntmps110 (by simp) ?_
      simp only [Qaa]
      refine go_ ?_
      refine Jd ?_
      intro i5 hi5
      try simp only [Ja, Rh, Rg, Jb] at hi5
      refine go_ ?_
      refine Je ?_
      intro i6 hi6
      try simp only [Ja, Rh, Rg, Jb] at hi6
      refine go_ ?_
      refine Je ?_
      intro i8 hi8
      try simp only [Ja, Rh, Rg, Jb] at hi8
      refine go_ ?_
      refine Rd ?_
      refine go_ ?_
      refine Qba ?_ (by decide) (by first | (simp [nev, nevA, nevB, Jp, PF.eval, PF.get, PF.wants, cPV, Qad, PV.rows, Qae, evUn, Jq, Qag, Qaf, Jn, TyK.agg, Qac, St.box?, St.tok?, St.setBox, St.setTok, Qab, spl, PV.ps, PV.one, Jo, aggD, slD, Jh, Jk, Ji, Jj, Jg, Jf, *]; done) | fail) (by simp; rfl) (by rfl) (by simp; rfl) (by rfl) (by decide)
      intro g hg
      refine go_ ?_
      refine Qai ns.length ?_ ?_ ?_ ?_
      · simp
      · simp
      · exact Qal _
      rw [List.nil_append]
      refine go_ ?_
      refine Jc (D1.out) ?_
      refine go_ ?_
      refine Je ?_
      intro i12 hi12
      try simp only [Ja, Rh, Rg, Jb] at hi12
      refine go_ ?_
      refine Rd ?_
      refine go_ ?_
      refine Jc (D2.out) ?_
      refine go_ ?_
      refine Je ?_
      intro i13 hi13
      try simp only [Ja, Rh, Rg, Jb] at hi13
      refine go_ ?_
      refine Rd ?_
      refine go_ ?_
      refine Rd ?_
      refine go_ ?_
      refine Jm (by simp) (by simp only [Tryz.results110]; rfl) (by simp [resP, St.box?, PF.get, Jn, TyK.agg, *]; rfl) Nl ?_
      exact ⟨by simp [tupP, PV.norm2, PV.norm1, PV.norm0], rfl⟩
  | false =>
    rw [sh_y] at d1
    have D1 := Lib.hid d1
    clear d1
    cases Y2 with
    | true =>
      show PCalls _ _ _ _ fun p s => p = shP (shO (_, true)) ∧ s = []
      rw [sh_z] at d2 ⊢
      have D2 := Lib.hid d2
      clear d2
      refine PCalls.enter Tryz.func110 rfl Tryz.ntmps110 (by simp) ?_
      simp only [Qaa]
      refine go_ ?_
      refine Jd ?_
      intro i5 hi5
      try simp only [Ja, Rh, Rg, Jb] at hi5
      refine go_ ?_
      refine Je ?_
      intro i6 hi6
      try simp only [Ja, Rh, Rg, Jb] at hi6
      refine go_ ?_
      refine Je ?_
      intro i8 hi8
      try simp only [Ja, Rh, Rg, Jb] at hi8
      refine go_ ?_
      refine Rd ?_
      refine go_ ?_
      refine Qba ?_ (by decide) (by first | (simp [nev, nevA, nevB, Jp, PF.eval, PF.get, PF.wants, cPV, Qad, PV.rows, Qae, evUn, Jq, Qag, Qaf, Jn, TyK.agg, Qac, St.box?, St.tok?, St.setBox, St.setTok, Qab, spl, PV.ps, PV.one, Jo, aggD, slD, Jh, Jk, Ji, Jj, Jg, Jf, *]; done) | fail) (by simp; rfl) (by rfl) (by simp; rfl) (by rfl) (by decide)
      intro g hg
      refine go_ ?_
      refine Qai ns.length ?_ ?_ ?_ ?_
      · simp
      · simp
      · exact Qal _
      rw [List.nil_append]
      refine go_ ?_
      refine Jc (D1.out) ?_
      refine go_ ?_
      refine Je ?_
      intro i12 hi12
      try simp only [Ja, Rh, Rg, Jb] at hi12
      refine go_ ?_
      refine Rd ?_
      refine go_ ?_
      refine Jc (D2.out) ?_
      refine go_ ?_
      refine Je ?_
      intro i13 hi13
      try simp only [Ja, Rh, Rg, Jb] at hi13
      refine go_ ?_
      refine Rd ?_
      refine go_ ?_
      refine Rd ?_
      refine go_ ?_
      refine Jm (by simp) (by simp only [Tryz.results110]; rfl) (by simp [resP, St.box?, PF.get, Jn, TyK.agg, *]; rfl) Nl ?_
      exact ⟨by simp [tupP, PV.norm2, PV.norm1, PV.norm0], rfl⟩
    | false =>
      show PCalls _ _ _ _ fun p s => p = shP (shO (_, false)) ∧ s = []
      rw [sh_mk]
      rw [sh_y] at d2
      simp only [List.map_cons, List.map_nil, Jh]
      have D2 := Lib.hid d2
      clear d2
      refine PCalls.enter Tryz.func110 rfl Tryz.ntmps110 (by simp) ?_
      simp only [Qaa]
      refine go_ ?_
      refine Jd ?_
      intro i5 hi5
      try simp only [Ja, Rh, Rg, Jb] at hi5
      refine go_ ?_
      refine Je ?_
      intro i6 hi6
      try simp only [Ja, Rh, Rg, Jb] at hi6
      refine go_ ?_
      refine Je ?_
      intro i8 hi8
      try simp only [Ja, Rh, Rg, Jb] at hi8
      refine go_ ?_
      refine Rd ?_
      refine go_ ?_
      refine Qba ?_ (by decide) (by first | (simp [nev, nevA, nevB, Jp, PF.eval, PF.get, PF.wants, cPV, Qad, PV.rows, Qae, evUn, Jq, Qag, Qaf, Jn, TyK.agg, Qac, St.box?, St.tok?, St.setBox, St.setTok, Qab, spl, PV.ps, PV.one, Jo, aggD, slD, Jh, Jk, Ji, Jj, Jg, Jf, *]; done) | fail) (by simp; rfl) (by rfl) (by simp; rfl) (by rfl) (by decide)
      intro g hg
      refine go_ ?_
      refine Qai ns.length ?_ ?_ ?_ ?_
      · simp
      · simp
      · exact Qal _
      rw [List.nil_append]
      refine go_ ?_
      refine Jc (D1.out) ?_
      refine go_ ?_
      refine Je ?_
      intro i12 hi12
      try simp only [Ja, Rh, Rg, Jb] at hi12
      refine go_ ?_
      refine Rd ?_
      refine go_ ?_
      refine Jc (D2.out) ?_
      refine go_ ?_
      refine Je ?_
      intro i13 hi13
      try simp only [Ja, Rh, Rg, Jb] at hi13
      refine go_ ?_
      refine Rd ?_
      refine go_ ?_
      refine Qam ?_
      refine go_ ?_
      refine Rd ?_
      refine go_ ?_
      refine Rd ?_
      refine go_ ?_
      refine Jm (by simp) (by simp only [Tryz.results110]; rfl) (by simp [resP, St.box?, PF.get, Jn, TyK.agg, *]; rfl) Nl ?_
      exact ⟨by simp [tupP, PV.norm2, PV.norm1, PV.norm0], rfl⟩
theorem rsh3f_p (l : List En) (x y : Tm) (ns : List ByteArray) (hns : ns.length ≤ 300) (X Y : Nd × Bool) (hh0 : PCalls Tryz.prog 169 [aggD y, .d (.v (.int .i64 0))] [] fun p s => p = .d (.v (.bool false)) ∧ s = [])
    (d1 : PCalls Tryz.prog 110 [.d (.sl (l.map encD)), .d (.sl (ns.map encD)), aggD x] [] fun p s => p = shP (shO X) ∧ s = [])
    (d2 : PCalls Tryz.prog 110 [.d (.sl (l.map encD)), .d (.sl (ns.map encD ++ [[D.v (.string (⟨#[95]⟩ : ByteArray))]])), aggD y] [] fun p s => p = shP (shO Y) ∧ s = []) :
    PCalls Tryz.prog 110 [.d (.sl (l.map encD)), .d (.sl (ns.map encD)), aggD (Tm.mk 3 0 [x, y])] [] fun p s => p = shP (shO (.mk 3 0 ⟨#[95]⟩ 0 [X.1, Y.1], X.2 || Y.2)) ∧ s = [] := by
  rw [Qds]
  simp only [List.map_cons, List.map_nil, Jl]
  rw [Qdg] at d1 d2
  obtain ⟨X1, X2⟩ := X
  obtain ⟨Y1, Y2⟩ := Y
  rw [Qdg] at hh0
  have hH := Lib.hid hh0
  clear hh0
  cases X2 with
  | true =>
    rw [sh_z] at d1
    show PCalls _ _ _ _ fun p s => p = shP (shO (_, true)) ∧ s = []
    rw [sh_z]
    have D1 := Lib.hid d1
    clear d1
    cases Y2 with
    | true =>
      rw [sh_z] at d2
      have D2 := Lib.hid d2
      clear d2
      refine PCalls.enter Tryz.func110 rfl Tryz.ntmps110 (by simp) ?_
      simp only [Qaa]
      refine go_ ?_
      refine Jd ?_
      intro i5 hi5
      try simp only [Ja, Rh, Rg, Jb] at hi5
      refine go_ ?_
      refine Je ?_
      intro i6 hi6
      try simp only [Ja, Rh, Rg, Jb] at hi6
      refine go_ ?_
      refine Je ?_
      intro i8 hi8
      try simp only [Ja, Rh, Rg, Jb] at hi8
      refine go_ ?_
      refine Rd ?_
      refine go_ ?_
      refine Qba ?_ (by decide) (by first | (simp [nev, nevA, nevB, Jp, PF.eval, PF.get, PF.wants, cPV, Qad, PV.rows, Qae, evUn, Jq, Qag, Qaf, Jn, TyK.agg, Qac, St.box?, St.tok?, St.setBox, St.setTok, Qab, spl, PV.ps, PV.one, Jo, aggD, slD, Jh, Jk, Ji, Jj, Jg, Jf, *]; done) | fail) (by simp; rfl) (by rfl) (by simp; rfl) (by rfl) (by decide)
      intro g hg
      refine go_ ?_
      refine Qai ns.length ?_ ?_ ?_ ?_
      · simp
      · simp
      · exact Qal _
      rw [List.nil_append]
      refine go_ ?_
      refine Rd ?_
      refine go_ ?_
      refine Rd ?_
      refine go_ ?_
      refine Jr (hH.out) ?_
      refine go_ ?_
      refine Qam ?_
      refine go_ ?_
      refine Qai (ns.length + 1) ?_ ?_ ?_ ?_
      · simp
      · exact Qal _
      · exact Qau rfl
      refine go_ ?_
      refine Jc (D1.out) ?_
      refine go_ ?_
      refine Je ?_
      intro i12 hi12
      try simp only [Ja, Rh, Rg, Jb] at hi12
      refine go_ ?_
      refine Rd ?_
      refine go_ ?_
      refine Jc (D2.out) ?_
      refine go_ ?_
      refine Je ?_
      intro i13 hi13
      try simp only [Ja, Rh, Rg, Jb] at hi13
      refine go_ ?_
      refine Rd ?_
      refine go_ ?_
      refine Rd ?_
      refine go_ ?_
      refine Jm (by simp) (by simp only [Tryz.results110]; rfl) (by simp [resP, St.box?, PF.get, Jn, TyK.agg, *]; rfl) Nl ?_
      exact ⟨by simp [tupP, PV.norm2, PV.norm1, PV.norm0], rfl⟩
    | false =>
      rw [sh_y] at d2
      have D2 := Lib.hid d2
      clear d2
      refine PCalls.enter Tryz.func110 rfl Tryz.ntmps110 (by simp) ?_
      simp only [Qaa]
      refine go_ ?_
      refine Jd ?_
      intro i5 hi5
      try simp only [Ja, Rh, Rg, Jb] at hi5
      refine go_ ?_
      refine Je ?_
      intro i6 hi6
      try simp only [Ja, Rh, Rg, Jb] at hi6
      refine go_ ?_
      refine Je ?_
      intro i8 hi8
      try simp only [Ja, Rh, Rg, Jb] at hi8
      refine go_ ?_
      refine Rd ?_
      refine go_ ?_
      refine Qba ?_ (by decide) (by first | (simp [nev, nevA, nevB, Jp, PF.eval, PF.get, PF.wants, cPV, Qad, PV.rows, Qae, evUn, Jq, Qag, Qaf, Jn, TyK.agg, Qac, St.box?, St.tok?, St.setBox, St.setTok, Qab, spl, PV.ps, PV.one, Jo, aggD, slD, Jh, Jk, Ji, Jj, Jg, Jf, *]; done) | fail) (by simp; rfl) (by rfl) (by simp; rfl) (by rfl) (by decide)
      intro g hg
      refine go_ ?_
      refine Qai ns.length ?_ ?_ ?_ ?_
      · simp
      · simp
      · exact Qal _
      rw [List.nil_append]
      refine go_ ?_
      refine Rd ?_
      refine go_ ?_
      refine Rd ?_
      refine go_ ?_
      refine Jr (hH.out) ?_
      refine go_ ?_
      refine Qam ?_
      refine go_ ?_
      refine Qai (ns.length + 1) ?_ ?_ ?_ ?_
      · simp
      · exact Qal _
      · exact Qau rfl
      refine go_ ?_
      refine Jc (D1.out) ?_
      refine go_ ?_
      refine Je ?_
      intro i12 hi12
      try simp only [Ja, Rh, Rg, Jb] at hi12
      refine go_ ?_
      refine Rd ?_
      refine go_ ?_
      refine Jc (D2.out) ?_
      refine go_ ?_
      refine Je ?_
      intro i13 hi13
      try simp only [Ja, Rh, Rg, Jb] at hi13
      refine go_ ?_
      refine Rd ?_
      refine go_ ?_
      refine Rd ?_
      refine go_ ?_
      refine Jm (by simp) (by simp only [Tryz.results110]; rfl) (by simp [resP, St.box?, PF.get, Jn, TyK.agg, *]; rfl) Nl ?_
      exact ⟨by simp [tupP, PV.norm2, PV.norm1, PV.norm0], rfl⟩
  | false =>
    rw [sh_y] at d1
    have D1 := Lib.hid d1
    clear d1
    cases Y2 with
    | true =>
      show PCalls _ _ _ _ fun p s => p = shP (shO (_, true)) ∧ s = []
      rw [sh_z] at d2 ⊢
      have D2 := Lib.hid d2
      clear d2
      refine PCalls.enter Tryz.func110 rfl Tryz.ntmps110 (by simp) ?_
      simp only [Qaa]
      refine go_ ?_
      refine Jd ?_
      intro i5 hi5
      try simp only [Ja, Rh, Rg, Jb] at hi5
      refine go_ ?_
      refine Je ?_
      intro i6 hi6
      try simp only [Ja, Rh, Rg, Jb] at hi6
      refine go_ ?_
      refine Je ?_
      intro i8 hi8
      try simp only [Ja, Rh, Rg, Jb] at hi8
      refine go_ ?_
      refine Rd ?_
      refine go_ ?_
      refine Qba ?_ (by decide) (by first | (simp [nev, nevA, nevB, Jp, PF.eval, PF.get, PF.wants, cPV, Qad, PV.rows, Qae, evUn, Jq, Qag, Qaf, Jn, TyK.agg, Qac, St.box?, St.tok?, St.setBox, St.setTok, Qab, spl, PV.ps, PV.one, Jo, aggD, slD, Jh, Jk, Ji, Jj, Jg, Jf, *]; done) | fail) (by simp; rfl) (by rfl) (by simp; rfl) (by rfl) (by decide)
      intro g hg
      refine go_ ?_
      refine Qai ns.length ?_ ?_ ?_ ?_
      · simp
      · simp
      · exact Qal _
      rw [List.nil_append]
      refine go_ ?_
      refine Rd ?_
      refine go_ ?_
      refine Rd ?_
      refine go_ ?_
      refine Jr (hH.out) ?_
      refine go_ ?_
      refine Qam ?_
      refine go_ ?_
      refine Qai (ns.length + 1) ?_ ?_ ?_ ?_
      · simp
      · exact Qal _
      · exact Qau rfl
      refine go_ ?_
      refine Jc (D1.out) ?_
      refine go_ ?_
      refine Je ?_
      intro i12 hi12
      try simp only [Ja, Rh, Rg, Jb] at hi12
      refine go_ ?_
      refine Rd ?_
      refine go_ ?_
      refine Jc (D2.out) ?_
      refine go_ ?_
      refine Je ?_
      intro i13 hi13
      try simp only [Ja, Rh, Rg, Jb] at hi13
      refine go_ ?_
      refine Rd ?_
      refine go_ ?_
      refine Rd ?_
      refine go_ ?_
      refine Jm (by simp) (by simp only [Tryz.results110]; rfl) (by simp [resP, St.box?, PF.get, Jn, TyK.agg, *]; rfl) Nl ?_
      exact ⟨by simp [tupP, PV.norm2, PV.norm1, PV.norm0], rfl⟩
    | false =>
      show PCalls _ _ _ _ fun p s => p = shP (shO (_, false)) ∧ s = []
      rw [sh_mk]
      rw [sh_y] at d2
      simp only [List.map_cons, List.map_nil, Jh]
      have D2 := Lib.hid d2
      clear d2
      refine PCalls.enter Tryz.func110 rfl Tryz.ntmps110 (by simp) ?_
      simp only [Qaa]
      refine go_ ?_
      refine Jd ?_
      intro i5 hi5
      try simp only [Ja, Rh, Rg, Jb] at hi5
      refine go_ ?_
      refine Je ?_
      intro i6 hi6
      try simp only [Ja, Rh, Rg, Jb] at hi6
      refine go_ ?_
      refine Je ?_
      intro i8 hi8
      try simp only [Ja, Rh, Rg, Jb] at hi8
      refine go_ ?_
      refine Rd ?_
      refine go_ ?_
      refine Qba ?_ (by decide) (by first | (simp [nev, nevA, nevB, Jp, PF.eval, PF.get, PF.wants, cPV, Qad, PV.rows, Qae, evUn, Jq, Qag, Qaf, Jn, TyK.agg, Qac, St.box?, St.tok?, St.setBox, St.setTok, Qab, spl, PV.ps, PV.one, Jo, aggD, slD, Jh, Jk, Ji, Jj, Jg, Jf, *]; done) | fail) (by simp; rfl) (by rfl) (by simp; rfl) (by rfl) (by decide)
      intro g hg
      refine go_ ?_
      refine Qai ns.length ?_ ?_ ?_ ?_
      · simp
      · simp
      · exact Qal _
      rw [List.nil_append]
      refine go_ ?_
      refine Rd ?_
      refine go_ ?_
      refine Rd ?_
      refine go_ ?_
      refine Jr (hH.out) ?_
      refine go_ ?_
      refine Qam ?_
      refine go_ ?_
      refine Qai (ns.length + 1) ?_ ?_ ?_ ?_
      · simp
      · exact Qal _
      · exact Qau rfl
      refine go_ ?_
      refine Jc (D1.out) ?_
      refine go_ ?_
      refine Je ?_
      intro i12 hi12
      try simp only [Ja, Rh, Rg, Jb] at hi12
      refine go_ ?_
      refine Rd ?_
      refine go_ ?_
      refine Jc (D2.out) ?_
      refine go_ ?_
      refine Je ?_
      intro i13 hi13
      try simp only [Ja, Rh, Rg, Jb] at hi13
      refine go_ ?_
      refine Rd ?_
      refine go_ ?_
      refine Qam ?_
      refine go_ ?_
      refine Rd ?_
      refine go_ ?_
      refine Rd ?_
      refine go_ ?_
      refine Jm (by simp) (by simp only [Tryz.results110]; rfl) (by simp [resP, St.box?, PF.get, Jn, TyK.agg, *]; rfl) Nl ?_
      exact ⟨by simp [tupP, PV.norm2, PV.norm1, PV.norm0], rfl⟩
theorem rsh3t_p (l : List En) (x y : Tm) (ns : List ByteArray) (hns : ns.length ≤ 300) (X Y : Nd × Bool) (FX : ByteArray) (hsz : FX.size ≤ maxLen) (L : List ByteArray) (hL : L.length + ns.length ≤ 300) (hn0 : PCalls Tryz.prog 95 [.d (.sl (l.map encD))] [] fun p s => ∃ g, p = .own g (L.map encD) ∧ s = [.tok g 9 1 L.length]) (hf0 : PCalls Tryz.prog 170 [.d (.v (.string ⟨#[120]⟩)), .d (.sl (L.map encD ++ ns.map encD))] [] fun p st => p = .tup [.d (.v (.string FX)), .d (.v (.int .i64 0))] ∧ st = []) (hh0 : PCalls Tryz.prog 169 [aggD y, .d (.v (.int .i64 0))] [] fun p s => p = .d (.v (.bool true)) ∧ s = [])
    (d1 : PCalls Tryz.prog 110 [.d (.sl (l.map encD)), .d (.sl (ns.map encD)), aggD x] [] fun p s => p = shP (shO X) ∧ s = [])
    (d2 : PCalls Tryz.prog 110 [.d (.sl (l.map encD)), .d (.sl (ns.map encD ++ [[D.v (.string FX)]])), aggD y] [] fun p s => p = shP (shO Y) ∧ s = []) :
    PCalls Tryz.prog 110 [.d (.sl (l.map encD)), .d (.sl (ns.map encD)), aggD (Tm.mk 3 0 [x, y])] [] fun p s => p = shP (shO (.mk 3 0 FX 0 [X.1, Y.1], X.2 || Y.2)) ∧ s = [] := by
  rw [Qds]
  simp only [List.map_cons, List.map_nil, Jl]
  rw [Qdg] at d1 d2
  obtain ⟨X1, X2⟩ := X
  obtain ⟨Y1, Y2⟩ := Y
  have hN := Lib.hid hn0
  have HF := Lib.hid hf0
  clear hn0 hf0
  rw [Qdg] at hh0
  have hH := Lib.hid hh0
  clear hh0
  cases X2 with
  | true =>
    rw [sh_z] at d1
    show PCalls _ _ _ _ fun p s => p = shP (shO (_, true)) ∧ s = []
    rw [sh_z]
    have D1 := Lib.hid d1
    clear d1
    cases Y2 with
    | true =>
      rw [sh_z] at d2
      have D2 := Lib.hid d2
      clear d2
      refine PCalls.enter Tryz.func110 rfl Tryz.ntmps110 (by simp) ?_
      simp only [Qaa]
      refine go_ ?_
      refine Jd ?_
      intro i5 hi5
      try simp only [Ja, Rh, Rg, Jb] at hi5
      refine go_ ?_
      refine Je ?_
      intro i6 hi6
      try simp only [Ja, Rh, Rg, Jb] at hi6
      refine go_ ?_
      refine Je ?_
      intro i8 hi8
      try simp only [Ja, Rh, Rg, Jb] at hi8
      refine go_ ?_
      refine Rd ?_
      refine go_ ?_
      refine Qba ?_ (by decide) (by first | (simp [nev, nevA, nevB, Jp, PF.eval, PF.get, PF.wants, cPV, Qad, PV.rows, Qae, evUn, Jq, Qag, Qaf, Jn, TyK.agg, Qac, St.box?, St.tok?, St.setBox, St.setTok, Qab, spl, PV.ps, PV.one, Jo, aggD, slD, Jh, Jk, Ji, Jj, Jg, Jf, *]; done) | fail) (by simp; rfl) (by rfl) (by simp; rfl) (by rfl) (by decide)
      intro g hg
      refine go_ ?_
      refine Qai ns.length ?_ ?_ ?_ ?_
      · simp
      · simp
      · exact Qal _
      rw [List.nil_append]
      refine go_ ?_
      refine Rd ?_
      refine go_ ?_
      refine Rd ?_
      refine go_ ?_
      refine Jr (hH.out) ?_
      refine go_ ?_
      refine Re 0 0 (hN.out) ?_
      rintro p s ⟨g2, rfl, rfl⟩
      simp only [List.cons_append, List.nil_append, List.append_nil, Ja, Rh, Rg]
      refine go_ ?_
      refine Qai (L.length + ns.length) ?_ ?_ ?_ ?_
      · simp
      · exact Qal _
      · exact Qal _
      refine go_ ?_
      refine Jc (HF.out) ?_
      refine go_ ?_
      refine Rd ?_
      refine gs_ ?_
      refine Qex fun hnt => ?_
      have hgg : g2 ≠ g := fun e => by subst e; simp [Ent.tid] at hnt
      have hg2 : g ≠ g2 := fun e => hgg e.symm
      clear hnt
      refine go_ ?_
      refine Qam ?_
      refine go_ ?_
      refine Qai (ns.length + 1) ?_ ?_ ?_ ?_
      · simp
      · exact Qal _
      · exact Qau rfl
      refine go_ ?_
      refine Jc (D1.out) ?_
      refine go_ ?_
      refine Je ?_
      intro i12 hi12
      try simp only [Ja, Rh, Rg, Jb] at hi12
      refine go_ ?_
      refine Rd ?_
      refine go_ ?_
      refine Jc (D2.out) ?_
      refine go_ ?_
      refine Je ?_
      intro i13 hi13
      try simp only [Ja, Rh, Rg, Jb] at hi13
      refine go_ ?_
      refine Rd ?_
      refine go_ ?_
      refine Rd ?_
      refine go_ ?_
      refine Jm (by simp) (by simp only [Tryz.results110]; rfl) (by simp [resP, St.box?, PF.get, Jn, TyK.agg, *]; rfl) Nl ?_
      exact ⟨by simp [tupP, PV.norm2, PV.norm1, PV.norm0], rfl⟩
    | false =>
      rw [sh_y] at d2
      have D2 := Lib.hid d2
      clear d2
      refine PCalls.enter Tryz.func110 rfl Tryz.ntmps110 (by simp) ?_
      simp only [Qaa]
      refine go_ ?_
      refine Jd ?_
      intro i5 hi5
      try simp only [Ja, Rh, Rg, Jb] at hi5
      refine go_ ?_
      refine Je ?_
      intro i6 hi6
      try simp only [Ja, Rh, Rg, Jb] at hi6
      refine go_ ?_
      refine Je ?_
      intro i8 hi8
      try simp only [Ja, Rh, Rg, Jb] at hi8
      refine go_ ?_
      refine Rd ?_
      refine go_ ?_
      refine Qba ?_ (by decide) (by first | (simp [nev, nevA, nevB, Jp, PF.eval, PF.get, PF.wants, cPV, Qad, PV.rows, Qae, evUn, Jq, Qag, Qaf, Jn, TyK.agg, Qac, St.box?, St.tok?, St.setBox, St.setTok, Qab, spl, PV.ps, PV.one, Jo, aggD, slD, Jh, Jk, Ji, Jj, Jg, Jf, *]; done) | fail) (by simp; rfl) (by rfl) (by simp; rfl) (by rfl) (by decide)
      intro g hg
      refine go_ ?_
      refine Qai ns.length ?_ ?_ ?_ ?_
      · simp
      · simp
      · exact Qal _
      rw [List.nil_append]
      refine go_ ?_
      refine Rd ?_
      refine go_ ?_
      refine Rd ?_
      refine go_ ?_
      refine Jr (hH.out) ?_
      refine go_ ?_
      refine Re 0 0 (hN.out) ?_
      rintro p s ⟨g2, rfl, rfl⟩
      simp only [List.cons_append, List.nil_append, List.append_nil, Ja, Rh, Rg]
      refine go_ ?_
      refine Qai (L.length + ns.length) ?_ ?_ ?_ ?_
      · simp
      · exact Qal _
      · exact Qal _
      refine go_ ?_
      refine Jc (HF.out) ?_
      refine go_ ?_
      refine Rd ?_
      refine gs_ ?_
      refine Qex fun hnt => ?_
      have hgg : g2 ≠ g := fun e => by subst e; simp [Ent.tid] at hnt
      have hg2 : g ≠ g2 := fun e => hgg e.symm
      clear hnt
      refine go_ ?_
      refine Qam ?_
      refine go_ ?_
      refine Qai (ns.length + 1) ?_ ?_ ?_ ?_
      · simp
      · exact Qal _
      · exact Qau rfl
      refine go_ ?_
      refine Jc (D1.out) ?_
      refine go_ ?_
      refine Je ?_
      intro i12 hi12
      try simp only [Ja, Rh, Rg, Jb] at hi12
      refine go_ ?_
      refine Rd ?_
      refine go_ ?_
      refine Jc (D2.out) ?_
      refine go_ ?_
      refine Je ?_
      intro i13 hi13
      try simp only [Ja, Rh, Rg, Jb] at hi13
      refine go_ ?_
      refine Rd ?_
      refine go_ ?_
      refine Rd ?_
      refine go_ ?_
      refine Jm (by simp) (by simp only [Tryz.results110]; rfl) (by simp [resP, St.box?, PF.get, Jn, TyK.agg, *]; rfl) Nl ?_
      exact ⟨by simp [tupP, PV.norm2, PV.norm1, PV.norm0], rfl⟩
  | false =>
    rw [sh_y] at d1
    have D1 := Lib.hid d1
    clear d1
    cases Y2 with
    | true =>
      show PCalls _ _ _ _ fun p s => p = shP (shO (_, true)) ∧ s = []
      rw [sh_z] at d2 ⊢
      have D2 := Lib.hid d2
      clear d2
      refine PCalls.enter Tryz.func110 rfl Tryz.ntmps110 (by simp) ?_
      simp only [Qaa]
      refine go_ ?_
      refine Jd ?_
      intro i5 hi5
      try simp only [Ja, Rh, Rg, Jb] at hi5
      refine go_ ?_
      refine Je ?_
      intro i6 hi6
      try simp only [Ja, Rh, Rg, Jb] at hi6
      refine go_ ?_
      refine Je ?_
      intro i8 hi8
      try simp only [Ja, Rh, Rg, Jb] at hi8
      refine go_ ?_
      refine Rd ?_
      refine go_ ?_
      refine Qba ?_ (by decide) (by first | (simp [nev, nevA, nevB, Jp, PF.eval, PF.get, PF.wants, cPV, Qad, PV.rows, Qae, evUn, Jq, Qag, Qaf, Jn, TyK.agg, Qac, St.box?, St.tok?, St.setBox, St.setTok, Qab, spl, PV.ps, PV.one, Jo, aggD, slD, Jh, Jk, Ji, Jj, Jg, Jf, *]; done) | fail) (by simp; rfl) (by rfl) (by simp; rfl) (by rfl) (by decide)
      intro g hg
      refine go_ ?_
      refine Qai ns.length ?_ ?_ ?_ ?_
      · simp
      · simp
      · exact Qal _
      rw [List.nil_append]
      refine go_ ?_
      refine Rd ?_
      refine go_ ?_
      refine Rd ?_
      refine go_ ?_
      refine Jr (hH.out) ?_
      refine go_ ?_
      refine Re 0 0 (hN.out) ?_
      rintro p s ⟨g2, rfl, rfl⟩
      simp only [List.cons_append, List.nil_append, List.append_nil, Ja, Rh, Rg]
      refine go_ ?_
      refine Qai (L.length + ns.length) ?_ ?_ ?_ ?_
      · simp
      · exact Qal _
      · exact Qal _
      refine go_ ?_
      refine Jc (HF.out) ?_
      refine go_ ?_
      refine Rd ?_
      refine gs_ ?_
      refine Qex fun hnt => ?_
      have hgg : g2 ≠ g := fun e => by subst e; simp [Ent.tid] at hnt
      have hg2 : g ≠ g2 := fun e => hgg e.symm
      clear hnt
      refine go_ ?_
      refine Qam ?_
      refine go_ ?_
      refine Qai (ns.length + 1) ?_ ?_ ?_ ?_
      · simp
      · exact Qal _
      · exact Qau rfl
      refine go_ ?_
      refine Jc (D1.out) ?_
      refine go_ ?_
      refine Je ?_
      intro i12 hi12
      try simp only [Ja, Rh, Rg, Jb] at hi12
      refine go_ ?_
      refine Rd ?_
      refine go_ ?_
      refine Jc (D2.out) ?_
      refine go_ ?_
      refine Je ?_
      intro i13 hi13
      try simp only [Ja, Rh, Rg, Jb] at hi13
      refine go_ ?_
      refine Rd ?_
      refine go_ ?_
      refine Rd ?_
      refine go_ ?_
      refine Jm (by simp) (by simp only [Tryz.results110]; rfl) (by simp [resP, St.box?, PF.get, Jn, TyK.agg, *]; rfl) Nl ?_
      exact ⟨by simp [tupP, PV.norm2, PV.norm1, PV.norm0], rfl⟩
    | false =>
      show PCalls _ _ _ _ fun p s => p = shP (shO (_, false)) ∧ s = []
      rw [sh_mk]
      rw [sh_y] at d2
      simp only [List.map_cons, List.map_nil, Jh]
      have D2 := Lib.hid d2
      clear d2
      refine PCalls.enter Tryz.func110 rfl Tryz.ntmps110 (by simp) ?_
      simp only [Qaa]
      refine go_ ?_
      refine Jd ?_
      intro i5 hi5
      try simp only [Ja, Rh, Rg, Jb] at hi5
      refine go_ ?_
      refine Je ?_
      intro i6 hi6
      try simp only [Ja, Rh, Rg, Jb] at hi6
      refine go_ ?_
      refine Je ?_
      intro i8 hi8
      try simp only [Ja, Rh, Rg, Jb] at hi8
      refine go_ ?_
      refine Rd ?_
      refine go_ ?_
      refine Qba ?_ (by decide) (by first | (simp [nev, nevA, nevB, Jp, PF.eval, PF.get, PF.wants, cPV, Qad, PV.rows, Qae, evUn, Jq, Qag, Qaf, Jn, TyK.agg, Qac, St.box?, St.tok?, St.setBox, St.setTok, Qab, spl, PV.ps, PV.one, Jo, aggD, slD, Jh, Jk, Ji, Jj, Jg, Jf, *]; done) | fail) (by simp; rfl) (by rfl) (by simp; rfl) (by rfl) (by decide)
      intro g hg
      refine go_ ?_
      refine Qai ns.length ?_ ?_ ?_ ?_
      · simp
      · simp
      · exact Qal _
      rw [List.nil_append]
      refine go_ ?_
      refine Rd ?_
      refine go_ ?_
      refine Rd ?_
      refine go_ ?_
      refine Jr (hH.out) ?_
      refine go_ ?_
      refine Re 0 0 (hN.out) ?_
      rintro p s ⟨g2, rfl, rfl⟩
      simp only [List.cons_append, List.nil_append, List.append_nil, Ja, Rh, Rg]
      refine go_ ?_
      refine Qai (L.length + ns.length) ?_ ?_ ?_ ?_
      · simp
      · exact Qal _
      · exact Qal _
      refine go_ ?_
      refine Jc (HF.out) ?_
      refine go_ ?_
      refine Rd ?_
      refine gs_ ?_
      refine Qex fun hnt => ?_
      have hgg : g2 ≠ g := fun e => by subst e; simp [Ent.tid] at hnt
      have hg2 : g ≠ g2 := fun e => hgg e.symm
      clear hnt
      refine go_ ?_
      refine Qam ?_
      refine go_ ?_
      refine Qai (ns.length + 1) ?_ ?_ ?_ ?_
      · simp
      · exact Qal _
      · exact Qau rfl
      refine go_ ?_
      refine Jc (D1.out) ?_
      refine go_ ?_
      refine Je ?_
      intro i12 hi12
      try simp only [Ja, Rh, Rg, Jb] at hi12
      refine go_ ?_
      refine Rd ?_
      refine go_ ?_
      refine Jc (D2.out) ?_
      refine go_ ?_
      refine Je ?_
      intro i13 hi13
      try simp only [Ja, Rh, Rg, Jb] at hi13
      refine go_ ?_
      refine Rd ?_
      refine go_ ?_
      refine Qam ?_
      refine go_ ?_
      refine Rd ?_
      refine go_ ?_
      refine Rd ?_
      refine go_ ?_
      refine Jm (by simp) (by simp only [Tryz.results110]; rfl) (by simp [resP, St.box?, PF.get, Jn, TyK.agg, *]; rfl) Nl ?_
      exact ⟨by simp [tupP, PV.norm2, PV.norm1, PV.norm0], rfl⟩
theorem rsh4_p (l : List En) (x y : Tm) (ns : List ByteArray) (hns : ns.length ≤ 300) (X Y : Nd × Bool) (FX : ByteArray) (hsz : FX.size ≤ maxLen) (L : List ByteArray) (hL : L.length + ns.length ≤ 300) (hn0 : PCalls Tryz.prog 95 [.d (.sl (l.map encD))] [] fun p s => ∃ g, p = .own g (L.map encD) ∧ s = [.tok g 9 1 L.length]) (hf0 : PCalls Tryz.prog 170 [.d (.v (.string ⟨#[120]⟩)), .d (.sl (L.map encD ++ ns.map encD))] [] fun p st => p = .tup [.d (.v (.string FX)), .d (.v (.int .i64 0))] ∧ st = [])
    (d1 : PCalls Tryz.prog 110 [.d (.sl (l.map encD)), .d (.sl (ns.map encD)), aggD x] [] fun p s => p = shP (shO X) ∧ s = [])
    (d2 : PCalls Tryz.prog 110 [.d (.sl (l.map encD)), .d (.sl (ns.map encD ++ [[D.v (.string FX)]])), aggD y] [] fun p s => p = shP (shO Y) ∧ s = []) :
    PCalls Tryz.prog 110 [.d (.sl (l.map encD)), .d (.sl (ns.map encD)), aggD (Tm.mk 4 0 [x, y])] [] fun p s => p = shP (shO (.mk 4 0 FX 0 [X.1, Y.1], X.2 || Y.2)) ∧ s = [] := by
  rw [Qds]
  simp only [List.map_cons, List.map_nil, Jl]
  rw [Qdg] at d1 d2
  obtain ⟨X1, X2⟩ := X
  obtain ⟨Y1, Y2⟩ := Y
  have hN := Lib.hid hn0
  have HF := Lib.hid hf0
  clear hn0 hf0
  cases X2 with
  | true =>
    rw [sh_z] at d1
    show PCalls _ _ _ _ fun p s => p = shP (shO (_, true)) ∧ s = []
    rw [sh_z]
    have D1 := Lib.hid d1
    clear d1
    cases Y2 with
    | true =>
      rw [sh_z] at d2
      have D2 := Lib.hid d2
      clear d2
      refine PCalls.enter Tryz.func110 rfl Tryz.ntmps110 (by simp) ?_
      simp only [Qaa]
      refine go_ ?_
      refine Jd ?_
      intro i5 hi5
      try simp only [Ja, Rh, Rg, Jb] at hi5
      refine go_ ?_
      refine Je ?_
      intro i6 hi6
      try simp only [Ja, Rh, Rg, Jb] at hi6
      refine go_ ?_
      refine Je ?_
      intro i8 hi8
      try simp only [Ja, Rh, Rg, Jb] at hi8
      refine go_ ?_
      refine Rd ?_
      refine go_ ?_
      refine Qba ?_ (by decide) (by first | (simp [nev, nevA, nevB, Jp, PF.eval, PF.get, PF.wants, cPV, Qad, PV.rows, Qae, evUn, Jq, Qag, Qaf, Jn, TyK.agg, Qac, St.box?, St.tok?, St.setBox, St.setTok, Qab, spl, PV.ps, PV.one, Jo, aggD, slD, Jh, Jk, Ji, Jj, Jg, Jf, *]; done) | fail) (by simp; rfl) (by rfl) (by simp; rfl) (by rfl) (by decide)
      intro g hg
      refine go_ ?_
      refine Qai ns.length ?_ ?_ ?_ ?_
      · simp
      · simp
      · exact Qal _
      rw [List.nil_append]
      refine go_ ?_
      refine Rd ?_
      refine go_ ?_
      refine Rd ?_
      refine go_ ?_
      refine Rd ?_
      refine go_ ?_
      refine Re 0 0 (hN.out) ?_
      rintro p s ⟨g2, rfl, rfl⟩
      simp only [List.cons_append, List.nil_append, List.append_nil, Ja, Rh, Rg]
      refine go_ ?_
      refine Qai (L.length + ns.length) ?_ ?_ ?_ ?_
      · simp
      · exact Qal _
      · exact Qal _
      refine go_ ?_
      refine Jc (HF.out) ?_
      refine go_ ?_
      refine Rd ?_
      refine gs_ ?_
      refine Qex fun hnt => ?_
      have hgg : g2 ≠ g := fun e => by subst e; simp [Ent.tid] at hnt
      have hg2 : g ≠ g2 := fun e => hgg e.symm
      clear hnt
      refine go_ ?_
      refine Qam ?_
      refine go_ ?_
      refine Qai (ns.length + 1) ?_ ?_ ?_ ?_
      · simp
      · exact Qal _
      · exact Qau rfl
      refine go_ ?_
      refine Jc (D1.out) ?_
      refine go_ ?_
      refine Je ?_
      intro i12 hi12
      try simp only [Ja, Rh, Rg, Jb] at hi12
      refine go_ ?_
      refine Rd ?_
      refine go_ ?_
      refine Jc (D2.out) ?_
      refine go_ ?_
      refine Je ?_
      intro i13 hi13
      try simp only [Ja, Rh, Rg, Jb] at hi13
      refine go_ ?_
      refine Rd ?_
      refine go_ ?_
      refine Rd ?_
      refine go_ ?_
      refine Jm (by simp) (by simp only [Tryz.results110]; rfl) (by simp [resP, St.box?, PF.get, Jn, TyK.agg, *]; rfl) Nl ?_
      exact ⟨by simp [tupP, PV.norm2, PV.norm1, PV.norm0], rfl⟩
    | false =>
      rw [sh_y] at d2
      have D2 := Lib.hid d2
      clear d2
      refine PCalls.enter Tryz.func110 rfl Tryz.ntmps110 (by simp) ?_
      simp only [Qaa]
      refine go_ ?_
      refine Jd ?_
      intro i5 hi5
      try simp only [Ja, Rh, Rg, Jb] at hi5
      refine go_ ?_
      refine Je ?_
      intro i6 hi6
      try simp only [Ja, Rh, Rg, Jb] at hi6
      refine go_ ?_
      refine Je ?_
      intro i8 hi8
      try simp only [Ja, Rh, Rg, Jb] at hi8
      refine go_ ?_
      refine Rd ?_
      refine go_ ?_
      refine Qba ?_ (by decide) (by first | (simp [nev, nevA, nevB, Jp, PF.eval, PF.get, PF.wants, cPV, Qad, PV.rows, Qae, evUn, Jq, Qag, Qaf, Jn, TyK.agg, Qac, St.box?, St.tok?, St.setBox, St.setTok, Qab, spl, PV.ps, PV.one, Jo, aggD, slD, Jh, Jk, Ji, Jj, Jg, Jf, *]; done) | fail) (by simp; rfl) (by rfl) (by simp; rfl) (by rfl) (by decide)
      intro g hg
      refine go_ ?_
      refine Qai ns.length ?_ ?_ ?_ ?_
      · simp
      · simp
      · exact Qal _
      rw [List.nil_append]
      refine go_ ?_
      refine Rd ?_
      refine go_ ?_
      refine Rd ?_
      refine go_ ?_
      refine Rd ?_
      refine go_ ?_
      refine Re 0 0 (hN.out) ?_
      rintro p s ⟨g2, rfl, rfl⟩
      simp only [List.cons_append, List.nil_append, List.append_nil, Ja, Rh, Rg]
      refine go_ ?_
      refine Qai (L.length + ns.length) ?_ ?_ ?_ ?_
      · simp
      · exact Qal _
      · exact Qal _
      refine go_ ?_
      refine Jc (HF.out) ?_
      refine go_ ?_
      refine Rd ?_
      refine gs_ ?_
      refine Qex fun hnt => ?_
      have hgg : g2 ≠ g := fun e => by subst e; simp [Ent.tid] at hnt
      have hg2 : g ≠ g2 := fun e => hgg e.symm
      clear hnt
      refine go_ ?_
      refine Qam ?_
      refine go_ ?_
      refine Qai (ns.length + 1) ?_ ?_ ?_ ?_
      · simp
      · exact Qal _
      · exact Qau rfl
      refine go_ ?_
      refine Jc (D1.out) ?_
      refine go_ ?_
      refine Je ?_
      intro i12 hi12
      try simp only [Ja, Rh, Rg, Jb] at hi12
      refine go_ ?_
      refine Rd ?_
      refine go_ ?_
      refine Jc (D2.out) ?_
      refine go_ ?_
      refine Je ?_
      intro i13 hi13
      try simp only [Ja, Rh, Rg, Jb] at hi13
      refine go_ ?_
      refine Rd ?_
      refine go_ ?_
      refine Rd ?_
      refine go_ ?_
      refine Jm (by simp) (by simp only [Tryz.results110]; rfl) (by simp [resP, St.box?, PF.get, Jn, TyK.agg, *]; rfl) Nl ?_
      exact ⟨by simp [tupP, PV.norm2, PV.norm1, PV.norm0], rfl⟩
  | false =>
    rw [sh_y] at d1
    have D1 := Lib.hid d1
    clear d1
    cases Y2 with
    | true =>
      show PCalls _ _ _ _ fun p s => p = shP (shO (_, true)) ∧ s = []
      rw [sh_z] at d2 ⊢
      have D2 := Lib.hid d2
      clear d2
      refine PCalls.enter Tryz.func110 rfl Tryz.ntmps110 (by simp) ?_
      simp only [Qaa]
      refine go_ ?_
      refine Jd ?_
      intro i5 hi5
      try simp only [Ja, Rh, Rg, Jb] at hi5
      refine go_ ?_
      refine Je ?_
      intro i6 hi6
      try simp only [Ja, Rh, Rg, Jb] at hi6
      refine go_ ?_
      refine Je ?_
      intro i8 hi8
      try simp only [Ja, Rh, Rg, Jb] at hi8
      refine go_ ?_
      refine Rd ?_
      refine go_ ?_
      refine Qba ?_ (by decide) (by first | (simp [nev, nevA, nevB, Jp, PF.eval, PF.get, PF.wants, cPV, Qad, PV.rows, Qae, evUn, Jq, Qag, Qaf, Jn, TyK.agg, Qac, St.box?, St.tok?, St.setBox, St.setTok, Qab, spl, PV.ps, PV.one, Jo, aggD, slD, Jh, Jk, Ji, Jj, Jg, Jf, *]; done) | fail) (by simp; rfl) (by rfl) (by simp; rfl) (by rfl) (by decide)
      intro g hg
      refine go_ ?_
      refine Qai ns.length ?_ ?_ ?_ ?_
      · simp
      · simp
      · exact Qal _
      rw [List.nil_append]
      refine go_ ?_
      refine Rd ?_
      refine go_ ?_
      refine Rd ?_
      refine go_ ?_
      refine Rd ?_
      refine go_ ?_
      refine Re 0 0 (hN.out) ?_
      rintro p s ⟨g2, rfl, rfl⟩
      simp only [List.cons_append, List.nil_append, List.append_nil, Ja, Rh, Rg]
      refine go_ ?_
      refine Qai (L.length + ns.length) ?_ ?_ ?_ ?_
      · simp
      · exact Qal _
      · exact Qal _
      refine go_ ?_
      refine Jc (HF.out) ?_
      refine go_ ?_
      refine Rd ?_
      refine gs_ ?_
      refine Qex fun hnt => ?_
      have hgg : g2 ≠ g := fun e => by subst e; simp [Ent.tid] at hnt
      have hg2 : g ≠ g2 := fun e => hgg e.symm
      clear hnt
      refine go_ ?_
      refine Qam ?_
      refine go_ ?_
      refine Qai (ns.length + 1) ?_ ?_ ?_ ?_
      · simp
      · exact Qal _
      · exact Qau rfl
      refine go_ ?_
      refine Jc (D1.out) ?_
      refine go_ ?_
      refine Je ?_
      intro i12 hi12
      try simp only [Ja, Rh, Rg, Jb] at hi12
      refine go_ ?_
      refine Rd ?_
      refine go_ ?_
      refine Jc (D2.out) ?_
      refine go_ ?_
      refine Je ?_
      intro i13 hi13
      try simp only [Ja, Rh, Rg, Jb] at hi13
      refine go_ ?_
      refine Rd ?_
      refine go_ ?_
      refine Rd ?_
      refine go_ ?_
      refine Jm (by simp) (by simp only [Tryz.results110]; rfl) (by simp [resP, St.box?, PF.get, Jn, TyK.agg, *]; rfl) Nl ?_
      exact ⟨by simp [tupP, PV.norm2, PV.norm1, PV.norm0], rfl⟩
    | false =>
      show PCalls _ _ _ _ fun p s => p = shP (shO (_, false)) ∧ s = []
      rw [sh_mk]
      rw [sh_y] at d2
      simp only [List.map_cons, List.map_nil, Jh]
      have D2 := Lib.hid d2
      clear d2
      refine PCalls.enter Tryz.func110 rfl Tryz.ntmps110 (by simp) ?_
      simp only [Qaa]
      refine go_ ?_
      refine Jd ?_
      intro i5 hi5
      try simp only [Ja, Rh, Rg, Jb] at hi5
      refine go_ ?_
      refine Je ?_
      intro i6 hi6
      try simp only [Ja, Rh, Rg, Jb] at hi6
      refine go_ ?_
      refine Je ?_
      intro i8 hi8
      try simp only [Ja, Rh, Rg, Jb] at hi8
      refine go_ ?_
      refine Rd ?_
      refine go_ ?_
      refine Qba ?_ (by decide) (by first | (simp [nev, nevA, nevB, Jp, PF.eval, PF.get, PF.wants, cPV, Qad, PV.rows, Qae, evUn, Jq, Qag, Qaf, Jn, TyK.agg, Qac, St.box?, St.tok?, St.setBox, St.setTok, Qab, spl, PV.ps, PV.one, Jo, aggD, slD, Jh, Jk, Ji, Jj, Jg, Jf, *]; done) | fail) (by simp; rfl) (by rfl) (by simp; rfl) (by rfl) (by decide)
      intro g hg
      refine go_ ?_
      refine Qai ns.length ?_ ?_ ?_ ?_
      · simp
      · simp
      · exact Qal _
      rw [List.nil_append]
      refine go_ ?_
      refine Rd ?_
      refine go_ ?_
      refine Rd ?_
      refine go_ ?_
      refine Rd ?_
      refine go_ ?_
      refine Re 0 0 (hN.out) ?_
      rintro p s ⟨g2, rfl, rfl⟩
      simp only [List.cons_append, List.nil_append, List.append_nil, Ja, Rh, Rg]
      refine go_ ?_
      refine Qai (L.length + ns.length) ?_ ?_ ?_ ?_
      · simp
      · exact Qal _
      · exact Qal _
      refine go_ ?_
      refine Jc (HF.out) ?_
      refine go_ ?_
      refine Rd ?_
      refine gs_ ?_
      refine Qex fun hnt => ?_
      have hgg : g2 ≠ g := fun e => by subst e; simp [Ent.tid] at hnt
      have hg2 : g ≠ g2 := fun e => hgg e.symm
      clear hnt
      refine go_ ?_
      refine Qam ?_
      refine go_ ?_
      refine Qai (ns.length + 1) ?_ ?_ ?_ ?_
      · simp
      · exact Qal _
      · exact Qau rfl
      refine go_ ?_
      refine Jc (D1.out) ?_
      refine go_ ?_
      refine Je ?_
      intro i12 hi12
      try simp only [Ja, Rh, Rg, Jb] at hi12
      refine go_ ?_
      refine Rd ?_
      refine go_ ?_
      refine Jc (D2.out) ?_
      refine go_ ?_
      refine Je ?_
      intro i13 hi13
      try simp only [Ja, Rh, Rg, Jb] at hi13
      refine go_ ?_
      refine Rd ?_
      refine go_ ?_
      refine Qam ?_
      refine go_ ?_
      refine Rd ?_
      refine go_ ?_
      refine Rd ?_
      refine go_ ?_
      refine Jm (by simp) (by simp only [Tryz.results110]; rfl) (by simp [resP, St.box?, PF.get, Jn, TyK.agg, *]; rfl) Nl ?_
      exact ⟨by simp [tupP, PV.norm2, PV.norm1, PV.norm0], rfl⟩
end Go.Proofs.YtdklpbefbamchaaGreat

import Derived.Test.YtdklpbefbamchaaGreatBA5
set_option linter.unusedSimpArgs false
set_option linter.unusedVariables false
set_option maxHeartbeats 16000000
set_option maxRecDepth 100000
namespace Go.Proofs.YtdklpbefbamchaaGreat
open Go.RowKit
theorem Qlp {P : Program} (w : World) (t xt ty e : TypeId) {i : TypeInfo} {z : Value} {es bytes : Nat} (ht : P.underlying t = some (.slice e)) {dx : TypeDesc} (hxt : P.underlying xt = some dx) (hnz : ∀ k, dx ≠ .int k) (hi : P.info? e = some i) (hz : i.zero = some z) (hsize : i.size = es) (hby : i.bytes = bytes) (hzs : z.cells.size = es)
    {a : Option Addr} {n : Nat} {xs : List Value} (hxl : xs.length = n * es) (ha : a = none → n = 0) (holds : ∀ ad, a = some ad → ∀ j u, xs[j]? = some u → w.cell? (ad.add j) = some u) {x : Value} {m : Nat} {news : List Value} (hsrc : Src P w es x m news) (hl : news.length = m * es) (hm : 0 < m) (h63 : n + m ≤ maxLen) (hbytes : (n + m) * bytes ≤ 140737488355328) :
    ∃ cap arr, (Builtin.append_ #[t, xt] ty #[.slice a n n, x]).run P w = .ok (.slice (some ⟨w.heap.size, 0, none⟩) (n + m) cap) (w.drew.alloc (.cells arr e)) ∧ (w.drew.alloc (.cells arr e)).ownsRow 0 e es (.slice (some ⟨w.heap.size, 0, none⟩) (n + m) cap) (n + m) (xs ++ news) := by
  obtain ⟨hs1, hs2⟩ := hsrc
  subst hsize
  subst hby
  have hsmall : n + m ≤ 9223372036854775807 := by simp only [maxLen] at h63; omega
  have hlen : (xs ++ news).length = (n + m) * i.size := by rw [List.length_append, hxl, hl, Nat.add_mul]
  have hzero : (match dx with | .int _ => true | _ => false) = false := by cases dx <;> first | rfl | exact absurd rfl (hnz _)
  have hfd := hs2 w.drew rfl
  have grown : ∀ (old : Nat), old < n + m →
      (w.drew.alloc (.cells (xs.toArray ++ news.toArray ++ Builtin.zeroCells z.cells (grownCap w (n + m) old e - (n + m))) e)).ownsRow 0 e i.size
        (.slice (some ⟨w.heap.size, 0, none⟩) (n + m) (grownCap w (n + m) old e)) (n + m) (xs ++ news) := by
    intro old ho
    have hge := grownCap_ge w (n + m) old e
    have hcm : grownCap w (n + m) old e ≤ maxLen := grownCap_le_maxLen w (n + m) old e h63
    refine ⟨hlen, .inr ⟨w.heap.size, _, _, rfl, Nat.zero_le _, heap_alloc_new w.drew _, hge, hcm, ?_, ?_⟩⟩
    · simp only [Array.size_append, List.size_toArray, size_zeroCells, hzs, hxl, hl, ← Nat.add_mul]
      congr 1
      omega
    · simp only [Array.toList_append, List.append_assoc]
      rw [← List.append_assoc, ← hlen]
      exact List.take_left
  have hgr := grown n (by omega)
  have hn : ¬ (m = 0) := by omega
  have hn0 : ¬ (n + m ≤ n) := by omega
  have h63' : ¬ (9223372036854775807 < ((n : Int) + (m : Int))) := by omega
  have h48' : ¬ (281474976710656 < Builtin.nextslicecap (n + m) n * i.bytes) := by
    by_cases h0 : n = 0
    · subst h0
      simp only [Nat.zero_add] at hbytes hsmall ⊢
      rw [nextslicecap_zero (by omega)]; omega
    · have := growslice_fits (old := n) (by omega) hbytes; omega
  have hfo : (Builtin.firstCells i.size n (.slice a n n)).run P w.drew = .ok xs.toArray w.drew := by
    cases a with
    | none =>
      have h0 := ha rfl
      subst h0
      have : xs = [] := List.eq_nil_of_length_eq_zero (by rw [hxl]; simp)
      subst this
      simp [Builtin.firstCells]
    | some ad => exact run_firstCells_some (P := P) w.drew i.size n ad n n xs hxl fun j u hj => holds ad rfl j u hj
  refine ⟨_, _, ?_, hgr⟩
  simp [Builtin.append_, run_underlying ht, run_underlying hxt, sizeOf, typeInfo, zeroValue, hi, hz, hzero, hs1, hn, hn0, h63', h48', Question.forced, hfo, hfd, newRow, grownCap]
  congr 2
  apply Array.ext'
  simp [List.append_assoc]
theorem RelD.shrink {K : Nat → Nat → Prop} {w : World} {rows : List (List D)} {a : Option Addr} {cap : Nat} (h : RelD K w (.sl rows) (.slice a rows.length cap)) : RelD K w (.sl rows) (.slice a rows.length rows.length) := by
  generalize hv : Value.slice a rows.length cap = v at h
  generalize hd : D.sl rows = d at h
  cases h with
  | v h => cases hd
  | nil h =>
    cases hd
    simp only [List.length_nil, Value.slice.injEq] at hv
    obtain ⟨rfl, -, -⟩ := hv
    exact .nil (Nat.zero_le _)
  | sl vals h1 h2 h3 h4 h5 =>
    cases hd
    simp only [Value.slice.injEq] at hv
    obtain ⟨rfl, -, -⟩ := hv
    exact .sl vals (Nat.le_refl _) (Nat.le_trans h1 h2) h3 h4 h5
theorem POp_slice3 {P : Program} {o : Oper} {ρ : Operand → Option PV} {t : TypeId} {x y z : Operand} (ho : o.op = .slice t x none (some y) (some z)) {E es : Nat} {ea : Option Bool} {T : Ty} (hT : tyOf P t = some T) (hk : T.k = .slice E es ea) (hes : es ≠ 0) {p : PV} (hx : ρ x = some p) {rows : List (List D)} (hp : p.rows = some rows) (hl : ∀ row ∈ rows, row.length = es) {ky kz : IntKind} {hy hz : Int} (hy1 : ρ y = some (.d (.v (.int ky hy)))) (hz1 : ρ z = some (.d (.v (.int kz hz)))) (ey : hy = rows.length) (ez : hz = rows.length) (st : St) :
    POp P o ρ st fun q s => q = .full rows ∧ s = st := by
  subst ey ez
  refine POp.of_run fun F K w a hr0 hops => ?_
  obtain ⟨dst, op, ty, pos, after, guard⟩ := o
  simp only at ho hops
  subst ho
  obtain ⟨d, hd, rfl⟩ := Qbf hT
  cases d with
  | slice E' =>
    simp only [tyK, TyK.slice.injEq] at hk
    obtain ⟨rfl, hsz, rfl⟩ := hk
    have hr := Qee hp (hops x (by simp [Op.operands]) p hx)
    obtain ⟨b, cap, hv, hc, hm⟩ := Qgv hr
    rw [hv] at hr
    have hu : P.underlying t = some (.slice (P.elem t)) := by rw [hd]; simp [Program.elem, hd]
    have he : P.elem t = E' := by simpa [hd] using hu.symm
    have hso : ∀ w', (sizeOf (P.elem t)).run P w' = .ok es w' := fun w' => by rw [he]; rw [← hsz] at hes ⊢; exact Qdo hes w'
    have hcut := rows_cut hr.shrink hl (Nat.zero_le rows.length) (Nat.le_refl _) (Nat.le_refl _) (Nat.le_trans hc hm)
    rw [List.drop_zero, List.take_length] at hcut
    obtain ⟨e1, -⟩ := (hops y (by simp [Op.operands]) _ hy1).flat
    obtain ⟨e2, -⟩ := (hops z (by simp [Op.operands]) _ hz1).flat
    have hform : sliced b 0 rows.length rows.length es = .slice (if rows.length = 0 then b else b.map (·.add (0 * es))) rows.length rows.length := by unfold sliced; rfl
    rw [hform] at hcut
    refine ⟨_, w, K, _, st, ?_, Ext.refl _ _ _, hr0, .full hcut, rfl, rfl⟩
    rw [← hform]
    simp only [execOp, hv, Sem.run_bind]
    simp only [Option.map_none, Option.map_some, e1, e2, run_sliceAt_slice w t _ _ _ _ hu, run_slice_hm w t b rows.length cap hu ky kz rows.length rows.length (by omega) (by omega) (by omega), hso, Result.andThen_ok, Int.toNat_natCast]; rfl
  | _ => simp [tyK] at hk
theorem Qlc {P : Program} {o : Oper} {ρ : Operand → Option PV} {s x : Operand} {t xt : TypeId} (ho : o.op = .call { callee := .builtin .append, args := #[s, x], argTypes := #[t, xt] }) {rows : List (List D)} (hs : ρ s = some (.full rows)) {p : PV} (hx : ρ x = some p) {rows' : List (List D)} (hp : p.src = some rows')
    {T : Ty} (hT : tyOf P t = some T) {E es bytes : Nat} {ea : Option Bool} (hk : T.k = .slice E es ea) (hX : Qdh ((tyOf P xt).map (·.k)) = true) (hE : elOf P E = some (es, bytes)) (hes : 0 < es) (hl0 : ∀ row ∈ rows, row.length = es) (hl : ∀ row ∈ rows', row.length = es) (hne : 0 < rows'.length) (h63 : rows.length + rows'.length ≤ maxLen) (hb : (rows.length + rows'.length) * bytes ≤ 140737488355328) (st : St) :
    POp P o ρ st fun q s => q = .d (.sl (rows ++ rows')) ∧ s = st := by
  refine POp.of_run fun F K w a h1 h2 => ?_
  obtain ⟨dst, op, ty, pos, after, guard⟩ := o
  simp only at ho h2
  subst ho
  obtain ⟨d, hd, rfl⟩ := Qbf hT
  have hr := h2 s (by simp [Op.operands, Call.operands]) _ hs
  have hv := h2 x (by simp [Op.operands, Call.operands]) _ hx
  cases d with
  | slice E' =>
    simp only [tyK, TyK.slice.injEq] at hk
    obtain ⟨rfl, hes', rfl⟩ := hk
    obtain ⟨ie, z, hie, hz, hsz, hby, hzs⟩ := Qiu hE
    obtain ⟨dx, hdx, hnz⟩ : ∃ dx, P.underlying xt = some dx ∧ ∀ k, dx ≠ .int k := by
      unfold tyOf at hX
      cases hq : P.underlying xt with
      | none => rw [hq] at hX; cases hX
      | some dx =>
        rw [hq] at hX
        refine ⟨dx, rfl, fun k e => ?_⟩
        subst e
        simp [Qdh, tyK] at hX
    generalize hva : a.eval s = va at hr
    cases hr with
    | @full _ ad hrd =>
    obtain ⟨xs, hold, a2, cap2, hv2, hc2⟩ := hrd.rv hes hl0
    simp only [Value.slice.injEq] at hv2
    obtain ⟨rfl, -, -⟩ := hv2
    have hnone : ad = none → rows.length = 0 := fun e => by
      subst e
      generalize hd : D.sl rows = d at hrd
      generalize hq : Value.slice none rows.length rows.length = q at hrd
      cases hrd with
      | v h => cases hd
      | nil h => cases hd; rfl
      | sl => cases hq
    obtain ⟨news, hnews, hsrc⟩ := src_of (P := P) hp hv hes hl
    obtain ⟨cap, arr, hrun, hown⟩ := Qlp (P := P) w t xt ty E' hd hdx hnz hie hz hsz hby hzs hold.1 hnone (fun ad' h j u hj => (hc2 ad' h j u hj).1) hsrc hnews.1 hne h63 hb
    have hbl : Below w.heap.size w (w.drew.alloc (.cells arr E')) := ((Below.refl w.heap.size w).drew).alloc (Nat.le_refl _) _
    have hxt : Ext F K w ⟨fun b o => K.cell b o ∨ (w.heap.size ≤ b ∧ ∃ u, (w.drew.alloc (.cells arr E')).cell? ⟨b, o, none⟩ = some u), K.box, K.own⟩ (w.drew.alloc (.cells arr E')) := Qhq hbl h1.ff (fun b o h => h1.klt h) (fun _ _ h => .inl h) (fun _ _ h => h.imp id fun h => h.1) rfl rfl
    refine ⟨.slice (some ⟨w.heap.size, 0, none⟩) (rows.length + rows'.length) cap, _, _, .d (.sl (rows ++ rows')), st, ?_, hxt, ⟨fun b o hc => ?_, fun b hf => by have := h1.ff b hf; have := hbl.size; omega, h1.fin, h1.fi, fun e he => ?_, h1.nb, h1.nt⟩, ?_, rfl, rfl⟩
    · simp only [execOp, resolve, invoke, builtin, Sem.run_bind, Sem.run_pure, Result.andThen_ok, List.map_toArray, List.map_cons, List.map_nil, hva, hrun]
    · rcases hc with hc | ⟨_, hc⟩
      · obtain ⟨v, hv⟩ := h1.kc b o hc
        exact ⟨v, (hxt.kp b o hc).2.trans hv⟩
      · exact hc
    · refine (h1.ents e he).keep hxt (fun b hb => hbl.block _ ((h1.ents e he).lt hb).1) (fun b o hb hc => ?_) fun _ _ => rfl
      rcases hc with hc | ⟨hc, _⟩
      · exact hc
      · have := ((h1.ents e he).lt hb).1; omega
    · refine .d (((hold.mono hxt.kp).append (hnews.mono hxt.kp)).rel hown (by rw [List.length_append]) fun b hb o ho => .inr ⟨?_, ?_⟩)
      · simp only [Value.ownBlock, Option.some.injEq] at hb; omega
      · simp only [Value.ownBlock, Option.some.injEq] at hb
        subst hb
        rcases hown.2 with ⟨h, _⟩ | ⟨b', cap', cur, hq, _, hh, hle, hm, hcs, htake⟩
        · cases h
        · simp only [Value.slice.injEq, Option.some.injEq, Addr.mk.injEq] at hq
          obtain ⟨⟨rfl, -, -⟩, -, rfl⟩ := hq
          have : (rows.length + rows'.length) * es ≤ cap * es := Nat.mul_le_mul_right _ hle
          rw [Qcr hh]
          exact ⟨_, Array.getElem?_eq_getElem (by omega)⟩
  | _ => simp [tyK] at hk
section
variable {P : Program} {J : St → Prop} {n : Nat} {ops : Array Oper} {Q : PF → St → Prop} {fr : PF} {st : St} {p : PV} {ty : TypeId} {pos : String} {after : Array Edge} {gd : Option (Nat × Bool)} {d j : Nat} {od : List (Nat × Kd)}
theorem Qld {t : TypeId} {x y z : Operand} {ts E es : Nat} {ea : Option Bool} {T0 : Ty} {rows : List (List D)} {q1 q2 : PV} {ky kz : IntKind} {hy hz : Int} (hk : POrd P n ops Q od ((d, .full rows) :: fr) st) (hl : ∀ row ∈ rows, row.length = es) (ho : ops[j]? = some ⟨some d, .slice t x none (some y) (some z), ty, pos, after, gd⟩ := by rfl) (hd : d < n := by decide)
  (hw : PF.wants fr ops ⟨some d, .slice t x none (some y) (some z), ty, pos, after, gd⟩ = some true := by first | (simp [nev, nevA, nevB, Jp, PF.eval, PF.get, PF.wants, cPV, Qad, PV.rows, Qae, evUn, Jq, Qag, Qaf, Jn, TyK.agg, Qac, St.box?, St.tok?, St.setBox, St.setTok, Qab, spl, PV.ps, PV.one, Jo, aggD, slD, Jh, Jk, Ji, Jj, Jg, Jf, *]; done) | fail) (hT : tyOf P t = some T0 := by simp; rfl) (hT2 : T0 = ⟨ts, .slice E es ea⟩ := by rfl) (hes : es ≠ 0 := by decide) (hx : fr.eval x = some p := by simp [nev, nevA, nevB, Jp, PF.eval, PF.get, PF.wants, cPV, Qad, PV.rows, Qae, evUn, Jq, Qag, Qaf, Jn, TyK.agg, Qac, St.box?, St.tok?, St.setBox, St.setTok, Qab, spl, PV.ps, PV.one, Jo, aggD, slD, Jh, Jk, Ji, Jj, Jg, Jf, *]; rfl) (hp : p.rows = some rows := by simp [PV.rows]; rfl)
  (hy1 : fr.eval y = some q1 := by simp [nev, nevA, nevB, Jp, PF.eval, PF.get, PF.wants, cPV, Qad, PV.rows, Qae, evUn, Jq, Qag, Qaf, Jn, TyK.agg, Qac, St.box?, St.tok?, St.setBox, St.setTok, Qab, spl, PV.ps, PV.one, Jo, aggD, slD, Jh, Jk, Ji, Jj, Jg, Jf, *]; rfl) (hq1 : q1 = .d (.v (.int ky hy)) := by rfl) (ey : hy = rows.length := by first | rfl | (simp; done)) (hz1 : fr.eval z = some q2 := by simp [nev, nevA, nevB, Jp, PF.eval, PF.get, PF.wants, cPV, Qad, PV.rows, Qae, evUn, Jq, Qag, Qaf, Jn, TyK.agg, Qac, St.box?, St.tok?, St.setBox, St.setTok, Qab, spl, PV.ps, PV.one, Jo, aggD, slD, Jh, Jk, Ji, Jj, Jg, Jf, *]; rfl) (hq2 : q2 = .d (.v (.int kz hz)) := by rfl) (ez : hz = rows.length := by first | rfl | (simp; done)) : POrd P n ops Q ((j, .a) :: od) fr st := by
 subst hq1 hq2
 exact ⟨_, ho, fun _ e => (by cases e; exact hd), .inr ⟨hw, _, fun s => POp_slice3 (o := ⟨some d, .slice t x none (some y) (some z), ty, pos, after, gd⟩) rfl (hT2 ▸ hT) rfl hes hx hp hl hy1 hz1 ey ez s, hk⟩⟩
theorem Qkl {t : TypeId} {x y z : Operand} {ts E es : Nat} {ea : Option Bool} {T0 : Ty} {rows : List (List D)} {q1 q2 : PV} {ky kz : IntKind} {hy hz : Int} (hk : Qbn P J n ops Q od ((d, .full rows) :: fr) st) (hl : ∀ row ∈ rows, row.length = es) (ho : ops[j]? = some ⟨some d, .slice t x none (some y) (some z), ty, pos, after, gd⟩ := by rfl) (hd : d < n := by decide)
  (hw : PF.wants fr ops ⟨some d, .slice t x none (some y) (some z), ty, pos, after, gd⟩ = some true := by first | (simp [nev, nevA, nevB, Jp, PF.eval, PF.get, PF.wants, cPV, Qad, PV.rows, Qae, evUn, Jq, Qag, Qaf, Jn, TyK.agg, Qac, St.box?, St.tok?, St.setBox, St.setTok, Qab, spl, PV.ps, PV.one, Jo, aggD, slD, Jh, Jk, Ji, Jj, Jg, Jf, *]; done) | fail) (hT : tyOf P t = some T0 := by simp; rfl) (hT2 : T0 = ⟨ts, .slice E es ea⟩ := by rfl) (hes : es ≠ 0 := by decide) (hx : fr.eval x = some p := by simp [nev, nevA, nevB, Jp, PF.eval, PF.get, PF.wants, cPV, Qad, PV.rows, Qae, evUn, Jq, Qag, Qaf, Jn, TyK.agg, Qac, St.box?, St.tok?, St.setBox, St.setTok, Qab, spl, PV.ps, PV.one, Jo, aggD, slD, Jh, Jk, Ji, Jj, Jg, Jf, *]; rfl) (hp : p.rows = some rows := by simp [PV.rows]; rfl)
  (hy1 : fr.eval y = some q1 := by simp [nev, nevA, nevB, Jp, PF.eval, PF.get, PF.wants, cPV, Qad, PV.rows, Qae, evUn, Jq, Qag, Qaf, Jn, TyK.agg, Qac, St.box?, St.tok?, St.setBox, St.setTok, Qab, spl, PV.ps, PV.one, Jo, aggD, slD, Jh, Jk, Ji, Jj, Jg, Jf, *]; rfl) (hq1 : q1 = .d (.v (.int ky hy)) := by rfl) (ey : hy = rows.length := by first | rfl | (simp; done)) (hz1 : fr.eval z = some q2 := by simp [nev, nevA, nevB, Jp, PF.eval, PF.get, PF.wants, cPV, Qad, PV.rows, Qae, evUn, Jq, Qag, Qaf, Jn, TyK.agg, Qac, St.box?, St.tok?, St.setBox, St.setTok, Qab, spl, PV.ps, PV.one, Jo, aggD, slD, Jh, Jk, Ji, Jj, Jg, Jf, *]; rfl) (hq2 : q2 = .d (.v (.int kz hz)) := by rfl) (ez : hz = rows.length := by first | rfl | (simp; done)) : Qbn P J n ops Q ((j, .a) :: od) fr st := by
 subst hq1 hq2
 exact ⟨_, ho, fun _ e => (by cases e; exact hd), .inr ⟨hw, _, fun s _ => POp_slice3 (o := ⟨some d, .slice t x none (some y) (some z), ty, pos, after, gd⟩) rfl (hT2 ▸ hT) rfl hes hx hp hl hy1 hz1 ey ez s, hk⟩⟩
theorem Qkm {s x : Operand} {t xt : TypeId} {q : PV} {rows rows' : List (List D)} {ts E es bytes : Nat} {ea : Option Bool} {T0 : Ty} {e0 : Nat × Nat}
  (h : POrd P n ops Q od ((d, .d (.sl (rows ++ rows'))) :: fr) st) (hl0 : ∀ row ∈ rows, row.length = es) (hl : ∀ row ∈ rows', row.length = es) (hne : 0 < rows'.length) (h63 : rows.length + rows'.length ≤ maxLen) (hb : (rows.length + rows'.length) * bytes ≤ 140737488355328)
  (ho : ops[j]? = some ⟨some d, .call { callee := .builtin .append, args := #[s, x], argTypes := #[t, xt] }, ty, pos, after, gd⟩ := by rfl) (hd : d < n := by decide)
  (hw : PF.wants fr ops ⟨some d, .call { callee := .builtin .append, args := #[s, x], argTypes := #[t, xt] }, ty, pos, after, gd⟩ = some true := by first | (simp [nev, nevA, nevB, Jp, PF.eval, PF.get, PF.wants, cPV, Qad, PV.rows, Qae, evUn, Jq, Qag, Qaf, Jn, TyK.agg, Qac, St.box?, St.tok?, St.setBox, St.setTok, Qab, spl, PV.ps, PV.one, Jo, aggD, slD, Jh, Jk, Ji, Jj, Jg, Jf, *]; done) | fail)
  (hs : fr.eval s = some q := by simp [nev, nevA, nevB, Jp, PF.eval, PF.get, PF.wants, cPV, Qad, PV.rows, Qae, evUn, Jq, Qag, Qaf, Jn, TyK.agg, Qac, St.box?, St.tok?, St.setBox, St.setTok, Qab, spl, PV.ps, PV.one, Jo, aggD, slD, Jh, Jk, Ji, Jj, Jg, Jf, *]; rfl) (hq : q = .full rows := by rfl) (hx : fr.eval x = some p := by simp [nev, nevA, nevB, Jp, PF.eval, PF.get, PF.wants, cPV, Qad, PV.rows, Qae, evUn, Jq, Qag, Qaf, Jn, TyK.agg, Qac, St.box?, St.tok?, St.setBox, St.setTok, Qab, spl, PV.ps, PV.one, Jo, aggD, slD, Jh, Jk, Ji, Jj, Jg, Jf, *]; rfl) (hp : p.src = some rows' := by simp [PV.src, PV.rows]; rfl)
  (hT : tyOf P t = some T0 := by simp; rfl) (hT2 : T0 = ⟨ts, .slice E es ea⟩ := by rfl) (hX : Qdh ((tyOf P xt).map (·.k)) = true := by simp [Qdh]) (hE : elOf P E = some e0 := by simp; rfl) (hE2 : e0 = (es, bytes) := by rfl) (hes : 0 < es := by decide) : POrd P n ops Q ((j, .e) :: od) fr st := by
 subst hq hT2 hE2
 exact POrd_e ho hd hw ((Qlc (o := ⟨some d, .call { callee := .builtin .append, args := #[s, x], argTypes := #[t, xt] }, ty, pos, after, gd⟩) rfl hs hx hp hT rfl hX hE hes hl0 hl hne h63 hb st).mono fun q s ⟨e1, e2⟩ => by subst e1; subst e2; exact h)
theorem Qjm {s x : Operand} {t xt : TypeId} {q : PV} {rows rows' : List (List D)} {ts E es bytes : Nat} {ea : Option Bool} {T0 : Ty} {e0 : Nat × Nat}
  (h : Qbn P J n ops Q od ((d, .d (.sl (rows ++ rows'))) :: fr) st) (hl0 : ∀ row ∈ rows, row.length = es) (hl : ∀ row ∈ rows', row.length = es) (hne : 0 < rows'.length) (hJ : Qhc ops j = true ∨ J st) (h63 : rows.length + rows'.length ≤ maxLen) (hb : (rows.length + rows'.length) * bytes ≤ 140737488355328)
  (ho : ops[j]? = some ⟨some d, .call { callee := .builtin .append, args := #[s, x], argTypes := #[t, xt] }, ty, pos, after, gd⟩ := by rfl) (hd : d < n := by decide)
  (hw : PF.wants fr ops ⟨some d, .call { callee := .builtin .append, args := #[s, x], argTypes := #[t, xt] }, ty, pos, after, gd⟩ = some true := by first | (simp [nev, nevA, nevB, Jp, PF.eval, PF.get, PF.wants, cPV, Qad, PV.rows, Qae, evUn, Jq, Qag, Qaf, Jn, TyK.agg, Qac, St.box?, St.tok?, St.setBox, St.setTok, Qab, spl, PV.ps, PV.one, Jo, aggD, slD, Jh, Jk, Ji, Jj, Jg, Jf, *]; done) | fail)
  (hs : fr.eval s = some q := by simp [nev, nevA, nevB, Jp, PF.eval, PF.get, PF.wants, cPV, Qad, PV.rows, Qae, evUn, Jq, Qag, Qaf, Jn, TyK.agg, Qac, St.box?, St.tok?, St.setBox, St.setTok, Qab, spl, PV.ps, PV.one, Jo, aggD, slD, Jh, Jk, Ji, Jj, Jg, Jf, *]; rfl) (hq : q = .full rows := by rfl) (hx : fr.eval x = some p := by simp [nev, nevA, nevB, Jp, PF.eval, PF.get, PF.wants, cPV, Qad, PV.rows, Qae, evUn, Jq, Qag, Qaf, Jn, TyK.agg, Qac, St.box?, St.tok?, St.setBox, St.setTok, Qab, spl, PV.ps, PV.one, Jo, aggD, slD, Jh, Jk, Ji, Jj, Jg, Jf, *]; rfl) (hp : p.src = some rows' := by simp [PV.src, PV.rows]; rfl)
  (hT : tyOf P t = some T0 := by simp; rfl) (hT2 : T0 = ⟨ts, .slice E es ea⟩ := by rfl) (hX : Qdh ((tyOf P xt).map (·.k)) = true := by simp [Qdh]) (hE : elOf P E = some e0 := by simp; rfl) (hE2 : e0 = (es, bytes) := by rfl) (hes : 0 < es := by decide) : Qbn P J n ops Q ((j, .e) :: od) fr st := by
 subst hq hT2 hE2
 exact PL_e ho hd hw ((Qlc (o := ⟨some d, .call { callee := .builtin .append, args := #[s, x], argTypes := #[t, xt] }, ty, pos, after, gd⟩) rfl hs hx hp hT rfl hX hE hes hl0 hl hne h63 hb st).mono fun q s ⟨e1, e2⟩ => by subst e1; subst e2; exact ⟨hJ, h⟩)
end
end Go.Proofs.YtdklpbefbamchaaGreat

import Derived.Test.YtdklpbefbamchaaGreatDBA6
set_option linter.unusedSimpArgs false
set_option linter.unusedVariables false
set_option maxHeartbeats 16000000
set_option maxRecDepth 100000
namespace Go.Proofs.YtdklpbefbamchaaGreat
open Go.RowKit
section
variable {P : Program} {n : Nat} {ops : Array Oper} {Q : PF → St → Prop} {rest : List Oper} {fr : PF} {st L M st0 : St} {ty : TypeId} {pos : String} {after : Array Edge} {gd : Option (Nat × Bool)} {d f j : Nat} {xs : Array Operand} {ts : Array TypeId} {ps qs : List PV} {R : PV → St → Prop} {od : List (Nat × Kd)}
theorem POrd_callX (k m : Nat) (hc : PCalls P f qs st0 R) (h : ∀ p s, R p s → POrd P n ops Q od ((d, p) :: fr) (L ++ (s ++ M)))
  (ho : ops[j]? = some ⟨some d, .call { callee := .value (.func f), args := xs, argTypes := ts }, ty, pos, after, gd⟩ := by rfl)
  (hL : st.take k = L := by simp only [List.cons_append, List.nil_append, List.take_succ_cons, List.take_zero]; rfl)
  (h0 : (st.drop k).take m = st0 := by rfl)
  (hM : (st.drop k).drop m = M := by simp only [List.cons_append, List.nil_append, List.drop_succ_cons, List.drop_zero, List.drop_nil]; rfl)
  (hd : d < n := by decide)
  (hw : PF.wants fr ops ⟨some d, .call { callee := .value (.func f), args := xs, argTypes := ts }, ty, pos, after, gd⟩ = some true := by first | (simp [nev, nevA, nevB, Jp, PF.eval, PF.get, PF.wants, cPV, Qag, PV.rows, Qah, evUn, Jq, Qaj, Qai, Jn, TyK.agg, Qaf, St.box?, St.tok?, St.setBox, St.setTok, Qae, spl, PV.ps, PV.one, Jo, aggD, slD, Jh, Jk, Ji, Jj, Jg, Jf, *]; done) | fail)
  (hxs : Jo fr.eval xs.toList = some ps := by simp [nev, nevA, nevB, Jp, PF.eval, PF.get, PF.wants, cPV, Qag, PV.rows, Qah, evUn, Jq, Qaj, Qai, Jn, TyK.agg, Qaf, St.box?, St.tok?, St.setBox, St.setTok, Qae, spl, PV.ps, PV.one, Jo, aggD, slD, Jh, Jk, Ji, Jj, Jg, Jf, *]; rfl)
  (hn : ps.map PV.norm1 = qs := by first | (simp [PV.norm1, PV.norm0, aggD, slD, Jh, Jk, Ji, Jj, Jg]; done) | fail)
  (hca : Qbt P f = true := by rfl) : POrd P n ops Q ((j, .e) :: od) fr st :=
 POrd_e ho hd hw (op_callX k m rfl rfl hc hL h0 hM hxs hn hca h)
end
section
variable {P : Program} {n : Nat} {ops : Array Oper} {Q : PF → St → Prop} {rest : List Oper} {fr : PF} {st : St} {ty : TypeId} {pos : String} {after : Array Edge} {gd : Option (Nat × Bool)} {od : List (Nat × Kd)} {d j : Nat}
end
section
variable {P : Program} {n : Nat} {ops : Array Oper} {Q : PF → St → Prop} {fr : PF} {st : St} {ty : TypeId} {pos : String} {after : Array Edge} {gd : Option (Nat × Bool)} {od : List (Nat × Kd)} {d j : Nat}
end
def orderP (md : Region.Mode) (ops : Array Oper) (all : List (Nat × Kd)) (base : Array Bool → Bool) : List (Nat × Kd) → Array Bool → Bool
  | [], listed => base listed
  | (i, k) :: rest, listed => (Region.ready md ops listed).contains i && (kdOf all i == k) &&
      (match k with
       | .a => freeB md ops i listed
       | .b => freeB md ops i listed && (List.range ops.size).all fun j => !(kdOf all j == .e) || listed.getD j true || Qgg md ops i ops.size j
       | .e => Region.ready md ops listed == [i]) && orderP md ops all base rest (listed.setIfInBounds i true)
section
variable {P : Program} {J : St → Prop} {ops : Array Oper} {n : Nat} {kd : Nat → Kd} {md : Region.Mode}
theorem lAny_ordP {Q' : PF → St → Prop} {Q : G → St → Prop} {all : List (Nat × Kd)} {base : Array Bool → Bool} {fuel : Nat} (hbase : ∀ (listed : Array Bool) (fr : PF) (st : St), DC md ops listed → base listed = true → Q' fr st → lAny P J md ops n (kdOf all) Q fuel listed fr.get st) :
    ∀ (l : List (Nat × Kd)) (listed : Array Bool) (fr : PF) (st : St), DC md ops listed → orderP md ops all base l listed = true → Qbq P J n ops Q' l fr st → lAny P J md ops n (kdOf all) Q (l.length + fuel) listed fr.get st := by
  intro l
  induction l with
  | nil => intro listed fr st hdc hB h; rw [List.length_nil, Nat.zero_add]; exact hbase listed fr st hdc hB h
  | cons x rest ih =>
    intro listed fr st hdc hB h
    obtain ⟨i, k⟩ := x
    simp only [orderP, Bool.and_eq_true] at hB
    rw [List.length_cons, Nat.add_right_comm]
    obtain ⟨⟨⟨hr, hk⟩, hB1⟩, hB2⟩ := hB
    have hr' : i ∈ Region.ready md ops listed := by simpa using hr
    have hk' : kdOf all i = k := by simpa using hk
    obtain ⟨o, ho, hd, h⟩ := h
    have free : freeB md ops i listed = true → ∀ j oj, ops[j]? = some oj → j ≠ i → listed.getD j true = false → (∀ e ∈ oj.after, Region.binds md e = true → e.on ≠ i) → o.apart ops oj = true := by
      intro hf j oj hj hji hun hno
      unfold freeB at hf
      rw [ho] at hf
      simp only [List.all_eq_true, List.mem_range] at hf
      have hlt : j < ops.size := (Array.getElem?_eq_some_iff.1 hj).1
      have := hf j hlt
      rw [hj] at this
      simp only [hun, Bool.or_false, Bool.or_eq_true, beq_iff_eq] at this
      rcases this with h | h | h
      · exact absurd h hji
      · obtain ⟨e, he, h⟩ := Array.any_eq_true'.1 h
        simp only [Bool.and_eq_true, beq_iff_eq] at h
        exact absurd h.2 (hno e he h.1)
      · exact h
    have nxt : ∀ p s, Qbq P J n ops Q' rest (fr.put o.dst p) s → lAny P J md ops n (kdOf all) Q (rest.length + fuel) (listed.setIfInBounds i true) (gput fr.get o.dst p) s := fun p s hp => by
      rw [← Qiz]; exact ih _ _ s (hdc.set hr') hB2 hp
    cases k with
    | a =>
      have hy : ∃ p, lYields P J ops n (kdOf all i) o p fr.get st ∧ Qbq P J n ops Q' rest (fr.put o.dst p) st := by
        rw [hk']
        rcases h with ⟨h1, h2⟩ | ⟨h1, p, h2, h3⟩
        · exact ⟨_, ⟨hd, .inl ⟨by rw [Qbj]; exact h1, rfl⟩⟩, h2⟩
        · exact ⟨p, ⟨hd, .inr ⟨by rw [Qbj]; exact h1, by rw [Qdg]; exact h2⟩⟩, h3⟩
      obtain ⟨p, hy, hp⟩ := hy
      exact lAny_first ho _ listed _ st hdc (free hB1) (fun hb => by rw [hk'] at hb; cases hb) hr' hy (nxt p st hp)
    | b =>
      have hy : ∃ p, lYields P J ops n (kdOf all i) o p fr.get st ∧ Qbq P J n ops Q' rest (fr.put o.dst p) st := by
        rw [hk']
        rcases h with ⟨h1, h2⟩ | ⟨h1, p, h2, h3⟩
        · exact ⟨_, ⟨hd, .inl ⟨by rw [Qbj]; exact h1, rfl⟩⟩, h2⟩
        · exact ⟨p, ⟨hd, .inr ⟨by rw [Qbj]; exact h1, by rw [Qdg]; exact h2⟩⟩, h3⟩
      obtain ⟨p, hy, hp⟩ := hy
      simp only [Bool.and_eq_true] at hB1
      refine lAny_first ho _ listed _ st hdc (free hB1.1) (fun _ j hj hun hlt => ?_) hr' hy (nxt p st hp)
      have := List.all_eq_true.1 hB1.2 j (List.mem_range.2 hlt)
      simp only [hj, hun, Bool.or_false] at this
      exact ⟨_, by simpa using this⟩
    | e =>
      have hsole : Region.ready md ops listed = [i] := by simpa using hB1
      refine ⟨fun h0 => (by rw [h0] at hr'; cases hr'), fun j hj => ?_⟩
      rw [hsole] at hj
      obtain rfl := List.mem_singleton.1 hj
      unfold lOp
      rw [ho]
      refine ⟨hd, ?_⟩
      rcases h with ⟨h1, h2⟩ | ⟨h1, h2⟩
      · exact .inl ⟨by rw [Qbj]; exact h1, nxt _ st h2⟩
      · refine .inr ⟨by rw [Qbj]; exact h1, ?_⟩
        rw [hk']
        simp only
        rw [Qdg]
        exact h2.mono fun p s hs => ⟨hs.1, nxt p s hs.2⟩
def twoB (md : Region.Mode) (ops : Array Oper) (all : List (Nat × Kd)) (i k : Nat) (r1 r2 : List (Nat × Kd)) (listed : Array Bool) : Bool :=
 (Region.ready md ops listed == [i, k]) && (kdOf all i == .e) && (kdOf all k == .e) && Qei md ops all r1 (listed.setIfInBounds i true) && Qei md ops all r2 (listed.setIfInBounds k true)
theorem lAny_two {Q : PF → St → Prop} {all : List (Nat × Kd)} {i k : Nat} {r1 r2 : List (Nat × Kd)} (hlen : r1.length = r2.length) (listed : Array Bool) (fr : PF) (st : St) (hdc : DC md ops listed) (hB : twoB md ops all i k r1 r2 listed = true)
  (h : Qbq P J n ops Q ((i, .e) :: r1) fr st ∧ Qbq P J n ops Q ((k, .e) :: r2) fr st) : lAny P J md ops n (kdOf all) (fun g s => ∃ fr : PF, fr.get = g ∧ Q fr s) (r1.length + 1) listed fr.get st := by
 unfold twoB at hB
 simp only [Bool.and_eq_true, beq_iff_eq] at hB
 obtain ⟨⟨⟨⟨hr, hk1⟩, hk2⟩, hB1⟩, hB2⟩ := hB
 refine ⟨fun h0 => (by rw [hr] at h0; cases h0), fun j hj => ?_⟩
 have hj' := hj
 rw [hr] at hj
 have key : ∀ (r : List (Nat × Kd)), r.length = r1.length → kdOf all j = .e → Qei md ops all r (listed.setIfInBounds j true) = true → Qbq P J n ops Q ((j, .e) :: r) fr st → lOp P J ops n (kdOf all) j (lAny P J md ops n (kdOf all) (fun g s => ∃ fr : PF, fr.get = g ∧ Q fr s) r1.length (listed.setIfInBounds j true)) fr.get st := by
  intro r hrl hkj hBr hh
  obtain ⟨o, ho, hd, hh⟩ := hh
  have nxt : ∀ p s, Qbq P J n ops Q r (fr.put o.dst p) s → lAny P J md ops n (kdOf all) (fun g s => ∃ fr : PF, fr.get = g ∧ Q fr s) r1.length (listed.setIfInBounds j true) (gput fr.get o.dst p) s := fun p s hp => by
   rw [← Qiz, ← hrl]; exact lAny_ord r _ _ s (hdc.set hj') hBr hp
  unfold lOp
  rw [ho]
  refine ⟨hd, ?_⟩
  rcases hh with ⟨h1, h2⟩ | ⟨h1, h2⟩
  ·exact .inl ⟨by rw [Qbj]; exact h1, nxt _ st h2⟩
  ·refine .inr ⟨by rw [Qbj]; exact h1, ?_⟩
   rw [hkj]
   simp only
   rw [Qdg]
   exact h2.mono fun p s hs => ⟨hs.1, nxt p s hs.2⟩
 simp only [List.mem_cons, List.not_mem_nil, or_false] at hj
 rcases hj with rfl | rfl
 ·exact key r1 rfl hk1 hB1 h.1
 ·exact key r2 hlen.symm hk2 hB2 h.2
theorem PW_drawnL2 {id : Nat} {Q : Exit → PF → St → Prop} {fr : PF} {st : St} (pre : List (Nat × Kd)) (i k : Nat) (r1 r2 : List (Nat × Kd)) (hm : P.follows .mixedOrders = true) (hlen : pre.length + (r1.length + 1) = ops.size ∧ r1.length = r2.length)
  (hB : orderP .any ops (pre ++ (i, .e) :: r1) (twoB .any ops (pre ++ (i, .e) :: r1) i k r1 r2) pre (Array.replicate ops.size false) = true) (hJ : J st)
  (h : Qbq P J n ops (fun fr st => Qbq P J n ops (Q .normal) ((i, .e) :: r1) fr st ∧ Qbq P J n ops (Q .normal) ((k, .e) :: r2) fr st) pre fr st) : PW P n (.region id ops true) Q fr st := by
 intro F K w a hr hf
 have hdc : DC .any ops (Array.replicate ops.size false) := fun j o ho hj => by
  exfalso
  have hlt : j < ops.size := (Array.getElem?_eq_some_iff.1 ho).1
  simp [hlt] at hj
 have hx : Ext F K w K { w with drawn := w.drawn + 1 } := ⟨rfl, rfl, rfl, Nat.le_refl _, fun _ _ => rfl, fun _ _ h => ⟨h, rfl⟩, fun _ _ h => .inl h, fun _ _ h => h, fun g u h => ⟨u, h, .inl rfl⟩, fun _ _ => rfl⟩
 have hr2 : Rel F st K { w with drawn := w.drawn + 1 } := ⟨hr.kc, hr.ff, hr.fin, hr.fi, fun e he => (hr.ents e he).keep hx (fun _ _ => rfl) (fun _ _ _ h => h) fun _ _ => rfl, hr.nb, hr.nt⟩
 have hany := lAny_ordP (md := .any) (Q := fun g s => ∃ fr : PF, fr.get = g ∧ Q .normal fr s) (fun listed fr st h1 h2 h3 => lAny_two hlen.2 listed fr st h1 h2 h3) pre _ fr st hdc hB h
 rw [hlen.1] at hany
 exact wp_region_any hm (wpAny_lAny (K0 := K) (w0 := w) (F := F) (Q := fun g s => ∃ fr : PF, fr.get = g ∧ Q .normal fr s) (fun K' w' a' g' st' h1 h2 h3 ⟨fr', e, h4⟩ => ⟨K', fr', st', h1, h2, by subst e; exact h3.fr, h4⟩) _ _ _ st K _ a (by simp) hx hr2 (hf.mono hx).fg (.inr hJ) hany)
end
theorem PW_perm {P : Program} {n : Nat} {c : Code} {Q : Exit → PF → St → Prop} {fr : PF} {st : St} (st' : St) (hp : st.Perm st') (h : PW P n c Q fr st') : PW P n c Q fr st :=
 fun F K w a hr hf => h F K w a (hr.perm hp) hf
theorem bidn {F : Fz} {K : Kp} {w : World} : ∀ {st : St}, (∀ e ∈ st, EntOk F K w e) → (st.filterMap (Ent.block K)).Nodup → (st.filterMap Ent.bid).Nodup := by
  intro st
  induction st with
  | nil => intro _ _; simp
  | cons e r ih =>
    intro he hn
    have hr : (r.filterMap (Ent.block K)).Nodup := by
      rw [List.filterMap_cons] at hn
      split at hn
      · exact hn
      · exact (List.nodup_cons.1 hn).2
    have h1 := ih (fun x hx => he x (List.mem_cons_of_mem _ hx)) hr
    have key : ∀ i, e.bid = some i → (∃ b, e.block K = some b ∧ K.box i = some b) → i ∉ r.filterMap Ent.bid := by
      rintro i hi ⟨b, hb, hk⟩ hm
      obtain ⟨x, hx, hxi⟩ := List.mem_filterMap.1 hm
      rw [List.filterMap_cons, hb] at hn
      have hnm := (List.nodup_cons.1 hn).1
      apply hnm
      refine List.mem_filterMap.2 ⟨x, hx, ?_⟩
      cases x with
      | box j U cs => simp only [Ent.bid, Option.some.injEq] at hxi; subst hxi; exact hk
      | tok => cases hxi
      | obj j ok => simp only [Ent.bid, Option.some.injEq] at hxi; subst hxi; exact hk
    have h2 := he e (List.mem_cons_self ..)
    cases e with
    | box i T cs =>
      obtain ⟨b, arr, e1, -⟩ := h2
      exact List.nodup_cons.2 ⟨key i rfl ⟨b, e1, e1⟩, h1⟩
    | tok g E sz n => exact h1
    | obj i ok =>
      obtain ⟨b, o, e1, -⟩ := h2
      exact List.nodup_cons.2 ⟨key i rfl ⟨b, e1, e1⟩, h1⟩
theorem PW_nodupV {P : Program} {n : Nat} {c : Code} {Q : Exit → PF → St → Prop} {fr : PF} {st : St} (h : (st.filterMap Ent.bid).Nodup → PW P n c Q fr st) : PW P n c Q fr st :=
 fun F K w a hr hf => h (bidn hr.ents hr.nb) F K w a hr hf
theorem bidn_box (i : Nat) (T : TypeId) (cs : List PV) (r : St) : (Ent.box i T cs :: r).filterMap Ent.bid = i :: r.filterMap Ent.bid := rfl
theorem bidn_tok (g : Nat) (E : TypeId) (sz n : Nat) (r : St) : (Ent.tok g E sz n :: r).filterMap Ent.bid = r.filterMap Ent.bid := rfl
theorem bidn_nil : ([] : St).filterMap Ent.bid = [] := rfl
theorem run_append_full {P : Program} (w : World) (t xt ty e : TypeId) {i : TypeInfo} {z : Value} {es bytes : Nat} (ht : P.underlying t = some (.slice e)) {dx : TypeDesc} (hxt : P.underlying xt = some dx) (hnz : ∀ k, dx ≠ .int k) (hi : P.info? e = some i) (hz : i.zero = some z) (hsize : i.size = es) (hby : i.bytes = bytes) (hzs : z.cells.size = es)
    {a : Option Addr} {n : Nat} {xs : List Value} (hxl : xs.length = n * es) (ha : a = none → n = 0) (holds : ∀ ad, a = some ad → ∀ j u, xs[j]? = some u → w.cell? (ad.add j) = some u) {x : Value} {m : Nat} {news : List Value} (hsrc : Src P w es x m news) (hl : news.length = m * es) (hm : 0 < m) (h63 : n + m ≤ maxLen) (hbytes : (n + m) * bytes ≤ 140737488355328) :
    ∃ cap arr, (Builtin.append_ #[t, xt] ty #[.slice a n n, x]).run P w = .ok (.slice (some ⟨w.heap.size, 0, none⟩) (n + m) cap) (w.drew.alloc (.cells arr e)) ∧ (w.drew.alloc (.cells arr e)).ownsRow 0 e es (.slice (some ⟨w.heap.size, 0, none⟩) (n + m) cap) (n + m) (xs ++ news) := by
  obtain ⟨hs1, hs2⟩ := hsrc
  subst hsize
  subst hby
  have hsmall : n + m ≤ 9223372036854775807 := by simp only [maxLen] at h63; omega
  have hlen : (xs ++ news).length = (n + m) * i.size := by rw [List.length_append, hxl, hl, Nat.add_mul]
  have hzero : (match dx with | .int _ => true | _ => false) = false := by cases dx <;> first | rfl | exact absurd rfl (hnz _)
  have hfd := hs2 w.drew rfl
  have grown : ∀ (old : Nat), old < n + m →
      (w.drew.alloc (.cells (xs.toArray ++ news.toArray ++ Builtin.zeroCells z.cells (grownCap w (n + m) old e - (n + m))) e)).ownsRow 0 e i.size
        (.slice (some ⟨w.heap.size, 0, none⟩) (n + m) (grownCap w (n + m) old e)) (n + m) (xs ++ news) := by
    intro old ho
    have hge := grownCap_ge w (n + m) old e
    have hcm : grownCap w (n + m) old e ≤ maxLen := grownCap_le_maxLen w (n + m) old e h63
    refine ⟨hlen, .inr ⟨w.heap.size, _, _, rfl, Nat.zero_le _, heap_alloc_new w.drew _, hge, hcm, ?_, ?_⟩⟩
    · simp only [Array.size_append, List.size_toArray, size_zeroCells, hzs, hxl, hl, ← Nat.add_mul]
      congr 1
      omega
    · simp only [Array.toList_append, List.append_assoc]
      rw [← List.append_assoc, ← hlen]
      exact List.take_left
  have hgr := grown n (by omega)
  have hn : ¬ (m = 0) := by omega
  have hn0 : ¬ (n + m ≤ n) := by omega
  have h63' : ¬ (9223372036854775807 < ((n : Int) + (m : Int))) := by omega
  have h48' : ¬ (281474976710656 < Builtin.nextslicecap (n + m) n * i.bytes) := by
    by_cases h0 : n = 0
    · subst h0
      simp only [Nat.zero_add] at hbytes hsmall ⊢
      rw [nextslicecap_zero (by omega)]; omega
    · have := growslice_fits (old := n) (by omega) hbytes; omega
  have hfo : (Builtin.firstCells i.size n (.slice a n n)).run P w.drew = .ok xs.toArray w.drew := by
    cases a with
    | none =>
      have h0 := ha rfl
      subst h0
      have : xs = [] := List.eq_nil_of_length_eq_zero (by rw [hxl]; simp)
      subst this
      simp [Builtin.firstCells]
    | some ad => exact run_firstCells_some (P := P) w.drew i.size n ad n n xs hxl fun j u hj => holds ad rfl j u hj
  refine ⟨_, _, ?_, hgr⟩
  simp [Builtin.append_, run_underlying ht, run_underlying hxt, sizeOf, typeInfo, zeroValue, hi, hz, hzero, hs1, hn, hn0, h63', h48', Question.forced, hfo, hfd, newRow, grownCap]
  congr 2
  apply Array.ext'
  simp [List.append_assoc]
theorem POp_appNilB {P : Program} {o : Oper} {ρ : Operand → Option PV} {s x : Operand} {t xt : TypeId} (ho : o.op = .call { callee := .builtin .append, args := #[s, x], argTypes := #[t, xt] }) (hs : ρ s = some .nils) {p : PV} (hx : ρ x = some p) {rows' : List (List D)} (hp : p.src = some rows')
    {T : Ty} (hT : tyOf P t = some T) {E es bytes : Nat} {ea : Option Bool} (hk : T.k = .slice E es ea) (hX : Qdo ((tyOf P xt).map (·.k)) = true) (hE : elOf P E = some (es, bytes)) (hes : 0 < es) (hl : ∀ row ∈ rows', row.length = es) (hne : 0 < rows'.length) (h63 : rows'.length ≤ maxLen) (hb : rows'.length * bytes ≤ 140737488355328) {st : St} {R : PV → St → Prop}
    (h : ∀ i c, rows'.length ≤ c → c ≤ maxLen → st.freshB i → R (.bsl i rows'.length c) (.box i E (boxC rows' es c) :: st)) : POp P o ρ st R := by
  refine POp.of_run fun F K w a h1 h2 => ?_
  obtain ⟨dst, op, ty, pos, after, guard⟩ := o
  simp only at ho h2
  subst ho
  obtain ⟨d, hd, rfl⟩ := Qbo hT
  have hr := h2 s (by simp [Op.operands, Call.operands]) _ hs
  have hv := h2 x (by simp [Op.operands, Call.operands]) _ hx
  cases d with
  | slice E' =>
    simp only [tyK, TyK.slice.injEq] at hk
    obtain ⟨rfl, hes', rfl⟩ := hk
    obtain ⟨ie, z, hie, hz, hsz, hby, hzs⟩ := Qjp hE
    obtain ⟨dx, hdx, hnz⟩ : ∃ dx, P.underlying xt = some dx ∧ ∀ k, dx ≠ .int k := by
      unfold tyOf at hX
      cases hq : P.underlying xt with
      | none => rw [hq] at hX; cases hX
      | some dx =>
        rw [hq] at hX
        refine ⟨dx, rfl, fun k e => ?_⟩
        subst e
        simp [Qdo, tyK] at hX
    generalize hva : a.eval s = va at hr
    cases hr with
    | nils =>
    obtain ⟨news, hnews, hsrc⟩ := src_of (P := P) hp hv hes hl
    obtain ⟨cap, arr, hrun, hown⟩ := run_append_full (P := P) w t xt ty E' hd hdx hnz hie hz hsz hby hzs (a := none) (n := 0) (xs := []) (by simp) (fun _ => rfl) (fun ad h => by cases h) hsrc hnews.1 hne (by omega) (by rw [Nat.zero_add]; exact hb)
    simp only [Nat.zero_add, List.nil_append] at hrun hown
    have hx1 : Ext F K w K w.drew := ⟨rfl, rfl, rfl, Nat.le_refl _, fun _ _ => rfl, fun _ _ h => ⟨h, rfl⟩, fun _ _ h => .inl h, fun _ _ h => h, fun g u h => ⟨u, h, .inl rfl⟩, fun _ _ => rfl⟩
    have hr1 : Rel F st K w.drew := ⟨h1.kc, h1.ff, h1.fin, h1.fi, fun e he => (h1.ents e he).keep hx1 (fun _ _ => rfl) (fun _ _ _ h => h) fun _ _ => rfl, h1.nb, h1.nt⟩
    obtain ⟨hnl, hown2⟩ := hown
    rcases hown2 with ⟨h0, _⟩ | ⟨b', cap', cur, hq, _, hh, hle, hm, hcs, htake⟩
    · cases h0
    simp only [Value.slice.injEq, Option.some.injEq, Addr.mk.injEq, true_and, and_true] at hq
    obtain ⟨rfl, rfl⟩ := hq
    have hcur : cur = arr := by
      have h5 := heap_alloc_new w.drew (.cells arr E')
      have h6 : w.drew.heap.size = w.heap.size := rfl
      rw [h6] at h5
      rw [h5] at hh
      simpa using hh.symm
    subst hcur
    have hbl : (boxC rows' es cap).length = cap * es := boxC_len hl hle
    obtain ⟨i, hi, hfr, hx2, hr2⟩ := hr1.newBox (arr := cur) (T := E') (ps := boxC rows' es cap) (by rw [hcs, hbl]) fun j q v hq hv => by
      unfold boxC at hq
      by_cases hj : j < rows'.flatten.length
      · rw [List.getElem?_append_left (by rw [List.length_map]; exact hj), List.getElem?_map, List.getElem?_eq_getElem hj] at hq
        obtain rfl := Option.some.inj hq
        have hfl := flat_len rows' hl
        have hri : j / es < rows'.length := by rw [hfl] at hj; exact (Nat.div_lt_iff_lt_mul hes).2 hj
        have hjm := Nat.mod_lt j hes
        have hdm : j / es * es + j % es = j := by rw [Nat.mul_comm]; exact Nat.div_add_mod j es
        have hrl := hl _ (List.getElem_mem hri)
        have h8 := flat_row rows' (j / es) (j % es) rows'[j / es] (rows'[j / es][j % es]'(by omega)) hl (List.getElem?_eq_getElem hri) (List.getElem?_eq_getElem (by omega))
        rw [hdm, List.getElem?_eq_getElem hj] at h8
        rw [Option.some.inj h8]
        obtain ⟨y, h9, h10⟩ := hnews.2.2 (j / es) (j % es) _ _ (List.getElem?_eq_getElem hri) (List.getElem?_eq_getElem (by omega))
        rw [hdm] at h9
        rw [← htake, List.getElem?_take] at h9
        split at h9
        · have h11 : cur[j]? = some y := by simpa using h9
          rw [hv] at h11
          obtain rfl := Option.some.inj h11
          exact .d (h10.mono hx1.kp)
        · cases h9
      · rw [List.getElem?_append_right (by rw [List.length_map]; omega)] at hq
        have := List.mem_of_getElem? hq
        rw [List.mem_replicate] at this
        rw [this.2]
        exact .u
    refine ⟨.slice (some ⟨w.heap.size, 0, none⟩) rows'.length cap, _, _, .bsl i rows'.length cap, _, ?_, hx1.trans hx2, hr2, .bsl (by simp [Kp.addBox]) hle hm, h i cap hle hm hfr⟩
    simp only [execOp, resolve, invoke, builtin, Sem.run_bind, Sem.run_pure, Result.andThen_ok, List.map_toArray, List.map_cons, List.map_nil, hva, hrun]
  | _ => simp [tyK] at hk
theorem run_equalIn_fn_nil {P : Program} (w : World) (d : Nat) {t : TypeId} {a b : Array TypeId} {c : Bool} {f : Fn} {x y : Array Value} (h : P.underlying t = some (.func a b c)) :
  (Op.equalIn (d + 1) t (.func f x y) .nilFunc).run P w = .ok false w := by
 simp [Op.equalIn, run_underlying h]
theorem run_eql_fn_nil {P : Program} (w : World) {t : TypeId} {a b : Array TypeId} {c : Bool} {f : Fn} {x y : Array Value} (h : P.underlying t = some (.func a b c)) :
  (binOp .eql t (.func f x y) .nilFunc).run P w = .ok (.bool false) w := by
 simp only [binOp]
 simp [Op.equal, Op.maxDepth, run_equalIn_fn_nil w 9999 h]
theorem POp_eqlFn {P : Program} {o : Oper} {ρ : Operand → Option PV} {st : St} {R : PV → St → Prop} {t t2 : TypeId} {x : Operand} (ho : o.op = .binOp .eql t x (.const .nilFunc) t2) {f : Fn} {ps qs : List PV} (hx : ρ x = some (.fn f ps qs)) {a b : Array TypeId} {c : Bool} (ht : P.underlying t = some (.func a b c)) (h2 : R (.d (.v (.bool false))) st) : POp P o ρ st R := by
 refine POp.of_run fun F K w a' h1' h2' => ?_
 obtain ⟨dst, op, ty, pos, after, guard⟩ := o
 simp only at ho h2'
 subst ho
 have hr := h2' x (by simp [Op.operands]) _ hx
 generalize hvm : a'.eval x = vm at hr
 obtain ⟨u, v, rfl⟩ : ∃ (u v : Array Value), vm = .func f u v := by
  cases hr with
  | fn _ _ _ _ => exact ⟨_, _, rfl⟩
 have hq := run_eql_fn_nil (P := P) w (f := f) (x := u) (y := v) ht
 refine ⟨.bool false, w, K, _, st, ?_, Ext.refl _ _ _, h1', .d (.v trivial), h2⟩
 have hg : (eqGuard BinOp.eql t x (.const .nilFunc) (.func f u v) .nilFunc).run P w = .ok () w := by rfl
 have he : a'.eval (.const .nilFunc) = .nilFunc := rfl
 simp only [execOp, hvm, he, Sem.run_bind, Sem.run_pure, hg, Result.andThen_ok, hq]
section
variable {P : Program} {n : Nat} {ops : Array Oper} {Q : PF → St → Prop} {rest : List Oper} {fr : PF} {st : St} {ty : TypeId} {pos : String} {after : Array Edge} {gd : Option (Nat × Bool)} {d : Nat}
theorem POps_eqlFn {t t2 : TypeId} {a b : Array TypeId} {c : Bool} {x : Operand} {f : Fn} {ps qs : List PV} {p : PV} (h2 : POps P n ops Q rest ((d, .d (.v (.bool false))) :: fr) st) (ht : P.underlying t = some (.func a b c) := by rfl) (hd : d < n := by decide)
  (hw : PF.wants fr ops ⟨some d, .binOp .eql t x (.const .nilFunc) t2, ty, pos, after, gd⟩ = some true := by first | rfl | (simp [nev, nevA, nevB, Jp, PF.eval, PF.get, PF.wants, cPV, Qag, PV.rows, Qah, evUn, Jq, Qaj, Qai, Jn, TyK.agg, Qaf, St.box?, St.tok?, St.setBox, St.setTok, Qae, spl, PV.ps, PV.one, Jo, aggD, slD, *]; done)) (hx : fr.eval x = some p := by simp [nev, nevA, nevB, Jp, PF.eval, PF.get, PF.wants, cPV, Qag, PV.rows, Qah, evUn, Jq, Qaj, Qai, Jn, TyK.agg, Qaf, St.box?, St.tok?, St.setBox, St.setTok, Qae, spl, PV.ps, PV.one, Jo, aggD, slD, Jh, Jk, Ji, Jj, Jg, Jf, *]; rfl) (hp : p = .fn f ps qs := by rfl) : POps P n ops Q (⟨some d, .binOp .eql t x (.const .nilFunc) t2, ty, pos, after, gd⟩ :: rest) fr st :=
 Qen hd hw (POp_eqlFn (o := ⟨some d, .binOp .eql t x (.const .nilFunc) t2, ty, pos, after, gd⟩) rfl (hp ▸ hx) ht h2)
end
end Go.Proofs.YtdklpbefbamchaaGreat

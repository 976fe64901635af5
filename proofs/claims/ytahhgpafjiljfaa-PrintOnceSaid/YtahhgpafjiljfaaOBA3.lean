import Derived.Test.YtahhgpafjiljfaaOBA2
import Derived.Scope
import Derived.Laws.RangeAny
import Derived.Laws.IdiomStrings
import Derived.Laws.Small
set_option linter.unusedSimpArgs false
set_option linter.unusedVariables false
set_option maxHeartbeats 16000000
set_option maxRecDepth 100000
namespace Go.Proofs.Ytahhgpafjiljfaa
open Go.RowKit
section
variable {P : Program} {n : Nat} {ops : Array Oper} {Q : PF → St → Prop} {rest : List Oper} {fr : PF} {st L M st0 : St} {ty : TypeId} {pos : String} {after : Array Edge} {gd : Option (Nat × Bool)} {d f j : Nat} {xs : Array Operand} {ts : Array TypeId} {ps qs : List PV} {R : PV → St → Prop} {od : List (Nat × Kd)}
theorem POp.permOut' {o : Oper} {ρ : Operand → Option PV} {st : St} {R R' : PV → St → Prop} (h : POp P o ρ st R) (hr : ∀ p s, R p s → ∃ s', s.Perm s' ∧ R' p s') : POp P o ρ st R' :=
 fun F K w a next Q h1 h2 h3 => h F K w a next Q h1 h2 fun K' w' p st' v a b c d => by
  obtain ⟨s', hp, hr'⟩ := hr p st' d
  exact h3 K' w' p s' v a (b.perm hp) c hr'
theorem op_callX {o : Oper} {ρ : Operand → Option PV} {R' : PV → St → Prop} (k m : Nat) (ho : o.op = .call { callee := .value (.func f), args := xs, argTypes := ts }) (hρ : ρ (.func f) = some (.fn (.func f) [] [])) (hc : PCalls P f qs st0 R) (hL : st.take k = L) (h0 : (st.drop k).take m = st0) (hM : (st.drop k).drop m = M) (hxs : Jn ρ xs.toList = some ps) (hn : ps.map PV.norm1 = qs) (hca : Qap P f = true)
  (h : ∀ p s, R p s → R' p (L ++ (s ++ M))) : POp P o ρ st R' := by
 have hst : st = L ++ (st0 ++ M) := by rw [← hL, ← h0, ← hM, List.take_append_drop, List.take_append_drop]
 subst hst
 have hperm : (L ++ (st0 ++ M)).Perm (st0 ++ (L ++ M)) := by
  rw [← List.append_assoc, ← List.append_assoc]
  exact List.Perm.append_right _ List.perm_append_comm
 refine POp.permOut' (R := fun p s => ∃ s', R p s' ∧ s = s' ++ (L ++ M)) (Qfr (st0 := st0) (st1 := L ++ M) (first := []) (cap := []) ho hρ hxs hca hperm (R0 := R) ?_ ?_) ?_
 ·simp only [List.nil_append, List.append_nil]
  rw [← hn] at hc
  exact hc.args_norm
 ·intro p s0 hr
  exact ⟨s0, hr, rfl⟩
 ·rintro p s ⟨s', hr, rfl⟩
  refine ⟨_, ?_, h p s' hr⟩
  rw [← List.append_assoc, ← List.append_assoc]
  exact List.Perm.append_right _ List.perm_append_comm
theorem Rd (k m : Nat) (hc : PCalls P f qs st0 R) (h : ∀ p s, R p s → POps P n ops Q rest ((d, p) :: fr) (L ++ (s ++ M)))
  (hL : st.take k = L := by simp only [List.cons_append, List.nil_append, List.take_succ_cons, List.take_zero]; rfl)
  (h0 : (st.drop k).take m = st0 := by rfl)
  (hM : (st.drop k).drop m = M := by simp only [List.cons_append, List.nil_append, List.drop_succ_cons, List.drop_zero, List.drop_nil]; rfl)
  (hd : d < n := by decide)
  (hw : PF.wants fr ops ⟨some d, .call { callee := .value (.func f), args := xs, argTypes := ts }, ty, pos, after, gd⟩ = some true := by exact eD)
  (hxs : Jn fr.eval xs.toList = some ps := by exact eQ)
  (hn : ps.map PV.norm1 = qs := by first | (simp [PV.norm1, PV.norm0, aggD, slD, Jg, Jj, Jh, Ji, Jf]; done) | fail)
  (hca : Qap P f = true := by rfl) : POps P n ops Q (⟨some d, .call { callee := .value (.func f), args := xs, argTypes := ts }, ty, pos, after, gd⟩ :: rest) fr st :=
 Qeb hd hw (op_callX k m rfl rfl hc hL h0 hM hxs hn hca h)
theorem op_callW {o : Oper} {ρ : Operand → Option PV} {R' : PV → St → Prop} (ho : o.op = .call { callee := .value (.func f), args := xs, argTypes := ts }) (hρ : ρ (.func f) = some (.fn (.func f) [] [])) (hc : PCalls P f qs st R) (hxs : Jn ρ xs.toList = some ps) (hn : ps.map PV.norm1 = qs) (hca : Qap P f = true)
  (h : ∀ p s, R p s → R' p s) : POp P o ρ st R' := by
 refine op_callX (L := []) (M := []) 0 st.length ho hρ hc rfl (by simp) (by simp) hxs hn hca fun p s hr => ?_
 simp only [List.nil_append, List.append_nil]
 exact h p s hr
theorem Re (hc : PCalls P f qs st R) (h : ∀ p s, R p s → POps P n ops Q rest ((d, p) :: fr) s)
  (hd : d < n := by decide)
  (hw : PF.wants fr ops ⟨some d, .call { callee := .value (.func f), args := xs, argTypes := ts }, ty, pos, after, gd⟩ = some true := by exact eD)
  (hxs : Jn fr.eval xs.toList = some ps := by exact eQ)
  (hn : ps.map PV.norm1 = qs := by first | (simp [PV.norm1, PV.norm0, aggD, slD, Jg, Jj, Jh, Ji, Jf]; done) | fail)
  (hca : Qap P f = true := by rfl) : POps P n ops Q (⟨some d, .call { callee := .value (.func f), args := xs, argTypes := ts }, ty, pos, after, gd⟩ :: rest) fr st :=
 Qeb hd hw (op_callW rfl rfl hc hxs hn hca h)
theorem Qjz (hc : PCalls P f qs st R) (h : ∀ p s, R p s → POrd P n ops Q od ((d, p) :: fr) s)
  (ho : ops[j]? = some ⟨some d, .call { callee := .value (.func f), args := xs, argTypes := ts }, ty, pos, after, gd⟩ := by rfl)
  (hd : d < n := by decide)
  (hw : PF.wants fr ops ⟨some d, .call { callee := .value (.func f), args := xs, argTypes := ts }, ty, pos, after, gd⟩ = some true := by exact eD)
  (hxs : Jn fr.eval xs.toList = some ps := by exact eQ)
  (hn : ps.map PV.norm1 = qs := by first | (simp [PV.norm1, PV.norm0, aggD, slD, Jg, Jj, Jh, Ji, Jf]; done) | fail)
  (hca : Qap P f = true := by rfl) : POrd P n ops Q ((j, .e) :: od) fr st :=
 POrd_e ho hd hw (op_callW rfl rfl hc hxs hn hca h)
theorem PW_scope {c : Code} {fn : Func} {R' : PV → St → Prop} (h : PW P n c (retP P fn R') fr st) : PW P n (.scope c) (retP P fn R') fr st := by
  intro F K w a hr hf
  refine wp_scope_straight (wp_mono (h F K w a hr hf) ?_)
  rintro e a' w' ⟨K', fr', st', h1, h2, h3, h4⟩
  cases e with
  | goto l =>
    rcases h4.1 with h5 | h5 <;> cases h5
  | _ => exact ⟨K', fr', st', h1, h2, h3, h4⟩
end
section
variable {P : Program} {n : Nat} {ops : Array Oper} {Q : PF → St → Prop} {rest : List Oper} {fr : PF} {st : St} {ty : TypeId} {pos : String} {after : Array Edge} {gd : Option (Nat × Bool)} {od : List (Nat × Kd)} {d j : Nat}
theorem POrd_callF {fo : Operand} {f : FuncId} {xs : Array Operand} {ts : Array TypeId} {ps qs : List PV} {r : PV} (hc : PCalls P f qs [] fun p s => p = r ∧ s = []) (h : POrd P n ops Q od ((d, r) :: fr) st) (hca : Qap P f = true)
  (ho : ops[j]? = some ⟨some d, .call { callee := .value fo, args := xs, argTypes := ts }, ty, pos, after, gd⟩ := by rfl) (hd : d < n := by decide)
  (hw : PF.wants fr ops ⟨some d, .call { callee := .value fo, args := xs, argTypes := ts }, ty, pos, after, gd⟩ = some true := by exact eD)
  (hf : fr.eval fo = some (.fn (.func f) [] []) := by simp [nev, nevA, nevB, Jo, PF.eval, PF.get, PF.wants, cPV, Qfk, PV.rows, evBin, evUn, Jp, evLen, loadA, Jm, TyK.agg, partA, St.box?, St.tok?, St.setBox, St.setTok, Qdx, spl, PV.ps, PV.one, Jn, aggD, slD, Jg, Jj, Jh, Ji, Jf, Je, *]; done)
  (hxs : Jn fr.eval xs.toList = some ps := by exact eQ)
  (hn : ps.map PV.norm1 = qs := by first | (simp [PV.norm1, PV.norm0, aggD, slD, Jg, Jj, Jh, Ji, Jf]; done) | fail) : POrd P n ops Q ((j, .e) :: od) fr st := by
 refine POrd_e ho hd hw (Qfr (st0 := []) (st1 := st) (first := []) (cap := []) rfl hf hxs hca (List.Perm.refl _) (R0 := fun p s => p = r ∧ s = []) ?_ ?_)
 ·simp only [List.nil_append, List.append_nil]
  subst hn
  exact hc.args_norm
 ·rintro p s0 ⟨rfl, rfl⟩
  exact h
end
theorem box_perm {i : Nat} {U : TypeId} {cs : List PV} : ∀ {s : St}, s.box? i = some (U, cs) → ∃ r, s.Perm (.box i U cs :: r) := by
  intro s
  induction s with
  | nil => intro h; cases h
  | cons e s ih =>
    intro h
    cases e with
    | box j T ds =>
      simp only [St.box?] at h
      by_cases hj : j = i
      · rw [if_pos hj] at h
        cases h
        subst hj
        exact ⟨s, List.Perm.refl _⟩
      · rw [if_neg hj] at h
        obtain ⟨r, hr⟩ := ih h
        exact ⟨.box j T ds :: r, (List.Perm.cons _ hr).trans (List.Perm.swap _ _ _)⟩
    | tok g E sz n =>
      obtain ⟨r, hr⟩ := ih h
      exact ⟨.tok g E sz n :: r, (List.Perm.cons _ hr).trans (List.Perm.swap _ _ _)⟩
    | obj j ok =>
      obtain ⟨r, hr⟩ := ih h
      exact ⟨.obj j ok :: r, (List.Perm.cons _ hr).trans (List.Perm.swap _ _ _)⟩
theorem op_callK {P : Program} {o : Oper} {ρ : Operand → Option PV} {f : FuncId} {xs : Array Operand} {ts : Array TypeId} {ps qs : List PV} {r : PV} {i : Nat} {U : TypeId} {cs : List PV} (ho : o.op = .call { callee := .value (.func f), args := xs, argTypes := ts }) (hρ : ρ (.func f) = some (.fn (.func f) [] [])) (hc : PCalls P f qs [.box i U cs] fun p s => p = r ∧ s = [.box i U cs]) (hxs : Jn ρ xs.toList = some ps) (hn : ps.map PV.norm1 = qs) (hca : Qap P f = true) (s : St) (hb : s.box? i = some (U, cs)) : POp P o ρ s fun q s' => q = r ∧ s' = s := by
 obtain ⟨rr, hp⟩ := box_perm hb
 refine POp.permOut' (R := fun p s' => p = r ∧ s' = [.box i U cs] ++ rr) (Qfr (st0 := [.box i U cs]) (st1 := rr) (first := []) (cap := []) ho hρ hxs hca hp (R0 := fun p s => p = r ∧ s = [.box i U cs]) ?_ ?_) ?_
 ·simp only [List.nil_append, List.append_nil]
  rw [← hn] at hc
  exact hc.args_norm
 ·rintro p s0 ⟨rfl, rfl⟩
  exact ⟨rfl, rfl⟩
 ·rintro p s' ⟨rfl, rfl⟩
  exact ⟨_, hp.symm, rfl, rfl⟩
section
variable {P : Program} {n : Nat} {ops : Array Oper} {Q : PF → St → Prop} {fr : PF} {st : St} {ty : TypeId} {pos : String} {after : Array Edge} {gd : Option (Nat × Bool)} {od : List (Nat × Kd)} {d j : Nat}
theorem PJ_callK {l : List (Nat × TypeId × List PV)} {f : FuncId} {xs : Array Operand} {ts : Array TypeId} {ps qs : List PV} {r : PV} {i : Nat} {U : TypeId} {cs : List PV} (hc : PCalls P f qs [.box i U cs] fun p s => p = r ∧ s = [.box i U cs]) (h : Qbe P (Qdr l) n ops Q od ((d, r) :: fr) st)
  (ho : ops[j]? = some ⟨some d, .call { callee := .value (.func f), args := xs, argTypes := ts }, ty, pos, after, gd⟩ := by rfl) (hd : d < n := by decide)
  (hw : PF.wants fr ops ⟨some d, .call { callee := .value (.func f), args := xs, argTypes := ts }, ty, pos, after, gd⟩ = some true := by exact eD)
  (hxs : Jn fr.eval xs.toList = some ps := by exact eQ)
  (hn : ps.map PV.norm1 = qs := by first | (simp [PV.norm1, PV.norm0, aggD, slD, Jg, Jj, Jh, Ji, Jf]; done) | fail)
  (hca : Qap P f = true := by rfl)
  (hl : (i, U, cs) ∈ l := by first | exact List.mem_cons_self | exact List.mem_cons_of_mem _ List.mem_cons_self | exact List.mem_cons_of_mem _ (List.mem_cons_of_mem _ List.mem_cons_self)) : Qbe P (Qdr l) n ops Q ((j, .a) :: od) fr st :=
 ⟨_, ho, fun _ e => (by cases e; exact hd), .inr ⟨hw, r, fun s hs => op_callK rfl rfl hc hxs hn hca s (hs _ hl), h⟩⟩
end
section
variable {P : Program} {J : St → Prop} {n : Nat} {ops : Array Oper} {Q : PF → St → Prop} {fr : PF} {st : St} {p : PV} {op : Op} {ty : TypeId} {pos : String} {after : Array Edge} {gd : Option (Nat × Bool)} {od : List (Nat × Kd)} {j d : Nat}
theorem PJ_b2 {l : List (Nat × TypeId × List PV)} {t : TypeId} {a : Operand} {q : PV} {i off : Nat} {T : Ty} {x : TypeId × List PV} {U : TypeId} {cs : List PV} (h : Qbe P (Qdr l) n ops Q od ((d, p) :: fr) st)
  (ho : ops[j]? = some ⟨some d, .load t a, ty, pos, after, gd⟩ := by rfl) (hd : d < n := by decide)
  (hw : PF.wants fr ops ⟨some d, .load t a, ty, pos, after, gd⟩ = some true := by exact eD)
  (ha : fr.eval a = some q := by exact eQ) (hq : q = .ptr i off := by rfl) (hT : tyOf P t = some T := by simp; rfl)
  (hl : (i, x) ∈ l := by first | exact List.mem_cons_self | exact List.mem_cons_of_mem _ List.mem_cons_self | exact List.mem_cons_of_mem _ (List.mem_cons_of_mem _ List.mem_cons_self)) (hx : x = (U, cs) := by rfl)
  (he : Jm T (cs.drop off) = some p := by exact eQ) : Qbe P (Qdr l) n ops Q ((j, .a) :: od) fr st := by
 subst hq; subst hx
 exact PJ_b h ho hd hw ha hT hl he
theorem PJ_gn2 {k : Kd} (h : Qbe P J n ops Q od ((d, .tup []) :: fr) st) (ho : ops[j]? = some ⟨some d, op, ty, pos, after, gd⟩ := by rfl) (hd : d < n := by decide) (hw : PF.wants fr ops ⟨some d, op, ty, pos, after, gd⟩ = some false := by exact eD) : Qbe P J n ops Q ((j, k) :: od) fr st := PJ_gn h ho hd hw
theorem PJ_s2 (h : Qbe P J n ops Q od ((d, p) :: fr) st) (ho : ops[j]? = some ⟨some d, op, ty, pos, after, gd⟩ := by rfl) (hd : d < n := by decide) (hw : PF.wants fr ops ⟨some d, op, ty, pos, after, gd⟩ = some true := by exact eD) (he : nev P fr.eval op = some p := by exact eQ) : Qbe P J n ops Q ((j, .a) :: od) fr st := PJ_s h ho hd hw he
theorem PJ_call2 {f : Nat} {xs : Array Operand} {ts : Array TypeId} {ps qs : List PV} {r : PV} (hc : PCalls P f qs [] fun p s => p = r ∧ s = []) (h : Qbe P J n ops Q od ((d, r) :: fr) st) (ho : ops[j]? = some ⟨some d, .call { callee := .value (.func f), args := xs, argTypes := ts }, ty, pos, after, gd⟩ := by rfl) (hd : d < n := by decide)
  (hw : PF.wants fr ops ⟨some d, .call { callee := .value (.func f), args := xs, argTypes := ts }, ty, pos, after, gd⟩ = some true := by exact eD)
  (hxs : Jn fr.eval xs.toList = some ps := by exact eQ)
  (hn : ps.map PV.norm1 = qs := by first | (simp [PV.norm1, PV.norm0, aggD, slD, Jg, Jj, Jh, Ji, Jf]; done) | fail) (hca : Qap P f = true := by rfl) : Qbe P J n ops Q ((j, .a) :: od) fr st := PJ_call hc h ho hd hw hxs hn hca
end
theorem jG {a b : Prop} (hb : b) (h : Hd2 b → a := by
 intro k
 repeat (first | with_reducible refine PJ_nil ?_ | refine PJ_gn2 ?_ | refine PJ_s2 ?_ | refine PJ_b2 ?_)
 exact Hd2.out k) : a := h hb
def St.obj? : St → Nat → Option (Obj → Prop)
 | [], _ => none
 | .obj j ok :: r, i => if j = i then some ok else St.obj? r i
 | .box .. :: r, i => St.obj? r i
 | .tok .. :: r, i => St.obj? r i
def St.setObj : St → Nat → (Obj → Prop) → St
 | [], _, _ => []
 | .obj j ok :: r, i, ok' => if j = i then .obj j ok' :: r else .obj j ok :: St.setObj r i ok'
 | .box j T cs :: r, i, ok' => .box j T cs :: St.setObj r i ok'
 | .tok g E sz n :: r, i, ok' => .tok g E sz n :: St.setObj r i ok'
theorem St.obj?_split : ∀ {st : St} {i : Nat} {ok : Obj → Prop}, st.obj? i = some ok → ∃ l r, st = l ++ .obj i ok :: r ∧ ∀ ok', st.setObj i ok' = l ++ .obj i ok' :: r := by
  intro st
  induction st with
  | nil => intro i ok h; cases h
  | cons e r ih =>
    intro i ok h
    cases e with
    | obj j ok2 =>
      simp only [St.obj?] at h
      split at h
      · rename_i e
        subst e
        obtain rfl := Option.some.inj h
        exact ⟨[], r, rfl, fun ds => by simp [St.setObj]⟩
      · rename_i e
        obtain ⟨l, r', rfl, h2⟩ := ih h
        exact ⟨.obj j ok2 :: l, r', rfl, fun ds => by simp [St.setObj, e, h2]⟩
    | tok g E sz n =>
      simp only [St.obj?] at h
      obtain ⟨l, r', rfl, h2⟩ := ih h
      exact ⟨.tok g E sz n :: l, r', rfl, fun ds => by simp [St.setObj, h2]⟩
    | box j U ds =>
      simp only [St.obj?] at h
      obtain ⟨l, r', rfl, h2⟩ := ih h
      exact ⟨.box j U ds :: l, r', rfl, fun ds => by simp [St.setObj, h2]⟩
theorem Rel.newObj {F : Fz} {st : St} {K : Kp} {w : World} (h : Rel F st K w) {o : Obj} {ok : Obj → Prop} (hok : ok o) :
    ∃ i, K.box i = none ∧ St.freshB st i ∧ Ext F K w (K.addBox i w.heap.size) (w.alloc o) ∧ Rel F (.obj i ok :: st) (K.addBox i w.heap.size) (w.alloc o) := by
  obtain ⟨nx, hnx⟩ := h.fin
  have hnone : K.box nx = none := (hnx nx (Nat.le_refl _)).1
  have hkb : ∀ j b, K.box j = some b → (K.addBox nx w.heap.size).box j = some b := fun j b hj => by
    simp only [Kp.addBox]
    rw [if_neg (by intro e; subst e; rw [hnone] at hj; cases hj)]; exact hj
  have hx : Ext F K w (K.addBox nx w.heap.size) (w.alloc o) := Qle F w _ (fun b o hc => ⟨h.klt hc, hc⟩) (fun b o hc => .inl hc) hkb (fun _ _ h => h) (fun _ _ => rfl) h.ff
  have hbk : ∀ e ∈ st, e.bid ≠ some nx := fun e he hid => by
    cases e with
    | box i U cs =>
      simp only [Ent.bid, Option.some.injEq] at hid
      subst hid
      obtain ⟨b, arr, h1, -⟩ := h.ents _ he
      rw [hnone] at h1; cases h1
    | tok => cases hid
    | obj i ok =>
      simp only [Ent.bid, Option.some.injEq] at hid
      subst hid
      obtain ⟨b, o, h1, -⟩ := h.ents _ he
      rw [hnone] at h1; cases h1
  refine ⟨nx, hnone, hbk, hx, ⟨fun b o hc => ?_, fun b hb => by have := h.ff b hb; simp; omega, ⟨nx + 1, fun j hj => ?_⟩, h.fi, fun e he => ?_, ?_, ?_⟩⟩
  · obtain ⟨v, hv⟩ := h.kc b o hc
    exact ⟨v, (hx.kp b o hc).2.trans hv⟩
  · simp only [Kp.addBox]
    rw [if_neg (by omega)]
    exact hnx j (by omega)
  · rcases List.mem_cons.1 he with rfl | he
    · refine ⟨w.heap.size, o, by simp [Kp.addBox], fun hf => by have := h.ff _ hf; omega, heap_alloc_new w _, hok, fun o' hc => by have := h.klt hc; omega⟩
    · have he' := h.ents e he
      exact he'.keep hx (fun b hb => Below.heap_alloc w _ b (he'.lt hb).1) (fun _ _ _ h => h) fun _ _ => rfl
  · have hmap : ∀ e ∈ st, e.block (K.addBox nx w.heap.size) = e.block K := fun e he => by
      cases e with
      | box i U cs =>
        obtain ⟨b, arr, h1, -⟩ := h.ents _ he
        simp only [Ent.block, h1]; exact hkb i b h1
      | tok g E sz n => rfl
      | obj i ok =>
        obtain ⟨b, o, h1, -⟩ := h.ents _ he
        simp only [Ent.block, h1]; exact hkb i b h1
    rw [List.filterMap_cons]
    simp only [Ent.block, Kp.addBox, if_true]
    have e2 : st.filterMap (Ent.block (K.addBox nx w.heap.size)) = st.filterMap (Ent.block K) := Qfu hmap
    simp only [Kp.addBox] at e2
    rw [List.nodup_cons]
    refine ⟨fun hm => ?_, by rw [e2]; exact h.nb⟩
    rw [e2] at hm
    obtain ⟨e, he, hb⟩ := List.mem_filterMap.1 hm
    have := ((h.ents e he).lt hb).1
    omega
  · simpa [List.filterMap_cons, Ent.tid] using h.nt
theorem Rel.setObj {F : Fz} {l r : St} {K : Kp} {w w' : World} {i b : Nat} {ok ok' : Obj → Prop} {o : Obj} (h : Rel F (l ++ .obj i ok :: r) K w) (hb : K.box i = some b)
  (os : w'.os = w.os) (tape : w'.tape = w.tape) (out : w'.output = w.output) (size : w'.heap.size = w.heap.size) (hh : w'.heap[b]? = some o) (ho : ∀ k, k ≠ b → w'.heap[k]? = w.heap[k]?) (hok : ok' o) :
  Ext F K w K w' ∧ Rel F (l ++ .obj i ok' :: r) K w' := by
 obtain ⟨b', o0, h1, h2, h3, h4, h6⟩ := h.ents (.obj i ok) (by simp)
 rw [hb] at h1
 obtain rfl := Option.some.inj h1
 have hcell : ∀ c o, K.cell c o → c ≠ b := fun c o hc e => h6 o (e ▸ hc)
 have hx : Ext F K w K w' := ⟨os, tape, out, by omega, fun c hc => ho c fun e => h2 (e ▸ hc), fun c o hc => ⟨hc, World.cell?_of_block (w := w) (a := ⟨c, o, none⟩) (ho c (hcell c o hc))⟩, fun c o hc => .inl hc, fun _ _ h => h, fun g u hu => ⟨u, hu, .inl rfl⟩, fun _ _ => rfl⟩
 refine ⟨hx, ⟨fun c o hc => ?_, fun c hc => by have := h.ff c hc; omega, h.fin, h.fi, fun e he => ?_, ?_, ?_⟩⟩
 ·obtain ⟨v, hv⟩ := h.kc c o hc
  exact ⟨v, (hx.kp c o hc).2.trans hv⟩
 ·simp only [List.mem_append, List.mem_cons] at he
  have key : ∀ x, x ∈ l ∨ x ∈ r → EntOk F K w' x := fun x hxx => by
   have hne := nodup_ne h.nb (e := .obj i ok) hb x hxx
   refine (h.ents x (by simp only [List.mem_append, List.mem_cons]; rcases hxx with h | h <;> simp [h])).keep hx (fun c hc => ho c fun e => hne (e ▸ hc)) (fun _ _ _ h => h) fun _ _ => rfl
  rcases he with he | rfl | he
  ·exact key e (.inl he)
  ·exact ⟨b, o, hb, h2, hh, hok, h6⟩
  ·exact key e (.inr he)
 ·have := h.nb
  simp only [List.filterMap_append, List.filterMap_cons, Ent.block] at this ⊢
  exact this
 ·have := h.nt
  simp only [List.filterMap_append, List.filterMap_cons, Ent.tid] at this ⊢
  exact this
def Qfv (s : ByteArray) (pos : Nat) : Obj → Prop := fun o => o = .stringIter s pos
theorem POp_range {P : Program} {o : Oper} {ρ : Operand → Option PV} {st : St} {R : PV → St → Prop} {t : TypeId} {x : Operand} (ho : o.op = .range t x) {s : ByteArray} (hx : ρ x = some (.d (.v (.string s)))) (ht : P.underlying t = some .string) (h : ∀ i, st.freshB i → R (.ptr i 0) (.obj i (Qfv s 0) :: st)) : POp P o ρ st R := by
  refine POp.of_run fun F K w a h1 h2 => ?_
  obtain ⟨dst, op, ty, pos, after, guard⟩ := o
  simp only at ho h2
  subst ho
  have hv := h2 x (by simp [Op.operands]) _ hx
  generalize hvx : a.eval x = vx at hv
  cases hv with
  | d hv => cases hv with
    | v hv =>
      obtain ⟨i, hi, hf, hx2, hr2⟩ := h1.newObj (o := .stringIter s 0) (ok := Qfv s 0) rfl
      refine ⟨.pointer (some ⟨w.heap.size, 0, none⟩), _, _, .ptr i 0, _, ?_, hx2, hr2, .ptr (by simp [Kp.addBox]), h i hf⟩
      have hr := run_range_string (P := P) w t s ht
      simp only [execOp, hvx, Sem.run_bind, hr, World.iter]
      rfl
def Qgl (s : ByteArray) (pos : Nat) : PV := if pos < s.size then .tup [.d (.v (.bool true)), .d (.v (.int .i64 pos)), .d (.v (.int .i32 (Utf8.decode s pos).1))] else .tup [.d (.v (.bool false))]
def Qfj (s : ByteArray) (pos : Nat) : Nat := if pos < s.size then pos + (Utf8.decode s pos).2 else pos
theorem POp_next {P : Program} {o : Oper} {ρ : Operand → Option PV} {st : St} {R : PV → St → Prop} {x : Operand} (ho : o.op = .next x true) {i : Nat} (hx : ρ x = some (.ptr i 0)) {s : ByteArray} {pos : Nat} (hb : st.obj? i = some (Qfv s pos)) (h : R (Qgl s pos) (st.setObj i (Qfv s (Qfj s pos)))) : POp P o ρ st R := by
  refine POp.of_run fun F K w a h1 h2 => ?_
  obtain ⟨dst, op, ty, pos', after, guard⟩ := o
  simp only at ho h2
  subst ho
  obtain ⟨l, r, rfl, hset⟩ := St.obj?_split hb
  rw [hset] at h
  obtain ⟨b, ob, hk, hF, hh, hok, hn⟩ := h1.ents (.obj i (Qfv s pos)) (by simp)
  obtain rfl : ob = .stringIter s pos := hok
  have hr := h2 x (by simp [Op.operands]) _ hx
  generalize hvx : a.eval x = vx at hr
  cases hr with
  | ptr hb' =>
  rw [hk] at hb'
  obtain rfl := Option.some.inj hb'
  by_cases hp : pos < s.size
  · have hlt : b < w.heap.size := (Array.getElem?_eq_some_iff.1 hh).1
    obtain ⟨hx2, hrel⟩ := h1.setObj (ok' := Qfv s (Qfj s pos)) (o := .stringIter s (Qfj s pos)) (w' := { w with heap := w.heap.setIfInBounds b (.stringIter s (pos + (Utf8.decode s pos).2)) }) hk rfl rfl rfl (by simp) (by simp [Qfj, hp, hlt]) (fun k hk => by simp [Array.getElem?_setIfInBounds, Ne.symm hk]) rfl
    refine ⟨.tuple #[.bool true, .int .i64 pos, .int .i32 (Utf8.decode s pos).1], _, K, _, _, ?_, hx2, hrel, ?_, h⟩
    · simp only [execOp, hvx, Sem.run_bind, Instr.next, getObj, setObj, Sem.run, hh, Result.andThen, hp, if_true]
      simp [goInt, hh]
    · simp only [Qgl, if_pos hp]
      refine .tup rfl fun j p v hp hv => ?_
      match j with
      | 0 =>
        have e1 := Option.some.inj hp
        have e2 := Option.some.inj hv
        subst e1; subst e2; exact .d (.v trivial)
      | 1 =>
        have e1 := Option.some.inj hp
        have e2 := Option.some.inj hv
        subst e1; subst e2; exact .d (.v trivial)
      | 2 =>
        have e1 := Option.some.inj hp
        have e2 := Option.some.inj hv
        subst e1; subst e2; exact .d (.v trivial)
      | n + 3 => simp at hp
  · refine ⟨.tuple #[.bool false], w, K, _, _, ?_, Ext.refl _ _ _, ?_, ?_, h⟩
    · simp [execOp, hvx, Instr.next, getObj, Sem.run, hh, hp]
    · rw [Qfj, if_neg hp]; exact h1
    · simp only [Qgl, if_neg hp]
      refine .tup rfl fun j p v hp hv => ?_
      match j with
      | 0 =>
        have e1 := Option.some.inj hp
        have e2 := Option.some.inj hv
        subst e1; subst e2; exact .d (.v trivial)
      | n + 1 => simp at hp
section
variable {P : Program} {n : Nat} {ops : Array Oper} {Q : PF → St → Prop} {rest : List Oper} {fr : PF} {st : St} {p : PV} {ty : TypeId} {pos : String} {after : Array Edge} {gd : Option (Nat × Bool)} {d : Nat}
theorem POps_range {t : TypeId} {x : Operand} {s : ByteArray} (h : ∀ i, st.freshB i → POps P n ops Q rest ((d, .ptr i 0) :: fr) (.obj i (Qfv s 0) :: st)) (hd : d < n := by decide)
  (hw : PF.wants fr ops ⟨some d, .range t x, ty, pos, after, gd⟩ = some true := by rfl) (hx : fr.eval x = some p := by exact eQ) (hp : p = .d (.v (.string s)) := by rfl) (ht : P.underlying t = some .string := by rfl) : POps P n ops Q (⟨some d, .range t x, ty, pos, after, gd⟩ :: rest) fr st :=
 Qeb hd hw (POp_range (o := ⟨some d, .range t x, ty, pos, after, gd⟩) rfl (hp ▸ hx) ht h)
theorem Qgw {x : Operand} {i : Nat} {s : ByteArray} {k k' : Nat} {q : PV} {ok : Obj → Prop} {st' : St} (hv : Qgl s k = q) (hk : Qfj s k = k') (h : POps P n ops Q rest ((d, q) :: fr) st') (hd : d < n := by decide)
  (hw : PF.wants fr ops ⟨some d, .next x true, ty, pos, after, gd⟩ = some true := by rfl) (hx : fr.eval x = some p := by exact eQ) (hp : p = .ptr i 0 := by rfl) (hb : st.obj? i = some ok := by simp [St.obj?, *]; rfl) (hok : ok = Qfv s k := by rfl) (hs : st.setObj i (Qfv s k') = st' := by simp [St.setObj, *]; rfl) : POps P n ops Q (⟨some d, .next x true, ty, pos, after, gd⟩ :: rest) fr st :=
 Qeb hd hw (POp_next (o := ⟨some d, .next x true, ty, pos, after, gd⟩) rfl (hp ▸ hx) (hok ▸ hb) (by subst hv; subst hk; exact hs.symm ▸ h))
end
section
variable {P : Program} {J : St → Prop} {ops : Array Oper} {n : Nat} {kd : Nat → Kd} {md : Region.Mode}
def Qhk (ops : Array Oper) (i : Nat) : Bool :=
 match ops[i]? with
 | none => false
 | some o => (List.range ops.size).all fun k => k == i || o.after.any fun e => Region.binds .any e && e.on == k
theorem last_ready {listed : Array Bool} {i : Nat} (hs : listed.size = ops.size) (hl : Qhk ops i = true) (hi : i ∈ Region.ready .any ops listed) : Region.ready .any ops (listed.setIfInBounds i true) = [] := by
 refine List.eq_nil_iff_forall_not_mem.2 fun j hj => ?_
 obtain ⟨h0, o, ho, hall⟩ := mem_ready.1 hi
 obtain ⟨h1, oj, hoj, -⟩ := mem_ready.1 hj
 have hlt : j < ops.size := (Array.getElem?_eq_some_iff.1 hoj).1
 unfold Qhk at hl
 rw [ho] at hl
 have h2 := List.all_eq_true.1 hl j (List.mem_range.2 hlt)
 simp only [Bool.or_eq_true, beq_iff_eq] at h2
 rcases h2 with rfl | h2
 ·simp [hs, hlt] at h1
 ·obtain ⟨e, he, h3⟩ := Array.any_eq_true'.1 h2
  simp only [Bool.and_eq_true, beq_iff_eq] at h3
  have h4 := hall e he h3.1
  rw [h3.2] at h4
  by_cases hji : i = j
  ·subst hji; simp [hs, hlt] at h1
  ·rw [getD_set_ne true hji] at h1
   have h5 := Qfw h1
   rw [h4] at h5; cases h5
def lOp (P : Program) (J : St → Prop) (ops : Array Oper) (n : Nat) (kd : Nat → Kd) (i : Nat) (K : G → St → Prop) (g : G) (st : St) : Prop :=
  match ops[i]? with
  | none => K g st
  | some o => (∀ d, o.dst = some d → d < n) ∧
    ((Qde g ops o = some false ∧ K (gput g o.dst (.tup [])) st) ∨
     (Qde g ops o = some true ∧
      match kd i with
      | .a => ∃ p, (∀ s, J s → POp P o (Qcj g) s fun q s' => q = p ∧ s' = s) ∧ K (gput g o.dst p) st
      | .b => ∃ p, (POp P o (Qcj g) st fun q s' => q = p ∧ s' = st) ∧ K (gput g o.dst p) st
      | .e => POp P o (Qcj g) st fun p s' => (Qhk ops i = true ∨ J s') ∧ K (gput g o.dst p) s'))
theorem lOp_mono {i : Nat} {K K' : G → St → Prop} {g : G} {st : St} (h : ∀ g s, K g s → K' g s) (hh : lOp P J ops n kd i K g st) : lOp P J ops n kd i K' g st := by
 unfold lOp at *
 split
 ·rename_i ho; rw [ho] at hh; exact h _ _ hh
 ·rename_i o ho
  rw [ho] at hh
  obtain ⟨hd, hh⟩ := hh
  refine ⟨hd, ?_⟩
  rcases hh with ⟨h1, h2⟩ | ⟨h1, h2⟩
  ·exact .inl ⟨h1, h _ _ h2⟩
  ·refine .inr ⟨h1, ?_⟩
   cases hk : kd i with
   | a => rw [hk] at h2; obtain ⟨p, h3, h4⟩ := h2; exact ⟨p, h3, h _ _ h4⟩
   | b => rw [hk] at h2; obtain ⟨p, h3, h4⟩ := h2; exact ⟨p, h3, h _ _ h4⟩
   | e => rw [hk] at h2; exact h2.mono fun p s hs => ⟨hs.1, h _ _ hs.2⟩
def lAny (P : Program) (J : St → Prop) (md : Region.Mode) (ops : Array Oper) (n : Nat) (kd : Nat → Kd) (Q : G → St → Prop) : Nat → Array Bool → G → St → Prop
  | 0, listed, g, st => Region.ready md ops listed = [] ∧ Q g st
  | fuel + 1, listed, g, st =>
    (Region.ready md ops listed = [] → Q g st) ∧ ∀ i ∈ Region.ready md ops listed, lOp P J ops n kd i (lAny P J md ops n kd Q fuel (listed.setIfInBounds i true)) g st
theorem wpAny_lAny {Q : G → St → Prop} {Q' : Exit → Act → World → Prop} {F : Fz} {K0 : Kp} {w0 : World} (hQ : ∀ K w a g st, Ext F K0 w0 K w → Rel F st K w → FG n g K w a → Q g st → Q' .normal a w) :
    ∀ (fuel : Nat) (listed : Array Bool) (g : G) (st : St) (K : Kp) (w : World) (a : Act), listed.size = ops.size → Ext F K0 w0 K w → Rel F st K w → FG n g K w a → (Region.ready .any ops listed = [] ∨ J st) → lAny P J .any ops n kd Q fuel listed g st → wpAny P .any ops Q' fuel listed a w := by
  intro fuel
  induction fuel with
  | zero => intro listed g st K w a hls hx hr hf hJ h; exact ⟨h.1, hQ K w a g st hx hr hf h.2⟩
  | succ fuel ih =>
    intro listed g st K w a hls hx hr hf hJ h
    refine ⟨fun h0 => hQ K w a g st hx hr hf (h.1 h0), fun i hi => ?_⟩
    have hJ : J st := by
      rcases hJ with hJ | hJ
      · rw [hJ] at hi; cases hi
      · exact hJ
    have hls' : (listed.setIfInBounds i true).size = ops.size := by simp [hls]
    have hop := h.2 i hi
    unfold lOp at hop
    unfold wpOp
    split
    · rename_i ho
      rw [ho] at hop
      exact ih _ g st K w a hls' hx hr hf (.inr hJ) hop
    · rename_i o ho
      rw [ho] at hop
      obtain ⟨hd, hop⟩ := hop
      rcases hop with ⟨h1, h2⟩ | ⟨h1, h2⟩
      · rw [Qhf hf h1]
        exact ih _ _ st K w _ hls' hx hr (hf.put hd (.tup rfl fun i p v hp _ => by simp at hp)) (.inr hJ) h2
      · rw [Qhf hf h1]
        simp only [if_true]
        refine .inl ?_
        have hgen : POp P o (Qcj g) st fun p s' => (Qhk ops i = true ∨ J s') ∧ lAny P J .any ops n kd Q fuel (listed.setIfInBounds i true) (gput g o.dst p) s' := by
          cases hk : kd i with
          | a =>
            rw [hk] at h2; obtain ⟨p, h3, h4⟩ := h2
            exact (h3 st hJ).mono fun q s ⟨e1, e2⟩ => by subst e1; subst e2; exact ⟨.inr hJ, h4⟩
          | b =>
            rw [hk] at h2; obtain ⟨p, h3, h4⟩ := h2
            exact h3.mono fun q s ⟨e1, e2⟩ => by subst e1; subst e2; exact ⟨.inr hJ, h4⟩
          | e => rw [hk] at h2; exact h2
        exact hgen F K w a _ _ hr (fun x _ p hp => hf.eval x p hp) fun K' w' p st' v b1 b2 b3 b4 => ih _ _ st' K' w' _ hls' (hx.trans b1) b2 ((hf.mono b1).put hd b3) (b4.1.imp (fun hl => last_ready hls hl hi) id) b4.2
def lYields (P : Program) (J : St → Prop) (ops : Array Oper) (n : Nat) (k : Kd) (o : Oper) (p : PV) (g : G) (st : St) : Prop :=
  (∀ d, o.dst = some d → d < n) ∧
  ((Qde g ops o = some false ∧ p = .tup []) ∨
   (Qde g ops o = some true ∧
    match k with
    | .a => ∀ s, J s → POp P o (Qcj g) s fun q s' => q = p ∧ s' = s
    | .b => POp P o (Qcj g) st fun q s' => q = p ∧ s' = st
    | .e => False))
theorem lYields.op {i : Nat} {o : Oper} {p : PV} {g : G} {st : St} (hi : ops[i]? = some o) (hy : lYields P J ops n (kd i) o p g st) {K : G → St → Prop} (h : K (gput g o.dst p) st) : lOp P J ops n kd i K g st := by
 unfold lOp
 rw [hi]
 obtain ⟨hd, hy⟩ := hy
 refine ⟨hd, ?_⟩
 rcases hy with ⟨h1, rfl⟩ | ⟨h1, h2⟩
 ·exact .inl ⟨h1, h⟩
 ·refine .inr ⟨h1, ?_⟩
  cases hk : kd i with
  | a => rw [hk] at h2; exact ⟨p, h2, h⟩
  | b => rw [hk] at h2; exact ⟨p, h2, h⟩
  | e => rw [hk] at h2; exact h2.elim
theorem lYields.put {k : Kd} {o : Oper} {p : PV} {g : G} {st : St} (hy : lYields P J ops n k o p g st) {dst : Option Tmp} {q : PV} (h : ∀ d, dst = some d → d ∉ o.looksAt ops) : lYields P J ops n k o p (gput g dst q) st := by
 obtain ⟨hd, hy⟩ := hy
 refine ⟨hd, ?_⟩
 rw [Qgh h]
 rcases hy with ⟨h1, h2⟩ | ⟨h1, h2⟩
 ·exact .inl ⟨h1, h2⟩
 ·refine .inr ⟨h1, ?_⟩
  cases k with
  | a => exact fun s hs => (h2 s hs).congr fun x hx => (Qcd h x hx).symm
  | b => exact POp.congr h2 fun x hx => (Qcd h x hx).symm
  | e => exact h2
theorem lOp_put {i j : Nat} {oi oj : Oper} {p : PV} (hj : ops[j]? = some oj) (hap : oi.apart ops oj = true) {K : G → St → Prop} {g : G} {st : St} (hy : lYields P J ops n (kd i) oi p g st) (hb : kd i = .b → kd j ≠ .e) (h : lOp P J ops n kd j K (gput g oi.dst p) st) :
    lOp P J ops n kd j (fun g' s' => lYields P J ops n (kd i) oi p g' s' ∧ K (gput g' oi.dst p) s') g st := by
  obtain ⟨h1, h2, h3⟩ := Oper.apart_spec hap
  unfold lOp at *
  rw [hj] at h ⊢
  simp only at h ⊢
  obtain ⟨hd, h⟩ := h
  rw [Qgh h1] at h
  refine ⟨hd, ?_⟩
  rcases h with ⟨e1, e2⟩ | ⟨e1, e2⟩
  · exact .inl ⟨e1, hy.put h3, by rw [← Qcz g p _ h2]; exact e2⟩
  · refine .inr ⟨e1, ?_⟩
    cases hk : kd j with
    | a =>
      rw [hk] at e2
      obtain ⟨q, e3, e4⟩ := e2
      exact ⟨q, fun s hs => (e3 s hs).congr fun x hx => Qcd h1 x hx, hy.put h3, by rw [← Qcz g p _ h2]; exact e4⟩
    | b =>
      rw [hk] at e2
      obtain ⟨q, e3, e4⟩ := e2
      exact ⟨q, e3.congr fun x hx => Qcd h1 x hx, hy.put h3, by rw [← Qcz g p _ h2]; exact e4⟩
    | e =>
      rw [hk] at e2
      refine (POp.congr e2 fun x hx => Qcd h1 x hx).mono fun q s hs => ⟨hs.1, ?_, by rw [← Qcz g p _ h2]; exact hs.2⟩
      have hy2 := hy.put (dst := oj.dst) (q := q) h3
      obtain ⟨d1, d2⟩ := hy2
      refine ⟨d1, ?_⟩
      rcases d2 with d2 | ⟨d2, d3⟩
      · exact .inl d2
      · refine .inr ⟨d2, ?_⟩
        cases hki : kd i with
        | a => rw [hki] at d3; exact d3
        | b => exact absurd hk (hb hki)
        | e => rw [hki] at d3; exact d3.elim
theorem lAny_first {Q : G → St → Prop} {i : Nat} {oi : Oper} {p : PV} (hi : ops[i]? = some oi) : ∀ (fuel : Nat) (listed : Array Bool) (g : G) (st : St), DC md ops listed →
    (∀ j oj, ops[j]? = some oj → j ≠ i → listed.getD j true = false → (∀ e ∈ oj.after, Region.binds md e = true → e.on ≠ i) → oi.apart ops oj = true) →
    (kd i = .b → ∀ j, kd j = .e → listed.getD j true = false → j < ops.size → ∃ f, Qhm md ops i f j = true) →
    i ∈ Region.ready md ops listed → lYields P J ops n (kd i) oi p g st → lAny P J md ops n kd Q fuel (listed.setIfInBounds i true) (gput g oi.dst p) st → lAny P J md ops n kd Q (fuel + 1) listed g st := by
  intro fuel
  induction fuel with
  | zero =>
    intro listed g st hdc _ _ hr hy H
    refine ⟨fun h => (by rw [h] at hr; cases hr), fun j hj => ?_⟩
    by_cases hji : j = i
    · subst hji; exact hy.op hi H
    · have := ready_mono hj hji
      rw [H.1] at this
      cases this
  | succ fuel ih =>
    intro listed g st hdc hfree hB hr hy H
    refine ⟨fun h => (by rw [h] at hr; cases hr), fun j hj => ?_⟩
    by_cases hji : j = i
    · subst hji; exact hy.op hi H
    · have h1 := H.2 j (ready_mono hj hji)
      obtain ⟨hjun, oj, hoj, hall⟩ := mem_ready.1 hj
      have hiun := (mem_ready.1 hr).1
      have hnot : ∀ e ∈ oj.after, Region.binds md e = true → e.on ≠ i := fun e he hb heq => by
        have h1 := hall e he hb
        rw [heq] at h1
        have h2 := Qfw hiun
        rw [h1] at h2; cases h2
      have hlt : j < ops.size := (Array.getElem?_eq_some_iff.1 hoj).1
      have hbj : kd i = .b → kd j ≠ .e := fun hb he => by
        obtain ⟨f, hw⟩ := hB hb j he hjun hlt
        exact Qjs hdc hw hiun hj
      have h2 := lOp_put hoj (hfree j oj hoj hji hjun hnot) hy hbj h1
      refine lOp_mono (fun g' s' h3 => ih (listed.setIfInBounds j true) g' s' (hdc.set hj) (fun k ok hk hki hun hno => ?_) (fun hb k hk hun hkl => ?_) (ready_mono hr (Ne.symm hji)) h3.1 ?_) h2
      · refine hfree k ok hk hki ?_ hno
        by_cases hjk : j = k
        · subst hjk; exact hjun
        · rw [getD_set_ne true hjk] at hun; exact hun
      · refine hB hb k hk ?_ hkl
        by_cases hjk : j = k
        · subst hjk; exact hjun
        · rw [getD_set_ne true hjk] at hun; exact hun
      · rw [Array.setIfInBounds_comm _ _ hji]
        exact h3.2
def Qbl (P : Program) (J : St → Prop) (n : Nat) (ops : Array Oper) (Q : PF → St → Prop) : List (Nat × Kd) → PF → St → Prop
  | [], fr, st => Q fr st
  | (i, k) :: rest, fr, st => ∃ o, ops[i]? = some o ∧ (∀ d, o.dst = some d → d < n) ∧
    ((fr.wants ops o = some false ∧ Qbl P J n ops Q rest (fr.put o.dst (.tup [])) st) ∨
     (fr.wants ops o = some true ∧
      match k with
      | .a => ∃ p, (∀ s, J s → POp P o fr.eval s fun q s' => q = p ∧ s' = s) ∧ Qbl P J n ops Q rest (fr.put o.dst p) st
      | .b => ∃ p, (POp P o fr.eval st fun q s' => q = p ∧ s' = st) ∧ Qbl P J n ops Q rest (fr.put o.dst p) st
      | .e => POp P o fr.eval st fun p s' => (Qhk ops i = true ∨ J s') ∧ Qbl P J n ops Q rest (fr.put o.dst p) s'))
theorem lAny_ord {Q : PF → St → Prop} {all : List (Nat × Kd)} : ∀ (l : List (Nat × Kd)) (listed : Array Bool) (fr : PF) (st : St), DC md ops listed → Qew md ops all l listed = true → Qbl P J n ops Q l fr st → lAny P J md ops n (kdOf all) (fun g s => ∃ fr : PF, fr.get = g ∧ Q fr s) l.length listed fr.get st := by
  intro l
  induction l with
  | nil => intro listed fr st _ hB h; exact ⟨by simpa [Qew] using hB, fr, rfl, h⟩
  | cons x rest ih =>
    intro listed fr st hdc hB h
    obtain ⟨i, k⟩ := x
    simp only [Qew, Bool.and_eq_true] at hB
    obtain ⟨⟨⟨hr, hk⟩, hB1⟩, hB2⟩ := hB
    have hr' : i ∈ Region.ready md ops listed := by simpa using hr
    have hk' : kdOf all i = k := by simpa using hk
    obtain ⟨o, ho, hd, h⟩ := h
    have free : freeB md ops i listed = true → ∀ j oj, ops[j]? = some oj → j ≠ i → listed.getD j true = false → (∀ e ∈ oj.after, Region.binds md e = true → e.on ≠ i) → o.apart ops oj = true := by
      intro hf j oj hj hji hun hno
      unfold freeB at hf
      rw [ho] at hf
      simp only [List.all_eq_true, List.mem_range] at hf
      have hlt : j < ops.size := (Array.getElem?_eq_some_iff.1 hj).1
      have := hf j hlt
      rw [hj] at this
      simp only [hun, Bool.or_false, Bool.or_eq_true, beq_iff_eq] at this
      rcases this with h | h | h
      · exact absurd h hji
      · obtain ⟨e, he, h⟩ := Array.any_eq_true'.1 h
        simp only [Bool.and_eq_true, beq_iff_eq] at h
        exact absurd h.2 (hno e he h.1)
      · exact h
    have nxt : ∀ p s, Qbl P J n ops Q rest (fr.put o.dst p) s → lAny P J md ops n (kdOf all) (fun g s => ∃ fr : PF, fr.get = g ∧ Q fr s) rest.length (listed.setIfInBounds i true) (gput fr.get o.dst p) s := fun p s hp => by
      rw [← gput_get]; exact ih _ _ s (hdc.set hr') hB2 hp
    cases k with
    | a =>
      have hy : ∃ p, lYields P J ops n (kdOf all i) o p fr.get st ∧ Qbl P J n ops Q rest (fr.put o.dst p) st := by
        rw [hk']
        rcases h with ⟨h1, h2⟩ | ⟨h1, p, h2, h3⟩
        · exact ⟨_, ⟨hd, .inl ⟨by rw [Qbj]; exact h1, rfl⟩⟩, h2⟩
        · exact ⟨p, ⟨hd, .inr ⟨by rw [Qbj]; exact h1, by rw [Qem]; exact h2⟩⟩, h3⟩
      obtain ⟨p, hy, hp⟩ := hy
      exact lAny_first ho _ listed _ st hdc (free hB1) (fun hb => by rw [hk'] at hb; cases hb) hr' hy (nxt p st hp)
    | b =>
      have hy : ∃ p, lYields P J ops n (kdOf all i) o p fr.get st ∧ Qbl P J n ops Q rest (fr.put o.dst p) st := by
        rw [hk']
        rcases h with ⟨h1, h2⟩ | ⟨h1, p, h2, h3⟩
        · exact ⟨_, ⟨hd, .inl ⟨by rw [Qbj]; exact h1, rfl⟩⟩, h2⟩
        · exact ⟨p, ⟨hd, .inr ⟨by rw [Qbj]; exact h1, by rw [Qem]; exact h2⟩⟩, h3⟩
      obtain ⟨p, hy, hp⟩ := hy
      simp only [Bool.and_eq_true] at hB1
      refine lAny_first ho _ listed _ st hdc (free hB1.1) (fun _ j hj hun hlt => ?_) hr' hy (nxt p st hp)
      have := List.all_eq_true.1 hB1.2 j (List.mem_range.2 hlt)
      simp only [hj, hun, Bool.or_false] at this
      exact ⟨_, by simpa using this⟩
    | e =>
      have hsole : Region.ready md ops listed = [i] := by simpa using hB1
      refine ⟨fun h0 => (by rw [h0] at hr'; cases hr'), fun j hj => ?_⟩
      rw [hsole] at hj
      obtain rfl := List.mem_singleton.1 hj
      unfold lOp
      rw [ho]
      refine ⟨hd, ?_⟩
      rcases h with ⟨h1, h2⟩ | ⟨h1, h2⟩
      · exact .inl ⟨by rw [Qbj]; exact h1, nxt _ st h2⟩
      · refine .inr ⟨by rw [Qbj]; exact h1, ?_⟩
        rw [hk']
        simp only
        rw [Qem]
        exact h2.mono fun p s hs => ⟨hs.1, nxt p s hs.2⟩
theorem Qjf {id : Nat} {Q : Exit → PF → St → Prop} {fr : PF} {st : St} (order : List (Nat × Kd)) (hm : P.follows .mixedOrders = true) (hlen : order.length = ops.size) (hB : Qew .any ops order order (Array.replicate ops.size false) = true) (hJ : J st) (h : Qbl P J n ops (Q .normal) order fr st) : PW P n (.region id ops true) Q fr st := by
 intro F K w a hr hf
 have hdc : DC .any ops (Array.replicate ops.size false) := fun j o ho hj => by
  exfalso
  have hlt : j < ops.size := (Array.getElem?_eq_some_iff.1 ho).1
  simp [hlt] at hj
 have hx : Ext F K w K { w with drawn := w.drawn + 1 } := ⟨rfl, rfl, rfl, Nat.le_refl _, fun _ _ => rfl, fun _ _ h => ⟨h, rfl⟩, fun _ _ h => .inl h, fun _ _ h => h, fun g u h => ⟨u, h, .inl rfl⟩, fun _ _ => rfl⟩
 have hr2 : Rel F st K { w with drawn := w.drawn + 1 } := ⟨hr.kc, hr.ff, hr.fin, hr.fi, fun e he => (hr.ents e he).keep hx (fun _ _ => rfl) (fun _ _ _ h => h) fun _ _ => rfl, hr.nb, hr.nt⟩
 have hany := lAny_ord (md := .any) order _ fr st hdc hB h
 rw [hlen] at hany
 exact wp_region_any hm (wpAny_lAny (K0 := K) (w0 := w) (F := F) (Q := fun g s => ∃ fr : PF, fr.get = g ∧ Q .normal fr s) (fun K' w' a' g' st' h1 h2 h3 ⟨fr', e, h4⟩ => ⟨K', fr', st', h1, h2, by subst e; exact h3.fr, h4⟩) _ _ _ st K _ a (by simp) hx hr2 (hf.mono hx).fg (.inr hJ) hany)
end
section
variable {P : Program} {J : St → Prop} {n : Nat} {ops : Array Oper} {Q : PF → St → Prop} {fr : PF} {st : St} {p : PV} {op : Op} {ty : TypeId} {pos : String} {after : Array Edge} {gd : Option (Nat × Bool)} {od : List (Nat × Kd)} {j d : Nat}
theorem PL_nil (h : Q fr st) : Qbl P J n ops Q [] fr st := h
theorem PL_s (h : Qbl P J n ops Q od ((d, p) :: fr) st) (ho : ops[j]? = some ⟨some d, op, ty, pos, after, gd⟩) (hd : d < n) (hw : PF.wants fr ops ⟨some d, op, ty, pos, after, gd⟩ = some true) (he : nev P fr.eval op = some p) : Qbl P J n ops Q ((j, .a) :: od) fr st :=
 ⟨_, ho, fun _ e => by cases e; exact hd, .inr ⟨hw, p, fun s _ => nev_ok (o := ⟨some d, op, ty, pos, after, gd⟩) he s, h⟩⟩
theorem PL_gn {k : Kd} (h : Qbl P J n ops Q od ((d, .tup []) :: fr) st) (ho : ops[j]? = some ⟨some d, op, ty, pos, after, gd⟩) (hd : d < n) (hw : PF.wants fr ops ⟨some d, op, ty, pos, after, gd⟩ = some false) : Qbl P J n ops Q ((j, k) :: od) fr st :=
 ⟨_, ho, fun _ e => by cases e; exact hd, .inl ⟨hw, h⟩⟩
theorem PL_b {l : List (Nat × TypeId × List PV)} {t : TypeId} {a : Operand} {i off : Nat} {T : Ty} {U : TypeId} {cs : List PV} (h : Qbl P (Qdr l) n ops Q od ((d, p) :: fr) st) (ho : ops[j]? = some ⟨some d, .load t a, ty, pos, after, gd⟩) (hd : d < n) (hw : PF.wants fr ops ⟨some d, .load t a, ty, pos, after, gd⟩ = some true) (ha : fr.eval a = some (.ptr i off)) (hT : tyOf P t = some T) (hl : (i, U, cs) ∈ l) (he : Jm T (cs.drop off) = some p) : Qbl P (Qdr l) n ops Q ((j, .a) :: od) fr st :=
 ⟨_, ho, fun _ e => by cases e; exact hd, .inr ⟨hw, p, fun s hs => Qix (o := ⟨some d, .load t a, ty, pos, after, gd⟩) (by simp only [nevB, ha, hT, hs _ hl]; exact he), h⟩⟩
theorem PL_e (ho : ops[j]? = some ⟨some d, op, ty, pos, after, gd⟩) (hd : d < n) (hw : PF.wants fr ops ⟨some d, op, ty, pos, after, gd⟩ = some true) (h : POp P ⟨some d, op, ty, pos, after, gd⟩ fr.eval st fun p st' => (Qhk ops j = true ∨ J st') ∧ Qbl P J n ops Q od ((d, p) :: fr) st') : Qbl P J n ops Q ((j, .e) :: od) fr st :=
 ⟨_, ho, fun _ e => by cases e; exact hd, .inr ⟨hw, h⟩⟩
theorem PL_e0 (ho : ops[j]? = some ⟨none, op, ty, pos, after, gd⟩) (hw : PF.wants fr ops ⟨none, op, ty, pos, after, gd⟩ = some true) (h : POp P ⟨none, op, ty, pos, after, gd⟩ fr.eval st fun _ st' => (Qhk ops j = true ∨ J st') ∧ Qbl P J n ops Q od fr st') : Qbl P J n ops Q ((j, .e) :: od) fr st :=
 ⟨_, ho, fun _ e => (by cases e), .inr ⟨hw, h⟩⟩
theorem PL_store {t : TypeId} {x y : Operand} {q : PV} {i off : Nat} {T : Ty} {c : TypeId × List PV} {U : TypeId} {cs ps : List PV} {st' : St} (ho : ops[j]? = some ⟨none, .store t x y, ty, pos, after, gd⟩) (hw : PF.wants fr ops ⟨none, .store t x y, ty, pos, after, gd⟩ = some true) (hx : fr.eval x = some q) (hq : q = .ptr i off) (hy : fr.eval y = some p) (hps : p.ps = ps) (hone : ps.all PV.one = true) (hT : tyOf P t = some T) (hsz : ps.length = T.size) (hb : st.box? i = some c) (hc : c = (U, cs)) (hfit : off + ps.length ≤ cs.length) (hs : st.setBox i (spl cs off ps) = st') (hJ : Qhk ops j = true ∨ J st')
  (h : Qbl P J n ops Q od fr st') : Qbl P J n ops Q ((j, .e) :: od) fr st :=
 PL_e0 ho hw (Qkn rfl hx hq hy hps hone hT hsz hb hc hfit hs ⟨hJ, h⟩)
theorem PLs {t : TypeId} {x y : Operand} {q : PV} {i off : Nat} {T : Ty} {c : TypeId × List PV} {U : TypeId} {cs ps : List PV} {st' : St} (h : Qbl P J n ops Q od fr st') (ho : ops[j]? = some ⟨none, .store t x y, ty, pos, after, gd⟩ := by rfl) (hw : PF.wants fr ops ⟨none, .store t x y, ty, pos, after, gd⟩ = some true := by rfl) (hx : fr.eval x = some q := by exact eQ) (hq : q = .ptr i off := by rfl) (hy : fr.eval y = some p := by exact eQ) (hps : p.ps = ps := by simp [PV.ps, aggD, slD, Jg, Jj, Jh, Ji, Jf, Je]; rfl) (hone : ps.all PV.one = true := by first | rfl | (simp [*]; done) | (simp [PV.one, *]; done) | fail) (hT : tyOf P t = some T := by simp; rfl) (hsz : ps.length = T.size := by first | (simp; done) | fail) (hb : st.box? i = some c := by exact eQ) (hc : c = (U, cs) := by rfl) (hfit : off + ps.length ≤ cs.length := by first | (simp; done) | fail) (hs : st.setBox i (spl cs off ps) = st' := by simp [St.setBox, spl, *]; rfl) (hJ : Qhk ops j = true ∨ J st' := by first | exact .inl (by decide +kernel) | exact .inr (by (repeat (first | exact Qce _ | refine Jt (by simp [St.box?, *] <;> rfl) ?_)))) : Qbl P J n ops Q ((j, .e) :: od) fr st :=
 PL_store ho hw hx hq hy hps hone hT hsz hb hc hfit hs hJ h
theorem PL_bs {len : Nat} {t : TypeId} {parts : Array (Nat × Operand)} {E es bytes ts : Nat} {ea : Option Bool} {T0 : Ty} {e0 : Nat × Nat} {cells : List PV} {rows : List (List D)} (h : Qbl P J n ops Q od ((d, .d (.sl rows)) :: fr) st) (ho : ops[j]? = some ⟨some d, .buildSlice t len parts, ty, pos, after, gd⟩) (hd : d < n) (hw : PF.wants fr ops ⟨some d, .buildSlice t len parts, ty, pos, after, gd⟩ = some true) (hT : tyOf P t = some T0) (hT2 : T0 = ⟨ts, .slice E es ea⟩) (hE : elOf P E = some e0) (hE2 : e0 = (es, bytes)) (h0 : 0 < len * es) (h24 : len * es ≤ 16777216) (hf : Qdx (fun i => some (i * es, es)) fr.eval (List.replicate (len * es) .u) parts.toList = some cells) (hr : Qdf es len cells = some rows) : Qbl P J n ops Q ((j, .a) :: od) fr st :=
 ⟨_, ho, fun _ e => (by cases e; exact hd), .inr ⟨hw, _, fun s _ => Qho (o := ⟨some d, .buildSlice t len parts, ty, pos, after, gd⟩) rfl (hT2 ▸ hT) rfl (hE2 ▸ hE) h0 h24 hf hr s, h⟩⟩
end
section
variable {P : Program} {n : Nat} {ops : Array Oper} {Q : PF → St → Prop} {fr : PF} {st : St} {ty : TypeId} {pos : String} {after : Array Edge} {gd : Option (Nat × Bool)} {od : List (Nat × Kd)} {d j : Nat}
end
section
variable {P : Program} {J : St → Prop} {n : Nat} {ops : Array Oper} {Q : PF → St → Prop} {fr : PF} {st : St} {p : PV} {op : Op} {ty : TypeId} {pos : String} {after : Array Edge} {gd : Option (Nat × Bool)} {od : List (Nat × Kd)} {j d : Nat}
theorem PL_b2 {l : List (Nat × TypeId × List PV)} {t : TypeId} {a : Operand} {q : PV} {i off : Nat} {T : Ty} {x : TypeId × List PV} {U : TypeId} {cs : List PV} (h : Qbl P (Qdr l) n ops Q od ((d, p) :: fr) st)
  (ho : ops[j]? = some ⟨some d, .load t a, ty, pos, after, gd⟩ := by rfl) (hd : d < n := by decide)
  (hw : PF.wants fr ops ⟨some d, .load t a, ty, pos, after, gd⟩ = some true := by exact eD)
  (ha : fr.eval a = some q := by exact eQ) (hq : q = .ptr i off := by rfl) (hT : tyOf P t = some T := by simp; rfl)
  (hl : (i, x) ∈ l := by first | exact List.mem_cons_self | exact List.mem_cons_of_mem _ List.mem_cons_self | exact List.mem_cons_of_mem _ (List.mem_cons_of_mem _ List.mem_cons_self)) (hx : x = (U, cs) := by rfl)
  (he : Jm T (cs.drop off) = some p := by exact eQ) : Qbl P (Qdr l) n ops Q ((j, .a) :: od) fr st := by
 subst hq; subst hx
 exact PL_b h ho hd hw ha hT hl he
theorem PL_gn2 {k : Kd} (h : Qbl P J n ops Q od ((d, .tup []) :: fr) st) (ho : ops[j]? = some ⟨some d, op, ty, pos, after, gd⟩ := by rfl) (hd : d < n := by decide) (hw : PF.wants fr ops ⟨some d, op, ty, pos, after, gd⟩ = some false := by exact eD) : Qbl P J n ops Q ((j, k) :: od) fr st := PL_gn h ho hd hw
theorem PL_s2 (h : Qbl P J n ops Q od ((d, p) :: fr) st) (ho : ops[j]? = some ⟨some d, op, ty, pos, after, gd⟩ := by rfl) (hd : d < n := by decide) (hw : PF.wants fr ops ⟨some d, op, ty, pos, after, gd⟩ = some true := by exact eD) (he : nev P fr.eval op = some p := by exact eQ) : Qbl P J n ops Q ((j, .a) :: od) fr st := PL_s h ho hd hw he
end
section
variable {P : Program} {J : St → Prop} {n : Nat} {ops : Array Oper} {Q : PF → St → Prop} {fr : PF} {st L M st0 : St} {ty : TypeId} {pos : String} {after : Array Edge} {gd : Option (Nat × Bool)} {d f j : Nat} {xs : Array Operand} {ts : Array TypeId} {ps qs : List PV} {R : PV → St → Prop} {od : List (Nat × Kd)}
theorem Qjx (k m : Nat) (hc : PCalls P f qs st0 R) (h : ∀ p s, R p s → (Qhk ops j = true ∨ J (L ++ (s ++ M))) ∧ Qbl P J n ops Q od ((d, p) :: fr) (L ++ (s ++ M)))
  (ho : ops[j]? = some ⟨some d, .call { callee := .value (.func f), args := xs, argTypes := ts }, ty, pos, after, gd⟩ := by rfl)
  (hL : st.take k = L := by simp only [List.cons_append, List.nil_append, List.take_succ_cons, List.take_zero]; rfl)
  (h0 : (st.drop k).take m = st0 := by rfl)
  (hM : (st.drop k).drop m = M := by simp only [List.cons_append, List.nil_append, List.drop_succ_cons, List.drop_zero, List.drop_nil]; rfl)
  (hd : d < n := by decide)
  (hw : PF.wants fr ops ⟨some d, .call { callee := .value (.func f), args := xs, argTypes := ts }, ty, pos, after, gd⟩ = some true := by exact eD)
  (hxs : Jn fr.eval xs.toList = some ps := by exact eQ)
  (hn : ps.map PV.norm1 = qs := by first | (simp [PV.norm1, PV.norm0, aggD, slD, Jg, Jj, Jh, Ji, Jf]; done) | fail)
  (hca : Qap P f = true := by rfl) : Qbl P J n ops Q ((j, .e) :: od) fr st :=
 PL_e ho hd hw (op_callX k m rfl rfl hc hL h0 hM hxs hn hca h)
end
theorem lG {a b : Prop} (hb : b) (h : Hd2 b → a := by
 intro k
 repeat (first | with_reducible refine PL_nil ?_ | refine PL_gn2 ?_ | refine PL_s2 ?_ | refine PL_b2 ?_)
 exact Hd2.out k) : a := h hb
section
variable {P : Program} {J : St → Prop} {n : Nat} {ops : Array Oper} {Q : PF → St → Prop} {rest : List Oper} {fr : PF} {st L M st0 : St} {p : PV} {ty : TypeId} {pos : String} {after : Array Edge} {gd : Option (Nat × Bool)} {d f j : Nat} {xs : Array Operand} {ts : Array TypeId} {ps qs first : List PV} {R : PV → St → Prop} {od : List (Nat × Kd)}
theorem POp_makeFunc {o : Oper} {ρ : Operand → Option PV} {fn : Fn} {fs : Array Operand} (ho : o.op = .makeFunc fn fs #[]) (hf : Jn ρ fs.toList = some ps) (st : St) : POp P o ρ st fun q s => q = .fn fn ps [] ∧ s = st := by
 refine POp.of_run fun F K w a h1 h2 => ?_
 obtain ⟨dst, op, ty, pos, after, guard⟩ := o
 simp only at ho h2
 subst ho
 have hr := Qld (K := K) (w := w) (ev := a.eval) (xs := fs.toList) (fun x hx q hq => h2 x (by simp only [Op.operands]; exact Array.mem_append.2 (.inl (Array.mem_def.2 hx))) q hq) hf
 refine ⟨.func fn (fs.map a.eval) #[], w, K, _, st, ?_, Ext.refl _ _ _, h1, .fn ?_ rfl ?_ (fun i p v hp _ => by simp at hp), rfl, rfl⟩
 ·simp [execOp, Instr.makeFunc, Sem.run_bind, Sem.run_pure, Result.andThen]
 ·have := hr.1
  simpa using this
 ·intro i q v hq hv
  refine hr.2 i q v hq ?_
  rw [← Array.toList_map, Array.getElem?_toList]
  exact hv
theorem Qgp {fn : Fn} {fs : Array Operand} (h : POps P n ops Q rest ((d, .fn fn ps []) :: fr) st) (hd : d < n := by decide)
  (hw : PF.wants fr ops ⟨some d, .makeFunc fn fs #[], ty, pos, after, gd⟩ = some true := by rfl) (hf : Jn fr.eval fs.toList = some ps := by exact eQ) : POps P n ops Q (⟨some d, .makeFunc fn fs #[], ty, pos, after, gd⟩ :: rest) fr st :=
 Qeb hd hw ((POp_makeFunc (o := ⟨some d, .makeFunc fn fs #[], ty, pos, after, gd⟩) rfl hf st).mono fun q s ⟨e1, e2⟩ => by subst e1; subst e2; exact h)
theorem op_callB {o : Oper} {ρ : Operand → Option PV} {R' : PV → St → Prop} {fo : Operand} {q : PV} (k m : Nat) (ho : o.op = .call { callee := .value fo, args := xs, argTypes := ts }) (hq : ρ fo = some q) (hqf : q = .fn (.func f) first []) (hc : PCalls P f qs st0 R) (hL : st.take k = L) (h0 : (st.drop k).take m = st0) (hM : (st.drop k).drop m = M) (hxs : Jn ρ xs.toList = some ps) (hn : (first ++ ps).map PV.norm1 = qs) (hca : Qap P f = true)
  (h : ∀ p s, R p s → R' p (L ++ (s ++ M))) : POp P o ρ st R' := by
 subst hqf
 have hst : st = L ++ (st0 ++ M) := by rw [← hL, ← h0, ← hM, List.take_append_drop, List.take_append_drop]
 subst hst
 have hperm : (L ++ (st0 ++ M)).Perm (st0 ++ (L ++ M)) := by
  rw [← List.append_assoc, ← List.append_assoc]
  exact List.Perm.append_right _ List.perm_append_comm
 refine POp.permOut' (R := fun p s => ∃ s', R p s' ∧ s = s' ++ (L ++ M)) (Qfr (st0 := st0) (st1 := L ++ M) (first := first) (cap := []) ho hq hxs hca hperm (R0 := R) ?_ ?_) ?_
 ·simp only [List.append_nil]
  rw [← hn] at hc
  exact hc.args_norm
 ·intro p s0 hr
  exact ⟨s0, hr, rfl⟩
 ·rintro p s ⟨s', hr, rfl⟩
  refine ⟨_, ?_, h p s' hr⟩
  rw [← List.append_assoc, ← List.append_assoc]
  exact List.Perm.append_right _ List.perm_append_comm
theorem Qim {fo : Operand} {q : PV} (k m : Nat) (hc : PCalls P f qs st0 R) (h : ∀ p s, R p s → POps P n ops Q rest ((d, p) :: fr) (L ++ (s ++ M))) (hca : Qap P f = true)
  (hL : st.take k = L := by simp only [List.cons_append, List.nil_append, List.take_succ_cons, List.take_zero]; rfl)
  (h0 : (st.drop k).take m = st0 := by rfl)
  (hM : (st.drop k).drop m = M := by simp only [List.cons_append, List.nil_append, List.drop_succ_cons, List.drop_zero, List.drop_nil]; rfl)
  (hd : d < n := by decide)
  (hw : PF.wants fr ops ⟨some d, .call { callee := .value fo, args := xs, argTypes := ts }, ty, pos, after, gd⟩ = some true := by exact eD)
  (hq : fr.eval fo = some q := by exact eQ) (hqf : q = .fn (.func f) first [] := by rfl)
  (hxs : Jn fr.eval xs.toList = some ps := by exact eQ)
  (hn : (first ++ ps).map PV.norm1 = qs := by first | (simp [PV.norm1, PV.norm0, aggD, slD, Jg, Jj, Jh, Ji, Jf]; done) | fail) : POps P n ops Q (⟨some d, .call { callee := .value fo, args := xs, argTypes := ts }, ty, pos, after, gd⟩ :: rest) fr st :=
 Qeb hd hw (op_callB k m rfl hq hqf hc hL h0 hM hxs hn hca h)
theorem PL_app {s x : Operand} {t xt : TypeId} {q : PV} {g : Nat} {rows rows' : List (List D)} {ts E es bytes : Nat} {ea : Option Bool} {T0 : Ty} {e0 : Nat × Nat} {c : TypeId × Nat × Nat} {st' : St} (n' : Nat)
  (h : Qbl P J n ops Q od ((d, .own g (rows ++ rows')) :: fr) st') (hl0 : ∀ row ∈ rows, row.length = es) (hl : ∀ row ∈ rows', row.length = es) (hn' : rows.length + rows'.length = n') (hJ : Qhk ops j = true ∨ J st')
  (ho : ops[j]? = some ⟨some d, .call { callee := .builtin .append, args := #[s, x], argTypes := #[t, xt] }, ty, pos, after, gd⟩ := by rfl) (hd : d < n := by decide)
  (hw : PF.wants fr ops ⟨some d, .call { callee := .builtin .append, args := #[s, x], argTypes := #[t, xt] }, ty, pos, after, gd⟩ = some true := by exact eD)
  (hs : fr.eval s = some q := by exact eQ) (hq : q = .own g rows := by rfl) (hx : fr.eval x = some p := by exact eQ) (hp : p.src = some rows' := by simp [PV.src, PV.rows]; rfl)
  (hT : tyOf P t = some T0 := by simp; rfl) (hT2 : T0 = ⟨ts, .slice E es ea⟩ := by rfl) (hX : Qhd ((tyOf P xt).map (·.k)) = true := by simp [Qhd]) (hE : elOf P E = some e0 := by simp; rfl) (hE2 : e0 = (es, bytes) := by rfl) (hes : 0 < es := by decide) (htok : st.tok? g = some c := by exact eQ) (hc : c = (E, es, rows.length) := by first | rfl | (simp; done) | (simp; omega) | fail) (hs' : st.setTok g n' = st' := by simp [St.setTok, *]; rfl) (hm : n' ≤ 4294967296 := by omega) (hb : bytes ≤ 32768 := by decide) : Qbl P J n ops Q ((j, .e) :: od) fr st :=
 PL_e ho hd hw (op_app rfl hs hq hx hp hT hT2 hX hE hE2 hes htok hc hn' hs' hl0 hl hm hb ⟨hJ, h⟩)
end
end Go.Proofs.Ytahhgpafjiljfaa

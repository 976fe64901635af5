import Derived.Test.YtfnfbbmegdkhjaaBA
import Derived.Scope
import Derived.Laws.RangeAny
import Derived.Laws.IdiomStrings
import Derived.Laws.Small
import Derived.Maps.OwnSet
import Derived.Maps.Views
import Derived.Carry
import Derived.Maps.OwnOps
import Derived.Lib.SliceRun
import Derived.Test.YtfnfbbmegdkhjaaBD
import Derived.Deep.RegionLaw
namespace Go.Proofs.Ytfnfbbmegdkhjaa
open Go.RowKit
set_option linter.unusedVariables false
set_option linter.unusedSimpArgs false
/-- '[]T{}': a row of one's own without elements -/
theorem POp_buildSlice0 {P : Program} {o : Oper} {ρ : Operand → Option PV} {st : St} {R : PV → St → Prop} {t : TypeId} (ho : o.op = .buildSlice t 0 #[]) {E es bytes : Nat} {ea : Option Bool} {T : Ty} (hT : tyOf P t = some T) (hk : T.k = .slice E es ea) (hE : elOf P E = some (es, bytes)) (h0 : 0 < es) (h : ∀ g, st.freshT g → R (.own g []) (.tok g E es 0 :: st)) : POp P o ρ st R := by
  refine POp.of_run fun F K w a h1 h2 => ?_
  obtain ⟨dst, op, ty, pos, after, guard⟩ := o
  simp only at ho h2
  subst ho
  obtain ⟨d, hd, rfl⟩ := tyOf_spec hT
  cases d with
  | slice E' =>
    simp only [tyK, TyK.slice.injEq] at hk
    obtain ⟨rfl, hes, rfl⟩ := hk
    obtain ⟨ie, z, hie, hz, hsz, -, hzs⟩ := elOf_spec hE
    obtain ⟨hx, hrel⟩ := h1.newRow #[] E' 0 (Nat.zero_le _) (.inl rfl)
    have hown : (w.alloc (.cells #[] E')).ownsRow 0 E' es (.slice (some ⟨w.heap.size, 0, none⟩) 0 0) 0 [] := by
      exact ⟨by simp, .inr ⟨w.heap.size, 0, #[], rfl, Nat.zero_le _, heap_alloc_new w _, Nat.le_refl _, Nat.zero_le _, by simp, by simp⟩⟩
    obtain ⟨g, hg, hfr, hx2, hr2⟩ := hrel.newTok (u := .slice (some ⟨w.heap.size, 0, none⟩) 0 0) (E := E') (sz := es) (n := 0) (xs := []) hown rfl fun b hb => by
      simp only [Value.ownBlock, Option.some.injEq] at hb
      subst hb
      refine ⟨fun hf => by have := h1.ff _ hf; omega, fun o hc => ?_, fun e he heq => ?_⟩
      · rcases hc with hc | ⟨_, ho⟩
        · have := h1.klt hc; omega
        · omega
      · have hb' : e.block K = some w.heap.size := by
          cases e with
          | box i U cs => exact heq
          | tok j U sz n => exact heq
          | obj i ok => exact heq
        have := ((h1.ents e he).lt hb').1
        omega
    refine ⟨.slice (some ⟨w.heap.size, 0, none⟩) 0 0, _, _, .own g [], _, ?_, hx.trans hx2, hr2, .own (.nil (Nat.zero_le _)) (by simp [Kp.setOwn]) (Nat.zero_le _) fun _ => rfl, h g hfr⟩
    simp only [execOp, Sem.run_bind]
    have : (Instr.buildSlice t 0 #[]).run P w = .ok (.slice (some ⟨w.heap.size, 0, none⟩) 0 0) (w.alloc (.cells #[] E')) := by
      simp [Instr.buildSlice, run_underlying hd, sizeOf, typeInfo, hie, newRow, Instr.fill]
      rw [Array.eq_empty_of_size_eq_zero (xs := Array.map (fun x => default) (Array.range 0)) (by simp)]
    simp only [List.map_toArray, List.map_nil] at this ⊢
    rw [this]
    rfl
  | _ => simp [tyK] at hk
def lowOf (ρ : Operand → Option PV) : Option Operand → Option Int
  | none => some 0
  | some x => match ρ x with
    | some (.d (.v (.int _ n))) => some n
    | _ => none
def highOf (ρ : Operand → Option PV) (len : Nat) : Option Operand → Option Int
  | none => some len
  | some x => match ρ x with
    | some (.d (.v (.int _ n))) => some n
    | _ => none
theorem low_spec {ρ : Operand → Option PV} {lo : Option Operand} {n : Int} (h : lowOf ρ lo = some n) : (lo = none ∧ n = 0) ∨ ∃ x k, lo = some x ∧ ρ x = some (.d (.v (.int k n))) := by
  unfold lowOf at h
  split at h
  · exact .inl ⟨rfl, (Option.some.inj h).symm⟩
  · split at h
    · rename_i x _ k m hx
      obtain rfl := Option.some.inj h
      exact .inr ⟨x, k, rfl, hx⟩
    · cases h
theorem high_spec {ρ : Operand → Option PV} {len : Nat} {hi : Option Operand} {n : Int} (h : highOf ρ len hi = some n) : (hi = none ∧ n = len) ∨ ∃ x k, hi = some x ∧ ρ x = some (.d (.v (.int k n))) := by
  unfold highOf at h
  split at h
  · exact .inl ⟨rfl, (Option.some.inj h).symm⟩
  · split at h
    · rename_i x _ k m hx
      obtain rfl := Option.some.inj h
      exact .inr ⟨x, k, rfl, hx⟩
    · cases h
theorem rows_cut {K : Nat → Nat → Prop} {w : World} {rows : List (List D)} {a : Option Addr} {cap es l h : Nat} (hr : RelD K w (.sl rows) (.slice a rows.length cap)) (hlen : ∀ row ∈ rows, row.length = es) (h1 : l ≤ h) (h2 : h ≤ rows.length) (hc : rows.length ≤ cap) (hm : cap ≤ maxLen) : RelD K w (.sl ((rows.take h).drop l)) (sliced a l h cap es) := by
  unfold sliced
  rcases Nat.lt_or_ge l h with hlt | hge
  · cases hr with
    | nil => simp at h2; omega
    | @sl sz _ b off _ vals q1 q2 q3 q4 q5 =>
      have hne : rows ≠ [] := by intro e; subst e; simp at h2; omega
      obtain ⟨r0, hr0⟩ := List.exists_mem_of_ne_nil rows hne
      have hes : sz = es := by rw [← q3 r0 hr0, hlen r0 hr0]
      subst hes
      rw [if_neg (by omega)]
      simp only [Option.map_some, addr_plus]
      have hl : ((rows.take h).drop l).length = h - l := by simp; omega
      rw [← hl]
      have hget : ∀ (i : Nat) (row : List D), ((rows.take h).drop l)[i]? = some row → rows[l + i]? = some row := fun i row hi => by
        rw [List.getElem?_drop, List.getElem?_take] at hi
        split at hi
        · exact hi
        · cases hi
      refine .sl (sz := sz) (fun i j => vals (l + i) j) (by rw [hl]; omega) (by omega) (fun row hrow => q3 row (List.mem_of_mem_take (List.mem_of_mem_drop hrow))) (fun i j row d hi hj => ?_) fun i j row d hi hj => q5 (l + i) j row d (hget i row hi) hj
      have := q4 (l + i) j row d (hget i row hi) hj
      rw [show off + l * sz + i * sz + j = off + (l + i) * sz + j by rw [Nat.add_mul]; omega]
      exact this
  · have he : l = h := by omega
    subst he
    rw [List.drop_of_length_le (by simp; omega), Nat.sub_self]
    exact .nil (by omega)
theorem POp_slice {P : Program} {o : Oper} {ρ : Operand → Option PV} {t : TypeId} {x : Operand} {lo hi : Option Operand} (ho : o.op = .slice t x lo hi none) {E es : Nat} {ea : Option Bool} {T : Ty} (hT : tyOf P t = some T) (hk : T.k = .slice E es ea) (hes : es ≠ 0) {p : PV} (hx : ρ x = some p) {rows : List (List D)} (hp : p.rows = some rows) (hl : ∀ row ∈ rows, row.length = es) {l h : Nat} (hlo : lowOf ρ lo = some (l : Int)) (hhi : highOf ρ rows.length hi = some (h : Int)) (h1 : l ≤ h) (h2 : h ≤ rows.length) (st : St) :
    POp P o ρ st fun q s => q = .d (.sl ((rows.take h).drop l)) ∧ s = st := by
  refine POp.of_run fun F K w a hr0 hops => ?_
  obtain ⟨dst, op, ty, pos, after, guard⟩ := o
  simp only at ho hops
  subst ho
  obtain ⟨d, hd, rfl⟩ := tyOf_spec hT
  cases d with
  | slice E' =>
    simp only [tyK, TyK.slice.injEq] at hk
    obtain ⟨rfl, hsz, rfl⟩ := hk
    have hr := rows_rel hp (hops x (by simp [Op.operands]) p hx)
    obtain ⟨b, cap, hv, hc, hm⟩ := rows_form hr
    rw [hv] at hr
    have hu : P.underlying t = some (.slice (P.elem t)) := by rw [hd]; simp [Program.elem, hd]
    have he : P.elem t = E' := by simpa [hd] using hu.symm
    have hso : ∀ w', (sizeOf (P.elem t)).run P w' = .ok es w' := fun w' => by rw [he]; rw [← hsz] at hes ⊢; exact run_sizeOf_pos hes w'
    have hcut := rows_cut hr hl h1 h2 hc hm
    have hn0 : (0 : Int) ≤ (l : Int) := by omega
    refine ⟨sliced b l h cap es, w, K, _, st, ?_, Ext.refl _ _ _, hr0, .d hcut, rfl, rfl⟩
    simp only [execOp, hv, Sem.run_bind]
    rcases low_spec hlo with ⟨rfl, h0⟩ | ⟨y, ky, rfl, hy⟩ <;> rcases high_spec hhi with ⟨rfl, h4⟩ | ⟨z, kz, rfl, hz⟩
    · have e1 : l = 0 := by omega
      have e2 : h = rows.length := by omega
      subst e1; subst e2
      simp only [Option.map_none, run_sliceAt_slice w t _ _ _ _ hu, run_slice_all w t b rows.length cap hu, hso, Result.andThen_ok]; rfl
    · have e1 : l = 0 := by omega
      subst e1
      obtain ⟨ez, -⟩ := (hops z (by simp [Op.operands]) _ hz).flat
      simp only [Option.map_none, Option.map_some, ez, run_sliceAt_slice w t _ _ _ _ hu, run_slice_h w t b rows.length cap hu kz h (by omega) (by omega), hso, Result.andThen_ok, Int.toNat_natCast]; rfl
    · have e2 : h = rows.length := by omega
      subst e2
      obtain ⟨ey, -⟩ := (hops y (by simp [Op.operands]) _ hy).flat
      simp only [Option.map_none, Option.map_some, ey, run_sliceAt_slice w t _ _ _ _ hu, run_slice_l w t b rows.length cap hu ky l (by omega) (by omega), hso, Result.andThen_ok, Int.toNat_natCast]; rfl
    · obtain ⟨ey, -⟩ := (hops y (by simp [Op.operands]) _ hy).flat
      obtain ⟨ez, -⟩ := (hops z (by simp [Op.operands]) _ hz).flat
      simp only [Option.map_none, Option.map_some, ey, ez, run_sliceAt_slice w t _ _ _ _ hu, run_slice_lh w t b rows.length cap hu ky kz l h (by omega) (by omega) (by omega), hso, Result.andThen_ok, Int.toNat_natCast]; rfl
  | _ => simp [tyK] at hk
section
variable {P : Program} {J : St → Prop} {n : Nat} {ops : Array Oper} {Q : PF → St → Prop} {rest : List Oper} {fr : PF} {st : St} {p : PV} {op : Op} {ty : TypeId} {pos : String} {after : Array Edge} {gd : Option (Nat × Bool)} {od : List (Nat × Kd)} {j d : Nat}
theorem POps_bs0 {t : TypeId} {ts E es bytes : Nat} {ea : Option Bool} {T0 : Ty} {e0 : Nat × Nat} (h : ∀ g, st.freshT g → POps P n ops Q rest ((d, .own g []) :: fr) (.tok g E es 0 :: st)) (hd : d < n) (hw : PF.wants fr ops ⟨some d, .buildSlice t 0 #[], ty, pos, after, gd⟩ = some true) (hT : tyOf P t = some T0) (hT2 : T0 = ⟨ts, .slice E es ea⟩) (hE : elOf P E = some e0) (hE2 : e0 = (es, bytes)) (h0 : 0 < es) : POps P n ops Q (⟨some d, .buildSlice t 0 #[], ty, pos, after, gd⟩ :: rest) fr st :=
  POps_e hd hw (POp_buildSlice0 rfl (hT2 ▸ hT) rfl (hE2 ▸ hE) h0 h)
theorem POps_slice {t : TypeId} {x : Operand} {lo hi : Option Operand} {ts E es : Nat} {ea : Option Bool} {T0 : Ty} {rows : List (List D)} (l h : Nat) (hk : POps P n ops Q rest ((d, .d (.sl ((rows.take h).drop l))) :: fr) st) (hd : d < n) (hw : PF.wants fr ops ⟨some d, .slice t x lo hi none, ty, pos, after, gd⟩ = some true) (hT : tyOf P t = some T0) (hT2 : T0 = ⟨ts, .slice E es ea⟩) (hes : es ≠ 0) (hx : fr.eval x = some p) (hp : p.rows = some rows) (hlo : lowOf fr.eval lo = some (l : Int)) (hhi : highOf fr.eval rows.length hi = some (h : Int)) (h1 : l ≤ h) (h2 : h ≤ rows.length) (hl : ∀ row ∈ rows, row.length = es) : POps P n ops Q (⟨some d, .slice t x lo hi none, ty, pos, after, gd⟩ :: rest) fr st :=
  POps_e hd hw ((POp_slice (o := ⟨some d, .slice t x lo hi none, ty, pos, after, gd⟩) rfl (hT2 ▸ hT) rfl hes hx hp hl hlo hhi h1 h2 st).mono fun q s ⟨e1, e2⟩ => by subst e1; subst e2; exact hk)
theorem POrd_slice {t : TypeId} {x : Operand} {lo hi : Option Operand} {ts E es : Nat} {ea : Option Bool} {T0 : Ty} {rows : List (List D)} (l h : Nat) (hk : POrd P n ops Q od ((d, .d (.sl ((rows.take h).drop l))) :: fr) st) (ho : ops[j]? = some ⟨some d, .slice t x lo hi none, ty, pos, after, gd⟩) (hd : d < n) (hw : PF.wants fr ops ⟨some d, .slice t x lo hi none, ty, pos, after, gd⟩ = some true) (hT : tyOf P t = some T0) (hT2 : T0 = ⟨ts, .slice E es ea⟩) (hes : es ≠ 0) (hx : fr.eval x = some p) (hp : p.rows = some rows) (hlo : lowOf fr.eval lo = some (l : Int)) (hhi : highOf fr.eval rows.length hi = some (h : Int)) (h1 : l ≤ h) (h2 : h ≤ rows.length) (hl : ∀ row ∈ rows, row.length = es) : POrd P n ops Q ((j, .a) :: od) fr st :=
  ⟨_, ho, fun _ e => (by cases e; exact hd), .inr ⟨hw, _, fun s => POp_slice (o := ⟨some d, .slice t x lo hi none, ty, pos, after, gd⟩) rfl (hT2 ▸ hT) rfl hes hx hp hl hlo hhi h1 h2 s, hk⟩⟩
end
end Go.Proofs.Ytfnfbbmegdkhjaa

namespace Go.Proofs.Ytfnfbbmegdkhjaa
open Go.RowKit
set_option linter.unusedVariables false
section
variable {P : Program} {n : Nat} {ops : Array Oper} {Q : PF → St → Prop} {rest : List Oper} {fr : PF} {st L M st0 : St} {ty : TypeId} {pos : String} {after : Array Edge} {gd : Option (Nat × Bool)} {d f j : Nat} {xs : Array Operand} {ts : Array TypeId} {ps qs : List PV} {R : PV → St → Prop} {od : List (Nat × Kd)}
theorem POp.permOut' {o : Oper} {ρ : Operand → Option PV} {st : St} {R R' : PV → St → Prop} (h : POp P o ρ st R) (hr : ∀ p s, R p s → ∃ s', s.Perm s' ∧ R' p s') : POp P o ρ st R' :=
  fun F K w a next Q h1 h2 h3 => h F K w a next Q h1 h2 fun K' w' p st' v a b c d => by
    obtain ⟨s', hp, hr'⟩ := hr p st' d
    exact h3 K' w' p s' v a (b.perm hp) c hr'
/-- a call that has some of one's variables, and gives them back as they are then -/
theorem op_callX {o : Oper} {ρ : Operand → Option PV} {R' : PV → St → Prop} (k m : Nat) (ho : o.op = .call { callee := .value (.func f), args := xs, argTypes := ts }) (hρ : ρ (.func f) = some (.fn (.func f) [] [])) (hc : PCalls P f qs st0 R) (hL : st.take k = L) (h0 : (st.drop k).take m = st0) (hM : (st.drop k).drop m = M) (hxs : Jn ρ xs.toList = some ps) (hn : ps.map PV.norm1 = qs) (hca : callable P f = true)
    (h : ∀ p s, R p s → R' p (L ++ (s ++ M))) : POp P o ρ st R' := by
  have hst : st = L ++ (st0 ++ M) := by rw [← hL, ← h0, ← hM, List.take_append_drop, List.take_append_drop]
  subst hst
  have hperm : (L ++ (st0 ++ M)).Perm (st0 ++ (L ++ M)) := by
    rw [← List.append_assoc, ← List.append_assoc]
    exact List.Perm.append_right _ List.perm_append_comm
  refine POp.permOut' (R := fun p s => ∃ s', R p s' ∧ s = s' ++ (L ++ M)) (POp_call (st0 := st0) (st1 := L ++ M) (first := []) (cap := []) ho hρ hxs hca hperm (R0 := R) ?_ ?_) ?_
  · simp only [List.nil_append, List.append_nil]
    rw [← hn] at hc
    exact hc.args_norm
  · intro p s0 hr
    exact ⟨s0, hr, rfl⟩
  · rintro p s ⟨s', hr, rfl⟩
    refine ⟨_, ?_, h p s' hr⟩
    rw [← List.append_assoc, ← List.append_assoc]
    exact List.Perm.append_right _ List.perm_append_comm
theorem Rd (k m : Nat) (hc : PCalls P f qs st0 R) (h : ∀ p s, R p s → POps P n ops Q rest ((d, p) :: fr) (L ++ (s ++ M)))
    (hL : st.take k = L := by simp only [List.cons_append, List.nil_append, List.take_succ_cons, List.take_zero]; rfl)
    (h0 : (st.drop k).take m = st0 := by rfl)
    (hM : (st.drop k).drop m = M := by simp only [List.cons_append, List.nil_append, List.drop_succ_cons, List.drop_zero, List.drop_nil]; rfl)
    (hd : d < n := by decide)
    (hw : PF.wants fr ops ⟨some d, .call { callee := .value (.func f), args := xs, argTypes := ts }, ty, pos, after, gd⟩ = some true := by first | (simp [nev, nevA, nevB, Jo, PF.eval, PF.get, PF.wants, cPV, cCell, PV.rows, evBin, evUn, Jp, evLen, loadA, Jm, TyK.agg, partA, St.box?, St.tok?, St.setBox, St.setTok, fillO, spl, PV.ps, PV.one, Jn, aggD, slD, Jg, Jj, Jh, Ji, Jf, Je, *]; done) | fail)
    (hxs : Jn fr.eval xs.toList = some ps := by simp [nev, nevA, nevB, Jo, PF.eval, PF.get, PF.wants, cPV, cCell, PV.rows, evBin, evUn, Jp, evLen, loadA, Jm, TyK.agg, partA, St.box?, St.tok?, St.setBox, St.setTok, fillO, spl, PV.ps, PV.one, Jn, aggD, slD, Jg, Jj, Jh, Ji, Jf, Je, *]; rfl)
    (hn : ps.map PV.norm1 = qs := by first | (simp [PV.norm1, PV.norm0, aggD, slD, Jg, Jj, Jh, Ji, Jf]; done) | fail)
    (hca : callable P f = true := by rfl) : POps P n ops Q (⟨some d, .call { callee := .value (.func f), args := xs, argTypes := ts }, ty, pos, after, gd⟩ :: rest) fr st :=
  POps_e hd hw (op_callX k m rfl rfl hc hL h0 hM hxs hn hca h)
theorem POrd_callX (k m : Nat) (hc : PCalls P f qs st0 R) (h : ∀ p s, R p s → POrd P n ops Q od ((d, p) :: fr) (L ++ (s ++ M)))
    (ho : ops[j]? = some ⟨some d, .call { callee := .value (.func f), args := xs, argTypes := ts }, ty, pos, after, gd⟩ := by rfl)
    (hL : st.take k = L := by simp only [List.cons_append, List.nil_append, List.take_succ_cons, List.take_zero]; rfl)
    (h0 : (st.drop k).take m = st0 := by rfl)
    (hM : (st.drop k).drop m = M := by simp only [List.cons_append, List.nil_append, List.drop_succ_cons, List.drop_zero, List.drop_nil]; rfl)
    (hd : d < n := by decide)
    (hw : PF.wants fr ops ⟨some d, .call { callee := .value (.func f), args := xs, argTypes := ts }, ty, pos, after, gd⟩ = some true := by first | (simp [nev, nevA, nevB, Jo, PF.eval, PF.get, PF.wants, cPV, cCell, PV.rows, evBin, evUn, Jp, evLen, loadA, Jm, TyK.agg, partA, St.box?, St.tok?, St.setBox, St.setTok, fillO, spl, PV.ps, PV.one, Jn, aggD, slD, Jg, Jj, Jh, Ji, Jf, Je, *]; done) | fail)
    (hxs : Jn fr.eval xs.toList = some ps := by simp [nev, nevA, nevB, Jo, PF.eval, PF.get, PF.wants, cPV, cCell, PV.rows, evBin, evUn, Jp, evLen, loadA, Jm, TyK.agg, partA, St.box?, St.tok?, St.setBox, St.setTok, fillO, spl, PV.ps, PV.one, Jn, aggD, slD, Jg, Jj, Jh, Ji, Jf, Je, *]; rfl)
    (hn : ps.map PV.norm1 = qs := by first | (simp [PV.norm1, PV.norm0, aggD, slD, Jg, Jj, Jh, Ji, Jf]; done) | fail)
    (hca : callable P f = true := by rfl) : POrd P n ops Q ((j, .e) :: od) fr st :=
  POrd_e ho hd hw (op_callX k m rfl rfl hc hL h0 hM hxs hn hca h)
theorem op_callW {o : Oper} {ρ : Operand → Option PV} {R' : PV → St → Prop} (ho : o.op = .call { callee := .value (.func f), args := xs, argTypes := ts }) (hρ : ρ (.func f) = some (.fn (.func f) [] [])) (hc : PCalls P f qs st R) (hxs : Jn ρ xs.toList = some ps) (hn : ps.map PV.norm1 = qs) (hca : callable P f = true)
    (h : ∀ p s, R p s → R' p s) : POp P o ρ st R' := by
  refine op_callX (L := []) (M := []) 0 st.length ho hρ hc rfl (by simp) (by simp) hxs hn hca fun p s hr => ?_
  simp only [List.nil_append, List.append_nil]
  exact h p s hr
/-- a call that has all of one's variables -/
theorem Re (hc : PCalls P f qs st R) (h : ∀ p s, R p s → POps P n ops Q rest ((d, p) :: fr) s)
    (hd : d < n := by decide)
    (hw : PF.wants fr ops ⟨some d, .call { callee := .value (.func f), args := xs, argTypes := ts }, ty, pos, after, gd⟩ = some true := by first | (simp [nev, nevA, nevB, Jo, PF.eval, PF.get, PF.wants, cPV, cCell, PV.rows, evBin, evUn, Jp, evLen, loadA, Jm, TyK.agg, partA, St.box?, St.tok?, St.setBox, St.setTok, fillO, spl, PV.ps, PV.one, Jn, aggD, slD, Jg, Jj, Jh, Ji, Jf, Je, *]; done) | fail)
    (hxs : Jn fr.eval xs.toList = some ps := by simp [nev, nevA, nevB, Jo, PF.eval, PF.get, PF.wants, cPV, cCell, PV.rows, evBin, evUn, Jp, evLen, loadA, Jm, TyK.agg, partA, St.box?, St.tok?, St.setBox, St.setTok, fillO, spl, PV.ps, PV.one, Jn, aggD, slD, Jg, Jj, Jh, Ji, Jf, Je, *]; rfl)
    (hn : ps.map PV.norm1 = qs := by first | (simp [PV.norm1, PV.norm0, aggD, slD, Jg, Jj, Jh, Ji, Jf]; done) | fail)
    (hca : callable P f = true := by rfl) : POps P n ops Q (⟨some d, .call { callee := .value (.func f), args := xs, argTypes := ts }, ty, pos, after, gd⟩ :: rest) fr st :=
  POps_e hd hw (op_callW rfl rfl hc hxs hn hca h)
end
section
variable {P : Program} {n : Nat} {ops : Array Oper} {Q : PF → St → Prop} {rest : List Oper} {fr : PF} {st : St} {ty : TypeId} {pos : String} {after : Array Edge} {gd : Option (Nat × Bool)} {od : List (Nat × Kd)} {d j : Nat}
end
section
variable {P : Program} {n : Nat} {ops : Array Oper} {Q : PF → St → Prop} {fr : PF} {st : St} {ty : TypeId} {pos : String} {after : Array Edge} {gd : Option (Nat × Bool)} {od : List (Nat × Kd)} {d j : Nat}
end
end Go.Proofs.Ytfnfbbmegdkhjaa

namespace Go.Proofs.Ytfnfbbmegdkhjaa
open Go.RowKit
set_option linter.unusedVariables false
section
variable {P : Program} {J : St → Prop} {n : Nat} {ops : Array Oper} {Q : PF → St → Prop} {fr : PF} {st : St} {p : PV} {op : Op} {ty : TypeId} {pos : String} {after : Array Edge} {gd : Option (Nat × Bool)} {od : List (Nat × Kd)} {j d : Nat}
/-- a load from a variable that stays as it is -/
theorem PJ_b2 {l : List (Nat × TypeId × List PV)} {t : TypeId} {a : Operand} {q : PV} {i off : Nat} {T : Ty} {x : TypeId × List PV} {U : TypeId} {cs : List PV} (h : POrdJ P (keepJ l) n ops Q od ((d, p) :: fr) st)
    (ho : ops[j]? = some ⟨some d, .load t a, ty, pos, after, gd⟩ := by rfl) (hd : d < n := by decide)
    (hw : PF.wants fr ops ⟨some d, .load t a, ty, pos, after, gd⟩ = some true := by first | (simp [nev, nevA, nevB, Jo, PF.eval, PF.get, PF.wants, cPV, cCell, PV.rows, evBin, evUn, Jp, evLen, loadA, Jm, TyK.agg, partA, St.box?, St.tok?, St.setBox, St.setTok, fillO, spl, PV.ps, PV.one, Jn, aggD, slD, Jg, Jj, Jh, Ji, Jf, Je, *]; done) | fail)
    (ha : fr.eval a = some q := by simp [nev, nevA, nevB, Jo, PF.eval, PF.get, PF.wants, cPV, cCell, PV.rows, evBin, evUn, Jp, evLen, loadA, Jm, TyK.agg, partA, St.box?, St.tok?, St.setBox, St.setTok, fillO, spl, PV.ps, PV.one, Jn, aggD, slD, Jg, Jj, Jh, Ji, Jf, Je, *]; rfl) (hq : q = .ptr i off := by rfl) (hT : tyOf P t = some T := by simp; rfl)
    (hl : (i, x) ∈ l := by first | exact List.mem_cons_self | exact List.mem_cons_of_mem _ List.mem_cons_self | exact List.mem_cons_of_mem _ (List.mem_cons_of_mem _ List.mem_cons_self)) (hx : x = (U, cs) := by rfl)
    (he : Jm T (cs.drop off) = some p := by simp [nev, nevA, nevB, Jo, PF.eval, PF.get, PF.wants, cPV, cCell, PV.rows, evBin, evUn, Jp, evLen, loadA, Jm, TyK.agg, partA, St.box?, St.tok?, St.setBox, St.setTok, fillO, spl, PV.ps, PV.one, Jn, aggD, slD, Jg, Jj, Jh, Ji, Jf, Je, *]; rfl) : POrdJ P (keepJ l) n ops Q ((j, .a) :: od) fr st := by
  subst hq; subst hx
  exact PJ_b h ho hd hw ha hT hl he
theorem PJ_gn2 {k : Kd} (h : POrdJ P J n ops Q od ((d, .tup []) :: fr) st) (ho : ops[j]? = some ⟨some d, op, ty, pos, after, gd⟩ := by rfl) (hd : d < n := by decide) (hw : PF.wants fr ops ⟨some d, op, ty, pos, after, gd⟩ = some false := by first | (simp [nev, nevA, nevB, Jo, PF.eval, PF.get, PF.wants, cPV, cCell, PV.rows, evBin, evUn, Jp, evLen, loadA, Jm, TyK.agg, partA, St.box?, St.tok?, St.setBox, St.setTok, fillO, spl, PV.ps, PV.one, Jn, aggD, slD, Jg, Jj, Jh, Ji, Jf, Je, *]; done) | fail) : POrdJ P J n ops Q ((j, k) :: od) fr st := PJ_gn h ho hd hw
theorem PJ_s2 (h : POrdJ P J n ops Q od ((d, p) :: fr) st) (ho : ops[j]? = some ⟨some d, op, ty, pos, after, gd⟩ := by rfl) (hd : d < n := by decide) (hw : PF.wants fr ops ⟨some d, op, ty, pos, after, gd⟩ = some true := by first | (simp [nev, nevA, nevB, Jo, PF.eval, PF.get, PF.wants, cPV, cCell, PV.rows, evBin, evUn, Jp, evLen, loadA, Jm, TyK.agg, partA, St.box?, St.tok?, St.setBox, St.setTok, fillO, spl, PV.ps, PV.one, Jn, aggD, slD, Jg, Jj, Jh, Ji, Jf, Je, *]; done) | fail) (he : nev P fr.eval op = some p := by simp [nev, nevA, nevB, Jo, PF.eval, PF.get, PF.wants, cPV, cCell, PV.rows, evBin, evUn, Jp, evLen, loadA, Jm, TyK.agg, partA, St.box?, St.tok?, St.setBox, St.setTok, fillO, spl, PV.ps, PV.one, Jn, aggD, slD, Jg, Jj, Jh, Ji, Jf, Je, *]; rfl) : POrdJ P J n ops Q ((j, .a) :: od) fr st := PJ_s h ho hd hw he
end
end Go.Proofs.Ytfnfbbmegdkhjaa

namespace Go.Proofs.Ytfnfbbmegdkhjaa
open Go.RowKit
set_option linter.unusedVariables false
set_option linter.unusedSimpArgs false
/-- an object of one's own that is no row of cells -/
def St.obj? : St → Nat → Option (Obj → Prop)
  | [], _ => none
  | .obj j ok :: r, i => if j = i then some ok else St.obj? r i
  | .box .. :: r, i => St.obj? r i
  | .tok .. :: r, i => St.obj? r i
def St.setObj : St → Nat → (Obj → Prop) → St
  | [], _, _ => []
  | .obj j ok :: r, i, ok' => if j = i then .obj j ok' :: r else .obj j ok :: St.setObj r i ok'
  | .box j T cs :: r, i, ok' => .box j T cs :: St.setObj r i ok'
  | .tok g E sz n :: r, i, ok' => .tok g E sz n :: St.setObj r i ok'
theorem St.obj?_split : ∀ {st : St} {i : Nat} {ok : Obj → Prop}, st.obj? i = some ok → ∃ l r, st = l ++ .obj i ok :: r ∧ ∀ ok', st.setObj i ok' = l ++ .obj i ok' :: r := by
  intro st
  induction st with
  | nil => intro i ok h; cases h
  | cons e r ih =>
    intro i ok h
    cases e with
    | obj j ok2 =>
      simp only [St.obj?] at h
      split at h
      · rename_i e
        subst e
        obtain rfl := Option.some.inj h
        exact ⟨[], r, rfl, fun ds => by simp [St.setObj]⟩
      · rename_i e
        obtain ⟨l, r', rfl, h2⟩ := ih h
        exact ⟨.obj j ok2 :: l, r', rfl, fun ds => by simp [St.setObj, e, h2]⟩
    | tok g E sz n =>
      simp only [St.obj?] at h
      obtain ⟨l, r', rfl, h2⟩ := ih h
      exact ⟨.tok g E sz n :: l, r', rfl, fun ds => by simp [St.setObj, h2]⟩
    | box j U ds =>
      simp only [St.obj?] at h
      obtain ⟨l, r', rfl, h2⟩ := ih h
      exact ⟨.box j U ds :: l, r', rfl, fun ds => by simp [St.setObj, h2]⟩
/-- a new object -/
theorem Rel.newObj {F : Fz} {st : St} {K : Kp} {w : World} (h : Rel F st K w) {o : Obj} {ok : Obj → Prop} (hok : ok o) :
    ∃ i, K.box i = none ∧ St.freshB st i ∧ Ext F K w (K.addBox i w.heap.size) (w.alloc o) ∧ Rel F (.obj i ok :: st) (K.addBox i w.heap.size) (w.alloc o) := by
  obtain ⟨nx, hnx⟩ := h.fin
  have hnone : K.box nx = none := (hnx nx (Nat.le_refl _)).1
  have hkb : ∀ j b, K.box j = some b → (K.addBox nx w.heap.size).box j = some b := fun j b hj => by
    simp only [Kp.addBox]
    rw [if_neg (by intro e; subst e; rw [hnone] at hj; cases hj)]; exact hj
  have hx : Ext F K w (K.addBox nx w.heap.size) (w.alloc o) := ext_alloc F w _ (fun b o hc => ⟨h.klt hc, hc⟩) (fun b o hc => .inl hc) hkb (fun _ _ h => h) (fun _ _ => rfl) h.ff
  have hbk : ∀ e ∈ st, e.bid ≠ some nx := fun e he hid => by
    cases e with
    | box i U cs =>
      simp only [Ent.bid, Option.some.injEq] at hid
      subst hid
      obtain ⟨b, arr, h1, -⟩ := h.ents _ he
      rw [hnone] at h1; cases h1
    | tok => cases hid
    | obj i ok =>
      simp only [Ent.bid, Option.some.injEq] at hid
      subst hid
      obtain ⟨b, o, h1, -⟩ := h.ents _ he
      rw [hnone] at h1; cases h1
  refine ⟨nx, hnone, hbk, hx, ⟨fun b o hc => ?_, fun b hb => by have := h.ff b hb; simp; omega, ⟨nx + 1, fun j hj => ?_⟩, h.fi, fun e he => ?_, ?_, ?_⟩⟩
  · obtain ⟨v, hv⟩ := h.kc b o hc
    exact ⟨v, (hx.kp b o hc).2.trans hv⟩
  · simp only [Kp.addBox]
    rw [if_neg (by omega)]
    exact hnx j (by omega)
  · rcases List.mem_cons.1 he with rfl | he
    · refine ⟨w.heap.size, o, by simp [Kp.addBox], fun hf => by have := h.ff _ hf; omega, heap_alloc_new w _, hok, fun o' hc => by have := h.klt hc; omega⟩
    · have he' := h.ents e he
      exact he'.keep hx (fun b hb => Below.heap_alloc w _ b (he'.lt hb).1) (fun _ _ _ h => h) fun _ _ => rfl
  · have hmap : ∀ e ∈ st, e.block (K.addBox nx w.heap.size) = e.block K := fun e he => by
      cases e with
      | box i U cs =>
        obtain ⟨b, arr, h1, -⟩ := h.ents _ he
        simp only [Ent.block, h1]; exact hkb i b h1
      | tok g E sz n => rfl
      | obj i ok =>
        obtain ⟨b, o, h1, -⟩ := h.ents _ he
        simp only [Ent.block, h1]; exact hkb i b h1
    rw [List.filterMap_cons]
    simp only [Ent.block, Kp.addBox, if_true]
    have e2 : st.filterMap (Ent.block (K.addBox nx w.heap.size)) = st.filterMap (Ent.block K) := filterMap_eq hmap
    simp only [Kp.addBox] at e2
    rw [List.nodup_cons]
    refine ⟨fun hm => ?_, by rw [e2]; exact h.nb⟩
    rw [e2] at hm
    obtain ⟨e, he, hb⟩ := List.mem_filterMap.1 hm
    have := ((h.ents e he).lt hb).1
    omega
  · simpa [List.filterMap_cons, Ent.tid] using h.nt
/-- an object of one's own is another one now -/
theorem Rel.setObj {F : Fz} {l r : St} {K : Kp} {w w' : World} {i b : Nat} {ok ok' : Obj → Prop} {o : Obj} (h : Rel F (l ++ .obj i ok :: r) K w) (hb : K.box i = some b)
    (os : w'.os = w.os) (tape : w'.tape = w.tape) (out : w'.output = w.output) (size : w'.heap.size = w.heap.size) (hh : w'.heap[b]? = some o) (ho : ∀ k, k ≠ b → w'.heap[k]? = w.heap[k]?) (hok : ok' o) :
    Ext F K w K w' ∧ Rel F (l ++ .obj i ok' :: r) K w' := by
  obtain ⟨b', o0, h1, h2, h3, h4, h6⟩ := h.ents (.obj i ok) (by simp)
  rw [hb] at h1
  obtain rfl := Option.some.inj h1
  have hcell : ∀ c o, K.cell c o → c ≠ b := fun c o hc e => h6 o (e ▸ hc)
  have hx : Ext F K w K w' := ⟨os, tape, out, by omega, fun c hc => ho c fun e => h2 (e ▸ hc), fun c o hc => ⟨hc, World.cell?_of_block (w := w) (a := ⟨c, o, none⟩) (ho c (hcell c o hc))⟩, fun c o hc => .inl hc, fun _ _ h => h, fun g u hu => ⟨u, hu, .inl rfl⟩, fun _ _ => rfl⟩
  refine ⟨hx, ⟨fun c o hc => ?_, fun c hc => by have := h.ff c hc; omega, h.fin, h.fi, fun e he => ?_, ?_, ?_⟩⟩
  · obtain ⟨v, hv⟩ := h.kc c o hc
    exact ⟨v, (hx.kp c o hc).2.trans hv⟩
  · simp only [List.mem_append, List.mem_cons] at he
    have key : ∀ x, x ∈ l ∨ x ∈ r → EntOk F K w' x := fun x hxx => by
      have hne := nodup_ne h.nb (e := .obj i ok) hb x hxx
      refine (h.ents x (by simp only [List.mem_append, List.mem_cons]; rcases hxx with h | h <;> simp [h])).keep hx (fun c hc => ho c fun e => hne (e ▸ hc)) (fun _ _ _ h => h) fun _ _ => rfl
    rcases he with he | rfl | he
    · exact key e (.inl he)
    · exact ⟨b, o, hb, h2, hh, hok, h6⟩
    · exact key e (.inr he)
  · have := h.nb
    simp only [List.filterMap_append, List.filterMap_cons, Ent.block] at this ⊢
    exact this
  · have := h.nt
    simp only [List.filterMap_append, List.filterMap_cons, Ent.tid] at this ⊢
    exact this
section
variable {P : Program} {n : Nat} {ops : Array Oper} {Q : PF → St → Prop} {rest : List Oper} {fr : PF} {st : St} {p : PV} {ty : TypeId} {pos : String} {after : Array Edge} {gd : Option (Nat × Bool)} {d : Nat}
end
end Go.Proofs.Ytfnfbbmegdkhjaa

namespace Go.Proofs.Ytfnfbbmegdkhjaa
open Go.RowKit
set_option linter.unusedVariables false
set_option linter.unusedSimpArgs false
section
variable {P : Program} {n : Nat} {ops : Array Oper} {Q : PF → St → Prop} {rest : List Oper} {fr : PF} {st : St} {p : PV} {ty : TypeId} {pos : String} {after : Array Edge} {gd : Option (Nat × Bool)} {d : Nat}
end
theorem int_of {K : Kp} {w : World} {v : Value} {k : IntKind} {n : Int} (h : RelV K w (.d (.v (.int k n))) v) : v = .int k n := by
  cases h with
  | d h => cases h with
    | v h => rfl
section
variable {P : Program} {n : Nat} {ops : Array Oper} {Q : PF → St → Prop} {rest : List Oper} {fr : PF} {st : St} {ty : TypeId} {pos : String} {after : Array Edge} {gd : Option (Nat × Bool)} {d : Nat}
theorem POps_max {x y : Operand} {ts : Array TypeId} {p q : PV} {k : IntKind} {a b : Int} (z : Int) (hz : (if a < b then b else a) = z) (h : POps P n ops Q rest ((d, .d (.v (.int k z))) :: fr) st) (hd : d < n := by decide)
    (hw : PF.wants fr ops ⟨some d, .call { callee := .builtin .max, args := #[x, y], argTypes := ts }, ty, pos, after, gd⟩ = some true := by rfl) (hx : fr.eval x = some p := by simp [nev, nevA, nevB, Jo, PF.eval, PF.get, PF.wants, cPV, cCell, PV.rows, evBin, evUn, Jp, evLen, loadA, Jm, TyK.agg, partA, St.box?, St.tok?, St.setBox, St.setTok, fillO, spl, PV.ps, PV.one, Jn, aggD, slD, Jg, Jj, Jh, Ji, Jf, Je, *]; rfl) (hp : p = .d (.v (.int k a)) := by rfl) (hy : fr.eval y = some q := by simp [nev, nevA, nevB, Jo, PF.eval, PF.get, PF.wants, cPV, cCell, PV.rows, evBin, evUn, Jp, evLen, loadA, Jm, TyK.agg, partA, St.box?, St.tok?, St.setBox, St.setTok, fillO, spl, PV.ps, PV.one, Jn, aggD, slD, Jg, Jj, Jh, Ji, Jf, Je, *]; rfl) (hq : q = .d (.v (.int k b)) := by rfl) : POps P n ops Q (⟨some d, .call { callee := .builtin .max, args := #[x, y], argTypes := ts }, ty, pos, after, gd⟩ :: rest) fr st := by
  subst hp; subst hq; subst hz
  refine POps_e hd hw (POp.of_run fun F K w ac h1 h2 => ?_)
  have e1 := int_of (h2 x (by simp [Op.operands, Call.operands]) _ hx)
  have e2 := int_of (h2 y (by simp [Op.operands, Call.operands]) _ hy)
  refine ⟨.int k (if a < b then b else a), w, K, _, st, ?_, Ext.refl _ _ _, h1, .d (.v trivial), h⟩
  have hr := run_max_int2 (P := P) (w := w) ts ty k k a b
  simp only [execOp, resolve, invoke, builtin, Sem.run_bind, Sem.run_pure, Result.andThen_ok, List.map_toArray, List.map_cons, List.map_nil, e1, e2]
  rw [hr]; rfl
end
end Go.Proofs.Ytfnfbbmegdkhjaa

namespace Go.Proofs.Ytfnfbbmegdkhjaa
open Go.RowKit
set_option linter.unusedVariables false
set_option linter.unusedSimpArgs false
section
variable {P : Program} {J : St → Prop} {ops : Array Oper} {n : Nat} {kd : Nat → Kd} {md : Region.Mode}
/-- does it wait for all others? -/
def lastB (ops : Array Oper) (i : Nat) : Bool :=
  match ops[i]? with
  | none => false
  | some o => (List.range ops.size).all fun k => k == i || o.after.any fun e => Region.binds .any e && e.on == k
theorem last_ready {listed : Array Bool} {i : Nat} (hs : listed.size = ops.size) (hl : lastB ops i = true) (hi : i ∈ Region.ready .any ops listed) : Region.ready .any ops (listed.setIfInBounds i true) = [] := by
  refine List.eq_nil_iff_forall_not_mem.2 fun j hj => ?_
  obtain ⟨h0, o, ho, hall⟩ := mem_ready.1 hi
  obtain ⟨h1, oj, hoj, -⟩ := mem_ready.1 hj
  have hlt : j < ops.size := (Array.getElem?_eq_some_iff.1 hoj).1
  unfold lastB at hl
  rw [ho] at hl
  have h2 := List.all_eq_true.1 hl j (List.mem_range.2 hlt)
  simp only [Bool.or_eq_true, beq_iff_eq] at h2
  rcases h2 with rfl | h2
  · simp [hs, hlt] at h1
  · obtain ⟨e, he, h3⟩ := Array.any_eq_true'.1 h2
    simp only [Bool.and_eq_true, beq_iff_eq] at h3
    have h4 := hall e he h3.1
    rw [h3.2] at h4
    by_cases hji : i = j
    · subst hji; simp [hs, hlt] at h1
    · rw [getD_set_ne true hji] at h1
      have h5 := listed_false h1
      rw [h4] at h5; cases h5
/-- one operation, out of turn -/
def lOp (P : Program) (J : St → Prop) (ops : Array Oper) (n : Nat) (kd : Nat → Kd) (i : Nat) (K : G → St → Prop) (g : G) (st : St) : Prop :=
  match ops[i]? with
  | none => K g st
  | some o => (∀ d, o.dst = some d → d < n) ∧
    ((gwants g ops o = some false ∧ K (gput g o.dst (.tup [])) st) ∨
     (gwants g ops o = some true ∧
      match kd i with
      | .a => ∃ p, (∀ s, J s → POp P o (geval g) s fun q s' => q = p ∧ s' = s) ∧ K (gput g o.dst p) st
      | .b => ∃ p, (POp P o (geval g) st fun q s' => q = p ∧ s' = st) ∧ K (gput g o.dst p) st
      | .e => POp P o (geval g) st fun p s' => (lastB ops i = true ∨ J s') ∧ K (gput g o.dst p) s'))
theorem lOp_mono {i : Nat} {K K' : G → St → Prop} {g : G} {st : St} (h : ∀ g s, K g s → K' g s) (hh : lOp P J ops n kd i K g st) : lOp P J ops n kd i K' g st := by
  unfold lOp at *
  split
  · rename_i ho; rw [ho] at hh; exact h _ _ hh
  · rename_i o ho
    rw [ho] at hh
    obtain ⟨hd, hh⟩ := hh
    refine ⟨hd, ?_⟩
    rcases hh with ⟨h1, h2⟩ | ⟨h1, h2⟩
    · exact .inl ⟨h1, h _ _ h2⟩
    · refine .inr ⟨h1, ?_⟩
      cases hk : kd i with
      | a => rw [hk] at h2; obtain ⟨p, h3, h4⟩ := h2; exact ⟨p, h3, h _ _ h4⟩
      | b => rw [hk] at h2; obtain ⟨p, h3, h4⟩ := h2; exact ⟨p, h3, h _ _ h4⟩
      | e => rw [hk] at h2; exact h2.mono fun p s hs => ⟨hs.1, h _ _ hs.2⟩
def lAny (P : Program) (J : St → Prop) (md : Region.Mode) (ops : Array Oper) (n : Nat) (kd : Nat → Kd) (Q : G → St → Prop) : Nat → Array Bool → G → St → Prop
  | 0, listed, g, st => Region.ready md ops listed = [] ∧ Q g st
  | fuel + 1, listed, g, st =>
    (Region.ready md ops listed = [] → Q g st) ∧ ∀ i ∈ Region.ready md ops listed, lOp P J ops n kd i (lAny P J md ops n kd Q fuel (listed.setIfInBounds i true)) g st
theorem wpAny_lAny {Q : G → St → Prop} {Q' : Exit → Act → World → Prop} {F : Fz} {K0 : Kp} {w0 : World} (hQ : ∀ K w a g st, Ext F K0 w0 K w → Rel F st K w → FG n g K w a → Q g st → Q' .normal a w) :
    ∀ (fuel : Nat) (listed : Array Bool) (g : G) (st : St) (K : Kp) (w : World) (a : Act), listed.size = ops.size → Ext F K0 w0 K w → Rel F st K w → FG n g K w a → (Region.ready .any ops listed = [] ∨ J st) → lAny P J .any ops n kd Q fuel listed g st → wpAny P .any ops Q' fuel listed a w := by
  intro fuel
  induction fuel with
  | zero => intro listed g st K w a hls hx hr hf hJ h; exact ⟨h.1, hQ K w a g st hx hr hf h.2⟩
  | succ fuel ih =>
    intro listed g st K w a hls hx hr hf hJ h
    refine ⟨fun h0 => hQ K w a g st hx hr hf (h.1 h0), fun i hi => ?_⟩
    have hJ : J st := by
      rcases hJ with hJ | hJ
      · rw [hJ] at hi; cases hi
      · exact hJ
    have hls' : (listed.setIfInBounds i true).size = ops.size := by simp [hls]
    have hop := h.2 i hi
    unfold lOp at hop
    unfold wpOp
    split
    · rename_i ho
      rw [ho] at hop
      exact ih _ g st K w a hls' hx hr hf (.inr hJ) hop
    · rename_i o ho
      rw [ho] at hop
      obtain ⟨hd, hop⟩ := hop
      rcases hop with ⟨h1, h2⟩ | ⟨h1, h2⟩
      · rw [wanted_of hf h1]
        exact ih _ _ st K w _ hls' hx hr (hf.put hd (.tup rfl fun i p v hp _ => by simp at hp)) (.inr hJ) h2
      · rw [wanted_of hf h1]
        simp only [if_true]
        refine .inl ?_
        have hgen : POp P o (geval g) st fun p s' => (lastB ops i = true ∨ J s') ∧ lAny P J .any ops n kd Q fuel (listed.setIfInBounds i true) (gput g o.dst p) s' := by
          cases hk : kd i with
          | a =>
            rw [hk] at h2; obtain ⟨p, h3, h4⟩ := h2
            exact (h3 st hJ).mono fun q s ⟨e1, e2⟩ => by subst e1; subst e2; exact ⟨.inr hJ, h4⟩
          | b =>
            rw [hk] at h2; obtain ⟨p, h3, h4⟩ := h2
            exact h3.mono fun q s ⟨e1, e2⟩ => by subst e1; subst e2; exact ⟨.inr hJ, h4⟩
          | e => rw [hk] at h2; exact h2
        exact hgen F K w a _ _ hr (fun x _ p hp => hf.eval x p hp) fun K' w' p st' v b1 b2 b3 b4 => ih _ _ st' K' w' _ hls' (hx.trans b1) b2 ((hf.mono b1).put hd b3) (b4.1.imp (fun hl => last_ready hls hl hi) id) b4.2
/-- what a quiet operation yields -/
def lYields (P : Program) (J : St → Prop) (ops : Array Oper) (n : Nat) (k : Kd) (o : Oper) (p : PV) (g : G) (st : St) : Prop :=
  (∀ d, o.dst = some d → d < n) ∧
  ((gwants g ops o = some false ∧ p = .tup []) ∨
   (gwants g ops o = some true ∧
    match k with
    | .a => ∀ s, J s → POp P o (geval g) s fun q s' => q = p ∧ s' = s
    | .b => POp P o (geval g) st fun q s' => q = p ∧ s' = st
    | .e => False))
theorem lYields.op {i : Nat} {o : Oper} {p : PV} {g : G} {st : St} (hi : ops[i]? = some o) (hy : lYields P J ops n (kd i) o p g st) {K : G → St → Prop} (h : K (gput g o.dst p) st) : lOp P J ops n kd i K g st := by
  unfold lOp
  rw [hi]
  obtain ⟨hd, hy⟩ := hy
  refine ⟨hd, ?_⟩
  rcases hy with ⟨h1, rfl⟩ | ⟨h1, h2⟩
  · exact .inl ⟨h1, h⟩
  · refine .inr ⟨h1, ?_⟩
    cases hk : kd i with
    | a => rw [hk] at h2; exact ⟨p, h2, h⟩
    | b => rw [hk] at h2; exact ⟨p, h2, h⟩
    | e => rw [hk] at h2; exact h2.elim
theorem lYields.put {k : Kd} {o : Oper} {p : PV} {g : G} {st : St} (hy : lYields P J ops n k o p g st) {dst : Option Tmp} {q : PV} (h : ∀ d, dst = some d → d ∉ o.looksAt ops) : lYields P J ops n k o p (gput g dst q) st := by
  obtain ⟨hd, hy⟩ := hy
  refine ⟨hd, ?_⟩
  rw [gwants_put h]
  rcases hy with ⟨h1, h2⟩ | ⟨h1, h2⟩
  · exact .inl ⟨h1, h2⟩
  · refine .inr ⟨h1, ?_⟩
    cases k with
    | a => exact fun s hs => (h2 s hs).congr fun x hx => (geval_put h x hx).symm
    | b => exact POp.congr h2 fun x hx => (geval_put h x hx).symm
    | e => exact h2
theorem lOp_put {i j : Nat} {oi oj : Oper} {p : PV} (hj : ops[j]? = some oj) (hap : oi.apart ops oj = true) {K : G → St → Prop} {g : G} {st : St} (hy : lYields P J ops n (kd i) oi p g st) (hb : kd i = .b → kd j ≠ .e) (h : lOp P J ops n kd j K (gput g oi.dst p) st) :
    lOp P J ops n kd j (fun g' s' => lYields P J ops n (kd i) oi p g' s' ∧ K (gput g' oi.dst p) s') g st := by
  obtain ⟨h1, h2, h3⟩ := Oper.apart_spec hap
  unfold lOp at *
  rw [hj] at h ⊢
  simp only at h ⊢
  obtain ⟨hd, h⟩ := h
  rw [gwants_put h1] at h
  refine ⟨hd, ?_⟩
  rcases h with ⟨e1, e2⟩ | ⟨e1, e2⟩
  · exact .inl ⟨e1, hy.put h3, by rw [← gput_comm g p _ h2]; exact e2⟩
  · refine .inr ⟨e1, ?_⟩
    cases hk : kd j with
    | a =>
      rw [hk] at e2
      obtain ⟨q, e3, e4⟩ := e2
      exact ⟨q, fun s hs => (e3 s hs).congr fun x hx => geval_put h1 x hx, hy.put h3, by rw [← gput_comm g p _ h2]; exact e4⟩
    | b =>
      rw [hk] at e2
      obtain ⟨q, e3, e4⟩ := e2
      exact ⟨q, e3.congr fun x hx => geval_put h1 x hx, hy.put h3, by rw [← gput_comm g p _ h2]; exact e4⟩
    | e =>
      rw [hk] at e2
      refine (POp.congr e2 fun x hx => geval_put h1 x hx).mono fun q s hs => ⟨hs.1, ?_, by rw [← gput_comm g p _ h2]; exact hs.2⟩
      have hy2 := hy.put (dst := oj.dst) (q := q) h3
      obtain ⟨d1, d2⟩ := hy2
      refine ⟨d1, ?_⟩
      rcases d2 with d2 | ⟨d2, d3⟩
      · exact .inl d2
      · refine .inr ⟨d2, ?_⟩
        cases hki : kd i with
        | a => rw [hki] at d3; exact d3
        | b => exact absurd hk (hb hki)
        | e => rw [hki] at d3; exact d3.elim
theorem lAny_first {Q : G → St → Prop} {i : Nat} {oi : Oper} {p : PV} (hi : ops[i]? = some oi) : ∀ (fuel : Nat) (listed : Array Bool) (g : G) (st : St), DC md ops listed →
    (∀ j oj, ops[j]? = some oj → j ≠ i → listed.getD j true = false → (∀ e ∈ oj.after, Region.binds md e = true → e.on ≠ i) → oi.apart ops oj = true) →
    (kd i = .b → ∀ j, kd j = .e → listed.getD j true = false → j < ops.size → ∃ f, waitsB md ops i f j = true) →
    i ∈ Region.ready md ops listed → lYields P J ops n (kd i) oi p g st → lAny P J md ops n kd Q fuel (listed.setIfInBounds i true) (gput g oi.dst p) st → lAny P J md ops n kd Q (fuel + 1) listed g st := by
  intro fuel
  induction fuel with
  | zero =>
    intro listed g st hdc _ _ hr hy H
    refine ⟨fun h => (by rw [h] at hr; cases hr), fun j hj => ?_⟩
    by_cases hji : j = i
    · subst hji; exact hy.op hi H
    · have := ready_mono hj hji
      rw [H.1] at this
      cases this
  | succ fuel ih =>
    intro listed g st hdc hfree hB hr hy H
    refine ⟨fun h => (by rw [h] at hr; cases hr), fun j hj => ?_⟩
    by_cases hji : j = i
    · subst hji; exact hy.op hi H
    · have h1 := H.2 j (ready_mono hj hji)
      obtain ⟨hjun, oj, hoj, hall⟩ := mem_ready.1 hj
      have hiun := (mem_ready.1 hr).1
      have hnot : ∀ e ∈ oj.after, Region.binds md e = true → e.on ≠ i := fun e he hb heq => by
        have h1 := hall e he hb
        rw [heq] at h1
        have h2 := listed_false hiun
        rw [h1] at h2; cases h2
      have hlt : j < ops.size := (Array.getElem?_eq_some_iff.1 hoj).1
      have hbj : kd i = .b → kd j ≠ .e := fun hb he => by
        obtain ⟨f, hw⟩ := hB hb j he hjun hlt
        exact waits_ready hdc hw hiun hj
      have h2 := lOp_put hoj (hfree j oj hoj hji hjun hnot) hy hbj h1
      refine lOp_mono (fun g' s' h3 => ih (listed.setIfInBounds j true) g' s' (hdc.set hj) (fun k ok hk hki hun hno => ?_) (fun hb k hk hun hkl => ?_) (ready_mono hr (Ne.symm hji)) h3.1 ?_) h2
      · refine hfree k ok hk hki ?_ hno
        by_cases hjk : j = k
        · subst hjk; exact hjun
        · rw [getD_set_ne true hjk] at hun; exact hun
      · refine hB hb k hk ?_ hkl
        by_cases hjk : j = k
        · subst hjk; exact hjun
        · rw [getD_set_ne true hjk] at hun; exact hun
      · rw [Array.setIfInBounds_comm _ _ hji]
        exact h3.2
/-- the operations, in such an order -/
def POrdL (P : Program) (J : St → Prop) (n : Nat) (ops : Array Oper) (Q : PF → St → Prop) : List (Nat × Kd) → PF → St → Prop
  | [], fr, st => Q fr st
  | (i, k) :: rest, fr, st => ∃ o, ops[i]? = some o ∧ (∀ d, o.dst = some d → d < n) ∧
    ((fr.wants ops o = some false ∧ POrdL P J n ops Q rest (fr.put o.dst (.tup [])) st) ∨
     (fr.wants ops o = some true ∧
      match k with
      | .a => ∃ p, (∀ s, J s → POp P o fr.eval s fun q s' => q = p ∧ s' = s) ∧ POrdL P J n ops Q rest (fr.put o.dst p) st
      | .b => ∃ p, (POp P o fr.eval st fun q s' => q = p ∧ s' = st) ∧ POrdL P J n ops Q rest (fr.put o.dst p) st
      | .e => POp P o fr.eval st fun p s' => (lastB ops i = true ∨ J s') ∧ POrdL P J n ops Q rest (fr.put o.dst p) s'))
theorem lAny_ord {Q : PF → St → Prop} {all : List (Nat × Kd)} : ∀ (l : List (Nat × Kd)) (listed : Array Bool) (fr : PF) (st : St), DC md ops listed → orderB md ops all l listed = true → POrdL P J n ops Q l fr st → lAny P J md ops n (kdOf all) (fun g s => ∃ fr : PF, fr.get = g ∧ Q fr s) l.length listed fr.get st := by
  intro l
  induction l with
  | nil => intro listed fr st _ hB h; exact ⟨by simpa [orderB] using hB, fr, rfl, h⟩
  | cons x rest ih =>
    intro listed fr st hdc hB h
    obtain ⟨i, k⟩ := x
    simp only [orderB, Bool.and_eq_true] at hB
    obtain ⟨⟨⟨hr, hk⟩, hB1⟩, hB2⟩ := hB
    have hr' : i ∈ Region.ready md ops listed := by simpa using hr
    have hk' : kdOf all i = k := by simpa using hk
    obtain ⟨o, ho, hd, h⟩ := h
    have free : freeB md ops i listed = true → ∀ j oj, ops[j]? = some oj → j ≠ i → listed.getD j true = false → (∀ e ∈ oj.after, Region.binds md e = true → e.on ≠ i) → o.apart ops oj = true := by
      intro hf j oj hj hji hun hno
      unfold freeB at hf
      rw [ho] at hf
      simp only [List.all_eq_true, List.mem_range] at hf
      have hlt : j < ops.size := (Array.getElem?_eq_some_iff.1 hj).1
      have := hf j hlt
      rw [hj] at this
      simp only [hun, Bool.or_false, Bool.or_eq_true, beq_iff_eq] at this
      rcases this with h | h | h
      · exact absurd h hji
      · obtain ⟨e, he, h⟩ := Array.any_eq_true'.1 h
        simp only [Bool.and_eq_true, beq_iff_eq] at h
        exact absurd h.2 (hno e he h.1)
      · exact h
    have nxt : ∀ p s, POrdL P J n ops Q rest (fr.put o.dst p) s → lAny P J md ops n (kdOf all) (fun g s => ∃ fr : PF, fr.get = g ∧ Q fr s) rest.length (listed.setIfInBounds i true) (gput fr.get o.dst p) s := fun p s hp => by
      rw [← gput_get]; exact ih _ _ s (hdc.set hr') hB2 hp
    cases k with
    | a =>
      have hy : ∃ p, lYields P J ops n (kdOf all i) o p fr.get st ∧ POrdL P J n ops Q rest (fr.put o.dst p) st := by
        rw [hk']
        rcases h with ⟨h1, h2⟩ | ⟨h1, p, h2, h3⟩
        · exact ⟨_, ⟨hd, .inl ⟨by rw [gwants_get]; exact h1, rfl⟩⟩, h2⟩
        · exact ⟨p, ⟨hd, .inr ⟨by rw [gwants_get]; exact h1, by rw [geval_get]; exact h2⟩⟩, h3⟩
      obtain ⟨p, hy, hp⟩ := hy
      exact lAny_first ho _ listed _ st hdc (free hB1) (fun hb => by rw [hk'] at hb; cases hb) hr' hy (nxt p st hp)
    | b =>
      have hy : ∃ p, lYields P J ops n (kdOf all i) o p fr.get st ∧ POrdL P J n ops Q rest (fr.put o.dst p) st := by
        rw [hk']
        rcases h with ⟨h1, h2⟩ | ⟨h1, p, h2, h3⟩
        · exact ⟨_, ⟨hd, .inl ⟨by rw [gwants_get]; exact h1, rfl⟩⟩, h2⟩
        · exact ⟨p, ⟨hd, .inr ⟨by rw [gwants_get]; exact h1, by rw [geval_get]; exact h2⟩⟩, h3⟩
      obtain ⟨p, hy, hp⟩ := hy
      simp only [Bool.and_eq_true] at hB1
      refine lAny_first ho _ listed _ st hdc (free hB1.1) (fun _ j hj hun hlt => ?_) hr' hy (nxt p st hp)
      have := List.all_eq_true.1 hB1.2 j (List.mem_range.2 hlt)
      simp only [hj, hun, Bool.or_false] at this
      exact ⟨_, by simpa using this⟩
    | e =>
      have hsole : Region.ready md ops listed = [i] := by simpa using hB1
      refine ⟨fun h0 => (by rw [h0] at hr'; cases hr'), fun j hj => ?_⟩
      rw [hsole] at hj
      obtain rfl := List.mem_singleton.1 hj
      unfold lOp
      rw [ho]
      refine ⟨hd, ?_⟩
      rcases h with ⟨h1, h2⟩ | ⟨h1, h2⟩
      · exact .inl ⟨by rw [gwants_get]; exact h1, nxt _ st h2⟩
      · refine .inr ⟨by rw [gwants_get]; exact h1, ?_⟩
        rw [hk']
        simp only
        rw [geval_get]
        exact h2.mono fun p s hs => ⟨hs.1, nxt p s hs.2⟩
/-- a region that draws its order -/
theorem PW_drawnL {id : Nat} {Q : Exit → PF → St → Prop} {fr : PF} {st : St} (order : List (Nat × Kd)) (hm : P.follows .mixedOrders = true) (hlen : order.length = ops.size) (hB : orderB .any ops order order (Array.replicate ops.size false) = true) (hJ : J st) (h : POrdL P J n ops (Q .normal) order fr st) : PW P n (.region id ops true) Q fr st := by
  intro F K w a hr hf
  have hdc : DC .any ops (Array.replicate ops.size false) := fun j o ho hj => by
    exfalso
    have hlt : j < ops.size := (Array.getElem?_eq_some_iff.1 ho).1
    simp [hlt] at hj
  have hx : Ext F K w K { w with drawn := w.drawn + 1 } := ⟨rfl, rfl, rfl, Nat.le_refl _, fun _ _ => rfl, fun _ _ h => ⟨h, rfl⟩, fun _ _ h => .inl h, fun _ _ h => h, fun g u h => ⟨u, h, .inl rfl⟩, fun _ _ => rfl⟩
  have hr2 : Rel F st K { w with drawn := w.drawn + 1 } := ⟨hr.kc, hr.ff, hr.fin, hr.fi, fun e he => (hr.ents e he).keep hx (fun _ _ => rfl) (fun _ _ _ h => h) fun _ _ => rfl, hr.nb, hr.nt⟩
  have hany := lAny_ord (md := .any) order _ fr st hdc hB h
  rw [hlen] at hany
  exact wp_region_any hm (wpAny_lAny (K0 := K) (w0 := w) (F := F) (Q := fun g s => ∃ fr : PF, fr.get = g ∧ Q .normal fr s) (fun K' w' a' g' st' h1 h2 h3 ⟨fr', e, h4⟩ => ⟨K', fr', st', h1, h2, by subst e; exact h3.fr, h4⟩) _ _ _ st K _ a (by simp) hx hr2 (hf.mono hx).fg (.inr hJ) hany)
end

section
variable {P : Program} {J : St → Prop} {n : Nat} {ops : Array Oper} {Q : PF → St → Prop} {fr : PF} {st : St} {p : PV} {op : Op} {ty : TypeId} {pos : String} {after : Array Edge} {gd : Option (Nat × Bool)} {od : List (Nat × Kd)} {j d : Nat}
theorem PL_nil (h : Q fr st) : POrdL P J n ops Q [] fr st := h
theorem PL_s (h : POrdL P J n ops Q od ((d, p) :: fr) st) (ho : ops[j]? = some ⟨some d, op, ty, pos, after, gd⟩) (hd : d < n) (hw : PF.wants fr ops ⟨some d, op, ty, pos, after, gd⟩ = some true) (he : nev P fr.eval op = some p) : POrdL P J n ops Q ((j, .a) :: od) fr st :=
  ⟨_, ho, fun _ e => by cases e; exact hd, .inr ⟨hw, p, fun s _ => nev_ok (o := ⟨some d, op, ty, pos, after, gd⟩) he s, h⟩⟩
theorem PL_gn {k : Kd} (h : POrdL P J n ops Q od ((d, .tup []) :: fr) st) (ho : ops[j]? = some ⟨some d, op, ty, pos, after, gd⟩) (hd : d < n) (hw : PF.wants fr ops ⟨some d, op, ty, pos, after, gd⟩ = some false) : POrdL P J n ops Q ((j, k) :: od) fr st :=
  ⟨_, ho, fun _ e => by cases e; exact hd, .inl ⟨hw, h⟩⟩
/-- a load from a variable that stays as it is -/
theorem PL_b {l : List (Nat × TypeId × List PV)} {t : TypeId} {a : Operand} {i off : Nat} {T : Ty} {U : TypeId} {cs : List PV} (h : POrdL P (keepJ l) n ops Q od ((d, p) :: fr) st) (ho : ops[j]? = some ⟨some d, .load t a, ty, pos, after, gd⟩) (hd : d < n) (hw : PF.wants fr ops ⟨some d, .load t a, ty, pos, after, gd⟩ = some true) (ha : fr.eval a = some (.ptr i off)) (hT : tyOf P t = some T) (hl : (i, U, cs) ∈ l) (he : Jm T (cs.drop off) = some p) : POrdL P (keepJ l) n ops Q ((j, .a) :: od) fr st :=
  ⟨_, ho, fun _ e => by cases e; exact hd, .inr ⟨hw, p, fun s hs => nevB_ok (o := ⟨some d, .load t a, ty, pos, after, gd⟩) (by simp only [nevB, ha, hT, hs _ hl]; exact he), h⟩⟩
theorem PL_e (ho : ops[j]? = some ⟨some d, op, ty, pos, after, gd⟩) (hd : d < n) (hw : PF.wants fr ops ⟨some d, op, ty, pos, after, gd⟩ = some true) (h : POp P ⟨some d, op, ty, pos, after, gd⟩ fr.eval st fun p st' => (lastB ops j = true ∨ J st') ∧ POrdL P J n ops Q od ((d, p) :: fr) st') : POrdL P J n ops Q ((j, .e) :: od) fr st :=
  ⟨_, ho, fun _ e => by cases e; exact hd, .inr ⟨hw, h⟩⟩
theorem PL_e0 (ho : ops[j]? = some ⟨none, op, ty, pos, after, gd⟩) (hw : PF.wants fr ops ⟨none, op, ty, pos, after, gd⟩ = some true) (h : POp P ⟨none, op, ty, pos, after, gd⟩ fr.eval st fun _ st' => (lastB ops j = true ∨ J st') ∧ POrdL P J n ops Q od fr st') : POrdL P J n ops Q ((j, .e) :: od) fr st :=
  ⟨_, ho, fun _ e => (by cases e), .inr ⟨hw, h⟩⟩
theorem PL_call {f : Nat} {xs : Array Operand} {ts : Array TypeId} {ps qs : List PV} {r : PV} (hc : PCalls P f qs [] fun p s => p = r ∧ s = []) (h : POrdL P J n ops Q od ((d, r) :: fr) st) (ho : ops[j]? = some ⟨some d, .call { callee := .value (.func f), args := xs, argTypes := ts }, ty, pos, after, gd⟩) (hd : d < n) (hw : PF.wants fr ops ⟨some d, .call { callee := .value (.func f), args := xs, argTypes := ts }, ty, pos, after, gd⟩ = some true) (hxs : Jn fr.eval xs.toList = some ps) (hn : ps.map PV.norm1 = qs) (hca : callable P f = true) : POrdL P J n ops Q ((j, .a) :: od) fr st := by
  exact ⟨_, ho, fun _ e => (by cases e; exact hd), .inr ⟨hw, r, fun s _ => POp_call0 (o := ⟨some d, .call { callee := .value (.func f), args := xs, argTypes := ts }, ty, pos, after, gd⟩) rfl rfl rfl hxs hca hn hc s, h⟩⟩
theorem PL_alloc {T : TypeId} {ps : List PV} (ho : ops[j]? = some ⟨some d, .alloc T, ty, pos, after, gd⟩) (hd : d < n) (hw : PF.wants fr ops ⟨some d, .alloc T, ty, pos, after, gd⟩ = some true) (hz : zeroOf P T = some ps) (hJ : ∀ i, st.freshB i → J (.box i T ps :: st)) (h : ∀ i, st.freshB i → POrdL P J n ops Q od ((d, .ptr i 0) :: fr) (.box i T ps :: st)) : POrdL P J n ops Q ((j, .e) :: od) fr st :=
  PL_e ho hd hw (POp_alloc rfl hz fun i hi => ⟨.inr (hJ i hi), h i hi⟩)
theorem PL_store {t : TypeId} {x y : Operand} {q : PV} {i off : Nat} {T : Ty} {c : TypeId × List PV} {U : TypeId} {cs ps : List PV} {st' : St} (ho : ops[j]? = some ⟨none, .store t x y, ty, pos, after, gd⟩) (hw : PF.wants fr ops ⟨none, .store t x y, ty, pos, after, gd⟩ = some true) (hx : fr.eval x = some q) (hq : q = .ptr i off) (hy : fr.eval y = some p) (hps : p.ps = ps) (hone : ps.all PV.one = true) (hT : tyOf P t = some T) (hsz : ps.length = T.size) (hb : st.box? i = some c) (hc : c = (U, cs)) (hfit : off + ps.length ≤ cs.length) (hs : st.setBox i (spl cs off ps) = st') (hJ : lastB ops j = true ∨ J st')
    (h : POrdL P J n ops Q od fr st') : POrdL P J n ops Q ((j, .e) :: od) fr st :=
  PL_e0 ho hw (op_store rfl hx hq hy hps hone hT hsz hb hc hfit hs ⟨hJ, h⟩)
theorem PL_bs {len : Nat} {t : TypeId} {parts : Array (Nat × Operand)} {E es bytes ts : Nat} {ea : Option Bool} {T0 : Ty} {e0 : Nat × Nat} {cells : List PV} {rows : List (List D)} (h : POrdL P J n ops Q od ((d, .d (.sl rows)) :: fr) st) (ho : ops[j]? = some ⟨some d, .buildSlice t len parts, ty, pos, after, gd⟩) (hd : d < n) (hw : PF.wants fr ops ⟨some d, .buildSlice t len parts, ty, pos, after, gd⟩ = some true) (hT : tyOf P t = some T0) (hT2 : T0 = ⟨ts, .slice E es ea⟩) (hE : elOf P E = some e0) (hE2 : e0 = (es, bytes)) (h0 : 0 < len * es) (h24 : len * es ≤ 16777216) (hf : fillO (fun i => some (i * es, es)) fr.eval (List.replicate (len * es) .u) parts.toList = some cells) (hr : rowsOf es len cells = some rows) : POrdL P J n ops Q ((j, .a) :: od) fr st :=
  ⟨_, ho, fun _ e => (by cases e; exact hd), .inr ⟨hw, _, fun s _ => POp_buildSlice (o := ⟨some d, .buildSlice t len parts, ty, pos, after, gd⟩) rfl (hT2 ▸ hT) rfl (hE2 ▸ hE) h0 h24 hf hr s, h⟩⟩
end
section
variable {P : Program} {n : Nat} {ops : Array Oper} {Q : PF → St → Prop} {fr : PF} {st : St} {ty : TypeId} {pos : String} {after : Array Edge} {gd : Option (Nat × Bool)} {od : List (Nat × Kd)} {d j : Nat}
end
section
variable {P : Program} {J : St → Prop} {n : Nat} {ops : Array Oper} {Q : PF → St → Prop} {fr : PF} {st : St} {p : PV} {op : Op} {ty : TypeId} {pos : String} {after : Array Edge} {gd : Option (Nat × Bool)} {od : List (Nat × Kd)} {j d : Nat}
/-- a load from a variable that stays as it is -/
theorem PL_b2 {l : List (Nat × TypeId × List PV)} {t : TypeId} {a : Operand} {q : PV} {i off : Nat} {T : Ty} {x : TypeId × List PV} {U : TypeId} {cs : List PV} (h : POrdL P (keepJ l) n ops Q od ((d, p) :: fr) st)
    (ho : ops[j]? = some ⟨some d, .load t a, ty, pos, after, gd⟩ := by rfl) (hd : d < n := by decide)
    (hw : PF.wants fr ops ⟨some d, .load t a, ty, pos, after, gd⟩ = some true := by first | (simp [nev, nevA, nevB, Jo, PF.eval, PF.get, PF.wants, cPV, cCell, PV.rows, evBin, evUn, Jp, evLen, loadA, Jm, TyK.agg, partA, St.box?, St.tok?, St.setBox, St.setTok, fillO, spl, PV.ps, PV.one, Jn, aggD, slD, Jg, Jj, Jh, Ji, Jf, Je, *]; done) | fail)
    (ha : fr.eval a = some q := by simp [nev, nevA, nevB, Jo, PF.eval, PF.get, PF.wants, cPV, cCell, PV.rows, evBin, evUn, Jp, evLen, loadA, Jm, TyK.agg, partA, St.box?, St.tok?, St.setBox, St.setTok, fillO, spl, PV.ps, PV.one, Jn, aggD, slD, Jg, Jj, Jh, Ji, Jf, Je, *]; rfl) (hq : q = .ptr i off := by rfl) (hT : tyOf P t = some T := by simp; rfl)
    (hl : (i, x) ∈ l := by first | exact List.mem_cons_self | exact List.mem_cons_of_mem _ List.mem_cons_self | exact List.mem_cons_of_mem _ (List.mem_cons_of_mem _ List.mem_cons_self)) (hx : x = (U, cs) := by rfl)
    (he : Jm T (cs.drop off) = some p := by simp [nev, nevA, nevB, Jo, PF.eval, PF.get, PF.wants, cPV, cCell, PV.rows, evBin, evUn, Jp, evLen, loadA, Jm, TyK.agg, partA, St.box?, St.tok?, St.setBox, St.setTok, fillO, spl, PV.ps, PV.one, Jn, aggD, slD, Jg, Jj, Jh, Ji, Jf, Je, *]; rfl) : POrdL P (keepJ l) n ops Q ((j, .a) :: od) fr st := by
  subst hq; subst hx
  exact PL_b h ho hd hw ha hT hl he
theorem PL_gn2 {k : Kd} (h : POrdL P J n ops Q od ((d, .tup []) :: fr) st) (ho : ops[j]? = some ⟨some d, op, ty, pos, after, gd⟩ := by rfl) (hd : d < n := by decide) (hw : PF.wants fr ops ⟨some d, op, ty, pos, after, gd⟩ = some false := by first | (simp [nev, nevA, nevB, Jo, PF.eval, PF.get, PF.wants, cPV, cCell, PV.rows, evBin, evUn, Jp, evLen, loadA, Jm, TyK.agg, partA, St.box?, St.tok?, St.setBox, St.setTok, fillO, spl, PV.ps, PV.one, Jn, aggD, slD, Jg, Jj, Jh, Ji, Jf, Je, *]; done) | fail) : POrdL P J n ops Q ((j, k) :: od) fr st := PL_gn h ho hd hw
theorem PL_s2 (h : POrdL P J n ops Q od ((d, p) :: fr) st) (ho : ops[j]? = some ⟨some d, op, ty, pos, after, gd⟩ := by rfl) (hd : d < n := by decide) (hw : PF.wants fr ops ⟨some d, op, ty, pos, after, gd⟩ = some true := by first | (simp [nev, nevA, nevB, Jo, PF.eval, PF.get, PF.wants, cPV, cCell, PV.rows, evBin, evUn, Jp, evLen, loadA, Jm, TyK.agg, partA, St.box?, St.tok?, St.setBox, St.setTok, fillO, spl, PV.ps, PV.one, Jn, aggD, slD, Jg, Jj, Jh, Ji, Jf, Je, *]; done) | fail) (he : nev P fr.eval op = some p := by simp [nev, nevA, nevB, Jo, PF.eval, PF.get, PF.wants, cPV, cCell, PV.rows, evBin, evUn, Jp, evLen, loadA, Jm, TyK.agg, partA, St.box?, St.tok?, St.setBox, St.setTok, fillO, spl, PV.ps, PV.one, Jn, aggD, slD, Jg, Jj, Jh, Ji, Jf, Je, *]; rfl) : POrdL P J n ops Q ((j, .a) :: od) fr st := PL_s h ho hd hw he
theorem PL_call2 {f : Nat} {xs : Array Operand} {ts : Array TypeId} {ps qs : List PV} {r : PV} (hc : PCalls P f qs [] fun p s => p = r ∧ s = []) (h : POrdL P J n ops Q od ((d, r) :: fr) st) (ho : ops[j]? = some ⟨some d, .call { callee := .value (.func f), args := xs, argTypes := ts }, ty, pos, after, gd⟩ := by rfl) (hd : d < n := by decide)
    (hw : PF.wants fr ops ⟨some d, .call { callee := .value (.func f), args := xs, argTypes := ts }, ty, pos, after, gd⟩ = some true := by first | (simp [nev, nevA, nevB, Jo, PF.eval, PF.get, PF.wants, cPV, cCell, PV.rows, evBin, evUn, Jp, evLen, loadA, Jm, TyK.agg, partA, St.box?, St.tok?, St.setBox, St.setTok, fillO, spl, PV.ps, PV.one, Jn, aggD, slD, Jg, Jj, Jh, Ji, Jf, Je, *]; done) | fail)
    (hxs : Jn fr.eval xs.toList = some ps := by simp [nev, nevA, nevB, Jo, PF.eval, PF.get, PF.wants, cPV, cCell, PV.rows, evBin, evUn, Jp, evLen, loadA, Jm, TyK.agg, partA, St.box?, St.tok?, St.setBox, St.setTok, fillO, spl, PV.ps, PV.one, Jn, aggD, slD, Jg, Jj, Jh, Ji, Jf, Je, *]; rfl)
    (hn : ps.map PV.norm1 = qs := by first | (simp [PV.norm1, PV.norm0, aggD, slD, Jg, Jj, Jh, Ji, Jf]; done) | fail) (hca : callable P f = true := by rfl) : POrdL P J n ops Q ((j, .a) :: od) fr st := PL_call hc h ho hd hw hxs hn hca
end
section
variable {P : Program} {J : St → Prop} {n : Nat} {ops : Array Oper} {Q : PF → St → Prop} {fr : PF} {st L M st0 : St} {ty : TypeId} {pos : String} {after : Array Edge} {gd : Option (Nat × Bool)} {d f j : Nat} {xs : Array Operand} {ts : Array TypeId} {ps qs : List PV} {R : PV → St → Prop} {od : List (Nat × Kd)}
/-- a call that has some of one's variables -/
theorem PL_callX (k m : Nat) (hc : PCalls P f qs st0 R) (h : ∀ p s, R p s → (lastB ops j = true ∨ J (L ++ (s ++ M))) ∧ POrdL P J n ops Q od ((d, p) :: fr) (L ++ (s ++ M)))
    (ho : ops[j]? = some ⟨some d, .call { callee := .value (.func f), args := xs, argTypes := ts }, ty, pos, after, gd⟩ := by rfl)
    (hL : st.take k = L := by simp only [List.cons_append, List.nil_append, List.take_succ_cons, List.take_zero]; rfl)
    (h0 : (st.drop k).take m = st0 := by rfl)
    (hM : (st.drop k).drop m = M := by simp only [List.cons_append, List.nil_append, List.drop_succ_cons, List.drop_zero, List.drop_nil]; rfl)
    (hd : d < n := by decide)
    (hw : PF.wants fr ops ⟨some d, .call { callee := .value (.func f), args := xs, argTypes := ts }, ty, pos, after, gd⟩ = some true := by first | (simp [nev, nevA, nevB, Jo, PF.eval, PF.get, PF.wants, cPV, cCell, PV.rows, evBin, evUn, Jp, evLen, loadA, Jm, TyK.agg, partA, St.box?, St.tok?, St.setBox, St.setTok, fillO, spl, PV.ps, PV.one, Jn, aggD, slD, Jg, Jj, Jh, Ji, Jf, Je, *]; done) | fail)
    (hxs : Jn fr.eval xs.toList = some ps := by simp [nev, nevA, nevB, Jo, PF.eval, PF.get, PF.wants, cPV, cCell, PV.rows, evBin, evUn, Jp, evLen, loadA, Jm, TyK.agg, partA, St.box?, St.tok?, St.setBox, St.setTok, fillO, spl, PV.ps, PV.one, Jn, aggD, slD, Jg, Jj, Jh, Ji, Jf, Je, *]; rfl)
    (hn : ps.map PV.norm1 = qs := by first | (simp [PV.norm1, PV.norm0, aggD, slD, Jg, Jj, Jh, Ji, Jf]; done) | fail)
    (hca : callable P f = true := by rfl) : POrdL P J n ops Q ((j, .e) :: od) fr st :=
  PL_e ho hd hw (op_callX k m rfl rfl hc hL h0 hM hxs hn hca h)
end
end Go.Proofs.Ytfnfbbmegdkhjaa

namespace Go.Proofs.Ytfnfbbmegdkhjaa
open Go.RowKit
set_option linter.unusedVariables false
set_option linter.unusedSimpArgs false
section
variable {P : Program} {J : St → Prop} {n : Nat} {ops : Array Oper} {Q : PF → St → Prop} {rest : List Oper} {fr : PF} {st L M st0 : St} {p : PV} {ty : TypeId} {pos : String} {after : Array Edge} {gd : Option (Nat × Bool)} {d f j : Nat} {xs : Array Operand} {ts : Array TypeId} {ps qs first : List PV} {R : PV → St → Prop} {od : List (Nat × Kd)}
theorem PL_app {s x : Operand} {t xt : TypeId} {q : PV} {g : Nat} {rows rows' : List (List D)} {ts E es bytes : Nat} {ea : Option Bool} {T0 : Ty} {e0 : Nat × Nat} {c : TypeId × Nat × Nat} {st' : St} (n' : Nat)
    (h : POrdL P J n ops Q od ((d, .own g (rows ++ rows')) :: fr) st') (hl0 : ∀ row ∈ rows, row.length = es) (hl : ∀ row ∈ rows', row.length = es) (hn' : rows.length + rows'.length = n') (hJ : lastB ops j = true ∨ J st')
    (ho : ops[j]? = some ⟨some d, .call { callee := .builtin .append, args := #[s, x], argTypes := #[t, xt] }, ty, pos, after, gd⟩ := by rfl) (hd : d < n := by decide)
    (hw : PF.wants fr ops ⟨some d, .call { callee := .builtin .append, args := #[s, x], argTypes := #[t, xt] }, ty, pos, after, gd⟩ = some true := by first | (simp [nev, nevA, nevB, Jo, PF.eval, PF.get, PF.wants, cPV, cCell, PV.rows, evBin, evUn, Jp, evLen, loadA, Jm, TyK.agg, partA, St.box?, St.tok?, St.setBox, St.setTok, fillO, spl, PV.ps, PV.one, Jn, aggD, slD, Jg, Jj, Jh, Ji, Jf, Je, *]; done) | fail)
    (hs : fr.eval s = some q := by simp [nev, nevA, nevB, Jo, PF.eval, PF.get, PF.wants, cPV, cCell, PV.rows, evBin, evUn, Jp, evLen, loadA, Jm, TyK.agg, partA, St.box?, St.tok?, St.setBox, St.setTok, fillO, spl, PV.ps, PV.one, Jn, aggD, slD, Jg, Jj, Jh, Ji, Jf, Je, *]; rfl) (hq : q = .own g rows := by rfl) (hx : fr.eval x = some p := by simp [nev, nevA, nevB, Jo, PF.eval, PF.get, PF.wants, cPV, cCell, PV.rows, evBin, evUn, Jp, evLen, loadA, Jm, TyK.agg, partA, St.box?, St.tok?, St.setBox, St.setTok, fillO, spl, PV.ps, PV.one, Jn, aggD, slD, Jg, Jj, Jh, Ji, Jf, Je, *]; rfl) (hp : p.src = some rows' := by simp [PV.src, PV.rows]; rfl)
    (hT : tyOf P t = some T0 := by simp; rfl) (hT2 : T0 = ⟨ts, .slice E es ea⟩ := by rfl) (hX : srcKind ((tyOf P xt).map (·.k)) = true := by simp [srcKind]) (hE : elOf P E = some e0 := by simp; rfl) (hE2 : e0 = (es, bytes) := by rfl) (hes : 0 < es := by decide) (htok : st.tok? g = some c := by simp [nev, nevA, nevB, Jo, PF.eval, PF.get, PF.wants, cPV, cCell, PV.rows, evBin, evUn, Jp, evLen, loadA, Jm, TyK.agg, partA, St.box?, St.tok?, St.setBox, St.setTok, fillO, spl, PV.ps, PV.one, Jn, aggD, slD, Jg, Jj, Jh, Ji, Jf, Je, *]; rfl) (hc : c = (E, es, rows.length) := by first | rfl | (simp; done) | (simp; omega) | fail) (hs' : st.setTok g n' = st' := by simp [St.setTok, *]; rfl) (hm : n' ≤ 4294967296 := by omega) (hb : bytes ≤ 32768 := by decide) : POrdL P J n ops Q ((j, .e) :: od) fr st :=
  PL_e ho hd hw (op_app rfl hs hq hx hp hT hT2 hX hE hE2 hes htok hc hn' hs' hl0 hl hm hb ⟨hJ, h⟩)
end
end Go.Proofs.Ytfnfbbmegdkhjaa

namespace Go.Proofs.Ytfnfbbmegdkhjaa
open Go.RowKit
set_option linter.unusedVariables false
section
variable {P : Program} {n : Nat} {ops : Array Oper} {Q : PF → St → Prop} {od : List (Nat × Kd)} {fr : PF} {st : St} {d j : Nat} {ty : TypeId} {pos : String} {after : Array Edge} {gd : Option (Nat × Bool)}
theorem POrd_bs0 {t : TypeId} {ts E es bytes : Nat} {ea : Option Bool} {T0 : Ty} {e0 : Nat × Nat} (h : ∀ g, st.freshT g → POrd P n ops Q od ((d, .own g []) :: fr) (.tok g E es 0 :: st)) (ho : ops[j]? = some ⟨some d, .buildSlice t 0 #[], ty, pos, after, gd⟩) (hd : d < n) (hw : PF.wants fr ops ⟨some d, .buildSlice t 0 #[], ty, pos, after, gd⟩ = some true) (hT : tyOf P t = some T0) (hT2 : T0 = ⟨ts, .slice E es ea⟩) (hE : elOf P E = some e0) (hE2 : e0 = (es, bytes)) (h0 : 0 < es) : POrd P n ops Q ((j, .e) :: od) fr st :=
  POrd_e ho hd hw (POp_buildSlice0 rfl (hT2 ▸ hT) rfl (hE2 ▸ hE) h0 h)
theorem POrd_max {x y : Operand} {ts : Array TypeId} {p q : PV} {k : IntKind} {a b : Int} (z : Int) (hz : (if a < b then b else a) = z) (h : POrd P n ops Q od ((d, .d (.v (.int k z))) :: fr) st) (ho : ops[j]? = some ⟨some d, .call { callee := .builtin .max, args := #[x, y], argTypes := ts }, ty, pos, after, gd⟩ := by rfl) (hd : d < n := by decide)
    (hw : PF.wants fr ops ⟨some d, .call { callee := .builtin .max, args := #[x, y], argTypes := ts }, ty, pos, after, gd⟩ = some true := by rfl) (hx : fr.eval x = some p := by simp [nev, nevA, nevB, Jo, PF.eval, PF.get, PF.wants, cPV, cCell, PV.rows, evBin, evUn, Jp, evLen, loadA, Jm, TyK.agg, partA, St.box?, St.tok?, St.setBox, St.setTok, fillO, spl, PV.ps, PV.one, Jn, aggD, slD, Jg, Jj, Jh, Ji, Jf, Je, *]; rfl) (hp : p = .d (.v (.int k a)) := by rfl) (hy : fr.eval y = some q := by simp [nev, nevA, nevB, Jo, PF.eval, PF.get, PF.wants, cPV, cCell, PV.rows, evBin, evUn, Jp, evLen, loadA, Jm, TyK.agg, partA, St.box?, St.tok?, St.setBox, St.setTok, fillO, spl, PV.ps, PV.one, Jn, aggD, slD, Jg, Jj, Jh, Ji, Jf, Je, *]; rfl) (hq : q = .d (.v (.int k b)) := by rfl) : POrd P n ops Q ((j, .a) :: od) fr st := by
  subst hp; subst hq; subst hz
  have key : ∀ s, POp P ⟨some d, .call { callee := .builtin .max, args := #[x, y], argTypes := ts }, ty, pos, after, gd⟩ fr.eval s fun q s' => q = .d (.v (.int k (if a < b then b else a))) ∧ s' = s := fun s => by
    refine POp.of_run fun F K w ac h1 h2 => ?_
    have e1 := int_of (h2 x (by simp [Op.operands, Call.operands]) _ hx)
    have e2 := int_of (h2 y (by simp [Op.operands, Call.operands]) _ hy)
    refine ⟨.int k (if a < b then b else a), w, K, _, s, ?_, Ext.refl _ _ _, h1, .d (.v trivial), rfl, rfl⟩
    have hr := run_max_int2 (P := P) (w := w) ts ty k k a b
    simp only [execOp, resolve, invoke, builtin, Sem.run_bind, Sem.run_pure, Result.andThen_ok, List.map_toArray, List.map_cons, List.map_nil, e1, e2]
    rw [hr]; rfl
  exact ⟨_, ho, fun _ e => (by cases e; exact hd), .inr ⟨hw, _, key, h⟩⟩
end
section
variable {P : Program} {J : St → Prop} {n : Nat} {ops : Array Oper} {Q : PF → St → Prop} {od : List (Nat × Kd)} {fr : PF} {st : St} {p : PV} {d j : Nat} {ty : TypeId} {pos : String} {after : Array Edge} {gd : Option (Nat × Bool)}
theorem PJ_bs0 {t : TypeId} {ts E es bytes : Nat} {ea : Option Bool} {T0 : Ty} {e0 : Nat × Nat} (hJ : ∀ g, st.freshT g → J (.tok g E es 0 :: st)) (h : ∀ g, st.freshT g → POrdJ P J n ops Q od ((d, .own g []) :: fr) (.tok g E es 0 :: st)) (ho : ops[j]? = some ⟨some d, .buildSlice t 0 #[], ty, pos, after, gd⟩ := by rfl) (hd : d < n := by decide) (hw : PF.wants fr ops ⟨some d, .buildSlice t 0 #[], ty, pos, after, gd⟩ = some true := by first | (simp [nev, nevA, nevB, Jo, PF.eval, PF.get, PF.wants, cPV, cCell, PV.rows, evBin, evUn, Jp, evLen, loadA, Jm, TyK.agg, partA, St.box?, St.tok?, St.setBox, St.setTok, fillO, spl, PV.ps, PV.one, Jn, aggD, slD, Jg, Jj, Jh, Ji, Jf, Je, *]; done) | fail) (hT : tyOf P t = some T0 := by simp; rfl) (hT2 : T0 = ⟨ts, .slice E es ea⟩ := by rfl) (hE : elOf P E = some e0 := by simp; rfl) (hE2 : e0 = (es, bytes) := by rfl) (h0 : 0 < es := by decide) : POrdJ P J n ops Q ((j, .e) :: od) fr st :=
  PJ_e ho hd hw (POp_buildSlice0 rfl (hT2 ▸ hT) rfl (hE2 ▸ hE) h0 fun g hg => ⟨hJ g hg, h g hg⟩)
theorem PJ_slice {t : TypeId} {x : Operand} {lo hi : Option Operand} {ts E es : Nat} {ea : Option Bool} {T0 : Ty} {rows rows' : List (List D)} (l h : Nat) (hk : POrdJ P J n ops Q od ((d, .d (.sl rows')) :: fr) st) (hl : ∀ row ∈ rows, row.length = es) (he : (rows.take h).drop l = rows') (ho : ops[j]? = some ⟨some d, .slice t x lo hi none, ty, pos, after, gd⟩ := by rfl) (hd : d < n := by decide) (hw : PF.wants fr ops ⟨some d, .slice t x lo hi none, ty, pos, after, gd⟩ = some true := by first | (simp [nev, nevA, nevB, Jo, PF.eval, PF.get, PF.wants, cPV, cCell, PV.rows, evBin, evUn, Jp, evLen, loadA, Jm, TyK.agg, partA, St.box?, St.tok?, St.setBox, St.setTok, fillO, spl, PV.ps, PV.one, Jn, aggD, slD, Jg, Jj, Jh, Ji, Jf, Je, *]; done) | fail) (hT : tyOf P t = some T0 := by simp; rfl) (hT2 : T0 = ⟨ts, .slice E es ea⟩ := by rfl) (hes : es ≠ 0 := by decide) (hx : fr.eval x = some p := by simp [nev, nevA, nevB, Jo, PF.eval, PF.get, PF.wants, cPV, cCell, PV.rows, evBin, evUn, Jp, evLen, loadA, Jm, TyK.agg, partA, St.box?, St.tok?, St.setBox, St.setTok, fillO, spl, PV.ps, PV.one, Jn, aggD, slD, Jg, Jj, Jh, Ji, Jf, Je, *]; rfl) (hp : p.rows = some rows := by first | rfl | (simp [PV.rows]; done) | (simp [PV.rows]; rfl)) (hlo : lowOf fr.eval lo = some (l : Int) := by first | rfl | (simp [lowOf, PF.eval, PF.get, cPV, cCell, *]; done) | fail) (hhi : highOf fr.eval rows.length hi = some (h : Int) := by first | rfl | (simp [highOf, PF.eval, PF.get, cPV, cCell, *]; done) | fail) (h1 : l ≤ h := by first | omega | (simp; done) | (simp; omega)) (h2 : h ≤ rows.length := by first | omega | (simp; done) | (simp; omega)) : POrdJ P J n ops Q ((j, .a) :: od) fr st := by
  subst he
  exact ⟨_, ho, fun _ e => (by cases e; exact hd), .inr ⟨hw, _, fun s _ => POp_slice (o := ⟨some d, .slice t x lo hi none, ty, pos, after, gd⟩) rfl (hT2 ▸ hT) rfl hes hx hp hl hlo hhi h1 h2 s, hk⟩⟩
theorem PJ_app {s x : Operand} {t xt : TypeId} {q : PV} {g : Nat} {rows rows' : List (List D)} {ts E es bytes : Nat} {ea : Option Bool} {T0 : Ty} {e0 : Nat × Nat} {c : TypeId × Nat × Nat} {st' : St} (n' : Nat) (hn' : rows.length + rows'.length = n') (hl0 : ∀ row ∈ rows, row.length = es) (hl : ∀ row ∈ rows', row.length = es) (hJ : J st') (h : POrdJ P J n ops Q od ((d, .own g (rows ++ rows')) :: fr) st') (ho : ops[j]? = some ⟨some d, .call { callee := .builtin .append, args := #[s, x], argTypes := #[t, xt] }, ty, pos, after, gd⟩ := by rfl) (hd : d < n := by decide) (hw : PF.wants fr ops ⟨some d, .call { callee := .builtin .append, args := #[s, x], argTypes := #[t, xt] }, ty, pos, after, gd⟩ = some true := by rfl) (hs : fr.eval s = some q := by simp [nev, nevA, nevB, Jo, PF.eval, PF.get, PF.wants, cPV, cCell, PV.rows, evBin, evUn, Jp, evLen, loadA, Jm, TyK.agg, partA, St.box?, St.tok?, St.setBox, St.setTok, fillO, spl, PV.ps, PV.one, Jn, aggD, slD, Jg, Jj, Jh, Ji, Jf, Je, *]; rfl) (hq : q = .own g rows := by rfl) (hx : fr.eval x = some p := by simp [nev, nevA, nevB, Jo, PF.eval, PF.get, PF.wants, cPV, cCell, PV.rows, evBin, evUn, Jp, evLen, loadA, Jm, TyK.agg, partA, St.box?, St.tok?, St.setBox, St.setTok, fillO, spl, PV.ps, PV.one, Jn, aggD, slD, Jg, Jj, Jh, Ji, Jf, Je, *]; rfl) (hp : p.src = some rows' := by simp [PV.src, PV.rows]; rfl) (hT : tyOf P t = some T0 := by simp; rfl) (hT2 : T0 = ⟨ts, .slice E es ea⟩ := by rfl) (hX : srcKind ((tyOf P xt).map (·.k)) = true := by simp [srcKind]) (hE : elOf P E = some e0 := by simp; rfl) (hE2 : e0 = (es, bytes) := by rfl) (hes : 0 < es := by decide) (htok : st.tok? g = some c := by simp [nev, nevA, nevB, Jo, PF.eval, PF.get, PF.wants, cPV, cCell, PV.rows, evBin, evUn, Jp, evLen, loadA, Jm, TyK.agg, partA, St.box?, St.tok?, St.setBox, St.setTok, fillO, spl, PV.ps, PV.one, Jn, aggD, slD, Jg, Jj, Jh, Ji, Jf, Je, *]; rfl) (hc : c = (E, es, rows.length) := by first | rfl | (simp; done) | (simp; omega) | fail) (hs' : st.setTok g n' = st' := by simp [St.setTok, *]; rfl) (hm : n' ≤ 4294967296 := by omega) (hb : bytes ≤ 32768 := by decide) : POrdJ P J n ops Q ((j, .e) :: od) fr st :=
  PJ_e ho hd hw (op_app rfl hs hq hx hp hT hT2 hX hE hE2 hes htok hc hn' hs' hl0 hl hm hb ⟨hJ, h⟩)
theorem PJ_min {x y : Operand} {ts : Array TypeId} {p q : PV} {k : IntKind} {a b : Int} (z : Int) (hz : (if b < a then b else a) = z) (h : POrdJ P J n ops Q od ((d, .d (.v (.int k z))) :: fr) st) (ho : ops[j]? = some ⟨some d, .call { callee := .builtin .min, args := #[x, y], argTypes := ts }, ty, pos, after, gd⟩ := by rfl) (hd : d < n := by decide)
    (hw : PF.wants fr ops ⟨some d, .call { callee := .builtin .min, args := #[x, y], argTypes := ts }, ty, pos, after, gd⟩ = some true := by rfl) (hx : fr.eval x = some p := by simp [nev, nevA, nevB, Jo, PF.eval, PF.get, PF.wants, cPV, cCell, PV.rows, evBin, evUn, Jp, evLen, loadA, Jm, TyK.agg, partA, St.box?, St.tok?, St.setBox, St.setTok, fillO, spl, PV.ps, PV.one, Jn, aggD, slD, Jg, Jj, Jh, Ji, Jf, Je, *]; rfl) (hp : p = .d (.v (.int k a)) := by rfl) (hy : fr.eval y = some q := by simp [nev, nevA, nevB, Jo, PF.eval, PF.get, PF.wants, cPV, cCell, PV.rows, evBin, evUn, Jp, evLen, loadA, Jm, TyK.agg, partA, St.box?, St.tok?, St.setBox, St.setTok, fillO, spl, PV.ps, PV.one, Jn, aggD, slD, Jg, Jj, Jh, Ji, Jf, Je, *]; rfl) (hq : q = .d (.v (.int k b)) := by rfl) : POrdJ P J n ops Q ((j, .a) :: od) fr st := by
  subst hp; subst hq; subst hz
  have key : ∀ s, J s → POp P ⟨some d, .call { callee := .builtin .min, args := #[x, y], argTypes := ts }, ty, pos, after, gd⟩ fr.eval s fun q s' => q = .d (.v (.int k (if b < a then b else a))) ∧ s' = s := fun s _ => by
    refine POp.of_run fun F K w ac h1 h2 => ?_
    have e1 := int_of (h2 x (by simp [Op.operands, Call.operands]) _ hx)
    have e2 := int_of (h2 y (by simp [Op.operands, Call.operands]) _ hy)
    refine ⟨.int k (if b < a then b else a), w, K, _, s, ?_, Ext.refl _ _ _, h1, .d (.v trivial), rfl, rfl⟩
    have hr := run_min_int2 (P := P) (w := w) ts ty k k a b
    simp only [execOp, resolve, invoke, builtin, Sem.run_bind, Sem.run_pure, Result.andThen_ok, List.map_toArray, List.map_cons, List.map_nil, e1, e2]
    rw [hr]; rfl
  exact ⟨_, ho, fun _ e => (by cases e; exact hd), .inr ⟨hw, _, key, h⟩⟩
end
/-- lengths within a struct are not too long -/
theorem PW_slenA {P : Program} {n : Nat} {Q : Exit → PF → St → Prop} {fr : PF} {st : St} {c : Code} {t i : Nat} {cs : List PV} {rows : List (List D)} (ht : fr.get t = some (.agg cs)) (hi : cs[i]? = some (.d (.sl rows))) (h : rows.length ≤ maxLen → PW P n c Q fr st) : PW P n c Q fr st := by
  intro F K w a hr hf
  have h0 := hf.at_ t _ ht
  generalize a.tmps.getD t undef = v at h0
  cases h0 with
  | @agg _ vs h1 h2 =>
    have hlt : i < vs.size := by have := (List.getElem?_eq_some_iff.1 hi).1; omega
    have h3 := h2 i _ vs[i] hi (Array.getElem?_eq_getElem hlt)
    obtain ⟨a', cap, hv, h4, h5⟩ := rows_form (rows_rel (rows := rows) rfl h3)
    exact h (by omega) F K w a hr hf
/-- the walk goes on to the next region's beginning -/
theorem gs_ {a b : Prop} (hb : b) (h : Hd2 b → a := by
    intro k
    repeat (first | (with_reducible first | refine Qa ?_ | refine Qb ?_ | refine Qd ?_ | refine Qe ?_ | refine Qf ?_ | refine Qg ?_ | refine Qh ?_ | refine Qi ?_ | refine Qj ?_ | refine Qk ?_ | refine Ql ?_ | refine Qm ?_ | refine Qn ?_ | refine Qo ?_ | refine Qp rfl ?_) | (first | refine Qq ?_ | refine Qr ?_) | (first | refine Qs ?_ | refine Qt ?_ | refine Qu ?_) | (first | refine Qv ?_ | refine Qw ?_) | (first | refine Qx ?_ | refine Qy ?_) | (first | refine Qz ?_ | refine Ra ?_ | refine Rb ?_))
    exact Hd2.out k) : a := h hb
/-- a slice of one's own may be told of as data -/
theorem PW_norm {P : Program} {n : Nat} {Q : Exit → PF → St → Prop} {fr : PF} {st : St} {c : Code} (t : Nat) {p : PV} (ht : fr.get t = some p) (h : PW P n c Q ((t, p.norm0) :: fr) st) : PW P n c Q fr st := by
  intro F K w a hr hf
  refine h F K w a hr ⟨hf.size, hf.defers, fun t' p' hp => ?_⟩
  simp only [PF.get] at hp
  split at hp
  · rename_i e
    subst e
    obtain rfl := Option.some.inj hp
    exact leq_norm0 _ _ _ _ (hf.at_ t p ht)
  · exact hf.at_ t' p' hp
end Go.Proofs.Ytfnfbbmegdkhjaa

namespace Go.Proofs.Ytfnfbbmegdkhjaa
open Go.RowKit
set_option linter.unusedVariables false
/-- what is there may be kept -/
def K0 (w : World) : Kp := ⟨fun b o => ∃ v, w.cell? ⟨b, o, none⟩ = some v, fun _ => none, fun _ => none⟩
def F0 (w : World) : Fz := ⟨fun b => b < w.heap.size, fun _ => False⟩
theorem rel0 (w : World) : Rel (F0 w) [] (K0 w) w := ⟨fun _ _ h => h, fun _ h => h, ⟨0, fun _ _ => ⟨rfl, rfl⟩⟩, fun _ h => h.elim, fun e he => (by cases he), by simp, by simp⟩
/-- out of the layer: a call as the rows ask it -/
theorem PCalls.top {P : Program} {f : FuncId} {args : List PV} {x : Value} (h : PCalls P f args [] fun p _ => p = .d (.v x)) {w : World} {vs : Array Value} (ha : RelVs (K0 w) w args vs) : Calls P f vs w fun e w' => e = .returned x ∧ Below w.heap.size w w' := by
  refine (h (F0 w) (K0 w) w vs (rel0 w) ha).mono ?_
  rintro e w' ⟨v, K', p, st', rfl, hx, hr, hv, rfl⟩
  obtain ⟨rfl, -⟩ := hv.flat
  exact ⟨rfl, hx.os, hx.tape, hx.output, hx.size, fun k hk => hx.hp k hk⟩
theorem ext_below {F : Fz} {K : Kp} {w w' : World} (hb : Below w.heap.size w w') (hF : ∀ b, F.blk b → b < w.heap.size) (hk : ∀ b o, K.cell b o → b < w.heap.size) {K' : Kp} (h1 : ∀ b o, K.cell b o → K'.cell b o) (h2 : ∀ b o, K'.cell b o → K.cell b o ∨ w.heap.size ≤ b) (h3 : K'.box = K.box) (h4 : K'.own = K.own) : Ext F K w K' w' :=
  ⟨hb.os, hb.tape, hb.output, hb.size, fun b h => hb.block b (hF b h), fun b o h => ⟨h1 b o h, hb.cell (p := ⟨b, o, none⟩) (hk b o h)⟩, fun b o h => (h2 b o h).imp id fun h' hf => by have := hF b hf; omega, fun i b h => by rw [h3]; exact h, fun g u h => ⟨u, by rw [h4]; exact h, .inl rfl⟩, fun g _ => by rw [h4]⟩
/-- a call that was told without the layer, with a flat answer -/
theorem PCalls.flat {P : Program} {f : FuncId} {args : List PV} {x : Value} (hx : okv x) (h : ∀ (K : Kp) (w : World) (vs : Array Value), RelVs K w args vs → Calls P f vs w fun e w' => e = .returned x ∧ Below w.heap.size w w') : PCalls P f args [] fun p s => p = .d (.v x) ∧ s = [] := by
  intro F K w vs hr ha
  refine (h K w vs ha).mono ?_
  rintro e w' ⟨rfl, hb⟩
  have hxt : Ext F K w K w' := ext_below hb hr.ff (fun b o h => hr.klt h) (fun _ _ h => h) (fun _ _ h => .inl h) rfl rfl
  refine ⟨x, K, _, [], rfl, hxt, ⟨fun b o hc => ?_, fun b hf => by have := hr.ff b hf; have := hb.size; omega, hr.fin, hr.fi, fun e he => (by cases he), by simp, by simp⟩, .d (.v hx), rfl, rfl⟩
  obtain ⟨v, hv⟩ := hr.kc b o hc
  exact ⟨v, (hxt.kp b o hc).2.trans hv⟩
/-- with an answer in new memory -/
theorem PCalls.data {P : Program} {f : FuncId} {args : List PV} {r : PV} (h : ∀ (K : Kp) (w : World) (vs : Array Value), RelVs K w args vs → Calls P f vs w fun e w' => ∃ v, e = .returned v ∧ Below w.heap.size w w' ∧ ∀ K' : Kp, (∀ b o u, w.heap.size ≤ b → w'.cell? ⟨b, o, none⟩ = some u → K'.cell b o) → RelV K' w' r v) : PCalls P f args [] fun p s => p = r ∧ s = [] := by
  intro F K w vs hr ha
  refine (h K w vs ha).mono ?_
  rintro e w' ⟨v, rfl, hb, hv⟩
  have hxt : Ext F K w ⟨fun b o => K.cell b o ∨ (w.heap.size ≤ b ∧ ∃ u, w'.cell? ⟨b, o, none⟩ = some u), K.box, K.own⟩ w' := ext_below hb hr.ff (fun b o h => hr.klt h) (fun _ _ h => .inl h) (fun _ _ h => h.imp id fun h => h.1) rfl rfl
  refine ⟨v, _, r, [], rfl, hxt, ⟨fun b o hc => ?_, fun b hf => by have := hr.ff b hf; have := hb.size; omega, hr.fin, hr.fi, fun e he => (by cases he), by simp, by simp⟩, hv _ fun b o u h1 h2 => .inr ⟨h1, u, h2⟩, rfl, rfl⟩
  rcases hc with hc | ⟨_, hc⟩
  · obtain ⟨v, hv⟩ := hr.kc b o hc
    exact ⟨v, (hxt.kp b o (hc)).2.trans hv⟩
  · exact hc
theorem RelVs.one {K : Kp} {w : World} {p : PV} {vs : Array Value} (h : RelVs K w [p] vs) : ∃ v, vs = #[v] ∧ RelV K w p v := by
  obtain ⟨h1, h2⟩ := h
  obtain ⟨vs⟩ := vs
  match vs, h1 with
  | [v], _ => exact ⟨v, rfl, h2 0 p v rfl rfl⟩
theorem RelVs.two {K : Kp} {w : World} {p q : PV} {vs : Array Value} (h : RelVs K w [p, q] vs) : ∃ v u, vs = #[v, u] ∧ RelV K w p v ∧ RelV K w q u := by
  obtain ⟨h1, h2⟩ := h
  obtain ⟨vs⟩ := vs
  match vs, h1 with
  | [v, u], _ => exact ⟨v, u, rfl, h2 0 p v rfl rfl, h2 1 q u rfl rfl⟩
theorem RelVs.three {K : Kp} {w : World} {p q r : PV} {vs : Array Value} (h : RelVs K w [p, q, r] vs) : ∃ v u x, vs = #[v, u, x] ∧ RelV K w p v ∧ RelV K w q u ∧ RelV K w r x := by
  obtain ⟨h1, h2⟩ := h
  obtain ⟨vs⟩ := vs
  match vs, h1 with
  | [v, u, x], _ => exact ⟨v, u, x, rfl, h2 0 p v rfl rfl, h2 1 q u rfl rfl, h2 2 r x rfl rfl⟩
theorem relVs_nil (K : Kp) (w : World) : RelVs K w [] #[] := ⟨rfl, fun i p v hp _ => by simp at hp⟩
theorem relVs_cons {K : Kp} {w : World} {p : PV} {v : Value} {ps : List PV} {vs : List Value} (h : RelV K w p v) (hs : RelVs K w ps vs.toArray) : RelVs K w (p :: ps) (v :: vs).toArray := by
  refine ⟨by have := hs.1; simp at this ⊢; omega, fun i q u hq hu => ?_⟩
  cases i with
  | zero =>
    have e1 := Option.some.inj hq
    have e2 : v = u := by simpa using hu
    subst e1; subst e2; exact h
  | succ i => exact hs.2 i q u (by simpa using hq) (by simpa using hu)
end Go.Proofs.Ytfnfbbmegdkhjaa

namespace Go.Proofs.Ytfnfbbmegdkhjaa
open Go.RowKit Go.ChangeMaps Go.MapKept
open Go.WideElems (Fit rd rg pl rd_val elemAt)
set_option linter.unusedVariables false
/-- a map of whole numbers of one's own -/
def MapO (P : Program) (k e : TypeId) (n : Nat) (D : DataW Unit) : Obj → Prop := fun o => ∀ (w : World) (b : Nat), w.heap[b]? = some o → w.ownsMap P k (plainElem P e) b n D
theorem MapO.of {P : Program} {k e : TypeId} {n : Nat} {D : DataW Unit} {w : World} {b : Nat} (h : w.ownsMap P k (plainElem P e) b n D) : ∃ o, w.heap[b]? = some o ∧ MapO P k e n D o := by
  obtain ⟨es, clock, hb, F, hs, hD⟩ := h
  exact ⟨_, hb, fun w2 b2 h2 => ⟨es, clock, h2, F, hs, hD⟩⟩
theorem MapO.made (P : Program) (k e : TypeId) : MapO P k e 0 (.map []) (.map #[] 0) := fun w b hb => ⟨#[], 0, hb, ⟨by simp, stamped_empty 0, by simp⟩, Nat.le_refl _, rfl⟩
theorem POp_makeMap {P : Program} {o : Oper} {ρ : Operand → Option PV} {st : St} {R : PV → St → Prop} {t : TypeId} (k e : TypeId) (ho : o.op = .makeMap t none) (h : ∀ i, st.freshB i → R (.mp i) (.obj i (MapO P k e 0 (.map [])) :: st)) : POp P o ρ st R := by
  refine POp.of_run fun F K w a h1 h2 => ?_
  obtain ⟨dst, op, ty, pos, after, guard⟩ := o
  simp only at ho h2
  subst ho
  obtain ⟨i, hi, hf, hx2, hr2⟩ := h1.newObj (o := .map #[] 0) (ok := MapO P k e 0 (.map [])) (MapO.made P k e)
  refine ⟨.map (some w.heap.size), _, _, .mp i, _, ?_, hx2, hr2, .mp (by simp [Kp.addBox]), h i hf⟩
  have hr : (Instr.makeMap t none).run P w = .ok (.map (some w.heap.size)) (w.alloc (.map #[] 0)) := rfl
  simp only [execOp, Option.map_none, Sem.run_bind, hr]
  rfl
theorem obj_open {F : Fz} {st : St} {K : Kp} {w : World} (h1 : Rel F st K w) {i : Nat} {ok : Obj → Prop} (hb : st.obj? i = some ok) : ∃ b ob, K.box i = some b ∧ ¬ F.blk b ∧ w.heap[b]? = some ob ∧ ok ob := by
  obtain ⟨l, r, rfl, hset⟩ := St.obj?_split hb
  obtain ⟨b, ob, hk, hF, hh, hok, hn⟩ := h1.ents (.obj i ok) (by simp)
  exact ⟨b, ob, hk, hF, hh, hok⟩
theorem POp_lookup {P : Program} {o : Oper} {ρ : Operand → Option PV} {st : St} {t k e : TypeId} {m x : Operand} (ho : o.op = .lookup t m x false) {i n : Nat} {D : DataW Unit} {z v : Int} (hm : ρ m = some (.mp i)) (hx : ρ x = some (.d (.v (.int .i64 z)))) (hb : st.obj? i = some (MapO P k e n D))
    (ht : P.underlying t = some (.map k e)) (hk : P.underlying k = some (.int .i64)) (he : P.underlying e = some (.int .i64)) (hz : ∀ w, (zeroValue e).run P w = .ok (.int .i64 0) w) (hkey : keyOf P k (.int .i64 z) = some (.int .i64 z)) (hv : D.atKey (.int .i64 z) (.lit (.int .i64 0)) = .lit (.int .i64 v)) :
    POp P o ρ st fun p s => p = .d (.v (.int .i64 v)) ∧ s = st := by
  refine POp.of_run fun F K w a h1 h2 => ?_
  obtain ⟨dst, op, ty, pos, after, guard⟩ := o
  simp only at ho h2
  subst ho
  have e1 := int_of (h2 x (by simp [Op.operands]) _ hx)
  have hr := h2 m (by simp [Op.operands]) _ hm
  generalize hvm : a.eval m = vm at hr
  cases hr with
  | mp hb' =>
  obtain ⟨b, ob, hk', hF, hh, hok⟩ := obj_open h1 hb
  rw [hk'] at hb'
  obtain rfl := Option.some.inj hb'
  obtain ⟨c, hrun, hat, -⟩ := (hok w b hh).lookup_int (Maps.int_keyed hk) ht he (hz w) hkey
  rw [hv] at hat
  simp only [DataW.lit.injEq, Lit.int.injEq, true_and] at hat
  refine ⟨.int .i64 v, w, K, _, st, ?_, Ext.refl _ _ _, h1, .d (.v trivial), rfl, rfl⟩
  simp only [execOp, hvm, e1, Sem.run_bind, hrun, hat]
  rfl
theorem POp_lookup2 {P : Program} {o : Oper} {ρ : Operand → Option PV} {st : St} {t k e : TypeId} {m x : Operand} (ho : o.op = .lookup t m x true) {i n : Nat} {D : DataW Unit} {z v : Int} (hm : ρ m = some (.mp i)) (hx : ρ x = some (.d (.v (.int .i64 z)))) (hb : st.obj? i = some (MapO P k e n D))
    (ht : P.underlying t = some (.map k e)) (hk : P.underlying k = some (.int .i64)) (he : P.underlying e = some (.int .i64)) (hz : ∀ w, (zeroValue e).run P w = .ok (.int .i64 0) w) (hkey : keyOf P k (.int .i64 z) = some (.int .i64 z)) (hv : D.atKey (.int .i64 z) (.lit (.int .i64 0)) = .lit (.int .i64 v)) :
    POp P o ρ st fun p s => p = .tup [.d (.v (.int .i64 v)), .d (.v (.bool (Maps.has D (.int .i64 z))))] ∧ s = st := by
  refine POp.of_run fun F K w a h1 h2 => ?_
  obtain ⟨dst, op, ty, pos, after, guard⟩ := o
  simp only at ho h2
  subst ho
  have e1 := int_of (h2 x (by simp [Op.operands]) _ hx)
  have hr := h2 m (by simp [Op.operands]) _ hm
  generalize hvm : a.eval m = vm at hr
  cases hr with
  | mp hb' =>
  obtain ⟨b, ob, hk', hF, hh, hok⟩ := obj_open h1 hb
  rw [hk'] at hb'
  obtain rfl := Option.some.inj hb'
  obtain ⟨c, ps, hrun, hat⟩ := (hok w b hh).look_ok (Maps.int_keyed hk) ht (hz w) (plainElem_int he (by decide)) hkey
  rw [hv] at hat
  obtain ⟨c', rfl, hc, -⟩ := plainElem_int_inv he hat
  simp only [Prod.mk.injEq, DataW.lit.injEq, Lit.int.injEq, true_and] at hc
  obtain ⟨rfl, -⟩ := hc
  refine ⟨.tuple #[.int .i64 v, .bool (Maps.has D (.int .i64 z))], w, K, _, st, ?_, Ext.refl _ _ _, h1, ?_, rfl, rfl⟩
  · simp only [execOp, hvm, e1, Sem.run_bind, hrun]
    rfl
  · refine .tup rfl fun j p v hp hv => ?_
    match j with
    | 0 =>
      have e1 := Option.some.inj hp
      have e2 := Option.some.inj hv
      subst e1; subst e2; exact .d (.v trivial)
    | 1 =>
      have e1 := Option.some.inj hp
      have e2 := Option.some.inj hv
      subst e1; subst e2; exact .d (.v trivial)
    | n + 2 => simp at hp
theorem POp_mapUpdate {P : Program} {o : Oper} {ρ : Operand → Option PV} {st : St} {R : PV → St → Prop} {t k e : TypeId} {m x y : Operand} (ho : o.op = .mapUpdate t m x y) {i n : Nat} {D : DataW Unit} {z v : Int} (hm : ρ m = some (.mp i)) (hx : ρ x = some (.d (.v (.int .i64 z)))) (hy : ρ y = some (.d (.v (.int .i64 v)))) (hb : st.obj? i = some (MapO P k e n D))
    (ht : P.underlying t = some (.map k e)) (hk : P.underlying k = some (.int .i64)) (he : P.underlying e = some (.int .i64)) (hn : n < maxLen) (hkey : keyOf P k (.int .i64 z) = some (.int .i64 z)) (hw : (Lit.int .i64 v).wf = true) (h : R (.tup []) (st.setObj i (MapO P k e (n + 1) (D.put (.int .i64 z) (.lit (.int .i64 v)))))) : POp P o ρ st R := by
  refine POp.of_skip fun F K w a h1 h2 => ?_
  obtain ⟨dst, op, ty, pos, after, guard⟩ := o
  simp only at ho h2
  subst ho
  have e1 := int_of (h2 x (by simp [Op.operands]) _ hx)
  have e2 := int_of (h2 y (by simp [Op.operands]) _ hy)
  have hr := h2 m (by simp [Op.operands]) _ hm
  generalize hvm : a.eval m = vm at hr
  cases hr with
  | mp hb' =>
  obtain ⟨l, r, rfl, hset⟩ := St.obj?_split hb
  rw [hset] at h
  obtain ⟨b, ob, hk', hF, hh, hok, hn'⟩ := h1.ents (.obj i (MapO P k e n D)) (by simp)
  rw [hk'] at hb'
  obtain rfl := Option.some.inj hb'
  obtain ⟨es, clock, hb2, F2, hs2, hD⟩ := hok w b hh
  subst hD
  obtain ⟨es', clock', hrun, F', hput, -⟩ := Maps.fit_store (R' := plainElem P e) (Maps.int_keyed hk) ht hb2 F2 (Nat.lt_of_le_of_lt hs2 hn) (fun _ _ _ _ hz => hz) hkey (plainElem_int he hw)
  have hsz : es'.size ≤ n + 1 := by
    have e1 : es'.size = ((es'.toList.map (rg P k (plainElem (H := Unit) P e))).foldr DataW.insert []).length := by rw [length_sorted]; simp
    rw [e1, hput]
    unfold putKey
    rw [length_insert]
    have e2 := List.length_filter_le (notKey (.int .i64 z)) ((es.toList.map (rg P k (plainElem (H := Unit) P e))).foldr DataW.insert [])
    rw [length_sorted] at e2
    simp at e2
    omega
  have hok' : MapO P k e (n + 1) (DataW.put (.map ((es.toList.map (rg P k (plainElem (H := Unit) P e))).foldr DataW.insert [])) (.int .i64 z) (.lit (.int .i64 v))) (.map es' clock') := fun w2 b2 h2 => ⟨es', clock', h2, F', hsz, by rw [DataW.put_eq, hput]⟩
  have hlt : b < w.heap.size := (Array.getElem?_eq_some_iff.1 hb2).1
  obtain ⟨hx2, hrel⟩ := h1.setObj (ok' := MapO P k e (n + 1) _) (o := .map es' clock') (w' := setBlock w b (.map es' clock')) hk' rfl rfl rfl (by simp [setBlock]) (heap_setBlock_same hb2 _) (fun c hc => heap_setBlock_other hb2 _ hc) hok'
  refine ⟨_, K, _, ?_, hx2, hrel, h⟩
  simp only [execOp, hvm, e1, e2, Sem.run_bind, hrun]
  rfl
section
variable {P : Program} {n : Nat} {ops : Array Oper} {Q : PF → St → Prop} {rest : List Oper} {fr : PF} {st : St} {ty : TypeId} {pos : String} {after : Array Edge} {gd : Option (Nat × Bool)} {d : Nat}
theorem POps_makeMap {t : TypeId} (k e : TypeId) (h : ∀ i, st.freshB i → POps P n ops Q rest ((d, .mp i) :: fr) (.obj i (MapO P k e 0 (.map [])) :: st)) (hd : d < n := by decide)
    (hw : PF.wants fr ops ⟨some d, .makeMap t none, ty, pos, after, gd⟩ = some true := by rfl) : POps P n ops Q (⟨some d, .makeMap t none, ty, pos, after, gd⟩ :: rest) fr st :=
  POps_e hd hw (POp_makeMap k e (o := ⟨some d, .makeMap t none, ty, pos, after, gd⟩) rfl h)
theorem POps_lookup {t k e : TypeId} {m x : Operand} {i N : Nat} {D : DataW Unit} {z : Int} {pm px : PV} {ok : Obj → Prop} (v : Int) (hk : P.underlying k = some (.int .i64)) (he : P.underlying e = some (.int .i64)) (hz : ∀ w, (zeroValue e).run P w = .ok (.int .i64 0) w) (hkey : keyOf P k (.int .i64 z) = some (.int .i64 z)) (hv : D.atKey (.int .i64 z) (.lit (.int .i64 0)) = .lit (.int .i64 v))
    (h : POps P n ops Q rest ((d, .d (.v (.int .i64 v))) :: fr) st) (ht : P.underlying t = some (.map k e) := by rfl) (hd : d < n := by decide) (hw : PF.wants fr ops ⟨some d, .lookup t m x false, ty, pos, after, gd⟩ = some true := by rfl) (hm : fr.eval m = some pm := by simp [nev, nevA, nevB, Jo, PF.eval, PF.get, PF.wants, cPV, cCell, PV.rows, evBin, evUn, Jp, evLen, loadA, Jm, TyK.agg, partA, St.box?, St.tok?, St.setBox, St.setTok, fillO, spl, PV.ps, PV.one, Jn, aggD, slD, Jg, Jj, Jh, Ji, Jf, Je, *]; rfl) (hpm : pm = .mp i := by rfl) (hx : fr.eval x = some px := by simp [nev, nevA, nevB, Jo, PF.eval, PF.get, PF.wants, cPV, cCell, PV.rows, evBin, evUn, Jp, evLen, loadA, Jm, TyK.agg, partA, St.box?, St.tok?, St.setBox, St.setTok, fillO, spl, PV.ps, PV.one, Jn, aggD, slD, Jg, Jj, Jh, Ji, Jf, Je, *]; rfl) (hpx : px = .d (.v (.int .i64 z)) := by rfl) (hb : st.obj? i = some ok := by simp [St.obj?, *]; rfl) (hok : ok = MapO P k e N D := by rfl) : POps P n ops Q (⟨some d, .lookup t m x false, ty, pos, after, gd⟩ :: rest) fr st :=
  POps_e hd hw ((POp_lookup (o := ⟨some d, .lookup t m x false, ty, pos, after, gd⟩) rfl (hpm ▸ hm) (hpx ▸ hx) (hok ▸ hb) ht hk he hz hkey hv).mono fun q s' ⟨e1, e2⟩ => by subst e1; subst e2; exact h)
theorem POps_lookup2 {t k e : TypeId} {m x : Operand} {i N : Nat} {D : DataW Unit} {z : Int} {pm px : PV} {ok : Obj → Prop} (v : Int) (b : Bool) (hk : P.underlying k = some (.int .i64)) (he : P.underlying e = some (.int .i64)) (hz : ∀ w, (zeroValue e).run P w = .ok (.int .i64 0) w) (hkey : keyOf P k (.int .i64 z) = some (.int .i64 z)) (hv : D.atKey (.int .i64 z) (.lit (.int .i64 0)) = .lit (.int .i64 v)) (hhas : Maps.has D (.int .i64 z) = b)
    (h : POps P n ops Q rest ((d, .tup [.d (.v (.int .i64 v)), .d (.v (.bool b))]) :: fr) st) (ht : P.underlying t = some (.map k e) := by rfl) (hd : d < n := by decide) (hw : PF.wants fr ops ⟨some d, .lookup t m x true, ty, pos, after, gd⟩ = some true := by rfl) (hm : fr.eval m = some pm := by simp [nev, nevA, nevB, Jo, PF.eval, PF.get, PF.wants, cPV, cCell, PV.rows, evBin, evUn, Jp, evLen, loadA, Jm, TyK.agg, partA, St.box?, St.tok?, St.setBox, St.setTok, fillO, spl, PV.ps, PV.one, Jn, aggD, slD, Jg, Jj, Jh, Ji, Jf, Je, *]; rfl) (hpm : pm = .mp i := by rfl) (hx : fr.eval x = some px := by simp [nev, nevA, nevB, Jo, PF.eval, PF.get, PF.wants, cPV, cCell, PV.rows, evBin, evUn, Jp, evLen, loadA, Jm, TyK.agg, partA, St.box?, St.tok?, St.setBox, St.setTok, fillO, spl, PV.ps, PV.one, Jn, aggD, slD, Jg, Jj, Jh, Ji, Jf, Je, *]; rfl) (hpx : px = .d (.v (.int .i64 z)) := by rfl) (hb : st.obj? i = some ok := by simp [St.obj?, *]; rfl) (hok : ok = MapO P k e N D := by rfl) : POps P n ops Q (⟨some d, .lookup t m x true, ty, pos, after, gd⟩ :: rest) fr st :=
  POps_e hd hw ((POp_lookup2 (o := ⟨some d, .lookup t m x true, ty, pos, after, gd⟩) rfl (hpm ▸ hm) (hpx ▸ hx) (hok ▸ hb) ht hk he hz hkey hv).mono fun q s' ⟨e1, e2⟩ => by subst e1; subst e2; subst hhas; exact h)
theorem POps_mapUpdate {t k e : TypeId} {m x y : Operand} {i N : Nat} {D : DataW Unit} {z v : Int} {pm px py : PV} {ok : Obj → Prop} {st' : St} (hk : P.underlying k = some (.int .i64)) (he : P.underlying e = some (.int .i64)) (hn : N < maxLen) (hkey : keyOf P k (.int .i64 z) = some (.int .i64 z)) (hwf : (Lit.int .i64 v).wf = true)
    (h : POps P n ops Q rest fr st') (ht : P.underlying t = some (.map k e) := by rfl) (hw : PF.wants fr ops ⟨none, .mapUpdate t m x y, ty, pos, after, gd⟩ = some true := by rfl) (hm : fr.eval m = some pm := by simp [nev, nevA, nevB, Jo, PF.eval, PF.get, PF.wants, cPV, cCell, PV.rows, evBin, evUn, Jp, evLen, loadA, Jm, TyK.agg, partA, St.box?, St.tok?, St.setBox, St.setTok, fillO, spl, PV.ps, PV.one, Jn, aggD, slD, Jg, Jj, Jh, Ji, Jf, Je, *]; rfl) (hpm : pm = .mp i := by rfl) (hx : fr.eval x = some px := by simp [nev, nevA, nevB, Jo, PF.eval, PF.get, PF.wants, cPV, cCell, PV.rows, evBin, evUn, Jp, evLen, loadA, Jm, TyK.agg, partA, St.box?, St.tok?, St.setBox, St.setTok, fillO, spl, PV.ps, PV.one, Jn, aggD, slD, Jg, Jj, Jh, Ji, Jf, Je, *]; rfl) (hpx : px = .d (.v (.int .i64 z)) := by rfl) (hy : fr.eval y = some py := by simp [nev, nevA, nevB, Jo, PF.eval, PF.get, PF.wants, cPV, cCell, PV.rows, evBin, evUn, Jp, evLen, loadA, Jm, TyK.agg, partA, St.box?, St.tok?, St.setBox, St.setTok, fillO, spl, PV.ps, PV.one, Jn, aggD, slD, Jg, Jj, Jh, Ji, Jf, Je, *]; rfl) (hpy : py = .d (.v (.int .i64 v)) := by rfl) (hb : st.obj? i = some ok := by simp [St.obj?, *]; rfl) (hok : ok = MapO P k e N D := by rfl) (hs : st.setObj i (MapO P k e (N + 1) (D.put (.int .i64 z) (.lit (.int .i64 v)))) = st' := by simp [St.setObj, *]; rfl) : POps P n ops Q (⟨none, .mapUpdate t m x y, ty, pos, after, gd⟩ :: rest) fr st :=
  POps_e0 hw (POp_mapUpdate (o := ⟨none, .mapUpdate t m x y, ty, pos, after, gd⟩) rfl (hpm ▸ hm) (hpx ▸ hx) (hpy ▸ hy) (hok ▸ hb) ht hk he hn hkey hwf (by rw [hs]; exact h))
end
end Go.Proofs.Ytfnfbbmegdkhjaa

namespace Go.Proofs.Ytfnfbbmegdkhjaa
open Go.RowKit Go.ChangeMaps Go.MapKept Go.WideMaps
open Go.WideElems (Fit rd rg pl rd_val elemAt)
set_option linter.unusedVariables false
/-- how many keys a map of one's own has -/
theorem POp_lenMap {P : Program} {o : Oper} {ρ : Operand → Option PV} {st : St} {t k e : TypeId} {m : Operand} (ho : o.op = .call { callee := .builtin .len, args := #[m], argTypes := #[t] }) {i n : Nat} {D : DataW Unit} (hm : ρ m = some (.mp i)) (hb : st.obj? i = some (MapO P k e n D)) (ht : P.underlying t = some (.map k e)) :
    POp P o ρ st fun p s => p = .d (.v (.int .i64 (Maps.size D))) ∧ s = st := by
  refine POp.of_run fun F K w a h1 h2 => ?_
  obtain ⟨dst, op, ty, pos, after, guard⟩ := o
  simp only at ho h2
  subst ho
  have hr := h2 m (by simp [Op.operands, Call.operands]) _ hm
  generalize hvm : a.eval m = vm at hr
  cases hr with
  | mp hb' =>
  obtain ⟨b, ob, hk', hF, hh, hok⟩ := obj_open h1 hb
  rw [hk'] at hb'
  obtain rfl := Option.some.inj hb'
  refine ⟨.int .i64 (Maps.size D), w, K, _, st, ?_, Ext.refl _ _ _, h1, .d (.v trivial), rfl, rfl⟩
  have hl := (hok w b hh).len ht ty
  simp only [execOp, resolve, invoke, builtin, Sem.run_bind, Sem.run_pure, Result.andThen_ok, List.map_toArray, List.map_cons, List.map_nil, hvm]
  rw [hl]; rfl
section
variable {P : Program} {n : Nat} {ops : Array Oper} {Q : PF → St → Prop} {rest : List Oper} {fr : PF} {st : St} {ty : TypeId} {pos : String} {after : Array Edge} {gd : Option (Nat × Bool)} {d : Nat}
theorem POps_lenMap {t k e : TypeId} {m : Operand} {i N : Nat} {D : DataW Unit} {pm : PV} {ok : Obj → Prop} (z : Nat) (hz : Maps.size D = z)
    (h : POps P n ops Q rest ((d, .d (.v (.int .i64 z))) :: fr) st) (ht : P.underlying t = some (.map k e) := by rfl) (hd : d < n := by decide) (hw : PF.wants fr ops ⟨some d, .call { callee := .builtin .len, args := #[m], argTypes := #[t] }, ty, pos, after, gd⟩ = some true := by rfl) (hm : fr.eval m = some pm := by simp [nev, nevA, nevB, Jo, PF.eval, PF.get, PF.wants, cPV, cCell, PV.rows, evBin, evUn, Jp, evLen, loadA, Jm, TyK.agg, partA, St.box?, St.tok?, St.setBox, St.setTok, fillO, spl, PV.ps, PV.one, Jn, aggD, slD, Jg, Jj, Jh, Ji, Jf, Je, *]; rfl) (hpm : pm = .mp i := by rfl) (hb : st.obj? i = some ok := by simp [St.obj?, *]; rfl) (hok : ok = MapO P k e N D := by rfl) : POps P n ops Q (⟨some d, .call { callee := .builtin .len, args := #[m], argTypes := #[t] }, ty, pos, after, gd⟩ :: rest) fr st :=
  POps_e hd hw ((POp_lenMap (o := ⟨some d, .call { callee := .builtin .len, args := #[m], argTypes := #[t] }, ty, pos, after, gd⟩) rfl (hpm ▸ hm) (hok ▸ hb) ht).mono fun q s' ⟨e1, e2⟩ => by subst e1; subst e2; subst hz; exact h)
end
end Go.Proofs.Ytfnfbbmegdkhjaa

namespace Go.Proofs.Ytfnfbbmegdkhjaa
open Go.RowKit
set_option linter.unusedVariables false
/-- a slice held against nil: without elements it may be nil or not -/
theorem POp_eqlNil {P : Program} {o : Oper} {ρ : Operand → Option PV} {st : St} {R : PV → St → Prop} {t t2 : TypeId} {x : Operand} (ho : o.op = .binOp .eql t x (.const (.slice none 0 0)) t2) {rows : List (List D)} (hx : ρ x = some (.d (.sl rows))) {e : TypeId} (ht : P.underlying t = some (.slice e)) (h1 : rows = [] → R (.d (.v (.bool true))) st) (h2 : R (.d (.v (.bool false))) st) : POp P o ρ st R := by
  refine POp.of_run fun F K w a h1' h2' => ?_
  obtain ⟨dst, op, ty, pos, after, guard⟩ := o
  simp only at ho h2'
  subst ho
  have hr := h2' x (by simp [Op.operands]) _ hx
  generalize hvm : a.eval x = vm at hr
  obtain ⟨ad, n, c, rfl, hR⟩ : ∃ (ad : Option Addr) (n c : Nat), vm = .slice ad n c ∧ R (.d (.v (.bool ad.isNone))) st := by
    cases hr with
    | d hd => cases hd with
      | @nil ad cap hm =>
        refine ⟨ad, 0, cap, rfl, ?_⟩
        cases ad with
        | none => exact h1 rfl
        | some q => exact h2
      | sl vals h3 h4 h5 h6 h7 => exact ⟨_, _, _, rfl, h2⟩
  have hq := Lib.run_eql_slice_nil (P := P) w t e ad n c 0 0 ht
  refine ⟨.bool ad.isNone, w, K, _, st, ?_, Ext.refl _ _ _, h1', .d (.v trivial), hR⟩
  have hg : (eqGuard BinOp.eql t x (.const (.slice none 0 0)) (.slice ad n c) (.slice none 0 0)).run P w = .ok () w := by rfl
  have he : a.eval (.const (.slice none 0 0)) = .slice none 0 0 := rfl
  simp only [execOp, hvm, he, Sem.run_bind, Sem.run_pure, hg, Result.andThen_ok, hq]
section
variable {P : Program} {n : Nat} {ops : Array Oper} {Q : PF → St → Prop} {rest : List Oper} {fr : PF} {st : St} {ty : TypeId} {pos : String} {after : Array Edge} {gd : Option (Nat × Bool)} {d : Nat}
theorem POps_eqlNil {t t2 e : TypeId} {x : Operand} {rows : List (List D)} {p : PV} (h1 : rows = [] → POps P n ops Q rest ((d, .d (.v (.bool true))) :: fr) st) (h2 : POps P n ops Q rest ((d, .d (.v (.bool false))) :: fr) st) (ht : P.underlying t = some (.slice e) := by rfl) (hd : d < n := by decide)
    (hw : PF.wants fr ops ⟨some d, .binOp .eql t x (.const (.slice none 0 0)) t2, ty, pos, after, gd⟩ = some true := by rfl) (hx : fr.eval x = some p := by simp [nev, nevA, nevB, Jo, PF.eval, PF.get, PF.wants, cPV, cCell, PV.rows, evBin, evUn, Jp, evLen, loadA, Jm, TyK.agg, partA, St.box?, St.tok?, St.setBox, St.setTok, fillO, spl, PV.ps, PV.one, Jn, aggD, slD, Jg, Jj, Jh, Ji, Jf, Je, *]; rfl) (hp : p = .d (.sl rows) := by rfl) : POps P n ops Q (⟨some d, .binOp .eql t x (.const (.slice none 0 0)) t2, ty, pos, after, gd⟩ :: rest) fr st :=
  POps_e hd hw (POp_eqlNil (o := ⟨some d, .binOp .eql t x (.const (.slice none 0 0)) t2, ty, pos, after, gd⟩) rfl (hp ▸ hx) ht h1 h2)
end
section
variable {P : Program} {n : Nat} {ops : Array Oper} {Q : PF → St → Prop} {rest : List Oper} {fr : PF} {st : St} {ty : TypeId} {pos : String} {after : Array Edge} {gd : Option (Nat × Bool)} {d f : Nat} {xs : Array Operand} {ts : Array TypeId} {ps : List PV} {R : PV → St → Prop}
end
end Go.Proofs.Ytfnfbbmegdkhjaa

namespace Go.Proofs.Ytfnfbbmegdkhjaa
open Go.RowKit
section
variable {P : Program} {n : Nat} {fr fi : PF} {st si : St}
theorem PW.weak {c : Code} {Q : Exit → PF → St → Prop} (h : PW P n c Q fi si) (hf : ∀ t p, fi.get t = some p → fr.get t = some p) (hs : si.Sublist st) : PW P n c Q fr st :=
  fun F K w a h1 h2 => h F K w a (h1.sub hs) (h2.weak hf)
/-- the ways through an 'if' meet again: what follows is walked once -/
theorem PW_cut2 {c1 c2 rest : Code} {Q1 Q2 QR : Exit → PF → St → Prop} (fi : PF) (si : St) (k : PW P n rest QR fi si)
    (h : PW P n c1 (thenP (PW P n c2 (thenP (fun fr' st' => (∀ t p, fi.get t = some p → fr'.get t = some p) ∧ si.Sublist st') Q2)) Q1) fr st) : PW P n c1 (thenP (PW P n c2 (thenP (PW P n rest QR) Q2)) Q1) fr st := by
  refine h.mono fun e fr1 st1 h1 => ?_
  cases e with
  | normal =>
    refine PW.mono (h1 : PW P n c2 _ fr1 st1) fun e2 fr2 st2 h2 => ?_
    cases e2 with
    | normal => exact k.weak h2.1 h2.2
    | _ => exact h2
  | _ => exact h1
end
end Go.Proofs.Ytfnfbbmegdkhjaa

namespace Go.Proofs.Ytfnfbbmegdkhjaa
open Go.RowKit
set_option linter.unusedVariables false
/-- rows that lie in a variable's cells -/
structure InBox (cs : List PV) (rows : List (List D)) (sz : Nat) : Prop where
  pos : 0 < sz
  len : ∀ row ∈ rows, row.length = sz
  at_ : ∀ (r j : Nat) (row : List D) (d : D), rows[r]? = some row → row[j]? = some d → cs[r * sz + j]? = some (.d d)
theorem InBox.le {cs : List PV} {rows : List (List D)} {sz : Nat} (h : InBox cs rows sz) : rows.length * sz ≤ cs.length := by
  by_cases h0 : rows.length = 0
  · rw [h0]; omega
  · have hl : rows.length - 1 < rows.length := by omega
    have hr := List.getElem?_eq_getElem hl
    have hz := h.len _ (List.getElem_mem hl)
    have hp := h.pos
    have hj : sz - 1 < (rows[rows.length - 1]).length := by omega
    have := h.at_ _ (sz - 1) _ _ hr (List.getElem?_eq_getElem hj)
    have h2 := (List.getElem?_eq_some_iff.1 this).1
    have h3 : (rows.length - 1) * sz + sz = rows.length * sz := by
      rw [← Nat.succ_mul, Nat.succ_eq_add_one, Nat.sub_add_cancel (by omega)]
    omega
/-- a slice of one's own that may be written, told as data for one call with a flat answer -/
theorem PCalls.frz {P : Program} {f : FuncId} {pre post : List PV} {rows : List (List D)} {x : Value} {i n c sz : Nat} {T : TypeId} {cs : List PV} (hx : okv x) (hin : InBox cs rows sz) (hn : n = rows.length)
    (h : PCalls P f (pre ++ .d (.sl rows) :: post) [] fun p s => p = .d (.v x) ∧ s = []) : PCalls P f (pre ++ .bsl i n c :: post) [.box i T cs] fun p s => p = .d (.v x) ∧ s = [.box i T cs] := by
  subst hn
  intro F K w vs hr ha
  obtain ⟨b, arr, hk, hF, hh, hsz, hrel, hnk⟩ := hr.ents (.box i T cs) (by simp)
  have hle := hin.le
  have hext : Ext F K w ⟨fun b' o => K.cell b' o ∨ (b' = b ∧ o < rows.length * sz), K.box, K.own⟩ w := ⟨rfl, rfl, rfl, Nat.le_refl _, fun _ _ => rfl, fun b' o h => ⟨.inl h, rfl⟩, fun b' o h => h.elim .inl fun h => .inr (by rw [h.1]; exact hF), fun _ _ h => h, fun g u h => ⟨u, h, .inl rfl⟩, fun _ _ => rfl⟩
  have hr1 : Rel ⟨fun b' => F.blk b' ∨ b' = b, F.id⟩ [] ⟨fun b' o => K.cell b' o ∨ (b' = b ∧ o < rows.length * sz), K.box, K.own⟩ w := by
    refine ⟨fun b' o hc => ?_, fun b' hb => ?_, hr.fin, hr.fi, fun e he => (by cases he), by simp, by simp⟩
    · rcases hc with hc | ⟨rfl, ho⟩
      · exact hr.kc b' o hc
      · exact ⟨arr[o]'(by omega), by rw [cell_at hh]; exact Array.getElem?_eq_getElem (by omega)⟩
    · rcases hb with hb | rfl
      · exact hr.ff b' hb
      · exact (Array.getElem?_eq_some_iff.1 hh).1
  have ha1 : RelVs ⟨fun b' o => K.cell b' o ∨ (b' = b ∧ o < rows.length * sz), K.box, K.own⟩ w (pre ++ .d (.sl rows) :: post) vs := by
    refine ⟨by rw [ha.1]; simp, fun j p v hp hv => ?_⟩
    by_cases hj : j = pre.length
    · subst hj
      rw [List.getElem?_append_right (Nat.le_refl _), Nat.sub_self] at hp
      cases hp
      have hb := ha.2 pre.length (.bsl i rows.length c) v (by rw [List.getElem?_append_right (Nat.le_refl _), Nat.sub_self]; rfl) hv
      cases hb with
      | @bsl _ _ _ b' hb' h1 h2 =>
      rw [hk] at hb'
      obtain rfl := Option.some.inj hb'
      refine .d (.sl (sz := sz) (fun r j => (arr[r * sz + j]?).getD (.bool false)) h1 h2 hin.len (fun r j row d hi hj => ?_) fun r j row d hi hj => ?_)
      · have hlt := (List.getElem?_eq_some_iff.1 (hin.at_ r j row d hi hj)).1
        have hrl := (List.getElem?_eq_some_iff.1 hi).1
        have hjl := (List.getElem?_eq_some_iff.1 hj).1
        have hrow := hin.len row (List.mem_of_getElem? hi)
        refine ⟨.inr ⟨rfl, ?_⟩, ?_⟩
        · have : (r + 1) * sz ≤ rows.length * sz := Nat.mul_le_mul_right _ (by omega)
          rw [Nat.succ_mul] at this
          omega
        · rw [cell_at hh, Nat.zero_add, Array.getElem?_eq_getElem (by omega)]; rfl
      · have hat := hin.at_ r j row d hi hj
        have hlt := (List.getElem?_eq_some_iff.1 hat).1
        have := hrel (r * sz + j) (.d d) (arr[r * sz + j]'(by omega)) hat (Array.getElem?_eq_getElem (by omega))
        rw [Array.getElem?_eq_getElem (by omega)]
        cases this.mono hext with
        | d h => exact h
    · have : (pre ++ .bsl i rows.length c :: post)[j]? = some p := by
        by_cases hlt : j < pre.length
        · rw [List.getElem?_append_left hlt] at hp ⊢; exact hp
        · rw [List.getElem?_append_right (by omega)] at hp ⊢
          obtain ⟨m, hm⟩ : ∃ m, j - pre.length = m + 1 := ⟨j - pre.length - 1, by omega⟩
          rw [hm] at hp ⊢
          exact hp
      exact (ha.2 j p v this hv).mono hext
  refine (h _ _ w vs hr1 ha1).mono ?_
  rintro e w' ⟨v, K', p, s, rfl, hx1, hr', hv, rfl, rfl⟩
  have hx2 : Ext F K w ⟨fun b' o => K'.cell b' o ∧ b' ≠ b, K'.box, K'.own⟩ w' := by
    refine ⟨hx1.os, hx1.tape, hx1.output, hx1.size, fun b' hb => hx1.hp b' (.inl hb), fun b' o hc => ?_, fun b' o hc => ?_, hx1.kb, hx1.ko, hx1.kf⟩
    · obtain ⟨h1, h2⟩ := hx1.kp b' o (.inl hc)
      exact ⟨⟨h1, fun e => hnk o (e ▸ hc)⟩, h2⟩
    · rcases hx1.nk b' o hc.1 with (h1 | h1) | h1
      · exact .inl h1
      · exact absurd h1.1 hc.2
      · exact .inr fun hf => h1 (.inl hf)
  cases hv with
  | d hv => cases hv with
    | v hok =>
    refine ⟨x, _, _, [.box i T cs], rfl, hx2, ⟨fun b' o hc => hr'.kc b' o hc.1, fun b' hb => by have := hr.ff b' hb; have := hx1.size; omega, hr'.fin, hr'.fi, fun e he => ?_, ?_, (List.nodup_nil : ([] : List Nat).Nodup)⟩, .d (.v hok), rfl, rfl⟩
    rotate_left
    · have hkb : K'.box i = some b := hx1.kb i b hk
      simp only [List.filterMap_cons, List.filterMap_nil, Ent.block, hkb]
      simp
    obtain rfl := List.mem_singleton.1 he
    exact ⟨b, arr, hx1.kb i b hk, hF, (hx1.hp b (.inr rfl)).trans hh, hsz, fun j p v hp hv => (hrel j p v hp hv).mono hx2, fun o hc => hc.2 rfl⟩
end Go.Proofs.Ytfnfbbmegdkhjaa

namespace Go.Proofs.Ytfnfbbmegdkhjaa
open Go.RowKit
set_option linter.unusedVariables false
set_option linter.unusedSimpArgs false
section
variable {P : Program} {J : St → Prop} {n : Nat} {ops : Array Oper} {Q : PF → St → Prop} {rest : List Oper} {fr : PF} {st L M st0 : St} {p : PV} {ty : TypeId} {pos : String} {after : Array Edge} {gd : Option (Nat × Bool)} {d f j : Nat} {xs : Array Operand} {ts : Array TypeId} {ps qs first cap : List PV} {R : PV → St → Prop}
/-- a function value: a function with its first arguments, and what it took along -/
theorem POp_makeFunc2 {o : Oper} {ρ : Operand → Option PV} {fn : Fn} {fs gs : Array Operand} (ho : o.op = .makeFunc fn fs gs) (hf : Jn ρ fs.toList = some ps) (hg : Jn ρ gs.toList = some qs) (st : St) : POp P o ρ st fun q s => q = .fn fn ps qs ∧ s = st := by
  refine POp.of_run fun F K w a h1 h2 => ?_
  obtain ⟨dst, op, ty, pos, after, guard⟩ := o
  simp only at ho h2
  subst ho
  have hr := evalArgs_rel (K := K) (w := w) (ev := a.eval) (xs := fs.toList) (fun x hx q hq => h2 x (by simp only [Op.operands]; exact Array.mem_append.2 (.inl (Array.mem_def.2 hx))) q hq) hf
  have hr2 := evalArgs_rel (K := K) (w := w) (ev := a.eval) (xs := gs.toList) (fun x hx q hq => h2 x (by simp only [Op.operands]; exact Array.mem_append.2 (.inr (Array.mem_def.2 hx))) q hq) hg
  refine ⟨.func fn (fs.map a.eval) (gs.map a.eval), w, K, _, st, ?_, Ext.refl _ _ _, h1, .fn ?_ ?_ ?_ ?_, rfl, rfl⟩
  · simp [execOp, Instr.makeFunc, Sem.run_bind, Sem.run_pure, Result.andThen]
  · have := hr.1
    simpa using this
  · have := hr2.1
    simpa using this
  · intro i q v hq hv
    refine hr.2 i q v hq ?_
    rw [← Array.toList_map, Array.getElem?_toList]
    exact hv
  · intro i q v hq hv
    refine hr2.2 i q v hq ?_
    rw [← Array.toList_map, Array.getElem?_toList]
    exact hv
theorem POps_makeFunc2 {fn : Fn} {fs gs : Array Operand} (h : POps P n ops Q rest ((d, .fn fn ps qs) :: fr) st) (hd : d < n := by decide)
    (hw : PF.wants fr ops ⟨some d, .makeFunc fn fs gs, ty, pos, after, gd⟩ = some true := by rfl) (hf : Jn fr.eval fs.toList = some ps := by simp [nev, nevA, nevB, Jo, PF.eval, PF.get, PF.wants, cPV, cCell, PV.rows, evBin, evUn, Jp, evLen, loadA, Jm, TyK.agg, partA, St.box?, St.tok?, St.setBox, St.setTok, fillO, spl, PV.ps, PV.one, Jn, aggD, slD, Jg, Jj, Jh, Ji, Jf, Je, *]; rfl) (hg : Jn fr.eval gs.toList = some qs := by simp [nev, nevA, nevB, Jo, PF.eval, PF.get, PF.wants, cPV, cCell, PV.rows, evBin, evUn, Jp, evLen, loadA, Jm, TyK.agg, partA, St.box?, St.tok?, St.setBox, St.setTok, fillO, spl, PV.ps, PV.one, Jn, aggD, slD, Jg, Jj, Jh, Ji, Jf, Je, *]; rfl) : POps P n ops Q (⟨some d, .makeFunc fn fs gs, ty, pos, after, gd⟩ :: rest) fr st :=
  POps_e hd hw ((POp_makeFunc2 (o := ⟨some d, .makeFunc fn fs gs, ty, pos, after, gd⟩) rfl hf hg st).mono fun q s ⟨e1, e2⟩ => by subst e1; subst e2; exact h)
/-- a call of a function value that took something along, and that has some of one's variables -/
theorem op_callC {o : Oper} {ρ : Operand → Option PV} {R' : PV → St → Prop} {fo : Operand} {q : PV} (k m : Nat) (ho : o.op = .call { callee := .value fo, args := xs, argTypes := ts }) (hq : ρ fo = some q) (hqf : q = .fn (.func f) first cap) (hc : PCalls P f qs st0 R) (hL : st.take k = L) (h0 : (st.drop k).take m = st0) (hM : (st.drop k).drop m = M) (hxs : Jn ρ xs.toList = some ps) (hn : (first ++ ps ++ cap).map PV.norm1 = qs) (hca : callable P f = true)
    (h : ∀ p s, R p s → R' p (L ++ (s ++ M))) : POp P o ρ st R' := by
  subst hqf
  have hst : st = L ++ (st0 ++ M) := by rw [← hL, ← h0, ← hM, List.take_append_drop, List.take_append_drop]
  subst hst
  have hperm : (L ++ (st0 ++ M)).Perm (st0 ++ (L ++ M)) := by
    rw [← List.append_assoc, ← List.append_assoc]
    exact List.Perm.append_right _ List.perm_append_comm
  refine POp.permOut' (R := fun p s => ∃ s', R p s' ∧ s = s' ++ (L ++ M)) (POp_call (st0 := st0) (st1 := L ++ M) (first := first) (cap := cap) ho hq hxs hca hperm (R0 := R) ?_ ?_) ?_
  · rw [← hn] at hc
    exact hc.args_norm
  · intro p s0 hr
    exact ⟨s0, hr, rfl⟩
  · rintro p s ⟨s', hr, rfl⟩
    refine ⟨_, ?_, h p s' hr⟩
    rw [← List.append_assoc, ← List.append_assoc]
    exact List.Perm.append_right _ List.perm_append_comm
theorem POps_callC {fo : Operand} {q : PV} (k m : Nat) (hc : PCalls P f qs st0 R) (h : ∀ p s, R p s → POps P n ops Q rest ((d, p) :: fr) (L ++ (s ++ M))) (hca : callable P f = true)
    (hL : st.take k = L := by simp only [List.cons_append, List.nil_append, List.take_succ_cons, List.take_zero]; rfl)
    (h0 : (st.drop k).take m = st0 := by rfl)
    (hM : (st.drop k).drop m = M := by simp only [List.cons_append, List.nil_append, List.drop_succ_cons, List.drop_zero, List.drop_nil]; rfl)
    (hd : d < n := by decide)
    (hw : PF.wants fr ops ⟨some d, .call { callee := .value fo, args := xs, argTypes := ts }, ty, pos, after, gd⟩ = some true := by first | (simp [nev, nevA, nevB, Jo, PF.eval, PF.get, PF.wants, cPV, cCell, PV.rows, evBin, evUn, Jp, evLen, loadA, Jm, TyK.agg, partA, St.box?, St.tok?, St.setBox, St.setTok, fillO, spl, PV.ps, PV.one, Jn, aggD, slD, Jg, Jj, Jh, Ji, Jf, Je, *]; done) | fail)
    (hq : fr.eval fo = some q := by simp [nev, nevA, nevB, Jo, PF.eval, PF.get, PF.wants, cPV, cCell, PV.rows, evBin, evUn, Jp, evLen, loadA, Jm, TyK.agg, partA, St.box?, St.tok?, St.setBox, St.setTok, fillO, spl, PV.ps, PV.one, Jn, aggD, slD, Jg, Jj, Jh, Ji, Jf, Je, *]; rfl) (hqf : q = .fn (.func f) first cap := by rfl)
    (hxs : Jn fr.eval xs.toList = some ps := by simp [nev, nevA, nevB, Jo, PF.eval, PF.get, PF.wants, cPV, cCell, PV.rows, evBin, evUn, Jp, evLen, loadA, Jm, TyK.agg, partA, St.box?, St.tok?, St.setBox, St.setTok, fillO, spl, PV.ps, PV.one, Jn, aggD, slD, Jg, Jj, Jh, Ji, Jf, Je, *]; rfl)
    (hn : (first ++ ps ++ cap).map PV.norm1 = qs := by first | (simp [PV.norm1, PV.norm0, aggD, slD, Jg, Jj, Jh, Ji, Jf]; done) | fail) : POps P n ops Q (⟨some d, .call { callee := .value fo, args := xs, argTypes := ts }, ty, pos, after, gd⟩ :: rest) fr st :=
  POps_e hd hw (op_callC k m rfl hq hqf hc hL h0 hM hxs hn hca h)
end
end Go.Proofs.Ytfnfbbmegdkhjaa

namespace Go.Proofs.Ytfnfbbmegdkhjaa
open Go.RowKit
set_option linter.unusedVariables false
theorem relD_ok {K : Nat → Nat → Prop} {w : World} {d : D} {v : Value} (h : RelD K w d v) : okv v := by
  cases h with
  | v h => exact h
  | nil _ => trivial
  | sl _ _ _ _ _ _ => trivial
/-- rows, one behind the other -/
theorem flat_row {α : Type} {sz : Nat} : ∀ (rows : List (List α)) (r j : Nat) (row : List α) (d : α), (∀ row ∈ rows, row.length = sz) → rows[r]? = some row → row[j]? = some d → rows.flatten[r * sz + j]? = some d := by
  intro rows
  induction rows with
  | nil => intro r j row d _ h; simp at h
  | cons x rest ih =>
    intro r j row d hl h hd
    have hx := hl x (by simp)
    rw [List.flatten_cons]
    cases r with
    | zero =>
      simp only [List.getElem?_cons_zero, Option.some.injEq] at h
      subst h
      rw [Nat.zero_mul, Nat.zero_add, List.getElem?_append_left (List.getElem?_eq_some_iff.1 hd).1]
      exact hd
    | succ r =>
      simp only [List.getElem?_cons_succ] at h
      rw [Nat.succ_mul, List.getElem?_append_right (by omega), hx, show r * sz + sz + j - sz = r * sz + j by omega]
      exact ih r j row d (fun y hy => hl y (by simp [hy])) h hd
theorem flat_len {α : Type} {sz : Nat} : ∀ (rows : List (List α)), (∀ row ∈ rows, row.length = sz) → rows.flatten.length = rows.length * sz := by
  intro rows
  induction rows with
  | nil => intro _; simp
  | cons x rest ih =>
    intro hl
    rw [List.flatten_cons, List.length_append, ih (fun y hy => hl y (by simp [hy])), hl x (by simp), List.length_cons, Nat.succ_mul]
    omega
/-- the cells of rows of one's own, and of the room behind -/
def boxC (rows : List (List D)) (sz c : Nat) : List PV := rows.flatten.map .d ++ List.replicate (c * sz - rows.length * sz) .u
theorem boxC_len {rows : List (List D)} {sz c : Nat} (hl : ∀ row ∈ rows, row.length = sz) (hc : rows.length ≤ c) : (boxC rows sz c).length = c * sz := by
  unfold boxC
  have : rows.length * sz ≤ c * sz := Nat.mul_le_mul_right _ hc
  rw [List.length_append, List.length_map, List.length_replicate, flat_len rows hl]
  omega
theorem boxC_in {rows : List (List D)} {sz c : Nat} (hp : 0 < sz) (hl : ∀ row ∈ rows, row.length = sz) : InBox (boxC rows sz c) rows sz := by
  refine ⟨hp, hl, fun r j row d hr hd => ?_⟩
  have h := flat_row rows r j row d hl hr hd
  unfold boxC
  rw [List.getElem?_append_left (by rw [List.length_map]; exact (List.getElem?_eq_some_iff.1 h).1), List.getElem?_map, h]; rfl
/-- a block that nobody has told of becomes a variable of one's own -/
theorem Rel.adopt {F : Fz} {K : Kp} {w : World} (h : Rel F [] K w) {arr : Array Value} {T : TypeId} {ps : List PV} {b : Nat} (hb : w.heap[b]? = some (.cells arr T)) (hF : ¬ F.blk b) (hK : ∀ o, ¬ K.cell b o) (hs : arr.size = ps.length) (hc : ∀ (j : Nat) (p : PV) (v : Value), ps[j]? = some p → arr[j]? = some v → RelV K w p v) :
    ∃ i, Ext F K w (K.addBox i b) w ∧ Rel F [.box i T ps] (K.addBox i b) w := by
  obtain ⟨nx, hnx⟩ := h.fin
  have hnone : K.box nx = none := (hnx nx (Nat.le_refl _)).1
  have hkb : ∀ j b', K.box j = some b' → (K.addBox nx b).box j = some b' := fun j b' hj => by
    simp only [Kp.addBox]
    rw [if_neg (by intro e; subst e; rw [hnone] at hj; cases hj)]; exact hj
  have hx : Ext F K w (K.addBox nx b) w := ⟨rfl, rfl, rfl, Nat.le_refl _, fun _ _ => rfl, fun b o h => ⟨h, rfl⟩, fun b o h => .inl h, hkb, fun g u h => ⟨u, h, .inl rfl⟩, fun _ _ => rfl⟩
  refine ⟨nx, hx, ⟨fun b o hc => h.kc b o hc, h.ff, ⟨nx + 1, fun j hj => ?_⟩, h.fi, fun e he => ?_, ?_, ?_⟩⟩
  · simp only [Kp.addBox]
    rw [if_neg (by omega)]
    exact hnx j (by omega)
  · obtain rfl := List.mem_singleton.1 he
    exact ⟨b, arr, by simp [Kp.addBox], hF, hb, hs, fun j p v hp hv => (hc j p v hp hv).mono hx, hK⟩
  · simp [Ent.block, Kp.addBox]
  · exact (List.nodup_nil : ([] : List Nat).Nodup)
/-- a function that copies rows as they are: its answer is a row of one's own that may be written -/
theorem PCalls.boxed {P : Program} {f : FuncId} {E : TypeId} {sz : Nat} {rows : List (List D)} (hsz : 0 < sz) (hne : 0 < rows.length) (hl : ∀ row ∈ rows, row.length = sz)
    (h : ∀ rows' : List (List D), (∀ row ∈ rows', row.length = sz) → rows'.length = rows.length → PCalls P f [.d (.sl rows')] [] fun p s => ∃ g, p = .own g rows' ∧ s = [.tok g E sz rows'.length]) :
    PCalls P f [.d (.sl rows)] [] fun p s => ∃ i c, rows.length ≤ c ∧ c ≤ maxLen ∧ p = .bsl i rows.length c ∧ s = [.box i E (boxC rows sz c)] := by
  intro F K w vs hr ha
  obtain ⟨v, rfl, hv⟩ := ha.one
  cases hv with
  | d hv =>
  generalize hrr : rows = rows0 at hv
  cases hv with
  | nil _ => subst hrr; exact absurd hne (by decide)
  | @sl sz0 _ b0 off0 cap0 vals h1 h2 h3 h4 h5 =>
  subst hrr
  have hszz : sz0 = sz := by
    have hm := List.getElem_mem hne
    rw [← h3 _ hm, hl _ hm]
  subst hszz
  obtain ⟨rows', hrows'⟩ : ∃ rows' : List (List D), rows' = (List.range rows.length).map fun i => (List.range sz0).map fun j => D.v (vals i j) := ⟨_, rfl⟩
  have hlen' : rows'.length = rows.length := by rw [hrows']; simp
  have hl' : ∀ row ∈ rows', row.length = sz0 := by
    intro row hrow
    rw [hrows'] at hrow
    obtain ⟨i, _, rfl⟩ := List.mem_map.1 hrow
    simp
  have hget' : ∀ i j, i < rows.length → j < sz0 → ∃ row, rows'[i]? = some row ∧ row[j]? = some (D.v (vals i j)) := by
    intro i j hi hj
    refine ⟨(List.range sz0).map fun j => D.v (vals i j), ?_, ?_⟩
    · rw [hrows', List.getElem?_map, List.getElem?_range hi]; rfl
    · rw [List.getElem?_map, List.getElem?_range hj]; rfl
  have hget : ∀ i j, i < rows.length → j < sz0 → ∃ row d, rows[i]? = some row ∧ row[j]? = some d := by
    intro i j hi hj
    have e := hl _ (List.getElem_mem hi)
    exact ⟨rows[i], rows[i][j]'(by omega), List.getElem?_eq_getElem hi, List.getElem?_eq_getElem (by omega)⟩
  have hbk : ∀ i j, i < rows.length → j < sz0 → ∀ row d, rows'[i]? = some row → row[j]? = some d → d = D.v (vals i j) := by
    intro i j hi hj row d h6 h7
    obtain ⟨row2, h8, h9⟩ := hget' i j hi hj
    rw [h8] at h6
    obtain rfl := Option.some.inj h6
    rw [h9] at h7
    exact (Option.some.inj h7).symm
  have harg : RelVs (K0 w) w [.d (.sl rows')] #[.slice (some ⟨b0, off0, none⟩) rows.length cap0] := by
    refine relVs_cons (.d ?_) (relVs_nil _ _)
    rw [← hlen']
    refine .sl (sz := sz0) vals (by omega) h2 hl' (fun i j row d hi hj => ?_) fun i j row d hi hj => ?_
    · have e1 := (List.getElem?_eq_some_iff.1 hi).1
      have e2 := (List.getElem?_eq_some_iff.1 hj).1
      rw [hl' _ (List.mem_of_getElem? hi)] at e2
      rw [hlen'] at e1
      obtain ⟨row2, d2, h6, h7⟩ := hget i j e1 e2
      obtain ⟨-, h8⟩ := h4 i j row2 d2 h6 h7
      exact ⟨⟨_, h8⟩, h8⟩
    · have e1 := (List.getElem?_eq_some_iff.1 hi).1
      have e2 := (List.getElem?_eq_some_iff.1 hj).1
      rw [hl' _ (List.mem_of_getElem? hi)] at e2
      rw [hlen'] at e1
      rw [hbk i j e1 e2 row d hi hj]
      obtain ⟨row2, d2, h6, h7⟩ := hget i j e1 e2
      exact .v (relD_ok (h5 i j row2 d2 h6 h7))
  refine (h rows' hl' hlen' (F0 w) (K0 w) w _ (rel0 w) harg).mono ?_
  rintro e w' ⟨v', K1, p, s, rfl, hx, hr1, hv1, g, rfl, rfl⟩
  obtain ⟨u, xs, hu, hnf, hsl, how, hblk⟩ := hr1.ents (.tok g E sz0 rows'.length) (by simp)
  cases hv1 with
  | @own _ _ _ u' hd hu' hle heq =>
  rw [hu] at hu'
  obtain rfl := Option.some.inj hu'
  have hvu : v' = u := heq hsl.symm
  subst hvu
  have hbel : Below w.heap.size w w' := ⟨hx.os, hx.tape, hx.output, hx.size, fun k hk => hx.hp k hk⟩
  rcases how.2 with ⟨e1, e2⟩ | ⟨bb, cap, cur, e1, -, e3, e4, e5, e6, e7⟩
  · rw [e1] at hsl
    simp [slen] at hsl
    omega
  subst e1
  obtain ⟨hnew, -⟩ := hblk bb rfl
  have hge : w.heap.size ≤ bb := by
    rcases Nat.lt_or_ge bb w.heap.size with h6 | h6
    · exact absurd h6 hnew
    · exact h6
  have hxt : Ext F K w K w' := ext_below hbel hr.ff (fun b o h => hr.klt h) (fun _ _ h => h) (fun _ _ h => .inl h) rfl rfl
  have hr2 : Rel F [] K w' := ⟨fun b o hc => by
    obtain ⟨v, hv⟩ := hr.kc b o hc
    exact ⟨v, (hxt.kp b o hc).2.trans hv⟩, fun b hf => by have := hr.ff b hf; have := hbel.size; omega, hr.fin, hr.fi, fun e he => (by cases he), by simp, by simp⟩
  have hcl : rows.length ≤ cap := by rw [← hlen']; exact e4
  have hcell : ∀ i j, i < rows.length → j < sz0 → cur[i * sz0 + j]? = some (vals i j) := by
    intro i j hi hj
    obtain ⟨row2, h8, h9⟩ := hget' i j hi hj
    generalize hrr : rows' = rs at hd h8
    cases hd with
    | nil _ => simp at h8
    | @sl sz1 _ _ _ _ vals1 g1 g2 g3 g4 g5 =>
    have hs1 : sz1 = sz0 := by
      have hm := List.mem_of_getElem? h8
      rw [← g3 _ hm, hl' _ (hrr ▸ hm)]
    subst hs1
    have h10 := (g4 i j row2 _ h8 h9).2
    have h11 := g5 i j row2 _ h8 h9
    rw [cell_at e3, Nat.zero_add] at h10
    rw [h10]
    generalize vals1 i j = y at h11
    cases h11; rfl
  obtain ⟨i, hx3, hr3⟩ := hr2.adopt (T := E) (ps := boxC rows sz0 cap) e3 (fun hf => by have := hr.ff _ hf; omega) (fun o hc => by have := hr.klt hc; omega) (by rw [e6, boxC_len hl hcl]) fun j p v hp hv => by
    unfold boxC at hp
    by_cases hj : j < rows.flatten.length
    · rw [List.getElem?_append_left (by rw [List.length_map]; exact hj), List.getElem?_map, List.getElem?_eq_getElem hj] at hp
      obtain rfl := Option.some.inj hp
      have hfl := flat_len rows hl
      have hpos : 0 < sz0 := hsz
      have hi : j / sz0 < rows.length := by rw [hfl] at hj; exact (Nat.div_lt_iff_lt_mul hpos).2 hj
      have hjm := Nat.mod_lt j hpos
      have hdm : j / sz0 * sz0 + j % sz0 = j := by rw [Nat.mul_comm]; exact Nat.div_add_mod j sz0
      obtain ⟨row, d, h6, h7⟩ := hget (j / sz0) (j % sz0) hi hjm
      have h8 := flat_row rows (j / sz0) (j % sz0) row d hl h6 h7
      rw [hdm, List.getElem?_eq_getElem hj] at h8
      rw [Option.some.inj h8]
      have h9 := hcell (j / sz0) (j % sz0) hi hjm
      rw [hdm, hv] at h9
      rw [Option.some.inj h9]
      exact .d ((h5 _ _ row d h6 h7).mono hxt.kp)
    · rw [List.getElem?_append_right (by rw [List.length_map]; omega)] at hp
      have := List.mem_of_getElem? hp
      rw [List.mem_replicate] at this
      rw [this.2]
      exact .u
  exact ⟨_, _, .bsl i rows'.length cap, _, rfl, hxt.trans hx3, hr3, .bsl (by simp [Kp.addBox]) e4 e5, i, cap, hcl, e5, by rw [hlen'], rfl⟩
/-- cells, overwritten -/
def putA : Array Value → Nat → List Value → Array Value
  | a, _, [] => a
  | a, o, v :: r => putA (a.setIfInBounds o v) (o + 1) r
theorem putA_size : ∀ (vs : List Value) (a : Array Value) (o : Nat), (putA a o vs).size = a.size := by
  intro vs
  induction vs with
  | nil => intro a o; rfl
  | cons v r ih => intro a o; rw [putA, ih]; simp
theorem putA_out : ∀ (vs : List Value) (a : Array Value) (o k : Nat), k < o ∨ o + vs.length ≤ k → (putA a o vs)[k]? = a[k]? := by
  intro vs
  induction vs with
  | nil => intro a o k _; rfl
  | cons v r ih =>
    intro a o k h
    rw [List.length_cons] at h
    rw [putA, ih _ _ _ (by omega), Array.getElem?_setIfInBounds_ne (by omega)]
theorem putA_in : ∀ (vs : List Value) (a : Array Value) (o k : Nat), o + vs.length ≤ a.size → k < vs.length → (putA a o vs)[o + k]? = vs[k]? := by
  intro vs
  induction vs with
  | nil => intro a o k _ h; simp at h
  | cons v r ih =>
    intro a o k h hk
    rw [List.length_cons] at h hk
    rw [putA]
    cases k with
    | zero =>
      rw [putA_out _ _ _ _ (by omega), Nat.add_zero, Array.getElem?_setIfInBounds_self_of_lt (by omega)]; rfl
    | succ k =>
      rw [show o + (k + 1) = o + 1 + k by omega, ih _ _ _ (by simp; omega) (by omega)]; rfl
theorem setCells_block {b : Nat} {T : TypeId} {fr : Nat × Nat} : ∀ (vs : List Value) (o : Nat) (w : World) (arr : Array Value), w.heap[b]? = some (.cells arr T fr) → (w.setCells b o vs).heap[b]? = some (.cells (putA arr o vs) T fr) := by
  intro vs
  induction vs with
  | nil => intro o w arr h; exact h
  | cons v r ih =>
    intro o w arr h
    rw [World.setCells, putA]
    refine ih _ _ _ ?_
    unfold World.setCell
    simp [Array.getElem?_modify, h]
theorem setCells_other {b k : Nat} (hk : k ≠ b) : ∀ (vs : List Value) (o : Nat) (w : World), (w.setCells b o vs).heap[k]? = w.heap[k]? := by
  intro vs
  induction vs with
  | nil => intro o w; rfl
  | cons v r ih =>
    intro o w
    rw [World.setCells, ih]
    unfold World.setCell
    simp [Array.getElem?_modify, Ne.symm hk]
theorem setCells_rest {b : Nat} : ∀ (vs : List Value) (o : Nat) (w : World), (w.setCells b o vs).os = w.os ∧ (w.setCells b o vs).tape = w.tape ∧ (w.setCells b o vs).output = w.output ∧ (w.setCells b o vs).heap.size = w.heap.size := by
  intro vs
  induction vs with
  | nil => intro o w; exact ⟨rfl, rfl, rfl, rfl⟩
  | cons v r ih =>
    intro o w
    rw [World.setCells]
    obtain ⟨h1, h2, h3, h4⟩ := ih (o + 1) (w.setCell ⟨b, o, none⟩ v)
    exact ⟨h1, h2, h3, h4.trans (by unfold World.setCell; simp)⟩
end Go.Proofs.Ytfnfbbmegdkhjaa

namespace Go.Proofs.Ytfnfbbmegdkhjaa
open Go.RowKit
set_option linter.unusedVariables false
/-- an answer that is a nil slice is a row of one's own without elements -/
theorem PCalls.nilOwn {P : Program} {f : FuncId} {args : List PV} {st : St} {R R' : PV → St → Prop} (E : TypeId) (sz : Nat) (h : PCalls P f args st R) (hR : ∀ p s, R p s → R' p s ∨ (p = .nils ∧ s = [] ∧ ∀ g, R' (.own g []) [.tok g E sz 0])) : PCalls P f args st R' := by
  intro F K w vs hr ha
  refine (h F K w vs hr ha).mono ?_
  rintro e w' ⟨v, K', p, s, rfl, hx, hr', hv, hp⟩
  rcases hR p s hp with h1 | ⟨rfl, rfl, h1⟩
  · exact ⟨v, K', p, s, rfl, hx, hr', hv, h1⟩
  · cases hv
    obtain ⟨g, hg, hfr, hx2, hr2⟩ := hr'.newTok (u := .slice none 0 0) (E := E) (sz := sz) (n := 0) (xs := []) (World.ownsRow_nil w' 0 E sz) rfl fun b hb => by cases hb
    exact ⟨_, _, .own g [], _, rfl, hx.trans hx2, hr2, .own (.nil (Nat.zero_le _)) (by simp [Kp.setOwn]) (Nat.zero_le _) (fun _ => rfl), h1 g⟩
end Go.Proofs.Ytfnfbbmegdkhjaa

namespace Go.Proofs.Ytfnfbbmegdkhjaa
open Go.RowKit Go.ChangeMaps Go.MapKept Go.WideMaps
open Go.WideElems (Fit rd rg pl rd_val elemAt)
set_option linter.unusedVariables false
set_option linter.unusedSimpArgs false
/-- 'buildSlice' of some elements: a row of one's own -/
theorem POp_buildSliceO {P : Program} {o : Oper} {ρ : Operand → Option PV} {t : TypeId} {len : Nat} {parts : Array (Nat × Operand)} (ho : o.op = .buildSlice t len parts) {E es bytes : Nat} {ea : Option Bool} {T : Ty} (hT : tyOf P t = some T) (hk : T.k = .slice E es ea) (hE : elOf P E = some (es, bytes)) (h0 : 0 < len * es) (h24 : len * es ≤ 16777216) {cells : List PV} (hf : fillO (fun i => some (i * es, es)) ρ (List.replicate (len * es) .u) parts.toList = some cells) {rows : List (List D)} (hr : rowsOf es len cells = some rows) {st : St} {R : PV → St → Prop} (h : ∀ g, st.freshT g → R (.own g rows) (.tok g E es rows.length :: st)) :
    POp P o ρ st R := by
  refine POp.of_run fun F K w a h1 h2 => ?_
  obtain ⟨dst, op, ty, pos, after, guard⟩ := o
  simp only at ho h2
  subst ho
  obtain ⟨d, hd, rfl⟩ := tyOf_spec hT
  cases d with
  | slice E' =>
    simp only [tyK, TyK.slice.injEq] at hk
    obtain ⟨rfl, hes, rfl⟩ := hk
    obtain ⟨ie, z, hie, hz, hsz, -, hzs⟩ := elOf_spec hE
    have hrc : RC K w (List.replicate (len * es) .u) ((Array.range (len * ie.size)).map (z.cells[· % z.cells.size]!)) := ⟨by simp [hsz], fun j p v hp _ => by
      have := List.mem_of_getElem? hp
      rw [List.mem_replicate] at this
      rw [this.2]; exact .u⟩
    obtain ⟨arr, h3, h4⟩ := fill_ok (ev := a.eval) (fun x hx q hq => h2 x.2 (by simp only [Op.operands]; exact List.mem_toArray.2 (List.mem_map.2 ⟨x, hx, rfl⟩)) q hq) hf hrc
    have hfl : ∀ (parts : List (Nat × Operand)) (cs cs' : List PV), fillO (fun i => some (i * es, es)) ρ cs parts = some cs' → cs'.length = cs.length := by
      intro parts
      induction parts with
      | nil => intro cs cs' h; simp only [fillO, Option.some.injEq] at h; rw [h]
      | cons x rest ih =>
        intro cs cs' h
        obtain ⟨i, x⟩ := x
        simp only [fillO] at h
        split at h
        · rename_i off size p hpl hp
          simp only [Option.some.injEq, Prod.mk.injEq] at hpl
          split at h
          · rename_i hc
            rw [ih _ _ h]; simp [spl]; omega
          · cases h
        · cases h
    have hcl := hfl _ _ _ hf
    rw [List.length_replicate] at hcl
    obtain ⟨r1, r2, r3⟩ := rowsOf_get hr (by omega)
    obtain ⟨hx, hrel⟩ := h1.newRow arr E' (len * es) (by rw [h4.1]; omega) (.inl rfl)
    have hcap : len ≤ maxLen := by
      have : len ≤ len * es := Nat.le_mul_of_pos_right _ (by rcases Nat.eq_zero_or_pos es with h | h; (rw [h] at h0; simp at h0); exact h)
      unfold maxLen; omega
    have hrd := rows_mk (K := (K.addRow w.heap.size (len * es)).cell) (w := w.alloc (.cells arr E')) (rows := rows) (cap := len) (es := es) (heap_alloc_new w _) (by omega) hcap r2 fun i j row d hi hj => by
        obtain ⟨p, hp, hpd⟩ := r3 i j row d hi hj
        have hlt := (List.getElem?_eq_some_iff.1 hp).1
        have hsz := h4.1
        have hg : arr[i * es + j]? = some arr[i * es + j] := Array.getElem?_eq_getElem (by omega)
        exact ⟨.inr ⟨rfl, by omega⟩, _, hg, (toD_rel hpd (h4.2 _ p _ hp hg)).mono hx.kp⟩
    have has : arr.size = len * es := by rw [h4.1, hcl]
    have hown : (w.alloc (.cells arr E')).ownsRow 0 E' es (.slice (some ⟨w.heap.size, 0, none⟩) len len) len arr.toList := by
      exact ⟨by rw [Array.length_toList]; exact has, .inr ⟨w.heap.size, len, arr, rfl, Nat.zero_le _, heap_alloc_new w _, Nat.le_refl _, hcap, has, by rw [List.take_of_length_le (by rw [Array.length_toList]; omega)]⟩⟩
    obtain ⟨g, hg, hfr, hx2, hr2⟩ := hrel.newTok (u := .slice (some ⟨w.heap.size, 0, none⟩) len len) (E := E') (sz := es) (n := len) (xs := arr.toList) hown rfl fun b hb => by
      simp only [Value.ownBlock, Option.some.injEq] at hb
      subst hb
      refine ⟨fun hf => by have := h1.ff _ hf; omega, fun o hc => ?_, fun e he heq => ?_⟩
      · rcases hc with hc | ⟨_, ho⟩
        · have := h1.klt hc; omega
        · exact ho
      · have hb' : e.block K = some w.heap.size := by
          cases e with
          | box i U cs => exact heq
          | tok j U sz n => exact heq
          | obj i ok => exact heq
        have := ((h1.ents e he).lt hb').1
        omega
    refine ⟨.slice (some ⟨w.heap.size, 0, none⟩) len len, _, _, .own g rows, _, ?_, hx.trans hx2, hr2, ?_, by rw [← r1]; exact h g hfr⟩
    · simp only [execOp, Sem.run_bind]
      rw [run_buildSlice w t E' len _ arr ie z hd hie hz (by rw [hsz]; omega) (by rw [hsz]; omega) (by rw [hsz, Array.toList_map]; rw [hsz] at h3; exact h3)]
      rfl
    · rw [r1] at hrd
      refine .own (u := .slice (some ⟨w.heap.size, 0, none⟩) len len) (hrd.mono hx2.kp) (by simp [Kp.setOwn]) (by simp only [slen]; omega) fun _ => rfl
  | _ => simp [tyK] at hk
theorem POp_insert {P : Program} {o : Oper} {ρ : Operand → Option PV} {st : St} {R : PV → St → Prop} {t k e : TypeId} {m x y : Operand} (ho : o.op = .insert t m x y) {i n : Nat} {D : DataW Unit} {z v : Int} (hm : ρ m = some (.mp i)) (hx : ρ x = some (.d (.v (.int .i64 z)))) (hy : ρ y = some (.d (.v (.int .i64 v)))) (hb : st.obj? i = some (MapO P k e n D))
    (ht : P.underlying t = some (.map k e)) (hk : P.underlying k = some (.int .i64)) (he : P.underlying e = some (.int .i64)) (hn : n < maxLen) (hkey : keyOf P k (.int .i64 z) = some (.int .i64 z)) (hw : (Lit.int .i64 v).wf = true) (h : R (.tup []) (st.setObj i (MapO P k e (n + 1) (D.put (.int .i64 z) (.lit (.int .i64 v)))))) : POp P o ρ st R := by
  refine POp.of_skip fun F K w a h1 h2 => ?_
  obtain ⟨dst, op, ty, pos, after, guard⟩ := o
  simp only at ho h2
  subst ho
  have e1 := int_of (h2 x (by simp [Op.operands]) _ hx)
  have e2 := int_of (h2 y (by simp [Op.operands]) _ hy)
  have hr := h2 m (by simp [Op.operands]) _ hm
  generalize hvm : a.eval m = vm at hr
  cases hr with
  | mp hb' =>
  obtain ⟨l, r, rfl, hset⟩ := St.obj?_split hb
  rw [hset] at h
  obtain ⟨b, ob, hk', hF, hh, hok, hn'⟩ := h1.ents (.obj i (MapO P k e n D)) (by simp)
  rw [hk'] at hb'
  obtain rfl := Option.some.inj hb'
  obtain ⟨es, clock, hb2, F2, hs2, hD⟩ := hok w b hh
  subst hD
  obtain ⟨es', clock', hrun, F', hput, -⟩ := Maps.fit_store (R' := plainElem P e) (Maps.int_keyed hk) ht hb2 F2 (Nat.lt_of_le_of_lt hs2 hn) (fun _ _ _ _ hz => hz) hkey (plainElem_int he hw)
  have hsz : es'.size ≤ n + 1 := by
    have e1 : es'.size = ((es'.toList.map (rg P k (plainElem (H := Unit) P e))).foldr DataW.insert []).length := by rw [length_sorted]; simp
    rw [e1, hput]
    unfold putKey
    rw [length_insert]
    have e2 := List.length_filter_le (notKey (.int .i64 z)) ((es.toList.map (rg P k (plainElem (H := Unit) P e))).foldr DataW.insert [])
    rw [length_sorted] at e2
    simp at e2
    omega
  have hok' : MapO P k e (n + 1) (DataW.put (.map ((es.toList.map (rg P k (plainElem (H := Unit) P e))).foldr DataW.insert [])) (.int .i64 z) (.lit (.int .i64 v))) (.map es' clock') := fun w2 b2 h2 => ⟨es', clock', h2, F', hsz, by rw [DataW.put_eq, hput]⟩
  have hlt : b < w.heap.size := (Array.getElem?_eq_some_iff.1 hb2).1
  obtain ⟨hx2, hrel⟩ := h1.setObj (ok' := MapO P k e (n + 1) _) (o := .map es' clock') (w' := setBlock w b (.map es' clock')) hk' rfl rfl rfl (by simp [setBlock]) (heap_setBlock_same hb2 _) (fun c hc => heap_setBlock_other hb2 _ hc) hok'
  refine ⟨_, K, _, ?_, hx2, hrel, h⟩
  simp only [execOp, hvm, e1, e2, Sem.run_bind, hrun]
  rfl
section
variable {P : Program} {n : Nat} {ops : Array Oper} {Q : PF → St → Prop} {rest : List Oper} {fr : PF} {st : St} {ty : TypeId} {pos : String} {after : Array Edge} {gd : Option (Nat × Bool)} {d : Nat}
theorem POps_bsO {len : Nat} {t : TypeId} {parts : Array (Nat × Operand)} {E es bytes ts : Nat} {ea : Option Bool} {T0 : Ty} {e0 : Nat × Nat} {cells : List PV} {rows : List (List D)} (h : ∀ g, st.freshT g → POps P n ops Q rest ((d, .own g rows) :: fr) (.tok g E es rows.length :: st)) (hd : d < n := by decide) (hw : PF.wants fr ops ⟨some d, .buildSlice t len parts, ty, pos, after, gd⟩ = some true := by rfl) (hT : tyOf P t = some T0 := by simp; rfl) (hT2 : T0 = ⟨ts, .slice E es ea⟩ := by rfl) (hE : elOf P E = some e0 := by simp; rfl) (hE2 : e0 = (es, bytes) := by rfl) (h0 : 0 < len * es := by decide) (h24 : len * es ≤ 16777216 := by decide) (hf : fillO (fun i => some (i * es, es)) fr.eval (List.replicate (len * es) .u) parts.toList = some cells := by simp [nev, nevA, nevB, Jo, PF.eval, PF.get, PF.wants, cPV, cCell, PV.rows, evBin, evUn, Jp, evLen, loadA, Jm, TyK.agg, partA, St.box?, St.tok?, St.setBox, St.setTok, fillO, spl, PV.ps, PV.one, Jn, aggD, slD, Jg, Jj, Jh, Ji, Jf, Je, *]; rfl) (hr : rowsOf es len cells = some rows := by simp [rowsOf, toDs, PV.toD]; rfl) : POps P n ops Q (⟨some d, .buildSlice t len parts, ty, pos, after, gd⟩ :: rest) fr st :=
  POps_e hd hw (POp_buildSliceO (o := ⟨some d, .buildSlice t len parts, ty, pos, after, gd⟩) rfl (hT2 ▸ hT) rfl (hE2 ▸ hE) h0 h24 hf hr h)
theorem POps_insert {t k e : TypeId} {m x y : Operand} {i N : Nat} {D : DataW Unit} {z v : Int} {pm px py : PV} {ok : Obj → Prop} {st' : St} (hk : P.underlying k = some (.int .i64)) (he : P.underlying e = some (.int .i64)) (hn : N < maxLen) (hkey : keyOf P k (.int .i64 z) = some (.int .i64 z)) (hwf : (Lit.int .i64 v).wf = true)
    (h : POps P n ops Q rest fr st') (ht : P.underlying t = some (.map k e) := by rfl) (hw : PF.wants fr ops ⟨none, .insert t m x y, ty, pos, after, gd⟩ = some true := by rfl) (hm : fr.eval m = some pm := by simp [nev, nevA, nevB, Jo, PF.eval, PF.get, PF.wants, cPV, cCell, PV.rows, evBin, evUn, Jp, evLen, loadA, Jm, TyK.agg, partA, St.box?, St.tok?, St.setBox, St.setTok, fillO, spl, PV.ps, PV.one, Jn, aggD, slD, Jg, Jj, Jh, Ji, Jf, Je, *]; rfl) (hpm : pm = .mp i := by rfl) (hx : fr.eval x = some px := by simp [nev, nevA, nevB, Jo, PF.eval, PF.get, PF.wants, cPV, cCell, PV.rows, evBin, evUn, Jp, evLen, loadA, Jm, TyK.agg, partA, St.box?, St.tok?, St.setBox, St.setTok, fillO, spl, PV.ps, PV.one, Jn, aggD, slD, Jg, Jj, Jh, Ji, Jf, Je, *]; rfl) (hpx : px = .d (.v (.int .i64 z)) := by rfl) (hy : fr.eval y = some py := by simp [nev, nevA, nevB, Jo, PF.eval, PF.get, PF.wants, cPV, cCell, PV.rows, evBin, evUn, Jp, evLen, loadA, Jm, TyK.agg, partA, St.box?, St.tok?, St.setBox, St.setTok, fillO, spl, PV.ps, PV.one, Jn, aggD, slD, Jg, Jj, Jh, Ji, Jf, Je, *]; rfl) (hpy : py = .d (.v (.int .i64 v)) := by rfl) (hb : st.obj? i = some ok := by simp [St.obj?, *]; rfl) (hok : ok = MapO P k e N D := by rfl) (hs : st.setObj i (MapO P k e (N + 1) (D.put (.int .i64 z) (.lit (.int .i64 v)))) = st' := by simp [St.setObj, *]; rfl) : POps P n ops Q (⟨none, .insert t m x y, ty, pos, after, gd⟩ :: rest) fr st :=
  POps_e0 hw (POp_insert (o := ⟨none, .insert t m x y, ty, pos, after, gd⟩) rfl (hpm ▸ hm) (hpx ▸ hx) (hpy ▸ hy) (hok ▸ hb) ht hk he hn hkey hwf (by rw [hs]; exact h))
end
end Go.Proofs.Ytfnfbbmegdkhjaa

namespace Go.Proofs.Ytfnfbbmegdkhjaa
open Go.RowKit
set_option linter.unusedVariables false
set_option linter.unusedSimpArgs false
def orderP (md : Region.Mode) (ops : Array Oper) (all : List (Nat × Kd)) (base : Array Bool → Bool) : List (Nat × Kd) → Array Bool → Bool
  | [], listed => base listed
  | (i, k) :: rest, listed => (Region.ready md ops listed).contains i && (kdOf all i == k) &&
      (match k with
       | .a => freeB md ops i listed
       | .b => freeB md ops i listed && (List.range ops.size).all fun j => !(kdOf all j == .e) || listed.getD j true || waitsB md ops i ops.size j
       | .e => Region.ready md ops listed == [i]) && orderP md ops all base rest (listed.setIfInBounds i true)
section
variable {P : Program} {J : St → Prop} {ops : Array Oper} {n : Nat} {kd : Nat → Kd} {md : Region.Mode}
theorem lAny_ordP {Q' : PF → St → Prop} {Q : G → St → Prop} {all : List (Nat × Kd)} {base : Array Bool → Bool} {fuel : Nat} (hbase : ∀ (listed : Array Bool) (fr : PF) (st : St), DC md ops listed → base listed = true → Q' fr st → lAny P J md ops n (kdOf all) Q fuel listed fr.get st) :
    ∀ (l : List (Nat × Kd)) (listed : Array Bool) (fr : PF) (st : St), DC md ops listed → orderP md ops all base l listed = true → POrdL P J n ops Q' l fr st → lAny P J md ops n (kdOf all) Q (l.length + fuel) listed fr.get st := by
  intro l
  induction l with
  | nil => intro listed fr st hdc hB h; rw [List.length_nil, Nat.zero_add]; exact hbase listed fr st hdc hB h
  | cons x rest ih =>
    intro listed fr st hdc hB h
    obtain ⟨i, k⟩ := x
    simp only [orderP, Bool.and_eq_true] at hB
    rw [List.length_cons, Nat.add_right_comm]
    obtain ⟨⟨⟨hr, hk⟩, hB1⟩, hB2⟩ := hB
    have hr' : i ∈ Region.ready md ops listed := by simpa using hr
    have hk' : kdOf all i = k := by simpa using hk
    obtain ⟨o, ho, hd, h⟩ := h
    have free : freeB md ops i listed = true → ∀ j oj, ops[j]? = some oj → j ≠ i → listed.getD j true = false → (∀ e ∈ oj.after, Region.binds md e = true → e.on ≠ i) → o.apart ops oj = true := by
      intro hf j oj hj hji hun hno
      unfold freeB at hf
      rw [ho] at hf
      simp only [List.all_eq_true, List.mem_range] at hf
      have hlt : j < ops.size := (Array.getElem?_eq_some_iff.1 hj).1
      have := hf j hlt
      rw [hj] at this
      simp only [hun, Bool.or_false, Bool.or_eq_true, beq_iff_eq] at this
      rcases this with h | h | h
      · exact absurd h hji
      · obtain ⟨e, he, h⟩ := Array.any_eq_true'.1 h
        simp only [Bool.and_eq_true, beq_iff_eq] at h
        exact absurd h.2 (hno e he h.1)
      · exact h
    have nxt : ∀ p s, POrdL P J n ops Q' rest (fr.put o.dst p) s → lAny P J md ops n (kdOf all) Q (rest.length + fuel) (listed.setIfInBounds i true) (gput fr.get o.dst p) s := fun p s hp => by
      rw [← gput_get]; exact ih _ _ s (hdc.set hr') hB2 hp
    cases k with
    | a =>
      have hy : ∃ p, lYields P J ops n (kdOf all i) o p fr.get st ∧ POrdL P J n ops Q' rest (fr.put o.dst p) st := by
        rw [hk']
        rcases h with ⟨h1, h2⟩ | ⟨h1, p, h2, h3⟩
        · exact ⟨_, ⟨hd, .inl ⟨by rw [gwants_get]; exact h1, rfl⟩⟩, h2⟩
        · exact ⟨p, ⟨hd, .inr ⟨by rw [gwants_get]; exact h1, by rw [geval_get]; exact h2⟩⟩, h3⟩
      obtain ⟨p, hy, hp⟩ := hy
      exact lAny_first ho _ listed _ st hdc (free hB1) (fun hb => by rw [hk'] at hb; cases hb) hr' hy (nxt p st hp)
    | b =>
      have hy : ∃ p, lYields P J ops n (kdOf all i) o p fr.get st ∧ POrdL P J n ops Q' rest (fr.put o.dst p) st := by
        rw [hk']
        rcases h with ⟨h1, h2⟩ | ⟨h1, p, h2, h3⟩
        · exact ⟨_, ⟨hd, .inl ⟨by rw [gwants_get]; exact h1, rfl⟩⟩, h2⟩
        · exact ⟨p, ⟨hd, .inr ⟨by rw [gwants_get]; exact h1, by rw [geval_get]; exact h2⟩⟩, h3⟩
      obtain ⟨p, hy, hp⟩ := hy
      simp only [Bool.and_eq_true] at hB1
      refine lAny_first ho _ listed _ st hdc (free hB1.1) (fun _ j hj hun hlt => ?_) hr' hy (nxt p st hp)
      have := List.all_eq_true.1 hB1.2 j (List.mem_range.2 hlt)
      simp only [hj, hun, Bool.or_false] at this
      exact ⟨_, by simpa using this⟩
    | e =>
      have hsole : Region.ready md ops listed = [i] := by simpa using hB1
      refine ⟨fun h0 => (by rw [h0] at hr'; cases hr'), fun j hj => ?_⟩
      rw [hsole] at hj
      obtain rfl := List.mem_singleton.1 hj
      unfold lOp
      rw [ho]
      refine ⟨hd, ?_⟩
      rcases h with ⟨h1, h2⟩ | ⟨h1, h2⟩
      · exact .inl ⟨by rw [gwants_get]; exact h1, nxt _ st h2⟩
      · refine .inr ⟨by rw [gwants_get]; exact h1, ?_⟩
        rw [hk']
        simp only
        rw [geval_get]
        exact h2.mono fun p s hs => ⟨hs.1, nxt p s hs.2⟩

/-- two effects that stand beside each other: both ways -/
def twoB (md : Region.Mode) (ops : Array Oper) (all : List (Nat × Kd)) (i k : Nat) (r1 r2 : List (Nat × Kd)) (listed : Array Bool) : Bool :=
  (Region.ready md ops listed == [i, k]) && (kdOf all i == .e) && (kdOf all k == .e) && orderB md ops all r1 (listed.setIfInBounds i true) && orderB md ops all r2 (listed.setIfInBounds k true)
theorem lAny_two {Q : PF → St → Prop} {all : List (Nat × Kd)} {i k : Nat} {r1 r2 : List (Nat × Kd)} (hlen : r1.length = r2.length) (listed : Array Bool) (fr : PF) (st : St) (hdc : DC md ops listed) (hB : twoB md ops all i k r1 r2 listed = true)
    (h : POrdL P J n ops Q ((i, .e) :: r1) fr st ∧ POrdL P J n ops Q ((k, .e) :: r2) fr st) : lAny P J md ops n (kdOf all) (fun g s => ∃ fr : PF, fr.get = g ∧ Q fr s) (r1.length + 1) listed fr.get st := by
  unfold twoB at hB
  simp only [Bool.and_eq_true, beq_iff_eq] at hB
  obtain ⟨⟨⟨⟨hr, hk1⟩, hk2⟩, hB1⟩, hB2⟩ := hB
  refine ⟨fun h0 => (by rw [hr] at h0; cases h0), fun j hj => ?_⟩
  have hj' := hj
  rw [hr] at hj
  have key : ∀ (r : List (Nat × Kd)), r.length = r1.length → kdOf all j = .e → orderB md ops all r (listed.setIfInBounds j true) = true → POrdL P J n ops Q ((j, .e) :: r) fr st → lOp P J ops n (kdOf all) j (lAny P J md ops n (kdOf all) (fun g s => ∃ fr : PF, fr.get = g ∧ Q fr s) r1.length (listed.setIfInBounds j true)) fr.get st := by
    intro r hrl hkj hBr hh
    obtain ⟨o, ho, hd, hh⟩ := hh
    have nxt : ∀ p s, POrdL P J n ops Q r (fr.put o.dst p) s → lAny P J md ops n (kdOf all) (fun g s => ∃ fr : PF, fr.get = g ∧ Q fr s) r1.length (listed.setIfInBounds j true) (gput fr.get o.dst p) s := fun p s hp => by
      rw [← gput_get, ← hrl]; exact lAny_ord r _ _ s (hdc.set hj') hBr hp
    unfold lOp
    rw [ho]
    refine ⟨hd, ?_⟩
    rcases hh with ⟨h1, h2⟩ | ⟨h1, h2⟩
    · exact .inl ⟨by rw [gwants_get]; exact h1, nxt _ st h2⟩
    · refine .inr ⟨by rw [gwants_get]; exact h1, ?_⟩
      rw [hkj]
      simp only
      rw [geval_get]
      exact h2.mono fun p s hs => ⟨hs.1, nxt p s hs.2⟩
  simp only [List.mem_cons, List.not_mem_nil, or_false] at hj
  rcases hj with rfl | rfl
  · exact key r1 rfl hk1 hB1 h.1
  · exact key r2 hlen.symm hk2 hB2 h.2
/-- a region that draws its order, where two effects stand beside each other -/
theorem PW_drawnL2 {id : Nat} {Q : Exit → PF → St → Prop} {fr : PF} {st : St} (pre : List (Nat × Kd)) (i k : Nat) (r1 r2 : List (Nat × Kd)) (hm : P.follows .mixedOrders = true) (hlen : pre.length + (r1.length + 1) = ops.size ∧ r1.length = r2.length)
    (hB : orderP .any ops (pre ++ (i, .e) :: r1) (twoB .any ops (pre ++ (i, .e) :: r1) i k r1 r2) pre (Array.replicate ops.size false) = true) (hJ : J st)
    (h : POrdL P J n ops (fun fr st => POrdL P J n ops (Q .normal) ((i, .e) :: r1) fr st ∧ POrdL P J n ops (Q .normal) ((k, .e) :: r2) fr st) pre fr st) : PW P n (.region id ops true) Q fr st := by
  intro F K w a hr hf
  have hdc : DC .any ops (Array.replicate ops.size false) := fun j o ho hj => by
    exfalso
    have hlt : j < ops.size := (Array.getElem?_eq_some_iff.1 ho).1
    simp [hlt] at hj
  have hx : Ext F K w K { w with drawn := w.drawn + 1 } := ⟨rfl, rfl, rfl, Nat.le_refl _, fun _ _ => rfl, fun _ _ h => ⟨h, rfl⟩, fun _ _ h => .inl h, fun _ _ h => h, fun g u h => ⟨u, h, .inl rfl⟩, fun _ _ => rfl⟩
  have hr2 : Rel F st K { w with drawn := w.drawn + 1 } := ⟨hr.kc, hr.ff, hr.fin, hr.fi, fun e he => (hr.ents e he).keep hx (fun _ _ => rfl) (fun _ _ _ h => h) fun _ _ => rfl, hr.nb, hr.nt⟩
  have hany := lAny_ordP (md := .any) (Q := fun g s => ∃ fr : PF, fr.get = g ∧ Q .normal fr s) (fun listed fr st h1 h2 h3 => lAny_two hlen.2 listed fr st h1 h2 h3) pre _ fr st hdc hB h
  rw [hlen.1] at hany
  exact wp_region_any hm (wpAny_lAny (K0 := K) (w0 := w) (F := F) (Q := fun g s => ∃ fr : PF, fr.get = g ∧ Q .normal fr s) (fun K' w' a' g' st' h1 h2 h3 ⟨fr', e, h4⟩ => ⟨K', fr', st', h1, h2, by subst e; exact h3.fr, h4⟩) _ _ _ st K _ a (by simp) hx hr2 (hf.mono hx).fg (.inr hJ) hany)
end
end Go.Proofs.Ytfnfbbmegdkhjaa

namespace Go.Proofs.Ytfnfbbmegdkhjaa
open Go.RowKit
set_option linter.unusedVariables false
set_option linter.unusedSimpArgs false
/-- a variable's last cell stays, and some variables stay as they are -/
def keepW (iW : Nat) (W : TypeId) (fv : PV) (l : List (Nat × TypeId × List PV)) : St → Prop := fun s => (∃ x y, s.box? iW = some (W, [x, y, fv])) ∧ keepJ l s
section
variable {P : Program} {J : St → Prop} {n : Nat} {ops : Array Oper} {Q : PF → St → Prop} {fr : PF} {st L M st0 : St} {p : PV} {ty : TypeId} {pos : String} {after : Array Edge} {gd : Option (Nat × Bool)} {d f j : Nat} {xs : Array Operand} {ts : Array TypeId} {ps qs first cap : List PV} {R : PV → St → Prop} {od : List (Nat × Kd)}
theorem PL_b3 {iW : Nat} {W : TypeId} {fv : PV} {l : List (Nat × TypeId × List PV)} {t : TypeId} {a : Operand} {q : PV} {i off : Nat} {T : Ty} {x : TypeId × List PV} {U : TypeId} {cs : List PV} (h : POrdL P (keepW iW W fv l) n ops Q od ((d, p) :: fr) st)
    (ho : ops[j]? = some ⟨some d, .load t a, ty, pos, after, gd⟩ := by rfl) (hd : d < n := by decide)
    (hw : PF.wants fr ops ⟨some d, .load t a, ty, pos, after, gd⟩ = some true := by first | (simp [nev, nevA, nevB, Jo, PF.eval, PF.get, PF.wants, cPV, cCell, PV.rows, evBin, evUn, Jp, evLen, loadA, Jm, TyK.agg, partA, St.box?, St.tok?, St.setBox, St.setTok, fillO, spl, PV.ps, PV.one, Jn, aggD, slD, Jg, Jj, Jh, Ji, Jf, Je, *]; done) | fail)
    (ha : fr.eval a = some q := by simp [nev, nevA, nevB, Jo, PF.eval, PF.get, PF.wants, cPV, cCell, PV.rows, evBin, evUn, Jp, evLen, loadA, Jm, TyK.agg, partA, St.box?, St.tok?, St.setBox, St.setTok, fillO, spl, PV.ps, PV.one, Jn, aggD, slD, Jg, Jj, Jh, Ji, Jf, Je, *]; rfl) (hq : q = .ptr i off := by rfl) (hT : tyOf P t = some T := by simp; rfl)
    (hl : (i, x) ∈ l := by first | exact List.mem_cons_self | exact List.mem_cons_of_mem _ List.mem_cons_self | exact List.mem_cons_of_mem _ (List.mem_cons_of_mem _ List.mem_cons_self)) (hx : x = (U, cs) := by rfl)
    (he : Jm T (cs.drop off) = some p := by simp [nev, nevA, nevB, Jo, PF.eval, PF.get, PF.wants, cPV, cCell, PV.rows, evBin, evUn, Jp, evLen, loadA, Jm, TyK.agg, partA, St.box?, St.tok?, St.setBox, St.setTok, fillO, spl, PV.ps, PV.one, Jn, aggD, slD, Jg, Jj, Jh, Ji, Jf, Je, *]; rfl) : POrdL P (keepW iW W fv l) n ops Q ((j, .a) :: od) fr st := by
  subst hq; subst hx
  exact ⟨_, ho, fun _ e => by cases e; exact hd, .inr ⟨hw, p, fun s hs => nevB_ok (o := ⟨some d, .load t a, ty, pos, after, gd⟩) (by simp only [nevB, ha, hT, hs.2 _ hl]; exact he), h⟩⟩
theorem PL_bw {iW : Nat} {W : TypeId} {fv : PV} {l : List (Nat × TypeId × List PV)} {t : TypeId} {a : Operand} {q : PV} {off : Nat} {T : Ty} (h : POrdL P (keepW iW W fv l) n ops Q od ((d, p) :: fr) st)
    (ho : ops[j]? = some ⟨some d, .load t a, ty, pos, after, gd⟩ := by rfl) (hd : d < n := by decide)
    (hw : PF.wants fr ops ⟨some d, .load t a, ty, pos, after, gd⟩ = some true := by first | (simp [nev, nevA, nevB, Jo, PF.eval, PF.get, PF.wants, cPV, cCell, PV.rows, evBin, evUn, Jp, evLen, loadA, Jm, TyK.agg, partA, St.box?, St.tok?, St.setBox, St.setTok, fillO, spl, PV.ps, PV.one, Jn, aggD, slD, Jg, Jj, Jh, Ji, Jf, Je, *]; done) | fail)
    (ha : fr.eval a = some q := by simp [nev, nevA, nevB, Jo, PF.eval, PF.get, PF.wants, cPV, cCell, PV.rows, evBin, evUn, Jp, evLen, loadA, Jm, TyK.agg, partA, St.box?, St.tok?, St.setBox, St.setTok, fillO, spl, PV.ps, PV.one, Jn, aggD, slD, Jg, Jj, Jh, Ji, Jf, Je, *]; rfl) (hq : q = .ptr iW off := by rfl) (hT : tyOf P t = some T := by simp; rfl)
    (he : ∀ x y, Jm T (List.drop off [x, y, fv]) = some p := by intro x y; simp [nev, nevA, nevB, Jo, PF.eval, PF.get, PF.wants, cPV, cCell, PV.rows, evBin, evUn, Jp, evLen, loadA, Jm, TyK.agg, partA, St.box?, St.tok?, St.setBox, St.setTok, fillO, spl, PV.ps, PV.one, Jn, aggD, slD, Jg, Jj, Jh, Ji, Jf, Je, *]; rfl) : POrdL P (keepW iW W fv l) n ops Q ((j, .a) :: od) fr st := by
  subst hq
  refine ⟨_, ho, fun _ e => by cases e; exact hd, .inr ⟨hw, p, fun s hs => nevB_ok (o := ⟨some d, .load t a, ty, pos, after, gd⟩) ?_, h⟩⟩
  obtain ⟨⟨x, y, hxy⟩, -⟩ := hs
  simp only [nevB, ha, hT, hxy]; exact he x y
theorem PL_callC {fo : Operand} {q : PV} (k m : Nat) (hc : PCalls P f qs st0 R) (h : ∀ p s, R p s → (lastB ops j = true ∨ J (L ++ (s ++ M))) ∧ POrdL P J n ops Q od ((d, p) :: fr) (L ++ (s ++ M))) (hca : callable P f = true)
    (ho : ops[j]? = some ⟨some d, .call { callee := .value fo, args := xs, argTypes := ts }, ty, pos, after, gd⟩ := by rfl)
    (hL : st.take k = L := by simp only [List.cons_append, List.nil_append, List.take_succ_cons, List.take_zero]; rfl)
    (h0 : (st.drop k).take m = st0 := by rfl)
    (hM : (st.drop k).drop m = M := by simp only [List.cons_append, List.nil_append, List.drop_succ_cons, List.drop_zero, List.drop_nil]; rfl)
    (hd : d < n := by decide)
    (hw : PF.wants fr ops ⟨some d, .call { callee := .value fo, args := xs, argTypes := ts }, ty, pos, after, gd⟩ = some true := by first | (simp [nev, nevA, nevB, Jo, PF.eval, PF.get, PF.wants, cPV, cCell, PV.rows, evBin, evUn, Jp, evLen, loadA, Jm, TyK.agg, partA, St.box?, St.tok?, St.setBox, St.setTok, fillO, spl, PV.ps, PV.one, Jn, aggD, slD, Jg, Jj, Jh, Ji, Jf, Je, *]; done) | fail)
    (hq : fr.eval fo = some q := by simp [nev, nevA, nevB, Jo, PF.eval, PF.get, PF.wants, cPV, cCell, PV.rows, evBin, evUn, Jp, evLen, loadA, Jm, TyK.agg, partA, St.box?, St.tok?, St.setBox, St.setTok, fillO, spl, PV.ps, PV.one, Jn, aggD, slD, Jg, Jj, Jh, Ji, Jf, Je, *]; rfl) (hqf : q = .fn (.func f) first cap := by rfl)
    (hxs : Jn fr.eval xs.toList = some ps := by simp [nev, nevA, nevB, Jo, PF.eval, PF.get, PF.wants, cPV, cCell, PV.rows, evBin, evUn, Jp, evLen, loadA, Jm, TyK.agg, partA, St.box?, St.tok?, St.setBox, St.setTok, fillO, spl, PV.ps, PV.one, Jn, aggD, slD, Jg, Jj, Jh, Ji, Jf, Je, *]; rfl)
    (hn : (first ++ ps ++ cap).map PV.norm1 = qs := by first | (simp [PV.norm1, PV.norm0, aggD, slD, Jg, Jj, Jh, Ji, Jf]; done) | fail) : POrdL P J n ops Q ((j, .e) :: od) fr st :=
  PL_e ho hd hw (op_callC k m rfl hq hqf hc hL h0 hM hxs hn hca h)
end
end Go.Proofs.Ytfnfbbmegdkhjaa

namespace Go.Proofs.Ytfnfbbmegdkhjaa
open Go.RowKit
set_option linter.unusedVariables false
theorem PW_perm {P : Program} {n : Nat} {c : Code} {Q : Exit → PF → St → Prop} {fr : PF} {st : St} (st' : St) (hp : st.Perm st') (h : PW P n c Q fr st') : PW P n c Q fr st :=
  fun F K w a hr hf => h F K w a (hr.perm hp) hf
theorem bidn {F : Fz} {K : Kp} {w : World} : ∀ {st : St}, (∀ e ∈ st, EntOk F K w e) → (st.filterMap (Ent.block K)).Nodup → (st.filterMap Ent.bid).Nodup := by
  intro st
  induction st with
  | nil => intro _ _; simp
  | cons e r ih =>
    intro he hn
    have hr : (r.filterMap (Ent.block K)).Nodup := by
      rw [List.filterMap_cons] at hn
      split at hn
      · exact hn
      · exact (List.nodup_cons.1 hn).2
    have h1 := ih (fun x hx => he x (List.mem_cons_of_mem _ hx)) hr
    have key : ∀ i, e.bid = some i → (∃ b, e.block K = some b ∧ K.box i = some b) → i ∉ r.filterMap Ent.bid := by
      rintro i hi ⟨b, hb, hk⟩ hm
      obtain ⟨x, hx, hxi⟩ := List.mem_filterMap.1 hm
      rw [List.filterMap_cons, hb] at hn
      have hnm := (List.nodup_cons.1 hn).1
      apply hnm
      refine List.mem_filterMap.2 ⟨x, hx, ?_⟩
      cases x with
      | box j U cs => simp only [Ent.bid, Option.some.injEq] at hxi; subst hxi; exact hk
      | tok => cases hxi
      | obj j ok => simp only [Ent.bid, Option.some.injEq] at hxi; subst hxi; exact hk
    have h2 := he e (List.mem_cons_self ..)
    cases e with
    | box i T cs =>
      obtain ⟨b, arr, e1, -⟩ := h2
      exact List.nodup_cons.2 ⟨key i rfl ⟨b, e1, e1⟩, h1⟩
    | tok g E sz n => exact h1
    | obj i ok =>
      obtain ⟨b, o, e1, -⟩ := h2
      exact List.nodup_cons.2 ⟨key i rfl ⟨b, e1, e1⟩, h1⟩
/-- no two variables are one -/
theorem PW_nodupV {P : Program} {n : Nat} {c : Code} {Q : Exit → PF → St → Prop} {fr : PF} {st : St} (h : (st.filterMap Ent.bid).Nodup → PW P n c Q fr st) : PW P n c Q fr st :=
  fun F K w a hr hf => h (bidn hr.ents hr.nb) F K w a hr hf
theorem bidn_box (i : Nat) (T : TypeId) (cs : List PV) (r : St) : (Ent.box i T cs :: r).filterMap Ent.bid = i :: r.filterMap Ent.bid := rfl
end Go.Proofs.Ytfnfbbmegdkhjaa

namespace Go.Proofs.Ytfnfbbmegdkhjaa
open Go.RowKit
set_option linter.unusedVariables false
/-- a call whose answer is made of old and new memory -/
theorem PCalls.data2 {P : Program} {f : FuncId} {args : List PV} {r : PV} (h : ∀ (K : Kp) (w : World) (vs : Array Value), (∀ b o, K.cell b o → b < w.heap.size) → RelVs K w args vs → Calls P f vs w fun e w' => ∃ v, e = .returned v ∧ Below w.heap.size w w' ∧ ∀ K' : Kp, (∀ b o, K.cell b o → K'.cell b o) → (∀ b o u, w.heap.size ≤ b → w'.cell? ⟨b, o, none⟩ = some u → K'.cell b o) → RelV K' w' r v) : PCalls P f args [] fun p s => p = r ∧ s = [] := by
  intro F K w vs hr ha
  refine (h K w vs (fun b o h => hr.klt h) ha).mono ?_
  rintro e w' ⟨v, rfl, hb, hv⟩
  have hxt : Ext F K w ⟨fun b o => K.cell b o ∨ (w.heap.size ≤ b ∧ ∃ u, w'.cell? ⟨b, o, none⟩ = some u), K.box, K.own⟩ w' := ext_below hb hr.ff (fun b o h => hr.klt h) (fun _ _ h => .inl h) (fun _ _ h => h.imp id fun h => h.1) rfl rfl
  refine ⟨v, _, r, [], rfl, hxt, ⟨fun b o hc => ?_, fun b hf => by have := hr.ff b hf; have := hb.size; omega, hr.fin, hr.fi, fun e he => (by cases he), by simp, by simp⟩, hv _ (fun b o h => .inl h) fun b o u h1 h2 => .inr ⟨h1, u, h2⟩, rfl, rfl⟩
  rcases hc with hc | ⟨_, hc⟩
  · obtain ⟨v, hv⟩ := hr.kc b o hc
    exact ⟨v, (hxt.kp b o hc).2.trans hv⟩
  · exact hc
/-- rows the other way round -/
theorem RV.rev {K : Nat → Nat → Prop} {w : World} {sz : Nat} {rows : List (List D)} {css : List (List Value)} (hp : 0 < sz) (hn : css.length = rows.length) (hl : ∀ c ∈ css, c.length = sz) (h : RV K w sz rows css.flatten) : RV K w sz rows.reverse css.reverse.flatten := by
  have hlr : ∀ c ∈ css.reverse, c.length = sz := fun c hc => hl c (List.mem_reverse.1 hc)
  refine ⟨by rw [flat_len _ hlr, List.length_reverse, List.length_reverse, hn], fun row hr => h.2.1 row (List.mem_reverse.1 hr), fun i j row d hi hj => ?_⟩
  have hil : i < rows.length := by have := (List.getElem?_eq_some_iff.1 hi).1; simpa using this
  have hjl : j < sz := by
    have h1 := (List.getElem?_eq_some_iff.1 hj).1
    rw [h.2.1 row (List.mem_reverse.1 (List.mem_of_getElem? hi))] at h1
    exact h1
  rw [List.getElem?_reverse hil] at hi
  obtain ⟨x, h1, h2⟩ := h.2.2 _ j row d hi hj
  have hcl : rows.length - 1 - i < css.length := by omega
  have hx : (css[rows.length - 1 - i])[j]? = some x := by
    have hc := hl _ (List.getElem_mem hcl)
    have h3 : j < (css[rows.length - 1 - i]).length := by omega
    have h4 := flat_row css (rows.length - 1 - i) j _ _ hl (List.getElem?_eq_getElem hcl) (List.getElem?_eq_getElem h3)
    rw [h4] at h1
    rw [List.getElem?_eq_getElem h3]
    exact h1
  refine ⟨x, flat_row css.reverse i j _ x hlr ?_ hx, h2⟩
  rw [List.getElem?_reverse (by omega), hn]
  exact List.getElem?_eq_getElem hcl
/-- a function that copies rows as they are: the cells of its answer -/
theorem PCalls.copied {P : Program} {f : FuncId} {E : TypeId} {sz : Nat} {rows : List (List D)} (hsz : 0 < sz) (hl : ∀ row ∈ rows, row.length = sz)
    (h : ∀ rows' : List (List D), (∀ row ∈ rows', row.length = sz) → rows'.length = rows.length → PCalls P f [.d (.sl rows')] [] fun p s => ∃ g, p = .own g rows' ∧ s = [.tok g E sz rows'.length]) {K : Nat → Nat → Prop} {w : World} {v : Value} (hv : RelD K w (.sl rows) v) :
    ∃ css : List (List Value), css.length = rows.length ∧ (∀ c ∈ css, c.length = sz) ∧ RV K w sz rows css.flatten ∧ Calls P f #[v] w fun e w' => ∃ u c, e = .returned (.slice u rows.length c) ∧ w'.ownsRow w.heap.size E sz (.slice u rows.length c) rows.length css.flatten ∧ Below w.heap.size w w' := by
  rcases Nat.eq_zero_or_pos rows.length with h0 | hne
  · obtain rfl := List.eq_nil_of_length_eq_zero h0
    have ha : RelVs (K0 w) w [.d (.sl [])] #[v] := by
      refine relVs_cons (.d ?_) (relVs_nil _ _)
      generalize hrr : ([] : List (List D)) = rows0 at hv
      cases hv with
      | nil hc => exact .nil hc
      | sl _ _ hc _ _ _ => subst hrr; exact .nil hc
    refine ⟨[], rfl, fun c hc => (by cases hc), ⟨by simp, fun c hc => (by cases hc), fun i j row d hi _ => (by simp at hi)⟩, ?_⟩
    refine (h [] (fun c hc => (by cases hc)) rfl (F0 w) (K0 w) w _ (rel0 w) ha).mono ?_
    rintro e w' ⟨v', K1, p, s, rfl, hx, hr1, hv1, g, rfl, rfl⟩
    obtain ⟨u, xs, hu, hnf, hsl, how, hblk⟩ := hr1.ents (.tok g E sz 0) (by simp)
    cases hv1 with
    | @own _ _ _ u' hd hu' hle heq =>
    rw [hu] at hu'
    obtain rfl := Option.some.inj hu'
    have hvu : v' = u := heq hsl.symm
    subst hvu
    have hbel : Below w.heap.size w w' := ⟨hx.os, hx.tape, hx.output, hx.size, fun k hk => hx.hp k hk⟩
    rcases how.2 with ⟨e1, e2⟩ | ⟨bb, cap, cur, e1, -, e3, e4, e5, e6, e7⟩
    · exact ⟨none, 0, by rw [e1]; rfl, ⟨by simp, .inl ⟨rfl, rfl⟩⟩, hbel⟩
    · subst e1
      obtain ⟨hnew, -⟩ := hblk bb rfl
      have hge : w.heap.size ≤ bb := by
        rcases Nat.lt_or_ge bb w.heap.size with h6 | h6
        · exact absurd h6 hnew
        · exact h6
      exact ⟨_, _, rfl, ⟨by simp, .inr ⟨bb, cap, cur, rfl, hge, e3, e4, e5, e6, by simp⟩⟩, hbel⟩
  generalize hrr : rows = rows0 at hv
  cases hv with
  | nil _ => subst hrr; exact absurd hne (by decide)
  | @sl sz0 _ b0 off0 cap0 vals h1 h2 h3 h4 h5 =>
  subst hrr
  have hszz : sz0 = sz := by
    have hm := List.getElem_mem hne
    rw [← h3 _ hm, hl _ hm]
  subst hszz
  obtain ⟨rows', hrows'⟩ : ∃ rows' : List (List D), rows' = (List.range rows.length).map fun i => (List.range sz0).map fun j => D.v (vals i j) := ⟨_, rfl⟩
  obtain ⟨css, hcss⟩ : ∃ css : List (List Value), css = (List.range rows.length).map fun i => (List.range sz0).map fun j => vals i j := ⟨_, rfl⟩
  have hlen' : rows'.length = rows.length := by rw [hrows']; simp
  have hlc : css.length = rows.length := by rw [hcss]; simp
  have hl' : ∀ row ∈ rows', row.length = sz0 := by
    intro row hrow
    rw [hrows'] at hrow
    obtain ⟨i, _, rfl⟩ := List.mem_map.1 hrow
    simp
  have hlc' : ∀ row ∈ css, row.length = sz0 := by
    intro row hrow
    rw [hcss] at hrow
    obtain ⟨i, _, rfl⟩ := List.mem_map.1 hrow
    simp
  have hget' : ∀ i j, i < rows.length → j < sz0 → ∃ row, rows'[i]? = some row ∧ row[j]? = some (D.v (vals i j)) := by
    intro i j hi hj
    refine ⟨(List.range sz0).map fun j => D.v (vals i j), ?_, ?_⟩
    · rw [hrows', List.getElem?_map, List.getElem?_range hi]; rfl
    · rw [List.getElem?_map, List.getElem?_range hj]; rfl
  have hgetc : ∀ i j, i < rows.length → j < sz0 → css.flatten[i * sz0 + j]? = some (vals i j) := by
    intro i j hi hj
    refine flat_row css i j ((List.range sz0).map fun j => vals i j) _ hlc' ?_ ?_
    · rw [hcss, List.getElem?_map, List.getElem?_range hi]; rfl
    · rw [List.getElem?_map, List.getElem?_range hj]; rfl
  have hget : ∀ i j, i < rows.length → j < sz0 → ∃ row d, rows[i]? = some row ∧ row[j]? = some d := by
    intro i j hi hj
    have e := hl _ (List.getElem_mem hi)
    exact ⟨rows[i], rows[i][j]'(by omega), List.getElem?_eq_getElem hi, List.getElem?_eq_getElem (by omega)⟩
  have hbk : ∀ i j, i < rows.length → j < sz0 → ∀ row d, rows'[i]? = some row → row[j]? = some d → d = D.v (vals i j) := by
    intro i j hi hj row d h6 h7
    obtain ⟨row2, h8, h9⟩ := hget' i j hi hj
    rw [h8] at h6
    obtain rfl := Option.some.inj h6
    rw [h9] at h7
    exact (Option.some.inj h7).symm
  have harg : RelVs (K0 w) w [.d (.sl rows')] #[.slice (some ⟨b0, off0, none⟩) rows.length cap0] := by
    refine relVs_cons (.d ?_) (relVs_nil _ _)
    rw [← hlen']
    refine .sl (sz := sz0) vals (by omega) h2 hl' (fun i j row d hi hj => ?_) fun i j row d hi hj => ?_
    · have e1 := (List.getElem?_eq_some_iff.1 hi).1
      have e2 := (List.getElem?_eq_some_iff.1 hj).1
      rw [hl' _ (List.mem_of_getElem? hi)] at e2
      rw [hlen'] at e1
      obtain ⟨row2, d2, h6, h7⟩ := hget i j e1 e2
      obtain ⟨-, h8⟩ := h4 i j row2 d2 h6 h7
      exact ⟨⟨_, h8⟩, h8⟩
    · have e1 := (List.getElem?_eq_some_iff.1 hi).1
      have e2 := (List.getElem?_eq_some_iff.1 hj).1
      rw [hl' _ (List.mem_of_getElem? hi)] at e2
      rw [hlen'] at e1
      rw [hbk i j e1 e2 row d hi hj]
      obtain ⟨row2, d2, h6, h7⟩ := hget i j e1 e2
      exact .v (relD_ok (h5 i j row2 d2 h6 h7))
  refine ⟨css, hlc, hlc', ⟨by rw [flat_len _ hlc', hlc], hl, fun i j row d hi hj => ?_⟩, ?_⟩
  · have e1 := (List.getElem?_eq_some_iff.1 hi).1
    have e2 := (List.getElem?_eq_some_iff.1 hj).1
    rw [hl _ (List.mem_of_getElem? hi)] at e2
    exact ⟨vals i j, hgetc i j e1 e2, h5 i j row d hi hj⟩
  refine (h rows' hl' hlen' (F0 w) (K0 w) w _ (rel0 w) harg).mono ?_
  rintro e w' ⟨v', K1, p, s, rfl, hx, hr1, hv1, g, rfl, rfl⟩
  obtain ⟨u, xs, hu, hnf, hsl, how, hblk⟩ := hr1.ents (.tok g E sz0 rows'.length) (by simp)
  cases hv1 with
  | @own _ _ _ u' hd hu' hle heq =>
  rw [hu] at hu'
  obtain rfl := Option.some.inj hu'
  have hvu : v' = u := heq hsl.symm
  subst hvu
  have hbel : Below w.heap.size w w' := ⟨hx.os, hx.tape, hx.output, hx.size, fun k hk => hx.hp k hk⟩
  rcases how.2 with ⟨e1, e2⟩ | ⟨bb, cap, cur, e1, -, e3, e4, e5, e6, e7⟩
  · rw [e1] at hsl
    simp [slen] at hsl
    omega
  subst e1
  obtain ⟨hnew, -⟩ := hblk bb rfl
  have hge : w.heap.size ≤ bb := by
    rcases Nat.lt_or_ge bb w.heap.size with h6 | h6
    · exact absurd h6 hnew
    · exact h6
  have hcell : ∀ i j, i < rows.length → j < sz0 → cur[i * sz0 + j]? = some (vals i j) := by
    intro i j hi hj
    obtain ⟨row2, h8, h9⟩ := hget' i j hi hj
    generalize hrr : rows' = rs at hd h8
    cases hd with
    | nil _ => simp at h8
    | @sl sz1 _ _ _ _ vals1 g1 g2 g3 g4 g5 =>
    have hs1 : sz1 = sz0 := by
      have hm := List.mem_of_getElem? h8
      rw [← g3 _ hm, hl' _ (hrr ▸ hm)]
    subst hs1
    have h10 := (g4 i j row2 _ h8 h9).2
    have h11 := g5 i j row2 _ h8 h9
    rw [cell_at e3, Nat.zero_add] at h10
    rw [h10]
    generalize vals1 i j = y at h11
    cases h11; rfl
  rw [hlen'] at *
  refine ⟨_, _, rfl, ⟨by rw [flat_len _ hlc', hlc], .inr ⟨bb, cap, cur, rfl, hge, e3, e4, e5, e6, ?_⟩⟩, hbel⟩
  refine List.ext_getElem? fun k => ?_
  by_cases hk : k < rows.length * sz0
  · have hi : k / sz0 < rows.length := Nat.div_lt_of_lt_mul (by rw [Nat.mul_comm]; exact hk)
    have hj : k % sz0 < sz0 := Nat.mod_lt _ hsz
    have h6 := hcell _ _ hi hj
    have h7 := hgetc _ _ hi hj
    rw [show k / sz0 * sz0 + k % sz0 = k by rw [Nat.mul_comm]; exact Nat.div_add_mod k sz0] at h6 h7
    rw [h7, List.getElem?_take_of_lt hk, Array.getElem?_toList, h6]
  · rw [List.getElem?_eq_none (by rw [List.length_take]; omega), List.getElem?_eq_none (by rw [flat_len _ hlc', hlc]; omega)]
end Go.Proofs.Ytfnfbbmegdkhjaa

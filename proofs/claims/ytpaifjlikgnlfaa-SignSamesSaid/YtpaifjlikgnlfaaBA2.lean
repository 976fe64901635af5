import Derived.Test.YtpaifjlikgnlfaaBA1
import Derived.Test.YtpaifjlikgnlfaaBD
import Derived.Scope
set_option linter.unusedSimpArgs false
set_option linter.unusedVariables false
set_option maxHeartbeats 16000000
set_option maxRecDepth 100000
namespace Go.Proofs.Ytpaifjlikgnlfaa
open Go.RowKit
section
variable {P : Program} {n : Nat} {ops : Array Oper} {Q : PF → St → Prop} {rest : List Oper} {fr : PF} {st : St} {p : PV} {op : Op} {ty : TypeId} {pos : String} {after : Array Edge}
theorem Qh (h : Q fr st) : POps P n ops Q [] fr st := h
theorem POps_s {d : Nat} (hd : d < n) (he : nev P (PF.eval fr) op = some p) (h : POps P n ops Q rest ((d, p) :: fr) st) : POps P n ops Q (⟨some d, op, ty, pos, after, none⟩ :: rest) fr st :=
 ⟨fun _ e => by cases e; exact hd, .inl ⟨rfl, (nev_ok (o := ⟨some d, op, ty, pos, after, none⟩) he st).mono fun q s ⟨e1, e2⟩ => by subst e1; subst e2; exact h⟩⟩
theorem POps_b {d : Nat} (hd : d < n) (he : nevB P st (PF.eval fr) op = some p) (h : POps P n ops Q rest ((d, p) :: fr) st) : POps P n ops Q (⟨some d, op, ty, pos, after, none⟩ :: rest) fr st :=
 ⟨fun _ e => by cases e; exact hd, .inl ⟨rfl, (Qen (o := ⟨some d, op, ty, pos, after, none⟩) he).mono fun q s ⟨e1, e2⟩ => by subst e1; subst e2; exact h⟩⟩
theorem POps_gs {d : Nat} {gd : Option (Nat × Bool)} (hd : d < n) (hw : PF.wants fr ops ⟨some d, op, ty, pos, after, gd⟩ = some true) (he : nev P (PF.eval fr) op = some p) (h : POps P n ops Q rest ((d, p) :: fr) st) : POps P n ops Q (⟨some d, op, ty, pos, after, gd⟩ :: rest) fr st :=
 ⟨fun _ e => by cases e; exact hd, .inl ⟨hw, (nev_ok (o := ⟨some d, op, ty, pos, after, gd⟩) he st).mono fun q s ⟨e1, e2⟩ => by subst e1; subst e2; exact h⟩⟩
theorem POps_gb {d : Nat} {gd : Option (Nat × Bool)} (hd : d < n) (hw : PF.wants fr ops ⟨some d, op, ty, pos, after, gd⟩ = some true) (he : nevB P st (PF.eval fr) op = some p) (h : POps P n ops Q rest ((d, p) :: fr) st) : POps P n ops Q (⟨some d, op, ty, pos, after, gd⟩ :: rest) fr st :=
 ⟨fun _ e => by cases e; exact hd, .inl ⟨hw, (Qen (o := ⟨some d, op, ty, pos, after, gd⟩) he).mono fun q s ⟨e1, e2⟩ => by subst e1; subst e2; exact h⟩⟩
theorem POps_gn {d : Nat} {gd : Option (Nat × Bool)} (hd : d < n) (hw : PF.wants fr ops ⟨some d, op, ty, pos, after, gd⟩ = some false) (h : POps P n ops Q rest ((d, .tup []) :: fr) st) : POps P n ops Q (⟨some d, op, ty, pos, after, gd⟩ :: rest) fr st :=
 ⟨fun _ e => by cases e; exact hd, .inr ⟨hw, h⟩⟩
theorem Qde {d : Nat} {gd : Option (Nat × Bool)} (hd : d < n) (hw : PF.wants fr ops ⟨some d, op, ty, pos, after, gd⟩ = some true) (h : POp P ⟨some d, op, ty, pos, after, gd⟩ fr.eval st fun p st' => POps P n ops Q rest ((d, p) :: fr) st') : POps P n ops Q (⟨some d, op, ty, pos, after, gd⟩ :: rest) fr st :=
 ⟨fun _ e => by cases e; exact hd, .inl ⟨hw, h⟩⟩
theorem POps_e0 {gd : Option (Nat × Bool)} (hw : PF.wants fr ops ⟨none, op, ty, pos, after, gd⟩ = some true) (h : POp P ⟨none, op, ty, pos, after, gd⟩ fr.eval st fun _ st' => POps P n ops Q rest fr st') : POps P n ops Q (⟨none, op, ty, pos, after, gd⟩ :: rest) fr st :=
 ⟨fun _ e => (by cases e), .inl ⟨hw, h⟩⟩
theorem Qc {id : Nat} {l : List Oper} {Q : Exit → PF → St → Prop} (h : POps P n l.toArray (Q .normal) l fr st) : PW P n (.region id l.toArray false) Q fr st := PW_region (by simpa using h)
theorem Qj {next : PF → St → Prop} {Q : Exit → PF → St → Prop} (h : next fr st) : thenP next Q .normal fr st := h
theorem Qk {next : PF → St → Prop} {Q : Exit → PF → St → Prop} {id : Nat} (h : Q (.exit id) fr st) : thenP next Q (.exit id) fr st := h
theorem Ql {next : PF → St → Prop} {Q : Exit → PF → St → Prop} (h : Q .ret fr st) : thenP next Q .ret fr st := h
theorem Qm {Q : Exit → PF → St → Prop} {id : Nat} (h : Q .normal fr st) : Qec id Q .normal fr st := h
theorem Qn {Q : Exit → PF → St → Prop} {id : Nat} (h : Q .ret fr st) : Qec id Q .ret fr st := h
theorem Qo {Q : Exit → PF → St → Prop} {id : Nat} (h : Q .normal fr st) : Qec id Q (.exit id) fr st := by simp only [Qec, if_true]; exact h
theorem Qp {Q : Exit → PF → St → Prop} {id id' : Nat} (hne : Nat.beq id' id = false) (h : Q (.exit id') fr st) : Qec id Q (.exit id') fr st := by
 have : id' ≠ id := fun e => by subst e; rw [Nat.beq_refl] at hne; cases hne
 simp only [Qec, if_neg this]; exact h
theorem Jm {P : Program} {fn : Func} {R : PV → St → Prop} {rs : List ResultVar} {l : List PV} {st' : St} {e : Exit} (he : e = .normal ∨ e = .ret) (hr : fn.results.toList = rs) (hl : resP P fr st rs = some l) (hs : st'.Sublist st) (h : R (tupP l).norm2 st') : retP P fn R e fr st :=
 ⟨he, l, _, st', by rw [hr]; exact hl, leq_norm2 _, hs, h⟩
theorem Qew {P : Program} {fn : Func} {R : PV → St → Prop} {rs : List ResultVar} {l : List PV} {st' : St} {e : Exit} (he : e = .normal ∨ e = .ret) (hr : fn.results.toList = rs) (hl : resP P fr st rs = some l) (hs : st'.Sublist st) (h : R (tupP l) st') : retP P fn R e fr st :=
 ⟨he, l, _, st', by rw [hr]; exact hl, Leq.refl _, hs, h⟩
def PF.keep (fr : PF) (l : List Nat) : PF := l.filterMap fun t => (fr.get t).map fun p => (t, p)
theorem PW_cond_t {c : Operand} {x y : Code} {Q : Exit → PF → St → Prop} (hc : fr.eval c = some (.d (.v (.bool true)))) (h : PW P n x Q fr st) : PW P n (.cond c x y) Q fr st := PW_cond hc (fun _ => h) (fun e => by cases e)
theorem PW_cond_f {c : Operand} {x y : Code} {Q : Exit → PF → St → Prop} (hc : fr.eval c = some (.d (.v (.bool false)))) (h : PW P n y Q fr st) : PW P n (.cond c x y) Q fr st := PW_cond hc (fun e => by cases e) (fun _ => h)
end
mutual
def dtD : Dt → D
 | .v x => .v x
 | .str s => .v (.string s)
 | .s _ l => .sl (dtLL l)
def dtL : List Dt → List D
 | [] => []
 | d :: r => dtD d :: dtL r
def dtLL : List (List Dt) → List (List D)
 | [] => []
 | d :: r => dtL d :: dtLL r
end
theorem Qcw (l : List Dt) : dtL l = l.map dtD := by
 induction l with
 | nil => rfl
 | cons d r ih => simp only [dtL, List.map_cons, ih]
theorem Qcq (l : List (List Dt)) : dtLL l = l.map dtL := by
 induction l with
 | nil => rfl
 | cons d r ih => simp only [dtLL, List.map_cons, ih]
inductive DtOk : Dt → Prop
 | v {x} : okv x → DtOk (.v x)
 | str {s} : DtOk (.str s)
 | s {sz l} : 0 < sz → (∀ f ∈ l, f.length = sz) → (∀ f ∈ l, ∀ d ∈ f, DtOk d) → DtOk (.s sz l)
class EncOk (α : Type) [Enc α] : Prop where
 ok : ∀ a : α, ∀ d ∈ Enc.enc a, DtOk d
def encD {α : Type} [Enc α] (a : α) : List D := dtL (Enc.enc a)
theorem encD_len {α : Type} [Enc α] (a : α) : (encD a).length = Enc.sz α := by unfold encD; rw [Qcw, List.length_map]; exact Enc.len a
theorem RepF.of {S : Nat → Prop} {w : World} : ∀ {ds : List Dt} {cs : List Value}, cs.length = ds.length → (∀ (i : Nat) (d : Dt) (v : Value), ds[i]? = some d → cs[i]? = some v → RepV S w d v) → RepF S w ds cs := by
  intro ds
  induction ds with
  | nil => intro cs hl _; simp only [RepF]; exact List.eq_nil_of_length_eq_zero hl
  | cons d r ih =>
    intro cs hl h
    match cs, hl with
    | c :: cr, hl =>
      simp only [RepF]
      exact ⟨c, cr, rfl, h 0 d c rfl rfl, ih (by simpa using hl) fun i d' v h1 h2 => h (i + 1) d' v (by simpa using h1) (by simpa using h2)⟩
theorem RepF.get {S : Nat → Prop} {w : World} : ∀ {ds : List Dt} {cs : List Value}, RepF S w ds cs → ∀ (i : Nat) (d : Dt) (v : Value), ds[i]? = some d → cs[i]? = some v → RepV S w d v := by
  intro ds
  induction ds with
  | nil => intro cs h i d v hd; simp at hd
  | cons d r ih =>
    intro cs h i d' v hd hv
    simp only [RepF] at h
    obtain ⟨c, cr, rfl, h1, h2⟩ := h
    cases i with
    | zero =>
      have e1 := Option.some.inj hd
      have e2 := Option.some.inj hv
      subst e1; subst e2; exact h1
    | succ i => exact ih h2 i d' v (by simpa using hd) (by simpa using hv)
theorem repV_of {K : Nat → Nat → Prop} {w : World} : ∀ (d : Dt), DtOk d → ∀ v, RelD K w (dtD d) v → RepV (fun _ => True) w d v := by
  refine Dt.ind ?_ ?_ ?_
  · intro x ho v h
    simp only [dtD] at h
    simp only [RepV]
    cases h with
    | v h => exact ⟨rfl, okv_one h⟩
  · intro s ho v h
    simp only [dtD] at h
    simp only [RepV]
    cases h with
    | v h => exact ⟨rfl, h⟩
  · intro sz l ih ho v h
    simp only [dtD, Qcq] at h
    simp only [RepV]
    cases ho with
    | s h0 h1 h2 =>
    by_cases hne : l = []
    · subst hne
      simp only [List.map_nil] at h
      cases h with
      | nil hc => exact ⟨[], ⟨_, _, rfl, Nat.zero_le _, hc, fun h => absurd rfl h⟩, by simp only [RepL]⟩
      | sl vals q1 q2 q3 q4 q5 => exact ⟨[], ⟨_, _, rfl, Nat.zero_le _, q2, fun h => absurd rfl h⟩, by simp only [RepL]⟩
    · generalize hrows : l.map dtL = rows at h
      cases h with
      | nil hc => exact absurd (List.map_eq_nil_iff.1 hrows) hne
      | @sl sz' _ b off cap vals q1 q2 q3 q4 q5 =>
        have hlen : rows.length = l.length := by rw [← hrows, List.length_map]
        have hrow : ∀ (i : Nat) (f : List Dt), l[i]? = some f → rows[i]? = some (dtL f) := fun i f hi => by rw [← hrows, List.getElem?_map, hi]; rfl
        have hsz : sz' = sz := by
          obtain ⟨f, hf⟩ := List.exists_mem_of_ne_nil l hne
          have := q3 (dtL f) (by rw [← hrows]; exact List.mem_map.2 ⟨f, hf, rfl⟩)
          rw [← this, Qcw, List.length_map, h1 f hf]
        subst hsz
        have hd : ∀ (i j : Nat) (f : List Dt) (d : Dt), l[i]? = some f → f[j]? = some d → (dtL f)[j]? = some (dtD d) := fun i j f d _ hj => by rw [Qcw, List.getElem?_map, hj]; rfl
        have hl0 : 0 < l.length := List.length_pos_iff.2 hne
        refine ⟨(List.range l.length).map fun i => (List.range sz').map fun j => vals i j, ⟨some ⟨b, off, none⟩, cap, by simp [hlen], by simp; omega, q2, fun _ => ?_⟩, RepL.mk (by simp) fun i hi => ?_⟩
        · refine ⟨b, off, rfl, trivial, ?_, fun i c hic => ?_⟩
          · have hf0 : l[0]? = some l[0] := List.getElem?_eq_getElem hl0
            have hlz : 0 < (l[0]).length := by rw [h1 _ (List.getElem_mem hl0)]; exact h0
            have hj : (l[0])[0]? = some ((l[0])[0]) := List.getElem?_eq_getElem hlz
            have := (q4 0 0 _ _ (hrow 0 _ hf0) (hd 0 0 _ _ hf0 hj)).2
            exact World.block_lt_of_cell? w _ this
          · have hil : i < l.length := by
              have := (List.getElem?_eq_some_iff.1 hic).1
              simpa using this
            rw [List.getElem?_map, List.getElem?_range hil, Option.map_some, Option.some.injEq] at hic
            subst hic
            refine ⟨by simp, fun j x hx => ?_⟩
            have hjl : j < sz' := by
              have := (List.getElem?_eq_some_iff.1 hx).1
              simpa using this
            rw [List.getElem?_map, List.getElem?_range hjl, Option.map_some, Option.some.injEq] at hx
            subst hx
            have hfi : l[i]? = some l[i] := List.getElem?_eq_getElem hil
            have hlz : j < (l[i]).length := by rw [h1 _ (List.getElem_mem hil)]; exact hjl
            exact (q4 i j _ _ (hrow i _ hfi) (hd i j _ _ hfi (List.getElem?_eq_getElem hlz))).2
        · refine ⟨(List.range sz').map fun j => vals i j, by rw [List.getElem?_map, List.getElem?_range hi]; rfl, RepF.of (by rw [h1 _ (List.getElem_mem hi)]; simp) fun j d v hj hv => ?_⟩
          have hjl : j < sz' := by
            have := (List.getElem?_eq_some_iff.1 hv).1
            simpa using this
          rw [List.getElem?_map, List.getElem?_range hjl, Option.map_some, Option.some.injEq] at hv
          subst hv
          have hfi : l[i]? = some l[i] := List.getElem?_eq_getElem hi
          have hm : d ∈ l[i] := List.mem_of_getElem? hj
          exact ih _ (List.getElem_mem hi) d hm (h2 _ (List.getElem_mem hi) d hm) _ (q5 i j _ _ (hrow i _ hfi) (hd i j _ _ hfi hj))
theorem relD_of {S : Nat → Prop} {K : Nat → Nat → Prop} {w : World} (hK : ∀ b o v, S b → w.cell? ⟨b, o, none⟩ = some v → K b o) : ∀ (d : Dt), DtOk d → ∀ v, RepV S w d v → RelD K w (dtD d) v := by
 refine Dt.ind ?_ ?_ ?_
 ·intro x ho v h
  simp only [dtD]
  simp only [RepV] at h
  obtain ⟨rfl, h⟩ := h
  cases ho with
  | v h => exact .v h
 ·intro s ho v h
  simp only [dtD]
  simp only [RepV] at h
  obtain ⟨rfl, h⟩ := h
  exact .v h
 ·intro sz l ih ho v h
  simp only [dtD, Qcq]
  simp only [RepV] at h
  obtain ⟨css, ⟨a, cap, rfl, hle, hm, hc⟩, hr⟩ := h
  cases ho with
  | s h0 h1 h2 =>
  have hlen := hr.length
  by_cases hne : l = []
  ·subst hne
   have : css = [] := List.eq_nil_of_length_eq_zero (by rw [hlen]; rfl)
   subst this
   exact .nil hm
  ·obtain ⟨b, off, rfl, hS, hbl, hcell⟩ := hc (by intro e; rw [e] at hlen; exact hne (List.eq_nil_of_length_eq_zero hlen.symm))
   have key : ∀ (i j : Nat) (row : List D) (d : D), (l.map dtL)[i]? = some row → row[j]? = some d → ∃ x, w.cell? ⟨b, off + i * sz + j, none⟩ = some x ∧ RelD K w d x := by
    intro i j row d hi hj
    rw [List.getElem?_map] at hi
    obtain ⟨f, hf, rfl⟩ := Option.map_eq_some_iff.1 hi
    rw [Qcw, List.getElem?_map] at hj
    obtain ⟨e, he, rfl⟩ := Option.map_eq_some_iff.1 hj
    obtain ⟨hil, rfl⟩ := List.getElem?_eq_some_iff.1 hf
    obtain ⟨c, hci, hrf⟩ := hr.get i hil
    have hcl := hrf.length
    have hjl := (List.getElem?_eq_some_iff.1 he).1
    have hcj : c[j]? = some c[j] := List.getElem?_eq_getElem (by omega)
    have hm : e ∈ l[i] := List.mem_of_getElem? he
    exact ⟨c[j], (hcell i c hci).2 j _ hcj, ih _ (List.getElem_mem hil) e hm (h2 _ (List.getElem_mem hil) e hm) _ (hrf.get j e _ he hcj)⟩
   have hfin := RelD.sl (K := K) (w := w) (sz := sz) (rows := l.map dtL) (b := b) (off := off) (cap := cap) (fun i j => (w.cell? ⟨b, off + i * sz + j, none⟩).getD undef) (by rw [List.length_map]; omega) hm (fun row hrow => by
    obtain ⟨f, hf, rfl⟩ := List.mem_map.1 hrow
    rw [Qcw, List.length_map, h1 f hf]) (fun i j row d hi hj => by
     obtain ⟨x, hx, _⟩ := key i j row d hi hj
     exact ⟨hK b _ x hS hx, by rw [hx]; rfl⟩) fun i j row d hi hj => by
     obtain ⟨x, hx, hd⟩ := key i j row d hi hj
     rw [hx]; exact hd
   rw [List.length_map] at hfin
   rw [hlen]
   exact hfin
theorem relS_of {α : Type} [Enc α] [EncOk α] {S : Nat → Prop} {K : Nat → Nat → Prop} {w : World} (hK : ∀ b o v, S b → w.cell? ⟨b, o, none⟩ = some v → K b o) (h0 : 0 < Enc.sz α) {v : Value} {l : List α} (h : RepS S w v l) : RelD K w (.sl (l.map encD)) v := by
 have := relD_of hK _ (DtOk.s h0 (fun f hf => by obtain ⟨a, _, rfl⟩ := List.mem_map.1 hf; exact Enc.len a) fun f hf d hd => by obtain ⟨a, _, rfl⟩ := List.mem_map.1 hf; exact EncOk.ok a d hd) v h
 simp only [dtD, Qcq, List.map_map] at this
 exact this
def aggD {α : Type} [Enc α] (a : α) : PV := .agg ((encD a).map .d)
theorem rep_rel {α : Type} [Enc α] [EncOk α] {K : Kp} {w : World} {a : α} {v : Value} (h : RelV K w (aggD a) v) : ∃ cs : List Value, v = .agg cs.toArray ∧ Rep (fun _ => True) w a cs := by
  unfold aggD at h
  cases h with
  | @agg _ vs h1 h2 =>
    refine ⟨vs.toList, by simp, RepF.of (by rw [List.length_map, encD_len] at h1; rw [Enc.len]; simpa using h1) fun i d v hd hv => ?_⟩
    have hi : (encD a)[i]? = some (dtD d) := by unfold encD; rw [Qcw, List.getElem?_map, hd]; rfl
    have := h2 i (.d (dtD d)) v (by rw [List.getElem?_map, hi]; rfl) (by simpa using hv)
    cases this with
    | d h => exact repV_of d (EncOk.ok a d (List.mem_of_getElem? hd)) v h
theorem rel_rep {α : Type} [Enc α] [EncOk α] {S : Nat → Prop} {K : Kp} {w : World} (hK : ∀ b o v, S b → w.cell? ⟨b, o, none⟩ = some v → K.cell b o) {a : α} {cs : List Value} (h : Rep S w a cs) : RelV K w (aggD a) (.agg cs.toArray) := by
 have hl := h.length
 unfold aggD
 refine .agg (by rw [List.length_map, encD_len]; simpa using hl) fun i p v hp hv => ?_
 rw [List.getElem?_map] at hp
 obtain ⟨x, hx, rfl⟩ := Option.map_eq_some_iff.1 hp
 unfold encD at hx
 rw [Qcw, List.getElem?_map] at hx
 obtain ⟨d, hd, rfl⟩ := Option.map_eq_some_iff.1 hx
 exact .d (relD_of hK d (EncOk.ok a d (List.mem_of_getElem? hd)) v (RepF.get h i d v hd (by simpa using hv)))
theorem ndD_ok : ∀ (t : Nd), ∀ d ∈ ndD t, DtOk d := by
 refine Nd.ind ?_
 intro k a s n sub ih d hd
 simp only [ndD, List.mem_cons, List.not_mem_nil, or_false] at hd
 rcases hd with rfl | rfl | rfl | rfl | rfl
 ·exact .v trivial
 ·exact .v trivial
 ·exact .str
 ·exact .v trivial
 ·refine .s (by decide) (fun f hf => ?_) fun f hf d hd => ?_
  ·rw [ndDs_map] at hf; obtain ⟨t, _, rfl⟩ := List.mem_map.1 hf; exact ndD_len t
  ·rw [ndDs_map] at hf; obtain ⟨t, ht, rfl⟩ := List.mem_map.1 hf; exact ih t ht d hd
instance : EncOk Nd := ⟨ndD_ok⟩
theorem Qee {α : Type} [Enc α] [EncOk α] (h0 : 0 < Enc.sz α) (l : List α) : DtOk (.s (Enc.sz α) (l.map Enc.enc)) :=
 .s h0 (fun f hf => by obtain ⟨a, _, rfl⟩ := List.mem_map.1 hf; exact Enc.len a) fun f hf d hd => by obtain ⟨a, _, rfl⟩ := List.mem_map.1 hf; exact EncOk.ok a d hd
instance : EncOk Bd := ⟨fun b d hd => by
 simp only [Enc.enc, List.mem_append, List.mem_cons, List.not_mem_nil, or_false] at hd
 rcases hd with (rfl | rfl) | hd
 ·exact .str
 ·exact .v trivial
 ·exact ndD_ok _ d hd⟩
instance : EncOk Rw := ⟨fun b d hd => by
 simp only [Enc.enc, List.mem_append, List.mem_cons, List.not_mem_nil, or_false] at hd
 rcases hd with (rfl | rfl | rfl) | hd
 ·exact .v trivial
 ·exact Qee (α := Nd) (by decide) b.pats
 ·exact .v trivial
 ·exact ndD_ok _ d hd⟩
instance : EncOk Dc := ⟨fun b d hd => by
 simp only [Enc.enc, List.mem_append, List.mem_cons, List.not_mem_nil, or_false] at hd
 rcases hd with (rfl | rfl | rfl | rfl) | hd | rfl | rfl
 ·exact .v trivial
 ·exact .v trivial
 ·exact .str
 ·exact Qee (α := Bd) (by decide) b.tele
 ·exact ndD_ok _ d hd
 ·exact Qee (α := Bd) (by decide) b.cons
 ·exact Qee (α := Rw) (by decide) b.rows⟩
instance : EncOk ByteArray := ⟨fun b d hd => by
 simp only [Enc.enc, List.mem_cons, List.not_mem_nil, or_false] at hd
 subst hd; exact .str⟩
instance : EncOk Int := ⟨fun b d hd => by
 simp only [Enc.enc, List.mem_cons, List.not_mem_nil, or_false] at hd
 subst hd; exact .v trivial⟩
def slD {α : Type} [Enc α] (l : List α) : D := .sl (l.map encD)
theorem Jh (t : Nd) : encD t = [.v (.int .i64 t.kind), .v (.int .i64 t.at), .v (.string t.name), .v (.int .i64 t.num), .sl (t.sub.map encD)] := by
  cases t with
  | mk k a s n sub =>
    unfold encD
    simp only [Enc.enc, ndD, dtL, dtD, Qcq, ndDs_map, List.map_map, Nd.kind, Nd.at, Nd.name, Nd.num, Nd.sub]
    rfl
theorem Qcr (a b : List Dt) : dtL (a ++ b) = dtL a ++ dtL b := by rw [Qcw, Qcw, Qcw, List.map_append]
theorem Jk (b : Bd) : encD b = [.v (.string b.name), .v (.int .i64 b.at_), .v (.int .i64 b.ty.kind), .v (.int .i64 b.ty.at), .v (.string b.ty.name), .v (.int .i64 b.ty.num), .sl (b.ty.sub.map encD)] := by
 have h := Jh b.ty
 unfold encD at h ⊢
 simp only [Enc.enc] at h ⊢
 rw [Qcr, h]; rfl
theorem Ji (r : Rw) : encD r = [.v (.int .i64 r.at_), .sl (r.pats.map encD), .v (.bool r.has), .v (.int .i64 r.body.kind), .v (.int .i64 r.body.at), .v (.string r.body.name), .v (.int .i64 r.body.num), .sl (r.body.sub.map encD)] := by
 have h := Jh r.body
 unfold encD at h ⊢
 simp only [Enc.enc] at h ⊢
 rw [Qcr, h]
 simp only [dtL, dtD, Qcq, List.map_map]; rfl
theorem Jj (d : Dc) : encD d = [.v (.int .i64 d.kind), .v (.int .i64 d.at_), .v (.string d.name), .sl (d.tele.map encD), .v (.int .i64 d.ty.kind), .v (.int .i64 d.ty.at), .v (.string d.ty.name), .v (.int .i64 d.ty.num), .sl (d.ty.sub.map encD), .sl (d.cons.map encD), .sl (d.rows.map encD)] := by
 have h := Jh d.ty
 unfold encD at h ⊢
 simp only [Enc.enc] at h ⊢
 rw [Qcr, Qcr, h]
 simp only [dtL, dtD, Qcq, List.map_map]; rfl
theorem Jg (s : ByteArray) : encD s = [.v (.string s)] := rfl
theorem Jf (n : Int) : encD n = [.v (.int .i64 n)] := rfl
section
variable {P : Program} {n : Nat} {ops : Array Oper} {Q : PF → St → Prop} {rest : List Oper} {fr : PF} {st : St} {p : PV} {op : Op} {ty : TypeId} {pos : String} {after : Array Edge} {gd : Option (Nat × Bool)}
theorem POps_call {d f : Nat} {xs : Array Operand} {ts : Array TypeId} {ps qs : List PV} {r : PV} (hc : PCalls P f qs [] fun p s => p = r ∧ s = []) (hd : d < n) (hw : PF.wants fr ops ⟨some d, .call { callee := .value (.func f), args := xs, argTypes := ts }, ty, pos, after, gd⟩ = some true) (hxs : Jo fr.eval xs.toList = some ps) (hn : ps.map PV.norm1 = qs) (hca : Qau P f = true)
  (h : POps P n ops Q rest ((d, r) :: fr) st) : POps P n ops Q (⟨some d, .call { callee := .value (.func f), args := xs, argTypes := ts }, ty, pos, after, gd⟩ :: rest) fr st :=
 Qde hd hw ((Qet (o := ⟨some d, .call { callee := .value (.func f), args := xs, argTypes := ts }, ty, pos, after, gd⟩) rfl rfl rfl hxs hca hn hc st).mono fun q s ⟨e1, e2⟩ => by subst e1; subst e2; exact h)
theorem POps_bs {d len : Nat} {t : TypeId} {parts : Array (Nat × Operand)} {E es bytes ts : Nat} {ea : Option Bool} {T0 : Ty} {e0 : Nat × Nat} {cells : List PV} {rows : List (List D)} (hd : d < n) (hw : PF.wants fr ops ⟨some d, .buildSlice t len parts, ty, pos, after, gd⟩ = some true) (hT : tyOf P t = some T0) (hT2 : T0 = ⟨ts, .slice E es ea⟩) (hE : elOf P E = some e0) (hE2 : e0 = (es, bytes)) (h0 : 0 < len * es) (h24 : len * es ≤ 16777216) (hf : Qcd (fun i => some (i * es, es)) fr.eval (List.replicate (len * es) .u) parts.toList = some cells) (hr : Qcc es len cells = some rows)
  (h : POps P n ops Q rest ((d, .d (.sl rows)) :: fr) st) : POps P n ops Q (⟨some d, .buildSlice t len parts, ty, pos, after, gd⟩ :: rest) fr st :=
 Qde hd hw ((Qea (o := ⟨some d, .buildSlice t len parts, ty, pos, after, gd⟩) rfl (hT2 ▸ hT) rfl (hE2 ▸ hE) h0 h24 hf hr st).mono fun q s ⟨e1, e2⟩ => by subst e1; subst e2; exact h)
variable {od : List (Nat × Kd)} {i d : Nat}
theorem Qi (h : Q fr st) : POrd P n ops Q [] fr st := h
theorem POrd_s {k : Kd} (ho : ops[i]? = some ⟨some d, op, ty, pos, after, gd⟩) (hd : d < n) (hw : PF.wants fr ops ⟨some d, op, ty, pos, after, gd⟩ = some true) (he : nev P fr.eval op = some p) (h : POrd P n ops Q od ((d, p) :: fr) st) : POrd P n ops Q ((i, k) :: od) fr st := by
 refine ⟨_, ho, fun _ e => (by cases e; exact hd), .inr ⟨hw, ?_⟩⟩
 have hn := fun s => nev_ok (o := ⟨some d, op, ty, pos, after, gd⟩) he s
 cases k with
 | a => exact ⟨p, hn, h⟩
 | b => exact ⟨p, hn st, h⟩
 | e => exact (hn st).mono fun q s ⟨e1, e2⟩ => by subst e1; subst e2; exact h
theorem POrd_b (ho : ops[i]? = some ⟨some d, op, ty, pos, after, gd⟩) (hd : d < n) (hw : PF.wants fr ops ⟨some d, op, ty, pos, after, gd⟩ = some true) (he : nevB P st fr.eval op = some p) (h : POrd P n ops Q od ((d, p) :: fr) st) : POrd P n ops Q ((i, .b) :: od) fr st :=
 ⟨_, ho, fun _ e => (by cases e; exact hd), .inr ⟨hw, p, Qen (o := ⟨some d, op, ty, pos, after, gd⟩) he, h⟩⟩
theorem POrd_gn {k : Kd} (ho : ops[i]? = some ⟨some d, op, ty, pos, after, gd⟩) (hd : d < n) (hw : PF.wants fr ops ⟨some d, op, ty, pos, after, gd⟩ = some false) (h : POrd P n ops Q od ((d, .tup []) :: fr) st) : POrd P n ops Q ((i, k) :: od) fr st :=
 ⟨_, ho, fun _ e => (by cases e; exact hd), .inl ⟨hw, h⟩⟩
theorem POrd_call {f : Nat} {xs : Array Operand} {ts : Array TypeId} {ps qs : List PV} {r : PV} (hc : PCalls P f qs [] fun p s => p = r ∧ s = []) (ho : ops[i]? = some ⟨some d, .call { callee := .value (.func f), args := xs, argTypes := ts }, ty, pos, after, gd⟩) (hd : d < n) (hw : PF.wants fr ops ⟨some d, .call { callee := .value (.func f), args := xs, argTypes := ts }, ty, pos, after, gd⟩ = some true) (hxs : Jo fr.eval xs.toList = some ps) (hn : ps.map PV.norm1 = qs) (hca : Qau P f = true)
  (h : POrd P n ops Q od ((d, r) :: fr) st) : POrd P n ops Q ((i, .a) :: od) fr st :=
 ⟨_, ho, fun _ e => (by cases e; exact hd), .inr ⟨hw, r, fun s => Qet (o := ⟨some d, .call { callee := .value (.func f), args := xs, argTypes := ts }, ty, pos, after, gd⟩) rfl rfl rfl hxs hca hn hc s, h⟩⟩
theorem POrd_bs {len : Nat} {t : TypeId} {parts : Array (Nat × Operand)} {E es bytes ts : Nat} {ea : Option Bool} {T0 : Ty} {e0 : Nat × Nat} {cells : List PV} {rows : List (List D)} (ho : ops[i]? = some ⟨some d, .buildSlice t len parts, ty, pos, after, gd⟩) (hd : d < n) (hw : PF.wants fr ops ⟨some d, .buildSlice t len parts, ty, pos, after, gd⟩ = some true) (hT : tyOf P t = some T0) (hT2 : T0 = ⟨ts, .slice E es ea⟩) (hE : elOf P E = some e0) (hE2 : e0 = (es, bytes)) (h0 : 0 < len * es) (h24 : len * es ≤ 16777216) (hf : Qcd (fun i => some (i * es, es)) fr.eval (List.replicate (len * es) .u) parts.toList = some cells) (hr : Qcc es len cells = some rows)
  (h : POrd P n ops Q od ((d, .d (.sl rows)) :: fr) st) : POrd P n ops Q ((i, .a) :: od) fr st :=
 ⟨_, ho, fun _ e => (by cases e; exact hd), .inr ⟨hw, _, fun s => Qea (o := ⟨some d, .buildSlice t len parts, ty, pos, after, gd⟩) rfl (hT2 ▸ hT) rfl (hE2 ▸ hE) h0 h24 hf hr s, h⟩⟩
theorem POrd_e (ho : ops[i]? = some ⟨some d, op, ty, pos, after, gd⟩) (hd : d < n) (hw : PF.wants fr ops ⟨some d, op, ty, pos, after, gd⟩ = some true) (h : POp P ⟨some d, op, ty, pos, after, gd⟩ fr.eval st fun p st' => POrd P n ops Q od ((d, p) :: fr) st') : POrd P n ops Q ((i, .e) :: od) fr st :=
 ⟨_, ho, fun _ e => (by cases e; exact hd), .inr ⟨hw, h⟩⟩
theorem POrd_e0 (ho : ops[i]? = some ⟨none, op, ty, pos, after, gd⟩) (hw : PF.wants fr ops ⟨none, op, ty, pos, after, gd⟩ = some true) (h : POp P ⟨none, op, ty, pos, after, gd⟩ fr.eval st fun _ st' => POrd P n ops Q od fr st') : POrd P n ops Q ((i, .e) :: od) fr st :=
 ⟨_, ho, fun _ e => (by cases e), .inr ⟨hw, h⟩⟩
end
section
variable {P : Program} {n : Nat} {ops : Array Oper} {Q : PF → St → Prop} {rest : List Oper} {fr : PF} {st : St} {p : PV} {ty : TypeId} {pos : String} {after : Array Edge} {gd : Option (Nat × Bool)} {od : List (Nat × Kd)} {j d : Nat}
theorem Qfm {t : TypeId} {x y : Operand} {q : PV} {i off : Nat} {T : Ty} {c : TypeId × List PV} {U : TypeId} {cs ps : List PV} {st' : St} {R : PV → St → Prop} {o : Oper} (ho : o.op = .store t x y) (hx : fr.eval x = some q) (hq : q = .ptr i off) (hy : fr.eval y = some p) (hps : p.ps = ps) (hone : ps.all PV.one = true) (hT : tyOf P t = some T) (hsz : ps.length = T.size) (hb : st.box? i = some c) (hc : c = (U, cs)) (hfit : off + ps.length ≤ cs.length) (hs : st.setBox i (spl cs off ps) = st') (h : R (.tup []) st') : POp P o fr.eval st R := by
 subst hq; subst hps; subst hc; subst hs
 exact POp_store ho hx hy hone hT hsz hb hfit h
theorem POps_store {t : TypeId} {x y : Operand} {q : PV} {i off : Nat} {T : Ty} {c : TypeId × List PV} {U : TypeId} {cs ps : List PV} {st' : St} (hw : PF.wants fr ops ⟨none, .store t x y, ty, pos, after, gd⟩ = some true) (hx : fr.eval x = some q) (hq : q = .ptr i off) (hy : fr.eval y = some p) (hps : p.ps = ps) (hone : ps.all PV.one = true) (hT : tyOf P t = some T) (hsz : ps.length = T.size) (hb : st.box? i = some c) (hc : c = (U, cs)) (hfit : off + ps.length ≤ cs.length) (hs : st.setBox i (spl cs off ps) = st')
  (h : POps P n ops Q rest fr st') : POps P n ops Q (⟨none, .store t x y, ty, pos, after, gd⟩ :: rest) fr st :=
 POps_e0 hw (Qfm rfl hx hq hy hps hone hT hsz hb hc hfit hs h)
theorem POrd_store {t : TypeId} {x y : Operand} {q : PV} {i off : Nat} {T : Ty} {c : TypeId × List PV} {U : TypeId} {cs ps : List PV} {st' : St} (ho : ops[j]? = some ⟨none, .store t x y, ty, pos, after, gd⟩) (hw : PF.wants fr ops ⟨none, .store t x y, ty, pos, after, gd⟩ = some true) (hx : fr.eval x = some q) (hq : q = .ptr i off) (hy : fr.eval y = some p) (hps : p.ps = ps) (hone : ps.all PV.one = true) (hT : tyOf P t = some T) (hsz : ps.length = T.size) (hb : st.box? i = some c) (hc : c = (U, cs)) (hfit : off + ps.length ≤ cs.length) (hs : st.setBox i (spl cs off ps) = st')
  (h : POrd P n ops Q od fr st') : POrd P n ops Q ((j, .e) :: od) fr st :=
 POrd_e0 ho hw (Qfm rfl hx hq hy hps hone hT hsz hb hc hfit hs h)
theorem POps_box {T : TypeId} {x : Operand} {ps : List PV} (hd : d < n) (hw : PF.wants fr ops ⟨some d, .box T x, ty, pos, after, gd⟩ = some true) (hx : fr.eval x = some p) (hps : p.ps = ps) (hone : ps.all PV.one = true) (h : ∀ i, st.freshB i → POps P n ops Q rest ((d, .ptr i 0) :: fr) (.box i T ps :: st)) : POps P n ops Q (⟨some d, .box T x, ty, pos, after, gd⟩ :: rest) fr st := by
 subst hps
 exact Qde hd hw (POp_box rfl hx hone h)
theorem POps_alloc {T : TypeId} {ps : List PV} (hd : d < n) (hw : PF.wants fr ops ⟨some d, .alloc T, ty, pos, after, gd⟩ = some true) (hz : Qci P T = some ps) (h : ∀ i, st.freshB i → POps P n ops Q rest ((d, .ptr i 0) :: fr) (.box i T ps :: st)) : POps P n ops Q (⟨some d, .alloc T, ty, pos, after, gd⟩ :: rest) fr st :=
 Qde hd hw (POp_alloc rfl hz h)
theorem op_app {s x : Operand} {t xt : TypeId} {q : PV} {g : Nat} {rows rows' : List (List D)} {ts E es bytes : Nat} {ea : Option Bool} {T0 : Ty} {e0 : Nat × Nat} {c : TypeId × Nat × Nat} {n' : Nat} {st' : St} {R : PV → St → Prop} {o : Oper} (ho : o.op = .call { callee := .builtin .append, args := #[s, x], argTypes := #[t, xt] }) (hs : fr.eval s = some q) (hq : q = .own g rows) (hx : fr.eval x = some p) (hp : p.src = some rows')
  (hT : tyOf P t = some T0) (hT2 : T0 = ⟨ts, .slice E es ea⟩) (hX : Qbp ((tyOf P xt).map (·.k)) = true) (hE : elOf P E = some e0) (hE2 : e0 = (es, bytes)) (hes : 0 < es) (htok : st.tok? g = some c) (hc : c = (E, es, rows.length)) (hn' : rows.length + rows'.length = n') (hs' : st.setTok g n' = st') (hl0 : ∀ row ∈ rows, row.length = es) (hl : ∀ row ∈ rows', row.length = es) (hm : n' ≤ 4294967296) (hb : bytes ≤ 32768)
  (h : R (.own g (rows ++ rows')) st') : POp P o fr.eval st R := by
 subst hq; subst hc; subst hs'; subst hT2; subst hE2; subst hn'
 have h1 : (rows.length + rows'.length) * bytes ≤ 4294967296 * 32768 := Nat.mul_le_mul (by omega) hb
 exact POp_append ho hs hx hp hT rfl hX hE hes hl0 hl htok (by unfold maxLen; omega) (by omega) h
theorem POps_app {s x : Operand} {t xt : TypeId} {q : PV} {g : Nat} {rows rows' : List (List D)} {ts E es bytes : Nat} {ea : Option Bool} {T0 : Ty} {e0 : Nat × Nat} {c : TypeId × Nat × Nat} {st' : St} (n' : Nat) (hd : d < n) (hw : PF.wants fr ops ⟨some d, .call { callee := .builtin .append, args := #[s, x], argTypes := #[t, xt] }, ty, pos, after, gd⟩ = some true) (hs : fr.eval s = some q) (hq : q = .own g rows) (hx : fr.eval x = some p) (hp : p.src = some rows')
  (hT : tyOf P t = some T0) (hT2 : T0 = ⟨ts, .slice E es ea⟩) (hX : Qbp ((tyOf P xt).map (·.k)) = true) (hE : elOf P E = some e0) (hE2 : e0 = (es, bytes)) (hes : 0 < es) (htok : st.tok? g = some c) (hc : c = (E, es, rows.length)) (hn' : rows.length + rows'.length = n') (hs' : st.setTok g n' = st') (hl0 : ∀ row ∈ rows, row.length = es) (hl : ∀ row ∈ rows', row.length = es) (hm : n' ≤ 4294967296) (hb : bytes ≤ 32768)
  (h : POps P n ops Q rest ((d, .own g (rows ++ rows')) :: fr) st') : POps P n ops Q (⟨some d, .call { callee := .builtin .append, args := #[s, x], argTypes := #[t, xt] }, ty, pos, after, gd⟩ :: rest) fr st :=
 Qde hd hw (op_app rfl hs hq hx hp hT hT2 hX hE hE2 hes htok hc hn' hs' hl0 hl hm hb h)
theorem POrd_app {s x : Operand} {t xt : TypeId} {q : PV} {g : Nat} {rows rows' : List (List D)} {ts E es bytes : Nat} {ea : Option Bool} {T0 : Ty} {e0 : Nat × Nat} {c : TypeId × Nat × Nat} {st' : St} (n' : Nat) (ho : ops[j]? = some ⟨some d, .call { callee := .builtin .append, args := #[s, x], argTypes := #[t, xt] }, ty, pos, after, gd⟩) (hd : d < n) (hw : PF.wants fr ops ⟨some d, .call { callee := .builtin .append, args := #[s, x], argTypes := #[t, xt] }, ty, pos, after, gd⟩ = some true) (hs : fr.eval s = some q) (hq : q = .own g rows) (hx : fr.eval x = some p) (hp : p.src = some rows')
  (hT : tyOf P t = some T0) (hT2 : T0 = ⟨ts, .slice E es ea⟩) (hX : Qbp ((tyOf P xt).map (·.k)) = true) (hE : elOf P E = some e0) (hE2 : e0 = (es, bytes)) (hes : 0 < es) (htok : st.tok? g = some c) (hc : c = (E, es, rows.length)) (hn' : rows.length + rows'.length = n') (hs' : st.setTok g n' = st') (hl0 : ∀ row ∈ rows, row.length = es) (hl : ∀ row ∈ rows', row.length = es) (hm : n' ≤ 4294967296) (hb : bytes ≤ 32768)
  (h : POrd P n ops Q od ((d, .own g (rows ++ rows')) :: fr) st') : POrd P n ops Q ((j, .e) :: od) fr st :=
 POrd_e ho hd hw (op_app rfl hs hq hx hp hT hT2 hX hE hE2 hes htok hc hn' hs' hl0 hl hm hb h)
theorem rows_of {α : Type} [Enc α] {l : List α} {es : Nat} (h : Enc.sz α = es) : ∀ row ∈ l.map encD, row.length = es := by
 intro row hr
 obtain ⟨a, _, rfl⟩ := List.mem_map.1 hr
 rw [encD_len, h]
theorem Qfp {r : List D} {es : Nat} (h : r.length = es) : ∀ row ∈ [r], row.length = es := by
 intro row hr
 rw [List.mem_singleton] at hr
 subst hr; exact h
end
theorem Jt (fr' : PF) : ∀ t p, PF.get [] t = some p → fr'.get t = some p := fun t p h => by cases h
theorem Js {fr' rest : PF} {t0 : Nat} {p0 q : PV} (h0 : fr'.get t0 = some q) (he : q = p0) (h : ∀ t p, rest.get t = some p → fr'.get t = some p) : ∀ t p, PF.get ((t0, p0) :: rest) t = some p → fr'.get t = some p := by
 intro t p hp
 subst he
 simp only [PF.get] at hp
 split at hp
 ·rename_i e; subst e; rw [← hp]; exact h0
 ·exact h t p hp
theorem PW_ownB {P : Program} {n : Nat} {Q : Exit → PF → St → Prop} {fr : PF} {st : St} {c : Code} (i j : Nat) (E sz : Nat) {x : TypeId × List PV} {U : TypeId} {cs : List PV} {st' : Nat → St} (hb : st.box? i = some x) (hx : x = (U, cs)) (hj : cs[j]? = some .nils) (hs : ∀ g, st.setBox i (cs.set j (.own g [])) = st' g) (hsz : 0 < sz) (h : ∀ g, St.freshT st g → PW P n c Q fr (.tok g E sz 0 :: st' g)) : PW P n c Q fr st := by
 subst hx
 exact PW_ownBox i j E sz hsz hb hj fun g hg => by rw [hs]; exact h g hg
theorem Qam {α : Type} [Enc α] {l : List α} {k : Nat} (h : k < l.length) : (l.map encD)[k]? = some (encD l[k]) := by rw [List.getElem?_map, List.getElem?_eq_getElem h]; rfl
theorem Hh {p : Prop} (h : p) : Hid p := Lib.hid h
theorem eQ {p : Prop} (h : p := by simp [nev, nevA, nevB, Jp, PF.eval, PF.get, PF.wants, cPV, Qdh, PV.rows, evBin, evUn, Jq, evLen, loadA, Jn, TyK.agg, Qdc, St.box?, St.tok?, St.setBox, St.setTok, Qcd, spl, PV.ps, PV.one, Jo, aggD, slD, Jh, Jk, Ji, Jj, Jg, Jf, *]; rfl) : p := h
theorem eD {p : Prop} (h : p := by first | (simp [nev, nevA, nevB, Jp, PF.eval, PF.get, PF.wants, cPV, Qdh, PV.rows, evBin, evUn, Jq, evLen, loadA, Jn, TyK.agg, Qdc, St.box?, St.tok?, St.setBox, St.setTok, Qcd, spl, PV.ps, PV.one, Jo, aggD, slD, Jh, Jk, Ji, Jj, Jg, Jf, *]; done) | fail) : p := h
theorem dR {α : Type _} {a b : List α} (h : List.Sublist a b := by repeat (first | exact List.Sublist.refl _ | exact List.nil_sublist _ | refine List.Sublist.cons_cons _ ?_ | refine List.Sublist.cons _ ?_)) : List.Sublist a b := h
theorem sU {x y : PF} (h : ∀ t p, PF.get x t = some p → y.get t = some p := by repeat (first | exact Jt _ | refine Js (by simp [PF.get]; rfl) (by first | rfl | (simp [*]; done) | fail) ?_)) : ∀ t p, PF.get x t = some p → y.get t = some p := h
theorem rT {P : Program} {fn : Func} {R : PV → St → Prop} {a : Array ResultVar} {l : List PV} {e : Exit} {fr : PF} {st : St} (hr : fn.results = a) (h : R (tupP l).norm2 []) (he : e = .normal ∨ e = .ret := by simp) (hl : resP P fr st a.toList = some l := by simp [resP, St.box?, PF.get, Jn, TyK.agg, *]; rfl) : retP P fn R e fr st := Jm he (congrArg Array.toList hr) hl Nl h
theorem rS {P : Program} {fn : Func} {R : PV → St → Prop} {a : Array ResultVar} {l : List PV} {st' : St} {e : Exit} {fr : PF} {st : St} (hr : fn.results = a) (h : R (tupP l).norm2 st') (he : e = .normal ∨ e = .ret := by simp) (hl : resP P fr st a.toList = some l := by simp [resP, St.box?, PF.get, Jn, TyK.agg, *]; rfl) (hs : List.Sublist st' st := by repeat (first | exact List.Sublist.refl _ | exact List.nil_sublist _ | refine List.Sublist.cons_cons _ ?_ | refine List.Sublist.cons _ ?_)) : retP P fn R e fr st := Jm he (congrArg Array.toList hr) hl hs h
section
variable {P : Program} {n : Nat} {ops : Array Oper} {Q : PF → St → Prop} {rest : List Oper} {fr : PF} {st : St} {p : PV} {op : Op} {ty : TypeId} {pos : String} {after : Array Edge}
theorem Qq {d : Nat} (h : POps P n ops Q rest ((d, p) :: fr) st) (hd : d < n := by decide) (he : nev P (PF.eval fr) op = some p := by exact eQ) : POps P n ops Q (⟨some d, op, ty, pos, after, none⟩ :: rest) fr st :=
 POps_s hd he h
end
section
variable {P : Program} {n : Nat} {ops : Array Oper} {Q : PF → St → Prop} {rest : List Oper} {fr : PF} {st : St} {p : PV} {op : Op} {ty : TypeId} {pos : String} {after : Array Edge}
theorem Qr {d : Nat} (h : POps P n ops Q rest ((d, p) :: fr) st) (hd : d < n := by decide) (he : nevB P st (PF.eval fr) op = some p := by exact eQ) : POps P n ops Q (⟨some d, op, ty, pos, after, none⟩ :: rest) fr st :=
 POps_b hd he h
end
section
variable {P : Program} {n : Nat} {ops : Array Oper} {Q : PF → St → Prop} {rest : List Oper} {fr : PF} {st : St} {p : PV} {op : Op} {ty : TypeId} {pos : String} {after : Array Edge}
theorem Qs {d : Nat} {gd : Option (Nat × Bool)} (h : POps P n ops Q rest ((d, .tup []) :: fr) st) (hd : d < n := by decide) (hw : PF.wants fr ops ⟨some d, op, ty, pos, after, gd⟩ = some false := by exact eD) : POps P n ops Q (⟨some d, op, ty, pos, after, gd⟩ :: rest) fr st :=
 POps_gn hd hw h
end
section
variable {P : Program} {n : Nat} {ops : Array Oper} {Q : PF → St → Prop} {rest : List Oper} {fr : PF} {st : St} {p : PV} {op : Op} {ty : TypeId} {pos : String} {after : Array Edge}
theorem Qt {d : Nat} {gd : Option (Nat × Bool)} (h : POps P n ops Q rest ((d, p) :: fr) st) (hd : d < n := by decide) (hw : PF.wants fr ops ⟨some d, op, ty, pos, after, gd⟩ = some true := by exact eD) (he : nev P (PF.eval fr) op = some p := by exact eQ) : POps P n ops Q (⟨some d, op, ty, pos, after, gd⟩ :: rest) fr st :=
 POps_gs hd hw he h
end
section
variable {P : Program} {n : Nat} {ops : Array Oper} {Q : PF → St → Prop} {rest : List Oper} {fr : PF} {st : St} {p : PV} {op : Op} {ty : TypeId} {pos : String} {after : Array Edge}
theorem Qu {d : Nat} {gd : Option (Nat × Bool)} (h : POps P n ops Q rest ((d, p) :: fr) st) (hd : d < n := by decide) (hw : PF.wants fr ops ⟨some d, op, ty, pos, after, gd⟩ = some true := by exact eD) (he : nevB P st (PF.eval fr) op = some p := by exact eQ) : POps P n ops Q (⟨some d, op, ty, pos, after, gd⟩ :: rest) fr st :=
 POps_gb hd hw he h
end
section
variable {P : Program} {n : Nat} {ops : Array Oper} {Q : PF → St → Prop} {rest : List Oper} {fr : PF} {st : St} {p : PV} {op : Op} {ty : TypeId} {pos : String} {after : Array Edge}
theorem Qv {c : Operand} {x y : Code} {Q : Exit → PF → St → Prop} (h : PW P n x Q fr st) (hc : fr.eval c = some (.d (.v (.bool true))) := by exact eD) : PW P n (.cond c x y) Q fr st :=
 PW_cond_t hc h
end
section
variable {P : Program} {n : Nat} {ops : Array Oper} {Q : PF → St → Prop} {rest : List Oper} {fr : PF} {st : St} {p : PV} {op : Op} {ty : TypeId} {pos : String} {after : Array Edge}
theorem Qw {c : Operand} {x y : Code} {Q : Exit → PF → St → Prop} (h : PW P n y Q fr st) (hc : fr.eval c = some (.d (.v (.bool false))) := by exact eD) : PW P n (.cond c x y) Q fr st :=
 PW_cond_f hc h
end
section
variable {P : Program} {n : Nat} {ops : Array Oper} {Q : PF → St → Prop} {rest : List Oper} {fr : PF} {st : St} {p : PV} {ty : TypeId} {pos : String} {after : Array Edge} {gd : Option (Nat × Bool)} {od : List (Nat × Kd)} {j d : Nat}
theorem Jd {T : TypeId} {x : Operand} {ps : List PV} (h : ∀ i, st.freshB i → POps P n ops Q rest ((d, .ptr i 0) :: fr) (.box i T ps :: st)) (hd : d < n := by decide) (hw : PF.wants fr ops ⟨some d, .box T x, ty, pos, after, gd⟩ = some true := by rfl) (hx : fr.eval x = some p := by exact eQ) (hps : p.ps = ps := by simp [PV.ps, aggD, slD, Jh, Jk, Ji, Jj, Jg, Jf]; rfl) (hone : ps.all PV.one = true := by first | rfl | (simp [*]; done) | (simp [PV.one, *]; done) | fail) : POps P n ops Q (⟨some d, .box T x, ty, pos, after, gd⟩ :: rest) fr st :=
 POps_box hd hw hx hps hone h
end
section
variable {P : Program} {n : Nat} {ops : Array Oper} {Q : PF → St → Prop} {rest : List Oper} {fr : PF} {st : St} {p : PV} {ty : TypeId} {pos : String} {after : Array Edge} {gd : Option (Nat × Bool)} {od : List (Nat × Kd)} {j d : Nat}
theorem Je {T : TypeId} {ps : List PV} (h : ∀ i, st.freshB i → POps P n ops Q rest ((d, .ptr i 0) :: fr) (.box i T ps :: st)) (hd : d < n := by decide) (hw : PF.wants fr ops ⟨some d, .alloc T, ty, pos, after, gd⟩ = some true := by rfl) (hz : Qci P T = some ps := by simp; rfl) : POps P n ops Q (⟨some d, .alloc T, ty, pos, after, gd⟩ :: rest) fr st :=
 POps_alloc hd hw hz h
end
section
variable {P : Program} {n : Nat} {ops : Array Oper} {Q : PF → St → Prop} {rest : List Oper} {fr : PF} {st : St} {p : PV} {ty : TypeId} {pos : String} {after : Array Edge} {gd : Option (Nat × Bool)} {od : List (Nat × Kd)} {j d : Nat}
theorem Rd {t : TypeId} {x y : Operand} {q : PV} {i off : Nat} {T : Ty} {c : TypeId × List PV} {U : TypeId} {cs ps : List PV} {st' : St} (h : POps P n ops Q rest fr st') (hw : PF.wants fr ops ⟨none, .store t x y, ty, pos, after, gd⟩ = some true := by rfl) (hx : fr.eval x = some q := by exact eQ) (hq : q = .ptr i off := by rfl) (hy : fr.eval y = some p := by exact eQ) (hps : p.ps = ps := by simp [PV.ps, aggD, slD, Jh, Jk, Ji, Jj, Jg, Jf]; rfl) (hone : ps.all PV.one = true := by first | rfl | (simp [*]; done) | (simp [PV.one, *]; done) | fail) (hT : tyOf P t = some T := by simp; rfl) (hsz : ps.length = T.size := by first | (simp; done) | fail) (hb : st.box? i = some c := by exact eQ) (hc : c = (U, cs) := by rfl) (hfit : off + ps.length ≤ cs.length := by first | (simp; done) | fail) (hs : st.setBox i (spl cs off ps) = st' := by simp [St.setBox, spl, *]; rfl) : POps P n ops Q (⟨none, .store t x y, ty, pos, after, gd⟩ :: rest) fr st :=
 POps_store hw hx hq hy hps hone hT hsz hb hc hfit hs h
end
section
variable {P : Program} {n : Nat} {ops : Array Oper} {Q : PF → St → Prop} {rest : List Oper} {fr : PF} {st : St} {p : PV} {ty : TypeId} {pos : String} {after : Array Edge} {gd : Option (Nat × Bool)} {od : List (Nat × Kd)} {j d : Nat}
theorem Qga {t : TypeId} {x y : Operand} {q : PV} {i off : Nat} {T : Ty} {c : TypeId × List PV} {U : TypeId} {cs ps : List PV} {st' : St} (h : POrd P n ops Q od fr st') (ho : ops[j]? = some ⟨none, .store t x y, ty, pos, after, gd⟩ := by rfl) (hw : PF.wants fr ops ⟨none, .store t x y, ty, pos, after, gd⟩ = some true := by rfl) (hx : fr.eval x = some q := by exact eQ) (hq : q = .ptr i off := by rfl) (hy : fr.eval y = some p := by exact eQ) (hps : p.ps = ps := by simp [PV.ps, aggD, slD, Jh, Jk, Ji, Jj, Jg, Jf]; rfl) (hone : ps.all PV.one = true := by first | rfl | (simp [*]; done) | (simp [PV.one, *]; done) | fail) (hT : tyOf P t = some T := by simp; rfl) (hsz : ps.length = T.size := by first | (simp; done) | fail) (hb : st.box? i = some c := by exact eQ) (hc : c = (U, cs) := by rfl) (hfit : off + ps.length ≤ cs.length := by first | (simp; done) | fail) (hs : st.setBox i (spl cs off ps) = st' := by simp [St.setBox, spl, *]; rfl) : POrd P n ops Q ((j, .e) :: od) fr st :=
 POrd_store ho hw hx hq hy hps hone hT hsz hb hc hfit hs h
end
section
variable {P : Program} {n : Nat} {ops : Array Oper} {Q : PF → St → Prop} {rest : List Oper} {fr : PF} {st : St} {p : PV} {ty : TypeId} {pos : String} {after : Array Edge} {gd : Option (Nat × Bool)} {od : List (Nat × Kd)} {j d : Nat}
theorem Qbq {s x : Operand} {t xt : TypeId} {q : PV} {g : Nat} {rows rows' : List (List D)} {ts E es bytes : Nat} {ea : Option Bool} {T0 : Ty} {e0 : Nat × Nat} {c : TypeId × Nat × Nat} {st' : St} (n' : Nat) (hn' : rows.length + rows'.length = n') (hl0 : ∀ row ∈ rows, row.length = es) (hl : ∀ row ∈ rows', row.length = es) (h : POps P n ops Q rest ((d, .own g (rows ++ rows')) :: fr) st') (hd : d < n := by decide) (hw : PF.wants fr ops ⟨some d, .call { callee := .builtin .append, args := #[s, x], argTypes := #[t, xt] }, ty, pos, after, gd⟩ = some true := by rfl) (hs : fr.eval s = some q := by exact eQ) (hq : q = .own g rows := by rfl) (hx : fr.eval x = some p := by exact eQ) (hp : p.src = some rows' := by simp [PV.src, PV.rows]; rfl) (hT : tyOf P t = some T0 := by simp; rfl) (hT2 : T0 = ⟨ts, .slice E es ea⟩ := by rfl) (hX : Qbp ((tyOf P xt).map (·.k)) = true := by simp [Qbp]) (hE : elOf P E = some e0 := by simp; rfl) (hE2 : e0 = (es, bytes) := by rfl) (hes : 0 < es := by decide) (htok : st.tok? g = some c := by exact eQ) (hc : c = (E, es, rows.length) := by first | rfl | (simp; done) | (simp; omega) | fail) (hs' : st.setTok g n' = st' := by simp [St.setTok, *]; rfl) (hm : n' ≤ 4294967296 := by omega) (hb : bytes ≤ 32768 := by decide) : POps P n ops Q (⟨some d, .call { callee := .builtin .append, args := #[s, x], argTypes := #[t, xt] }, ty, pos, after, gd⟩ :: rest) fr st :=
 POps_app n' hd hw hs hq hx hp hT hT2 hX hE hE2 hes htok hc hn' hs' hl0 hl hm hb h
end
section
variable {P : Program} {n : Nat} {ops : Array Oper} {Q : PF → St → Prop} {rest : List Oper} {fr : PF} {st : St} {p : PV} {ty : TypeId} {pos : String} {after : Array Edge} {gd : Option (Nat × Bool)} {od : List (Nat × Kd)} {j d : Nat}
theorem POrd_app_a {s x : Operand} {t xt : TypeId} {q : PV} {g : Nat} {rows rows' : List (List D)} {ts E es bytes : Nat} {ea : Option Bool} {T0 : Ty} {e0 : Nat × Nat} {c : TypeId × Nat × Nat} {st' : St} (n' : Nat) (hn' : rows.length + rows'.length = n') (hl0 : ∀ row ∈ rows, row.length = es) (hl : ∀ row ∈ rows', row.length = es) (h : POrd P n ops Q od ((d, .own g (rows ++ rows')) :: fr) st') (ho : ops[j]? = some ⟨some d, .call { callee := .builtin .append, args := #[s, x], argTypes := #[t, xt] }, ty, pos, after, gd⟩ := by rfl) (hd : d < n := by decide) (hw : PF.wants fr ops ⟨some d, .call { callee := .builtin .append, args := #[s, x], argTypes := #[t, xt] }, ty, pos, after, gd⟩ = some true := by rfl) (hs : fr.eval s = some q := by exact eQ) (hq : q = .own g rows := by rfl) (hx : fr.eval x = some p := by exact eQ) (hp : p.src = some rows' := by simp [PV.src, PV.rows]; rfl) (hT : tyOf P t = some T0 := by simp; rfl) (hT2 : T0 = ⟨ts, .slice E es ea⟩ := by rfl) (hX : Qbp ((tyOf P xt).map (·.k)) = true := by simp [Qbp]) (hE : elOf P E = some e0 := by simp; rfl) (hE2 : e0 = (es, bytes) := by rfl) (hes : 0 < es := by decide) (htok : st.tok? g = some c := by exact eQ) (hc : c = (E, es, rows.length) := by first | rfl | (simp; done) | (simp; omega) | fail) (hs' : st.setTok g n' = st' := by simp [St.setTok, *]; rfl) (hm : n' ≤ 4294967296 := by omega) (hb : bytes ≤ 32768 := by decide) : POrd P n ops Q ((j, .e) :: od) fr st :=
 POrd_app n' ho hd hw hs hq hx hp hT hT2 hX hE hE2 hes htok hc hn' hs' hl0 hl hm hb h
end
section
variable {P : Program} {n : Nat} {ops : Array Oper} {Q : PF → St → Prop} {rest : List Oper} {fr : PF} {st : St} {p : PV} {op : Op} {ty : TypeId} {pos : String} {after : Array Edge} {gd : Option (Nat × Bool)}
theorem POps_bs_a {d len : Nat} {t : TypeId} {parts : Array (Nat × Operand)} {E es bytes ts : Nat} {ea : Option Bool} {T0 : Ty} {e0 : Nat × Nat} {cells : List PV} {rows : List (List D)} (h : POps P n ops Q rest ((d, .d (.sl rows)) :: fr) st) (hd : d < n := by decide) (hw : PF.wants fr ops ⟨some d, .buildSlice t len parts, ty, pos, after, gd⟩ = some true := by rfl) (hT : tyOf P t = some T0 := by simp; rfl) (hT2 : T0 = ⟨ts, .slice E es ea⟩ := by rfl) (hE : elOf P E = some e0 := by simp; rfl) (hE2 : e0 = (es, bytes) := by rfl) (h0 : 0 < len * es := by decide) (h24 : len * es ≤ 16777216 := by decide) (hf : Qcd (fun i => some (i * es, es)) fr.eval (List.replicate (len * es) .u) parts.toList = some cells := by exact eQ) (hr : Qcc es len cells = some rows := by simp [Qcc, toDs, PV.toD]; rfl) : POps P n ops Q (⟨some d, .buildSlice t len parts, ty, pos, after, gd⟩ :: rest) fr st :=
 POps_bs hd hw hT hT2 hE hE2 h0 h24 hf hr h
end
section
variable {P : Program} {n : Nat} {ops : Array Oper} {Q : PF → St → Prop} {rest : List Oper} {fr : PF} {st : St} {p : PV} {op : Op} {ty : TypeId} {pos : String} {after : Array Edge} {gd : Option (Nat × Bool)}
variable {od : List (Nat × Kd)} {i d : Nat}
theorem POrd_bs_a {len : Nat} {t : TypeId} {parts : Array (Nat × Operand)} {E es bytes ts : Nat} {ea : Option Bool} {T0 : Ty} {e0 : Nat × Nat} {cells : List PV} {rows : List (List D)} (h : POrd P n ops Q od ((d, .d (.sl rows)) :: fr) st) (ho : ops[i]? = some ⟨some d, .buildSlice t len parts, ty, pos, after, gd⟩ := by rfl) (hd : d < n := by decide) (hw : PF.wants fr ops ⟨some d, .buildSlice t len parts, ty, pos, after, gd⟩ = some true := by rfl) (hT : tyOf P t = some T0 := by simp; rfl) (hT2 : T0 = ⟨ts, .slice E es ea⟩ := by rfl) (hE : elOf P E = some e0 := by simp; rfl) (hE2 : e0 = (es, bytes) := by rfl) (h0 : 0 < len * es := by decide) (h24 : len * es ≤ 16777216 := by decide) (hf : Qcd (fun i => some (i * es, es)) fr.eval (List.replicate (len * es) .u) parts.toList = some cells := by exact eQ) (hr : Qcc es len cells = some rows := by simp [Qcc, toDs, PV.toD]; rfl) : POrd P n ops Q ((i, .a) :: od) fr st :=
 POrd_bs ho hd hw hT hT2 hE hE2 h0 h24 hf hr h
end
section
variable {P : Program} {n : Nat} {ops : Array Oper} {Q : PF → St → Prop} {rest : List Oper} {fr : PF} {st : St} {p : PV} {op : Op} {ty : TypeId} {pos : String} {after : Array Edge} {gd : Option (Nat × Bool)}
variable {od : List (Nat × Kd)} {i d : Nat}
theorem Qx {k : Kd} (h : POrd P n ops Q od ((d, p) :: fr) st) (ho : ops[i]? = some ⟨some d, op, ty, pos, after, gd⟩ := by rfl) (hd : d < n := by decide) (hw : PF.wants fr ops ⟨some d, op, ty, pos, after, gd⟩ = some true := by rfl) (he : nev P fr.eval op = some p := by exact eQ) : POrd P n ops Q ((i, k) :: od) fr st :=
 POrd_s ho hd hw he h
end
section
variable {P : Program} {n : Nat} {ops : Array Oper} {Q : PF → St → Prop} {rest : List Oper} {fr : PF} {st : St} {p : PV} {op : Op} {ty : TypeId} {pos : String} {after : Array Edge} {gd : Option (Nat × Bool)}
variable {od : List (Nat × Kd)} {i d : Nat}
theorem Qy  (h : POrd P n ops Q od ((d, p) :: fr) st) (ho : ops[i]? = some ⟨some d, op, ty, pos, after, gd⟩ := by rfl) (hd : d < n := by decide) (hw : PF.wants fr ops ⟨some d, op, ty, pos, after, gd⟩ = some true := by rfl) (he : nevB P st fr.eval op = some p := by exact eQ) : POrd P n ops Q ((i, .b) :: od) fr st :=
 POrd_b ho hd hw he h
end
section
variable {P : Program} {n : Nat} {ops : Array Oper} {Q : PF → St → Prop} {rest : List Oper} {fr : PF} {st : St} {p : PV} {op : Op} {ty : TypeId} {pos : String} {after : Array Edge} {gd : Option (Nat × Bool)}
theorem Jc {d f : Nat} {xs : Array Operand} {ts : Array TypeId} {ps qs : List PV} {r : PV} (hc : PCalls P f qs [] fun p s => p = r ∧ s = []) (h : POps P n ops Q rest ((d, r) :: fr) st) (hd : d < n := by decide) (hw : PF.wants fr ops ⟨some d, .call { callee := .value (.func f), args := xs, argTypes := ts }, ty, pos, after, gd⟩ = some true := by rfl) (hxs : Jo fr.eval xs.toList = some ps := by exact eQ) (hn : ps.map PV.norm1 = qs := by first | (simp [PV.norm1, PV.norm0, aggD, slD, Jh, Jk, Ji, Jj]; done) | fail) (hca : Qau P f = true := by rfl) : POps P n ops Q (⟨some d, .call { callee := .value (.func f), args := xs, argTypes := ts }, ty, pos, after, gd⟩ :: rest) fr st :=
 POps_call hc hd hw hxs hn hca h
end
section
variable {P : Program} {n : Nat} {ops : Array Oper} {Q : PF → St → Prop} {rest : List Oper} {fr : PF} {st : St} {p : PV} {op : Op} {ty : TypeId} {pos : String} {after : Array Edge} {gd : Option (Nat × Bool)}
variable {od : List (Nat × Kd)} {i d : Nat}
theorem Qaw {f : Nat} {xs : Array Operand} {ts : Array TypeId} {ps qs : List PV} {r : PV} (hc : PCalls P f qs [] fun p s => p = r ∧ s = []) (h : POrd P n ops Q od ((d, r) :: fr) st) (ho : ops[i]? = some ⟨some d, .call { callee := .value (.func f), args := xs, argTypes := ts }, ty, pos, after, gd⟩ := by rfl) (hd : d < n := by decide) (hw : PF.wants fr ops ⟨some d, .call { callee := .value (.func f), args := xs, argTypes := ts }, ty, pos, after, gd⟩ = some true := by rfl) (hxs : Jo fr.eval xs.toList = some ps := by exact eQ) (hn : ps.map PV.norm1 = qs := by first | (simp [PV.norm1, PV.norm0, aggD, slD, Jh, Jk, Ji, Jj]; done) | fail) (hca : Qau P f = true := by rfl) : POrd P n ops Q ((i, .a) :: od) fr st :=
 POrd_call hc ho hd hw hxs hn hca h
end
section
variable {P : Program} {n : Nat} {ops : Array Oper} {Q : PF → St → Prop} {rest : List Oper} {fr : PF} {st : St} {p : PV} {op : Op} {ty : TypeId} {pos : String} {after : Array Edge} {gd : Option (Nat × Bool)}
end
section
variable {P : Program} {n : Nat} {ops : Array Oper} {Q : PF → St → Prop} {rest : List Oper} {fr : PF} {st : St} {p : PV} {op : Op} {ty : TypeId} {pos : String} {after : Array Edge} {gd : Option (Nat × Bool)}
variable {od : List (Nat × Kd)} {i d : Nat}
theorem Qeb {f : Nat} {xs : Array Operand} {ts : Array TypeId} {ps qs : List PV} {r : PV} (hc : PCalls P f qs [] fun p s => p = r ∧ s = []) (h : POrd P n ops Q od ((d, r) :: fr) st) (ho : ops[i]? = some ⟨some d, .call { callee := .value (.func f), args := xs, argTypes := ts }, ty, pos, after, gd⟩ := by rfl) (hd : d < n := by decide) (hw : PF.wants fr ops ⟨some d, .call { callee := .value (.func f), args := xs, argTypes := ts }, ty, pos, after, gd⟩ = some true := by exact eD) (hxs : Jo fr.eval xs.toList = some ps := by exact eQ) (hn : ps.map PV.norm1 = qs := by first | (simp [PV.norm1, PV.norm0, aggD, slD, Jh, Jk, Ji, Jj]; done) | fail) (hca : Qau P f = true := by rfl) : POrd P n ops Q ((i, .a) :: od) fr st :=
 POrd_call hc ho hd hw hxs hn hca h
end
section
variable {P : Program} {n : Nat} {ops : Array Oper} {Q : PF → St → Prop} {rest : List Oper} {fr : PF} {st : St} {p : PV} {op : Op} {ty : TypeId} {pos : String} {after : Array Edge} {gd : Option (Nat × Bool)}
variable {od : List (Nat × Kd)} {i d : Nat}
theorem Qz {k : Kd} (h : POrd P n ops Q od ((d, .tup []) :: fr) st) (ho : ops[i]? = some ⟨some d, op, ty, pos, after, gd⟩ := by rfl) (hd : d < n := by decide) (hw : PF.wants fr ops ⟨some d, op, ty, pos, after, gd⟩ = some false := by exact eD) : POrd P n ops Q ((i, k) :: od) fr st :=
 POrd_gn ho hd hw h
end
section
variable {P : Program} {n : Nat} {ops : Array Oper} {Q : PF → St → Prop} {rest : List Oper} {fr : PF} {st : St} {p : PV} {op : Op} {ty : TypeId} {pos : String} {after : Array Edge} {gd : Option (Nat × Bool)}
variable {od : List (Nat × Kd)} {i d : Nat}
theorem Ra {k : Kd} (h : POrd P n ops Q od ((d, p) :: fr) st) (ho : ops[i]? = some ⟨some d, op, ty, pos, after, gd⟩ := by rfl) (hd : d < n := by decide) (hw : PF.wants fr ops ⟨some d, op, ty, pos, after, gd⟩ = some true := by exact eD) (he : nev P fr.eval op = some p := by exact eQ) : POrd P n ops Q ((i, k) :: od) fr st :=
 POrd_s ho hd hw he h
end
section
variable {P : Program} {n : Nat} {ops : Array Oper} {Q : PF → St → Prop} {rest : List Oper} {fr : PF} {st : St} {p : PV} {op : Op} {ty : TypeId} {pos : String} {after : Array Edge} {gd : Option (Nat × Bool)}
variable {od : List (Nat × Kd)} {i d : Nat}
theorem Rb  (h : POrd P n ops Q od ((d, p) :: fr) st) (ho : ops[i]? = some ⟨some d, op, ty, pos, after, gd⟩ := by rfl) (hd : d < n := by decide) (hw : PF.wants fr ops ⟨some d, op, ty, pos, after, gd⟩ = some true := by exact eD) (he : nevB P st fr.eval op = some p := by exact eQ) : POrd P n ops Q ((i, .b) :: od) fr st :=
 POrd_b ho hd hw he h
end
section
variable {P : Program} {n : Nat} {ops : Array Oper} {Q : PF → St → Prop} {rest : List Oper} {fr : PF} {st : St} {p : PV} {op : Op} {ty : TypeId} {pos : String} {after : Array Edge} {gd : Option (Nat × Bool)}
theorem Jr {d f : Nat} {xs : Array Operand} {ts : Array TypeId} {ps qs : List PV} {r : PV} (hc : PCalls P f qs [] fun p s => p = r ∧ s = []) (h : POps P n ops Q rest ((d, r) :: fr) st) (hd : d < n := by decide) (hw : PF.wants fr ops ⟨some d, .call { callee := .value (.func f), args := xs, argTypes := ts }, ty, pos, after, gd⟩ = some true := by exact eD) (hxs : Jo fr.eval xs.toList = some ps := by exact eQ) (hn : ps.map PV.norm1 = qs := by first | (simp [PV.norm1, PV.norm0, aggD, slD, Jh, Jk, Ji, Jj]; done) | fail) (hca : Qau P f = true := by rfl) : POps P n ops Q (⟨some d, .call { callee := .value (.func f), args := xs, argTypes := ts }, ty, pos, after, gd⟩ :: rest) fr st :=
 POps_call hc hd hw hxs hn hca h
end
def Hd2 (p : Prop) : Prop := p
theorem Hd2.out {p : Prop} (h : Hd2 p) : p := h
theorem go_ {a b : Prop} (hb : b) (h : Hd2 b → a := by
  intro k
  repeat (first | (with_reducible first | refine Qa ?_ | refine Qb ?_ | refine Qc ?_ | refine Qd ?_ | refine Qe ?_ | refine Qf ?_ | refine Qg ?_ | refine Qh ?_ | refine Qi ?_ | refine Qj ?_ | refine Qk ?_ | refine Ql ?_ | refine Qm ?_ | refine Qn ?_ | refine Qo ?_ | refine Qp rfl ?_) | (first | refine Qq ?_ | refine Qr ?_) | (first | refine Qs ?_ | refine Qt ?_ | refine Qu ?_) | (first | refine Qv ?_ | refine Qw ?_) | (first | refine Qx ?_ | refine Qy ?_) | (first | refine Qz ?_ | refine Ra ?_ | refine Rb ?_))
  exact Hd2.out k) : a := h hb
theorem pE {P : Program} {f : FuncId} {fn : Func} {c : Code} {args : List PV} {st : St} {R : PV → St → Prop} {n : Nat} {b : Prop} (hf : P.funcs[f]? = some fn) (hn : fn.ntmps = n) (h0 : b) (hb : fn.body = some c := by rfl) (ha : args.length ≤ n := by simp) (w : Hd2 b → PW P n c (retP P fn R) (argsF 0 args) st := by
 intro k; simp only [argsF]; exact Hd2.out k) : PCalls P f args st R := PCalls.enter hf hb hn ha (w h0)
theorem pG {P : Program} {f : FuncId} {fn : Func} {c : Code} {args : List PV} {st : St} {R : PV → St → Prop} {n : Nat} {b : Prop} (hf : P.funcs[f]? = some fn) (hn : fn.ntmps = n) (h0 : b) (hb : fn.body = some c := by rfl) (ha : args.length ≤ n := by simp) (w : Hd2 b → PW P n c (retP P fn R) (argsF 0 args) st := by
 intro k; simp only [argsF]; refine go_ ?_; exact Hd2.out k) : PCalls P f args st R := PCalls.enter hf hb hn ha (w h0)
section
variable {P : Program} {n : Nat} {ops : Array Oper} {Q : PF → St → Prop} {rest : List Oper} {fr : PF} {st : St} {p : PV} {ty : TypeId} {pos : String} {after : Array Edge} {gd : Option (Nat × Bool)} {od : List (Nat × Kd)} {j d : Nat}
theorem Qab {bb : Prop} {t : TypeId} {x y : Operand} {q : PV} {i off : Nat} {T : Ty} {c : TypeId × List PV} {U : TypeId} {cs ps : List PV} {st' : St} (hz0 : bb) (hw : PF.wants fr ops ⟨none, .store t x y, ty, pos, after, gd⟩ = some true := by rfl) (hx : fr.eval x = some q := by exact eQ) (hq : q = .ptr i off := by rfl) (hy : fr.eval y = some p := by exact eQ) (hps : p.ps = ps := by simp [PV.ps, aggD, slD, Jh, Jk, Ji, Jj, Jg, Jf]; rfl) (hone : ps.all PV.one = true := by first | rfl | (simp [*]; done) | (simp [PV.one, *]; done) | fail) (hT : tyOf P t = some T := by simp; rfl) (hsz : ps.length = T.size := by first | (simp; done) | fail) (hb : st.box? i = some c := by exact eQ) (hc : c = (U, cs) := by rfl) (hfit : off + ps.length ≤ cs.length := by first | (simp; done) | fail) (hs : st.setBox i (spl cs off ps) = st' := by simp [St.setBox, spl, *]; rfl) (w : Hd2 bb → POps P n ops Q rest fr st' := by
 intro k; refine go_ ?_; exact Hd2.out k) : POps P n ops Q (⟨none, .store t x y, ty, pos, after, gd⟩ :: rest) fr st :=
 Rd (h := w hz0) (hw := hw) (hx := hx) (hq := hq) (hy := hy) (hps := hps) (hone := hone) (hT := hT) (hsz := hsz) (hb := hb) (hc := hc) (hfit := hfit) (hs := hs)
end
section
variable {P : Program} {n : Nat} {ops : Array Oper} {Q : PF → St → Prop} {rest : List Oper} {fr : PF} {st : St} {p : PV} {op : Op} {ty : TypeId} {pos : String} {after : Array Edge} {gd : Option (Nat × Bool)}
theorem Qbx {bb : Prop} {d len : Nat} {t : TypeId} {parts : Array (Nat × Operand)} {E es bytes ts : Nat} {ea : Option Bool} {T0 : Ty} {e0 : Nat × Nat} {cells : List PV} {rows : List (List D)} (hz0 : bb) (hd : d < n := by decide) (hw : PF.wants fr ops ⟨some d, .buildSlice t len parts, ty, pos, after, gd⟩ = some true := by rfl) (hT : tyOf P t = some T0 := by simp; rfl) (hT2 : T0 = ⟨ts, .slice E es ea⟩ := by rfl) (hE : elOf P E = some e0 := by simp; rfl) (hE2 : e0 = (es, bytes) := by rfl) (h0 : 0 < len * es := by decide) (h24 : len * es ≤ 16777216 := by decide) (hf : Qcd (fun i => some (i * es, es)) fr.eval (List.replicate (len * es) .u) parts.toList = some cells := by exact eQ) (hr : Qcc es len cells = some rows := by simp [Qcc, toDs, PV.toD]; rfl) (w : Hd2 bb → POps P n ops Q rest ((d, .d (.sl rows)) :: fr) st := by
 intro k; refine go_ ?_; exact Hd2.out k) : POps P n ops Q (⟨some d, .buildSlice t len parts, ty, pos, after, gd⟩ :: rest) fr st :=
 POps_bs_a (h := w hz0) (hd := hd) (hw := hw) (hT := hT) (hT2 := hT2) (hE := hE) (hE2 := hE2) (h0 := h0) (h24 := h24) (hf := hf) (hr := hr)
end
section
variable {P : Program} {n : Nat} {ops : Array Oper} {Q : PF → St → Prop} {rest : List Oper} {fr : PF} {st : St} {p : PV} {op : Op} {ty : TypeId} {pos : String} {after : Array Edge} {gd : Option (Nat × Bool)}
theorem Qaa {bb : Prop} {d f : Nat} {xs : Array Operand} {ts : Array TypeId} {ps qs : List PV} {r : PV} (hc : PCalls P f qs [] fun p s => p = r ∧ s = []) (hz0 : bb) (hd : d < n := by decide) (hw : PF.wants fr ops ⟨some d, .call { callee := .value (.func f), args := xs, argTypes := ts }, ty, pos, after, gd⟩ = some true := by rfl) (hxs : Jo fr.eval xs.toList = some ps := by exact eQ) (hn : ps.map PV.norm1 = qs := by first | (simp [PV.norm1, PV.norm0, aggD, slD, Jh, Jk, Ji, Jj]; done) | fail) (hca : Qau P f = true := by rfl) (w : Hd2 bb → POps P n ops Q rest ((d, r) :: fr) st := by
 intro k; refine go_ ?_; exact Hd2.out k) : POps P n ops Q (⟨some d, .call { callee := .value (.func f), args := xs, argTypes := ts }, ty, pos, after, gd⟩ :: rest) fr st :=
 Jc (hc := hc) (h := w hz0) (hd := hd) (hw := hw) (hxs := hxs) (hn := hn) (hca := hca)
end
section
variable {P : Program} {n : Nat} {ops : Array Oper} {Q : PF → St → Prop} {rest : List Oper} {fr : PF} {st : St} {p : PV} {op : Op} {ty : TypeId} {pos : String} {after : Array Edge} {gd : Option (Nat × Bool)}
theorem Qai {bb : Prop} {d f : Nat} {xs : Array Operand} {ts : Array TypeId} {ps qs : List PV} {r : PV} (hc : PCalls P f qs [] fun p s => p = r ∧ s = []) (hz0 : bb) (hd : d < n := by decide) (hw : PF.wants fr ops ⟨some d, .call { callee := .value (.func f), args := xs, argTypes := ts }, ty, pos, after, gd⟩ = some true := by exact eD) (hxs : Jo fr.eval xs.toList = some ps := by exact eQ) (hn : ps.map PV.norm1 = qs := by first | (simp [PV.norm1, PV.norm0, aggD, slD, Jh, Jk, Ji, Jj]; done) | fail) (hca : Qau P f = true := by rfl) (w : Hd2 bb → POps P n ops Q rest ((d, r) :: fr) st := by
 intro k; refine go_ ?_; exact Hd2.out k) : POps P n ops Q (⟨some d, .call { callee := .value (.func f), args := xs, argTypes := ts }, ty, pos, after, gd⟩ :: rest) fr st :=
 Jr (hc := hc) (h := w hz0) (hd := hd) (hw := hw) (hxs := hxs) (hn := hn) (hca := hca)
end
section
variable {P : Program} {J : St → Prop} {ops : Array Oper} {n : Nat} {kd : Nat → Kd} {md : Region.Mode}
def jOp (P : Program) (J : St → Prop) (ops : Array Oper) (n : Nat) (kd : Nat → Kd) (i : Nat) (K : G → St → Prop) (g : G) (st : St) : Prop :=
  match ops[i]? with
  | none => K g st
  | some o => (∀ d, o.dst = some d → d < n) ∧
    ((Qbo g ops o = some false ∧ K (gput g o.dst (.tup [])) st) ∨
     (Qbo g ops o = some true ∧
      match kd i with
      | .a => ∃ p, (∀ s, J s → POp P o (Qbd g) s fun q s' => q = p ∧ s' = s) ∧ K (gput g o.dst p) st
      | .b => ∃ p, (POp P o (Qbd g) st fun q s' => q = p ∧ s' = st) ∧ K (gput g o.dst p) st
      | .e => POp P o (Qbd g) st fun p s' => J s' ∧ K (gput g o.dst p) s'))
theorem jOp_mono {i : Nat} {K K' : G → St → Prop} {g : G} {st : St} (h : ∀ g s, K g s → K' g s) (hh : jOp P J ops n kd i K g st) : jOp P J ops n kd i K' g st := by
 unfold jOp at *
 split
 ·rename_i ho; rw [ho] at hh; exact h _ _ hh
 ·rename_i o ho
  rw [ho] at hh
  obtain ⟨hd, hh⟩ := hh
  refine ⟨hd, ?_⟩
  rcases hh with ⟨h1, h2⟩ | ⟨h1, h2⟩
  ·exact .inl ⟨h1, h _ _ h2⟩
  ·refine .inr ⟨h1, ?_⟩
   cases hk : kd i with
   | a => rw [hk] at h2; obtain ⟨p, h3, h4⟩ := h2; exact ⟨p, h3, h _ _ h4⟩
   | b => rw [hk] at h2; obtain ⟨p, h3, h4⟩ := h2; exact ⟨p, h3, h _ _ h4⟩
   | e => rw [hk] at h2; exact h2.mono fun p s hs => ⟨hs.1, h _ _ hs.2⟩
def jAny (P : Program) (J : St → Prop) (md : Region.Mode) (ops : Array Oper) (n : Nat) (kd : Nat → Kd) (Q : G → St → Prop) : Nat → Array Bool → G → St → Prop
  | 0, listed, g, st => Region.ready md ops listed = [] ∧ Q g st
  | fuel + 1, listed, g, st =>
    (Region.ready md ops listed = [] → Q g st) ∧ ∀ i ∈ Region.ready md ops listed, jOp P J ops n kd i (jAny P J md ops n kd Q fuel (listed.setIfInBounds i true)) g st
theorem wpAny_jAny {Q : G → St → Prop} {Q' : Exit → Act → World → Prop} {F : Fz} {K0 : Kp} {w0 : World} (hQ : ∀ K w a g st, Ext F K0 w0 K w → Rel F st K w → FG n g K w a → Q g st → Q' .normal a w) :
    ∀ (fuel : Nat) (listed : Array Bool) (g : G) (st : St) (K : Kp) (w : World) (a : Act), Ext F K0 w0 K w → Rel F st K w → FG n g K w a → J st → jAny P J md ops n kd Q fuel listed g st → wpAny P md ops Q' fuel listed a w := by
  intro fuel
  induction fuel with
  | zero => intro listed g st K w a hx hr hf hJ h; exact ⟨h.1, hQ K w a g st hx hr hf h.2⟩
  | succ fuel ih =>
    intro listed g st K w a hx hr hf hJ h
    refine ⟨fun h0 => hQ K w a g st hx hr hf (h.1 h0), fun i hi => ?_⟩
    have hop := h.2 i hi
    unfold jOp at hop
    unfold wpOp
    split
    · rename_i ho
      rw [ho] at hop
      exact ih _ g st K w a hx hr hf hJ hop
    · rename_i o ho
      rw [ho] at hop
      obtain ⟨hd, hop⟩ := hop
      rcases hop with ⟨h1, h2⟩ | ⟨h1, h2⟩
      · rw [Qdt hf h1]
        exact ih _ _ st K w _ hx hr (hf.put hd (.tup rfl fun i p v hp _ => by simp at hp)) hJ h2
      · rw [Qdt hf h1]
        simp only [if_true]
        refine .inl ?_
        have hgen : POp P o (Qbd g) st fun p s' => J s' ∧ jAny P J md ops n kd Q fuel (listed.setIfInBounds i true) (gput g o.dst p) s' := by
          cases hk : kd i with
          | a =>
            rw [hk] at h2; obtain ⟨p, h3, h4⟩ := h2
            exact (h3 st hJ).mono fun q s ⟨e1, e2⟩ => by subst e1; subst e2; exact ⟨hJ, h4⟩
          | b =>
            rw [hk] at h2; obtain ⟨p, h3, h4⟩ := h2
            exact h3.mono fun q s ⟨e1, e2⟩ => by subst e1; subst e2; exact ⟨hJ, h4⟩
          | e => rw [hk] at h2; exact h2
        exact hgen F K w a _ _ hr (fun x _ p hp => hf.eval x p hp) fun K' w' p st' v b1 b2 b3 b4 => ih _ _ st' K' w' _ (hx.trans b1) b2 ((hf.mono b1).put hd b3) b4.1 b4.2
def jYields (P : Program) (J : St → Prop) (ops : Array Oper) (n : Nat) (k : Kd) (o : Oper) (p : PV) (g : G) (st : St) : Prop :=
  (∀ d, o.dst = some d → d < n) ∧
  ((Qbo g ops o = some false ∧ p = .tup []) ∨
   (Qbo g ops o = some true ∧
    match k with
    | .a => ∀ s, J s → POp P o (Qbd g) s fun q s' => q = p ∧ s' = s
    | .b => POp P o (Qbd g) st fun q s' => q = p ∧ s' = st
    | .e => False))
theorem jYields.op {i : Nat} {o : Oper} {p : PV} {g : G} {st : St} (hi : ops[i]? = some o) (hy : jYields P J ops n (kd i) o p g st) {K : G → St → Prop} (h : K (gput g o.dst p) st) : jOp P J ops n kd i K g st := by
 unfold jOp
 rw [hi]
 obtain ⟨hd, hy⟩ := hy
 refine ⟨hd, ?_⟩
 rcases hy with ⟨h1, rfl⟩ | ⟨h1, h2⟩
 ·exact .inl ⟨h1, h⟩
 ·refine .inr ⟨h1, ?_⟩
  cases hk : kd i with
  | a => rw [hk] at h2; exact ⟨p, h2, h⟩
  | b => rw [hk] at h2; exact ⟨p, h2, h⟩
  | e => rw [hk] at h2; exact h2.elim
theorem jYields.put {k : Kd} {o : Oper} {p : PV} {g : G} {st : St} (hy : jYields P J ops n k o p g st) {dst : Option Tmp} {q : PV} (h : ∀ d, dst = some d → d ∉ o.looksAt ops) : jYields P J ops n k o p (gput g dst q) st := by
 obtain ⟨hd, hy⟩ := hy
 refine ⟨hd, ?_⟩
 rw [Qdi h]
 rcases hy with ⟨h1, h2⟩ | ⟨h1, h2⟩
 ·exact .inl ⟨h1, h2⟩
 ·refine .inr ⟨h1, ?_⟩
  cases k with
  | a => exact fun s hs => (h2 s hs).congr fun x hx => (Qba h x hx).symm
  | b => exact POp.congr h2 fun x hx => (Qba h x hx).symm
  | e => exact h2
theorem jOp_put {i j : Nat} {oi oj : Oper} {p : PV} (hj : ops[j]? = some oj) (hap : oi.apart ops oj = true) {K : G → St → Prop} {g : G} {st : St} (hy : jYields P J ops n (kd i) oi p g st) (hb : kd i = .b → kd j ≠ .e) (h : jOp P J ops n kd j K (gput g oi.dst p) st) :
    jOp P J ops n kd j (fun g' s' => jYields P J ops n (kd i) oi p g' s' ∧ K (gput g' oi.dst p) s') g st := by
  obtain ⟨h1, h2, h3⟩ := Oper.apart_spec hap
  unfold jOp at *
  rw [hj] at h ⊢
  simp only at h ⊢
  obtain ⟨hd, h⟩ := h
  rw [Qdi h1] at h
  refine ⟨hd, ?_⟩
  rcases h with ⟨e1, e2⟩ | ⟨e1, e2⟩
  · exact .inl ⟨e1, hy.put h3, by rw [← Qbm g p _ h2]; exact e2⟩
  · refine .inr ⟨e1, ?_⟩
    cases hk : kd j with
    | a =>
      rw [hk] at e2
      obtain ⟨q, e3, e4⟩ := e2
      exact ⟨q, fun s hs => (e3 s hs).congr fun x hx => Qba h1 x hx, hy.put h3, by rw [← Qbm g p _ h2]; exact e4⟩
    | b =>
      rw [hk] at e2
      obtain ⟨q, e3, e4⟩ := e2
      exact ⟨q, e3.congr fun x hx => Qba h1 x hx, hy.put h3, by rw [← Qbm g p _ h2]; exact e4⟩
    | e =>
      rw [hk] at e2
      refine (POp.congr e2 fun x hx => Qba h1 x hx).mono fun q s hs => ⟨hs.1, ?_, by rw [← Qbm g p _ h2]; exact hs.2⟩
      have hy2 := hy.put (dst := oj.dst) (q := q) h3
      obtain ⟨d1, d2⟩ := hy2
      refine ⟨d1, ?_⟩
      rcases d2 with d2 | ⟨d2, d3⟩
      · exact .inl d2
      · refine .inr ⟨d2, ?_⟩
        cases hki : kd i with
        | a => rw [hki] at d3; exact d3
        | b => exact absurd hk (hb hki)
        | e => rw [hki] at d3; exact d3.elim
theorem jAny_first {Q : G → St → Prop} {i : Nat} {oi : Oper} {p : PV} (hi : ops[i]? = some oi) : ∀ (fuel : Nat) (listed : Array Bool) (g : G) (st : St), DC md ops listed →
    (∀ j oj, ops[j]? = some oj → j ≠ i → listed.getD j true = false → (∀ e ∈ oj.after, Region.binds md e = true → e.on ≠ i) → oi.apart ops oj = true) →
    (kd i = .b → ∀ j, kd j = .e → listed.getD j true = false → j < ops.size → ∃ f, Qdz md ops i f j = true) →
    i ∈ Region.ready md ops listed → jYields P J ops n (kd i) oi p g st → jAny P J md ops n kd Q fuel (listed.setIfInBounds i true) (gput g oi.dst p) st → jAny P J md ops n kd Q (fuel + 1) listed g st := by
  intro fuel
  induction fuel with
  | zero =>
    intro listed g st hdc _ _ hr hy H
    refine ⟨fun h => (by rw [h] at hr; cases hr), fun j hj => ?_⟩
    by_cases hji : j = i
    · subst hji; exact hy.op hi H
    · have := ready_mono hj hji
      rw [H.1] at this
      cases this
  | succ fuel ih =>
    intro listed g st hdc hfree hB hr hy H
    refine ⟨fun h => (by rw [h] at hr; cases hr), fun j hj => ?_⟩
    by_cases hji : j = i
    · subst hji; exact hy.op hi H
    · have h1 := H.2 j (ready_mono hj hji)
      obtain ⟨hjun, oj, hoj, hall⟩ := mem_ready.1 hj
      have hiun := (mem_ready.1 hr).1
      have hnot : ∀ e ∈ oj.after, Region.binds md e = true → e.on ≠ i := fun e he hb heq => by
        have h1 := hall e he hb
        rw [heq] at h1
        have h2 := Qdf hiun
        rw [h1] at h2; cases h2
      have hlt : j < ops.size := (Array.getElem?_eq_some_iff.1 hoj).1
      have hbj : kd i = .b → kd j ≠ .e := fun hb he => by
        obtain ⟨f, hw⟩ := hB hb j he hjun hlt
        exact Qfd hdc hw hiun hj
      have h2 := jOp_put hoj (hfree j oj hoj hji hjun hnot) hy hbj h1
      refine jOp_mono (fun g' s' h3 => ih (listed.setIfInBounds j true) g' s' (hdc.set hj) (fun k ok hk hki hun hno => ?_) (fun hb k hk hun hkl => ?_) (ready_mono hr (Ne.symm hji)) h3.1 ?_) h2
      · refine hfree k ok hk hki ?_ hno
        by_cases hjk : j = k
        · subst hjk; exact hjun
        · rw [getD_set_ne true hjk] at hun; exact hun
      · refine hB hb k hk ?_ hkl
        by_cases hjk : j = k
        · subst hjk; exact hjun
        · rw [getD_set_ne true hjk] at hun; exact hun
      · rw [Array.setIfInBounds_comm _ _ hji]
        exact h3.2
def Qak (P : Program) (J : St → Prop) (n : Nat) (ops : Array Oper) (Q : PF → St → Prop) : List (Nat × Kd) → PF → St → Prop
  | [], fr, st => Q fr st
  | (i, k) :: rest, fr, st => ∃ o, ops[i]? = some o ∧ (∀ d, o.dst = some d → d < n) ∧
    ((fr.wants ops o = some false ∧ Qak P J n ops Q rest (fr.put o.dst (.tup [])) st) ∨
     (fr.wants ops o = some true ∧
      match k with
      | .a => ∃ p, (∀ s, J s → POp P o fr.eval s fun q s' => q = p ∧ s' = s) ∧ Qak P J n ops Q rest (fr.put o.dst p) st
      | .b => ∃ p, (POp P o fr.eval st fun q s' => q = p ∧ s' = st) ∧ Qak P J n ops Q rest (fr.put o.dst p) st
      | .e => POp P o fr.eval st fun p s' => J s' ∧ Qak P J n ops Q rest (fr.put o.dst p) s'))
theorem jAny_ord {Q : PF → St → Prop} {all : List (Nat × Kd)} : ∀ (l : List (Nat × Kd)) (listed : Array Bool) (fr : PF) (st : St), DC md ops listed → Qco md ops all l listed = true → Qak P J n ops Q l fr st → jAny P J md ops n (kdOf all) (fun g s => ∃ fr : PF, fr.get = g ∧ Q fr s) l.length listed fr.get st := by
  intro l
  induction l with
  | nil => intro listed fr st _ hB h; exact ⟨by simpa [Qco] using hB, fr, rfl, h⟩
  | cons x rest ih =>
    intro listed fr st hdc hB h
    obtain ⟨i, k⟩ := x
    simp only [Qco, Bool.and_eq_true] at hB
    obtain ⟨⟨⟨hr, hk⟩, hB1⟩, hB2⟩ := hB
    have hr' : i ∈ Region.ready md ops listed := by simpa using hr
    have hk' : kdOf all i = k := by simpa using hk
    obtain ⟨o, ho, hd, h⟩ := h
    have free : freeB md ops i listed = true → ∀ j oj, ops[j]? = some oj → j ≠ i → listed.getD j true = false → (∀ e ∈ oj.after, Region.binds md e = true → e.on ≠ i) → o.apart ops oj = true := by
      intro hf j oj hj hji hun hno
      unfold freeB at hf
      rw [ho] at hf
      simp only [List.all_eq_true, List.mem_range] at hf
      have hlt : j < ops.size := (Array.getElem?_eq_some_iff.1 hj).1
      have := hf j hlt
      rw [hj] at this
      simp only [hun, Bool.or_false, Bool.or_eq_true, beq_iff_eq] at this
      rcases this with h | h | h
      · exact absurd h hji
      · obtain ⟨e, he, h⟩ := Array.any_eq_true'.1 h
        simp only [Bool.and_eq_true, beq_iff_eq] at h
        exact absurd h.2 (hno e he h.1)
      · exact h
    have nxt : ∀ p s, Qak P J n ops Q rest (fr.put o.dst p) s → jAny P J md ops n (kdOf all) (fun g s => ∃ fr : PF, fr.get = g ∧ Q fr s) rest.length (listed.setIfInBounds i true) (gput fr.get o.dst p) s := fun p s hp => by
      rw [← gput_get]; exact ih _ _ s (hdc.set hr') hB2 hp
    cases k with
    | a =>
      have hy : ∃ p, jYields P J ops n (kdOf all i) o p fr.get st ∧ Qak P J n ops Q rest (fr.put o.dst p) st := by
        rw [hk']
        rcases h with ⟨h1, h2⟩ | ⟨h1, p, h2, h3⟩
        · exact ⟨_, ⟨hd, .inl ⟨by rw [Qap]; exact h1, rfl⟩⟩, h2⟩
        · exact ⟨p, ⟨hd, .inr ⟨by rw [Qap]; exact h1, by rw [Qcg]; exact h2⟩⟩, h3⟩
      obtain ⟨p, hy, hp⟩ := hy
      exact jAny_first ho _ listed _ st hdc (free hB1) (fun hb => by rw [hk'] at hb; cases hb) hr' hy (nxt p st hp)
    | b =>
      have hy : ∃ p, jYields P J ops n (kdOf all i) o p fr.get st ∧ Qak P J n ops Q rest (fr.put o.dst p) st := by
        rw [hk']
        rcases h with ⟨h1, h2⟩ | ⟨h1, p, h2, h3⟩
        · exact ⟨_, ⟨hd, .inl ⟨by rw [Qap]; exact h1, rfl⟩⟩, h2⟩
        · exact ⟨p, ⟨hd, .inr ⟨by rw [Qap]; exact h1, by rw [Qcg]; exact h2⟩⟩, h3⟩
      obtain ⟨p, hy, hp⟩ := hy
      simp only [Bool.and_eq_true] at hB1
      refine jAny_first ho _ listed _ st hdc (free hB1.1) (fun _ j hj hun hlt => ?_) hr' hy (nxt p st hp)
      have := List.all_eq_true.1 hB1.2 j (List.mem_range.2 hlt)
      simp only [hj, hun, Bool.or_false] at this
      exact ⟨_, by simpa using this⟩
    | e =>
      have hsole : Region.ready md ops listed = [i] := by simpa using hB1
      refine ⟨fun h0 => (by rw [h0] at hr'; cases hr'), fun j hj => ?_⟩
      rw [hsole] at hj
      obtain rfl := List.mem_singleton.1 hj
      unfold jOp
      rw [ho]
      refine ⟨hd, ?_⟩
      rcases h with ⟨h1, h2⟩ | ⟨h1, h2⟩
      · exact .inl ⟨by rw [Qap]; exact h1, nxt _ st h2⟩
      · refine .inr ⟨by rw [Qap]; exact h1, ?_⟩
        rw [hk']
        simp only
        rw [Qcg]
        exact h2.mono fun p s hs => ⟨hs.1, nxt p s hs.2⟩
theorem Qgb {id : Nat} {Q : Exit → PF → St → Prop} {fr : PF} {st : St} (order : List (Nat × Kd)) (hm : P.follows .mixedOrders = true) (hlen : order.length = ops.size) (hB : Qco .any ops order order (Array.replicate ops.size false) = true) (hJ : J st) (h : Qak P J n ops (Q .normal) order fr st) : PW P n (.region id ops true) Q fr st := by
 intro F K w a hr hf
 have hdc : DC .any ops (Array.replicate ops.size false) := fun j o ho hj => by
  exfalso
  have hlt : j < ops.size := (Array.getElem?_eq_some_iff.1 ho).1
  simp [hlt] at hj
 have hx : Ext F K w K { w with drawn := w.drawn + 1 } := ⟨rfl, rfl, rfl, Nat.le_refl _, fun _ _ => rfl, fun _ _ h => ⟨h, rfl⟩, fun _ _ h => .inl h, fun _ _ h => h, fun g u h => ⟨u, h, .inl rfl⟩, fun _ _ => rfl⟩
 have hr2 : Rel F st K { w with drawn := w.drawn + 1 } := ⟨hr.kc, hr.ff, hr.fin, hr.fi, fun e he => (hr.ents e he).keep hx (fun _ _ => rfl) (fun _ _ _ h => h) fun _ _ => rfl, hr.nb, hr.nt⟩
 have hany := jAny_ord (md := .any) order _ fr st hdc hB h
 rw [hlen] at hany
 exact wp_region_any hm (wpAny_jAny (K0 := K) (w0 := w) (F := F) (Q := fun g s => ∃ fr : PF, fr.get = g ∧ Q .normal fr s) (fun K' w' a' g' st' h1 h2 h3 ⟨fr', e, h4⟩ => ⟨K', fr', st', h1, h2, by subst e; exact h3.fr, h4⟩) _ _ _ st K _ a hx hr2 (hf.mono hx).fg hJ hany)
end
def Qct (l : List (Nat × TypeId × List PV)) : St → Prop := fun s => ∀ x ∈ l, s.box? x.1 = some x.2
section
variable {P : Program} {J : St → Prop} {n : Nat} {ops : Array Oper} {Q : PF → St → Prop} {fr : PF} {st : St} {p : PV} {op : Op} {ty : TypeId} {pos : String} {after : Array Edge} {gd : Option (Nat × Bool)} {od : List (Nat × Kd)} {j d : Nat}
theorem PJ_nil (h : Q fr st) : Qak P J n ops Q [] fr st := h
theorem PJ_s (h : Qak P J n ops Q od ((d, p) :: fr) st) (ho : ops[j]? = some ⟨some d, op, ty, pos, after, gd⟩) (hd : d < n) (hw : PF.wants fr ops ⟨some d, op, ty, pos, after, gd⟩ = some true) (he : nev P fr.eval op = some p) : Qak P J n ops Q ((j, .a) :: od) fr st :=
 ⟨_, ho, fun _ e => by cases e; exact hd, .inr ⟨hw, p, fun s _ => nev_ok (o := ⟨some d, op, ty, pos, after, gd⟩) he s, h⟩⟩
theorem PJ_gn {k : Kd} (h : Qak P J n ops Q od ((d, .tup []) :: fr) st) (ho : ops[j]? = some ⟨some d, op, ty, pos, after, gd⟩) (hd : d < n) (hw : PF.wants fr ops ⟨some d, op, ty, pos, after, gd⟩ = some false) : Qak P J n ops Q ((j, k) :: od) fr st :=
 ⟨_, ho, fun _ e => by cases e; exact hd, .inl ⟨hw, h⟩⟩
theorem PJ_b {l : List (Nat × TypeId × List PV)} {t : TypeId} {a : Operand} {i off : Nat} {T : Ty} {U : TypeId} {cs : List PV} (h : Qak P (Qct l) n ops Q od ((d, p) :: fr) st) (ho : ops[j]? = some ⟨some d, .load t a, ty, pos, after, gd⟩) (hd : d < n) (hw : PF.wants fr ops ⟨some d, .load t a, ty, pos, after, gd⟩ = some true) (ha : fr.eval a = some (.ptr i off)) (hT : tyOf P t = some T) (hl : (i, U, cs) ∈ l) (he : Jn T (cs.drop off) = some p) : Qak P (Qct l) n ops Q ((j, .a) :: od) fr st :=
 ⟨_, ho, fun _ e => by cases e; exact hd, .inr ⟨hw, p, fun s hs => Qen (o := ⟨some d, .load t a, ty, pos, after, gd⟩) (by simp only [nevB, ha, hT, hs _ hl]; exact he), h⟩⟩
theorem PJ_e (ho : ops[j]? = some ⟨some d, op, ty, pos, after, gd⟩) (hd : d < n) (hw : PF.wants fr ops ⟨some d, op, ty, pos, after, gd⟩ = some true) (h : POp P ⟨some d, op, ty, pos, after, gd⟩ fr.eval st fun p st' => J st' ∧ Qak P J n ops Q od ((d, p) :: fr) st') : Qak P J n ops Q ((j, .e) :: od) fr st :=
 ⟨_, ho, fun _ e => by cases e; exact hd, .inr ⟨hw, h⟩⟩
theorem PJ_e0 (ho : ops[j]? = some ⟨none, op, ty, pos, after, gd⟩) (hw : PF.wants fr ops ⟨none, op, ty, pos, after, gd⟩ = some true) (h : POp P ⟨none, op, ty, pos, after, gd⟩ fr.eval st fun _ st' => J st' ∧ Qak P J n ops Q od fr st') : Qak P J n ops Q ((j, .e) :: od) fr st :=
 ⟨_, ho, fun _ e => (by cases e), .inr ⟨hw, h⟩⟩
theorem PJ_call {f : Nat} {xs : Array Operand} {ts : Array TypeId} {ps qs : List PV} {r : PV} (hc : PCalls P f qs [] fun p s => p = r ∧ s = []) (h : Qak P J n ops Q od ((d, r) :: fr) st) (ho : ops[j]? = some ⟨some d, .call { callee := .value (.func f), args := xs, argTypes := ts }, ty, pos, after, gd⟩) (hd : d < n) (hw : PF.wants fr ops ⟨some d, .call { callee := .value (.func f), args := xs, argTypes := ts }, ty, pos, after, gd⟩ = some true) (hxs : Jo fr.eval xs.toList = some ps) (hn : ps.map PV.norm1 = qs) (hca : Qau P f = true) : Qak P J n ops Q ((j, .a) :: od) fr st := by
 exact ⟨_, ho, fun _ e => (by cases e; exact hd), .inr ⟨hw, r, fun s _ => Qet (o := ⟨some d, .call { callee := .value (.func f), args := xs, argTypes := ts }, ty, pos, after, gd⟩) rfl rfl rfl hxs hca hn hc s, h⟩⟩
theorem PJ_alloc {T : TypeId} {ps : List PV} (ho : ops[j]? = some ⟨some d, .alloc T, ty, pos, after, gd⟩) (hd : d < n) (hw : PF.wants fr ops ⟨some d, .alloc T, ty, pos, after, gd⟩ = some true) (hz : Qci P T = some ps) (hJ : ∀ i, st.freshB i → J (.box i T ps :: st)) (h : ∀ i, st.freshB i → Qak P J n ops Q od ((d, .ptr i 0) :: fr) (.box i T ps :: st)) : Qak P J n ops Q ((j, .e) :: od) fr st :=
 PJ_e ho hd hw (POp_alloc rfl hz fun i hi => ⟨hJ i hi, h i hi⟩)
theorem PJ_store {t : TypeId} {x y : Operand} {q : PV} {i off : Nat} {T : Ty} {c : TypeId × List PV} {U : TypeId} {cs ps : List PV} {st' : St} (ho : ops[j]? = some ⟨none, .store t x y, ty, pos, after, gd⟩) (hw : PF.wants fr ops ⟨none, .store t x y, ty, pos, after, gd⟩ = some true) (hx : fr.eval x = some q) (hq : q = .ptr i off) (hy : fr.eval y = some p) (hps : p.ps = ps) (hone : ps.all PV.one = true) (hT : tyOf P t = some T) (hsz : ps.length = T.size) (hb : st.box? i = some c) (hc : c = (U, cs)) (hfit : off + ps.length ≤ cs.length) (hs : st.setBox i (spl cs off ps) = st') (hJ : J st')
  (h : Qak P J n ops Q od fr st') : Qak P J n ops Q ((j, .e) :: od) fr st :=
 PJ_e0 ho hw (Qfm rfl hx hq hy hps hone hT hsz hb hc hfit hs ⟨hJ, h⟩)
theorem PJs {t : TypeId} {x y : Operand} {q : PV} {i off : Nat} {T : Ty} {c : TypeId × List PV} {U : TypeId} {cs ps : List PV} {st' : St} (h : Qak P J n ops Q od fr st') (ho : ops[j]? = some ⟨none, .store t x y, ty, pos, after, gd⟩ := by rfl) (hw : PF.wants fr ops ⟨none, .store t x y, ty, pos, after, gd⟩ = some true := by rfl) (hx : fr.eval x = some q := by exact eQ) (hq : q = .ptr i off := by rfl) (hy : fr.eval y = some p := by exact eQ) (hps : p.ps = ps := by simp [PV.ps, aggD, slD, Jh, Jk, Ji, Jj, Jg, Jf]; rfl) (hone : ps.all PV.one = true := by first | rfl | (simp [*]; done) | (simp [PV.one, *]; done) | fail) (hT : tyOf P t = some T := by simp; rfl) (hsz : ps.length = T.size := by first | (simp; done) | fail) (hb : st.box? i = some c := by exact eQ) (hc : c = (U, cs) := by rfl) (hfit : off + ps.length ≤ cs.length := by first | (simp; done) | fail) (hs : st.setBox i (spl cs off ps) = st' := by simp [St.setBox, spl, *]; rfl) (hJ : J st' := by (repeat (first | exact Qbn _ | refine Ju (by simp [St.box?, *] <;> rfl) ?_))) : Qak P J n ops Q ((j, .e) :: od) fr st :=
 PJ_store ho hw hx hq hy hps hone hT hsz hb hc hfit hs hJ h
end
theorem Qbn (st : St) : Qct [] st := fun x hx => by cases hx
theorem Ju {l : List (Nat × TypeId × List PV)} {st : St} {i : Nat} {x : TypeId × List PV} (h : st.box? i = some x) (hl : Qct l st) : Qct ((i, x) :: l) st := by
 intro y hy
 rcases List.mem_cons.1 hy with rfl | hy
 ·exact h
 ·exact hl y hy
theorem Qes {P : Program} {o : Oper} {ρ : Operand → Option PV} {st : St} {R : PV → St → Prop} {t : TypeId} (ho : o.op = .buildSlice t 0 #[]) {E es bytes : Nat} {ea : Option Bool} {T : Ty} (hT : tyOf P t = some T) (hk : T.k = .slice E es ea) (hE : elOf P E = some (es, bytes)) (h0 : 0 < es) (h : ∀ g, st.freshT g → R (.own g []) (.tok g E es 0 :: st)) : POp P o ρ st R := by
  refine POp.of_run fun F K w a h1 h2 => ?_
  obtain ⟨dst, op, ty, pos, after, guard⟩ := o
  simp only at ho h2
  subst ho
  obtain ⟨d, hd, rfl⟩ := Qal hT
  cases d with
  | slice E' =>
    simp only [tyK, TyK.slice.injEq] at hk
    obtain ⟨rfl, hes, rfl⟩ := hk
    obtain ⟨ie, z, hie, hz, hsz, -, hzs⟩ := Qgd hE
    obtain ⟨hx, hrel⟩ := h1.newRow #[] E' 0 (Nat.zero_le _) (.inl rfl)
    have hown : (w.alloc (.cells #[] E')).ownsRow 0 E' es (.slice (some ⟨w.heap.size, 0, none⟩) 0 0) 0 [] := by
      exact ⟨by simp, .inr ⟨w.heap.size, 0, #[], rfl, Nat.zero_le _, heap_alloc_new w _, Nat.le_refl _, Nat.zero_le _, by simp, by simp⟩⟩
    obtain ⟨g, hg, hfr, hx2, hr2⟩ := hrel.newTok (u := .slice (some ⟨w.heap.size, 0, none⟩) 0 0) (E := E') (sz := es) (n := 0) (xs := []) hown rfl fun b hb => by
      simp only [Value.ownBlock, Option.some.injEq] at hb
      subst hb
      refine ⟨fun hf => by have := h1.ff _ hf; omega, fun o hc => ?_, fun e he heq => ?_⟩
      · rcases hc with hc | ⟨_, ho⟩
        · have := h1.klt hc; omega
        · omega
      · have hb' : e.block K = some w.heap.size := by
          cases e with
          | box i U cs => exact heq
          | tok j U sz n => exact heq
          | obj i ok => exact heq
        have := ((h1.ents e he).lt hb').1
        omega
    refine ⟨.slice (some ⟨w.heap.size, 0, none⟩) 0 0, _, _, .own g [], _, ?_, hx.trans hx2, hr2, .own (.nil (Nat.zero_le _)) (by simp [Kp.setOwn]) (Nat.zero_le _) fun _ => rfl, h g hfr⟩
    simp only [execOp, Sem.run_bind]
    have : (Instr.buildSlice t 0 #[]).run P w = .ok (.slice (some ⟨w.heap.size, 0, none⟩) 0 0) (w.alloc (.cells #[] E')) := by
      simp [Instr.buildSlice, run_underlying hd, sizeOf, typeInfo, hie, newRow, Instr.fill]
      rw [Array.eq_empty_of_size_eq_zero (xs := Array.map (fun x => default) (Array.range 0)) (by simp)]
    simp only [List.map_toArray, List.map_nil] at this ⊢
    rw [this]
    rfl
  | _ => simp [tyK] at hk
def lowOf (ρ : Operand → Option PV) : Option Operand → Option Int
  | none => some 0
  | some x => match ρ x with
    | some (.d (.v (.int _ n))) => some n
    | _ => none
def Qeq (ρ : Operand → Option PV) (len : Nat) : Option Operand → Option Int
  | none => some len
  | some x => match ρ x with
    | some (.d (.v (.int _ n))) => some n
    | _ => none
theorem low_spec {ρ : Operand → Option PV} {lo : Option Operand} {n : Int} (h : lowOf ρ lo = some n) : (lo = none ∧ n = 0) ∨ ∃ x k, lo = some x ∧ ρ x = some (.d (.v (.int k n))) := by
 unfold lowOf at h
 split at h
 ·exact .inl ⟨rfl, (Option.some.inj h).symm⟩
 ·split at h
  ·rename_i x _ k m hx
   obtain rfl := Option.some.inj h
   exact .inr ⟨x, k, rfl, hx⟩
  ·cases h
theorem high_spec {ρ : Operand → Option PV} {len : Nat} {hi : Option Operand} {n : Int} (h : Qeq ρ len hi = some n) : (hi = none ∧ n = len) ∨ ∃ x k, hi = some x ∧ ρ x = some (.d (.v (.int k n))) := by
 unfold Qeq at h
 split at h
 ·exact .inl ⟨rfl, (Option.some.inj h).symm⟩
 ·split at h
  ·rename_i x _ k m hx
   obtain rfl := Option.some.inj h
   exact .inr ⟨x, k, rfl, hx⟩
  ·cases h
theorem rows_cut {K : Nat → Nat → Prop} {w : World} {rows : List (List D)} {a : Option Addr} {cap es l h : Nat} (hr : RelD K w (.sl rows) (.slice a rows.length cap)) (hlen : ∀ row ∈ rows, row.length = es) (h1 : l ≤ h) (h2 : h ≤ rows.length) (hc : rows.length ≤ cap) (hm : cap ≤ maxLen) : RelD K w (.sl ((rows.take h).drop l)) (sliced a l h cap es) := by
  unfold sliced
  rcases Nat.lt_or_ge l h with hlt | hge
  · cases hr with
    | nil => simp at h2; omega
    | @sl sz _ b off _ vals q1 q2 q3 q4 q5 =>
      have hne : rows ≠ [] := by intro e; subst e; simp at h2; omega
      obtain ⟨r0, hr0⟩ := List.exists_mem_of_ne_nil rows hne
      have hes : sz = es := by rw [← q3 r0 hr0, hlen r0 hr0]
      subst hes
      rw [if_neg (by omega)]
      simp only [Option.map_some, Qcf]
      have hl : ((rows.take h).drop l).length = h - l := by simp; omega
      rw [← hl]
      have hget : ∀ (i : Nat) (row : List D), ((rows.take h).drop l)[i]? = some row → rows[l + i]? = some row := fun i row hi => by
        rw [List.getElem?_drop, List.getElem?_take] at hi
        split at hi
        · exact hi
        · cases hi
      refine .sl (sz := sz) (fun i j => vals (l + i) j) (by rw [hl]; omega) (by omega) (fun row hrow => q3 row (List.mem_of_mem_take (List.mem_of_mem_drop hrow))) (fun i j row d hi hj => ?_) fun i j row d hi hj => q5 (l + i) j row d (hget i row hi) hj
      have := q4 (l + i) j row d (hget i row hi) hj
      rw [show off + l * sz + i * sz + j = off + (l + i) * sz + j by rw [Nat.add_mul]; omega]
      exact this
  · have he : l = h := by omega
    subst he
    rw [List.drop_of_length_le (by simp; omega), Nat.sub_self]
    exact .nil (by omega)
theorem POp_slice {P : Program} {o : Oper} {ρ : Operand → Option PV} {t : TypeId} {x : Operand} {lo hi : Option Operand} (ho : o.op = .slice t x lo hi none) {E es : Nat} {ea : Option Bool} {T : Ty} (hT : tyOf P t = some T) (hk : T.k = .slice E es ea) (hes : es ≠ 0) {p : PV} (hx : ρ x = some p) {rows : List (List D)} (hp : p.rows = some rows) (hl : ∀ row ∈ rows, row.length = es) {l h : Nat} (hlo : lowOf ρ lo = some (l : Int)) (hhi : Qeq ρ rows.length hi = some (h : Int)) (h1 : l ≤ h) (h2 : h ≤ rows.length) (st : St) :
    POp P o ρ st fun q s => q = .d (.sl ((rows.take h).drop l)) ∧ s = st := by
  refine POp.of_run fun F K w a hr0 hops => ?_
  obtain ⟨dst, op, ty, pos, after, guard⟩ := o
  simp only at ho hops
  subst ho
  obtain ⟨d, hd, rfl⟩ := Qal hT
  cases d with
  | slice E' =>
    simp only [tyK, TyK.slice.injEq] at hk
    obtain ⟨rfl, hsz, rfl⟩ := hk
    have hr := Qcl hp (hops x (by simp [Op.operands]) p hx)
    obtain ⟨b, cap, hv, hc, hm⟩ := Qei hr
    rw [hv] at hr
    have hu : P.underlying t = some (.slice (P.elem t)) := by rw [hd]; simp [Program.elem, hd]
    have he : P.elem t = E' := by simpa [hd] using hu.symm
    have hso : ∀ w', (sizeOf (P.elem t)).run P w' = .ok es w' := fun w' => by rw [he]; rw [← hsz] at hes ⊢; exact Qcb hes w'
    have hcut := rows_cut hr hl h1 h2 hc hm
    have hn0 : (0 : Int) ≤ (l : Int) := by omega
    refine ⟨sliced b l h cap es, w, K, _, st, ?_, Ext.refl _ _ _, hr0, .d hcut, rfl, rfl⟩
    simp only [execOp, hv, Sem.run_bind]
    rcases low_spec hlo with ⟨rfl, h0⟩ | ⟨y, ky, rfl, hy⟩ <;> rcases high_spec hhi with ⟨rfl, h4⟩ | ⟨z, kz, rfl, hz⟩
    · have e1 : l = 0 := by omega
      have e2 : h = rows.length := by omega
      subst e1; subst e2
      simp only [Option.map_none, run_sliceAt_slice w t _ _ _ _ hu, run_slice_all w t b rows.length cap hu, hso, Result.andThen_ok]; rfl
    · have e1 : l = 0 := by omega
      subst e1
      obtain ⟨ez, -⟩ := (hops z (by simp [Op.operands]) _ hz).flat
      simp only [Option.map_none, Option.map_some, ez, run_sliceAt_slice w t _ _ _ _ hu, run_slice_h w t b rows.length cap hu kz h (by omega) (by omega), hso, Result.andThen_ok, Int.toNat_natCast]; rfl
    · have e2 : h = rows.length := by omega
      subst e2
      obtain ⟨ey, -⟩ := (hops y (by simp [Op.operands]) _ hy).flat
      simp only [Option.map_none, Option.map_some, ey, run_sliceAt_slice w t _ _ _ _ hu, run_slice_l w t b rows.length cap hu ky l (by omega) (by omega), hso, Result.andThen_ok, Int.toNat_natCast]; rfl
    · obtain ⟨ey, -⟩ := (hops y (by simp [Op.operands]) _ hy).flat
      obtain ⟨ez, -⟩ := (hops z (by simp [Op.operands]) _ hz).flat
      simp only [Option.map_none, Option.map_some, ey, ez, run_sliceAt_slice w t _ _ _ _ hu, run_slice_lh w t b rows.length cap hu ky kz l h (by omega) (by omega) (by omega), hso, Result.andThen_ok, Int.toNat_natCast]; rfl
  | _ => simp [tyK] at hk
section
variable {P : Program} {J : St → Prop} {n : Nat} {ops : Array Oper} {Q : PF → St → Prop} {rest : List Oper} {fr : PF} {st : St} {p : PV} {op : Op} {ty : TypeId} {pos : String} {after : Array Edge} {gd : Option (Nat × Bool)} {od : List (Nat × Kd)} {j d : Nat}
theorem Qfh {t : TypeId} {ts E es bytes : Nat} {ea : Option Bool} {T0 : Ty} {e0 : Nat × Nat} (h : ∀ g, st.freshT g → POps P n ops Q rest ((d, .own g []) :: fr) (.tok g E es 0 :: st)) (hd : d < n) (hw : PF.wants fr ops ⟨some d, .buildSlice t 0 #[], ty, pos, after, gd⟩ = some true) (hT : tyOf P t = some T0) (hT2 : T0 = ⟨ts, .slice E es ea⟩) (hE : elOf P E = some e0) (hE2 : e0 = (es, bytes)) (h0 : 0 < es) : POps P n ops Q (⟨some d, .buildSlice t 0 #[], ty, pos, after, gd⟩ :: rest) fr st :=
 Qde hd hw (Qes rfl (hT2 ▸ hT) rfl (hE2 ▸ hE) h0 h)
theorem POps_slice {t : TypeId} {x : Operand} {lo hi : Option Operand} {ts E es : Nat} {ea : Option Bool} {T0 : Ty} {rows : List (List D)} (l h : Nat) (hk : POps P n ops Q rest ((d, .d (.sl ((rows.take h).drop l))) :: fr) st) (hd : d < n) (hw : PF.wants fr ops ⟨some d, .slice t x lo hi none, ty, pos, after, gd⟩ = some true) (hT : tyOf P t = some T0) (hT2 : T0 = ⟨ts, .slice E es ea⟩) (hes : es ≠ 0) (hx : fr.eval x = some p) (hp : p.rows = some rows) (hlo : lowOf fr.eval lo = some (l : Int)) (hhi : Qeq fr.eval rows.length hi = some (h : Int)) (h1 : l ≤ h) (h2 : h ≤ rows.length) (hl : ∀ row ∈ rows, row.length = es) : POps P n ops Q (⟨some d, .slice t x lo hi none, ty, pos, after, gd⟩ :: rest) fr st :=
 Qde hd hw ((POp_slice (o := ⟨some d, .slice t x lo hi none, ty, pos, after, gd⟩) rfl (hT2 ▸ hT) rfl hes hx hp hl hlo hhi h1 h2 st).mono fun q s ⟨e1, e2⟩ => by subst e1; subst e2; exact hk)
end
section
variable {P : Program} {n : Nat} {ops : Array Oper} {Q : PF → St → Prop} {rest : List Oper} {fr : PF} {st L M st0 : St} {ty : TypeId} {pos : String} {after : Array Edge} {gd : Option (Nat × Bool)} {d f j : Nat} {xs : Array Operand} {ts : Array TypeId} {ps qs : List PV} {R : PV → St → Prop} {od : List (Nat × Kd)}
theorem POp.permOut' {o : Oper} {ρ : Operand → Option PV} {st : St} {R R' : PV → St → Prop} (h : POp P o ρ st R) (hr : ∀ p s, R p s → ∃ s', s.Perm s' ∧ R' p s') : POp P o ρ st R' :=
 fun F K w a next Q h1 h2 h3 => h F K w a next Q h1 h2 fun K' w' p st' v a b c d => by
  obtain ⟨s', hp, hr'⟩ := hr p st' d
  exact h3 K' w' p s' v a (b.perm hp) c hr'
end
section
variable {P : Program} {n : Nat} {ops : Array Oper} {Q : PF → St → Prop} {rest : List Oper} {fr : PF} {st : St} {ty : TypeId} {pos : String} {after : Array Edge} {gd : Option (Nat × Bool)} {od : List (Nat × Kd)} {d j : Nat}
end
section
variable {P : Program} {n : Nat} {ops : Array Oper} {Q : PF → St → Prop} {fr : PF} {st : St} {ty : TypeId} {pos : String} {after : Array Edge} {gd : Option (Nat × Bool)} {od : List (Nat × Kd)} {d j : Nat}
end
end Go.Proofs.Ytpaifjlikgnlfaa

import Derived.Test.YtdklpbefbamchaaGreatBA2
import Derived.Test.YtdklpbefbamchaaGreatBD
set_option linter.unusedSimpArgs false
set_option linter.unusedVariables false
set_option maxHeartbeats 16000000
set_option maxRecDepth 100000
namespace Go.Proofs.YtdklpbefbamchaaGreat
open Go.RowKit
section
variable {P : Program} {n : Nat} {ops : Array Oper} {Q : PF → St → Prop} {rest : List Oper} {fr : PF} {st : St} {p : PV} {op : Op} {ty : TypeId} {pos : String} {after : Array Edge}
theorem Qh (h : Q fr st) : POps P n ops Q [] fr st := h
theorem POps_s {d : Nat} (hd : d < n) (he : nev P (PF.eval fr) op = some p) (h : POps P n ops Q rest ((d, p) :: fr) st) : POps P n ops Q (⟨some d, op, ty, pos, after, none⟩ :: rest) fr st :=
 ⟨fun _ e => by cases e; exact hd, .inl ⟨rfl, (nev_ok (o := ⟨some d, op, ty, pos, after, none⟩) he st).mono fun q s ⟨e1, e2⟩ => by subst e1; subst e2; exact h⟩⟩
theorem POps_b {d : Nat} (hd : d < n) (he : nevB P st (PF.eval fr) op = some p) (h : POps P n ops Q rest ((d, p) :: fr) st) : POps P n ops Q (⟨some d, op, ty, pos, after, none⟩ :: rest) fr st :=
 ⟨fun _ e => by cases e; exact hd, .inl ⟨rfl, (Qgk (o := ⟨some d, op, ty, pos, after, none⟩) he).mono fun q s ⟨e1, e2⟩ => by subst e1; subst e2; exact h⟩⟩
theorem POps_gs {d : Nat} {gd : Option (Nat × Bool)} (hd : d < n) (hw : PF.wants fr ops ⟨some d, op, ty, pos, after, gd⟩ = some true) (he : nev P (PF.eval fr) op = some p) (h : POps P n ops Q rest ((d, p) :: fr) st) : POps P n ops Q (⟨some d, op, ty, pos, after, gd⟩ :: rest) fr st :=
 ⟨fun _ e => by cases e; exact hd, .inl ⟨hw, (nev_ok (o := ⟨some d, op, ty, pos, after, gd⟩) he st).mono fun q s ⟨e1, e2⟩ => by subst e1; subst e2; exact h⟩⟩
theorem POps_gb {d : Nat} {gd : Option (Nat × Bool)} (hd : d < n) (hw : PF.wants fr ops ⟨some d, op, ty, pos, after, gd⟩ = some true) (he : nevB P st (PF.eval fr) op = some p) (h : POps P n ops Q rest ((d, p) :: fr) st) : POps P n ops Q (⟨some d, op, ty, pos, after, gd⟩ :: rest) fr st :=
 ⟨fun _ e => by cases e; exact hd, .inl ⟨hw, (Qgk (o := ⟨some d, op, ty, pos, after, gd⟩) he).mono fun q s ⟨e1, e2⟩ => by subst e1; subst e2; exact h⟩⟩
theorem POps_gn {d : Nat} {gd : Option (Nat × Bool)} (hd : d < n) (hw : PF.wants fr ops ⟨some d, op, ty, pos, after, gd⟩ = some false) (h : POps P n ops Q rest ((d, .tup []) :: fr) st) : POps P n ops Q (⟨some d, op, ty, pos, after, gd⟩ :: rest) fr st :=
 ⟨fun _ e => by cases e; exact hd, .inr ⟨hw, h⟩⟩
theorem Qed {d : Nat} {gd : Option (Nat × Bool)} (hd : d < n) (hw : PF.wants fr ops ⟨some d, op, ty, pos, after, gd⟩ = some true) (h : POp P ⟨some d, op, ty, pos, after, gd⟩ fr.eval st fun p st' => POps P n ops Q rest ((d, p) :: fr) st') : POps P n ops Q (⟨some d, op, ty, pos, after, gd⟩ :: rest) fr st :=
 ⟨fun _ e => by cases e; exact hd, .inl ⟨hw, h⟩⟩
theorem POps_e0 {gd : Option (Nat × Bool)} (hw : PF.wants fr ops ⟨none, op, ty, pos, after, gd⟩ = some true) (h : POp P ⟨none, op, ty, pos, after, gd⟩ fr.eval st fun _ st' => POps P n ops Q rest fr st') : POps P n ops Q (⟨none, op, ty, pos, after, gd⟩ :: rest) fr st :=
 ⟨fun _ e => (by cases e), .inl ⟨hw, h⟩⟩
theorem Qc {id : Nat} {l : List Oper} {Q : Exit → PF → St → Prop} (h : POps P n l.toArray (Q .normal) l fr st) : PW P n (.region id l.toArray false) Q fr st := PW_region (by simpa using h)
theorem Qj {next : PF → St → Prop} {Q : Exit → PF → St → Prop} (h : next fr st) : thenP next Q .normal fr st := h
theorem Qk {next : PF → St → Prop} {Q : Exit → PF → St → Prop} {id : Nat} (h : Q (.exit id) fr st) : thenP next Q (.exit id) fr st := h
theorem Ql {next : PF → St → Prop} {Q : Exit → PF → St → Prop} (h : Q .ret fr st) : thenP next Q .ret fr st := h
theorem Qm {Q : Exit → PF → St → Prop} {id : Nat} (h : Q .normal fr st) : Qgq id Q .normal fr st := h
theorem Qn {Q : Exit → PF → St → Prop} {id : Nat} (h : Q .ret fr st) : Qgq id Q .ret fr st := h
theorem Qo {Q : Exit → PF → St → Prop} {id : Nat} (h : Q .normal fr st) : Qgq id Q (.exit id) fr st := by simp only [Qgq, if_true]; exact h
theorem Qp {Q : Exit → PF → St → Prop} {id id' : Nat} (hne : Nat.beq id' id = false) (h : Q (.exit id') fr st) : Qgq id Q (.exit id') fr st := by
 have : id' ≠ id := fun e => by subst e; rw [Nat.beq_refl] at hne; cases hne
 simp only [Qgq, if_neg this]; exact h
theorem Jm {P : Program} {fn : Func} {R : PV → St → Prop} {rs : List ResultVar} {l : List PV} {st' : St} {e : Exit} (he : e = .normal ∨ e = .ret) (hr : fn.results.toList = rs) (hl : resP P fr st rs = some l) (hs : st'.Sublist st) (h : R (tupP l).norm2 st') : retP P fn R e fr st :=
 ⟨he, l, _, st', by rw [hr]; exact hl, leq_norm2 _, hs, h⟩
theorem Qgv {P : Program} {fn : Func} {R : PV → St → Prop} {rs : List ResultVar} {l : List PV} {st' : St} {e : Exit} (he : e = .normal ∨ e = .ret) (hr : fn.results.toList = rs) (hl : resP P fr st rs = some l) (hs : st'.Sublist st) (h : R (tupP l) st') : retP P fn R e fr st :=
 ⟨he, l, _, st', by rw [hr]; exact hl, Leq.refl _, hs, h⟩
def PF.keep (fr : PF) (l : List Nat) : PF := l.filterMap fun t => (fr.get t).map fun p => (t, p)
theorem PW_cond_t {c : Operand} {x y : Code} {Q : Exit → PF → St → Prop} (hc : fr.eval c = some (.d (.v (.bool true)))) (h : PW P n x Q fr st) : PW P n (.cond c x y) Q fr st := PW_cond hc (fun _ => h) (fun e => by cases e)
theorem PW_cond_f {c : Operand} {x y : Code} {Q : Exit → PF → St → Prop} (hc : fr.eval c = some (.d (.v (.bool false)))) (h : PW P n y Q fr st) : PW P n (.cond c x y) Q fr st := PW_cond hc (fun e => by cases e) (fun _ => h)
end
mutual
def dtD : Dt → D
 | .v x => .v x
 | .str s => .v (.string s)
 | .s _ l => .sl (dtLL l)
def dtL : List Dt → List D
 | [] => []
 | d :: r => dtD d :: dtL r
def dtLL : List (List Dt) → List (List D)
 | [] => []
 | d :: r => dtL d :: dtLL r
end
theorem Qeh (l : List Dt) : dtL l = l.map dtD := by
 induction l with
 | nil => rfl
 | cons d r ih => simp only [dtL, List.map_cons, ih]
theorem Qdw (l : List (List Dt)) : dtLL l = l.map dtL := by
 induction l with
 | nil => rfl
 | cons d r ih => simp only [dtLL, List.map_cons, ih]
inductive DtOk : Dt → Prop
 | v {x} : okv x → DtOk (.v x)
 | str {s} : DtOk (.str s)
 | s {sz l} : 0 < sz → (∀ f ∈ l, f.length = sz) → (∀ f ∈ l, ∀ d ∈ f, DtOk d) → DtOk (.s sz l)
class EncOk (α : Type) [Enc α] : Prop where
 ok : ∀ a : α, ∀ d ∈ Enc.enc a, DtOk d
def encD {α : Type} [Enc α] (a : α) : List D := dtL (Enc.enc a)
theorem Qir {α : Type} [Enc α] (a : α) : (encD a).length = Enc.sz α := by unfold encD; rw [Qeh, List.length_map]; exact Enc.len a
theorem RepF.of {S : Nat → Prop} {w : World} : ∀ {ds : List Dt} {cs : List Value}, cs.length = ds.length → (∀ (i : Nat) (d : Dt) (v : Value), ds[i]? = some d → cs[i]? = some v → RepV S w d v) → RepF S w ds cs := by
  intro ds
  induction ds with
  | nil => intro cs hl _; simp only [RepF]; exact List.eq_nil_of_length_eq_zero hl
  | cons d r ih =>
    intro cs hl h
    match cs, hl with
    | c :: cr, hl =>
      simp only [RepF]
      exact ⟨c, cr, rfl, h 0 d c rfl rfl, ih (by simpa using hl) fun i d' v h1 h2 => h (i + 1) d' v (by simpa using h1) (by simpa using h2)⟩
theorem RepF.get {S : Nat → Prop} {w : World} : ∀ {ds : List Dt} {cs : List Value}, RepF S w ds cs → ∀ (i : Nat) (d : Dt) (v : Value), ds[i]? = some d → cs[i]? = some v → RepV S w d v := by
  intro ds
  induction ds with
  | nil => intro cs h i d v hd; simp at hd
  | cons d r ih =>
    intro cs h i d' v hd hv
    simp only [RepF] at h
    obtain ⟨c, cr, rfl, h1, h2⟩ := h
    cases i with
    | zero =>
      have e1 := Option.some.inj hd
      have e2 := Option.some.inj hv
      subst e1; subst e2; exact h1
    | succ i => exact ih h2 i d' v (by simpa using hd) (by simpa using hv)
theorem repV_of {K : Nat → Nat → Prop} {w : World} : ∀ (d : Dt), DtOk d → ∀ v, RelD K w (dtD d) v → RepV (fun _ => True) w d v := by
  refine Dt.ind ?_ ?_ ?_
  · intro x ho v h
    simp only [dtD] at h
    simp only [RepV]
    cases h with
    | v h => exact ⟨rfl, okv_one h⟩
  · intro s ho v h
    simp only [dtD] at h
    simp only [RepV]
    cases h with
    | v h => exact ⟨rfl, h⟩
  · intro sz l ih ho v h
    simp only [dtD, Qdw] at h
    simp only [RepV]
    cases ho with
    | s h0 h1 h2 =>
    by_cases hne : l = []
    · subst hne
      simp only [List.map_nil] at h
      cases h with
      | nil hc => exact ⟨[], ⟨_, _, rfl, Nat.zero_le _, hc, fun h => absurd rfl h⟩, by simp only [RepL]⟩
      | sl vals q1 q2 q3 q4 q5 => exact ⟨[], ⟨_, _, rfl, Nat.zero_le _, q2, fun h => absurd rfl h⟩, by simp only [RepL]⟩
    · generalize hrows : l.map dtL = rows at h
      cases h with
      | nil hc => exact absurd (List.map_eq_nil_iff.1 hrows) hne
      | @sl sz' _ b off cap vals q1 q2 q3 q4 q5 =>
        have hlen : rows.length = l.length := by rw [← hrows, List.length_map]
        have hrow : ∀ (i : Nat) (f : List Dt), l[i]? = some f → rows[i]? = some (dtL f) := fun i f hi => by rw [← hrows, List.getElem?_map, hi]; rfl
        have hsz : sz' = sz := by
          obtain ⟨f, hf⟩ := List.exists_mem_of_ne_nil l hne
          have := q3 (dtL f) (by rw [← hrows]; exact List.mem_map.2 ⟨f, hf, rfl⟩)
          rw [← this, Qeh, List.length_map, h1 f hf]
        subst hsz
        have hd : ∀ (i j : Nat) (f : List Dt) (d : Dt), l[i]? = some f → f[j]? = some d → (dtL f)[j]? = some (dtD d) := fun i j f d _ hj => by rw [Qeh, List.getElem?_map, hj]; rfl
        have hl0 : 0 < l.length := List.length_pos_iff.2 hne
        refine ⟨(List.range l.length).map fun i => (List.range sz').map fun j => vals i j, ⟨some ⟨b, off, none⟩, cap, by simp [hlen], by simp; omega, q2, fun _ => ?_⟩, RepL.mk (by simp) fun i hi => ?_⟩
        · refine ⟨b, off, rfl, trivial, ?_, fun i c hic => ?_⟩
          · have hf0 : l[0]? = some l[0] := List.getElem?_eq_getElem hl0
            have hlz : 0 < (l[0]).length := by rw [h1 _ (List.getElem_mem hl0)]; exact h0
            have hj : (l[0])[0]? = some ((l[0])[0]) := List.getElem?_eq_getElem hlz
            have := (q4 0 0 _ _ (hrow 0 _ hf0) (hd 0 0 _ _ hf0 hj)).2
            exact World.block_lt_of_cell? w _ this
          · have hil : i < l.length := by
              have := (List.getElem?_eq_some_iff.1 hic).1
              simpa using this
            rw [List.getElem?_map, List.getElem?_range hil, Option.map_some, Option.some.injEq] at hic
            subst hic
            refine ⟨by simp, fun j x hx => ?_⟩
            have hjl : j < sz' := by
              have := (List.getElem?_eq_some_iff.1 hx).1
              simpa using this
            rw [List.getElem?_map, List.getElem?_range hjl, Option.map_some, Option.some.injEq] at hx
            subst hx
            have hfi : l[i]? = some l[i] := List.getElem?_eq_getElem hil
            have hlz : j < (l[i]).length := by rw [h1 _ (List.getElem_mem hil)]; exact hjl
            exact (q4 i j _ _ (hrow i _ hfi) (hd i j _ _ hfi (List.getElem?_eq_getElem hlz))).2
        · refine ⟨(List.range sz').map fun j => vals i j, by rw [List.getElem?_map, List.getElem?_range hi]; rfl, RepF.of (by rw [h1 _ (List.getElem_mem hi)]; simp) fun j d v hj hv => ?_⟩
          have hjl : j < sz' := by
            have := (List.getElem?_eq_some_iff.1 hv).1
            simpa using this
          rw [List.getElem?_map, List.getElem?_range hjl, Option.map_some, Option.some.injEq] at hv
          subst hv
          have hfi : l[i]? = some l[i] := List.getElem?_eq_getElem hi
          have hm : d ∈ l[i] := List.mem_of_getElem? hj
          exact ih _ (List.getElem_mem hi) d hm (h2 _ (List.getElem_mem hi) d hm) _ (q5 i j _ _ (hrow i _ hfi) (hd i j _ _ hfi hj))
theorem relD_of {S : Nat → Prop} {K : Nat → Nat → Prop} {w : World} (hK : ∀ b o v, S b → w.cell? ⟨b, o, none⟩ = some v → K b o) : ∀ (d : Dt), DtOk d → ∀ v, RepV S w d v → RelD K w (dtD d) v := by
 refine Dt.ind ?_ ?_ ?_
 ·intro x ho v h
  simp only [dtD]
  simp only [RepV] at h
  obtain ⟨rfl, h⟩ := h
  cases ho with
  | v h => exact .v h
 ·intro s ho v h
  simp only [dtD]
  simp only [RepV] at h
  obtain ⟨rfl, h⟩ := h
  exact .v h
 ·intro sz l ih ho v h
  simp only [dtD, Qdw]
  simp only [RepV] at h
  obtain ⟨css, ⟨a, cap, rfl, hle, hm, hc⟩, hr⟩ := h
  cases ho with
  | s h0 h1 h2 =>
  have hlen := hr.length
  by_cases hne : l = []
  ·subst hne
   have : css = [] := List.eq_nil_of_length_eq_zero (by rw [hlen]; rfl)
   subst this
   exact .nil hm
  ·obtain ⟨b, off, rfl, hS, hbl, hcell⟩ := hc (by intro e; rw [e] at hlen; exact hne (List.eq_nil_of_length_eq_zero hlen.symm))
   have key : ∀ (i j : Nat) (row : List D) (d : D), (l.map dtL)[i]? = some row → row[j]? = some d → ∃ x, w.cell? ⟨b, off + i * sz + j, none⟩ = some x ∧ RelD K w d x := by
    intro i j row d hi hj
    rw [List.getElem?_map] at hi
    obtain ⟨f, hf, rfl⟩ := Option.map_eq_some_iff.1 hi
    rw [Qeh, List.getElem?_map] at hj
    obtain ⟨e, he, rfl⟩ := Option.map_eq_some_iff.1 hj
    obtain ⟨hil, rfl⟩ := List.getElem?_eq_some_iff.1 hf
    obtain ⟨c, hci, hrf⟩ := hr.get i hil
    have hcl := hrf.length
    have hjl := (List.getElem?_eq_some_iff.1 he).1
    have hcj : c[j]? = some c[j] := List.getElem?_eq_getElem (by omega)
    have hm : e ∈ l[i] := List.mem_of_getElem? he
    exact ⟨c[j], (hcell i c hci).2 j _ hcj, ih _ (List.getElem_mem hil) e hm (h2 _ (List.getElem_mem hil) e hm) _ (hrf.get j e _ he hcj)⟩
   have hfin := RelD.sl (K := K) (w := w) (sz := sz) (rows := l.map dtL) (b := b) (off := off) (cap := cap) (fun i j => (w.cell? ⟨b, off + i * sz + j, none⟩).getD undef) (by rw [List.length_map]; omega) hm (fun row hrow => by
    obtain ⟨f, hf, rfl⟩ := List.mem_map.1 hrow
    rw [Qeh, List.length_map, h1 f hf]) (fun i j row d hi hj => by
     obtain ⟨x, hx, _⟩ := key i j row d hi hj
     exact ⟨hK b _ x hS hx, by rw [hx]; rfl⟩) fun i j row d hi hj => by
     obtain ⟨x, hx, hd⟩ := key i j row d hi hj
     rw [hx]; exact hd
   rw [List.length_map] at hfin
   rw [hlen]
   exact hfin
theorem relS_of {α : Type} [Enc α] [EncOk α] {S : Nat → Prop} {K : Nat → Nat → Prop} {w : World} (hK : ∀ b o v, S b → w.cell? ⟨b, o, none⟩ = some v → K b o) (h0 : 0 < Enc.sz α) {v : Value} {l : List α} (h : RepS S w v l) : RelD K w (.sl (l.map encD)) v := by
 have := relD_of hK _ (DtOk.s h0 (fun f hf => by obtain ⟨a, _, rfl⟩ := List.mem_map.1 hf; exact Enc.len a) fun f hf d hd => by obtain ⟨a, _, rfl⟩ := List.mem_map.1 hf; exact EncOk.ok a d hd) v h
 simp only [dtD, Qdw, List.map_map] at this
 exact this
def aggD {α : Type} [Enc α] (a : α) : PV := .agg ((encD a).map .d)
theorem rep_rel {α : Type} [Enc α] [EncOk α] {K : Kp} {w : World} {a : α} {v : Value} (h : RelV K w (aggD a) v) : ∃ cs : List Value, v = .agg cs.toArray ∧ Rep (fun _ => True) w a cs := by
  unfold aggD at h
  cases h with
  | @agg _ vs h1 h2 =>
    refine ⟨vs.toList, by simp, RepF.of (by rw [List.length_map, Qir] at h1; rw [Enc.len]; simpa using h1) fun i d v hd hv => ?_⟩
    have hi : (encD a)[i]? = some (dtD d) := by unfold encD; rw [Qeh, List.getElem?_map, hd]; rfl
    have := h2 i (.d (dtD d)) v (by rw [List.getElem?_map, hi]; rfl) (by simpa using hv)
    cases this with
    | d h => exact repV_of d (EncOk.ok a d (List.mem_of_getElem? hd)) v h
theorem rel_rep {α : Type} [Enc α] [EncOk α] {S : Nat → Prop} {K : Kp} {w : World} (hK : ∀ b o v, S b → w.cell? ⟨b, o, none⟩ = some v → K.cell b o) {a : α} {cs : List Value} (h : Rep S w a cs) : RelV K w (aggD a) (.agg cs.toArray) := by
 have hl := h.length
 unfold aggD
 refine .agg (by rw [List.length_map, Qir]; simpa using hl) fun i p v hp hv => ?_
 rw [List.getElem?_map] at hp
 obtain ⟨x, hx, rfl⟩ := Option.map_eq_some_iff.1 hp
 unfold encD at hx
 rw [Qeh, List.getElem?_map] at hx
 obtain ⟨d, hd, rfl⟩ := Option.map_eq_some_iff.1 hx
 exact .d (relD_of hK d (EncOk.ok a d (List.mem_of_getElem? hd)) v (RepF.get h i d v hd (by simpa using hv)))
theorem ndD_ok : ∀ (t : Nd), ∀ d ∈ ndD t, DtOk d := by
 refine Nd.ind ?_
 intro k a s n sub ih d hd
 simp only [ndD, List.mem_cons, List.not_mem_nil, or_false] at hd
 rcases hd with rfl | rfl | rfl | rfl | rfl
 ·exact .v trivial
 ·exact .v trivial
 ·exact .str
 ·exact .v trivial
 ·refine .s (by decide) (fun f hf => ?_) fun f hf d hd => ?_
  ·rw [ndDs_map] at hf; obtain ⟨t, _, rfl⟩ := List.mem_map.1 hf; exact ndD_len t
  ·rw [ndDs_map] at hf; obtain ⟨t, ht, rfl⟩ := List.mem_map.1 hf; exact ih t ht d hd
instance : EncOk Nd := ⟨ndD_ok⟩
theorem Qgt {α : Type} [Enc α] [EncOk α] (h0 : 0 < Enc.sz α) (l : List α) : DtOk (.s (Enc.sz α) (l.map Enc.enc)) :=
 .s h0 (fun f hf => by obtain ⟨a, _, rfl⟩ := List.mem_map.1 hf; exact Enc.len a) fun f hf d hd => by obtain ⟨a, _, rfl⟩ := List.mem_map.1 hf; exact EncOk.ok a d hd
instance : EncOk Bd := ⟨fun b d hd => by
 simp only [Enc.enc, List.mem_append, List.mem_cons, List.not_mem_nil, or_false] at hd
 rcases hd with (rfl | rfl) | hd
 ·exact .str
 ·exact .v trivial
 ·exact ndD_ok _ d hd⟩
instance : EncOk Rw := ⟨fun b d hd => by
 simp only [Enc.enc, List.mem_append, List.mem_cons, List.not_mem_nil, or_false] at hd
 rcases hd with (rfl | rfl | rfl) | hd
 ·exact .v trivial
 ·exact Qgt (α := Nd) (by decide) b.pats
 ·exact .v trivial
 ·exact ndD_ok _ d hd⟩
instance : EncOk Dc := ⟨fun b d hd => by
 simp only [Enc.enc, List.mem_append, List.mem_cons, List.not_mem_nil, or_false] at hd
 rcases hd with (rfl | rfl | rfl | rfl) | hd | rfl | rfl
 ·exact .v trivial
 ·exact .v trivial
 ·exact .str
 ·exact Qgt (α := Bd) (by decide) b.tele
 ·exact ndD_ok _ d hd
 ·exact Qgt (α := Bd) (by decide) b.cons
 ·exact Qgt (α := Rw) (by decide) b.rows⟩
instance : EncOk ByteArray := ⟨fun b d hd => by
 simp only [Enc.enc, List.mem_cons, List.not_mem_nil, or_false] at hd
 subst hd; exact .str⟩
instance : EncOk Int := ⟨fun b d hd => by
 simp only [Enc.enc, List.mem_cons, List.not_mem_nil, or_false] at hd
 subst hd; exact .v trivial⟩
def slD {α : Type} [Enc α] (l : List α) : D := .sl (l.map encD)
theorem Jh (t : Nd) : encD t = [.v (.int .i64 t.kind), .v (.int .i64 t.at), .v (.string t.name), .v (.int .i64 t.num), .sl (t.sub.map encD)] := by
  cases t with
  | mk k a s n sub =>
    unfold encD
    simp only [Enc.enc, ndD, dtL, dtD, Qdw, ndDs_map, List.map_map, Nd.kind, Nd.at, Nd.name, Nd.num, Nd.sub]
    rfl
theorem Qdt (a b : List Dt) : dtL (a ++ b) = dtL a ++ dtL b := by rw [Qeh, Qeh, Qeh, List.map_append]
theorem Jk (b : Bd) : encD b = [.v (.string b.name), .v (.int .i64 b.at_), .v (.int .i64 b.ty.kind), .v (.int .i64 b.ty.at), .v (.string b.ty.name), .v (.int .i64 b.ty.num), .sl (b.ty.sub.map encD)] := by
 have h := Jh b.ty
 unfold encD at h ⊢
 simp only [Enc.enc] at h ⊢
 rw [Qdt, h]; rfl
theorem Ji (r : Rw) : encD r = [.v (.int .i64 r.at_), .sl (r.pats.map encD), .v (.bool r.has), .v (.int .i64 r.body.kind), .v (.int .i64 r.body.at), .v (.string r.body.name), .v (.int .i64 r.body.num), .sl (r.body.sub.map encD)] := by
 have h := Jh r.body
 unfold encD at h ⊢
 simp only [Enc.enc] at h ⊢
 rw [Qdt, h]
 simp only [dtL, dtD, Qdw, List.map_map]; rfl
theorem Jj (d : Dc) : encD d = [.v (.int .i64 d.kind), .v (.int .i64 d.at_), .v (.string d.name), .sl (d.tele.map encD), .v (.int .i64 d.ty.kind), .v (.int .i64 d.ty.at), .v (.string d.ty.name), .v (.int .i64 d.ty.num), .sl (d.ty.sub.map encD), .sl (d.cons.map encD), .sl (d.rows.map encD)] := by
 have h := Jh d.ty
 unfold encD at h ⊢
 simp only [Enc.enc] at h ⊢
 rw [Qdt, Qdt, h]
 simp only [dtL, dtD, Qdw, List.map_map]; rfl
theorem Jg (s : ByteArray) : encD s = [.v (.string s)] := rfl
theorem Jf (n : Int) : encD n = [.v (.int .i64 n)] := rfl
section
variable {P : Program} {n : Nat} {ops : Array Oper} {Q : PF → St → Prop} {rest : List Oper} {fr : PF} {st : St} {p : PV} {op : Op} {ty : TypeId} {pos : String} {after : Array Edge} {gd : Option (Nat × Bool)}
theorem POps_call {d f : Nat} {xs : Array Operand} {ts : Array TypeId} {ps qs : List PV} {r : PV} (hc : PCalls P f qs [] fun p s => p = r ∧ s = []) (hd : d < n) (hw : PF.wants fr ops ⟨some d, .call { callee := .value (.func f), args := xs, argTypes := ts }, ty, pos, after, gd⟩ = some true) (hxs : Jo fr.eval xs.toList = some ps) (hn : ps.map PV.norm1 = qs) (hca : Qbl P f = true)
  (h : POps P n ops Q rest ((d, r) :: fr) st) : POps P n ops Q (⟨some d, .call { callee := .value (.func f), args := xs, argTypes := ts }, ty, pos, after, gd⟩ :: rest) fr st :=
 Qed hd hw ((Qhu (o := ⟨some d, .call { callee := .value (.func f), args := xs, argTypes := ts }, ty, pos, after, gd⟩) rfl rfl rfl hxs hca hn hc st).mono fun q s ⟨e1, e2⟩ => by subst e1; subst e2; exact h)
theorem POps_bs {d len : Nat} {t : TypeId} {parts : Array (Nat × Operand)} {E es bytes ts : Nat} {ea : Option Bool} {T0 : Ty} {e0 : Nat × Nat} {cells : List PV} {rows : List (List D)} (hd : d < n) (hw : PF.wants fr ops ⟨some d, .buildSlice t len parts, ty, pos, after, gd⟩ = some true) (hT : tyOf P t = some T0) (hT2 : T0 = ⟨ts, .slice E es ea⟩) (hE : elOf P E = some e0) (hE2 : e0 = (es, bytes)) (h0 : 0 < len * es) (h24 : len * es ≤ 16777216) (hf : Qac (fun i => some (i * es, es)) fr.eval (List.replicate (len * es) .u) parts.toList = some cells) (hr : Qcd es len cells = some rows)
  (h : POps P n ops Q rest ((d, .d (.sl rows)) :: fr) st) : POps P n ops Q (⟨some d, .buildSlice t len parts, ty, pos, after, gd⟩ :: rest) fr st :=
 Qed hd hw ((Qeu (o := ⟨some d, .buildSlice t len parts, ty, pos, after, gd⟩) rfl (hT2 ▸ hT) rfl (hE2 ▸ hE) h0 h24 hf hr st).mono fun q s ⟨e1, e2⟩ => by subst e1; subst e2; exact h)
variable {od : List (Nat × Kd)} {i d : Nat}
theorem Qi (h : Q fr st) : POrd P n ops Q [] fr st := h
theorem POrd_s {k : Kd} (ho : ops[i]? = some ⟨some d, op, ty, pos, after, gd⟩) (hd : d < n) (hw : PF.wants fr ops ⟨some d, op, ty, pos, after, gd⟩ = some true) (he : nev P fr.eval op = some p) (h : POrd P n ops Q od ((d, p) :: fr) st) : POrd P n ops Q ((i, k) :: od) fr st := by
 refine ⟨_, ho, fun _ e => (by cases e; exact hd), .inr ⟨hw, ?_⟩⟩
 have hn := fun s => nev_ok (o := ⟨some d, op, ty, pos, after, gd⟩) he s
 cases k with
 | a => exact ⟨p, hn, h⟩
 | b => exact ⟨p, hn st, h⟩
 | e => exact (hn st).mono fun q s ⟨e1, e2⟩ => by subst e1; subst e2; exact h
theorem POrd_b (ho : ops[i]? = some ⟨some d, op, ty, pos, after, gd⟩) (hd : d < n) (hw : PF.wants fr ops ⟨some d, op, ty, pos, after, gd⟩ = some true) (he : nevB P st fr.eval op = some p) (h : POrd P n ops Q od ((d, p) :: fr) st) : POrd P n ops Q ((i, .b) :: od) fr st :=
 ⟨_, ho, fun _ e => (by cases e; exact hd), .inr ⟨hw, p, Qgk (o := ⟨some d, op, ty, pos, after, gd⟩) he, h⟩⟩
theorem POrd_gn {k : Kd} (ho : ops[i]? = some ⟨some d, op, ty, pos, after, gd⟩) (hd : d < n) (hw : PF.wants fr ops ⟨some d, op, ty, pos, after, gd⟩ = some false) (h : POrd P n ops Q od ((d, .tup []) :: fr) st) : POrd P n ops Q ((i, k) :: od) fr st :=
 ⟨_, ho, fun _ e => (by cases e; exact hd), .inl ⟨hw, h⟩⟩
theorem POrd_call {f : Nat} {xs : Array Operand} {ts : Array TypeId} {ps qs : List PV} {r : PV} (hc : PCalls P f qs [] fun p s => p = r ∧ s = []) (ho : ops[i]? = some ⟨some d, .call { callee := .value (.func f), args := xs, argTypes := ts }, ty, pos, after, gd⟩) (hd : d < n) (hw : PF.wants fr ops ⟨some d, .call { callee := .value (.func f), args := xs, argTypes := ts }, ty, pos, after, gd⟩ = some true) (hxs : Jo fr.eval xs.toList = some ps) (hn : ps.map PV.norm1 = qs) (hca : Qbl P f = true)
  (h : POrd P n ops Q od ((d, r) :: fr) st) : POrd P n ops Q ((i, .a) :: od) fr st :=
 ⟨_, ho, fun _ e => (by cases e; exact hd), .inr ⟨hw, r, fun s => Qhu (o := ⟨some d, .call { callee := .value (.func f), args := xs, argTypes := ts }, ty, pos, after, gd⟩) rfl rfl rfl hxs hca hn hc s, h⟩⟩
theorem POrd_bs {len : Nat} {t : TypeId} {parts : Array (Nat × Operand)} {E es bytes ts : Nat} {ea : Option Bool} {T0 : Ty} {e0 : Nat × Nat} {cells : List PV} {rows : List (List D)} (ho : ops[i]? = some ⟨some d, .buildSlice t len parts, ty, pos, after, gd⟩) (hd : d < n) (hw : PF.wants fr ops ⟨some d, .buildSlice t len parts, ty, pos, after, gd⟩ = some true) (hT : tyOf P t = some T0) (hT2 : T0 = ⟨ts, .slice E es ea⟩) (hE : elOf P E = some e0) (hE2 : e0 = (es, bytes)) (h0 : 0 < len * es) (h24 : len * es ≤ 16777216) (hf : Qac (fun i => some (i * es, es)) fr.eval (List.replicate (len * es) .u) parts.toList = some cells) (hr : Qcd es len cells = some rows)
  (h : POrd P n ops Q od ((d, .d (.sl rows)) :: fr) st) : POrd P n ops Q ((i, .a) :: od) fr st :=
 ⟨_, ho, fun _ e => (by cases e; exact hd), .inr ⟨hw, _, fun s => Qeu (o := ⟨some d, .buildSlice t len parts, ty, pos, after, gd⟩) rfl (hT2 ▸ hT) rfl (hE2 ▸ hE) h0 h24 hf hr s, h⟩⟩
theorem POrd_e (ho : ops[i]? = some ⟨some d, op, ty, pos, after, gd⟩) (hd : d < n) (hw : PF.wants fr ops ⟨some d, op, ty, pos, after, gd⟩ = some true) (h : POp P ⟨some d, op, ty, pos, after, gd⟩ fr.eval st fun p st' => POrd P n ops Q od ((d, p) :: fr) st') : POrd P n ops Q ((i, .e) :: od) fr st :=
 ⟨_, ho, fun _ e => (by cases e; exact hd), .inr ⟨hw, h⟩⟩
theorem POrd_e0 (ho : ops[i]? = some ⟨none, op, ty, pos, after, gd⟩) (hw : PF.wants fr ops ⟨none, op, ty, pos, after, gd⟩ = some true) (h : POp P ⟨none, op, ty, pos, after, gd⟩ fr.eval st fun _ st' => POrd P n ops Q od fr st') : POrd P n ops Q ((i, .e) :: od) fr st :=
 ⟨_, ho, fun _ e => (by cases e), .inr ⟨hw, h⟩⟩
end
section
variable {P : Program} {n : Nat} {ops : Array Oper} {Q : PF → St → Prop} {rest : List Oper} {fr : PF} {st : St} {p : PV} {ty : TypeId} {pos : String} {after : Array Edge} {gd : Option (Nat × Bool)} {od : List (Nat × Kd)} {j d : Nat}
theorem Qiw {t : TypeId} {x y : Operand} {q : PV} {i off : Nat} {T : Ty} {c : TypeId × List PV} {U : TypeId} {cs ps : List PV} {st' : St} {R : PV → St → Prop} {o : Oper} (ho : o.op = .store t x y) (hx : fr.eval x = some q) (hq : q = .ptr i off) (hy : fr.eval y = some p) (hps : p.ps = ps) (hone : ps.all PV.one = true) (hT : tyOf P t = some T) (hsz : ps.length = T.size) (hb : st.box? i = some c) (hc : c = (U, cs)) (hfit : off + ps.length ≤ cs.length) (hs : st.setBox i (spl cs off ps) = st') (h : R (.tup []) st') : POp P o fr.eval st R := by
 subst hq; subst hps; subst hc; subst hs
 exact POp_store ho hx hy hone hT hsz hb hfit h
theorem POps_store {t : TypeId} {x y : Operand} {q : PV} {i off : Nat} {T : Ty} {c : TypeId × List PV} {U : TypeId} {cs ps : List PV} {st' : St} (hw : PF.wants fr ops ⟨none, .store t x y, ty, pos, after, gd⟩ = some true) (hx : fr.eval x = some q) (hq : q = .ptr i off) (hy : fr.eval y = some p) (hps : p.ps = ps) (hone : ps.all PV.one = true) (hT : tyOf P t = some T) (hsz : ps.length = T.size) (hb : st.box? i = some c) (hc : c = (U, cs)) (hfit : off + ps.length ≤ cs.length) (hs : st.setBox i (spl cs off ps) = st')
  (h : POps P n ops Q rest fr st') : POps P n ops Q (⟨none, .store t x y, ty, pos, after, gd⟩ :: rest) fr st :=
 POps_e0 hw (Qiw rfl hx hq hy hps hone hT hsz hb hc hfit hs h)
theorem POrd_store {t : TypeId} {x y : Operand} {q : PV} {i off : Nat} {T : Ty} {c : TypeId × List PV} {U : TypeId} {cs ps : List PV} {st' : St} (ho : ops[j]? = some ⟨none, .store t x y, ty, pos, after, gd⟩) (hw : PF.wants fr ops ⟨none, .store t x y, ty, pos, after, gd⟩ = some true) (hx : fr.eval x = some q) (hq : q = .ptr i off) (hy : fr.eval y = some p) (hps : p.ps = ps) (hone : ps.all PV.one = true) (hT : tyOf P t = some T) (hsz : ps.length = T.size) (hb : st.box? i = some c) (hc : c = (U, cs)) (hfit : off + ps.length ≤ cs.length) (hs : st.setBox i (spl cs off ps) = st')
  (h : POrd P n ops Q od fr st') : POrd P n ops Q ((j, .e) :: od) fr st :=
 POrd_e0 ho hw (Qiw rfl hx hq hy hps hone hT hsz hb hc hfit hs h)
theorem POps_box {T : TypeId} {x : Operand} {ps : List PV} (hd : d < n) (hw : PF.wants fr ops ⟨some d, .box T x, ty, pos, after, gd⟩ = some true) (hx : fr.eval x = some p) (hps : p.ps = ps) (hone : ps.all PV.one = true) (h : ∀ i, st.freshB i → POps P n ops Q rest ((d, .ptr i 0) :: fr) (.box i T ps :: st)) : POps P n ops Q (⟨some d, .box T x, ty, pos, after, gd⟩ :: rest) fr st := by
 subst hps
 exact Qed hd hw (POp_box rfl hx hone h)
theorem POps_alloc {T : TypeId} {ps : List PV} (hd : d < n) (hw : PF.wants fr ops ⟨some d, .alloc T, ty, pos, after, gd⟩ = some true) (hz : Qda P T = some ps) (h : ∀ i, st.freshB i → POps P n ops Q rest ((d, .ptr i 0) :: fr) (.box i T ps :: st)) : POps P n ops Q (⟨some d, .alloc T, ty, pos, after, gd⟩ :: rest) fr st :=
 Qed hd hw (Qjd rfl hz h)
theorem op_app {s x : Operand} {t xt : TypeId} {q : PV} {g : Nat} {rows rows' : List (List D)} {ts E es bytes : Nat} {ea : Option Bool} {T0 : Ty} {e0 : Nat × Nat} {c : TypeId × Nat × Nat} {n' : Nat} {st' : St} {R : PV → St → Prop} {o : Oper} (ho : o.op = .call { callee := .builtin .append, args := #[s, x], argTypes := #[t, xt] }) (hs : fr.eval s = some q) (hq : q = .own g rows) (hx : fr.eval x = some p) (hp : p.src = some rows')
  (hT : tyOf P t = some T0) (hT2 : T0 = ⟨ts, .slice E es ea⟩) (hX : Qce ((tyOf P xt).map (·.k)) = true) (hE : elOf P E = some e0) (hE2 : e0 = (es, bytes)) (hes : 0 < es) (htok : st.tok? g = some c) (hc : c = (E, es, rows.length)) (hn' : rows.length + rows'.length = n') (hs' : st.setTok g n' = st') (hl0 : ∀ row ∈ rows, row.length = es) (hl : ∀ row ∈ rows', row.length = es) (hm : n' ≤ 4294967296) (hb : bytes ≤ 32768)
  (h : R (.own g (rows ++ rows')) st') : POp P o fr.eval st R := by
 subst hq; subst hc; subst hs'; subst hT2; subst hE2; subst hn'
 have h1 : (rows.length + rows'.length) * bytes ≤ 4294967296 * 32768 := Nat.mul_le_mul (by omega) hb
 exact POp_append ho hs hx hp hT rfl hX hE hes hl0 hl htok (by unfold maxLen; omega) (by omega) h
theorem POps_app {s x : Operand} {t xt : TypeId} {q : PV} {g : Nat} {rows rows' : List (List D)} {ts E es bytes : Nat} {ea : Option Bool} {T0 : Ty} {e0 : Nat × Nat} {c : TypeId × Nat × Nat} {st' : St} (n' : Nat) (hd : d < n) (hw : PF.wants fr ops ⟨some d, .call { callee := .builtin .append, args := #[s, x], argTypes := #[t, xt] }, ty, pos, after, gd⟩ = some true) (hs : fr.eval s = some q) (hq : q = .own g rows) (hx : fr.eval x = some p) (hp : p.src = some rows')
  (hT : tyOf P t = some T0) (hT2 : T0 = ⟨ts, .slice E es ea⟩) (hX : Qce ((tyOf P xt).map (·.k)) = true) (hE : elOf P E = some e0) (hE2 : e0 = (es, bytes)) (hes : 0 < es) (htok : st.tok? g = some c) (hc : c = (E, es, rows.length)) (hn' : rows.length + rows'.length = n') (hs' : st.setTok g n' = st') (hl0 : ∀ row ∈ rows, row.length = es) (hl : ∀ row ∈ rows', row.length = es) (hm : n' ≤ 4294967296) (hb : bytes ≤ 32768)
  (h : POps P n ops Q rest ((d, .own g (rows ++ rows')) :: fr) st') : POps P n ops Q (⟨some d, .call { callee := .builtin .append, args := #[s, x], argTypes := #[t, xt] }, ty, pos, after, gd⟩ :: rest) fr st :=
 Qed hd hw (op_app rfl hs hq hx hp hT hT2 hX hE hE2 hes htok hc hn' hs' hl0 hl hm hb h)
theorem POrd_app {s x : Operand} {t xt : TypeId} {q : PV} {g : Nat} {rows rows' : List (List D)} {ts E es bytes : Nat} {ea : Option Bool} {T0 : Ty} {e0 : Nat × Nat} {c : TypeId × Nat × Nat} {st' : St} (n' : Nat) (ho : ops[j]? = some ⟨some d, .call { callee := .builtin .append, args := #[s, x], argTypes := #[t, xt] }, ty, pos, after, gd⟩) (hd : d < n) (hw : PF.wants fr ops ⟨some d, .call { callee := .builtin .append, args := #[s, x], argTypes := #[t, xt] }, ty, pos, after, gd⟩ = some true) (hs : fr.eval s = some q) (hq : q = .own g rows) (hx : fr.eval x = some p) (hp : p.src = some rows')
  (hT : tyOf P t = some T0) (hT2 : T0 = ⟨ts, .slice E es ea⟩) (hX : Qce ((tyOf P xt).map (·.k)) = true) (hE : elOf P E = some e0) (hE2 : e0 = (es, bytes)) (hes : 0 < es) (htok : st.tok? g = some c) (hc : c = (E, es, rows.length)) (hn' : rows.length + rows'.length = n') (hs' : st.setTok g n' = st') (hl0 : ∀ row ∈ rows, row.length = es) (hl : ∀ row ∈ rows', row.length = es) (hm : n' ≤ 4294967296) (hb : bytes ≤ 32768)
  (h : POrd P n ops Q od ((d, .own g (rows ++ rows')) :: fr) st') : POrd P n ops Q ((j, .e) :: od) fr st :=
 POrd_e ho hd hw (op_app rfl hs hq hx hp hT hT2 hX hE hE2 hes htok hc hn' hs' hl0 hl hm hb h)
theorem Qfr {α : Type} [Enc α] {l : List α} {es : Nat} (h : Enc.sz α = es) : ∀ row ∈ l.map encD, row.length = es := by
 intro row hr
 obtain ⟨a, _, rfl⟩ := List.mem_map.1 hr
 rw [Qir, h]
theorem Qbs {r : List D} {es : Nat} (h : r.length = es) : ∀ row ∈ [r], row.length = es := by
 intro row hr
 rw [List.mem_singleton] at hr
 subst hr; exact h
end
theorem Jt (fr' : PF) : ∀ t p, PF.get [] t = some p → fr'.get t = some p := fun t p h => by cases h
theorem Js {fr' rest : PF} {t0 : Nat} {p0 q : PV} (h0 : fr'.get t0 = some q) (he : q = p0) (h : ∀ t p, rest.get t = some p → fr'.get t = some p) : ∀ t p, PF.get ((t0, p0) :: rest) t = some p → fr'.get t = some p := by
 intro t p hp
 subst he
 simp only [PF.get] at hp
 split at hp
 ·rename_i e; subst e; rw [← hp]; exact h0
 ·exact h t p hp
theorem Qhf {P : Program} {n : Nat} {Q : Exit → PF → St → Prop} {fr : PF} {st : St} {c : Code} (i j : Nat) (E sz : Nat) {x : TypeId × List PV} {U : TypeId} {cs : List PV} {st' : Nat → St} (hb : st.box? i = some x) (hx : x = (U, cs)) (hj : cs[j]? = some .nils) (hs : ∀ g, st.setBox i (cs.set j (.own g [])) = st' g) (hsz : 0 < sz) (h : ∀ g, St.freshT st g → PW P n c Q fr (.tok g E sz 0 :: st' g)) : PW P n c Q fr st := by
 subst hx
 exact PW_ownBox i j E sz hsz hb hj fun g hg => by rw [hs]; exact h g hg
theorem Qal {α : Type} [Enc α] {l : List α} {k : Nat} (h : k < l.length) : (l.map encD)[k]? = some (encD l[k]) := by rw [List.getElem?_map, List.getElem?_eq_getElem h]; rfl
section
variable {P : Program} {n : Nat} {ops : Array Oper} {Q : PF → St → Prop} {rest : List Oper} {fr : PF} {st : St} {p : PV} {op : Op} {ty : TypeId} {pos : String} {after : Array Edge}
theorem Qq {d : Nat} (h : POps P n ops Q rest ((d, p) :: fr) st) (hd : d < n := by decide) (he : nev P (PF.eval fr) op = some p := by simp [nev, nevA, nevB, Jp, PF.eval, PF.get, PF.wants, cPV, Qae, PV.rows, Qaf, evUn, Jq, Qah, Qag, Jn, TyK.agg, Qad, St.box?, St.tok?, St.setBox, St.setTok, Qac, spl, PV.ps, PV.one, Jo, aggD, slD, Jh, Jk, Ji, Jj, Jg, Jf, *]; rfl) : POps P n ops Q (⟨some d, op, ty, pos, after, none⟩ :: rest) fr st :=
 POps_s hd he h
end
section
variable {P : Program} {n : Nat} {ops : Array Oper} {Q : PF → St → Prop} {rest : List Oper} {fr : PF} {st : St} {p : PV} {op : Op} {ty : TypeId} {pos : String} {after : Array Edge}
theorem Qr {d : Nat} (h : POps P n ops Q rest ((d, p) :: fr) st) (hd : d < n := by decide) (he : nevB P st (PF.eval fr) op = some p := by simp [nev, nevA, nevB, Jp, PF.eval, PF.get, PF.wants, cPV, Qae, PV.rows, Qaf, evUn, Jq, Qah, Qag, Jn, TyK.agg, Qad, St.box?, St.tok?, St.setBox, St.setTok, Qac, spl, PV.ps, PV.one, Jo, aggD, slD, Jh, Jk, Ji, Jj, Jg, Jf, *]; rfl) : POps P n ops Q (⟨some d, op, ty, pos, after, none⟩ :: rest) fr st :=
 POps_b hd he h
end
section
variable {P : Program} {n : Nat} {ops : Array Oper} {Q : PF → St → Prop} {rest : List Oper} {fr : PF} {st : St} {p : PV} {op : Op} {ty : TypeId} {pos : String} {after : Array Edge}
theorem Qs {d : Nat} {gd : Option (Nat × Bool)} (h : POps P n ops Q rest ((d, .tup []) :: fr) st) (hd : d < n := by decide) (hw : PF.wants fr ops ⟨some d, op, ty, pos, after, gd⟩ = some false := by first | (simp [nev, nevA, nevB, Jp, PF.eval, PF.get, PF.wants, cPV, Qae, PV.rows, Qaf, evUn, Jq, Qah, Qag, Jn, TyK.agg, Qad, St.box?, St.tok?, St.setBox, St.setTok, Qac, spl, PV.ps, PV.one, Jo, aggD, slD, Jh, Jk, Ji, Jj, Jg, Jf, *]; done) | fail) : POps P n ops Q (⟨some d, op, ty, pos, after, gd⟩ :: rest) fr st :=
 POps_gn hd hw h
end
section
variable {P : Program} {n : Nat} {ops : Array Oper} {Q : PF → St → Prop} {rest : List Oper} {fr : PF} {st : St} {p : PV} {op : Op} {ty : TypeId} {pos : String} {after : Array Edge}
theorem Qt {d : Nat} {gd : Option (Nat × Bool)} (h : POps P n ops Q rest ((d, p) :: fr) st) (hd : d < n := by decide) (hw : PF.wants fr ops ⟨some d, op, ty, pos, after, gd⟩ = some true := by first | (simp [nev, nevA, nevB, Jp, PF.eval, PF.get, PF.wants, cPV, Qae, PV.rows, Qaf, evUn, Jq, Qah, Qag, Jn, TyK.agg, Qad, St.box?, St.tok?, St.setBox, St.setTok, Qac, spl, PV.ps, PV.one, Jo, aggD, slD, Jh, Jk, Ji, Jj, Jg, Jf, *]; done) | fail) (he : nev P (PF.eval fr) op = some p := by simp [nev, nevA, nevB, Jp, PF.eval, PF.get, PF.wants, cPV, Qae, PV.rows, Qaf, evUn, Jq, Qah, Qag, Jn, TyK.agg, Qad, St.box?, St.tok?, St.setBox, St.setTok, Qac, spl, PV.ps, PV.one, Jo, aggD, slD, Jh, Jk, Ji, Jj, Jg, Jf, *]; rfl) : POps P n ops Q (⟨some d, op, ty, pos, after, gd⟩ :: rest) fr st :=
 POps_gs hd hw he h
end
section
variable {P : Program} {n : Nat} {ops : Array Oper} {Q : PF → St → Prop} {rest : List Oper} {fr : PF} {st : St} {p : PV} {op : Op} {ty : TypeId} {pos : String} {after : Array Edge}
theorem Qu {d : Nat} {gd : Option (Nat × Bool)} (h : POps P n ops Q rest ((d, p) :: fr) st) (hd : d < n := by decide) (hw : PF.wants fr ops ⟨some d, op, ty, pos, after, gd⟩ = some true := by first | (simp [nev, nevA, nevB, Jp, PF.eval, PF.get, PF.wants, cPV, Qae, PV.rows, Qaf, evUn, Jq, Qah, Qag, Jn, TyK.agg, Qad, St.box?, St.tok?, St.setBox, St.setTok, Qac, spl, PV.ps, PV.one, Jo, aggD, slD, Jh, Jk, Ji, Jj, Jg, Jf, *]; done) | fail) (he : nevB P st (PF.eval fr) op = some p := by simp [nev, nevA, nevB, Jp, PF.eval, PF.get, PF.wants, cPV, Qae, PV.rows, Qaf, evUn, Jq, Qah, Qag, Jn, TyK.agg, Qad, St.box?, St.tok?, St.setBox, St.setTok, Qac, spl, PV.ps, PV.one, Jo, aggD, slD, Jh, Jk, Ji, Jj, Jg, Jf, *]; rfl) : POps P n ops Q (⟨some d, op, ty, pos, after, gd⟩ :: rest) fr st :=
 POps_gb hd hw he h
end
section
variable {P : Program} {n : Nat} {ops : Array Oper} {Q : PF → St → Prop} {rest : List Oper} {fr : PF} {st : St} {p : PV} {op : Op} {ty : TypeId} {pos : String} {after : Array Edge}
theorem Qv {c : Operand} {x y : Code} {Q : Exit → PF → St → Prop} (h : PW P n x Q fr st) (hc : fr.eval c = some (.d (.v (.bool true))) := by first | (simp [nev, nevA, nevB, Jp, PF.eval, PF.get, PF.wants, cPV, Qae, PV.rows, Qaf, evUn, Jq, Qah, Qag, Jn, TyK.agg, Qad, St.box?, St.tok?, St.setBox, St.setTok, Qac, spl, PV.ps, PV.one, Jo, aggD, slD, Jh, Jk, Ji, Jj, Jg, Jf, *]; done) | fail) : PW P n (.cond c x y) Q fr st :=
 PW_cond_t hc h
end
section
variable {P : Program} {n : Nat} {ops : Array Oper} {Q : PF → St → Prop} {rest : List Oper} {fr : PF} {st : St} {p : PV} {op : Op} {ty : TypeId} {pos : String} {after : Array Edge}
theorem Qw {c : Operand} {x y : Code} {Q : Exit → PF → St → Prop} (h : PW P n y Q fr st) (hc : fr.eval c = some (.d (.v (.bool false))) := by first | (simp [nev, nevA, nevB, Jp, PF.eval, PF.get, PF.wants, cPV, Qae, PV.rows, Qaf, evUn, Jq, Qah, Qag, Jn, TyK.agg, Qad, St.box?, St.tok?, St.setBox, St.setTok, Qac, spl, PV.ps, PV.one, Jo, aggD, slD, Jh, Jk, Ji, Jj, Jg, Jf, *]; done) | fail) : PW P n (.cond c x y) Q fr st :=
 PW_cond_f hc h
end
section
variable {P : Program} {n : Nat} {ops : Array Oper} {Q : PF → St → Prop} {rest : List Oper} {fr : PF} {st : St} {p : PV} {ty : TypeId} {pos : String} {after : Array Edge} {gd : Option (Nat × Bool)} {od : List (Nat × Kd)} {j d : Nat}
theorem Jd {T : TypeId} {x : Operand} {ps : List PV} (h : ∀ i, st.freshB i → POps P n ops Q rest ((d, .ptr i 0) :: fr) (.box i T ps :: st)) (hd : d < n := by decide) (hw : PF.wants fr ops ⟨some d, .box T x, ty, pos, after, gd⟩ = some true := by rfl) (hx : fr.eval x = some p := by simp [nev, nevA, nevB, Jp, PF.eval, PF.get, PF.wants, cPV, Qae, PV.rows, Qaf, evUn, Jq, Qah, Qag, Jn, TyK.agg, Qad, St.box?, St.tok?, St.setBox, St.setTok, Qac, spl, PV.ps, PV.one, Jo, aggD, slD, Jh, Jk, Ji, Jj, Jg, Jf, *]; rfl) (hps : p.ps = ps := by simp [PV.ps, aggD, slD, Jh, Jk, Ji, Jj, Jg, Jf]; rfl) (hone : ps.all PV.one = true := by first | rfl | (simp [*]; done) | (simp [PV.one, *]; done) | fail) : POps P n ops Q (⟨some d, .box T x, ty, pos, after, gd⟩ :: rest) fr st :=
 POps_box hd hw hx hps hone h
end
section
variable {P : Program} {n : Nat} {ops : Array Oper} {Q : PF → St → Prop} {rest : List Oper} {fr : PF} {st : St} {p : PV} {ty : TypeId} {pos : String} {after : Array Edge} {gd : Option (Nat × Bool)} {od : List (Nat × Kd)} {j d : Nat}
theorem Je {T : TypeId} {ps : List PV} (h : ∀ i, st.freshB i → POps P n ops Q rest ((d, .ptr i 0) :: fr) (.box i T ps :: st)) (hd : d < n := by decide) (hw : PF.wants fr ops ⟨some d, .alloc T, ty, pos, after, gd⟩ = some true := by rfl) (hz : Qda P T = some ps := by simp; rfl) : POps P n ops Q (⟨some d, .alloc T, ty, pos, after, gd⟩ :: rest) fr st :=
 POps_alloc hd hw hz h
end
section
variable {P : Program} {n : Nat} {ops : Array Oper} {Q : PF → St → Prop} {rest : List Oper} {fr : PF} {st : St} {p : PV} {ty : TypeId} {pos : String} {after : Array Edge} {gd : Option (Nat × Bool)} {od : List (Nat × Kd)} {j d : Nat}
theorem Rd {t : TypeId} {x y : Operand} {q : PV} {i off : Nat} {T : Ty} {c : TypeId × List PV} {U : TypeId} {cs ps : List PV} {st' : St} (h : POps P n ops Q rest fr st') (hw : PF.wants fr ops ⟨none, .store t x y, ty, pos, after, gd⟩ = some true := by rfl) (hx : fr.eval x = some q := by simp [nev, nevA, nevB, Jp, PF.eval, PF.get, PF.wants, cPV, Qae, PV.rows, Qaf, evUn, Jq, Qah, Qag, Jn, TyK.agg, Qad, St.box?, St.tok?, St.setBox, St.setTok, Qac, spl, PV.ps, PV.one, Jo, aggD, slD, Jh, Jk, Ji, Jj, Jg, Jf, *]; rfl) (hq : q = .ptr i off := by rfl) (hy : fr.eval y = some p := by simp [nev, nevA, nevB, Jp, PF.eval, PF.get, PF.wants, cPV, Qae, PV.rows, Qaf, evUn, Jq, Qah, Qag, Jn, TyK.agg, Qad, St.box?, St.tok?, St.setBox, St.setTok, Qac, spl, PV.ps, PV.one, Jo, aggD, slD, Jh, Jk, Ji, Jj, Jg, Jf, *]; rfl) (hps : p.ps = ps := by simp [PV.ps, aggD, slD, Jh, Jk, Ji, Jj, Jg, Jf]; rfl) (hone : ps.all PV.one = true := by first | rfl | (simp [*]; done) | (simp [PV.one, *]; done) | fail) (hT : tyOf P t = some T := by simp; rfl) (hsz : ps.length = T.size := by first | (simp; done) | fail) (hb : st.box? i = some c := by simp [nev, nevA, nevB, Jp, PF.eval, PF.get, PF.wants, cPV, Qae, PV.rows, Qaf, evUn, Jq, Qah, Qag, Jn, TyK.agg, Qad, St.box?, St.tok?, St.setBox, St.setTok, Qac, spl, PV.ps, PV.one, Jo, aggD, slD, Jh, Jk, Ji, Jj, Jg, Jf, *]; rfl) (hc : c = (U, cs) := by rfl) (hfit : off + ps.length ≤ cs.length := by first | (simp; done) | fail) (hs : st.setBox i (spl cs off ps) = st' := by simp [St.setBox, spl, *]; rfl) : POps P n ops Q (⟨none, .store t x y, ty, pos, after, gd⟩ :: rest) fr st :=
 POps_store hw hx hq hy hps hone hT hsz hb hc hfit hs h
end
section
variable {P : Program} {n : Nat} {ops : Array Oper} {Q : PF → St → Prop} {rest : List Oper} {fr : PF} {st : St} {p : PV} {ty : TypeId} {pos : String} {after : Array Edge} {gd : Option (Nat × Bool)} {od : List (Nat × Kd)} {j d : Nat}
theorem Qdp {t : TypeId} {x y : Operand} {q : PV} {i off : Nat} {T : Ty} {c : TypeId × List PV} {U : TypeId} {cs ps : List PV} {st' : St} (h : POrd P n ops Q od fr st') (ho : ops[j]? = some ⟨none, .store t x y, ty, pos, after, gd⟩ := by rfl) (hw : PF.wants fr ops ⟨none, .store t x y, ty, pos, after, gd⟩ = some true := by rfl) (hx : fr.eval x = some q := by simp [nev, nevA, nevB, Jp, PF.eval, PF.get, PF.wants, cPV, Qae, PV.rows, Qaf, evUn, Jq, Qah, Qag, Jn, TyK.agg, Qad, St.box?, St.tok?, St.setBox, St.setTok, Qac, spl, PV.ps, PV.one, Jo, aggD, slD, Jh, Jk, Ji, Jj, Jg, Jf, *]; rfl) (hq : q = .ptr i off := by rfl) (hy : fr.eval y = some p := by simp [nev, nevA, nevB, Jp, PF.eval, PF.get, PF.wants, cPV, Qae, PV.rows, Qaf, evUn, Jq, Qah, Qag, Jn, TyK.agg, Qad, St.box?, St.tok?, St.setBox, St.setTok, Qac, spl, PV.ps, PV.one, Jo, aggD, slD, Jh, Jk, Ji, Jj, Jg, Jf, *]; rfl) (hps : p.ps = ps := by simp [PV.ps, aggD, slD, Jh, Jk, Ji, Jj, Jg, Jf]; rfl) (hone : ps.all PV.one = true := by first | rfl | (simp [*]; done) | (simp [PV.one, *]; done) | fail) (hT : tyOf P t = some T := by simp; rfl) (hsz : ps.length = T.size := by first | (simp; done) | fail) (hb : st.box? i = some c := by simp [nev, nevA, nevB, Jp, PF.eval, PF.get, PF.wants, cPV, Qae, PV.rows, Qaf, evUn, Jq, Qah, Qag, Jn, TyK.agg, Qad, St.box?, St.tok?, St.setBox, St.setTok, Qac, spl, PV.ps, PV.one, Jo, aggD, slD, Jh, Jk, Ji, Jj, Jg, Jf, *]; rfl) (hc : c = (U, cs) := by rfl) (hfit : off + ps.length ≤ cs.length := by first | (simp; done) | fail) (hs : st.setBox i (spl cs off ps) = st' := by simp [St.setBox, spl, *]; rfl) : POrd P n ops Q ((j, .e) :: od) fr st :=
 POrd_store ho hw hx hq hy hps hone hT hsz hb hc hfit hs h
end
section
variable {P : Program} {n : Nat} {ops : Array Oper} {Q : PF → St → Prop} {rest : List Oper} {fr : PF} {st : St} {p : PV} {ty : TypeId} {pos : String} {after : Array Edge} {gd : Option (Nat × Bool)} {od : List (Nat × Kd)} {j d : Nat}
theorem Qbe {s x : Operand} {t xt : TypeId} {q : PV} {g : Nat} {rows rows' : List (List D)} {ts E es bytes : Nat} {ea : Option Bool} {T0 : Ty} {e0 : Nat × Nat} {c : TypeId × Nat × Nat} {st' : St} (n' : Nat) (hn' : rows.length + rows'.length = n') (hl0 : ∀ row ∈ rows, row.length = es) (hl : ∀ row ∈ rows', row.length = es) (h : POps P n ops Q rest ((d, .own g (rows ++ rows')) :: fr) st') (hd : d < n := by decide) (hw : PF.wants fr ops ⟨some d, .call { callee := .builtin .append, args := #[s, x], argTypes := #[t, xt] }, ty, pos, after, gd⟩ = some true := by rfl) (hs : fr.eval s = some q := by simp [nev, nevA, nevB, Jp, PF.eval, PF.get, PF.wants, cPV, Qae, PV.rows, Qaf, evUn, Jq, Qah, Qag, Jn, TyK.agg, Qad, St.box?, St.tok?, St.setBox, St.setTok, Qac, spl, PV.ps, PV.one, Jo, aggD, slD, Jh, Jk, Ji, Jj, Jg, Jf, *]; rfl) (hq : q = .own g rows := by rfl) (hx : fr.eval x = some p := by simp [nev, nevA, nevB, Jp, PF.eval, PF.get, PF.wants, cPV, Qae, PV.rows, Qaf, evUn, Jq, Qah, Qag, Jn, TyK.agg, Qad, St.box?, St.tok?, St.setBox, St.setTok, Qac, spl, PV.ps, PV.one, Jo, aggD, slD, Jh, Jk, Ji, Jj, Jg, Jf, *]; rfl) (hp : p.src = some rows' := by simp [PV.src, PV.rows]; rfl) (hT : tyOf P t = some T0 := by simp; rfl) (hT2 : T0 = ⟨ts, .slice E es ea⟩ := by rfl) (hX : Qce ((tyOf P xt).map (·.k)) = true := by simp [Qce]) (hE : elOf P E = some e0 := by simp; rfl) (hE2 : e0 = (es, bytes) := by rfl) (hes : 0 < es := by decide) (htok : st.tok? g = some c := by simp [nev, nevA, nevB, Jp, PF.eval, PF.get, PF.wants, cPV, Qae, PV.rows, Qaf, evUn, Jq, Qah, Qag, Jn, TyK.agg, Qad, St.box?, St.tok?, St.setBox, St.setTok, Qac, spl, PV.ps, PV.one, Jo, aggD, slD, Jh, Jk, Ji, Jj, Jg, Jf, *]; rfl) (hc : c = (E, es, rows.length) := by first | rfl | (simp; done) | (simp; omega) | fail) (hs' : st.setTok g n' = st' := by simp [St.setTok, *]; rfl) (hm : n' ≤ 4294967296 := by omega) (hb : bytes ≤ 32768 := by decide) : POps P n ops Q (⟨some d, .call { callee := .builtin .append, args := #[s, x], argTypes := #[t, xt] }, ty, pos, after, gd⟩ :: rest) fr st :=
 POps_app n' hd hw hs hq hx hp hT hT2 hX hE hE2 hes htok hc hn' hs' hl0 hl hm hb h
end
section
variable {P : Program} {n : Nat} {ops : Array Oper} {Q : PF → St → Prop} {rest : List Oper} {fr : PF} {st : St} {p : PV} {ty : TypeId} {pos : String} {after : Array Edge} {gd : Option (Nat × Bool)} {od : List (Nat × Kd)} {j d : Nat}
theorem Qil {s x : Operand} {t xt : TypeId} {q : PV} {g : Nat} {rows rows' : List (List D)} {ts E es bytes : Nat} {ea : Option Bool} {T0 : Ty} {e0 : Nat × Nat} {c : TypeId × Nat × Nat} {st' : St} (n' : Nat) (hn' : rows.length + rows'.length = n') (hl0 : ∀ row ∈ rows, row.length = es) (hl : ∀ row ∈ rows', row.length = es) (h : POrd P n ops Q od ((d, .own g (rows ++ rows')) :: fr) st') (ho : ops[j]? = some ⟨some d, .call { callee := .builtin .append, args := #[s, x], argTypes := #[t, xt] }, ty, pos, after, gd⟩ := by rfl) (hd : d < n := by decide) (hw : PF.wants fr ops ⟨some d, .call { callee := .builtin .append, args := #[s, x], argTypes := #[t, xt] }, ty, pos, after, gd⟩ = some true := by rfl) (hs : fr.eval s = some q := by simp [nev, nevA, nevB, Jp, PF.eval, PF.get, PF.wants, cPV, Qae, PV.rows, Qaf, evUn, Jq, Qah, Qag, Jn, TyK.agg, Qad, St.box?, St.tok?, St.setBox, St.setTok, Qac, spl, PV.ps, PV.one, Jo, aggD, slD, Jh, Jk, Ji, Jj, Jg, Jf, *]; rfl) (hq : q = .own g rows := by rfl) (hx : fr.eval x = some p := by simp [nev, nevA, nevB, Jp, PF.eval, PF.get, PF.wants, cPV, Qae, PV.rows, Qaf, evUn, Jq, Qah, Qag, Jn, TyK.agg, Qad, St.box?, St.tok?, St.setBox, St.setTok, Qac, spl, PV.ps, PV.one, Jo, aggD, slD, Jh, Jk, Ji, Jj, Jg, Jf, *]; rfl) (hp : p.src = some rows' := by simp [PV.src, PV.rows]; rfl) (hT : tyOf P t = some T0 := by simp; rfl) (hT2 : T0 = ⟨ts, .slice E es ea⟩ := by rfl) (hX : Qce ((tyOf P xt).map (·.k)) = true := by simp [Qce]) (hE : elOf P E = some e0 := by simp; rfl) (hE2 : e0 = (es, bytes) := by rfl) (hes : 0 < es := by decide) (htok : st.tok? g = some c := by simp [nev, nevA, nevB, Jp, PF.eval, PF.get, PF.wants, cPV, Qae, PV.rows, Qaf, evUn, Jq, Qah, Qag, Jn, TyK.agg, Qad, St.box?, St.tok?, St.setBox, St.setTok, Qac, spl, PV.ps, PV.one, Jo, aggD, slD, Jh, Jk, Ji, Jj, Jg, Jf, *]; rfl) (hc : c = (E, es, rows.length) := by first | rfl | (simp; done) | (simp; omega) | fail) (hs' : st.setTok g n' = st' := by simp [St.setTok, *]; rfl) (hm : n' ≤ 4294967296 := by omega) (hb : bytes ≤ 32768 := by decide) : POrd P n ops Q ((j, .e) :: od) fr st :=
 POrd_app n' ho hd hw hs hq hx hp hT hT2 hX hE hE2 hes htok hc hn' hs' hl0 hl hm hb h
end
section
variable {P : Program} {n : Nat} {ops : Array Oper} {Q : PF → St → Prop} {rest : List Oper} {fr : PF} {st : St} {p : PV} {op : Op} {ty : TypeId} {pos : String} {after : Array Edge} {gd : Option (Nat × Bool)}
theorem Qao {d len : Nat} {t : TypeId} {parts : Array (Nat × Operand)} {E es bytes ts : Nat} {ea : Option Bool} {T0 : Ty} {e0 : Nat × Nat} {cells : List PV} {rows : List (List D)} (h : POps P n ops Q rest ((d, .d (.sl rows)) :: fr) st) (hd : d < n := by decide) (hw : PF.wants fr ops ⟨some d, .buildSlice t len parts, ty, pos, after, gd⟩ = some true := by rfl) (hT : tyOf P t = some T0 := by simp; rfl) (hT2 : T0 = ⟨ts, .slice E es ea⟩ := by rfl) (hE : elOf P E = some e0 := by simp; rfl) (hE2 : e0 = (es, bytes) := by rfl) (h0 : 0 < len * es := by decide) (h24 : len * es ≤ 16777216 := by decide) (hf : Qac (fun i => some (i * es, es)) fr.eval (List.replicate (len * es) .u) parts.toList = some cells := by simp [nev, nevA, nevB, Jp, PF.eval, PF.get, PF.wants, cPV, Qae, PV.rows, Qaf, evUn, Jq, Qah, Qag, Jn, TyK.agg, Qad, St.box?, St.tok?, St.setBox, St.setTok, Qac, spl, PV.ps, PV.one, Jo, aggD, slD, Jh, Jk, Ji, Jj, Jg, Jf, *]; rfl) (hr : Qcd es len cells = some rows := by simp [Qcd, toDs, PV.toD]; rfl) : POps P n ops Q (⟨some d, .buildSlice t len parts, ty, pos, after, gd⟩ :: rest) fr st :=
 POps_bs hd hw hT hT2 hE hE2 h0 h24 hf hr h
end
section
variable {P : Program} {n : Nat} {ops : Array Oper} {Q : PF → St → Prop} {rest : List Oper} {fr : PF} {st : St} {p : PV} {op : Op} {ty : TypeId} {pos : String} {after : Array Edge} {gd : Option (Nat × Bool)}
variable {od : List (Nat × Kd)} {i d : Nat}
theorem Qbw {len : Nat} {t : TypeId} {parts : Array (Nat × Operand)} {E es bytes ts : Nat} {ea : Option Bool} {T0 : Ty} {e0 : Nat × Nat} {cells : List PV} {rows : List (List D)} (h : POrd P n ops Q od ((d, .d (.sl rows)) :: fr) st) (ho : ops[i]? = some ⟨some d, .buildSlice t len parts, ty, pos, after, gd⟩ := by rfl) (hd : d < n := by decide) (hw : PF.wants fr ops ⟨some d, .buildSlice t len parts, ty, pos, after, gd⟩ = some true := by rfl) (hT : tyOf P t = some T0 := by simp; rfl) (hT2 : T0 = ⟨ts, .slice E es ea⟩ := by rfl) (hE : elOf P E = some e0 := by simp; rfl) (hE2 : e0 = (es, bytes) := by rfl) (h0 : 0 < len * es := by decide) (h24 : len * es ≤ 16777216 := by decide) (hf : Qac (fun i => some (i * es, es)) fr.eval (List.replicate (len * es) .u) parts.toList = some cells := by simp [nev, nevA, nevB, Jp, PF.eval, PF.get, PF.wants, cPV, Qae, PV.rows, Qaf, evUn, Jq, Qah, Qag, Jn, TyK.agg, Qad, St.box?, St.tok?, St.setBox, St.setTok, Qac, spl, PV.ps, PV.one, Jo, aggD, slD, Jh, Jk, Ji, Jj, Jg, Jf, *]; rfl) (hr : Qcd es len cells = some rows := by simp [Qcd, toDs, PV.toD]; rfl) : POrd P n ops Q ((i, .a) :: od) fr st :=
 POrd_bs ho hd hw hT hT2 hE hE2 h0 h24 hf hr h
end
section
variable {P : Program} {n : Nat} {ops : Array Oper} {Q : PF → St → Prop} {rest : List Oper} {fr : PF} {st : St} {p : PV} {op : Op} {ty : TypeId} {pos : String} {after : Array Edge} {gd : Option (Nat × Bool)}
variable {od : List (Nat × Kd)} {i d : Nat}
theorem Qx {k : Kd} (h : POrd P n ops Q od ((d, p) :: fr) st) (ho : ops[i]? = some ⟨some d, op, ty, pos, after, gd⟩ := by rfl) (hd : d < n := by decide) (hw : PF.wants fr ops ⟨some d, op, ty, pos, after, gd⟩ = some true := by rfl) (he : nev P fr.eval op = some p := by simp [nev, nevA, nevB, Jp, PF.eval, PF.get, PF.wants, cPV, Qae, PV.rows, Qaf, evUn, Jq, Qah, Qag, Jn, TyK.agg, Qad, St.box?, St.tok?, St.setBox, St.setTok, Qac, spl, PV.ps, PV.one, Jo, aggD, slD, Jh, Jk, Ji, Jj, Jg, Jf, *]; rfl) : POrd P n ops Q ((i, k) :: od) fr st :=
 POrd_s ho hd hw he h
end
section
variable {P : Program} {n : Nat} {ops : Array Oper} {Q : PF → St → Prop} {rest : List Oper} {fr : PF} {st : St} {p : PV} {op : Op} {ty : TypeId} {pos : String} {after : Array Edge} {gd : Option (Nat × Bool)}
variable {od : List (Nat × Kd)} {i d : Nat}
theorem Qy  (h : POrd P n ops Q od ((d, p) :: fr) st) (ho : ops[i]? = some ⟨some d, op, ty, pos, after, gd⟩ := by rfl) (hd : d < n := by decide) (hw : PF.wants fr ops ⟨some d, op, ty, pos, after, gd⟩ = some true := by rfl) (he : nevB P st fr.eval op = some p := by simp [nev, nevA, nevB, Jp, PF.eval, PF.get, PF.wants, cPV, Qae, PV.rows, Qaf, evUn, Jq, Qah, Qag, Jn, TyK.agg, Qad, St.box?, St.tok?, St.setBox, St.setTok, Qac, spl, PV.ps, PV.one, Jo, aggD, slD, Jh, Jk, Ji, Jj, Jg, Jf, *]; rfl) : POrd P n ops Q ((i, .b) :: od) fr st :=
 POrd_b ho hd hw he h
end
section
variable {P : Program} {n : Nat} {ops : Array Oper} {Q : PF → St → Prop} {rest : List Oper} {fr : PF} {st : St} {p : PV} {op : Op} {ty : TypeId} {pos : String} {after : Array Edge} {gd : Option (Nat × Bool)}
theorem Jc {d f : Nat} {xs : Array Operand} {ts : Array TypeId} {ps qs : List PV} {r : PV} (hc : PCalls P f qs [] fun p s => p = r ∧ s = []) (h : POps P n ops Q rest ((d, r) :: fr) st) (hd : d < n := by decide) (hw : PF.wants fr ops ⟨some d, .call { callee := .value (.func f), args := xs, argTypes := ts }, ty, pos, after, gd⟩ = some true := by rfl) (hxs : Jo fr.eval xs.toList = some ps := by simp [nev, nevA, nevB, Jp, PF.eval, PF.get, PF.wants, cPV, Qae, PV.rows, Qaf, evUn, Jq, Qah, Qag, Jn, TyK.agg, Qad, St.box?, St.tok?, St.setBox, St.setTok, Qac, spl, PV.ps, PV.one, Jo, aggD, slD, Jh, Jk, Ji, Jj, Jg, Jf, *]; rfl) (hn : ps.map PV.norm1 = qs := by first | (simp [PV.norm1, PV.norm0, aggD, slD, Jh, Jk, Ji, Jj]; done) | fail) (hca : Qbl P f = true := by rfl) : POps P n ops Q (⟨some d, .call { callee := .value (.func f), args := xs, argTypes := ts }, ty, pos, after, gd⟩ :: rest) fr st :=
 POps_call hc hd hw hxs hn hca h
end
section
variable {P : Program} {n : Nat} {ops : Array Oper} {Q : PF → St → Prop} {rest : List Oper} {fr : PF} {st : St} {p : PV} {op : Op} {ty : TypeId} {pos : String} {after : Array Edge} {gd : Option (Nat × Bool)}
variable {od : List (Nat × Kd)} {i d : Nat}
theorem Qaa {f : Nat} {xs : Array Operand} {ts : Array TypeId} {ps qs : List PV} {r : PV} (hc : PCalls P f qs [] fun p s => p = r ∧ s = []) (h : POrd P n ops Q od ((d, r) :: fr) st) (ho : ops[i]? = some ⟨some d, .call { callee := .value (.func f), args := xs, argTypes := ts }, ty, pos, after, gd⟩ := by rfl) (hd : d < n := by decide) (hw : PF.wants fr ops ⟨some d, .call { callee := .value (.func f), args := xs, argTypes := ts }, ty, pos, after, gd⟩ = some true := by rfl) (hxs : Jo fr.eval xs.toList = some ps := by simp [nev, nevA, nevB, Jp, PF.eval, PF.get, PF.wants, cPV, Qae, PV.rows, Qaf, evUn, Jq, Qah, Qag, Jn, TyK.agg, Qad, St.box?, St.tok?, St.setBox, St.setTok, Qac, spl, PV.ps, PV.one, Jo, aggD, slD, Jh, Jk, Ji, Jj, Jg, Jf, *]; rfl) (hn : ps.map PV.norm1 = qs := by first | (simp [PV.norm1, PV.norm0, aggD, slD, Jh, Jk, Ji, Jj]; done) | fail) (hca : Qbl P f = true := by rfl) : POrd P n ops Q ((i, .a) :: od) fr st :=
 POrd_call hc ho hd hw hxs hn hca h
end
section
variable {P : Program} {n : Nat} {ops : Array Oper} {Q : PF → St → Prop} {rest : List Oper} {fr : PF} {st : St} {p : PV} {op : Op} {ty : TypeId} {pos : String} {after : Array Edge} {gd : Option (Nat × Bool)}
end
section
variable {P : Program} {n : Nat} {ops : Array Oper} {Q : PF → St → Prop} {rest : List Oper} {fr : PF} {st : St} {p : PV} {op : Op} {ty : TypeId} {pos : String} {after : Array Edge} {gd : Option (Nat × Bool)}
variable {od : List (Nat × Kd)} {i d : Nat}
theorem Qas {f : Nat} {xs : Array Operand} {ts : Array TypeId} {ps qs : List PV} {r : PV} (hc : PCalls P f qs [] fun p s => p = r ∧ s = []) (h : POrd P n ops Q od ((d, r) :: fr) st) (ho : ops[i]? = some ⟨some d, .call { callee := .value (.func f), args := xs, argTypes := ts }, ty, pos, after, gd⟩ := by rfl) (hd : d < n := by decide) (hw : PF.wants fr ops ⟨some d, .call { callee := .value (.func f), args := xs, argTypes := ts }, ty, pos, after, gd⟩ = some true := by first | (simp [nev, nevA, nevB, Jp, PF.eval, PF.get, PF.wants, cPV, Qae, PV.rows, Qaf, evUn, Jq, Qah, Qag, Jn, TyK.agg, Qad, St.box?, St.tok?, St.setBox, St.setTok, Qac, spl, PV.ps, PV.one, Jo, aggD, slD, Jh, Jk, Ji, Jj, Jg, Jf, *]; done) | fail) (hxs : Jo fr.eval xs.toList = some ps := by simp [nev, nevA, nevB, Jp, PF.eval, PF.get, PF.wants, cPV, Qae, PV.rows, Qaf, evUn, Jq, Qah, Qag, Jn, TyK.agg, Qad, St.box?, St.tok?, St.setBox, St.setTok, Qac, spl, PV.ps, PV.one, Jo, aggD, slD, Jh, Jk, Ji, Jj, Jg, Jf, *]; rfl) (hn : ps.map PV.norm1 = qs := by first | (simp [PV.norm1, PV.norm0, aggD, slD, Jh, Jk, Ji, Jj]; done) | fail) (hca : Qbl P f = true := by rfl) : POrd P n ops Q ((i, .a) :: od) fr st :=
 POrd_call hc ho hd hw hxs hn hca h
end
section
variable {P : Program} {n : Nat} {ops : Array Oper} {Q : PF → St → Prop} {rest : List Oper} {fr : PF} {st : St} {p : PV} {op : Op} {ty : TypeId} {pos : String} {after : Array Edge} {gd : Option (Nat × Bool)}
variable {od : List (Nat × Kd)} {i d : Nat}
theorem Qz {k : Kd} (h : POrd P n ops Q od ((d, .tup []) :: fr) st) (ho : ops[i]? = some ⟨some d, op, ty, pos, after, gd⟩ := by rfl) (hd : d < n := by decide) (hw : PF.wants fr ops ⟨some d, op, ty, pos, after, gd⟩ = some false := by first | (simp [nev, nevA, nevB, Jp, PF.eval, PF.get, PF.wants, cPV, Qae, PV.rows, Qaf, evUn, Jq, Qah, Qag, Jn, TyK.agg, Qad, St.box?, St.tok?, St.setBox, St.setTok, Qac, spl, PV.ps, PV.one, Jo, aggD, slD, Jh, Jk, Ji, Jj, Jg, Jf, *]; done) | fail) : POrd P n ops Q ((i, k) :: od) fr st :=
 POrd_gn ho hd hw h
end
section
variable {P : Program} {n : Nat} {ops : Array Oper} {Q : PF → St → Prop} {rest : List Oper} {fr : PF} {st : St} {p : PV} {op : Op} {ty : TypeId} {pos : String} {after : Array Edge} {gd : Option (Nat × Bool)}
variable {od : List (Nat × Kd)} {i d : Nat}
theorem Ra {k : Kd} (h : POrd P n ops Q od ((d, p) :: fr) st) (ho : ops[i]? = some ⟨some d, op, ty, pos, after, gd⟩ := by rfl) (hd : d < n := by decide) (hw : PF.wants fr ops ⟨some d, op, ty, pos, after, gd⟩ = some true := by first | (simp [nev, nevA, nevB, Jp, PF.eval, PF.get, PF.wants, cPV, Qae, PV.rows, Qaf, evUn, Jq, Qah, Qag, Jn, TyK.agg, Qad, St.box?, St.tok?, St.setBox, St.setTok, Qac, spl, PV.ps, PV.one, Jo, aggD, slD, Jh, Jk, Ji, Jj, Jg, Jf, *]; done) | fail) (he : nev P fr.eval op = some p := by simp [nev, nevA, nevB, Jp, PF.eval, PF.get, PF.wants, cPV, Qae, PV.rows, Qaf, evUn, Jq, Qah, Qag, Jn, TyK.agg, Qad, St.box?, St.tok?, St.setBox, St.setTok, Qac, spl, PV.ps, PV.one, Jo, aggD, slD, Jh, Jk, Ji, Jj, Jg, Jf, *]; rfl) : POrd P n ops Q ((i, k) :: od) fr st :=
 POrd_s ho hd hw he h
end
section
variable {P : Program} {n : Nat} {ops : Array Oper} {Q : PF → St → Prop} {rest : List Oper} {fr : PF} {st : St} {p : PV} {op : Op} {ty : TypeId} {pos : String} {after : Array Edge} {gd : Option (Nat × Bool)}
variable {od : List (Nat × Kd)} {i d : Nat}
theorem Rb  (h : POrd P n ops Q od ((d, p) :: fr) st) (ho : ops[i]? = some ⟨some d, op, ty, pos, after, gd⟩ := by rfl) (hd : d < n := by decide) (hw : PF.wants fr ops ⟨some d, op, ty, pos, after, gd⟩ = some true := by first | (simp [nev, nevA, nevB, Jp, PF.eval, PF.get, PF.wants, cPV, Qae, PV.rows, Qaf, evUn, Jq, Qah, Qag, Jn, TyK.agg, Qad, St.box?, St.tok?, St.setBox, St.setTok, Qac, spl, PV.ps, PV.one, Jo, aggD, slD, Jh, Jk, Ji, Jj, Jg, Jf, *]; done) | fail) (he : nevB P st fr.eval op = some p := by simp [nev, nevA, nevB, Jp, PF.eval, PF.get, PF.wants, cPV, Qae, PV.rows, Qaf, evUn, Jq, Qah, Qag, Jn, TyK.agg, Qad, St.box?, St.tok?, St.setBox, St.setTok, Qac, spl, PV.ps, PV.one, Jo, aggD, slD, Jh, Jk, Ji, Jj, Jg, Jf, *]; rfl) : POrd P n ops Q ((i, .b) :: od) fr st :=
 POrd_b ho hd hw he h
end
section
variable {P : Program} {n : Nat} {ops : Array Oper} {Q : PF → St → Prop} {rest : List Oper} {fr : PF} {st : St} {p : PV} {op : Op} {ty : TypeId} {pos : String} {after : Array Edge} {gd : Option (Nat × Bool)}
theorem Jr {d f : Nat} {xs : Array Operand} {ts : Array TypeId} {ps qs : List PV} {r : PV} (hc : PCalls P f qs [] fun p s => p = r ∧ s = []) (h : POps P n ops Q rest ((d, r) :: fr) st) (hd : d < n := by decide) (hw : PF.wants fr ops ⟨some d, .call { callee := .value (.func f), args := xs, argTypes := ts }, ty, pos, after, gd⟩ = some true := by first | (simp [nev, nevA, nevB, Jp, PF.eval, PF.get, PF.wants, cPV, Qae, PV.rows, Qaf, evUn, Jq, Qah, Qag, Jn, TyK.agg, Qad, St.box?, St.tok?, St.setBox, St.setTok, Qac, spl, PV.ps, PV.one, Jo, aggD, slD, Jh, Jk, Ji, Jj, Jg, Jf, *]; done) | fail) (hxs : Jo fr.eval xs.toList = some ps := by simp [nev, nevA, nevB, Jp, PF.eval, PF.get, PF.wants, cPV, Qae, PV.rows, Qaf, evUn, Jq, Qah, Qag, Jn, TyK.agg, Qad, St.box?, St.tok?, St.setBox, St.setTok, Qac, spl, PV.ps, PV.one, Jo, aggD, slD, Jh, Jk, Ji, Jj, Jg, Jf, *]; rfl) (hn : ps.map PV.norm1 = qs := by first | (simp [PV.norm1, PV.norm0, aggD, slD, Jh, Jk, Ji, Jj]; done) | fail) (hca : Qbl P f = true := by rfl) : POps P n ops Q (⟨some d, .call { callee := .value (.func f), args := xs, argTypes := ts }, ty, pos, after, gd⟩ :: rest) fr st :=
 POps_call hc hd hw hxs hn hca h
end
def Hd2 (p : Prop) : Prop := p
theorem Hd2.out {p : Prop} (h : Hd2 p) : p := h
theorem go_ {a b : Prop} (hb : b) (h : Hd2 b → a := by
  intro k
  repeat (first | (with_reducible first | refine Qa ?_ | refine Qb ?_ | refine Qc ?_ | refine Qd ?_ | refine Qe ?_ | refine Qf ?_ | refine Qg ?_ | refine Qh ?_ | refine Qi ?_ | refine Qj ?_ | refine Qk ?_ | refine Ql ?_ | refine Qm ?_ | refine Qn ?_ | refine Qo ?_ | refine Qp rfl ?_) | (first | refine Qq ?_ | refine Qr ?_) | (first | refine Qs ?_ | refine Qt ?_ | refine Qu ?_) | (first | refine Qv ?_ | refine Qw ?_) | (first | refine Qx ?_ | refine Qy ?_) | (first | refine Qz ?_ | refine Ra ?_ | refine Rb ?_))
  exact Hd2.out k) : a := h hb
end Go.Proofs.YtdklpbefbamchaaGreat

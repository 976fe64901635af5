import Derived.Test.YtpaifjlikgnlfaaBE1
import Derived.Test.YtpaifjlikgnlfaaBD
import Derived.SizedLaws
set_option linter.unusedSimpArgs false
set_option linter.unusedVariables false
set_option maxHeartbeats 16000000
set_option maxRecDepth 100000
namespace Go.Proofs.Ytpaifjlikgnlfaa
open Go.RowKit
theorem lst3 {cs : List Value} (h : cs.length = 3) : ∃ a b c, cs = [a, b, c] := by
 match cs, h with
 | [a, b, c], _ => exact ⟨a, b, c, rfl⟩
theorem repF_tail {S : Nat → Prop} {w : World} {ds : List Dt} {cs : List Value} {o n : Nat} (h : RepF S w ds ((cs.drop o).take n)) (hl : cs.length ≤ o + n) : RepF S w ds (cs.drop o) := by
 rwa [List.take_of_length_le (by rw [List.length_drop]; omega)] at h
def Wl {H : Type} (P : Program) (t : TypeId) (d : DataW H) : Prop := (DataW.weights P t d).all (· ≤ reachBytes) = true
section
variable {H : Type} {P : Program}
theorem wl_arg {ts : List TypeId} {ds : List (DataW H)} (h : (DataW.weightsEach P ts ds).all (· ≤ reachBytes) = true) {j : Nat} {t : TypeId} {d : DataW H} (ht : ts[j]? = some t) (hd : ds[j]? = some d) : Wl P t d := by
 unfold Wl
 rw [List.all_eq_true] at h ⊢
 exact fun w hw => h w (DataW.weights_mem_each ht hd w hw)
theorem wl_part {t : TypeId} {fs : Array Field} {ds : List (DataW H)} (hu : P.underlying t = some (.struct fs)) (h : Wl P t (.agg ds)) {j : Nat} {f : Field} {d : DataW H} (hf : fs[j]? = some f) (hd : ds[j]? = some d) : Wl P f.type d := by
 unfold Wl at h
 simp only [DataW.weights, hu] at h
 exact wl_arg h (by rw [List.getElem?_map, Array.getElem?_toList, hf]; rfl) hd
theorem weights_all {e : TypeId} {d : DataW H} {x : Nat} (hx : x ∈ DataW.weights P e d) : ∀ l : List (DataW H), d ∈ l → x ∈ DataW.weightsAll P e l := by
  intro l
  induction l with
  | nil => intro h; cases h
  | cons y l ih =>
    intro h
    simp only [DataW.weightsAll, List.mem_append]
    rcases List.mem_cons.1 h with rfl | h
    · exact .inl hx
    · exact .inr (ih h)
theorem wl_slice {t e : TypeId} {elems spare : List (DataW H)} (hu : P.underlying t = some (.slice e)) (h : Wl P t (.slice elems spare)) : (elems.length + spare.length) * P.bytesOf e ≤ reachBytes ∧ ∀ d ∈ elems, Wl P e d := by
 unfold Wl at h
 simp only [DataW.weights, hu, List.all_cons, Bool.and_eq_true, decide_eq_true_eq, List.all_eq_true, List.mem_append] at h
 refine ⟨h.1, fun d hd => ?_⟩
 unfold Wl
 rw [List.all_eq_true]
 exact fun w hw => by simpa using h.2 w (.inl (weights_all hw _ hd))
end
section
variable {H : Type} {enc : TypeId × Value → H} {w : World} {base : Nat} {spare : Nat → Bool} {held : Bool}
def OpnB (α : Type) [Enc α] (Ok : α → Prop) (enc : TypeId × Value → H) (w : World) (base : Nat) (spare : Nat → Bool) (held : Bool) (T : TypeId) (n : Nat) : Prop :=
 ∀ (cs : List Value) (x : DataW H × List MemPlace), DataW.trod enc Try.prog w base spare held n T cs = some x → Wl Try.prog T x.1 → ∃ a : α, Rep (fun _ => True) w a cs ∧ Ok a
theorem OpnAt.toB {α : Type} [Enc α] {T : TypeId} {n : Nat} (h : OpnAt α enc w base spare held T n) : OpnB α (fun _ => True) enc w base spare held T n := fun cs x h1 _ => by
 obtain ⟨a, ha⟩ := h cs x h1
 exact ⟨a, ha, trivial⟩
theorem Qfn {α : Type} [Enc α] {Ok : α → Prop} {T e : TypeId} {n : Nat} (ht : Try.prog.underlying T = some (.slice e)) (hc : Try.prog.cellsOf e = Enc.sz α) (hpos : 0 < Enc.sz α)
  (ih : ∀ m, m < n → OpnB α Ok enc w base spare held e m) {cs : List Value} {x : DataW H × List MemPlace} (h : DataW.trod enc Try.prog w base spare held n T cs = some x) (hw : Wl Try.prog T x.1) : ∃ (v : Value) (l : List α), cs = [v] ∧ RepS (fun _ => True) w v l ∧ (∀ a ∈ l, Ok a) ∧ l.length * Try.prog.bytesOf e ≤ reachBytes := by
 rcases DataW.trod_slice ht h with ⟨rfl, _⟩ | ⟨a, len, cap, elems, rest, m, rfl, rfl, rfl, _, hl, hm, hlen, hel, _, _⟩
 ·exact ⟨_, [], rfl, RepS.nil, by simp, by simp⟩
 ·rw [hc] at hel
  obtain ⟨hb, hws⟩ := wl_slice ht hw
  have each : ∀ i, i < len → ∃ p : List Value × α, w.cells? base (a.add (i * Enc.sz α)) (Enc.sz α) = some p.1 ∧ (Rep (fun _ => True) w p.2 p.1 ∧ Ok p.2) := by
   intro i hi
   have h1 := hel i hi
   rw [List.getElem?_eq_getElem (by omega)] at h1
   obtain ⟨cs', h2, h3⟩ := Option.bind_eq_some_iff.1 h1
   obtain ⟨t, ht⟩ := ih m (by omega) cs' _ h3 (hws _ (List.mem_map.2 ⟨_, List.getElem_mem _, rfl⟩))
   exact ⟨(cs', t), h2, ht⟩
  obtain ⟨ps, hpl, hp⟩ := Qgl (Q := fun i (p : List Value × α) => w.cells? base (a.add (i * Enc.sz α)) (Enc.sz α) = some p.1 ∧ (Rep (fun _ => True) w p.2 p.1 ∧ Ok p.2)) each
  refine ⟨_, ps.map (·.2), rfl, RepS.mk (css := ps.map (·.1)) ?_ ?_, ?_, ?_⟩
  ·refine ⟨some a, cap, by simp [hpl], by simpa [hpl] using hl, hm, fun hne => ?_⟩
   have hl0 : 0 < ps.length := by
    cases ps with
    | nil => exact absurd rfl hne
    | cons _ _ => simp
   obtain ⟨_, hcl0, hcell0⟩ := World.cells?_some (hp 0 hl0).1
   have h0 := hcell0 0 hpos
   simp only [Nat.zero_mul, Addr.add, if_true] at h0
   rw [List.getElem?_eq_getElem (by omega)] at h0
   have hs : a.spot = none := Qgk h0
   refine ⟨a.block, a.off, by cases a; simp_all, trivial, World.block_lt_of_cell? w _ h0, fun i c hic => ?_⟩
   simp only [List.getElem?_map, Option.map_eq_some_iff] at hic
   obtain ⟨p, hpi, rfl⟩ := hic
   obtain ⟨hi, hpe⟩ := List.getElem?_eq_some_iff.1 hpi
   have hpp := (hp i hi).1
   rw [hpe] at hpp
   obtain ⟨_, hcl, hcell⟩ := World.cells?_some hpp
   refine ⟨hcl, fun j u hu => ?_⟩
   have hj : j < Enc.sz α := by
    have := (List.getElem?_eq_some_iff.1 hu).1; omega
   have := hcell j hj
   rw [hu, Qdp (x := a) hs, Qdp rfl] at this
   simpa [Nat.add_assoc] using this
  ·refine RepL.mk (by simp) fun i hi => ?_
   have hi' : i < ps.length := by simpa using hi
   exact ⟨ps[i].1, by simp [hi'], by have h := (hp i hi').2.1; unfold Rep at h; simpa using h⟩
  ·intro y hy
   obtain ⟨p, hpm, rfl⟩ := List.mem_map.1 hy
   obtain ⟨i, hi, rfl⟩ := List.getElem_of_mem hpm
   exact (hp i hi).2.2
  ·rw [List.length_map, hpl]
   refine Nat.le_trans (Nat.mul_le_mul_right _ ?_) hb
   rw [List.length_map]; omega
theorem opn_tm : ∀ (n : Nat), OpnAt Tm enc w base spare held 30 n := by
  intro n
  induction n using Nat.strongRecOn with
  | ind n ih =>
    intro cs x h
    obtain ⟨xs, m, rfl, _, hlen, hxs, hf⟩ := DataW.trod_struct Try.underlying30 h
    have hc : Try.prog.cellsOf 30 = 3 := by kernel_rfl
    have hc3 : Try.prog.cellsOf 3 = 1 := by kernel_rfl
    have hcs : Try.prog.cellsOf 28 = 1 := by kernel_rfl
    rw [hc] at hlen
    obtain ⟨c0, c1, c2, rfl⟩ := lst3 hlen
    match xs, hxs with
    | [x0, x1, x2], _ =>
      have h0 : DataW.trod enc Try.prog w base spare held m 3 (([c0, c1, c2].drop 0).take (Try.prog.cellsOf 3)) = some x0 := hf 0 _ rfl
      have h1 : DataW.trod enc Try.prog w base spare held m 3 (([c0, c1, c2].drop 1).take (Try.prog.cellsOf 3)) = some x1 := hf 1 _ rfl
      have h2 : DataW.trod enc Try.prog w base spare held m 28 (([c0, c1, c2].drop 2).take (Try.prog.cellsOf 28)) = some x2 := hf 2 _ rfl
      rw [hc3] at h0 h1
      rw [hcs] at h2
      obtain ⟨k, hk⟩ := Qcx (by kernel_rfl) m _ _ h0
      obtain ⟨a, ha⟩ := Qcx (by kernel_rfl) m _ _ h1
      obtain ⟨v, l, hv, hl⟩ := opn_slice (α := Tm) Try.underlying28 hc (by decide) (fun m' hm' => ih m' (by omega)) h2
      have e : [c0] = [.int .i64 k] := rep_int.1 hk
      have e1 : [c1] = [.int .i64 a] := rep_int.1 ha
      have e2 : [c2] = [v] := hv
      obtain rfl := (List.cons.inj e).1
      obtain rfl := (List.cons.inj e1).1
      obtain rfl := (List.cons.inj e2).1
      exact ⟨.mk k a l, rep_tm.2 ⟨c2, rfl, hl⟩⟩
end
def Qbv : Nat → Tm → Option (List Tm × Tm)
  | 0, t => some ([], t)
  | n + 1, t => match t with
    | .mk 3 _ [a, b] => (Qbv n b).map fun x => (a :: x.1, x.2)
    | _ => none
def Qar (t : Tm) (n : Int) : List Tm × Tm × Int :=
 if Qad t = false ∨ n < 0 then ([], .mk 0 0 [], 5)
 else if 24 < n then ([], .mk 0 0 [], 2)
 else match Qbv n.toNat t with
  | some (l, x) => (l, x, 0)
  | none => ([], .mk 0 0 [], 6)
def Qcp (x : List Tm × Tm × Int) : PV := .tup [.d (.sl (x.1.map encD)), aggD x.2.1, .d (.v (.int .i64 x.2.2))]
theorem good_pi {x : Tm} (hg : Qac x = true) (h5 : x.kind = 3) : ∃ y b, x = .mk 3 0 [y, b] ∧ Qac y = true ∧ Qac b = true := by
  cases x with
  | mk k n sub =>
    have h5' : k = 3 := h5
    subst h5'
    have h1 := Qcs hg
    unfold Qcn at h1
    have h2 := of_decide_eq_true h1.1
    simp only [Jv, Jw, Jx] at h2
    have h3 : sub.length = 2 := by have := h2.2.2.1; simp [Qao] at this; omega
    have h4 : n = 0 := by have := h2.2.2.2.2.1; have := h2.2.2.2.1; simp [Qaj] at *; omega
    match sub, h3 with
    | [y, b], _ => exact ⟨y, b, by rw [h4], h1.2 _ (by simp), h1.2 _ (by simp)⟩
theorem cutPi_no {n : Nat} {t : Tm} (h : t.kind ≠ 3) : Qbv (n + 1) t = none := by
 obtain ⟨k, m, sub⟩ := t
 have hk : k ≠ 3 := h
 unfold Qbv
 split
 ·rename_i e
  injection e with e1 _ _
  exact absurd e1 hk
 ·rfl
theorem Qep (n : Nat) (m : Int) (a b : Tm) : Qbv (n + 1) (.mk 3 m [a, b]) = (Qbv n b).map fun x => (a :: x.1, x.2) := by simp only [Qbv]
def joinC (l : List Tm) : Option (List Tm × Tm) → Option (List Tm × Tm)
 | some x => some (l ++ x.1, x.2)
 | none => none
theorem joinC_step (l : List Tm) (a : Tm) (o : Option (List Tm × Tm)) : joinC l (o.map fun x => (a :: x.1, x.2)) = joinC (l ++ [a]) o := by
 cases o with
 | none => rfl
 | some x => simp [joinC]
theorem joinC_nil (o : Option (List Tm × Tm)) : joinC [] o = o := by cases o <;> simp [joinC]
def splitO : Option (List Tm × Tm) → List Tm × Tm × Int
 | some (l, x) => (l, x, 0)
 | none => ([], .mk 0 0 [], 6)
theorem split_in {t : Tm} {n : Int} (h1 : Qad t = true) (h2 : 0 ≤ n) (h3 : n ≤ 24) : Qar t n = splitO (Qbv n.toNat t) := by
 unfold Qar splitO
 rw [if_neg (by rw [h1]; simp; omega), if_neg (by omega)]
theorem tSplit_p (t : Tm) (n : Int) : PCalls Try.prog 46 [aggD t, .d (.v (.int .i64 n))] [] fun p s => p = Qcp (Qar t n) ∧ s = [] := by
  have hS := Hh (Qca t)
  cases hb : Qad t with
  | false =>
    have hR : Qar t n = ([], .mk 0 0 [], 5) := by unfold Qar; rw [if_pos (.inl hb)]
    rw [hR]
    rw [hb] at hS
    unfold Qcp
    simp only [aggD, Jl, List.map_cons, List.map_nil, Jv, Jw, Jx] at hS ⊢
    refine pG Try.func46 Try.ntmps46 ?_
    refine Jd ?_
    intro i0 hi0
    refine go_ ?_
    refine Je ?_
    intro i1 hi1
    try simp only [Ja, Rh, Rg, Jb] at hi1
    refine go_ ?_
    refine Qaa (hS.out) ?_
    refine Qab ?_
    refine rT Try.results46 ?_
    exact ⟨by simp [tupP, PV.norm2, PV.norm1, PV.norm0], rfl⟩
  | true =>
    rw [hb] at hS
    by_cases h0 : n < 0
    · have hR : Qar t n = ([], .mk 0 0 [], 5) := by unfold Qar; rw [if_pos (.inr h0)]
      rw [hR]
      unfold Qcp
      simp only [aggD, Jl, List.map_cons, List.map_nil, Jv, Jw, Jx] at hS ⊢
      refine pG Try.func46 Try.ntmps46 ?_
      refine Jd ?_
      intro i0 hi0
      refine go_ ?_
      refine Je ?_
      intro i1 hi1
      try simp only [Ja, Rh, Rg, Jb] at hi1
      refine go_ ?_
      refine Qaa (hS.out) ?_
      refine Qab ?_
      refine rT Try.results46 ?_
      exact ⟨by simp [tupP, PV.norm2, PV.norm1, PV.norm0], rfl⟩
    · by_cases h24 : 24 < n
      · have hR : Qar t n = ([], .mk 0 0 [], 2) := by unfold Qar; rw [if_neg (by rw [hb]; simp; omega), if_pos h24]
        rw [hR]
        unfold Qcp
        simp only [aggD, Jl, List.map_cons, List.map_nil, Jv, Jw, Jx] at hS ⊢
        refine pG Try.func46 Try.ntmps46 ?_
        refine Jd ?_
        intro i0 hi0
        refine go_ ?_
        refine Je ?_
        intro i1 hi1
        try simp only [Ja, Rh, Rg, Jb] at hi1
        refine go_ ?_
        refine Qaa (hS.out) ?_
        refine Qab ?_
        refine rT Try.results46 ?_
        exact ⟨by simp [tupP, PV.norm2, PV.norm1, PV.norm0], rfl⟩
      · have hC := Hh (tCopy_p t)
        have hcp : Qbc t = t := if_pos hb
        rw [hcp] at hC
        obtain ⟨m, rfl⟩ : ∃ m : Nat, n = m := ⟨n.toNat, by omega⟩
        have hR := split_in hb (by omega) (show (m : Int) ≤ 24 by omega)
        have hg := (Qbu hb).1
        obtain ⟨R, hR0⟩ : ∃ R, R = Qbv m t := ⟨_, rfl⟩
        rw [hR, Int.toNat_natCast, ← hR0]
        have HR0 : Hid (R = joinC [] (Qbv m t)) := by show _ = _; rw [joinC_nil, hR0]
        have hm24 : m ≤ 24 := by omega
        have HG := Hh hg
        clear hb hcp hR hR0 hg h0
        unfold Qcp
        simp only [aggD, Jl, List.map_cons, List.map_nil] at hS hC ⊢
        refine pG Try.func46 Try.ntmps46 ?_
        refine Jd ?_
        intro i0 hi0
        refine go_ ?_
        refine Je ?_
        intro i1 hi1
        try simp only [Ja, Rh, Rg, Jb] at hi1
        refine go_ ?_
        refine Jc (hS.out) ?_
        refine gs_ ?_
        refine Qc ?_
        refine gs_ ?_
        refine Qc ?_
        refine gs_ ?_
        refine PW_own 7 30 3 (by decide) (by simp [PF.get] <;> rfl) fun g hg => ?_
        refine go_ ?_
        refine Qaa (hC.out) ?_
        refine Je ?_
        intro i2 hi2
        try simp only [Ja, Rh, Rg, Jb] at hi2
        refine go_ ?_
        refine Qab ?_
        refine Qaf (ι := Nat × List Tm × Tm) (fun y => y.1 ≤ m ∧ y.2.1.length = y.1 ∧ Hid (Qac y.2.2 = true) ∧ Hid (R = joinC y.2.1 (Qbv (m - y.1) y.2.2))) (fun y => [(5, .ptr i1 0), (7, .own g (y.2.1.map encD)), (8, .ptr i2 0), (24, .d (.v (.int .i64 m))), (25, .d (.v (.int .i64 (y.1 : Int))))]) (fun y => [.box i2 30 [.d (.v (.int .i64 y.2.2.kind)), .d (.v (.int .i64 y.2.2.num)), .d (.sl (y.2.2.sub.map encD))], .tok g 30 3 y.2.1.length, .box i1 30 [.d (.v (.int .i64 0)), .d (.v (.int .i64 0)), .nils]]) (fun y => m - y.1) (0, [], t) ⟨Nat.zero_le _, rfl, HG.out, HR0.out⟩ ?_ ?_ ?_
        · exact sU
        · exact dR
        · rintro ⟨j, l, x⟩ ⟨hj, hl, hgx, hR⟩
          simp only at hj hl hgx hR ⊢
          have HL := Hh hl
          clear HR0 HG hl
          by_cases hlt : j < m
          · have hc : (j : Int) < m := by omega
            have hin := wr64 (n := (j : Int) + 1) (by omega) (by omega)
            by_cases h3 : x.kind = 3
            · obtain ⟨a, b, rfl, ha, hb⟩ := good_pi hgx.out h3
              have hR2 : Hid (R = joinC (l ++ [a]) (Qbv (m - (j + 1)) b)) := by
                show _ = _
                rw [show R = _ from hR.out, show m - j = (m - (j + 1)) + 1 by omega, Qep, joinC_step]
              clear hR h3 hgx
              simp only [Jv, Jw, Jx, List.map_cons, List.map_nil]
              refine go_ ?_
              refine Qbx ?_
              have hl8 : l.length ≤ 24 := by have := HL.out; omega
              refine Qbq (l.length + 1) ?_ ?_ ?_ ?_
              · simp
              · exact Qdj _
              · exact Qfp rfl
              refine go_ ?_
              refine Qab ?_
              refine ⟨(j + 1, l ++ [a], b), ⟨hlt, by simp only; rw [List.length_append, show l.length = j from HL.out]; rfl, hb, hR2⟩, by simp only; omega, ?_, ?_⟩
              · repeat (first | exact Jt _ | refine Js (by simp [PF.get]; rfl) (by first | rfl | (simp [hin]; done) | fail) ?_)
              · simp only [List.length_append, List.length_singleton]
                exact dR
            · have hf : Hid (R = none) := by
                show _ = _
                rw [show R = _ from hR.out, show m - j = (m - (j + 1)) + 1 by omega, cutPi_no h3]; rfl
              clear hR
              refine go_ ?_
              refine Qab ?_
              refine rT Try.results46 ?_
              exact ⟨by rw [hf.out]; simp [splitO, tupP, PV.norm2, PV.norm1, PV.norm0], rfl⟩
          · have hc : ¬ (j : Int) < m := by omega
            have hf : Hid (R = some (l, x)) := by
              show _ = _
              rw [show R = _ from hR.out, show m - j = 0 by omega]
              simp [Qbv, joinC]
            clear hR
            refine go_ ?_
            refine Qas [(0, .a), (1, .b), (2, .a), (3, .e), (4, .a)] (by kernel_rfl) (by rfl) (by kernel_rfl) ?_
            refine go_ ?_
            refine Qga ?_
            refine go_ ?_
            refine rT Try.results46 ?_
            exact ⟨by rw [hf.out]; simp [splitO, tupP, PV.norm2, PV.norm1, PV.norm0], rfl⟩
def piN : Tm → Nat
 | .mk 3 _ [_, b] => piN b + 1
 | _ => 0
theorem piN_pi (m : Int) (a b : Tm) : piN (.mk 3 m [a, b]) = piN b + 1 := by simp only [piN]
theorem piN_no {t : Tm} (h : ¬ (t.kind = 3 ∧ t.sub.length = 2)) : piN t = 0 := by
 obtain ⟨k, m, sub⟩ := t
 unfold piN
 split
 ·rename_i e
  injection e with e1 _ e3
  exact absurd ⟨e1, by rw [Jx, e3]; rfl⟩ h
 ·rfl
def Qae (t : Tm) : List Tm × Tm × Int := Qar t (min (piN t : Int) 25)
theorem Qft (t : Tm) : PCalls Try.prog 31 [aggD t] [] fun p s => p = Qcp (Qae t) ∧ s = [] := by
 obtain ⟨N, hN0⟩ : ∃ N, N = min (piN t) 25 := ⟨_, rfl⟩
 have HC := Hh (tSplit_p t (min (piN t : Int) 25))
 rw [show min (piN t : Int) 25 = (N : Int) by omega] at HC
 have HW : Hid (Qae t = Qar t N) := by show _ = _; unfold Qae; rw [show min (piN t : Int) 25 = (N : Int) by omega]
 rw [HW.out]
 have HN : Hid (N = min (0 + piN t) 25) := by show _ = _; omega
 clear hN0 HW
 generalize Qar t (N : Int) = S at *
 obtain ⟨sl, sx, se⟩ := S
 unfold Qcp at HC ⊢
 simp only [aggD, Jl, List.map_cons, List.map_nil] at HC ⊢
 refine pG Try.func31 Try.ntmps31 ?_
 refine Jd ?_
 intro i0 hi0
 refine go_ ?_
 refine Je ?_
 intro i1 hi1
 try simp only [Ja, Rh, Rg, Jb] at hi1
 refine go_ ?_
 refine Je ?_
 intro i2 hi2
 try simp only [Ja, Rh, Rg, Jb] at hi2
 refine go_ ?_
 refine Qab ?_
 refine Qaf (ι := Nat × Nat × Tm) (fun y => y.2.1 ≤ 25 ∧ ((i1 ≠ y.1 ∧ y.1 ≠ i1) ∧ (i0 ≠ y.1 ∧ y.1 ≠ i0)) ∧ Hid (N = min (y.2.1 + piN y.2.2) 25)) (fun y => [(1, .ptr i0 0), (3, .ptr i1 0), (5, .d (.v (.int .i64 (y.2.1 : Int)))), (6, .ptr y.1 0)]) (fun y => [.box y.1 30 [.d (.v (.int .i64 y.2.2.kind)), .d (.v (.int .i64 y.2.2.num)), .d (.sl (y.2.2.sub.map encD))], .box i1 30 [.d (.v (.int .i64 0)), .d (.v (.int .i64 0)), .nils], .box i0 30 [.d (.v (.int .i64 t.kind)), .d (.v (.int .i64 t.num)), .d (.sl (t.sub.map encD))]]) (fun y => 25 - y.2.1) (i2, 0, t) ⟨Nat.zero_le _, ⟨hi2.1, hi2.2.1⟩, HN.out⟩ ?_ ?_ ?_
 ·exact sU
 ·exact dR
 ·rintro ⟨i, j, x⟩ ⟨hj, hne, hR⟩
  simp only at hj hR hne ⊢
  clear HN hi2
  by_cases hx : x.kind = 3
  ·by_cases hl : x.sub.length = 2
   ·by_cases h24 : (j : Int) ≤ 24
    ·obtain ⟨k, m, sub⟩ := x
     have hk : k = 3 := hx
     subst hk
     match sub, (show sub.length = 2 from hl) with
     | [a, b], _ =>
     have hR2 : Hid (N = min ((j + 1) + piN b) 25) := by
      show _ = _
      rw [show N = _ from hR.out, piN_pi]; omega
     have hin := wr64 (n := (j : Int) + 1) (by omega) (by omega)
     clear hR hx hl
     simp only [Jv, Jw, Jx, List.map_cons, List.map_nil]
     refine go_ ?_
     refine Je ?_
     intro i3 hi3
     try simp only [Ja, Rh, Rg, Jb] at hi3
     refine go_ ?_
     refine Qab ?_
     refine Qab ?_
     refine ⟨(i3, j + 1, b), ⟨by simp only; omega, ⟨hi3.2.1, hi3.2.2.1⟩, hR2⟩, by simp only; omega, ?_, ?_⟩
     ·repeat (first | exact Jt _ | refine Js (by simp [PF.get]; rfl) (by first | rfl | (simp [hin]; done) | fail) ?_)
     ·exact dR
    ·have hf : N = j := by rw [show N = _ from hR.out]; omega
     clear hR
     subst hf
     refine go_ ?_
     refine Qaa (HC.out) ?_
     refine Qab ?_
     refine rT Try.results31 ?_
     exact ⟨by simp [tupP, PV.norm2, PV.norm1, PV.norm0], rfl⟩
   ·have hf : N = j := by rw [show N = _ from hR.out, piN_no (fun h => hl h.2)]; omega
    have hl2 : ((x.sub.length : Int) == 2) = false := beq_eq_false_iff_ne.2 (by omega)
    clear hR
    subst hf
    refine go_ ?_
    refine Qaa (HC.out) ?_
    refine Qab ?_
    refine rT Try.results31 ?_
    exact ⟨by simp [tupP, PV.norm2, PV.norm1, PV.norm0], rfl⟩
  ·have hf : N = j := by rw [show N = _ from hR.out, piN_no (fun h => hx h.1)]; omega
   clear hR
   subst hf
   refine go_ ?_
   refine Qaa (HC.out) ?_
   refine Qab ?_
   refine rT Try.results31 ?_
   exact ⟨by simp [tupP, PV.norm2, PV.norm1, PV.norm0], rfl⟩
theorem cnd_two (k n : Int) (a b : Tm) : cndT (.mk k n [a, b]) = cndT a + cndT b + 1 := by simp only [cndT, cndL]; omega
theorem args_len : ∀ (t : Tm), (Qby t).length ≤ cndT t := by
 refine Tm.ind ?_
 intro k n sub ih
 unfold Qby Qbw
 split
 ·rename_i f a
  have := ih f (by simp)
  unfold Qby at this
  rw [List.length_append, List.length_singleton, cnd_two]
  omega
 ·exact Nat.zero_le _
def Qaz : Tm → List Tm
 | .mk 3 _ [a, b] => a :: Qaz b
 | _ => []
def benT : Tm → Tm
  | .mk k n sub => match k, sub with
    | 3, [_, b] => benT b
    | k, sub => .mk k n sub
theorem tele_pi (m : Int) (a b : Tm) : Qaz (.mk 3 m [a, b]) = a :: Qaz b ∧ benT (.mk 3 m [a, b]) = benT b := by constructor <;> simp only [Qaz, benT]
theorem tele_no {t : Tm} (h : t.kind ≠ 3) : Qaz t = [] ∧ benT t = t := by
 obtain ⟨k, m, sub⟩ := t
 have hk : k ≠ 3 := h
 constructor
 ·unfold Qaz
  split
  ·rename_i e; injection e with e1 _ _; exact absurd e1 hk
  ·rfl
 ·unfold benT
  split
  ·exact absurd rfl hk
  ·rfl
end Go.Proofs.Ytpaifjlikgnlfaa

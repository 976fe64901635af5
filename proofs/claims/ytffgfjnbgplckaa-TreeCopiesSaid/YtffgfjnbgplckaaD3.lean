import Derived.Test.YtffgfjnbgplckaaD1
import Derived.Test.YtffgfjnbgplckaaRows
import Derived.ChangeArms
import Derived.ChangeSlices
import Derived.OpenShut
import Derived.ChangeShapes
namespace Go.Proofs.Ytffgfjnbgplckaa
open Go.RowKit
theorem choose_list {α : Type} {n : Nat} {Q : Nat → α → Prop} (h : ∀ i, i < n → ∃ x, Q i x) : ∃ xs : List α, xs.length = n ∧ ∀ (i : Nat) (hi : i < xs.length), Q i xs[i] := by
  induction n with
  | zero => exact ⟨[], rfl, fun i hi => by simp at hi⟩
  | succ n ih =>
    obtain ⟨xs, hl, hx⟩ := ih fun i hi => h i (by omega)
    obtain ⟨x, hx'⟩ := h n (by omega)
    refine ⟨xs ++ [x], by simp [hl], fun i hi => ?_⟩
    simp at hi
    by_cases hin : i < n
    · rw [List.getElem_append_left (by omega)]; exact hx i (by omega)
    · have : i = n := by omega
      subst this
      rw [List.getElem_append_right (by omega)]; simpa [hl] using hx'
/-- where a struct's fields lie -/
theorem repF_at {S : Nat → Prop} {w : World} {ds es : List Dt} {cs : List Value} {o n m : Nat} (hm : o + n = m) (h1 : RepF S w ds ((cs.drop o).take n)) (h2 : RepF S w es (cs.drop m)) : RepF S w (ds ++ es) (cs.drop o) := by
  subst hm
  rw [← List.take_append_drop n (cs.drop o), List.drop_drop]
  generalize (cs.drop o).take n = a at h1
  generalize cs.drop (o + n) = b at h2
  clear cs
  induction ds generalizing a with
  | nil => simp only [RepF] at h1; subst h1; simpa using h2
  | cons d ds ih =>
    simp only [RepF] at h1
    obtain ⟨c, cr, rfl, h3, h4⟩ := h1
    simp only [List.cons_append, RepF]
    exact ⟨_, _, rfl, h3, ih _ h4⟩
theorem repF_end {S : Nat → Prop} {w : World} {cs : List Value} {o : Nat} (h : cs.length = o) : RepF S w [] (cs.drop o) := by
  simp only [RepF]; exact List.drop_of_length_le (by omega)
section
variable {H : Type} {enc : TypeId × Value → H} {w : World} {base : Nat} {spare : Nat → Bool} {held : Bool}
/-- what reads as a value of a type, with so much fuel, is an α -/
def OpnAt (α : Type) [Enc α] (enc : TypeId × Value → H) (w : World) (base : Nat) (spare : Nat → Bool) (held : Bool) (T : TypeId) (n : Nat) : Prop :=
  ∀ (cs : List Value) (x : DataW H × List MemPlace), DataW.trod enc Try.prog w base spare held n T cs = some x → ∃ a : α, Rep (fun _ => True) w a cs
theorem opn_int {T : TypeId} (ht : Try.prog.underlying T = some (.int .i64)) (n : Nat) : OpnAt Int enc w base spare held T n := fun cs x h => by
  obtain ⟨k, hk, _, _⟩ := DataW.trod_int ht h
  exact ⟨k, rep_int.2 hk⟩
theorem opn_str {T : TypeId} (ht : Try.prog.underlying T = some .string) (n : Nat) : OpnAt ByteArray enc w base spare held T n := fun cs x h => by
  obtain ⟨k, hk, _, hs⟩ := DataW.trod_string ht h
  exact ⟨k, rep_str.2 ⟨hk, hs⟩⟩
theorem rep_bool {S : Nat → Prop} {n : Bool} {cs : List Value} : Rep S w n cs ↔ cs = [.bool n] := by
  unfold Rep
  simp only [Enc.enc, RepF, RepV]
  constructor
  · rintro ⟨c, cr, rfl, ⟨rfl, h⟩, rfl⟩; rfl
  · rintro rfl; exact ⟨_, _, rfl, ⟨rfl, rfl⟩, rfl⟩
theorem opn_bool {T : TypeId} (ht : Try.prog.underlying T = some .bool) (n : Nat) : OpnAt Bool enc w base spare held T n := fun cs x h => by
  obtain ⟨k, hk, _⟩ := DataW.trod_bool ht h
  exact ⟨k, rep_bool.2 hk⟩
theorem opn_slice {α : Type} [Enc α] {T e : TypeId} {n : Nat} (ht : Try.prog.underlying T = some (.slice e)) (hc : Try.prog.cellsOf e = Enc.sz α) (hpos : 0 < Enc.sz α)
    (ih : ∀ m, m < n → OpnAt α enc w base spare held e m) {cs : List Value} {x : DataW H × List MemPlace} (h : DataW.trod enc Try.prog w base spare held n T cs = some x) : ∃ (v : Value) (l : List α), cs = [v] ∧ RepS (fun _ => True) w v l := by
  rcases DataW.trod_slice ht h with ⟨rfl, _⟩ | ⟨a, len, cap, elems, rest, m, rfl, rfl, _, _, hl, hm, hlen, hel, _, _⟩
  · exact ⟨_, [], rfl, RepS.nil⟩
  · rw [hc] at hel
    have each : ∀ i, i < len → ∃ p : List Value × α, w.cells? base (a.add (i * Enc.sz α)) (Enc.sz α) = some p.1 ∧ Rep (fun _ => True) w p.2 p.1 := by
      intro i hi
      have h1 := hel i hi
      rw [List.getElem?_eq_getElem (by omega)] at h1
      obtain ⟨cs', h2, h3⟩ := Option.bind_eq_some_iff.1 h1
      obtain ⟨t, ht⟩ := ih m (by omega) cs' _ h3
      exact ⟨(cs', t), h2, ht⟩
    obtain ⟨ps, hpl, hp⟩ := choose_list (Q := fun i (p : List Value × α) => w.cells? base (a.add (i * Enc.sz α)) (Enc.sz α) = some p.1 ∧ Rep (fun _ => True) w p.2 p.1) each
    refine ⟨_, ps.map (·.2), rfl, RepS.mk (css := ps.map (·.1)) ?_ ?_⟩
    · refine ⟨some a, cap, by simp [hpl], by simpa [hpl] using hl, hm, fun hne => ?_⟩
      have hl0 : 0 < ps.length := by
        cases ps with
        | nil => exact absurd rfl hne
        | cons _ _ => simp
      obtain ⟨_, hcl0, hcell0⟩ := World.cells?_some (hp 0 hl0).1
      have h0 := hcell0 0 hpos
      simp only [Nat.zero_mul, Addr.add, if_true] at h0
      rw [List.getElem?_eq_getElem (by omega)] at h0
      have hs : a.spot = none := spot_none h0
      refine ⟨a.block, a.off, by cases a; simp_all, trivial, World.block_lt_of_cell? w _ h0, fun i c hic => ?_⟩
      simp only [List.getElem?_map, Option.map_eq_some_iff] at hic
      obtain ⟨p, hpi, rfl⟩ := hic
      obtain ⟨hi, hpe⟩ := List.getElem?_eq_some_iff.1 hpi
      have hpp := (hp i hi).1
      rw [hpe] at hpp
      obtain ⟨_, hcl, hcell⟩ := World.cells?_some hpp
      refine ⟨hcl, fun j u hu => ?_⟩
      have hj : j < Enc.sz α := by
        have := (List.getElem?_eq_some_iff.1 hu).1; omega
      have := hcell j hj
      rw [hu, addr_add (x := a) hs, addr_add rfl] at this
      simpa [Nat.add_assoc] using this
    · refine RepL.mk (by simp) fun i hi => ?_
      have hi' : i < ps.length := by simpa using hi
      exact ⟨ps[i].1, by simp [hi'], by have h := (hp i hi').2; unfold Rep at h; simpa using h⟩
theorem repF_slice {α : Type} [Enc α] {S : Nat → Prop} {v : Value} {l : List α} (h : RepS S w v l) : RepF S w [.s (Enc.sz α) (l.map Enc.enc)] [v] := by
  simp only [RepF]; exact ⟨_, _, rfl, h, rfl⟩
end
end Go.Proofs.Ytffgfjnbgplckaa

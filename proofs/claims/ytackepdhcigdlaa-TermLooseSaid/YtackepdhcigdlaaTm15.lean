import Derived.Test.YtackepdhcigdlaaTm14
import Derived.ChangeArms
import Derived.ChangeSlices
import Derived.OpenShut
import Derived.ChangeShapes
namespace Go.Proofs.Ytackepdhcigdlaa
open Go.RowKit
/-- elements, one after the other -/
theorem choose_list {α : Type} {n : Nat} {Q : Nat → α → Prop} (h : ∀ i, i < n → ∃ x, Q i x) : ∃ xs : List α, xs.length = n ∧ ∀ (i : Nat) (hi : i < xs.length), Q i xs[i] := by
  induction n with
  | zero => exact ⟨[], rfl, fun i hi => by simp at hi⟩
  | succ n ih =>
    obtain ⟨xs, hl, hx⟩ := ih fun i hi => h i (by omega)
    obtain ⟨x, hx'⟩ := h n (by omega)
    refine ⟨xs ++ [x], by simp [hl], fun i hi => ?_⟩
    simp at hi
    by_cases hin : i < n
    · rw [List.getElem_append_left (by omega)]; exact hx i (by omega)
    · have : i = n := by omega
      subst this
      rw [List.getElem_append_right (by omega)]; simpa [hl] using hx'
section
variable {H : Type} {enc : TypeId × Value → H} {w : World} {base : Nat} {spare : Nat → Bool} {held : Bool}
theorem open_tms_of {n : Nat} (ih : ∀ (m : Nat), m < n → ∀ (cs : List Value) (x : DataW H × List MemPlace), DataW.trod enc Try.prog w base spare held m 24 cs = some x → ∃ t, TmC w t cs)
    {cs : List Value} {x : DataW H × List MemPlace} (h : DataW.trod enc Try.prog w base spare held n 22 cs = some x) : ∃ (a : Option Addr) (len cap : Nat) (ts : List Tm), cs = [.slice a len cap] ∧ TmS w (.slice a len cap) ts := by
  rcases DataW.trod_slice Try.underlying22 h with ⟨rfl, _⟩ | ⟨a, len, cap, elems, rest, m, rfl, rfl, _, _, hl, hm, hlen, hel, _, _⟩
  · exact ⟨none, 0, 0, [], rfl, [], ⟨none, 0, rfl, Nat.zero_le _, Nat.zero_le _, fun h => absurd rfl h⟩, by simp [TmCs]⟩
  · have hc24 : Try.prog.cellsOf 24 = 3 := by kernel_rfl
    rw [hc24] at hel
    have each : ∀ i, i < len → ∃ p : List Value × Tm, w.cells? base (a.add (i * 3)) 3 = some p.1 ∧ TmC w p.2 p.1 := by
      intro i hi
      have h1 := hel i hi
      rw [List.getElem?_eq_getElem (by omega)] at h1
      obtain ⟨cs', h2, h3⟩ := Option.bind_eq_some_iff.1 h1
      obtain ⟨t, ht⟩ := ih m (by omega) cs' _ h3
      exact ⟨(cs', t), h2, ht⟩
    obtain ⟨ps, hpl, hp⟩ := choose_list (Q := fun i (p : List Value × Tm) => w.cells? base (a.add (i * 3)) 3 = some p.1 ∧ TmC w p.2 p.1) each
    refine ⟨some a, len, cap, ps.map (·.2), rfl, ps.map (·.1), ?_, ?_⟩
    · refine ⟨some a, cap, by simp [hpl], by simpa [hpl] using hl, hm, fun hne => ?_⟩
      have hl0 : 0 < ps.length := by
        cases ps with
        | nil => exact absurd rfl hne
        | cons _ _ => simp
      have hs : a.spot = none := by
        obtain ⟨_, hcl, hcell⟩ := World.cells?_some (hp 0 hl0).1
        have := hcell 0 (by omega)
        simp only [Nat.zero_mul, Addr.add, if_true] at this
        rw [List.getElem?_eq_getElem (by omega)] at this
        exact spot_none this
      refine ⟨a.block, a.off, by cases a; simp_all, fun i c hic => ?_⟩
      simp only [List.getElem?_map, Option.map_eq_some_iff] at hic
      obtain ⟨p, hpi, rfl⟩ := hic
      obtain ⟨hi, hpe⟩ := List.getElem?_eq_some_iff.1 hpi
      have hpp := (hp i hi).1
      rw [hpe] at hpp
      obtain ⟨_, hcl, hcell⟩ := World.cells?_some hpp
      refine ⟨hcl, fun j u hu => ?_⟩
      have hj : j < 3 := by
        have := (List.getElem?_eq_some_iff.1 hu).1; omega
      have := hcell j hj
      rw [hu, addr_add (x := a) hs, addr_add rfl] at this
      simpa [Nat.add_assoc] using this
    · refine TmCs.mk (by simp) fun i hi => ?_
      have hi' : i < ps.length := by simpa using hi
      exact ⟨ps[i].1, by simp [hi'], by simpa using (hp i hi').2⟩
theorem open_tm_cs : ∀ (n : Nat) (cs : List Value) (x : DataW H × List MemPlace), DataW.trod enc Try.prog w base spare held n 24 cs = some x → ∃ t, TmC w t cs := by
  intro n
  induction n using Nat.strongRecOn with
  | ind n ih =>
    intro cs x h
    obtain ⟨xs, m, rfl, _, hlen, hxs, hf⟩ := DataW.trod_struct Try.underlying24 h
    have hc24 : Try.prog.cellsOf 24 = 3 := by kernel_rfl
    have hc3 : Try.prog.cellsOf 3 = 1 := by kernel_rfl
    have hc22 : Try.prog.cellsOf 22 = 1 := by kernel_rfl
    rw [hc24] at hlen
    obtain ⟨c0, c1, c2, rfl⟩ : ∃ a b c, cs = [a, b, c] := by
      match cs, hlen with
      | [a, b, c], _ => exact ⟨a, b, c, rfl⟩
    match xs, hxs with
    | [x0, x1, x2], _ =>
      have h0 := hf 0 _ rfl
      have h1 := hf 1 _ rfl
      have h2 := hf 2 _ rfl
      simp [hc3] at h0 h1
      simp [hc22] at h2
      obtain ⟨k, hk, _, _⟩ := DataW.trod_int (k := .i64) (by kernel_rfl) h0
      obtain ⟨n', hn', _, _⟩ := DataW.trod_int (k := .i64) (by kernel_rfl) h1
      obtain ⟨a, len, cap, ts, hs, hts⟩ := open_tms_of (fun m' hm' => ih m' (by omega)) h2
      simp at hk hn' hs
      subst hk hn' hs
      exact ⟨.mk k n' ts, TmC.iff.2 ⟨_, rfl, hts⟩⟩
theorem open_tms {n : Nat} {cs : List Value} {x : DataW H × List MemPlace} (h : DataW.trod enc Try.prog w base spare held n 22 cs = some x) : ∃ (a : Option Addr) (len cap : Nat) (ts : List Tm), cs = [.slice a len cap] ∧ TmS w (.slice a len cap) ts :=
  open_tms_of (fun m _ => open_tm_cs m) h
end
theorem sames_law (t : Tm) (cs : List Value) (u : Tm) (ds : List Value) (w : World) (ht : TmC w t cs) (hu : TmC w u ds) :
    Calls Try.prog 5 #[.agg cs.toArray, .agg ds.toArray] w fun e w' => e = .returned (.bool true) ∧ Below w.heap.size w w' := sames_walk t u cs ds w ht hu
end Go.Proofs.Ytackepdhcigdlaa

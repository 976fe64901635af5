import Derived.Test.YtahhgpafjiljfaaGreatPBD
set_option linter.unusedSimpArgs false
set_option linter.unusedVariables false
set_option maxHeartbeats 16000000
set_option maxRecDepth 100000
namespace Go.Proofs.YtahhgpafjiljfaaGreat
open Go.RowKit
theorem list5 {cs : List Value} (h : cs.length = 5) : ∃ a b c d e, cs = [a, b, c, d, e] := by
 match cs, h with
 | [a, b, c, d, e], _ => exact ⟨a, b, c, d, e, rfl⟩
section
variable {H : Type} {enc : TypeId × Value → H} {w : World} {base : Nat} {spare : Nat → Bool} {held : Bool}
theorem opn_nd : ∀ (n : Nat), OpnAt Nd enc w base spare held 25 n := by
  intro n
  induction n using Nat.strongRecOn with
  | ind n ih =>
    intro cs x h
    obtain ⟨xs, m, rfl, _, hlen, hxs, hf⟩ := DataW.trod_struct Tryz.underlying25 h
    have hc : Tryz.prog.cellsOf 25 = 5 := by kernel_rfl
    have hc3 : Tryz.prog.cellsOf 3 = 1 := by kernel_rfl
    have hc9 : Tryz.prog.cellsOf 9 = 1 := by kernel_rfl
    have hcs : Tryz.prog.cellsOf 23 = 1 := by kernel_rfl
    rw [hc] at hlen
    obtain ⟨c0, c1, c2, c3, c4, rfl⟩ := list5 hlen
    match xs, hxs with
    | [x0, x1, x2, x3, x4], _ =>
      have h0 : DataW.trod enc Tryz.prog w base spare held m 3 (([c0, c1, c2, c3, c4].drop 0).take (Tryz.prog.cellsOf 3)) = some x0 := hf 0 _ rfl
      have h1 : DataW.trod enc Tryz.prog w base spare held m 3 (([c0, c1, c2, c3, c4].drop 1).take (Tryz.prog.cellsOf 3)) = some x1 := hf 1 _ rfl
      have h2 : DataW.trod enc Tryz.prog w base spare held m 9 (([c0, c1, c2, c3, c4].drop 2).take (Tryz.prog.cellsOf 9)) = some x2 := hf 2 _ rfl
      have h3 : DataW.trod enc Tryz.prog w base spare held m 3 (([c0, c1, c2, c3, c4].drop 3).take (Tryz.prog.cellsOf 3)) = some x3 := hf 3 _ rfl
      have h4 : DataW.trod enc Tryz.prog w base spare held m 23 (([c0, c1, c2, c3, c4].drop 4).take (Tryz.prog.cellsOf 23)) = some x4 := hf 4 _ rfl
      rw [hc3] at h0 h1 h3
      rw [hc9] at h2
      rw [hcs] at h4
      obtain ⟨k, hk⟩ := Qim (by kernel_rfl) m _ _ h0
      obtain ⟨a, ha⟩ := Qim (by kernel_rfl) m _ _ h1
      obtain ⟨s, hs⟩ := opn_str (by kernel_rfl) m _ _ h2
      obtain ⟨q, hq⟩ := Qim (by kernel_rfl) m _ _ h3
      obtain ⟨v, l, hv, hl⟩ := opn_slice (α := Nd) Tryz.underlying23 hc (by decide) (fun m' hm' => ih m' (by omega)) h4
      have e : [c0] = [.int .i64 k] := rep_int.1 hk
      have e1 : [c1] = [.int .i64 a] := rep_int.1 ha
      have e2 : [c2] = [.string s] := (rep_str.1 hs).1
      have e3 : [c3] = [.int .i64 q] := rep_int.1 hq
      have e4 : [c4] = [v] := hv
      obtain rfl := (List.cons.inj e).1
      obtain rfl := (List.cons.inj e1).1
      obtain rfl := (List.cons.inj e2).1
      obtain rfl := (List.cons.inj e3).1
      obtain rfl := (List.cons.inj e4).1
      exact ⟨.mk k a s q l, rep_nd.2 ⟨c4, rfl, (rep_str.1 hs).2, hl⟩⟩
theorem open_nd_cs (n : Nat) (cs : List Value) (x : DataW H × List MemPlace) (h : DataW.trod enc Tryz.prog w base spare held n 25 cs = some x) : ∃ t, NdC w t cs := by
 obtain ⟨t, ht⟩ := opn_nd n cs x h
 exact ⟨t, Rep.toC _ _ ht⟩
end
end Go.Proofs.YtahhgpafjiljfaaGreat

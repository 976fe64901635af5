import Derived.Test.YtahhgpafjiljfaaOT23
set_option linter.unusedSimpArgs false
set_option linter.unusedVariables false
set_option maxHeartbeats 16000000
set_option maxRecDepth 100000
namespace Go.Proofs.Ytahhgpafjiljfaa
open Go.RowKit
def zeroB (t : Nd) : Bool := t.kind == 0 && t.at == 0 && t.name.toList.isEmpty && t.num == 0 && (t.sub.length : Int) == 0
def rowB (r : Rw) : Bool := decide (r.pats.length ≤ 24) && r.pats.all patB && (if r.has then Qby r.body else zeroB r.body)
theorem zero_cases (k a n len : Int) (s : ByteArray) (zb : Bool) (h : zb = (k == 0 && a == 0 && s.toList.isEmpty && n == 0 && len == 0)) :
  ((k == 0) = false ∧ ¬ k = 0 ∧ zb = false) ∨ (k = 0 ∧ (a == 0) = false ∧ ¬ a = 0 ∧ zb = false) ∨ (k = 0 ∧ a = 0 ∧ ¬ s.toList = [] ∧ s.toList.isEmpty = false ∧ zb = false) ∨ (k = 0 ∧ a = 0 ∧ s.toList = [] ∧ s.toList.isEmpty = true ∧ (n == 0) = false ∧ ¬ n = 0 ∧ zb = false) ∨ (k = 0 ∧ a = 0 ∧ s.toList = [] ∧ s.toList.isEmpty = true ∧ n = 0 ∧ zb = (len == 0)) := by
 subst h
 by_cases h1 : k = 0
 ·by_cases h2 : a = 0
  ·by_cases h3 : s.toList = []
   ·by_cases h4 : n = 0
    ·exact .inr (.inr (.inr (.inr ⟨h1, h2, h3, by simp [h3], h4, by simp [h1, h2, h3, h4]⟩)))
    ·exact .inr (.inr (.inr (.inl ⟨h1, h2, h3, by simp [h3], by simp [h4], h4, by simp [h4]⟩)))
   ·exact .inr (.inr (.inl ⟨h1, h2, h3, by simp [h3], by simp [h3]⟩))
  ·exact .inr (.inl ⟨h1, by simp [h2], h2, by simp [h2]⟩)
 ·exact .inl ⟨by simp [h1], h1, by simp [h1]⟩
theorem row_any (S : Nat → Prop) (r : Rw) (cs : List Value) (w : World) (hr : Rep S w r cs) : Calls Try.prog 76 #[.agg cs.toArray] w fun e w' => e = .returned (.bool (rowB r)) ∧ Below w.heap.size w w' := by
  obtain ⟨ra, rp, rh, bk, ba, bn, bm, bs⟩ := r
  obtain ⟨p, v, rfl, hp, hbn, hv⟩ := rep_rw.1 hr
  simp only [Nd.kind, Nd.at, Nd.name, Nd.num, Nd.sub] at hp hbn hv ⊢
  obtain ⟨a, cap, rfl, hp1, hp2⟩ := hp.shape
  obtain ⟨av, cv, rfl, hv1, hv2⟩ := hv.shape
  have hl : rp.length ≤ 9223372036854775807 := by unfold maxLen at hp2; omega
  have hbl : bs.length ≤ 9223372036854775807 := by unfold maxLen at hv2; omega
  have E := Qiz w #[.int .i64 ra, .slice a rp.length cap, .bool rh, .int .i64 bk, .int .i64 ba, .string bn, .int .i64 bm, .slice av bs.length cv] 66
  have HP := Lib.hid hp.toC
  have HB := Lib.hid (Rep.toC _ _ ((rep_nd (t := .mk bk ba bn bm bs)).2 ⟨_, rfl, hbn, hv⟩))
  have HRES : Hid (rowB ⟨ra, rp, rh, .mk bk ba bn bm bs⟩ = (decide (rp.length ≤ 24) && rp.all patB && (if rh then Qby (.mk bk ba bn bm bs) else zeroB (.mk bk ba bn bm bs)))) := rfl
  have hbox := fun (y : Later (w.alloc (.cells #[.int .i64 ra, .slice a rp.length cap, .bool rh, .int .i64 bk, .int .i64 ba, .string bn, .int .i64 bm, .slice av bs.length cv] 66))) (j : Nat) => (cell_at (w := y.w) ((y.b.block w.heap.size (by simp)).trans E.1) j)
  have g1 : ∀ y : Later (w.alloc (.cells #[.int .i64 ra, .slice a rp.length cap, .bool rh, .int .i64 bk, .int .i64 ba, .string bn, .int .i64 bm, .slice av bs.length cv] 66)), y.w.cell? ⟨w.heap.size, 1, none⟩ = some (.slice a rp.length cap) := fun y => hbox y 1
  have g2 : ∀ y : Later (w.alloc (.cells #[.int .i64 ra, .slice a rp.length cap, .bool rh, .int .i64 bk, .int .i64 ba, .string bn, .int .i64 bm, .slice av bs.length cv] 66)), y.w.cell? ⟨w.heap.size, 2, none⟩ = some (.bool rh) := fun y => hbox y 2
  have g3 : ∀ y : Later (w.alloc (.cells #[.int .i64 ra, .slice a rp.length cap, .bool rh, .int .i64 bk, .int .i64 ba, .string bn, .int .i64 bm, .slice av bs.length cv] 66)), y.w.cell? ⟨w.heap.size, 3, none⟩ = some (.int .i64 bk) := fun y => hbox y 3
  have g4 : ∀ y : Later (w.alloc (.cells #[.int .i64 ra, .slice a rp.length cap, .bool rh, .int .i64 bk, .int .i64 ba, .string bn, .int .i64 bm, .slice av bs.length cv] 66)), y.w.cell? ⟨w.heap.size, 4, none⟩ = some (.int .i64 ba) := fun y => hbox y 4
  have g5 : ∀ y : Later (w.alloc (.cells #[.int .i64 ra, .slice a rp.length cap, .bool rh, .int .i64 bk, .int .i64 ba, .string bn, .int .i64 bm, .slice av bs.length cv] 66)), y.w.cell? ⟨w.heap.size, 5, none⟩ = some (.string bn) := fun y => hbox y 5
  have g6 : ∀ y : Later (w.alloc (.cells #[.int .i64 ra, .slice a rp.length cap, .bool rh, .int .i64 bk, .int .i64 ba, .string bn, .int .i64 bm, .slice av bs.length cv] 66)), y.w.cell? ⟨w.heap.size, 6, none⟩ = some (.int .i64 bm) := fun y => hbox y 6
  have g7 : ∀ y : Later (w.alloc (.cells #[.int .i64 ra, .slice a rp.length cap, .bool rh, .int .i64 bk, .int .i64 ba, .string bn, .int .i64 bm, .slice av bs.length cv] 66)), y.w.cell? ⟨w.heap.size, 7, none⟩ = some (.slice av bs.length cv) := fun y => hbox y 7
  have G := Lib.hid (And.intro g1 (And.intro g2 (And.intro g3 (And.intro g4 (And.intro g5 (And.intro g6 g7))))))
  have FIN : Hid (∀ y : Later (w.alloc (.cells #[.int .i64 ra, .slice a rp.length cap, .bool rh, .int .i64 bk, .int .i64 ba, .string bn, .int .i64 bm, .slice av bs.length cv] 66)), Below w.heap.size w y.w) := fun y => E.2.1.trans (y.b.mono E.2.1.size)
  have CE : Hid (∀ y : Later (w.alloc (.cells #[.int .i64 ra, .slice a rp.length cap, .bool rh, .int .i64 bk, .int .i64 ba, .string bn, .int .i64 bm, .slice av bs.length cv] 66)), Calls Try.prog 73 #[.agg #[.int .i64 bk, .int .i64 ba, .string bn, .int .i64 bm, .slice av bs.length cv]] y.w fun e w'' => e = .returned (.bool (Qby (.mk bk ba bn bm bs))) ∧ ∃ z : Later (w.alloc (.cells #[.int .i64 ra, .slice a rp.length cap, .bool rh, .int .i64 bk, .int .i64 ba, .string bn, .int .i64 bm, .slice av bs.length cv] 66)), w'' = z.w) := fun y => Calls.later y (Qkg _ _ _ (HB.out.later (FIN.out y)))
  have ZB : Hid (zeroB (.mk bk ba bn bm bs) = (bk == 0 && ba == 0 && bn.toList.isEmpty && bm == 0 && (bs.length : Int) == 0)) := rfl
  have Y0 : Hid (Below (w.alloc (.cells #[.int .i64 ra, .slice a rp.length cap, .bool rh, .int .i64 bk, .int .i64 ba, .string bn, .int .i64 bm, .slice av bs.length cv] 66)).heap.size (w.alloc (.cells #[.int .i64 ra, .slice a rp.length cap, .bool rh, .int .i64 bk, .int .i64 ba, .string bn, .int .i64 bm, .slice av bs.length cv] 66)) (w.alloc (.cells #[.int .i64 ra, .slice a rp.length cap, .bool rh, .int .i64 bk, .int .i64 ba, .string bn, .int .i64 bm, .slice av bs.length cv] 66))) := Below.refl _ _
  generalize rowB ⟨ra, rp, rh, .mk bk ba bn bm bs⟩ = res at *
  generalize Qby (.mk bk ba bn bm bs) = be at *
  generalize zeroB (.mk bk ba bn bm bs) = bz at *
  clear hr hp hp1 hp2 hv hv1 hv2 hbn E hbox g1 g2 g3 g4 g5 g6 g7
  by_cases h24 : 24 < (rp.length : Int)
  · have fin : Hid (res = false) := by show _ = _; rw [HRES.out, decide_eq_false (by omega)]; rfl
    go_enter Try.func76, Try.ntmps76
    go_wp2_with fail
    go_ret
    exact ⟨Qae fin.out.symm, FIN.out ⟨_, Y0.out⟩⟩
  · have HR2 : Hid (res = (rp.all patB && (if rh then be else bz))) := by show _ = _; rw [HRES.out, decide_eq_true (by omega)]; rfl
    go_enter Try.func76, Try.ntmps76
    go_wp2_with fail
    go_loopw [13] (fun i wr => ∃ (k : Nat) (x : Later (w.alloc (.cells #[.int .i64 ra, .slice a rp.length cap, .bool rh, .int .i64 bk, .int .i64 ba, .string bn, .int .i64 bm, .slice av bs.length cv] 66))), k ≤ rp.length ∧ i = .int .i64 k ∧ wr = x.w ∧ Hid ((rp.take k).all patB = true)) (fun i _ => rp.length - (intOf i).toNat)
    case atStart => exact ⟨0, ⟨_, Y0.out⟩, Nat.zero_le _, rfl, rfl, rfl⟩
    case round =>
      obtain ⟨k, x, hk, rfl, rfl, HA⟩ := hrel
      by_cases hlt : k < rp.length
      · obtain ⟨b, off, a', cap', rfl, e0, e1, e2, e3, e4, hts⟩ := sub_at HP.out (FIN.out x) k hlt
        have E := Qiz x.w #[.int .i64 rp[k].kind, .int .i64 rp[k].at, .string rp[k].name, .int .i64 rp[k].num, .slice a' rp[k].sub.length cap'] 31
        have CP := Lib.hid (pattern_any rp[k] _ _ (hts.later E.2.1))
        have HE := Lib.hid E
        have hstep := Qin patB rp k hlt
        rw [HA.out, Bool.true_and] at hstep
        have hno : patB rp[k] = false → res = false := fun h => by rw [HR2.out, Qhx k hlt h]; rfl
        clear E hts
        cases hp : patB rp[k] with
        | false =>
          have fin := Lib.hid (hno hp)
          rw [hp] at CP
          clear hp hno hstep
          go_wp2_with fail
          refine CP.out.mono ?_
          rintro e w2 ⟨rfl, hb2⟩
          go_wp2_with fail
          go_ret
          exact ⟨Qae fin.out.symm, (FIN.out x).trans ((HE.out.2.1.trans (hb2.mono HE.out.2.1.size)).mono (FIN.out x).size)⟩
        | true =>
          rw [hp] at CP hstep
          have HA2 := Lib.hid hstep
          clear hp hno hstep
          go_wp2_with fail
          refine CP.out.mono ?_
          rintro e w2 ⟨rfl, hb2⟩
          go_wp2_with fail
          have hx2 := x.b.trans ((HE.out.2.1.trans (hb2.mono HE.out.2.1.size)).mono x.b.size)
          clear hb2
          go_roundw
          case rel => exact ⟨k + 1, ⟨_, hx2⟩, by omega, by go_num, rfl, HA2⟩
          case measure => simp [intOf]; omega
      · obtain rfl : k = rp.length := by omega
        rw [List.take_length] at HA
        have HR3 : Hid (res = (if rh then be else bz)) := by show _ = _; rw [HR2.out, HA.out]; rfl
        obtain ⟨g1, g2, g3, g4, g5, g6, g7⟩ := G.out
        have q1 := g1 x
        have q2 := g2 x
        have q3 := g3 x
        have q4 := g4 x
        have q5 := g5 x
        have q6 := g6 x
        have q7 := g7 x
        clear g1 g2 g3 g4 g5 g6 g7
        cases rh with
        | true =>
          have fin : Hid (res = be) := HR3.out
          go_wp2_with fail
          refine (CE.out x).mono ?_
          rintro e w2 ⟨rfl, ⟨y2, rfl⟩⟩
          go_wp2_with fail
          go_ret
          exact ⟨Qae fin.out.symm, FIN.out y2⟩
        | false =>
          have fin : Hid (res = bz) := HR3.out
          have HXB := Lib.hid (FIN.out x)
          have hz := zero_cases bk ba bm bs.length bn bz ZB.out
          clear CE HB
          rcases hz with ⟨z1, z2, rfl⟩ | ⟨rfl, z1, z2, rfl⟩ | ⟨rfl, rfl, z1, z2, rfl⟩ | ⟨rfl, rfl, z1, z2, z3, z4, rfl⟩ | ⟨rfl, rfl, z1, z2, rfl, z3⟩
          all_goals
            go_wp2_with fail
            go_ret
            first
              | exact ⟨Qae fin.out.symm, HXB.out.alloc HXB.out.size _⟩
              | exact ⟨Qae (z1.trans fin.out.symm), HXB.out.alloc HXB.out.size _⟩
              | exact ⟨Qae (z2.trans fin.out.symm), HXB.out.alloc HXB.out.size _⟩
              | exact ⟨Qae (z3.trans fin.out.symm), HXB.out.alloc HXB.out.size _⟩
              | exact ⟨Qae (z3.symm.trans fin.out.symm), HXB.out.alloc HXB.out.size _⟩
end Go.Proofs.Ytahhgpafjiljfaa

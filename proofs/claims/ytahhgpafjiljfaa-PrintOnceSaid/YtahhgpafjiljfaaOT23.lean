import Derived.Test.YtahhgpafjiljfaaOBD
import Derived.Test.YtahhgpafjiljfaaOT8
import Derived.Test.YtahhgpafjiljfaaOQ0
set_option linter.unusedSimpArgs false
set_option linter.unusedVariables false
set_option maxHeartbeats 16000000
set_option maxRecDepth 100000
namespace Go.Proofs.Ytahhgpafjiljfaa
open Go.RowKit
theorem bd_at {S : Nat → Prop} {w : World} {l : List Bd} {ad : Option Addr} {len cap : Nat} (h : RepS S w (.slice ad len cap) l) (k : Nat) (hk : k < l.length) : ∃ b off a n c, ad = some ⟨b, off, none⟩ ∧ w.cell? ⟨b, off + k * 7, none⟩ = some (.string l[k].name) ∧ w.cell? ⟨b, off + k * 7 + 1, none⟩ = some (.int .i64 l[k].at_) ∧ w.cell? ⟨b, off + k * 7 + 2, none⟩ = some (.int .i64 l[k].ty.kind) ∧ w.cell? ⟨b, off + k * 7 + 3, none⟩ = some (.int .i64 l[k].ty.at) ∧ w.cell? ⟨b, off + k * 7 + 4, none⟩ = some (.string l[k].ty.name) ∧ w.cell? ⟨b, off + k * 7 + 5, none⟩ = some (.int .i64 l[k].ty.num) ∧ w.cell? ⟨b, off + k * 7 + 6, none⟩ = some (.slice a n c) ∧ l[k].name.size ≤ maxLen ∧ Rep S w l[k].ty [.int .i64 l[k].ty.kind, .int .i64 l[k].ty.at, .string l[k].ty.name, .int .i64 l[k].ty.num, .slice a n c] := by
 obtain ⟨b, off, cs, h1, _, _, h4, h5⟩ := h.at k hk
 obtain ⟨v, rfl, h6, h7, h8⟩ := rep_bd.1 h4
 obtain ⟨a, n, c, rfl⟩ := h8.form
 exact ⟨b, off, a, n, c, h1, h5 0 _ rfl, h5 1 _ rfl, h5 2 _ rfl, h5 3 _ rfl, h5 4 _ rfl, h5 5 _ rfl, h5 6 _ rfl, h6, rep_nd.2 ⟨_, rfl, h7, h8⟩⟩
def Qcp (b : Bd) : Bool := Qaj b.name && Qby b.ty
def Qcb (l : List Bd) (most : Int) : Bool := decide ((l.length : Int) ≤ most) && l.all Qcp
theorem Qin {α : Type} (p : α → Bool) (l : List α) (k : Nat) (h : k < l.length) : (l.take (k + 1)).all p = ((l.take k).all p && p l[k]) := by
 rw [List.take_succ_eq_append_getElem h, List.all_append]; simp only [List.all_cons, List.all_nil, Bool.and_true]
theorem Qhx {α : Type} {p : α → Bool} {l : List α} (k : Nat) (h : k < l.length) (hp : p l[k] = false) : l.all p = false := by
 rw [List.all_eq_false]; exact ⟨_, List.getElem_mem h, by rw [hp]; simp⟩
theorem binds_any (S : Nat → Prop) (l : List Bd) (v : Value) (most : Int) (w : World) (hm : 0 ≤ most) (hv : RepS S w v l) : Calls Try.prog 75 #[v, .int .i64 most] w fun e w' => e = .returned (.bool (Qcb l most)) ∧ Below w.heap.size w w' := by
 obtain ⟨a, cap, rfl, h1, h2⟩ := hv.shape
 have hl : l.length ≤ 9223372036854775807 := by unfold maxLen at h2; omega
 have HV := Lib.hid hv
 have HRES : Hid (Qcb l most = (decide ((l.length : Int) ≤ most) && l.all Qcp)) := rfl
 generalize Qcb l most = res at *
 clear hv h1 h2
 go_enter Try.func75, Try.ntmps75
 go_wp2_with fail
 go_loopw [9] (fun i wr => ∃ (k : Nat) (x : Later w), k ≤ l.length ∧ i = .int .i64 k ∧ wr = x.w ∧ Hid ((l.take k).all Qcp = true) ∧ Hid (0 < k → (l.length : Int) ≤ most)) (fun i _ => l.length - (intOf i).toNat)
 case atStart => exact ⟨0, ⟨w, Below.refl _ _⟩, Nat.zero_le _, rfl, rfl, rfl, fun h => absurd h (Nat.lt_irrefl _)⟩
 case round =>
  obtain ⟨k, x, hk, rfl, rfl, HA, HM⟩ := hrel
  by_cases hlt : k < l.length
  ·obtain ⟨b, off, a', n', c', rfl, e0, e1, e2, e3, e4, e5, e6, hns, hty⟩ := bd_at (HV.out.later x.b) k hlt
   have E := Qiz x.w #[.string l[k].name, .int .i64 l[k].at_, .int .i64 l[k].ty.kind, .int .i64 l[k].ty.at, .string l[k].ty.name, .int .i64 l[k].ty.num, .slice a' n' c'] 109
   have hno : (decide ((l.length : Int) ≤ most) && Qcp l[k]) = false → res = false := fun h => by
    rw [HRES.out]
    cases hd : decide ((l.length : Int) ≤ most) with
    | false => rfl
    | true => rw [hd, Bool.true_and] at h; rw [Qhx k hlt h]; rfl
   have NO := Lib.hid hno
   have CR : Hid (∀ y : Later (x.w.alloc (.cells #[.string l[k].name, .int .i64 l[k].at_, .int .i64 l[k].ty.kind, .int .i64 l[k].ty.at, .string l[k].ty.name, .int .i64 l[k].ty.num, .slice a' n' c'] 109)), Calls Try.prog 69 #[.string l[k].name] y.w fun e w'' => e = .returned (.bool (Qaj l[k].name)) ∧ ∃ z : Later (x.w.alloc (.cells #[.string l[k].name, .int .i64 l[k].at_, .int .i64 l[k].ty.kind, .int .i64 l[k].ty.at, .string l[k].ty.name, .int .i64 l[k].ty.num, .slice a' n' c'] 109)), w'' = z.w) := fun y => Calls.later y (Qis _ hns _)
   have CE : Hid (∀ y : Later (x.w.alloc (.cells #[.string l[k].name, .int .i64 l[k].at_, .int .i64 l[k].ty.kind, .int .i64 l[k].ty.at, .string l[k].ty.name, .int .i64 l[k].ty.num, .slice a' n' c'] 109)), Calls Try.prog 73 #[.agg #[.int .i64 l[k].ty.kind, .int .i64 l[k].ty.at, .string l[k].ty.name, .int .i64 l[k].ty.num, .slice a' n' c']] y.w fun e w'' => e = .returned (.bool (Qby l[k].ty)) ∧ ∃ z : Later (x.w.alloc (.cells #[.string l[k].name, .int .i64 l[k].at_, .int .i64 l[k].ty.kind, .int .i64 l[k].ty.at, .string l[k].ty.name, .int .i64 l[k].ty.num, .slice a' n' c'] 109)), w'' = z.w) := fun y => Calls.later y (Qkg _ _ _ (Rep.toC _ _ ((hty.later E.2.1).later y.b)))
   have hbox := fun (y : Later (x.w.alloc (.cells #[.string l[k].name, .int .i64 l[k].at_, .int .i64 l[k].ty.kind, .int .i64 l[k].ty.at, .string l[k].ty.name, .int .i64 l[k].ty.num, .slice a' n' c'] 109))) (j : Nat) => (cell_at (w := y.w) ((y.b.block x.w.heap.size (by simp)).trans E.1) j)
   have g0 : ∀ y : Later (x.w.alloc (.cells #[.string l[k].name, .int .i64 l[k].at_, .int .i64 l[k].ty.kind, .int .i64 l[k].ty.at, .string l[k].ty.name, .int .i64 l[k].ty.num, .slice a' n' c'] 109)), y.w.cell? ⟨x.w.heap.size, 0, none⟩ = some (.string l[k].name) := fun y => hbox y 0
   have g2 : ∀ y : Later (x.w.alloc (.cells #[.string l[k].name, .int .i64 l[k].at_, .int .i64 l[k].ty.kind, .int .i64 l[k].ty.at, .string l[k].ty.name, .int .i64 l[k].ty.num, .slice a' n' c'] 109)), y.w.cell? ⟨x.w.heap.size, 2, none⟩ = some (.int .i64 l[k].ty.kind) := fun y => hbox y 2
   have g3 : ∀ y : Later (x.w.alloc (.cells #[.string l[k].name, .int .i64 l[k].at_, .int .i64 l[k].ty.kind, .int .i64 l[k].ty.at, .string l[k].ty.name, .int .i64 l[k].ty.num, .slice a' n' c'] 109)), y.w.cell? ⟨x.w.heap.size, 3, none⟩ = some (.int .i64 l[k].ty.at) := fun y => hbox y 3
   have g4 : ∀ y : Later (x.w.alloc (.cells #[.string l[k].name, .int .i64 l[k].at_, .int .i64 l[k].ty.kind, .int .i64 l[k].ty.at, .string l[k].ty.name, .int .i64 l[k].ty.num, .slice a' n' c'] 109)), y.w.cell? ⟨x.w.heap.size, 4, none⟩ = some (.string l[k].ty.name) := fun y => hbox y 4
   have g5 : ∀ y : Later (x.w.alloc (.cells #[.string l[k].name, .int .i64 l[k].at_, .int .i64 l[k].ty.kind, .int .i64 l[k].ty.at, .string l[k].ty.name, .int .i64 l[k].ty.num, .slice a' n' c'] 109)), y.w.cell? ⟨x.w.heap.size, 5, none⟩ = some (.int .i64 l[k].ty.num) := fun y => hbox y 5
   have g6 : ∀ y : Later (x.w.alloc (.cells #[.string l[k].name, .int .i64 l[k].at_, .int .i64 l[k].ty.kind, .int .i64 l[k].ty.at, .string l[k].ty.name, .int .i64 l[k].ty.num, .slice a' n' c'] 109)), y.w.cell? ⟨x.w.heap.size, 6, none⟩ = some (.slice a' n' c') := fun y => hbox y 6
   have hstep := Qin Qcp l k hlt
   rw [HA.out, Bool.true_and] at hstep
   have FIN : Hid (∀ y : Later (x.w.alloc (.cells #[.string l[k].name, .int .i64 l[k].at_, .int .i64 l[k].ty.kind, .int .i64 l[k].ty.at, .string l[k].ty.name, .int .i64 l[k].ty.num, .slice a' n' c'] 109)), Below w.heap.size w y.w) := fun y => (x.b.trans (E.2.1.mono x.b.size)).trans (y.b.mono (Nat.le_trans x.b.size E.2.1.size))
   have Y0 : Hid (Below (x.w.alloc (.cells #[.string l[k].name, .int .i64 l[k].at_, .int .i64 l[k].ty.kind, .int .i64 l[k].ty.at, .string l[k].ty.name, .int .i64 l[k].ty.num, .slice a' n' c'] 109)).heap.size (x.w.alloc (.cells #[.string l[k].name, .int .i64 l[k].at_, .int .i64 l[k].ty.kind, .int .i64 l[k].ty.at, .string l[k].ty.name, .int .i64 l[k].ty.num, .slice a' n' c'] 109)) (x.w.alloc (.cells #[.string l[k].name, .int .i64 l[k].at_, .int .i64 l[k].ty.kind, .int .i64 l[k].ty.at, .string l[k].ty.name, .int .i64 l[k].ty.num, .slice a' n' c'] 109))) := Below.refl _ _
   have BD : Hid (Qcp l[k] = (Qaj l[k].name && Qby l[k].ty)) := rfl
   have HS := Lib.hid hstep
   clear hbox E hty hno hstep
   generalize Qcp l[k] = bb at *
   generalize Qaj l[k].name = br at *
   generalize Qby l[k].ty = be at *
   rcases (show most < (l.length : Int) ∨ ((l.length : Int) ≤ most ∧ br = false) ∨ ((l.length : Int) ≤ most ∧ br = true ∧ be = false) ∨ ((l.length : Int) ≤ most ∧ br = true ∧ be = true) by
    by_cases h : most < (l.length : Int)
    ·exact .inl h
    ·cases br
     ·exact .inr (.inl ⟨by omega, rfl⟩)
     ·cases be
      ·exact .inr (.inr (.inl ⟨by omega, rfl, rfl⟩))
      ·exact .inr (.inr (.inr ⟨by omega, rfl, rfl⟩))) with hgt | ⟨hle, rfl⟩ | ⟨hle, rfl, rfl⟩ | ⟨hle, rfl, rfl⟩
   ·have fin := Lib.hid (NO.out (by rw [decide_eq_false (by omega)]; rfl))
    go_wp2_with fail
    go_ret
    exact ⟨Qae fin.out.symm, FIN.out ⟨_, Y0.out⟩⟩
   ·have fin := Lib.hid (NO.out (by rw [BD.out]; simp))
    go_wp2_with fail
    refine (CR.out ⟨_, Y0.out⟩).mono ?_
    rintro e w2 ⟨rfl, ⟨y2, rfl⟩⟩
    go_wp2_with fail
    go_ret
    exact ⟨Qae fin.out.symm, FIN.out y2⟩
   ·have fin := Lib.hid (NO.out (by rw [BD.out]; simp))
    go_wp2_with fail
    refine (CR.out ⟨_, Y0.out⟩).mono ?_
    rintro e w2 ⟨rfl, ⟨y2, rfl⟩⟩
    go_wp2_with fail
    refine (CE.out y2).mono ?_
    rintro e w3 ⟨rfl, ⟨y3, rfl⟩⟩
    go_wp2_with fail
    go_ret
    exact ⟨Qae fin.out.symm, FIN.out y3⟩
   ·have HA2 : Hid ((l.take (k + 1)).all Qcp = true) := by show _ = _; rw [HS.out, BD.out]; rfl
    have HLE := Lib.hid hle
    go_wp2_with fail
    refine (CR.out ⟨_, Y0.out⟩).mono ?_
    rintro e w2 ⟨rfl, ⟨y2, rfl⟩⟩
    go_wp2_with fail
    refine (CE.out y2).mono ?_
    rintro e w3 ⟨rfl, ⟨y3, rfl⟩⟩
    go_wp2_with fail
    go_roundw
    case rel => exact ⟨k + 1, ⟨_, FIN.out y3⟩, by omega, by go_num, rfl, HA2, Lib.hid (show 0 < k + 1 → (l.length : Int) ≤ most from fun _ => HLE.out)⟩
    case measure => simp [intOf]; omega
  ·obtain rfl : k = l.length := by omega
   rw [List.take_length] at HA
   have fin : Hid (res = true) := by
    show _ = _
    rw [HRES.out, HA.out, Bool.and_true]
    refine decide_eq_true ?_
    by_cases h0 : 0 < l.length
    ·exact HM.out h0
    ·omega
   have HX := Lib.hid x.b
   go_wp2_with fail
   go_ret
   exact ⟨Qae fin.out.symm, HX.out⟩
end Go.Proofs.Ytahhgpafjiljfaa

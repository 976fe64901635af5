import Derived.Test.YtffgfjnbgplckaaT3
import Derived.Test.YtffgfjnbgplckaaT6
import Derived.Test.YtffgfjnbgplckaaBNd
namespace Go.Proofs.Ytffgfjnbgplckaa
open Go.RowKit
def exprB (t : Nd) : Bool := smallB t && goodT t false
def patB (t : Nd) : Bool := smallB t && goodT t true
def sameB (t u : Nd) : Bool := smallB t && smallB u && eqT t u
set_option maxRecDepth 100000 in
set_option maxHeartbeats 4000000 in
theorem of_any (t : Nd) (cs : List Value) (w : World) (ht : NdC w t cs) :
    Calls Try.prog 12 #[.agg cs.toArray] w fun e w' => ∃ v, e = .returned (.tuple #[.agg #[.int .i64 t.kind, .int .i64 t.at, .string t.name, .int .i64 t.num, v], .bool (okN t)]) ∧ RepS (fun b => w.heap.size ≤ b) w' v (budT t 1000).1.sub ∧ Below w.heap.size w w' := by
  obtain ⟨a, cap, rfl, hsub, hlen, hnsa⟩ := nd_open ht
  have E := boxes2 w #[.int .i64 t.kind, .int .i64 t.at, .string t.name, .int .i64 t.num, .slice a t.sub.length cap] #[.int .i64 0, .int .i64 0, .string ByteArray.empty, .int .i64 0, .slice none 0 0] 24 27
  have BU := Lib.hid (budget_any t _ 1000 _ (by omega) (by omega) (ht.later E.2.2.1))
  have HE := Lib.hid E
  have fin : Hid (decide (-8900 < (budT t 1000).2) = okN t) := rfl
  clear hsub hlen ht E
  generalize (budT t 1000).1.sub = R at *
  generalize (budT t 1000).2 = X at *
  generalize okN t = ok at *
  go_enter Try.func12, Try.ntmps12
  go_wp2_with ((go_at_call 47; refine BU.out.mono ?_; rintro e w1 ⟨v1, rfl, hrep, hb1⟩; obtain ⟨a1, n1, c1, rfl⟩ := hrep.form; have q2 := Lib.hid ((show Box5 _ _ _ _ _ _ _ _ from HE.out.2.1).later (hb1.alloc hb1.size (.cells #[.int .i64 t.kind, .int .i64 t.at, .string t.name, .int .i64 t.num, .slice a1 n1 c1] 27)) (by have := HE.out.2.2.2; omega)); obtain ⟨d0, d1, d2, d3, d4⟩ := q2.out.cells; have f0 := q2.out.free 0; have f1 := q2.out.free 1; have f2 := q2.out.free 2; have f3 := q2.out.free 3; have f4 := q2.out.free 4; replace hrep := Lib.hid hrep; replace hb1 := Lib.hid hb1))
  have hw2 : Below w.heap.size w (w1.alloc (.cells #[.int .i64 t.kind, .int .i64 t.at, .string t.name, .int .i64 t.num, .slice a1 n1 c1] 27)) := HE.out.2.2.1.trans ((hb1.out.mono HE.out.2.2.1.size).alloc (Nat.le_trans HE.out.2.2.1.size hb1.out.size) _)
  have hres : RepS (fun b => w.heap.size ≤ b) (set5 (w1.alloc (.cells #[.int .i64 t.kind, .int .i64 t.at, .string t.name, .int .i64 t.num, .slice a1 n1 c1] 27)) (w.heap.size + 1) (.int .i64 t.kind) (.int .i64 t.at) (.string t.name) (.int .i64 t.num) (.slice a1 n1 c1)) (.slice a1 n1 c1) R := by
    refine RepS.move (fun b hb hl => ⟨?_, ?_⟩) hrep.out
    · have := HE.out.2.2.2; omega
    · rw [set5_heap _ _ _ _ _ _ _ _ (by have := HE.out.2.2.2; omega)]; exact Below.heap_alloc _ _ _ hl
  exact bodyPost_ret (v := .tuple #[.agg #[.int .i64 t.kind, .int .i64 t.at, .string t.name, .int .i64 t.num, .slice a1 n1 c1], .bool (decide (-8900 < X))]) (by simp [results, Try.results12, go_sem, d0, d1, d2, d3, d4]) rfl ⟨_, by rw [fin.out], hres, set5_below hw2 (by omega) _ _ _ _ _⟩
/-- a node as the document's, where it is not very great -/
theorem of_yes {w : World} {t : Nd} {v : Value} {S : Nat → Prop} (h : okN t = true) (hn : t.name.size ≤ maxLen) (hr : RepS S w v (budT t 1000).1.sub) : NdC w t [.int .i64 t.kind, .int .i64 t.at, .string t.name, .int .i64 t.num, v] := by
  rw [(ok_same h).1] at hr
  exact Rep.toC _ _ (rep_nd.2 ⟨v, rfl, hn, hr⟩)
set_option maxHeartbeats 4000000 in
theorem expr_any (t : Nd) (cs : List Value) (w : World) (ht : NdC w t cs) : Calls Try.prog 16 #[.agg cs.toArray] w fun e w' => e = .returned (.bool (exprB t)) ∧ Below w.heap.size w w' := by
  obtain ⟨a, cap, rfl, hsub, hlen, hnsa⟩ := nd_open ht
  have E := boxes1 w #[.int .i64 t.kind, .int .i64 t.at, .string t.name, .int .i64 t.num, .slice a t.sub.length cap] 24
  have ht2 := ht.later E.2.1
  have HT2 := Lib.hid ht2
  have SM := Lib.hid (small_any t _ _ ht2)
  have HE := Lib.hid E
  have fin : Hid (exprB t = (smallB t && goodT t false)) := rfl
  clear hsub hlen ht ht2 E
  generalize exprB t = r at *
  cases hs : smallB t with
  | false =>
    rw [hs] at SM fin
    clear hs
    go_enter Try.func16, Try.ntmps16
    go_wp2_with ((go_at_call 48; refine SM.out.mono ?_; rintro e w1 ⟨rfl, hb1⟩))
    go_ret
    exact ⟨ret_bool fin.out.symm, HE.out.2.1.trans (hb1.mono HE.out.2.1.size)⟩
  | true =>
    rw [hs] at SM fin
    clear hs
    go_enter Try.func16, Try.ntmps16
    go_wp2_with (first | (go_at_call 48; refine SM.out.mono ?_; rintro e w1 ⟨rfl, hb1⟩; obtain ⟨d0, d1, d2, d3, d4⟩ := (show Box5 _ _ _ _ _ _ _ _ from HE.out.1).later hb1 (by have := HE.out.2.2; omega) |>.cells; have HB1 := Lib.hid hb1; clear hb1) | (go_at_call 51; refine (good_any t _ _ _ (HT2.out.later HB1.out)).mono ?_; rintro e w2 ⟨rfl, hb2⟩))
    go_ret
    exact ⟨ret_bool fin.out.symm, HE.out.2.1.trans ((HB1.out.trans (hb2.mono HB1.out.size)).mono HE.out.2.1.size)⟩
end Go.Proofs.Ytffgfjnbgplckaa

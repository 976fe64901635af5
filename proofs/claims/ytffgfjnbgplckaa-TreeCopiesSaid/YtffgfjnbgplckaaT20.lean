import Derived.Test.YtffgfjnbgplckaaT19
import Derived.Test.YtffgfjnbgplckaaT15
namespace Go.Proofs.Ytffgfjnbgplckaa
open Go.RowKit
set_option maxRecDepth 100000 in
set_option maxHeartbeats 4000000 in
theorem copy_yes (t : Nd) (cs : List Value) (w : World) (hs : smallB t = true) (ht : NdC w t cs) : Calls Try.prog 24 #[.agg cs.toArray] w fun e w' => ∃ v, e = .returned (.agg #[.int .i64 t.kind, .int .i64 t.at, .string t.name, .int .i64 t.num, v]) ∧ RepS (fun b => w.heap.size ≤ b ∧ Unf w' b) w' v t.sub ∧ Below w.heap.size w w' := by
  obtain ⟨a, cap, rfl, hsub, hlen, hnsa⟩ := nd_open ht
  have E := boxes2 w #[.int .i64 t.kind, .int .i64 t.at, .string t.name, .int .i64 t.num, .slice a t.sub.length cap] #[.int .i64 0, .int .i64 0, .string ByteArray.empty, .int .i64 0, .slice none 0 0] 24 24
  have ht2 := ht.later E.2.2.1
  have HT2 := Lib.hid ht2
  have SM := small_any t _ _ ht2
  rw [hs] at SM
  replace SM := Lib.hid SM
  have HE := Lib.hid E
  have HN := Lib.hid (small_nd hs)
  clear hsub hlen ht ht2 E hs
  go_enter Try.func24, Try.ntmps24
  go_wp2_with fail
  refine SM.out.mono ?_
  rintro e w1 ⟨rfl, hb1⟩
  obtain ⟨d0, d1, d2, d3, d4⟩ := (show Box5 _ _ _ _ _ _ _ _ from HE.out.1).later hb1 (by have := HE.out.2.2.2; omega) |>.cells
  have HB1 := Lib.hid hb1
  clear hb1
  go_wp2_with fail
  refine (cloned2_any t _ _ HN.out (HT2.out.later HB1.out)).mono ?_
  rintro e w2 ⟨v, rfl, hr, hb2⟩
  obtain ⟨a1, n1, c1, rfl⟩ := hr.form
  have hb12 := HB1.out.trans (hb2.mono HB1.out.size)
  have q := (show Box5 _ _ _ _ _ _ _ _ from HE.out.2.1).later hb12 (by have := HE.out.2.2.2; omega)
  obtain ⟨g0, g1, g2, g3, g4⟩ := q.cells
  have f0 := q.free 0
  have f1 := q.free 1
  have f2 := q.free 2
  have f3 := q.free 3
  have f4 := q.free 4
  have HR := Lib.hid hr
  have HB12 := Lib.hid hb12
  clear d0 d1 d2 d3 d4 hr hb2 hb12 q
  go_wp2_with fail
  have hz := HE.out.2.2.2
  have hz1 := HB1.out.size
  have hres : RepS (fun b => w.heap.size ≤ b ∧ Unf (set5 w2 (w.heap.size + 1) (.int .i64 t.kind) (.int .i64 t.at) (.string t.name) (.int .i64 t.num) (.slice a1 n1 c1)) b) (set5 w2 (w.heap.size + 1) (.int .i64 t.kind) (.int .i64 t.at) (.string t.name) (.int .i64 t.num) (.slice a1 n1 c1)) (.slice a1 n1 c1) t.sub :=
    RepS.move (fun b hb _ => by
      have e : (set5 w2 (w.heap.size + 1) (.int .i64 t.kind) (.int .i64 t.at) (.string t.name) (.int .i64 t.num) (.slice a1 n1 c1)).heap[b]? = w2.heap[b]? := set5_heap _ _ _ _ _ _ _ _ (by have := hb.1; omega)
      exact ⟨⟨by have := hb.1; omega, unf_block e hb.2⟩, e⟩) HR.out
  exact bodyPost_ret (v := .agg #[.int .i64 t.kind, .int .i64 t.at, .string t.name, .int .i64 t.num, .slice a1 n1 c1]) (by simp [results, Try.results24, go_sem, g0, g1, g2, g3, g4]) rfl ⟨_, rfl, hres, set5_below (HE.out.2.2.1.trans (HB12.out.mono HE.out.2.2.1.size)) (by omega) _ _ _ _ _⟩
set_option maxRecDepth 100000 in
set_option maxHeartbeats 4000000 in
theorem copy_no (t : Nd) (cs : List Value) (w : World) (hs : smallB t = false) (ht : NdC w t cs) : Calls Try.prog 24 #[.agg cs.toArray] w fun e w' => e = .returned (.agg #[.int .i64 0, .int .i64 0, .string ⟨#[]⟩, .int .i64 0, .slice none 0 0]) ∧ Below w.heap.size w w' := by
  obtain ⟨a, cap, rfl, hsub, hlen, hnsa⟩ := nd_open ht
  have E := boxes2 w #[.int .i64 t.kind, .int .i64 t.at, .string t.name, .int .i64 t.num, .slice a t.sub.length cap] #[.int .i64 0, .int .i64 0, .string ByteArray.empty, .int .i64 0, .slice none 0 0] 24 24
  have SM := small_any t _ _ (ht.later E.2.2.1)
  rw [hs] at SM
  replace SM := Lib.hid SM
  have HE := Lib.hid E
  clear hsub hlen ht E hs
  go_enter Try.func24, Try.ntmps24
  go_wp2_with fail
  refine SM.out.mono ?_
  rintro e w1 ⟨rfl, hb1⟩
  have q := (show Box5 _ _ _ _ _ _ _ _ from HE.out.2.1).later hb1 (by have := HE.out.2.2.2; omega)
  obtain ⟨g0, g1, g2, g3, g4⟩ := q.cells
  have f0 := q.free 0
  have f1 := q.free 1
  have f2 := q.free 2
  have f3 := q.free 3
  have f4 := q.free 4
  have HB1 := Lib.hid hb1
  clear hb1 q
  go_wp2_with fail
  exact bodyPost_ret (v := .agg #[.int .i64 0, .int .i64 0, .string ⟨#[]⟩, .int .i64 0, .slice none 0 0]) (by simp [results, Try.results24, go_sem, g0, g1, g2, g3, g4]) rfl ⟨rfl, set5_below (HE.out.2.2.1.trans (HB1.out.mono HE.out.2.2.1.size)) (by omega) _ _ _ _ _⟩
mutual
/-- a node's shape: where its cells lie; the numbers may be any -/
def ShT (S : Nat → Prop) (w : World) : Nd → Value → Prop
  | .mk _ _ _ _ sub, v => ∃ a cap, v = .slice a sub.length cap ∧ sub.length ≤ maxLen ∧ (sub ≠ [] → ∃ b off, a = some ⟨b, off, none⟩ ∧ S b ∧ ShE S w b off 0 sub)
def ShE (S : Nat → Prop) (w : World) (b off : Nat) : Nat → List Nd → Prop
  | _, [] => True
  | i, t :: ts => (∃ k at_ n : Int, ∃ s : ByteArray, ∃ u, w.cell? ⟨b, off + i * 5, none⟩ = some (.int .i64 k) ∧ w.cell? ⟨b, off + i * 5 + 1, none⟩ = some (.int .i64 at_) ∧ w.cell? ⟨b, off + i * 5 + 2, none⟩ = some (.string s) ∧ w.cell? ⟨b, off + i * 5 + 3, none⟩ = some (.int .i64 n) ∧ w.cell? ⟨b, off + i * 5 + 4, none⟩ = some u ∧ ShT S w t u) ∧ ShE S w b off (i + 1) ts
end
theorem ShE.get {S : Nat → Prop} {w : World} {b off : Nat} : ∀ {ts : List Nd} {i : Nat}, ShE S w b off i ts → ∀ (j : Nat) (h : j < ts.length), ∃ k at_ n : Int, ∃ s : ByteArray, ∃ u, w.cell? ⟨b, off + (i + j) * 5, none⟩ = some (.int .i64 k) ∧ w.cell? ⟨b, off + (i + j) * 5 + 1, none⟩ = some (.int .i64 at_) ∧ w.cell? ⟨b, off + (i + j) * 5 + 2, none⟩ = some (.string s) ∧ w.cell? ⟨b, off + (i + j) * 5 + 3, none⟩ = some (.int .i64 n) ∧ w.cell? ⟨b, off + (i + j) * 5 + 4, none⟩ = some u ∧ ShT S w ts[j] u := by
  intro ts
  induction ts with
  | nil => intro i _ j h; simp at h
  | cons t ts ih =>
    intro i h j hj
    simp only [ShE] at h
    cases j with
    | zero => exact h.1
    | succ j =>
      have := ih h.2 j (by simpa using hj)
      rw [show i + 1 + j = i + (j + 1) by omega] at this
      exact this
theorem ShE.mk {S : Nat → Prop} {w : World} {b off : Nat} : ∀ {ts : List Nd} {i : Nat}, (∀ (j : Nat) (h : j < ts.length), ∃ k at_ n : Int, ∃ s : ByteArray, ∃ u, w.cell? ⟨b, off + (i + j) * 5, none⟩ = some (.int .i64 k) ∧ w.cell? ⟨b, off + (i + j) * 5 + 1, none⟩ = some (.int .i64 at_) ∧ w.cell? ⟨b, off + (i + j) * 5 + 2, none⟩ = some (.string s) ∧ w.cell? ⟨b, off + (i + j) * 5 + 3, none⟩ = some (.int .i64 n) ∧ w.cell? ⟨b, off + (i + j) * 5 + 4, none⟩ = some u ∧ ShT S w ts[j] u) → ShE S w b off i ts := by
  intro ts
  induction ts with
  | nil => intro i _; simp only [ShE]
  | cons t ts ih =>
    intro i h
    simp only [ShE]
    refine ⟨h 0 (by simp), ih fun j hj => ?_⟩
    have := h (j + 1) (by simpa using hj)
    rw [show i + (j + 1) = i + 1 + j by omega] at this
    exact this
/-- shapes stay where each number stays a number and all else stays -/
theorem ShT.keep {S : Nat → Prop} {w w' : World} (h1 : ∀ b o n, S b → w.cell? ⟨b, o, none⟩ = some (.int .i64 n) → ∃ m, w'.cell? ⟨b, o, none⟩ = some (.int .i64 m)) (h2 : ∀ b o v, S b → w.cell? ⟨b, o, none⟩ = some v → (∀ n, v ≠ .int .i64 n) → w'.cell? ⟨b, o, none⟩ = some v) : ∀ (t : Nd) (v : Value), ShT S w t v → ShT S w' t v := by
  refine Nd.ind ?_
  intro k a s n sub ih v h
  simp only [ShT] at h ⊢
  obtain ⟨ad, cap, rfl, hm, hc⟩ := h
  refine ⟨ad, cap, rfl, hm, fun hne => ?_⟩
  obtain ⟨b, off, rfl, hS, hE⟩ := hc hne
  refine ⟨b, off, rfl, hS, ShE.mk fun j hj => ?_⟩
  obtain ⟨k', a', n', s', u, e0, e1, e2, e3, e4, e5⟩ := hE.get j hj
  obtain ⟨k2, g0⟩ := h1 _ _ _ hS e0
  obtain ⟨a2, g1⟩ := h1 _ _ _ hS e1
  obtain ⟨n2, g3⟩ := h1 _ _ _ hS e3
  have hu : ∀ q, u ≠ .int .i64 q := by
    intro q e
    subst e
    cases hsj : sub[j] with
    | mk _ _ _ _ _ => rw [hsj] at e5; simp only [ShT] at e5; obtain ⟨_, _, e, _⟩ := e5; cases e
  exact ⟨k2, a2, n2, s', u, g0, g1, h2 _ _ _ hS e2 (fun q e => by cases e), g3, h2 _ _ _ hS e4 hu, ih _ (List.getElem_mem hj) _ e5⟩
theorem RepS.shape5 {S : Nat → Prop} {w : World} : ∀ (t : Nd) (v : Value), RepS S w v t.sub → ShT S w t v := by
  refine Nd.ind ?_
  intro k a s n sub ih v h
  simp only [Nd.sub] at h
  simp only [ShT]
  obtain ⟨ad, cap, rfl, h1, h2⟩ := h.shape
  refine ⟨ad, cap, rfl, by omega, fun hne => ?_⟩
  obtain ⟨b0, off0, cs0, rfl, hS0, _, _, _⟩ := h.at 0 (List.length_pos_iff.2 hne)
  refine ⟨b0, off0, rfl, hS0, ShE.mk fun j hj => ?_⟩
  obtain ⟨b, off, cs, e, _, _, hr, hc⟩ := h.at j hj
  simp at e
  obtain ⟨rfl, rfl⟩ := e
  obtain ⟨u, rfl, _, hu⟩ := rep_nd.1 hr
  have c0 := hc 0 _ rfl
  have c1 := hc 1 _ rfl
  have c2 := hc 2 _ rfl
  have c3 := hc 3 _ rfl
  have c4 := hc 4 _ rfl
  rw [Nat.zero_add]
  exact ⟨_, _, _, _, u, c0, c1, c2, c3, c4, ih _ (List.getElem_mem hj) u hu⟩
end Go.Proofs.Ytffgfjnbgplckaa

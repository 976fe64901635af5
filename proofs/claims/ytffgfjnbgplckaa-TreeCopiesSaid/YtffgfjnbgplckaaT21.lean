import Derived.Test.YtffgfjnbgplckaaT20
namespace Go.Proofs.Ytffgfjnbgplckaa
open Go.RowKit
/-- what became of the world where numbers of certain blocks were overwritten by numbers -/
structure Trn (S : Nat → Prop) (lo : Nat) (w w' : World) : Prop where
  below : Below lo w w'
  rest : ∀ b, b < w.heap.size → ¬ S b → w'.heap[b]? = w.heap[b]?
  unf : ∀ b, S b → Unf w b → Unf w' b
  ints : ∀ b o n, S b → w.cell? ⟨b, o, none⟩ = some (.int .i64 n) → ∃ m, w'.cell? ⟨b, o, none⟩ = some (.int .i64 m)
  others : ∀ b o v, S b → w.cell? ⟨b, o, none⟩ = some v → (∀ n, v ≠ .int .i64 n) → w'.cell? ⟨b, o, none⟩ = some v
theorem Trn.refl (S : Nat → Prop) (lo : Nat) (w : World) : Trn S lo w w := ⟨Below.refl _ _, fun _ _ _ => rfl, fun _ _ h => h, fun _ _ n _ h => ⟨n, h⟩, fun _ _ _ _ h _ => h⟩
theorem Trn.trans {S : Nat → Prop} {lo : Nat} {a b c : World} (h : Trn S lo a b) (k : Trn S lo b c) : Trn S lo a c :=
  ⟨h.below.trans k.below, fun x hx hn => (k.rest x (Nat.lt_of_lt_of_le hx h.below.size) hn).trans (h.rest x hx hn), fun x hx hu => k.unf x hx (h.unf x hx hu),
   fun x o n hx hc => by obtain ⟨m, hm⟩ := h.ints x o n hx hc; exact k.ints x o m hx hm, fun x o v hx hc hn => k.others x o v hx (h.others x o v hx hc hn) hn⟩
theorem Trn.alloc {S : Nat → Prop} {lo : Nat} {w : World} (hl : lo ≤ w.heap.size) (hS : ∀ b, S b → b < w.heap.size) (o : Obj) : Trn S lo w (w.alloc o) := by
  have hc : ∀ {p : Addr} {v : Value}, w.cell? p = some v → (w.alloc o).cell? p = some v := fun {p v} h => (World.cell?_of_block (w := w) (Below.heap_alloc w o p.block (World.block_lt_of_cell? w _ h))).trans h
  refine ⟨(Below.refl _ _).alloc hl _, fun x hx _ => Below.heap_alloc _ _ _ hx, fun x hx hu => unf_block (Below.heap_alloc _ _ _ (hS x hx)) hu, fun x q n _ h => ⟨n, hc h⟩, fun x q v _ h _ => hc h⟩
theorem Trn.put {S : Nat → Prop} {lo : Nat} {w : World} {b o : Nat} {n m : Int} (hb : S b) (hl : lo ≤ b) (hc : w.cell? ⟨b, o, none⟩ = some (.int .i64 n)) : Trn S lo w (w.setCell ⟨b, o, none⟩ (.int .i64 m)) := by
  have hlt := World.block_lt_of_cell? w _ hc
  have key : ∀ x q, (w.setCell ⟨b, o, none⟩ (.int .i64 m)).cell? ⟨x, q, none⟩ = if x = b ∧ q = o then some (.int .i64 m) else w.cell? ⟨x, q, none⟩ := by
    intro x q
    by_cases e : x = b ∧ q = o
    · obtain ⟨rfl, rfl⟩ := e
      rw [if_pos ⟨rfl, rfl⟩]
      exact World.cell?_setCell_same _ _ _ hc
    · rw [if_neg e]
      exact World.cell?_setCell_other _ _ _ _ (fun h => e (by cases h; exact ⟨rfl, rfl⟩))
  refine ⟨(Below.refl _ _).setCell hl _, fun x _ hn => Below.heap_setCell _ _ _ _ (fun e => hn (by rw [show x = b from e]; exact hb)), fun x _ hu i => ?_, fun x q k hx h => ?_, fun x q v hx h hn => ?_⟩
  · rw [World.frozen?_setCell]; exact hu i
  · rw [key]
    by_cases e : x = b ∧ q = o
    · rw [if_pos e]; exact ⟨m, rfl⟩
    · rw [if_neg e]; exact ⟨k, h⟩
  · rw [key]
    by_cases e : x = b ∧ q = o
    · obtain ⟨rfl, rfl⟩ := e
      rw [hc] at h
      exact absurd (Option.some.inj h).symm (hn n)
    · rw [if_neg e]; exact h
set_option maxRecDepth 100000 in
set_option maxHeartbeats 4000000 in
theorem turned_any (S : Nat → Prop) (lo : Nat) (hlo : ∀ b, S b → lo ≤ b) : ∀ (t : Nd) (v : Value) (k a n : Int) (s : ByteArray) (w : World), ShT S w t v → (∀ b, S b → b < w.heap.size) → (∀ b, S b → Unf w b) → lo ≤ w.heap.size →
    Calls Try.prog 25 #[.agg #[.int .i64 k, .int .i64 a, .string s, .int .i64 n, v]] w fun e w' => e = .returned (.tuple #[]) ∧ Trn S lo w w' := by
  refine Nd.ind ?_
  intro kk aa ss nn sub ih v k a n s w hsh hS hU hl
  have h0 := hsh
  simp only [ShT] at hsh
  obtain ⟨ad, cap, rfl, hm, hc⟩ := hsh
  have hlen : sub.length ≤ 9223372036854775807 := by unfold maxLen at hm; omega
  have IH := Lib.hid ih
  have H0 := Lib.hid h0
  have HS := Lib.hid hS
  have HU := Lib.hid hU
  have T0 := Lib.hid (Trn.alloc hl hS (.cells #[.int .i64 k, .int .i64 a, .string s, .int .i64 n, .slice ad sub.length cap] 24))
  have HC := Lib.hid hc
  have HLO := Lib.hid hlo
  clear ih h0 hS hU hc hm hlo
  go_enter Try.func25, Try.ntmps25
  go_wp2_with fail
  go_loopw [2] (fun i wr => ∃ j : Nat, j ≤ sub.length ∧ i = .int .i64 j ∧ Trn S lo (w.alloc (.cells #[.int .i64 k, .int .i64 a, .string s, .int .i64 n, .slice ad sub.length cap] 24)) wr) (fun i _ => sub.length - (intOf i).toNat)
  case atStart => exact ⟨0, Nat.zero_le _, rfl, Trn.refl _ _ _⟩
  case round =>
    obtain ⟨j, hj, rfl, htr⟩ := hrel
    have hsz := htr.below.size
    have hbx : Box5 24 wr w.heap.size (.int .i64 k) (.int .i64 a) (.string s) (.int .i64 n) (.slice ad sub.length cap) := (htr.rest w.heap.size (by simp) (fun h => by have := HS.out _ h; omega)).trans (boxes1 w _ _).1
    obtain ⟨c0, c1, c2, c3, c4⟩ := hbx.cells
    by_cases hlt : j < sub.length
    · have hall := T0.out.trans htr
      have hsh := ShT.keep hall.ints hall.others _ _ H0.out
      simp only [ShT] at hsh
      obtain ⟨ad', cap', e, _, hc'⟩ := hsh
      simp only [Value.slice.injEq] at e
      obtain ⟨rfl, _, rfl⟩ := e
      obtain ⟨b, off, rfl, hSb, hE⟩ := hc' (List.ne_nil_of_length_pos (by omega))
      obtain ⟨k', a', n', s', u, e0, e1, e2, e3, e4, e5⟩ := hE.get j hlt
      rw [Nat.zero_add] at e0 e1 e2 e3 e4
      have HTR := Lib.hid htr
      have hsz1 : w.heap.size + 1 ≤ wr.heap.size := by simpa using hsz
      have hSr : ∀ b, S b → b < wr.heap.size := fun b h => by have := HS.out b h; omega
      have hUr : ∀ b, S b → Unf wr b := fun b h => hall.unf b h (HU.out b h)
      have CALL := Lib.hid (IH.out sub[j] (List.getElem_mem hlt) u k' a' n' s' wr e5 hSr hUr (by omega))
      have HSR := Lib.hid hSr
      have HUR := Lib.hid hUr
      have HBX := Lib.hid hbx
      have E0 := Lib.hid e0
      clear htr hall hE hc' e5 hSr hUr hbx hsz
      go_wp2_with fail
      refine CALL.out.mono ?_
      rintro e w1 ⟨rfl, htr1⟩
      obtain ⟨m0, g0⟩ := htr1.ints _ _ _ hSb E0.out
      have gu := htr1.unf b hSb (HUR.out b hSb)
      have gf : w1.frozen? ⟨b, off + j * 5, none⟩ = false := gu _
      have hbx1 : Box5 24 w1 w.heap.size (.int .i64 k) (.int .i64 a) (.string s) (.int .i64 n) (.slice (some ⟨b, off, none⟩) sub.length cap) := (htr1.rest w.heap.size (by omega) (fun h => by have := HS.out _ h; omega)).trans HBX.out
      clear c0 c1 c2 c3 c4 e0 e1 e2 e3 e4
      obtain ⟨c0, c1, c2, c3, c4⟩ := hbx1.cells
      have TP := Lib.hid ((HTR.out.trans htr1).trans (Trn.put (m := -7) hSb (HLO.out b hSb) g0))
      clear htr1 hbx1 gu
      go_wp2_with fail
      go_roundw
      case rel => exact ⟨j + 1, by omega, by go_num, TP.out⟩
      case measure => simp [intOf]; omega
    · go_wp2_with fail
      exact bodyPost_end (v := .tuple #[]) (by simp [results, Try.results25, go_sem]) rfl ⟨rfl, T0.out.trans htr⟩
end Go.Proofs.Ytffgfjnbgplckaa

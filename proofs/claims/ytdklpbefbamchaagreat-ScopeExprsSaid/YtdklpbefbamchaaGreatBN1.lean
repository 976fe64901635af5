import Derived.Test.YtdklpbefbamchaaGreatBN
import Derived.SliceStrings
import Derived.ChangeArms
import Derived.ChangeSlices
import Derived.OpenShut
import Derived.ChangeShapes
set_option linter.unusedSimpArgs false
set_option linter.unusedVariables false
set_option maxHeartbeats 16000000
set_option maxRecDepth 100000
namespace Go.Proofs.YtdklpbefbamchaaGreat
open Go.RowKit Go.WideMaps
def Qap (l : List ByteArray) (s : ByteArray) : Nat → Int
 | 0 => -1
 | k + 1 => if (l.getD k s).toList == s.toList then k else Qap l s k
theorem Qhu (l : List ByteArray) (s : ByteArray) : ∀ k, -1 ≤ Qap l s k ∧ Qap l s k < k
  | 0 => by simp [Qap]
  | k + 1 => by
    have := Qhu l s k
    simp only [Qap]
    split <;> omega
theorem cnt_take (l : List ByteArray) (s : ByteArray) (k : Nat) (h : k < l.length) : cnt (l.take (k + 1)) s = cnt (l.take k) s + (if l[k].toList == s.toList then 1 else 0) := by
 rw [List.take_succ_eq_append_getElem h, cnt_snoc]
theorem Qku (l : List ByteArray) (s : ByteArray) : ∀ k, k ≤ l.length → (Qap l s k < 0 ↔ cnt (l.take k) s = 0) := by
  intro k
  induction k with
  | zero => intro _; simp [Qap, cnt]
  | succ k ih =>
    intro hk
    have ih' := ih (by omega)
    rw [cnt_take l s k (by omega)]
    simp only [Qap, List.getD_eq_getElem?_getD, List.getElem?_eq_getElem (show k < l.length by omega), Option.getD_some]
    by_cases h : l[k].toList == s.toList
    · rw [if_pos h, if_pos h]; omega
    · rw [if_neg h, if_neg h]; omega
theorem Qga (l : List ByteArray) (s : ByteArray) (k : Nat) (h : k < l.length) : l.getD k s = l[k] := by
 simp [List.getD_eq_getElem?_getD, List.getElem?_eq_getElem h]
theorem place_any (l : List ByteArray) (s : ByteArray) (v : Value) (w0 w : World) (hv : Slc w0 v (l.map Value.string)) (hb : Below w0.heap.size w0 w) :
    Calls Tryz.prog 159 #[v, .string s] w fun e w' => e = .returned (.int .i64 (Qap l s l.length)) ∧ w = w' := by
  obtain ⟨a, cap, rfl, hll, -⟩ := Qdu hv
  rw [List.length_map] at hv hll ⊢
  go_enter Tryz.func159, Tryz.ntmps159
  go_wp2_with fail
  go_loopw [5] (fun i wr => ∃ (k : Nat), k ≤ l.length ∧ i = .int .i64 ((k : Int) - 1) ∧ Hid (Qap l s k = Qap l s l.length) ∧ w = wr) (fun i _ => (intOf i + 1).toNat)
  case atStart => exact ⟨l.length, Nat.le_refl _, rfl, rfl, rfl⟩
  case round =>
    obtain ⟨k, hk, rfl, hp, rfl⟩ := hrel
    cases k with
    | zero =>
      have fin : Hid (-1 = Qap l s l.length) := hp.out
      go_wp2_with fail
      go_ret
      exact ⟨Qbh fin.out, rfl⟩
    | succ k =>
      obtain ⟨b, off, rfl, hc⟩ := Qhg hv hb k (by simp; omega)
      rw [List.getElem_map] at hc
      have e : ((k + 1 : Nat) : Int) - 1 = k := by omega
      rw [e]
      have hi0 : (0 : Int) ≤ k := by omega
      have hi1 : (k : Int) < l.length := by omega
      have hst : Hid (Qap l s (k + 1) = if l[k].toList == s.toList then (k : Int) else Qap l s k) := by
        show _ = _
        rw [Qap, Qga l s k hk]
      cases hq : (l[k].toList == s.toList) with
      | true =>
        have fin : Hid ((k : Int) = Qap l s l.length) := by
          show _ = _
          rw [← hp.out, hst.out, if_pos hq]
        go_wp2_with fail
        go_ret
        exact ⟨Qbh fin.out, rfl⟩
      | false =>
        have G : Hid (Qap l s k = Qap l s l.length) := by
          show _ = _
          rw [← hp.out, hst.out, if_neg (by rw [hq]; decide)]
        go_wp2_with fail
        go_roundw
        case rel => exact ⟨k, by omega, rfl, G.out, trivial⟩
        case measure => simp [intOf]
theorem Qfe (l : List ByteArray) (s : ByteArray) (v : Value) (w0 w : World) (hv : Slc w0 v (l.map Value.string)) (hb : Below w0.heap.size w0 w) :
    Calls Tryz.prog 152 #[v, .string s] w fun e w' => e = .returned (.int .i64 (Qap l s l.length)) ∧ w = w' := by
  obtain ⟨a, cap, rfl, hll, -⟩ := Qdu hv
  rw [List.length_map] at hv hll ⊢
  go_enter Tryz.func152, Tryz.ntmps152
  go_wp2_with fail
  go_loopw [5, 6] (fun p i wr => ∃ (k : Nat), k ≤ l.length ∧ i = .int .i64 k ∧ p = .int .i64 (Qap l s k) ∧ w = wr) (fun _ i _ => l.length - (intOf i).toNat)
  case atStart => exact ⟨0, Nat.zero_le _, rfl, rfl, rfl⟩
  case round =>
    obtain ⟨k, hk, rfl, rfl, rfl⟩ := hrel
    by_cases hlt : k < l.length
    · obtain ⟨b, off, rfl, hc⟩ := Qhg hv hb k (by simpa using hlt)
      rw [List.getElem_map] at hc
      have hst : Hid (Qap l s (k + 1) = if l[k].toList == s.toList then (k : Int) else Qap l s k) := by
        show _ = _
        rw [Qap, Qga l s k hlt]
      cases hq : (l[k].toList == s.toList) with
      | true =>
        have G : Hid ((k : Int) = Qap l s (k + 1)) := by
          show _ = _
          rw [hst.out, if_pos hq]
        go_wp2_with fail
        go_roundw
        case rel => exact ⟨k + 1, hlt, by simp, congrArg (Value.int .i64) G.out, trivial⟩
        case measure => simp [intOf]; omega
      | false =>
        have G : Hid (Qap l s k = Qap l s (k + 1)) := by
          show _ = _
          rw [hst.out, if_neg (by rw [hq]; decide)]
        go_wp2_with fail
        go_roundw
        case rel => exact ⟨k + 1, hlt, by simp, congrArg (Value.int .i64) G.out, trivial⟩
        case measure => simp [intOf]; omega
    · obtain rfl : k = l.length := by omega
      go_wp2_with fail
      go_ret
      exact ⟨rfl, rfl⟩
theorem Qhy (l : List ByteArray) (s : ByteArray) : ∀ k, (Qap l s k = -1 ∧ ∀ j, j < k → ((l.getD j s).toList == s.toList) = false) ∨ ∃ i, i < k ∧ Qap l s k = (i : Int) ∧ ((l.getD i s).toList == s.toList) = true ∧ ∀ j, i < j → j < k → ((l.getD j s).toList == s.toList) = false := by
  intro k
  induction k with
  | zero => left; exact ⟨rfl, fun j hj => by omega⟩
  | succ k ih =>
    simp only [Qap]
    cases hq : ((l.getD k s).toList == s.toList) with
    | true =>
      right
      exact ⟨k, by omega, by simp, hq, fun j h1 h2 => by omega⟩
    | false =>
      rw [if_neg (by decide)]
      rcases ih with ⟨h1, h2⟩ | ⟨i, hi, h1, h2, h3⟩
      · left
        refine ⟨h1, fun j hj => ?_⟩
        by_cases h : j = k
        · subst h; exact hq
        · exact h2 j (by omega)
      · right
        refine ⟨i, by omega, h1, h2, fun j hj hj2 => ?_⟩
        by_cases h : j = k
        · subst h; exact hq
        · exact h3 j hj (by omega)
def DistN (l : List ByteArray) (k : Nat) : Prop := ∀ i j, i < j → j < k → ((l.getD i ByteArray.empty).toList == (l.getD j ByteArray.empty).toList) = false
theorem getD_any (l : List ByteArray) (a b : ByteArray) (k : Nat) (h : k < l.length) : l.getD k a = l.getD k b := by
 rw [Qga l a k h, Qga l b k h]
theorem dist_step (l : List ByteArray) (k : Nat) (h : k < l.length) (hd : DistN l k) : (cnt (l.take k) l[k] = 0 → DistN l (k + 1)) ∧ (cnt (l.take k) l[k] ≠ 0 → ¬ DistN l l.length) := by
 have hpc := Qku l l[k] k (by omega)
 constructor
 ·intro h0
  have hp := hpc.2 h0
  intro i j hij hj
  by_cases hjk : j = k
  ·subst hjk
   rcases Qhy l l[j] j with ⟨_, h2⟩ | ⟨i', _, h1, _, _⟩
   ·have := h2 i hij
    rw [Qga l _ j h, getD_any l _ l[j] i (by omega)]
    exact this
   ·omega
  ·exact hd i j hij (by omega)
 ·intro h0 hD
  have hp := mt hpc.1 h0
  rcases Qhy l l[k] k with ⟨h1, _⟩ | ⟨i, hi, _, h2, _⟩
  ·omega
  ·have := hD i k hi h
   rw [Qga l _ k h, getD_any l _ l[k] i (by omega), h2] at this
   cases this
theorem distinct_any (l : List ByteArray) (v : Value) (w : World) (hv : Slc w v (l.map Value.string)) (hsz : ∀ x ∈ l, x.size ≤ maxLen) (hl : l.length ≤ 8192) :
  Calls Tryz.prog 128 #[v] w fun e w' => (∃ b, e = .returned (.bool b) ∧ (b = true ↔ DistN l l.length)) ∧ Below w.heap.size w w' := by
 have hmm := @run_makeMap Tryz.prog
 obtain ⟨a, cap, rfl, hll, -⟩ := Qdu hv
 rw [List.length_map] at hv hll ⊢
 have HSZ := Lib.hid hsz
 clear hsz
 go_enter Tryz.func128, Tryz.ntmps128
 go_wp2_with fail
 go_loopw [9] (fun i wr => ∃ (k : Nat), k ≤ l.length ∧ i = .int .i64 k ∧ Hid (Seen wr w.heap.size (l.take k)) ∧ Hid (DistN l k) ∧ Below w.heap.size w wr) (fun i _ => l.length - (intOf i).toNat)
 case atStart => exact ⟨0, Nat.zero_le _, rfl, Seen.made w, fun i j h1 h2 => by omega, (Below.refl _ _).alloc (Nat.le_refl _) _⟩
 case round =>
  obtain ⟨k, hk, rfl, hseen, hd, hbel⟩ := hrel
  by_cases hlt : k < l.length
  ·obtain ⟨b, off, rfl, hc⟩ := Qhg hv hbel k (by simpa using hlt)
   rw [List.getElem_map] at hc
   have hxs := HSZ.out _ (List.getElem_mem hlt)
   have hlook := hseen.out.look l[k] hxs
   obtain ⟨hs0, hs1⟩ := dist_step l k hlt hd.out
   by_cases h0 : cnt (l.take k) l[k] = 0
   ·obtain ⟨w2, hput, hs2, hg2⟩ := hseen.out.put l[k] hxs (by rw [List.length_take]; omega)
    rw [← List.take_succ_eq_append_getElem hlt] at hs2
    have hb2 := Lib.hid (hbel.grown hg2 hbel.size (fun j hj => by cases hj; exact Nat.le_refl _))
    have HS2 := Lib.hid hs2
    have HD := Lib.hid (hs0 h0)
    have hcl : (cnt (l.take k) l[k] : Int) ≤ 8192 := by omega
    have hd0 : ¬ 0 < cnt (l.take k) l[k] := by omega
    clear hs2 hg2 hs0 hs1 h0
    go_wp2_with fail
    go_roundw
    case rel => exact ⟨k + 1, hlt, by simp, HS2.out, HD.out, hb2.out⟩
    case measure => simp [intOf]; omega
   ·have hgt : 0 < cnt (l.take k) l[k] := by omega
    have HF := Lib.hid (hs1 h0)
    have HB := Lib.hid hbel
    clear hs0 hs1 h0 hbel
    go_wp2_with fail
    go_ret
    exact ⟨⟨false, rfl, by constructor <;> intro h; exact absurd h (by decide); exact absurd h HF.out⟩, HB.out⟩
  ·obtain rfl : k = l.length := by omega
   have HB := Lib.hid hbel
   clear hbel
   go_wp2_with fail
   go_ret
   exact ⟨⟨true, rfl, fun _ => hd.out, fun _ => rfl⟩, HB.out⟩
theorem place_last (l : List ByteArray) (k : Nat) (h : k < l.length) : (Qap l l[k] l.length = (k : Int) ↔ ∀ j, k < j → j < l.length → ((l.getD k ByteArray.empty).toList == (l.getD j ByteArray.empty).toList) = false) := by
 have hk : l.getD k l[k] = l[k] := Qga l _ k h
 have sw : ∀ j, j < l.length → ((l.getD k ByteArray.empty).toList == (l.getD j ByteArray.empty).toList) = ((l.getD j l[k]).toList == l[k].toList) := by
  intro j hj
  rw [Qga l _ k h, getD_any l _ l[k] j hj]
  rw [Bool.eq_iff_iff, beq_iff_eq, beq_iff_eq]
  exact eq_comm
 constructor
 ·intro hp j hj hj2
  rw [sw j hj2]
  rcases Qhy l l[k] l.length with ⟨h1, _⟩ | ⟨i, hi, h1, _, h3⟩
  ·omega
  ·have : i = k := by omega
   subst this
   exact h3 j hj hj2
 ·intro hno
  rcases Qhy l l[k] l.length with ⟨_, h2⟩ | ⟨i, hi, h1, h2, h3⟩
  ·have := h2 k h
   rw [hk] at this
   simp at this
  ·rw [h1]
   by_cases hik : i = k
   ·rw [hik]
   ·exfalso
    by_cases hlt : i < k
    ·have := h3 k hlt h
     rw [hk] at this
     simp at this
    ·have := hno i (by omega) hi
     rw [sw i hi, h2] at this
     cases this
theorem rdistinct_any (l : List ByteArray) (v : Value) (w : World) (hv : Slc w v (l.map Value.string)) :
    Calls Tryz.prog 94 #[v] w fun e w' => (∃ b, e = .returned (.bool b) ∧ (b = true ↔ DistN l l.length)) ∧ w = w' := by
  have hv0 := hv
  obtain ⟨a, cap, rfl, hll, -⟩ := Qdu hv
  rw [List.length_map] at hv hll hv0 ⊢
  have HV := Lib.hid hv0
  clear hv0
  go_enter Tryz.func94, Tryz.ntmps94
  go_wp2_with fail
  go_loopw [3] (fun i wr => ∃ (k : Nat), k ≤ l.length ∧ i = .int .i64 k ∧ Hid (∀ i j, i < k → i < j → j < l.length → ((l.getD i ByteArray.empty).toList == (l.getD j ByteArray.empty).toList) = false) ∧ w = wr) (fun i _ => l.length - (intOf i).toNat)
  case atStart => exact ⟨0, Nat.zero_le _, rfl, fun i j h => by omega, rfl⟩
  case round =>
    obtain ⟨k, hk, rfl, hd, rfl⟩ := hrel
    by_cases hlt : k < l.length
    · obtain ⟨b, off, rfl, hc⟩ := Qhg hv (Below.refl _ _) k (by simpa using hlt)
      rw [List.getElem_map] at hc
      have hi0 : (0 : Int) ≤ k := by omega
      have hi1 : (k : Int) < l.length := by omega
      have hpl := place_last l k hlt
      have hP := Lib.hid (Qfe l l[k] _ w w HV.out (Below.refl _ _))
      cases hq : (Qap l l[k] l.length != (k : Int)) with
      | true =>
        have HF : Hid (¬ DistN l l.length) := by
          intro h
          have : Qap l l[k] l.length = (k : Int) := hpl.2 (fun j h1 h2 => h k j h1 h2)
          rw [this] at hq
          simp at hq
        clear hpl
        go_wp2_with fail
        refine hP.out.mono ?_
        rintro e w2 ⟨rfl, rfl⟩
        go_wp2_with fail
        go_ret
        exact ⟨⟨false, rfl, by constructor <;> intro h; exact absurd h (by decide); exact absurd h HF.out⟩, rfl⟩
      | false =>
        have HG : Hid (∀ i j, i < k + 1 → i < j → j < l.length → ((l.getD i ByteArray.empty).toList == (l.getD j ByteArray.empty).toList) = false) := by
          intro i j h1 h2 h3
          by_cases hik : i = k
          · subst hik
            exact hpl.1 (by simpa using hq) j h2 h3
          · exact hd.out i j (by omega) h2 h3
        clear hpl
        go_wp2_with fail
        refine hP.out.mono ?_
        rintro e w2 ⟨rfl, rfl⟩
        go_wp2_with fail
        go_roundw
        case rel => exact ⟨k + 1, hlt, by simp, HG.out, trivial⟩
        case measure => simp [intOf]; omega
    · obtain rfl : k = l.length := by omega
      go_wp2_with fail
      go_ret
      exact ⟨⟨true, rfl, fun _ => fun i j h1 h2 => hd.out i j (by omega) h1 h2, fun _ => rfl⟩, rfl⟩
theorem decL_pos (n : Nat) : 1 ≤ (Qej n).length := by
 by_cases h : n < 10
 ·rw [Qcf n h]; simp
 ·rw [Qdb n h]; simp
theorem decL_mem : ∀ (n : Nat) (x : Int), x ∈ Qej n → 48 ≤ x ∧ x ≤ 57 := by
  intro n
  induction n using Nat.strongRecOn with
  | ind n ih =>
    intro x hx
    by_cases h : n < 10
    · rw [Qcf n h] at hx; simp at hx; omega
    · rw [Qdb n h, List.mem_append] at hx
      rcases hx with hx | hx
      · exact ih (n / 10) (by omega) x hx
      · simp at hx; omega
theorem decL_inj : ∀ (a b : Nat), Qej a = Qej b → a = b := by
  intro a
  induction a using Nat.strongRecOn with
  | ind a ih =>
    intro b h
    by_cases ha : a < 10
    · by_cases hb : b < 10
      · rw [Qcf a ha, Qcf b hb] at h
        simp at h
        omega
      · rw [Qcf a ha, Qdb b hb] at h
        have h1 := congrArg List.length h
        have h2 := decL_pos (b / 10)
        rw [List.length_append, List.length_singleton, List.length_singleton] at h1
        omega
    · by_cases hb : b < 10
      · rw [Qdb a ha, Qcf b hb] at h
        have h1 := congrArg List.length h
        have h2 := decL_pos (a / 10)
        rw [List.length_append, List.length_singleton, List.length_singleton] at h1
        omega
      · rw [Qdb a ha, Qdb b hb] at h
        obtain ⟨h1, h2⟩ := List.append_inj' h rfl
        have := ih (a / 10) (by omega) (b / 10) h1
        simp at h2
        omega
theorem toNat_inj : ∀ (l m : List Int), (∀ x ∈ l, 0 ≤ x) → (∀ x ∈ m, 0 ≤ x) → l.map Int.toNat = m.map Int.toNat → l = m := by
  intro l
  induction l with
  | nil => intro m _ _ h; cases m with
    | nil => rfl
    | cons y ys => simp at h
  | cons x xs ih =>
    intro m hl hm h
    cases m with
    | nil => simp at h
    | cons y ys =>
      simp only [List.map_cons, List.cons.injEq] at h
      have h1 := hl x (by simp)
      have h2 := hm y (by simp)
      rw [ih ys (fun z hz => hl z (by simp [hz])) (fun z hz => hm z (by simp [hz])) h.2]
      congr 1
      omega
theorem dec_nats (n : Nat) : nats (Qbk n) = (Qej n).map Int.toNat := by
 unfold Qbk
 apply nats_of
 intro c hc
 obtain ⟨x, hx, rfl⟩ := List.mem_map.1 hc
 have := decL_mem n x hx
 omega
theorem decS_inj (a b : Nat) (h : Qbk a = Qbk b) : a = b := by
 apply decL_inj
 apply toNat_inj
 ·intro x hx; have := decL_mem a x hx; omega
 ·intro x hx; have := decL_mem b x hx; omega
 ·rw [← dec_nats, ← dec_nats, h]
theorem app_cancel (p a b : ByteArray) (h : p ++ a = p ++ b) : a = b := by
 have h1 := congrArg (fun x => x.data.toList) h
 simp at h1
 exact ByteArray.ext h1
theorem numS_inj (s : ByteArray) (a b : Nat) (hs : (Qbk a).size = (Qbk b).size) (h : Qcc s a = Qcc s b) : a = b := by
 unfold Qcc at h
 rw [hs] at h
 exact decS_inj a b (app_cancel _ _ _ h)
theorem Qjr (n : Nat) : (Qbk n).size = (Qej n).length := strOfNums_size _
theorem dec_size1 (n : Nat) (h : n < 10) : (Qbk n).size = 1 := by rw [Qjr, Qcf n h]; rfl
theorem Qkp (n : Nat) (h : 10 ≤ n) (h' : n < 100) : (Qbk n).size = 2 := by
 rw [Qjr, Qdb n (by omega), Qcf (n / 10) (by omega)]; rfl
theorem dec_size3 (n : Nat) (h : 100 ≤ n) (h' : n < 1000) : (Qbk n).size = 3 := by
 rw [Qjr, Qdb n (by omega), List.length_append, ← Qjr, Qkp (n / 10) (by omega) (by omega)]; rfl
theorem pigeon {α : Type} [DecidableEq α] : ∀ (xs l : List α), xs.Pairwise (· ≠ ·) → (∀ x ∈ xs, x ∈ l) → xs.length ≤ l.length := by
  intro xs
  induction xs with
  | nil => intro l _ _; simp
  | cons x xs ih =>
    intro l hp hm
    rw [List.pairwise_cons] at hp
    have hx := hm x (by simp)
    have h1 := ih (l.erase x) hp.2 (fun y hy => by
      have hne : y ≠ x := fun e => hp.1 y hy e.symm
      exact (List.mem_erase_of_ne hne).2 (hm y (by simp [hy])))
    rw [List.length_erase_of_mem hx] at h1
    have : 0 < l.length := List.length_pos_of_mem hx
    simp
    omega
theorem cnt_mem (l : List ByteArray) (s : ByteArray) (h : cnt l s ≠ 0) : s ∈ l := by
 unfold cnt at h
 have h0 : 0 < (l.filter (fun x => x.toList == s.toList)).length := by omega
 obtain ⟨x, hx⟩ := List.exists_mem_of_length_pos h0
 obtain ⟨hm, he⟩ := List.mem_filter.1 hx
 have : x = s := by
  apply ByteArray.ext
  have := beq_iff_eq.1 he
  rw [ByteArray.toList_eq, ByteArray.toList_eq] at this
  exact Array.toList_inj.mp this
 rw [← this]; exact hm
theorem least (p : Nat → Prop) (n : Nat) (h : p n) : ∃ N, N ≤ n ∧ p N ∧ ∀ m, m < N → ¬ p m := by
  induction n using Nat.strongRecOn with
  | ind n ih =>
    by_cases hm : ∃ m, m < n ∧ p m
    · obtain ⟨m, h1, h2⟩ := hm
      obtain ⟨N, h3, h4⟩ := ih m h1 h2
      exact ⟨N, by omega, h4⟩
    · exact ⟨n, Nat.le_refl _, h, fun m h1 h2 => hm ⟨m, h1, h2⟩⟩
theorem free_some (s : ByteArray) (l : List ByteArray) (hl : l.length ≤ 300) : ∃ n, 1 ≤ n ∧ n ≤ 20 * l.length + 40 ∧ cnt l (Qcc s n) = 0 := by
 obtain ⟨a, ha1, ha2, hsz⟩ : ∃ a, 1 ≤ a ∧ a + l.length ≤ 20 * l.length + 40 ∧ ∀ i j, i ≤ l.length → j ≤ l.length → (Qbk (a + i)).size = (Qbk (a + j)).size := by
  by_cases h9 : l.length < 9
  ·exact ⟨1, by omega, by omega, fun i j hi hj => by rw [dec_size1 _ (by omega), dec_size1 _ (by omega)]⟩
  ·by_cases h90 : l.length < 90
   ·exact ⟨10, by omega, by omega, fun i j hi hj => by rw [Qkp _ (by omega) (by omega), Qkp _ (by omega) (by omega)]⟩
   ·exact ⟨100, by omega, by omega, fun i j hi hj => by rw [dec_size3 _ (by omega) (by omega), dec_size3 _ (by omega) (by omega)]⟩
 apply Classical.byContradiction
 intro hno
 have hin : ∀ i, i ≤ l.length → Qcc s (a + i) ∈ l := by
  intro i hi
  apply cnt_mem
  intro h0
  exact hno ⟨a + i, by omega, by omega, h0⟩
 have := pigeon ((List.range (l.length + 1)).map (fun i => Qcc s (a + i))) l (by
  rw [List.pairwise_map]
  refine List.Pairwise.imp_of_mem ?_ List.pairwise_lt_range
  intro i j hi hj hij he
  rw [List.mem_range] at hi hj
  have := numS_inj s _ _ (hsz i j (by omega) (by omega)) he
  omega) (by
  intro x hx
  obtain ⟨i, hi, rfl⟩ := List.mem_map.1 hx
  rw [List.mem_range] at hi
  exact hin i (by omega))
 simp at this
 omega
theorem fresh_N (s : ByteArray) (l : List ByteArray) (hl : l.length ≤ 300) : ∃ N, 1 ≤ N ∧ N ≤ 20 * l.length + 40 ∧ cnt l (Qcc s N) = 0 ∧ ∀ n, 1 ≤ n → n < N → cnt l (Qcc s n) ≠ 0 := by
 obtain ⟨n, h1, h2, h3⟩ := free_some s l hl
 obtain ⟨N, hN, ⟨h4, h5⟩, h6⟩ := least (fun n => 1 ≤ n ∧ cnt l (Qcc s n) = 0) n ⟨h1, h3⟩
 exact ⟨N, h4, by omega, h5, fun m hm1 hm2 h0 => h6 m hm2 ⟨hm1, h0⟩⟩
theorem app_emptyN (a : ByteArray) : a ++ ⟨#[]⟩ = a := by
 apply ByteArray.ext
 simp
theorem app_assoc3N (a b c : ByteArray) : a ++ (b ++ c) = (a ++ b) ++ c := by
 apply ByteArray.ext
 simp
theorem rdecimal_any (n : Nat) (hn : n ≤ 1000000000) (w : World) :
  Calls Tryz.prog 263 #[.int .i64 n] w fun e w' => e = .returned (.string (Qbk n)) ∧ Below w.heap.size w w' := by
 have hcv := fun (w : World) (a : Int) => Qgr [a] 1 rfl w
 simp only [List.map] at hcv
 go_enter Tryz.func263, Tryz.ntmps263
 go_wp2_with fail
 go_loopw [0, 3] (fun i v wr => ∃ (m : Nat) (t : ByteArray), m ≤ n ∧ i = .int .i64 m ∧ v = .string t ∧ t.size ≤ 10 ∧ Hid (Qbk m ++ t = Qbk n) ∧ Below w.heap.size w wr) (fun i _ _ => (intOf i).toNat)
 case atStart => exact ⟨n, ⟨#[]⟩, Nat.le_refl _, rfl, rfl, by decide, app_emptyN _, Below.refl _ _⟩
 case round =>
  obtain ⟨m, t, hm, rfl, rfl, ht, hd, hbel⟩ := hrel
  have hms := Qez m (by omega)
  have hns := Qez n hn
  have hto : t.size ≤ 9 := by
   have := congrArg ByteArray.size hd.out
   rw [ByteArray.size_append] at this
   omega
  have hsz : ∀ a : Int, ¬ 9223372036854775807 < (strOfNums [a]).size + t.size := fun a => by rw [strOfNums_size]; simp; omega
  by_cases h10 : 10 ≤ (m : Int)
  ·have hst : Qej m = Qej (m / 10) ++ [48 + ((m % 10 : Nat) : Int)] := Qdb m (by omega)
   have hsz1 := hsz (48 + (m : Int) % 10)
   have hd2 : Hid (Qbk (m / 10) ++ (strOfNums [48 + (m : Int) % 10] ++ t) = Qbk n) := by
    show _ = _
    rw [← hd.out, app_assoc3N]
    congr 1
    unfold Qbk
    rw [Qjl, hst]
    rfl
   have ht2 : (strOfNums [48 + (m : Int) % 10] ++ t).size ≤ 10 := by rw [ByteArray.size_append, strOfNums_size]; simp; omega
   clear hsz hst
   go_wp2_with fail
   go_roundw
   case rel => exact ⟨m / 10, _, by omega, by simp, rfl, ht2, hd2.out, hbel.alloc hbel.size _⟩
   case measure => simp [intOf]; omega
  ·have hsz1 := hsz (48 + (m : Int))
   have fin : Hid (strOfNums [48 + (m : Int)] ++ t = Qbk n) := by
    show _ = _
    rw [← hd.out]
    congr 1
    unfold Qbk
    rw [Qcf m (by omega)]
   clear hsz
   go_wp2_with fail
   go_ret
   exact ⟨Qgs fin.out, hbel.alloc hbel.size _⟩
theorem rall_shape2 (s : ByteArray) (hs : s.size ≤ maxLen) (w : World) :
  Calls Tryz.prog 176 #[.string s] w fun e w' => ∃ a c L, e = .returned (.tuple #[.slice a L c, .int .i64 (Qfm s), .int .i64 (allE s)]) ∧ Hid ((allS s).length = L) ∧ L ≤ 9223372036854775807 ∧ L ≤ c ∧ Slc w' (.slice a L c) ((allS s).map (Value.int .i64)) ∧ Below w.heap.size w w' := by
 refine (rall_any s hs w).mono ?_
 rintro e w' ⟨v, rfl, ho, hb⟩
 have hS := Slc.own ho
 obtain ⟨a, c, hv, hl, -⟩ := Qdu hS
 rw [List.length_map] at hv hl
 have hc : (allS s).length ≤ c := by
  rcases ho.2 with ⟨h1, h2⟩ | ⟨g, cap, cur, h1, _, _, h2, _⟩
  ·omega
  ·rw [hv] at h1
   simp only [Value.slice.injEq] at h1
   omega
 subst hv
 exact ⟨a, c, _, rfl, rfl, hl, hc, hS, hb⟩
theorem rnumbered_any (s : ByteArray) (hE : allE s = 0) (h40 : s.size ≤ 40) (n : Nat) (hn : n ≤ 1000000000) (w : World) :
    Calls Tryz.prog 217 #[.string s, .int .i64 n] w fun e w' => e = .returned (.string (Qcc s n)) ∧ Below w.heap.size w w' := by
  have hd := Qez n hn
  go_enter Tryz.func217, Tryz.ntmps217
  go_wp2_with fail
  refine (rdecimal_any n hn w).mono ?_
  rintro e w1 ⟨rfl, hb1⟩
  go_wp2_with fail
  refine (rall_shape2 s (by unfold maxLen; omega) w1).mono ?_
  rintro e w2 ⟨a, c, L, rfl, hL, hl, hc, hS, hb2⟩
  have hw2 := Lib.hid (hb1.trans (hb2.mono hb1.size))
  have hjoin := Lib.hid (Qkr s hE h40)
  have hJ := Lib.hid (rjoin_any (allS s) (.slice a L c) w2 hS)
  rw [show Qcl (allS s) = strOfNums (Qav ((allS s).take L)) by
    have h := (hjoin.out L).1
    rw [← h, List.take_of_length_le (by rw [hL.out]; exact Nat.le_refl _)]] at hJ
  clear hb1 hb2
  go_wp2_with fail
  refine hJ.out.mono ?_
  rintro e w3 ⟨rfl, hb3⟩
  have hw3 := Lib.hid (hw2.out.trans (hb3.mono hw2.out.size))
  have hw23 := Lib.hid hb3
  clear hb3
  go_wp2_with fail
  go_loopw [9, 6] (fun v u wr => ∃ (k : Nat), k ≤ L ∧ v = .string (strOfNums (Qav ((allS s).take k))) ∧ u = .slice a k c ∧ Hid (cutN (allS s) (Qbk n).size k = cutN (allS s) (Qbk n).size L) ∧ Hid (Below w.heap.size w wr) ∧ Hid (Below w2.heap.size w2 wr)) (fun _ u _ => match u with | .slice _ m _ => m | _ => 0)
  case atStart => exact ⟨L, Nat.le_refl _, rfl, rfl, rfl, hw3.out, hw23.out⟩
  case round =>
    obtain ⟨k, hk, rfl, rfl, hcut, hbel, hb2⟩ := hrel
    have hsz := (hjoin.out k).2
    have hsz2 : Hid ((strOfNums (Qav ((allS s).take k))).size = (Qav ((allS s).take k)).length) := strOfNums_size _
    obtain ⟨t, ht⟩ : ∃ t, t = strOfNums (Qav ((allS s).take k)) := ⟨_, rfl⟩
    rw [← ht] at hsz2 ⊢
    have htl : t.size ≤ 40 := by rw [hsz2.out]; exact hsz
    have HT := Lib.hid ht
    clear ht
    by_cases hgt : 40 < (t.size : Int) + (Qbk n).size
    · cases k with
      | zero =>
        exfalso
        have h1 := hsz2.out
        have h2 : (Qav ((allS s).take 0)).length = 0 := by simp [Qav]
        omega
      | succ k =>
        have J := Lib.hid (rjoin_any ((allS s).take k) (.slice a k c) wr (Slc.later (by rw [List.map_take]; exact slc_take hS k (by omega)) hb2.out))
        rw [(hjoin.out k).1] at J
        go_wp2_with fail
        refine J.out.mono ?_
        rintro e w4 ⟨rfl, hb4⟩
        have hbz := Lib.hid (hbel.out.trans (hb4.mono hbel.out.size))
        have hbz2 := Lib.hid (hb2.out.trans (hb4.mono hb2.out.size))
        clear hb4
        go_wp2_with fail
        go_roundw
        case rel =>
          refine ⟨k, by omega, rfl, rfl, ?_, hbz.out, hbz2.out⟩
          have h := hcut.out
          rw [cutN, if_neg (by have := hsz2.out; omega)] at h
          exact h
        case measure => exact Nat.lt_succ_self k
    · have fin : Hid (t ++ Qbk n = Qcc s n) := by
        show _ = _
        unfold Qcc
        rw [HT.out]
        congr 3
        rw [hL.out, ← hcut.out]
        cases k with
        | zero => rfl
        | succ k =>
          rw [cutN, if_pos]
          have := hsz2.out
          omega
      go_wp2_with fail
      go_ret
      exact ⟨Qgs fin.out, hbel.out⟩
theorem rfresh_any (s : ByteArray) (hs : s.size ≤ maxLen) (l : List ByteArray) (v : Value) (w : World) (hv : Slc w v (l.map Value.string)) (h3 : l.length ≤ 300) (N : Nat) (hN1 : 1 ≤ N) (hN2 : N ≤ 20 * l.length + 40) (hN3 : cnt l (Qcc (Qbx s) N) = 0) (hN4 : ∀ n, 1 ≤ n → n < N → cnt l (Qcc (Qbx s) n) ≠ 0) :
    Calls Tryz.prog 170 #[.string s, v] w fun e w' => e = .returned (.tuple #[.string (Qct s l N), .int .i64 (Qel s l)]) ∧ Below w.heap.size w w' := by
  have hv0 := hv
  have hs2 : s.size ≤ 9223372036854775807 := by unfold maxLen at hs; omega
  obtain ⟨a, cap, rfl, hll, -⟩ := Qdu hv
  rw [List.length_map] at hv hll hv0 ⊢
  have HV := Lib.hid hv0
  have HN3 := Lib.hid hN3
  have HN4 := Lib.hid hN4
  have HPC := Lib.hid (fun x => Qku l x l.length (Nat.le_refl _))
  clear hv0 hv hN3 hN4
  go_enter Tryz.func170, Tryz.ntmps170
  go_wp2_with fail
  refine (Qjc s hs w).mono ?_
  cases hr : Qaq s with
  | false =>
    rintro e w1 ⟨rfl, hb1⟩
    have fin : Hid (Qct s l N = ⟨#[]⟩ ∧ Qel s l = 1) := by show _ ∧ _; simp [Qct, Qel, hr]
    go_wp2_with fail
    go_ret2
    exact ⟨Qbs fin.out.1.symm fin.out.2.symm, hb1⟩
  | true =>
    rintro e w1 ⟨rfl, hb1⟩
    have hok := Lib.hid (Qkv s hr)
    have hst := Lib.hid (stem_ok s hok.out.1 hok.out.2)
    have h8 : ¬ (8192 : Int) < l.length := by omega
    have finE : Hid (Qel s l = 0 ∧ ∀ t, t = Qct s l N ↔ t = if cnt l s = 0 then s else Qcc (Qbx s) N) := by
      have : ¬ 8192 < l.length := by omega
      show _ ∧ _; simp [Qct, Qel, hr, this]
    clear hr
    go_wp2_with fail
    refine (Qfe l s _ w w1 HV.out hb1).mono ?_
    rintro e w2 ⟨rfl, rfl⟩
    have HB1 := Lib.hid hb1
    clear hb1
    have hpc := HPC.out s
    rw [List.take_length] at hpc
    by_cases h0 : cnt l s = 0
    · have fin : Hid (s = Qct s l N) := (finE.out.2 s).2 (by rw [if_pos h0])
      have hp := hpc.2 h0
      clear hpc h0
      go_wp2_with fail
      go_ret2
      exact ⟨Qbs fin.out finE.out.1.symm, HB1.out⟩
    · have finN : Hid (∀ t, t = Qcc (Qbx s) N → t = Qct s l N) := fun t ht => (finE.out.2 t).2 (by rw [if_neg h0]; exact ht)
      have hp : ¬ Qap l s l.length < 0 := mt hpc.1 h0
      clear hpc h0
      go_wp2_with fail
      go_loopw [6] (fun v wr => ∃ (k : Nat), k ≤ s.size ∧ v = .string (s.extract 0 k) ∧ Hid (Qeb s k = Qeb s s.size) ∧ w1 = wr) (fun v _ => match v with | .string t => t.size | _ => 0)
      case atStart => exact ⟨s.size, Nat.le_refl _, by simp, rfl, rfl⟩
      case round =>
        obtain ⟨k, hk, rfl, hst2, rfl⟩ := hrel
        have hsz : (s.extract 0 k).size = k := by simp; omega
        by_cases hdig : 0 < k ∧ Qdc (nb s (k - 1)) = true
        · obtain ⟨k, rfl⟩ : ∃ j, k = j + 1 := ⟨k - 1, by omega⟩
          obtain ⟨t, ht⟩ : ∃ t, t = s.extract 0 (k + 1) := ⟨_, rfl⟩
          have hcv : Hid (∀ h : k < t.size, wrap64 (t[k].toNat : Int) = (nb s k : Int)) := by
            intro h
            subst ht
            have h1 : (s.extract 0 (k + 1))[k].toNat = nb s k := by
              rw [← Qgm s k (by omega)]
              congr 1
              rw [ByteArray.getElem_extract]
              congr 1
              omega
            rw [h1]
            exact Qkg _ (Qge s k)
          have hex : Hid (t.extract 0 k = s.extract 0 k) := by
            subst ht
            show _ = _
            rw [ByteArray.extract_extract]
            congr 1
            omega
          rw [← ht] at hsz ⊢
          have HD := Lib.hid hdig.2
          clear ht hdig
          go_wp2_with (go_at_call 207; refine (Qfd _ _).mono ?_; rw [hcv.out]; rintro e w2 ⟨rfl, rfl⟩; rw [show Qdc (nb s k : Int) = true from HD.out])
          go_roundw
          case rel =>
            refine ⟨k, by omega, congrArg Value.string hex.out, ?_, trivial⟩
            have h := hst2.out
            have hd : Qdc (nb s k : Int) = true := HD.out
            simp only [Qeb, hd, if_true] at h
            exact h
          case measure =>
            show (t.extract 0 k).size < t.size
            simp
            omega
        · have hstk : Qeb s k = k := by
            cases k with
            | zero => rfl
            | succ j =>
              have : Qdc (nb s j : Int) = false := by
                cases hd : Qdc (nb s j : Int) with
                | false => rfl
                | true => exact absurd ⟨Nat.succ_pos j, hd⟩ hdig
              simp only [Qeb, this]
              rfl
          obtain ⟨t, ht⟩ : ∃ t, t = s.extract 0 k := ⟨_, rfl⟩
          have HT : Hid (t = Qbx s) := by
            show _ = _
            unfold Qbx
            rw [ht, ← hst2.out, hstk]
          have hcv : Hid (∀ j, k = j + 1 → ∀ h : j < t.size, Qdc (wrap64 (t[j].toNat : Int)) = false) := by
            intro j hj h
            subst hj
            subst ht
            have h1 : (s.extract 0 (j + 1))[j].toNat = nb s j := by
              rw [← Qgm s j (by omega)]
              congr 1
              rw [ByteArray.getElem_extract]
              congr 1
              omega
            rw [h1, Qkg _ (Qge s j)]
            cases hd : Qdc (nb s j : Int) with
            | false => rfl
            | true => exact absurd ⟨Nat.succ_pos j, hd⟩ hdig
          rw [← ht] at hsz ⊢
          clear ht hstk hdig hst2
          have NEXT : Hid (∀ n, 1 ≤ n → n ≤ N → ∀ wz, Calls Tryz.prog 217 #[.string t, .int .i64 n] wz fun e w' => e = .returned (.string (Qcc (Qbx s) n)) ∧ Below wz.heap.size wz w') := by
            intro n h1 h2 wz
            rw [HT.out]
            exact rnumbered_any (Qbx s) hst.out.1 hst.out.2 n (by omega) wz
          rcases Nat.eq_zero_or_pos k with hk0 | hk0
          · have hz : (t.size : Int) = 0 := by omega
            go_wp2_with fail
            clear hz hk0 hsz hk hcv
            go_loopw [7] (fun i wr => ∃ (n : Nat), 1 ≤ n ∧ n ≤ N ∧ i = .int .i64 n ∧ Hid (Below w.heap.size w wr)) (fun i _ => N + 1 - (intOf i).toNat)
            case atStart => exact ⟨1, Nat.le_refl _, hN1, rfl, HB1.out⟩
            case round =>
              obtain ⟨n, hn1, hnN, rfl, hbel⟩ := hrel
              have hle : (n : Int) ≤ 20 * l.length + 40 := by omega
              have hC := Lib.hid (NEXT.out n hn1 hnN)
              obtain ⟨x, hx⟩ : ∃ x, x = Qcc (Qbx s) n := ⟨_, rfl⟩
              rw [← hx] at hC
              have HX := Lib.hid hx
              clear hx
              have hpc := HPC.out x
              rw [List.take_length] at hpc
              by_cases hc : cnt l x = 0
              · have fin : Hid (x = Qct s l N) := by
                  have hnN2 : n = N := by
                    by_cases h : n = N
                    · exact h
                    · have := HN4.out n hn1 (by omega)
                      rw [← HX.out] at this
                      exact absurd hc this
                  exact finN.out x (by rw [HX.out, hnN2])
                have hpx := hpc.2 hc
                clear hpc hc
                go_wp2_with fail
                refine (hC.out wr).mono ?_
                rintro e w4 ⟨rfl, hb4⟩
                have HB4 := Lib.hid (hbel.out.trans (hb4.mono hbel.out.size))
                clear hb4
                go_wp2_with fail
                refine (Qfe l x _ w w4 HV.out HB4.out).mono ?_
                rintro e w5 ⟨rfl, rfl⟩
                go_wp2_with fail
                refine (hC.out w4).mono ?_
                rintro e w6 ⟨rfl, hb6⟩
                have HB6 := Lib.hid (HB4.out.trans (hb6.mono HB4.out.size))
                clear hb6
                go_wp2_with fail
                go_ret2
                exact ⟨Qbs fin.out finE.out.1.symm, HB6.out⟩
              · have hnN2 : n < N := by
                  by_cases h : n = N
                  · exfalso
                    apply hc
                    rw [HX.out, h]
                    exact HN3.out
                  · omega
                have hpx : ¬ Qap l x l.length < 0 := mt hpc.1 hc
                clear hpc hc
                go_wp2_with fail
                refine (hC.out wr).mono ?_
                rintro e w4 ⟨rfl, hb4⟩
                have HB4 := Lib.hid (hbel.out.trans (hb4.mono hbel.out.size))
                clear hb4
                go_wp2_with fail
                refine (Qfe l x _ w w4 HV.out HB4.out).mono ?_
                rintro e w5 ⟨rfl, rfl⟩
                go_wp2_with fail
                go_roundw
                case rel => exact ⟨n + 1, by omega, by omega, by simp, HB4.out⟩
                case measure => simp [intOf]; omega
          · obtain ⟨j, rfl⟩ : ∃ j, k = j + 1 := ⟨k - 1, by omega⟩
            go_wp2_with (go_at_call 207; refine (Qfd _ _).mono ?_; rw [hcv.out j rfl]; rintro e w2 ⟨rfl, rfl⟩)
            clear hk0 hk hcv
            go_loopw [7] (fun i wr => ∃ (n : Nat), 1 ≤ n ∧ n ≤ N ∧ i = .int .i64 n ∧ Hid (Below w.heap.size w wr)) (fun i _ => N + 1 - (intOf i).toNat)
            case atStart => exact ⟨1, Nat.le_refl _, hN1, rfl, HB1.out⟩
            case round =>
              obtain ⟨n, hn1, hnN, rfl, hbel⟩ := hrel
              have hle : (n : Int) ≤ 20 * l.length + 40 := by omega
              have hC := Lib.hid (NEXT.out n hn1 hnN)
              obtain ⟨x, hx⟩ : ∃ x, x = Qcc (Qbx s) n := ⟨_, rfl⟩
              rw [← hx] at hC
              have HX := Lib.hid hx
              clear hx
              have hpc := HPC.out x
              rw [List.take_length] at hpc
              by_cases hc : cnt l x = 0
              · have fin : Hid (x = Qct s l N) := by
                  have hnN2 : n = N := by
                    by_cases h : n = N
                    · exact h
                    · have := HN4.out n hn1 (by omega)
                      rw [← HX.out] at this
                      exact absurd hc this
                  exact finN.out x (by rw [HX.out, hnN2])
                have hpx := hpc.2 hc
                clear hpc hc
                go_wp2_with fail
                refine (hC.out wr).mono ?_
                rintro e w4 ⟨rfl, hb4⟩
                have HB4 := Lib.hid (hbel.out.trans (hb4.mono hbel.out.size))
                clear hb4
                go_wp2_with fail
                refine (Qfe l x _ w w4 HV.out HB4.out).mono ?_
                rintro e w5 ⟨rfl, rfl⟩
                go_wp2_with fail
                refine (hC.out w4).mono ?_
                rintro e w6 ⟨rfl, hb6⟩
                have HB6 := Lib.hid (HB4.out.trans (hb6.mono HB4.out.size))
                clear hb6
                go_wp2_with fail
                go_ret2
                exact ⟨Qbs fin.out finE.out.1.symm, HB6.out⟩
              · have hnN2 : n < N := by
                  by_cases h : n = N
                  · exfalso
                    apply hc
                    rw [HX.out, h]
                    exact HN3.out
                  · omega
                have hpx : ¬ Qap l x l.length < 0 := mt hpc.1 hc
                clear hpc hc
                go_wp2_with fail
                refine (hC.out wr).mono ?_
                rintro e w4 ⟨rfl, hb4⟩
                have HB4 := Lib.hid (hbel.out.trans (hb4.mono hbel.out.size))
                clear hb4
                go_wp2_with fail
                refine (Qfe l x _ w w4 HV.out HB4.out).mono ?_
                rintro e w5 ⟨rfl, rfl⟩
                go_wp2_with fail
                go_roundw
                case rel => exact ⟨n + 1, by omega, by omega, by simp, HB4.out⟩
                case measure => simp [intOf]; omega
end Go.Proofs.YtdklpbefbamchaaGreat

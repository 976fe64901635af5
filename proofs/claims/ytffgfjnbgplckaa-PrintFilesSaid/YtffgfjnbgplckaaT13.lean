import Derived.Test.YtffgfjnbgplckaaT11
import Derived.Test.YtffgfjnbgplckaaT1
namespace Go.Proofs.Ytffgfjnbgplckaa
open Go.RowKit
mutual
/-- the names of all nodes of a kind -/
def namesT : Nd → Int → List ByteArray
  | .mk k _ s _ sub, q => (if k = q then [s] else []) ++ namesL sub q
def namesL : List Nd → Int → List ByteArray
  | [], _ => []
  | t :: ts, q => namesT t q ++ namesL ts q
end
theorem names_len : ∀ (t : Nd) (q : Int), (namesT t q).length ≤ ndT t := by
  refine Nd.ind ?_
  intro k a s n sub ih q
  have : ∀ (ls : List Nd), (∀ t ∈ ls, ∀ q, (namesT t q).length ≤ ndT t) → (namesL ls q).length ≤ ndL ls := by
    intro ls
    induction ls with
    | nil => intro _; simp [namesL, ndL]
    | cons t ts iht =>
      intro h
      have h1 := h t (by simp) q
      have h2 := iht fun s hs => h s (by simp [hs])
      simp only [namesL, ndL, List.length_append]; omega
  have h := this sub ih
  simp only [namesT, ndT, List.length_append]
  split <;> simp <;> omega
theorem namesL_len (ls : List Nd) (q : Int) : (namesL ls q).length ≤ ndL ls := by
  induction ls with
  | nil => simp [namesL, ndL]
  | cons t ts ih => have := names_len t q; simp only [namesL, ndL, List.length_append]; omega
theorem namesL_take (ls : List Nd) (q : Int) (k : Nat) (h : k < ls.length) : namesL (ls.take (k + 1)) q = namesL (ls.take k) q ++ namesT ls[k] q := by
  have happ : ∀ a b : List Nd, namesL (a ++ b) q = namesL a q ++ namesL b q := by
    intro a b
    induction a with
    | nil => rfl
    | cons t ts ih => simp only [List.cons_append, namesL, ih, List.append_assoc]
  rw [List.take_succ_eq_append_getElem h, happ]; simp only [namesL, List.append_nil]
theorem infoS : (Try.prog.info? 9).map (fun i => (i.zero, i.size, i.bytes)) = some (some (.string ByteArray.empty), 1, 16) := by kernel_rfl
theorem str_any {S S' : Nat → Prop} {w : World} {l : List ByteArray} : ∀ d ∈ l, ∀ cs, Rep S w d cs → Rep S' w d cs := fun _ _ _ h => rep_str.2 (rep_str.1 h)
theorem own_made {α : Type} [Enc α] {S : Nat → Prop} {T : TypeId} {lo : Nat} {w : World} (h : lo ≤ w.heap.size) : Own S T lo (.slice (some ⟨w.heap.size, 0, none⟩) 0 0) ([] : List α) (w.alloc (.cells #[] T)) :=
  ⟨[], World.ownsRow_made w #[] 0 h (Nat.zero_le _) (by simp), by simp only [List.map_nil, RepL]⟩
theorem str_lit {S : Nat → Prop} {w : World} (s : ByteArray) (hs : s.size ≤ maxLen) : RepS (fun b => S b ∨ b = w.heap.size) (w.alloc (.cells #[.string s] 9)) (.slice (some ⟨w.heap.size, 0, none⟩) 1 1) [s] := by
  have h := RepS.one (T := 9) (rep_str.2 ⟨rfl, hs⟩ : Rep S w s [.string s])
  exact h
theorem str_at {S : Nat → Prop} {w : World} {l : List ByteArray} {ad : Option Addr} {len cap : Nat} (h : RepS S w (.slice ad len cap) l) (k : Nat) (hk : k < l.length) : ∃ b off, ad = some ⟨b, off, none⟩ ∧ S b ∧ b < w.heap.size ∧ w.cell? ⟨b, off + k, none⟩ = some (.string l[k]) ∧ l[k].size ≤ maxLen := by
  obtain ⟨b, off, cs, h1, h2, h3, h4, h5⟩ := h.at k hk
  obtain ⟨rfl, h6⟩ := rep_str.1 h4
  have := h5 0 _ rfl
  have e : off + k * Enc.sz ByteArray + 0 = off + k := by show off + k * 1 + 0 = off + k; omega
  rw [e] at this
  exact ⟨b, off, h1, h2, h3, this, h6⟩
set_option maxRecDepth 100000 in
set_option maxHeartbeats 4000000 in
theorem collect_any : ∀ (t : Nd) (cs : List Value) (q : Int) (w : World), ndT t ≤ 8192 → NdC w t cs →
    Calls Try.prog 56 #[.agg cs.toArray, .int .i64 q] w fun e w' => ∃ v, e = .returned v ∧ RepS (fun b => w.heap.size ≤ b) w' v (namesT t q) ∧ Below w.heap.size w w' := by
  obtain ⟨i0, hi, hz0, hz1, hz2⟩ := info_parts infoS
  refine Nd.ind ?_
  intro kk aa ss n sub ih cs q w hn ht
  obtain ⟨a, cap, rfl, hsub, hlen, hnsa⟩ := nd_open ht
  simp only [ndT] at hn
  have IH := Lib.hid ih
  have HN : Hid (ndL sub ≤ 8191) := by show _ ≤ _; omega
  have HE := Lib.hid (boxes1 w #[.int .i64 kk, .int .i64 aa, .string ss, .int .i64 n, .slice a sub.length cap] 24)
  clear ht ih hn
  have main : ∀ (pre : List ByteArray), Hid (pre = (if kk = q then [ss] else [])) → pre.length ≤ 1 → namesT (.mk kk aa ss n sub) q = pre ++ namesL sub q := by
    intro pre h _; rw [h.out]; simp only [namesT]
  have MAIN := Lib.hid main
  clear main
  generalize namesT (.mk kk aa ss n sub) q = res at *
  simp only [Nd.kind, Nd.at, Nd.name, Nd.num, Nd.sub] at hsub hlen hnsa ⊢
  by_cases hq : kk = q
  · have RES : Hid (res = [ss] ++ namesL sub q) := MAIN.out [ss] (by show _ = _; rw [if_pos hq]) (by simp)
    have HSTR : Hid (RepS (fun b => False ∨ b = (w.alloc (.cells #[.int .i64 kk, .int .i64 aa, .string ss, .int .i64 n, .slice a sub.length cap] 24)).heap.size) ((w.alloc (.cells #[.int .i64 kk, .int .i64 aa, .string ss, .int .i64 n, .slice a sub.length cap] 24)).alloc (.cells #[.string ss] 9)) (.slice (some ⟨w.heap.size + 1, 0, none⟩) 1 1) [ss]) := by
      have h := str_lit (S := fun _ => False) (w := (w.alloc (.cells #[.int .i64 kk, .int .i64 aa, .string ss, .int .i64 n, .slice a sub.length cap] 24))) ss hnsa
      rw [show (Addr.mk (w.alloc (.cells #[.int .i64 kk, .int .i64 aa, .string ss, .int .i64 n, .slice a sub.length cap] 24)).heap.size 0 none) = ⟨w.heap.size + 1, 0, none⟩ from by simp] at h
      exact h
    clear MAIN
    subst hq
    go_enter Try.func56, Try.ntmps56
    go_wp2_with (at_builtin; refine wpList_push (S := fun _ => False) (lo := w.heap.size + 1) rfl _ _ 40 rfl 9 i0 (.string ByteArray.empty) 16 Try.underlying40 hi hz0 hz1 hz2 rfl (by decide) (Own.nil (α := ByteArray)) _ [ss] HSTR.out (by rfl) (by rfl) str_any (by unfold maxLen; simp) (by simp) (by simp) ?_; intro v2 w2 hown2 hb2 hg2 hap2; have EX := (Below.refl (w.alloc (.cells #[.int .i64 kk, .int .i64 aa, .string ss, .int .i64 n, .slice a sub.length cap] 24)).heap.size _).alloc (Nat.le_refl _) (.cells #[.string ss] 9); have BXs := ((show Box5 _ _ _ _ _ _ _ _ from HE.out.1).later EX (by simp)).later hb2 (by omega); have BWs := HE.out.2.1.trans ((EX.mono HE.out.2.1.size).trans (hb2.mono (by omega))); have BZs : w.heap.size + 1 ≤ w2.heap.size := (by have := hb2.size; simp at this; omega); obtain ⟨d0, d1, d2, d3, d4⟩ := BXs.cells; replace BXs := Lib.hid BXs; replace BWs := Lib.hid BWs; replace hown2 := Lib.hid hown2; clear EX hb2 hg2 hap2)
    go_loopw [5, 20] (fun v i wr => ∃ (k : Nat) (l : List ByteArray), k ≤ sub.length ∧ i = .int .i64 k ∧ Own (fun _ => False) 9 (w.heap.size + 1) v l wr ∧ Hid (l = [ss] ++ namesL (sub.take k) kk) ∧ Below w.heap.size w wr ∧ Box5 24 wr w.heap.size (.int .i64 kk) (.int .i64 aa) (.string ss) (.int .i64 n) (.slice a sub.length cap) ∧ w.heap.size + 1 ≤ wr.heap.size) (fun _ i _ => sub.length - (intOf i).toNat)
    case atStart => exact ⟨0, _, Nat.zero_le _, rfl, hown2.out, by show _ = _; simp [namesL], BWs.out, BXs.out, BZs⟩
    case round =>
      obtain ⟨k, l, hk, rfl, hown, HL, hbw, hbx, hsz⟩ := hrel
      by_cases hlt : k < sub.length
      · obtain ⟨bb, off, a', cap', rfl, e0, e1, e2, e3, e4, hts⟩ := sub_at hsub hbw k hlt
        have hd : Below wr.heap.size wr (wr.alloc (.cells #[.int .i64 sub[k].kind, .int .i64 sub[k].at, .string sub[k].name, .int .i64 sub[k].num, .slice a' sub[k].sub.length cap'] 24)) := (Below.refl _ _).alloc (Nat.le_refl _) _
        have hnk : Hid (ndT sub[k] ≤ 8192) := by have := ndT_mem (List.getElem_mem hlt); have := HN.out; show _ ≤ _; omega
        have HO := Lib.hid hown
        have HTS := Lib.hid (hts.later hd)
        have HD := Lib.hid hd
        have HBW := Lib.hid hbw
        have HBX := Lib.hid hbx
        have hll : Hid (l.length + (namesT sub[k] kk).length ≤ 8193) := by
          have h1 := namesL_take sub kk k hlt
          have h2 := namesL_len (sub.take (k + 1)) kk
          have h3 := ndL_take sub (k + 1)
          have h4 := HN.out
          have h5 : [ss].length ≤ 1 := by simp
          rw [h1, List.length_append] at h2
          show _ ≤ _
          rw [HL.out, List.length_append]; omega
        clear hown hts hd hbw hbx
        go_wp2_with fail
        refine (IH.out _ (List.getElem_mem hlt) _ kk _ hnk.out HTS.out).mono ?_
        rintro e w1 ⟨v1, rfl, hrep, hb1⟩
        have HB1 := Lib.hid (HD.out.trans (hb1.mono (by simp)))
        have HO1 := Lib.hid (HO.out.later HB1.out)
        have HR1 := Lib.hid hrep
        have HZ1 := Lib.hid HB1.out.size
        clear hrep hb1
        go_wp2_with (at_builtin; refine wpList_push rfl _ _ 40 rfl 9 i0 (.string ByteArray.empty) 16 Try.underlying40 hi hz0 hz1 hz2 rfl (by decide) HO1.out _ _ HR1.out (by rfl) (by rfl) str_any (by have := hll.out; unfold maxLen; omega) (by have := hll.out; omega) (by have := HZ1.out; omega) ?_; intro v2 w2 hown2 hb2 hg2 hap2)
        have hbf := HBW.out.trans ((HB1.out.mono HBW.out.size).trans (hb2.mono (by omega)))
        have hl2 : Hid (l ++ namesT sub[k] kk = [ss] ++ namesL (sub.take (k + 1)) kk) := by
          show _ = _; rw [namesL_take sub kk k hlt, HL.out, List.append_assoc]
        have hz2' := hb2.size
        have hb3 := (HBX.out.later HB1.out (by omega)).later hb2 (by omega)
        have HSZ : Hid (w.heap.size + 1 ≤ w2.heap.size) := by have := HZ1.out; show _ ≤ _; omega
        clear hb2 hg2 hap2 hz2'
        go_roundw
        case rel => exact ⟨k + 1, _, by omega, by go_num, hown2, hl2, hbf, hb3, HSZ.out⟩
        case measure => simp [intOf]; omega
      · obtain rfl : k = sub.length := by omega
        rw [List.take_length] at HL
        have fin : Hid (res = l) := by show _ = _; rw [RES.out, HL.out]
        have hres := hown.done.sub (S' := fun b => w.heap.size ≤ b) (fun b hb _ => hb.elim False.elim (fun h => by omega))
        go_wp2_with fail
        go_ret
        exact ⟨_, rfl, by rw [fin.out]; exact hres, hbw⟩
  · have e1 : (kk == q) = false := by simpa using hq
    have RES : Hid (res = [] ++ namesL sub q) := MAIN.out [] (by show _ = _; rw [if_neg hq]) (by simp)
    clear MAIN
    go_enter Try.func56, Try.ntmps56
    go_wp2_with fail
    go_loopw [5, 20] (fun v i wr => ∃ (k : Nat) (l : List ByteArray), k ≤ sub.length ∧ i = .int .i64 k ∧ Own (fun _ => False) 9 (w.heap.size + 1) v l wr ∧ Hid (l = ([] : List ByteArray) ++ namesL (sub.take k) q) ∧ Below w.heap.size w wr ∧ Box5 24 wr w.heap.size (.int .i64 kk) (.int .i64 aa) (.string ss) (.int .i64 n) (.slice a sub.length cap) ∧ w.heap.size + 1 ≤ wr.heap.size) (fun _ i _ => sub.length - (intOf i).toNat)
    case atStart => exact ⟨0, _, Nat.zero_le _, rfl, Own.nil, by show _ = _; simp [namesL], HE.out.2.1, HE.out.1, HE.out.2.2⟩
    case round =>
      obtain ⟨k, l, hk, rfl, hown, HL, hbw, hbx, hsz⟩ := hrel
      by_cases hlt : k < sub.length
      · obtain ⟨bb, off, a', cap', rfl, e0, e1, e2, e3, e4, hts⟩ := sub_at hsub hbw k hlt
        have hd : Below wr.heap.size wr (wr.alloc (.cells #[.int .i64 sub[k].kind, .int .i64 sub[k].at, .string sub[k].name, .int .i64 sub[k].num, .slice a' sub[k].sub.length cap'] 24)) := (Below.refl _ _).alloc (Nat.le_refl _) _
        have hnk : Hid (ndT sub[k] ≤ 8192) := by have := ndT_mem (List.getElem_mem hlt); have := HN.out; show _ ≤ _; omega
        have HO := Lib.hid hown
        have HTS := Lib.hid (hts.later hd)
        have HD := Lib.hid hd
        have HBW := Lib.hid hbw
        have HBX := Lib.hid hbx
        have hll : Hid (l.length + (namesT sub[k] q).length ≤ 8193) := by
          have h1 := namesL_take sub q k hlt
          have h2 := namesL_len (sub.take (k + 1)) q
          have h3 := ndL_take sub (k + 1)
          have h4 := HN.out
          have h5 : ([] : List ByteArray).length ≤ 1 := by simp
          rw [h1, List.length_append] at h2
          show _ ≤ _
          rw [HL.out, List.length_append]; omega
        clear hown hts hd hbw hbx
        go_wp2_with fail
        refine (IH.out _ (List.getElem_mem hlt) _ q _ hnk.out HTS.out).mono ?_
        rintro e w1 ⟨v1, rfl, hrep, hb1⟩
        have HB1 := Lib.hid (HD.out.trans (hb1.mono (by simp)))
        have HO1 := Lib.hid (HO.out.later HB1.out)
        have HR1 := Lib.hid hrep
        have HZ1 := Lib.hid HB1.out.size
        clear hrep hb1
        go_wp2_with (at_builtin; refine wpList_push rfl _ _ 40 rfl 9 i0 (.string ByteArray.empty) 16 Try.underlying40 hi hz0 hz1 hz2 rfl (by decide) HO1.out _ _ HR1.out (by rfl) (by rfl) str_any (by have := hll.out; unfold maxLen; omega) (by have := hll.out; omega) (by have := HZ1.out; omega) ?_; intro v2 w2 hown2 hb2 hg2 hap2)
        have hbf := HBW.out.trans ((HB1.out.mono HBW.out.size).trans (hb2.mono (by omega)))
        have hl2 : Hid (l ++ namesT sub[k] q = ([] : List ByteArray) ++ namesL (sub.take (k + 1)) q) := by
          show _ = _; rw [namesL_take sub q k hlt, HL.out, List.append_assoc]
        have hz2' := hb2.size
        have hb3 := (HBX.out.later HB1.out (by omega)).later hb2 (by omega)
        have HSZ : Hid (w.heap.size + 1 ≤ w2.heap.size) := by have := HZ1.out; show _ ≤ _; omega
        clear hb2 hg2 hap2 hz2'
        go_roundw
        case rel => exact ⟨k + 1, _, by omega, by go_num, hown2, hl2, hbf, hb3, HSZ.out⟩
        case measure => simp [intOf]; omega
      · obtain rfl : k = sub.length := by omega
        rw [List.take_length] at HL
        have fin : Hid (res = l) := by show _ = _; rw [RES.out, HL.out]
        have hres := hown.done.sub (S' := fun b => w.heap.size ≤ b) (fun b hb _ => hb.elim False.elim (fun h => by omega))
        go_wp2_with fail
        go_ret
        exact ⟨_, rfl, by rw [fin.out]; exact hres, hbw⟩
end Go.Proofs.Ytffgfjnbgplckaa

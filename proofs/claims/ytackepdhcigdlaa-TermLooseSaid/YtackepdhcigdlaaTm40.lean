import Derived.Test.YtackepdhcigdlaaTm39
namespace Go.Proofs.Ytackepdhcigdlaa
open Go.RowKit
mutual
/-- does an entry stand in a term -/
def stT : Tm → Int → Bool
  | .mk k n sub, d => ((k == 6 || k == 7) && n == d) || stL sub d
def stL : List Tm → Int → Bool
  | [], _ => false
  | t :: ts, d => stT t d || stL ts d
end
set_option maxRecDepth 100000 in
set_option maxHeartbeats 4000000 in
theorem stands_any : ∀ (t : Tm) (cs : List Value) (d : Int) (w : World), TmC w t cs →
    Calls Try.prog 69 #[.agg cs.toArray, .int .i64 d] w fun e w' => e = .returned (.bool (stT t d)) ∧ Below w.heap.size w w' := by
  refine Tm.ind ?_
  intro kk n sub ih cs d w ht
  obtain ⟨a, cap, rfl, hsub, hlen⟩ := tm_open ht
  simp only [Tm.kind, Tm.num, Tm.sub] at *
  have IH := Lib.hid ih
  have hA : Below w.heap.size w (w.alloc (.cells #[.int .i64 kk, .int .i64 n, .slice a sub.length cap] 24)) := (Below.refl _ _).alloc (Nat.le_refl _) _
  clear ih ht
  have HD : Hid (stT (.mk kk n sub) d = (((kk == 6 || kk == 7) && n == d) || stL sub d)) := by show _ = _; simp only [stT]
  cases h6 : (kk == 6) <;> cases h7 : (kk == 7) <;> cases hn : (n == d)
  all_goals
    rw [h6, h7, hn] at HD
    go_enter Try.func69, Try.ntmps69
    go_wp2_with fail
    first
      | (go_ret
         exact ⟨ret_bool (by rw [HD.out]; rfl), hA⟩)
      | (go_loopw [24] (fun i wr => ∃ (k : Nat), k ≤ sub.length ∧ i = .int .i64 k ∧ Hid (stL (sub.drop k) d = stL sub d) ∧ Below w.heap.size w wr) (fun i _ => sub.length - (intOf i).toNat)
         case atStart => exact ⟨0, Nat.zero_le _, rfl, rfl, hA⟩
         case round =>
           obtain ⟨k, hk, rfl, hs, hbel⟩ := hrel
           by_cases hlt : k < sub.length
           · obtain ⟨bb, off, a', cap', rfl, e0, e1, e2, hts⟩ := sub_at hsub hbel k hlt
             have hA2 : Below wr.heap.size wr (wr.alloc (.cells #[.int .i64 sub[k].kind, .int .i64 sub[k].num, .slice a' sub[k].sub.length cap'] 24)) := (Below.refl _ _).alloc (Nat.le_refl _) _
             have C := Lib.hid (IH.out sub[k] (List.getElem_mem hlt) _ d _ (hts.later hA2))
             have HB := Lib.hid (hbel.trans (hA2.mono hbel.size))
             have hst : Hid (stL (sub.drop k) d = (stT sub[k] d || stL (sub.drop (k + 1)) d)) := by
               show _ = _
               rw [List.drop_eq_getElem_cons hlt]
               simp only [stL]
             clear hts hA2
             cases hq : stT sub[k] d with
             | true =>
               have fin : Hid (stL sub d = true) := by
                 show _ = _
                 rw [← hs.out, hst.out, hq]; rfl
               rw [hq] at C
               clear hq hst hs
               go_wp2_with fail
               refine C.out.mono ?_
               rintro e w2 ⟨rfl, hb2⟩
               have HB2 := Lib.hid (HB.out.trans (hb2.mono HB.out.size))
               clear hb2
               go_wp2_with fail
               go_ret
               exact ⟨ret_bool (by rw [HD.out, fin.out]; rfl), HB2.out⟩
             | false =>
               have G : Hid (stL (sub.drop (k + 1)) d = stL sub d) := by
                 show _ = _
                 rw [← hs.out, hst.out, hq]; rfl
               rw [hq] at C
               clear hq hst hs
               go_wp2_with fail
               refine C.out.mono ?_
               rintro e w2 ⟨rfl, hb2⟩
               have HB2 := Lib.hid (HB.out.trans (hb2.mono HB.out.size))
               clear hb2
               go_wp2_with fail
               go_roundw
               case rel => exact ⟨k + 1, hlt, by simp, G.out, HB2.out⟩
               case measure => simp [intOf]; omega
           · have fin : Hid (stL sub d = false) := by
               show _ = _
               rw [← hs.out, List.drop_of_length_le (by omega)]; simp only [stL]
             go_wp2_with fail
             go_ret
             exact ⟨ret_bool (by rw [HD.out, fin.out]; rfl), hbel⟩)
end Go.Proofs.Ytackepdhcigdlaa

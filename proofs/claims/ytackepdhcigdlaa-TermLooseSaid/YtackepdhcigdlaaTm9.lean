import Derived.Test.YtackepdhcigdlaaTm8
import Derived.Test.YtackepdhcigdlaaTm7
namespace Go.Proofs.Ytackepdhcigdlaa
open Go.RowKit
mutual
def hgT : Tm → Nat
  | .mk _ _ sub => hgL sub + 1
def hgL : List Tm → Nat
  | [] => 0
  | t :: ts => max (hgT t) (hgL ts)
end
theorem dp_hg : ∀ (t : Tm) (h : Int), 0 ≤ h → h ≤ 129 → dpT t h = min (h + hgT t - 1) 129 := by
  refine Tm.ind ?_
  intro k n sub ih h h0 h1
  have : ∀ (l : List Tm), (∀ s ∈ l, ∀ (h : Int), 0 ≤ h → h ≤ 129 → dpT s h = min (h + hgT s - 1) 129) → ∀ h m : Int, 0 ≤ h → h ≤ 128 → h ≤ m → dpL l h m = max m (min (h + hgL l) 129) := by
    intro l
    induction l with
    | nil => intro _ h m _ _ _; simp only [dpL, hgL]; omega
    | cons t ts iht =>
      intro hl h m h0 h1 h2
      simp only [dpL, hgL]
      rw [hl t (by simp) (h + 1) (by omega) (by omega), iht (fun s hs => hl s (by simp [hs])) h _ h0 h1 (by omega)]
      omega
  simp only [dpT, hgT]
  by_cases hb : 128 < h
  · rw [if_pos hb]; omega
  · rw [if_neg hb, this sub ih h h h0 (by omega) (Int.le_refl _)]; omega
theorem hgL_append (a b : List Tm) : hgL (a ++ b) = max (hgL a) (hgL b) := by
  induction a with
  | nil => simp [hgL]
  | cons t ts ih => simp only [List.cons_append, hgL, ih]; omega
/-- the next level -/
def lvl (ts : List Tm) : List Tm := ts.flatMap Tm.sub
theorem nd_sub (t : Tm) : ndT t = ndL t.sub + 1 := by cases t; simp only [ndT, Tm.sub]
theorem hg_sub (t : Tm) : hgT t = hgL t.sub + 1 := by cases t; simp only [hgT, Tm.sub]
theorem lvl_nd (ts : List Tm) : ndL (lvl ts) ≤ ndL ts := by
  unfold lvl
  induction ts with
  | nil => simp
  | cons t ts ih => rw [List.flatMap_cons, ndL_append]; simp only [ndL]; rw [nd_sub t]; omega
theorem lvl_hg (ts : List Tm) (h : ts ≠ []) : hgL ts = hgL (lvl ts) + 1 := by
  unfold lvl
  induction ts with
  | nil => exact absurd rfl h
  | cons t ts ih =>
    rw [List.flatMap_cons, hgL_append]; simp only [hgL]; rw [hg_sub t]
    by_cases he : ts = []
    · subst he; simp [hgL]
    · rw [ih he]; omega
theorem lvl_take (ts : List Tm) (k : Nat) (h : k < ts.length) : lvl (ts.take (k + 1)) = lvl (ts.take k) ++ ts[k].sub := by
  unfold lvl; rw [List.take_succ_eq_append_getElem h]; simp only [List.flatMap_append, List.flatMap_cons, List.flatMap_nil, List.append_nil]
theorem ndL_take (ts : List Tm) (k : Nat) : ndL (ts.take k) ≤ ndL ts := by
  have := ndL_append (ts.take k) (ts.drop k)
  rw [List.take_append_drop] at this; omega
/-- an element of a slice of terms whose own cells are newer than what they lead to -/
theorem sub_at2 {w wo wr : World} {a : Option Addr} {cap : Nat} {ts : List Tm} {css : List (List Value)} (hsl : SlN wo 3 (.slice a ts.length cap) css) (hcs : TmCs w ts css) (hb : Below wo.heap.size wo wr) (k : Nat) (hlt : k < ts.length) :
    ∃ b off a' cap', a = some ⟨b, off, none⟩ ∧ wr.cell? ⟨b, off + k * 3, none⟩ = some (.int .i64 ts[k].kind) ∧ wr.cell? ⟨b, off + k * 3 + 1, none⟩ = some (.int .i64 ts[k].num) ∧
      wr.cell? ⟨b, off + k * 3 + 2, none⟩ = some (.slice a' ts[k].sub.length cap') ∧ TmC w ts[k] [.int .i64 ts[k].kind, .int .i64 ts[k].num, .slice a' ts[k].sub.length cap'] := by
  have hlen := hcs.length
  obtain ⟨a0, c0, hv, _, _, hget⟩ := hsl
  simp only [Value.slice.injEq] at hv
  obtain ⟨rfl, _, rfl⟩ := hv
  obtain ⟨b, off, rfl, hgg⟩ := hget (by intro e; rw [e] at hlen; simp at hlen; omega)
  obtain ⟨c, hck, htk⟩ := hcs.get k hlt
  obtain ⟨a', cap', rfl, -, -⟩ := tm_open htk
  have hx := (hgg k _ hck).2
  have c0 := hx 0 _ rfl
  have c1 := hx 1 _ rfl
  have c2 := hx 2 _ rfl
  refine ⟨b, off, a', cap', rfl, ?_, ?_, ?_, htk⟩
  · rw [Nat.add_zero] at c0; exact (hb.cell (World.block_lt_of_cell? wo _ c0)).trans c0
  · exact (hb.cell (World.block_lt_of_cell? wo _ c1)).trans c1
  · exact (hb.cell (World.block_lt_of_cell? wo _ c2)).trans c2
set_option maxRecDepth 100000 in
set_option maxHeartbeats 2000000 in
theorem rdepth_any (t : Tm) (cs : List Value) (w : World) (ht : TmC w t cs) :
    Calls Try.prog 53 #[.agg cs.toArray] w fun e w' => e = .returned (.int .i64 (depthT t)) ∧ Below w.heap.size w w' := by
  obtain ⟨i0, hi, hz0, hz1, hz2⟩ := info_parts info24
  have ht0 := ht
  obtain ⟨a, cap, rfl, hsub, hlen⟩ := tm_open ht
  clear hsub ht
  have hd : Below w.heap.size w (w.alloc (.cells #[.int .i64 t.kind, .int .i64 t.num, .slice a t.sub.length cap] 24)) := (Below.refl _ _).alloc (Nat.le_refl _) _
  by_cases hb : 8192 < sizeT t
  · have fin : Hid (depthT t = 129) := if_pos hb
    go_enter Try.func53, Try.ntmps53
    go_wp2_with (go_at_call 74; refine (rsize_any t _ _ (ht0.later hd)).mono ?_; rintro e w1 ⟨rfl, hb1⟩)
    go_ret
    exact ⟨ret_int fin.out.symm, hd.trans (hb1.mono hd.size)⟩
  · have hn : ndT t ≤ 8192 := by
      have := sz_nd t 0 (by omega) (by omega)
      unfold sizeT at hb; omega
    have fin : Hid (depthT t = min (hgT t : Int) 129) := by
      have h1 : depthT t = dpT t 1 := if_neg hb
      have h2 := dp_hg t 1 (by omega) (by omega)
      show _ = _; rw [h1, h2]; omega
    go_enter Try.func53, Try.ntmps53
    go_wp2_with fail
    refine (rsize_any t _ _ (ht0.later hd)).mono ?_
    rintro e w1 ⟨rfl, hb1⟩
    have c0 : w1.cell? ⟨w.heap.size, 0, none⟩ = some (.int .i64 t.kind) := (hb1.cell (by simp)).trans (by simp)
    have c1 : w1.cell? ⟨w.heap.size, 1, none⟩ = some (.int .i64 t.num) := (hb1.cell (by simp)).trans (by simp)
    have c2 : w1.cell? ⟨w.heap.size, 2, none⟩ = some (.slice a t.sub.length cap) := (hb1.cell (by simp)).trans (by simp)
    have hw1 := hd.trans (hb1.mono hd.size)
    clear hb1
    go_wp2_with fail
    clear c0 c1 c2
    go_loopw [3, 4] (fun v g wr => ∃ (ts : List Tm) (css : List (List Value)) (d : Nat), d ≤ 129 ∧ g = .int .i64 d ∧ TmCs w ts css ∧ SlN wr 3 v css ∧ ndL ts ≤ 8192 ∧ Hid (min (d + hgL ts) 129 = min (hgT t) 129) ∧ Below w.heap.size w wr) (fun _ g _ => 129 - (intOf g).toNat)
    case atStart =>
      refine ⟨[t], [[.int .i64 t.kind, .int .i64 t.num, .slice a t.sub.length cap]], 0, by omega, rfl, ?_, ?_, by simp only [ndL]; omega, ?_, hw1.alloc hw1.size _⟩
      · simp only [TmCs]; exact ⟨_, [], rfl, ht0, rfl⟩
      · have h := own_litN (w := w1) (xs := [.int .i64 t.kind, .int .i64 t.num, .slice a t.sub.length cap]) (n := 1) (size := 3) 24 rfl (by decide)
        exact SlN.own (css := [[.int .i64 t.kind, .int .i64 t.num, .slice a t.sub.length cap]]) h rfl (by intro c hc; simp at hc; subst hc; rfl)
      · show _ = _; simp only [hgL]; congr 1; omega
    case round =>
      obtain ⟨ts, css, d, hd1, rfl, hcs, hsl, hnd, HN, hbel⟩ := hrel
      obtain ⟨aB, capB, hB, hcap1, hcap2⟩ := hsl.shape
      have hlc := hcs.length
      rw [hlc] at hB hcap1
      subst hB
      have hlen2 := ndL_len ts
      by_cases hne : ts = []
      · subst hne
        have fin2 : Hid ((d : Int) = depthT t) := by
          have h1 := HN.out
          simp only [hgL] at h1
          show _ = _; rw [fin.out]; omega
        go_wp2_with fail
        go_ret
        exact ⟨ret_int fin2.out, hbel⟩
      · have hpos : 0 < ts.length := by rcases ts with _ | ⟨x, xs⟩; exact absurd rfl hne; simp
        by_cases hbig : d < 129
        · have HNE := Lib.hid hne; clear hne
          obtain ⟨wo, rfl⟩ : ∃ wo : World, wo = wr := ⟨_, rfl⟩
          have hd129 : decide ((d : Int) < 129) = true := by simp; omega
          go_wp2_with fail
          go_loopw [5, 6] (fun v i wi => ∃ (k : Nat) (cn : List (List Value)), k ≤ ts.length ∧ i = .int .i64 k ∧ TmCs w (lvl (ts.take k)) cn ∧ wi.ownsRow wo.heap.size 24 3 v (lvl (ts.take k)).length cn.flatten ∧ Below wo.heap.size wo wi) (fun _ i _ => ts.length - (intOf i).toNat)
          case atStart =>
            refine ⟨0, [], by omega, rfl, by simp only [lvl, List.take_zero, List.flatMap_nil, TmCs], ?_, (Below.refl _ _).alloc (Nat.le_refl _) _⟩
            exact World.ownsRow_made wo #[] 0 (Nat.le_refl _) (Nat.zero_le _) rfl
          case round =>
            obtain ⟨k, cn, hk, rfl, hcn, hown, hbi⟩ := hrel
            by_cases hlt : k < ts.length
            · obtain ⟨b, off, a', cap', rfl, e0, e1, e2, hts⟩ := sub_at2 hsl hcs hbi k hlt
              obtain ⟨s, hse, cx, hxsl0, hxcs⟩ := hts.open
              simp only [List.cons.injEq, true_and, and_true] at hse
              subst hse
              have hxsl := hxsl0.later (hbel.trans (hbi.mono hbel.size))
              clear hxsl0
              have hcx3 := tmcs_three hxcs
              have hxl := hxcs.length
              have hnl : (lvl (ts.take k)).length + ts[k].sub.length ≤ 8192 := by
                have h1 := lvl_take ts k hlt
                have h2 := lvl_nd (ts.take (k+1))
                have h3 := ndL_take ts (k+1)
                have h4 := ndL_len (lvl (ts.take (k+1)))
                rw [h1, List.length_append] at h4; rw [h1] at h2; omega
              clear e0 e1
              go_wp2_with (at_builtin; refine wpList_app_sl rfl _ _ 22 rfl wo.heap.size 24 i0 (.agg #[.int .i64 0, .int .i64 0, .slice none 0 0]) 3 40 Try.underlying22 hi hz0 hz1 hz2 rfl (by decide) _ _ _ hown _ cx hxsl rfl rfl (fun c hc => (hcx3 c hc).2) (fun c hc => (hcx3 c hc).1) (by unfold maxLen; omega) (by omega) hbi.size ?_)
              intro v1 w2 hown1 hb2 _
              have hcn1 : TmCs w (lvl (ts.take (k + 1))) (cn ++ cx) := by rw [lvl_take ts k hlt]; exact hcn.append hxcs
              have hown2 : w2.ownsRow wo.heap.size 24 3 v1 (lvl (ts.take (k + 1))).length (cn ++ cx).flatten := by
                rw [lvl_take ts k hlt, List.length_append, List.flatten_append]; exact hown1
              have hbi2 := hbi.trans hb2
              clear hown1 hown hcn hbi hb2 hxsl hxcs
              go_wp2_with fail
              go_roundw
              case rel => exact ⟨k + 1, cn ++ cx, by omega, by go_num, hcn1, hown2, hbi2⟩
              case measure => simp [intOf]; omega
            · rw [List.take_of_length_le (by omega)] at hcn hown
              have hsl2 := SlN.own hown hcn.length (fun c hc => (tmcs_three hcn c hc).1)
              have hnd2 : ndL (lvl ts) ≤ 8192 := Nat.le_trans (lvl_nd ts) hnd
              have HN2 : Hid (min (d + 1 + hgL (lvl ts)) 129 = min (hgT t) 129) := by
                have h1 := HN.out
                rw [lvl_hg ts HNE.out] at h1
                show _ = _; rw [← h1]; congr 1; omega
              go_wp2_with fail
              go_roundw
              case rel => exact ⟨lvl ts, cn, d + 1, by omega, by go_num, hcn, hsl2, hnd2, HN2, hbel.trans (hbi.mono hbel.size)⟩
              case measure => simp [intOf]; omega
        · have fin2 : Hid ((d : Int) = depthT t) := by
            have h1 := HN.out
            show _ = _; rw [fin.out]; omega
          go_wp2_with fail
          go_ret
          exact ⟨ret_int fin2.out, hbel⟩
end Go.Proofs.Ytackepdhcigdlaa

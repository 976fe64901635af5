import Derived.Test.YtffgfjnbgplckaaNd5
import Derived.Deep.RegionHeld3
namespace Go.Proofs.Ytffgfjnbgplckaa
open Go.RowKit
/-- an element of a slice of terms whose own cells are newer than what they lead to -/
theorem sub_at2 {w wo wr : World} {a : Option Addr} {cap : Nat} {ts : List Nd} {css : List (List Value)} (hsl : SlN wo 5 (.slice a ts.length cap) css) (hcs : NdCs w ts css) (hb : Below wo.heap.size wo wr) (k : Nat) (hlt : k < ts.length) :
    ∃ b off a' cap', a = some ⟨b, off, none⟩ ∧ wr.cell? ⟨b, off + k * 5, none⟩ = some (.int .i64 ts[k].kind) ∧ wr.cell? ⟨b, off + k * 5 + 3, none⟩ = some (.int .i64 ts[k].num) ∧
      wr.cell? ⟨b, off + k * 5 + 4, none⟩ = some (.slice a' ts[k].sub.length cap') ∧ NdC w ts[k] [.int .i64 ts[k].kind, .int .i64 ts[k].at, .string ts[k].name, .int .i64 ts[k].num, .slice a' ts[k].sub.length cap'] := by
  have hlen := hcs.length
  obtain ⟨a0, c0, hv, _, _, hget⟩ := hsl
  simp only [Value.slice.injEq] at hv
  obtain ⟨rfl, _, rfl⟩ := hv
  obtain ⟨b, off, rfl, hgg⟩ := hget (by intro e; rw [e] at hlen; simp at hlen; omega)
  obtain ⟨c, hck, htk⟩ := hcs.get k hlt
  obtain ⟨a', cap', rfl, -, -⟩ := nd_open htk
  have hx := (hgg k _ hck).2
  have c0 := hx 0 _ rfl
  have c1 := hx 3 _ rfl
  have c2 := hx 4 _ rfl
  refine ⟨b, off, a', cap', rfl, ?_, ?_, ?_, htk⟩
  · rw [Nat.add_zero] at c0; exact (hb.cell (World.block_lt_of_cell? wo _ c0)).trans c0
  · exact (hb.cell (World.block_lt_of_cell? wo _ c1)).trans c1
  · exact (hb.cell (World.block_lt_of_cell? wo _ c2)).trans c2
set_option maxRecDepth 100000 in
set_option maxHeartbeats 2000000 in
theorem rdepth_any (t : Nd) (cs : List Value) (w : World) (ht : NdC w t cs) :
    Calls Try.prog 23 #[.agg cs.toArray] w fun e w' => e = .returned (.int .i64 (depthT t)) ∧ Below w.heap.size w w' := by
  obtain ⟨i0, hi, hz0, hz1, hz2⟩ := info_parts info27
  have ht0 := ht
  obtain ⟨a, cap, rfl, hsub, hlen, hnsa⟩ := nd_open ht
  clear hsub ht
  have hd : Below w.heap.size w (w.alloc (.cells #[.int .i64 t.kind, .int .i64 t.at, .string t.name, .int .i64 t.num, .slice a t.sub.length cap] 27)) := (Below.refl _ _).alloc (Nat.le_refl _) _
  by_cases hb : 8192 < sizeT t
  · have fin : Hid (depthT t = 129) := if_pos hb
    go_enter Try.func23, Try.ntmps23
    go_wp2_with (go_at_call 22; refine (rsize_any t _ _ (ht0.later hd)).mono ?_; rintro e w1 ⟨rfl, hb1⟩)
    go_ret
    exact ⟨ret_int fin.out.symm, hd.trans (hb1.mono hd.size)⟩
  · have hn : ndT t ≤ 8192 := by
      have := sz_nd t 0 (by omega) (by omega)
      unfold sizeT at hb; omega
    have fin : Hid (depthT t = min (hgT t : Int) 129) := by
      have h1 : depthT t = dpT t 1 := if_neg hb
      have h2 := dp_hg t 1 (by omega) (by omega)
      show _ = _; rw [h1, h2]; omega
    go_enter Try.func23, Try.ntmps23
    go_wp2_with fail
    refine (rsize_any t _ _ (ht0.later hd)).mono ?_
    rintro e w1 ⟨rfl, hb1⟩
    obtain ⟨c0, c1, c2, c3, c4⟩ := box5_cells (by simpa using hb1)
    have hw1 := hd.trans (hb1.mono hd.size)
    clear hb1
    go_wp2_with fail
    clear c0 c1 c2 c3 c4
    go_loopw [3, 4] (fun v g wr => ∃ (ts : List Nd) (css : List (List Value)) (d : Nat), d ≤ 129 ∧ g = .int .i64 d ∧ NdCs w ts css ∧ SlN wr 5 v css ∧ ndL ts ≤ 8192 ∧ Hid (min (d + hgL ts) 129 = min (hgT t) 129) ∧ Below w.heap.size w wr) (fun _ g _ => 129 - (intOf g).toNat)
    case atStart =>
      refine ⟨[t], [[.int .i64 t.kind, .int .i64 t.at, .string t.name, .int .i64 t.num, .slice a t.sub.length cap]], 0, by omega, rfl, ?_, ?_, by simp only [ndL]; omega, ?_, hw1.alloc hw1.size _⟩
      · simp only [NdCs]; exact ⟨_, [], rfl, ht0, rfl⟩
      · have h := own_litN (w := w1) (xs := [.int .i64 t.kind, .int .i64 t.at, .string t.name, .int .i64 t.num, .slice a t.sub.length cap]) (n := 1) (size := 5) 27 rfl (by decide)
        exact SlN.own (css := [[.int .i64 t.kind, .int .i64 t.at, .string t.name, .int .i64 t.num, .slice a t.sub.length cap]]) h rfl (by intro c hc; simp at hc; subst hc; rfl)
      · show _ = _; simp only [hgL]; congr 1; omega
    case round =>
      obtain ⟨ts, css, d, hd1, rfl, hcs, hsl, hnd, HN, hbel⟩ := hrel
      obtain ⟨aB, capB, hB, hcap1, hcap2⟩ := hsl.shape
      have hlc := hcs.length
      rw [hlc] at hB hcap1
      subst hB
      have hlen2 := ndL_len ts
      by_cases hne : ts = []
      · subst hne
        have fin2 : Hid ((d : Int) = depthT t) := by
          have h1 := HN.out
          simp only [hgL] at h1
          show _ = _; rw [fin.out]; omega
        go_wp2_with fail
        go_ret
        exact ⟨ret_int fin2.out, hbel⟩
      · have hpos : 0 < ts.length := by rcases ts with _ | ⟨x, xs⟩; exact absurd rfl hne; simp
        by_cases hbig : d < 129
        · have HNE := Lib.hid hne; clear hne
          obtain ⟨wo, rfl⟩ : ∃ wo : World, wo = wr := ⟨_, rfl⟩
          have hd129 : decide ((d : Int) < 129) = true := by simp; omega
          go_wp2_with fail
          go_loopw [5, 6] (fun v i wi => ∃ (k : Nat) (cn : List (List Value)), k ≤ ts.length ∧ i = .int .i64 k ∧ NdCs w (lvl (ts.take k)) cn ∧ wi.ownsRow wo.heap.size 27 5 v (lvl (ts.take k)).length cn.flatten ∧ Below wo.heap.size wo wi) (fun _ i _ => ts.length - (intOf i).toNat)
          case atStart =>
            refine ⟨0, [], by omega, rfl, by simp only [lvl, List.take_zero, List.flatMap_nil, NdCs], ?_, (Below.refl _ _).alloc (Nat.le_refl _) _⟩
            exact World.ownsRow_made wo #[] 0 (Nat.le_refl _) (Nat.zero_le _) rfl
          case round =>
            obtain ⟨k, cn, hk, rfl, hcn, hown, hbi⟩ := hrel
            by_cases hlt : k < ts.length
            · obtain ⟨b, off, a', cap', rfl, e0, e1, e2, hts⟩ := sub_at2 hsl hcs hbi k hlt
              obtain ⟨s, hse, -, cx, hxsl0, hxcs⟩ := hts.open
              simp only [List.cons.injEq, true_and, and_true] at hse
              subst hse
              have hxsl := hxsl0.later (hbel.trans (hbi.mono hbel.size))
              clear hxsl0
              have hcx3 := ndcs_three hxcs
              have hxl := hxcs.length
              have hnl : (lvl (ts.take k)).length + ts[k].sub.length ≤ 8192 := by
                have h1 := lvl_take ts k hlt
                have h2 := lvl_nd (ts.take (k+1))
                have h3 := ndL_take ts (k+1)
                have h4 := ndL_len (lvl (ts.take (k+1)))
                rw [h1, List.length_append] at h4; rw [h1] at h2; omega
              clear e0 e1
              go_wp2_with (at_builtin; refine wpList_app_sl rfl _ _ 25 rfl wo.heap.size 27 i0 (.agg #[.int .i64 0, .int .i64 0, .string ByteArray.empty, .int .i64 0, .slice none 0 0]) 5 64 Try.underlying25 hi hz0 hz1 hz2 rfl (by decide) _ _ _ hown _ cx hxsl rfl rfl (fun c hc => (hcx3 c hc).2) (fun c hc => (hcx3 c hc).1) (by unfold maxLen; omega) (by omega) hbi.size ?_)
              intro v1 w2 hown1 hb2 _
              have hcn1 : NdCs w (lvl (ts.take (k + 1))) (cn ++ cx) := by rw [lvl_take ts k hlt]; exact hcn.append hxcs
              have hown2 : w2.ownsRow wo.heap.size 27 5 v1 (lvl (ts.take (k + 1))).length (cn ++ cx).flatten := by
                rw [lvl_take ts k hlt, List.length_append, List.flatten_append]; exact hown1
              have hbi2 := hbi.trans hb2
              clear hown1 hown hcn hbi hb2 hxsl hxcs
              go_wp2_with fail
              go_roundw
              case rel => exact ⟨k + 1, cn ++ cx, by omega, by go_num, hcn1, hown2, hbi2⟩
              case measure => simp [intOf]; omega
            · rw [List.take_of_length_le (by omega)] at hcn hown
              have hsl2 := SlN.own hown hcn.length (fun c hc => (ndcs_three hcn c hc).1)
              have hnd2 : ndL (lvl ts) ≤ 8192 := Nat.le_trans (lvl_nd ts) hnd
              have HN2 : Hid (min (d + 1 + hgL (lvl ts)) 129 = min (hgT t) 129) := by
                have h1 := HN.out
                rw [lvl_hg ts HNE.out] at h1
                show _ = _; rw [← h1]; congr 1; omega
              go_wp2_with fail
              go_roundw
              case rel => exact ⟨lvl ts, cn, d + 1, by omega, by go_num, hcn, hsl2, hnd2, HN2, hbel.trans (hbi.mono hbel.size)⟩
              case measure => simp [intOf]; omega
        · have fin2 : Hid ((d : Int) = depthT t) := by
            have h1 := HN.out
            show _ = _; rw [fin.out]; omega
          go_wp2_with fail
          go_ret
          exact ⟨ret_int fin2.out, hbel⟩
end Go.Proofs.Ytffgfjnbgplckaa

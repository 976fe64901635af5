import Derived.Test.YtdklpbefbamchaaGreatBUtf
import Derived.Lib.AppendStr
import Derived.Lib.ConvBytes
set_option linter.unusedSimpArgs false
set_option linter.unusedVariables false
set_option maxHeartbeats 16000000
set_option maxRecDepth 100000
namespace Go.Proofs.YtdklpbefbamchaaGreat
open Go.RowKit
def allF (s : ByteArray) : Nat → Nat → List Int × Nat × Bool
 | 0, k => ([], k, true)
 | f + 1, k => if k < s.size then (match Qcg s k with
   | some x => (x.1 :: (allF s f (k + x.2.toNat)).1, (allF s f (k + x.2.toNat)).2)
   | none => ([], k, false)) else ([], k, true)
def addP (l : List Int) (r : List Int × Nat × Bool) : List Int × Nat × Bool := (l ++ r.1, r.2)
def allA (s : ByteArray) : List Int × Nat × Bool := allF s s.size 0
def allS (s : ByteArray) : List Int := if 65535 < s.size then [] else if (allA s).2.2 = true then (allA s).1 else []
def Qfm (s : ByteArray) : Int := if 65535 < s.size then 0 else if (allA s).2.2 = true then s.size else (allA s).2.1
def allE (s : ByteArray) : Int := if 65535 < s.size then 2 else if (allA s).2.2 = true then 0 else 1
theorem Qjn (s : ByteArray) (f k : Nat) (h : s.size ≤ k) : allF s f k = ([], k, true) := by
 cases f with
 | zero => rfl
 | succ f => rw [allF, if_neg (by omega)]
theorem allF_none (s : ByteArray) (f k : Nat) (h : k < s.size) (hf : s.size ≤ k + f) (hd : Qcg s k = none) : allF s f k = ([], k, false) := by
 cases f with
 | zero => omega
 | succ f => rw [allF, if_pos h, hd]
theorem allF_some (s : ByteArray) (f k : Nat) (x : Int × Int) (l : List Int) (h : k < s.size) (hf : s.size ≤ k + f) (hd : Qcg s k = some x) (hw : 1 ≤ x.2) : ∃ f', s.size ≤ k + x.2.toNat + f' ∧ addP l (allF s f k) = addP (l ++ [x.1]) (allF s f' (k + x.2.toNat)) := by
  cases f with
  | zero => omega
  | succ f =>
    refine ⟨f, by omega, ?_⟩
    rw [allF, if_pos h, hd]
    simp [addP]
theorem decAt_bd (s : ByteArray) (k : Nat) (h : k < s.size) (x : Int × Int) (hd : Qcg s k = some x) : 1 ≤ x.2 ∧ x.2 ≤ 4 ∧ (k : Int) + x.2 ≤ s.size := by
 rw [Qij s k h] at hd
 obtain ⟨hr, hw, r, hl⟩ := dec_some _ _ _ hd
 have h4 := Qkf x.1
 have hlen := Qep x.1 hr
 have := congrArg List.length hl
 rw [List.length_drop, Qcb, List.length_append] at this
 omega
theorem info3 : (Tryz.prog.info? 3).map (fun i => (i.zero, i.size, i.bytes)) = some (some (.int .i64 0), 1, 8) := by kernel_rfl
theorem all_any (s : ByteArray) (hs : s.size ≤ maxLen) (w : World) :
    Calls Tryz.prog 218 #[.string s] w fun e w' => ∃ v, e = .returned (.tuple #[v, .int .i64 (Qfm s), .int .i64 (allE s)]) ∧ w'.ownsRow w.heap.size 3 1 v (allS s).length ((allS s).map (Value.int .i64)) ∧ Below w.heap.size w w' := by
  have hs0 := hs
  unfold maxLen at hs
  obtain ⟨i0, hi, hz0, hz1, hz2⟩ := info_parts info3
  by_cases hlong : 65535 < s.size
  · have e1 : allS s = [] := if_pos hlong
    have e2 : Qfm s = 0 := if_pos hlong
    have e3 : allE s = 2 := if_pos hlong
    rw [e1, e2, e3]
    go_enter Tryz.func218, Tryz.ntmps218
    go_wp2_with fail
    go_ret3
    exact ⟨_, rfl, World.ownsRow_nil _ _ _ _, Below.refl _ _⟩
  · have hshort : s.size ≤ 65535 := by omega
    have E1 := Lib.hid (show allS s = if (allA s).2.2 = true then (allA s).1 else [] from if_neg hlong)
    have E2 := Lib.hid (show Qfm s = if (allA s).2.2 = true then (s.size : Int) else (allA s).2.1 from if_neg hlong)
    have E3 := Lib.hid (show allE s = if (allA s).2.2 = true then 0 else 1 from if_neg hlong)
    clear hlong
    go_enter Tryz.func218, Tryz.ntmps218
    go_wp2_with fail
    go_loopw [5, 6] (fun v i wr => ∃ k : Nat, k ≤ s.size ∧ i = .int .i64 k ∧ (∃ l : List Int, l.length ≤ k ∧ Hid (∃ f, s.size ≤ k + f ∧ addP l (allF s f k) = allA s) ∧ wr.ownsRow w.heap.size 3 1 v l.length (l.map (Value.int .i64))) ∧ Below w.heap.size w wr)
      (fun _ i _ => s.size - (intOf i).toNat)
    case atStart => exact ⟨0, Nat.zero_le _, rfl, ⟨[], Nat.le_refl _, ⟨s.size, by omega, rfl⟩, World.ownsRow_nil _ _ _ _⟩, Below.refl _ _⟩
    case round =>
      obtain ⟨k, hk, rfl, ⟨l, hlk, HF, hown⟩, hbel⟩ := hrel
      by_cases hlt : k < s.size
      · cases hd : Qcg s k with
        | none =>
          have n3 : Qer s k = 1 := by simp only [Qer, hd]
          have HN := Lib.hid (show allA s = (l, k, false) by
            obtain ⟨f, hf, hp⟩ := HF.out
            rw [← hp, allF_none s f k hlt hf hd]; simp [addP])
          clear hd
          go_wp2_with fail
          refine (next_any s hs0 _ _).mono ?_
          rintro e w' ⟨rfl, rfl⟩
          go_wp2_with fail
          go_ret3
          have hA := HN.out
          have x1 : allS s = [] := by rw [E1.out, hA]; rfl
          have x2 : Qfm s = k := by rw [E2.out, hA]; rfl
          have x3 : allE s = 1 := by rw [E3.out, hA]; rfl
          rw [x1, x2, x3]
          exact ⟨_, rfl, World.ownsRow_nil _ _ _ _, hbel⟩
        | some x =>
          have n1 : Qdk s k = x.1 := by simp only [Qdk, hd]
          have n2 : Qdl s k = x.2 := by simp only [Qdl, hd]
          have n3 : Qer s k = 0 := by simp only [Qer, hd]
          have hbd := decAt_bd s k hlt x hd
          have HF2 := Lib.hid (show ∃ f, s.size ≤ k + x.2.toNat + f ∧ addP (l ++ [x.1]) (allF s f (k + x.2.toNat)) = allA s by
            obtain ⟨f, hf, hp⟩ := HF.out
            obtain ⟨f', hf', hp'⟩ := allF_some s f k x l hlt hf hd hbd.1
            exact ⟨f', hf', hp'.symm.trans hp⟩)
          have hx1 := hbd.1
          have hx2 := hbd.2.1
          have hx3 := hbd.2.2
          clear hd HF hbd
          generalize x.1 = n at *
          generalize x.2 = wd at *
          go_wp2_with fail
          refine (next_any s hs0 _ _).mono ?_
          rintro e w' ⟨rfl, rfl⟩
          have hown2 := hown
          have hbel2 := hbel
          go_wp2_with (at_builtin; refine Qlm [.int .i64 n] rfl _ _ 38 rfl w.heap.size 3 i0 (.int .i64 0) 1 8 Tryz.underlying38 hi hz0 hz1 hz2 rfl (by decide) _ _ _ hown2 rfl rfl rfl (by intro u hu; simp at hu; subst hu; rfl) (by unfold maxLen; omega) (by omega) hbel2.size ?_)
          intro v' w1 hown' hb1'
          have hb1 := hbel2.trans hb1'
          have hown1 : w1.ownsRow w.heap.size 3 1 v' (l ++ [n]).length ((l ++ [n]).map (Value.int .i64)) := by
            rw [List.map_append, List.length_append]; exact hown'
          have hl2 : (l ++ [n]).length ≤ k + wd.toNat := by simp; omega
          clear hown' hb1' hown hbel hown2 hbel2
          go_wp2_with fail
          go_roundw
          case rel => exact ⟨k + wd.toNat, by omega, by rw [Int.natCast_add, Int.toNat_of_nonneg (by omega)], ⟨l ++ [n], hl2, HF2, hown1⟩, hb1⟩
          case measure => simp [intOf]; omega
      · have HN := Lib.hid (show allA s = (l, k, true) by
          obtain ⟨f, hf, hp⟩ := HF.out
          rw [← hp, Qjn s f k (by omega)]; simp [addP])
        go_wp2_with fail
        go_ret3
        have hA := HN.out
        have x1 : allS s = l := by rw [E1.out, hA]; rfl
        have x2 : Qfm s = s.size := by rw [E2.out, hA]; rfl
        have x3 : allE s = 0 := by rw [E3.out, hA]; rfl
        rw [x1, x2, x3]
        exact ⟨_, rfl, hown, hbel⟩
theorem rall_any (s : ByteArray) (hs : s.size ≤ maxLen) (w : World) :
    Calls Tryz.prog 176 #[.string s] w fun e w' => ∃ v, e = .returned (.tuple #[v, .int .i64 (Qfm s), .int .i64 (allE s)]) ∧ w'.ownsRow w.heap.size 3 1 v (allS s).length ((allS s).map (Value.int .i64)) ∧ Below w.heap.size w w' := by
  have hs0 := hs
  unfold maxLen at hs
  obtain ⟨i0, hi, hz0, hz1, hz2⟩ := info_parts info3
  by_cases hlong : 65535 < s.size
  · have e1 : allS s = [] := if_pos hlong
    have e2 : Qfm s = 0 := if_pos hlong
    have e3 : allE s = 2 := if_pos hlong
    rw [e1, e2, e3]
    go_enter Tryz.func176, Tryz.ntmps176
    go_wp2_with fail
    go_ret3
    exact ⟨_, rfl, World.ownsRow_nil _ _ _ _, Below.refl _ _⟩
  · have hshort : s.size ≤ 65535 := by omega
    have E1 := Lib.hid (show allS s = if (allA s).2.2 = true then (allA s).1 else [] from if_neg hlong)
    have E2 := Lib.hid (show Qfm s = if (allA s).2.2 = true then (s.size : Int) else (allA s).2.1 from if_neg hlong)
    have E3 := Lib.hid (show allE s = if (allA s).2.2 = true then 0 else 1 from if_neg hlong)
    clear hlong
    go_enter Tryz.func176, Tryz.ntmps176
    go_wp2_with fail
    go_loopw [5, 6] (fun v i wr => ∃ k : Nat, k ≤ s.size ∧ i = .int .i64 k ∧ (∃ l : List Int, l.length ≤ k ∧ Hid (∃ f, s.size ≤ k + f ∧ addP l (allF s f k) = allA s) ∧ wr.ownsRow w.heap.size 3 1 v l.length (l.map (Value.int .i64))) ∧ Below w.heap.size w wr)
      (fun _ i _ => s.size - (intOf i).toNat)
    case atStart => exact ⟨0, Nat.zero_le _, rfl, ⟨[], Nat.le_refl _, ⟨s.size, by omega, rfl⟩, World.ownsRow_made w #[] 0 (Nat.le_refl _) (Nat.zero_le _) rfl⟩, (Below.refl _ _).alloc (Nat.le_refl _) _⟩
    case round =>
      obtain ⟨k, hk, rfl, ⟨l, hlk, HF, hown⟩, hbel⟩ := hrel
      by_cases hlt : k < s.size
      · cases hd : Qcg s k with
        | none =>
          have n3 : Qgj s k = false := by simp only [Qgj, hd]; rfl
          have HN := Lib.hid (show allA s = (l, k, false) by
            obtain ⟨f, hf, hp⟩ := HF.out
            rw [← hp, allF_none s f k hlt hf hd]; simp [addP])
          clear hd
          go_wp2_with fail
          refine (rnext_any s hs0 _ _).mono ?_
          rintro e w' ⟨rfl, hb2⟩
          go_wp2_with fail
          go_ret3
          have hA := HN.out
          have x1 : allS s = [] := by rw [E1.out, hA]; rfl
          have x2 : Qfm s = k := by rw [E2.out, hA]; rfl
          have x3 : allE s = 1 := by rw [E3.out, hA]; rfl
          rw [x1, x2, x3]
          exact ⟨_, rfl, World.ownsRow_nil _ _ _ _, hbel.trans (hb2.mono hbel.size)⟩
        | some x =>
          have n1 : Qdk s k = x.1 := by simp only [Qdk, hd]
          have n2 : Qdl s k = x.2 := by simp only [Qdl, hd]
          have n3 : Qgj s k = true := by simp only [Qgj, hd]; rfl
          have hbd := decAt_bd s k hlt x hd
          have HF2 := Lib.hid (show ∃ f, s.size ≤ k + x.2.toNat + f ∧ addP (l ++ [x.1]) (allF s f (k + x.2.toNat)) = allA s by
            obtain ⟨f, hf, hp⟩ := HF.out
            obtain ⟨f', hf', hp'⟩ := allF_some s f k x l hlt hf hd hbd.1
            exact ⟨f', hf', hp'.symm.trans hp⟩)
          have hx1 := hbd.1
          have hx2 := hbd.2.1
          have hx3 := hbd.2.2
          clear hd HF hbd
          generalize x.1 = n at *
          generalize x.2 = wd at *
          go_wp2_with fail
          refine (rnext_any s hs0 _ _).mono ?_
          rintro e w' ⟨rfl, hb2⟩
          have hown2 := Qiw hown hb2
          have hbel2 := hbel.trans (hb2.mono hbel.size)
          go_wp2_with (at_builtin; refine Qlm [.int .i64 n] rfl _ _ 38 rfl w.heap.size 3 i0 (.int .i64 0) 1 8 Tryz.underlying38 hi hz0 hz1 hz2 rfl (by decide) _ _ _ hown2 rfl rfl rfl (by intro u hu; simp at hu; subst hu; rfl) (by unfold maxLen; omega) (by omega) hbel2.size ?_)
          intro v' w1 hown' hb1'
          have hb1 := hbel2.trans hb1'
          have hown1 : w1.ownsRow w.heap.size 3 1 v' (l ++ [n]).length ((l ++ [n]).map (Value.int .i64)) := by
            rw [List.map_append, List.length_append]; exact hown'
          have hl2 : (l ++ [n]).length ≤ k + wd.toNat := by simp; omega
          clear hown' hb1' hown hbel hown2 hbel2
          go_wp2_with fail
          go_roundw
          case rel => exact ⟨k + wd.toNat, by omega, by rw [Int.natCast_add, Int.toNat_of_nonneg (by omega)], ⟨l ++ [n], hl2, HF2, hown1⟩, hb1⟩
          case measure => simp [intOf]; omega
      · have HN := Lib.hid (show allA s = (l, k, true) by
          obtain ⟨f, hf, hp⟩ := HF.out
          rw [← hp, Qjn s f k (by omega)]; simp [addP])
        go_wp2_with fail
        go_ret3
        have hA := HN.out
        have x1 : allS s = l := by rw [E1.out, hA]; rfl
        have x2 : Qfm s = s.size := by rw [E2.out, hA]; rfl
        have x3 : allE s = 0 := by rw [E3.out, hA]; rfl
        rw [x1, x2, x3]
        exact ⟨_, rfl, hown, hbel⟩
def Qav (l : List Int) : List Int := l.flatMap encL
def Qcy (l : List Int) : Int := if l.all right = true then (if 65535 < (Qav l).length then 2 else 0) else 16
def Qcl (l : List Int) : ByteArray := if Qcy l = 0 then strOfNums (Qav l) else ByteArray.empty
theorem Qla (n : Int) (h : right n = true) : Lib.strCells (enc n) = (encL n).map (Value.int .u8) := by
 have h2 := nats_enc n h
 unfold nats encN at h2
 have h3 : Lib.strCells (enc n) = ((enc n).data.toList.map UInt8.toNat).map (fun c : Nat => Value.int .u8 (c : Int)) := by
  simp [Lib.strCells]
 rw [h3, h2, List.map_map]
 refine List.map_congr_left fun c hc => ?_
 have : 0 ≤ c := by
  rcases Qin n h with h | h | h | h
  ·rw [encL1 n h.2] at hc; simp at hc; omega
  ·rw [encL2 n h.1 h.2] at hc; simp at hc; omega
  ·rw [encL3 n h.1 h.2] at hc; simp at hc; omega
  ·rw [encL4 n h.1] at hc; simp at hc; omega
 show Value.int .u8 ((c.toNat : Nat) : Int) = Value.int .u8 c
 rw [Int.toNat_of_nonneg this]
theorem enc_size (n : Int) : (enc n).size = (encL n).length := strOfNums_size _
theorem Qhb (l : List Int) (k : Nat) (h : k < l.length) : Qav (l.take (k + 1)) = Qav (l.take k) ++ encL l[k] := by
 unfold Qav; rw [List.take_succ_eq_append_getElem h]; simp only [List.flatMap_append, List.flatMap_cons, List.flatMap_nil, List.append_nil]
theorem joinB_le (l : List Int) (k : Nat) : (Qav (l.take k)).length ≤ (Qav l).length := by
 have : Qav l = Qav (l.take k) ++ Qav (l.drop k) := by unfold Qav; rw [← List.flatMap_append, List.take_append_drop]
 rw [this, List.length_append]; omega
theorem encL_len (n : Int) : 1 ≤ (encL n).length ∧ (encL n).length ≤ 4 := by
 unfold encL; constructor <;> (repeat' split) <;> simp
theorem Qkc {w w' : World} {xs : List Int} {k : IntKind} {b off : Nat} (h : ∀ i, i < xs.length → w.cell? ⟨b, off + i, none⟩ = (xs.map (Value.int k))[i]?) (hb : Below w.heap.size w w') (i : Nat) (hi : i < xs.length) :
  w'.cell? ⟨b, off + i, none⟩ = some (.int k xs[i]) := by
 have := h i hi
 rw [List.getElem?_map, List.getElem?_eq_getElem hi] at this
 rw [hb.cell (World.block_lt_of_cell? w _ this), this]; rfl
theorem ne_map {xs : List Int} {k : IntKind} {i : Nat} (h : i < xs.length) : xs.map (Value.int k) ≠ [] := by
 intro e; rw [List.map_eq_nil_iff] at e; rw [e] at h; simp at h
theorem join_any (l : List Int) (v : Value) (w : World) (hv : Slc w v (l.map (Value.int .i64))) :
  Calls Tryz.prog 298 #[v] w fun e w' => e = .returned (.tuple #[.string (Qcl l), .int .i64 (Qcy l)]) ∧ Below w.heap.size w w' := by
 obtain ⟨i0, hi, hz0, hz1, hz2⟩ := info_parts info5
 obtain ⟨a, cap, rfl, hm, hc⟩ := hv
 have HC := Lib.hid hc; clear hc
 simp only [List.length_map] at *
 unfold maxLen at hm
 go_enter Tryz.func298, Tryz.ntmps298
 go_wp2_with fail
 go_loop [13] (fun i => ∃ k : Nat, k ≤ l.length ∧ i = .int .i64 k ∧ Hid ((l.take k).all right = true)) (fun i => l.length - (intOf i).toNat)
 case atStart => exact ⟨0, Nat.zero_le _, rfl, rfl⟩
 case round =>
  obtain ⟨k, hk, rfl, hall⟩ := hrel
  by_cases hlt : k < l.length
  ·obtain ⟨b, off, rfl, hcell⟩ := HC.out (ne_map hlt)
   have c1 := Qkc hcell (Below.refl _ _) k hlt
   clear hcell
   by_cases hr : right l[k] = true
   ·go_wp2_with (go_at_call 286; refine (Qdt _ _).mono ?_; rintro e w' ⟨rfl, rfl⟩)
    go_round
    case rel => exact ⟨k + 1, by omega, by go_num, by show (l.take (k+1)).all right = true; rw [List.take_succ_eq_append_getElem hlt, List.all_append, hall.out]; simp [hr]⟩
    case measure => simp [intOf]; omega
   ·have hr' : right l[k] = false := by simpa using hr
    have hE : Qcy l = 16 := by
     unfold Qcy
     rw [if_neg]
     intro h
     exact hr (List.all_eq_true.1 h _ (List.getElem_mem hlt))
    have hS : Qcl l = ByteArray.empty := by unfold Qcl; rw [if_neg (by rw [hE]; decide)]
    have fin := Lib.hid (And.intro hS hE)
    clear hr hE hS
    go_wp2_with (go_at_call 286; refine (Qdt _ _).mono ?_; rintro e w' ⟨rfl, rfl⟩)
    go_ret2
    exact ⟨Qbs fin.out.1.symm fin.out.2.symm, Below.refl _ _⟩
  ·have hA := Lib.hid (show l.all right = true by have := hall.out; rwa [List.take_of_length_le (by omega)] at this)
   clear hall
   go_wp2_with fail
   go_loopw [6, 23] (fun bv i wr => ∃ k : Nat, k ≤ l.length ∧ i = .int .i64 k ∧ (Qav (l.take k)).length ≤ 65535 ∧ wr.ownsRow w.heap.size 5 1 bv (Qav (l.take k)).length ((Qav (l.take k)).map (Value.int .u8)) ∧ Below w.heap.size w wr) (fun _ i _ => l.length - (intOf i).toNat)
   case atStart => exact ⟨0, Nat.zero_le _, rfl, Nat.zero_le _, World.ownsRow_nil _ _ _ _, Below.refl _ _⟩
   case round =>
    obtain ⟨j, hj, rfl, hlen, hown, hbel⟩ := hrel
    by_cases hjl : j < l.length
    ·obtain ⟨b, off, rfl, hcell⟩ := HC.out (ne_map hjl)
     have c1 := Qkc hcell hbel j hjl
     clear hcell
     have hr : right l[j] = true := List.all_eq_true.1 hA.out _ (List.getElem_mem hjl)
     have e1 : putS l[j] = enc l[j] := if_pos hr
     have HR := Lib.hid hr; clear hr
     have hes := enc_size l[j]
     have hel := encL_len l[j]
     obtain ⟨aB, capB, hB, _⟩ := Slc.own hown
     simp only [List.length_map] at hB
     subst hB
     go_wp2_with fail
     refine (put_any _ _).mono ?_
     rintro e w' ⟨rfl, hb2⟩
     have hown2 := Qiw hown hb2
     have hbel2 := hbel.trans (hb2.mono hbel.size)
     by_cases hbig : 65535 < (Qav (l.take j)).length + (encL l[j]).length
     ·have hE : Qcy l = 2 := by
       have h1 := Qhb l j hjl
       have h2 := joinB_le l (j + 1)
       rw [h1, List.length_append] at h2
       unfold Qcy; rw [if_pos hA.out, if_pos (by omega)]
      have hS : Qcl l = ByteArray.empty := by unfold Qcl; rw [if_neg (by rw [hE]; decide)]
      have fin := Lib.hid (And.intro hS hE)
      clear hE hS
      go_wp2_with fail
      go_ret2
      exact ⟨Qbs fin.out.1.symm fin.out.2.symm, hbel2⟩
     ·have hb3 : (Qav (l.take j)).length + (encL l[j]).length ≤ 65535 := by omega
      clear hbig
      go_wp2_with (at_builtin; refine Lib.wpList_append_own_string _ rfl _ _ 276 9 rfl w.heap.size 5 i0 Tryz.underlying276 Tryz.underlying9 hi hz0 hz1 hz2 _ _ _ rfl hown2 (enc l[j]) rfl (by unfold maxLen; omega) (by omega) hbel2.size ?_)
      intro v' w1 hown' hgrow _
      have hb1 : Below w.heap.size w w1 := hbel2.grown hgrow hbel2.size (fun k hk => (hown2.lt k hk).1)
      have hown1 : w1.ownsRow w.heap.size 5 1 v' (Qav (l.take (j+1))).length ((Qav (l.take (j+1))).map (Value.int .u8)) := by
       rw [Qhb l j hjl, List.map_append, ← Qla _ HR.out, List.length_append]; exact hown'
      have hlen1 : (Qav (l.take (j+1))).length ≤ 65535 := by rw [Qhb l j hjl, List.length_append]; exact hb3
      clear hown' hgrow hown hown2 hbel hbel2
      go_wp2_with fail
      go_roundw
      case rel => exact ⟨j + 1, by omega, by go_num, hlen1, hown1, hb1⟩
      case measure => simp [intOf]; omega
    ·rw [List.take_of_length_le (by omega)] at hlen hown
     have hE : Qcy l = 0 := by unfold Qcy; rw [if_pos hA.out, if_neg (by omega)]
     have hS : Qcl l = strOfNums (Qav l) := if_pos hE
     have fin := Lib.hid (And.intro hS hE)
     clear hE hS
     have hcv := cv_own hown
     clear hown
     go_wp2_with fail
     go_ret2
     exact ⟨Qbs fin.out.1.symm fin.out.2.symm, hbel⟩
theorem Qle (w : World) (e : TypeId) (s : ByteArray) : Below w.heap.size w (Lib.bytesWorld w e s) :=
 ⟨rfl, rfl, rfl, by rw [Lib.bytesWorld_size]; omega, fun k hk => Lib.bytesWorld_at_old w e s k hk⟩
theorem bytes_cells (w : World) (e : TypeId) (s : ByteArray) : ∀ j u, (Lib.strCells s)[j]? = some u → (Lib.bytesWorld w e s).cell? ((⟨w.heap.size, 0, none⟩ : Addr).add j) = some u := by
 intro j u hu
 have hj : j < s.size := by
  rw [← Lib.strCells_length]; exact (List.getElem?_eq_some_iff.1 hu).1
 have e1 : (⟨w.heap.size, 0, none⟩ : Addr).add j = ⟨w.heap.size, j, none⟩ := by unfold Addr.add; split <;> simp_all
 rw [e1, Lib.bytesWorld_cell w e s j hj, ← hu, Lib.strCells, List.getElem?_map]
 have hj2 : j < s.data.toList.length := by simpa using hj
 rw [List.getD_eq_getElem?_getD, List.getElem?_eq_getElem hj2]; rfl
theorem rjoin_any (l : List Int) (v : Value) (w : World) (hv : Slc w v (l.map (Value.int .i64))) :
  Calls Tryz.prog 264 #[v] w fun e w' => e = .returned (.tuple #[.string (Qcl l), .int .i64 (Qcy l)]) ∧ Below w.heap.size w w' := by
 obtain ⟨i0, hi, hz0, hz1, hz2⟩ := info_parts info5
 have hconv := fun (w : World) (s : ByteArray) => Lib.run_convert_string_bytes (P := Tryz.prog) w 9 276 5 s Tryz.underlying9 Tryz.underlying276 Tryz.underlying5
 obtain ⟨a, cap, rfl, hm, hc⟩ := hv
 have HC := Lib.hid hc; clear hc
 simp only [List.length_map] at *
 unfold maxLen at hm
 go_enter Tryz.func264, Tryz.ntmps264
 go_wp2_with fail
 go_loop [4] (fun i => ∃ k : Nat, k ≤ l.length ∧ i = .int .i64 k ∧ Hid ((l.take k).all right = true)) (fun i => l.length - (intOf i).toNat)
 case atStart => exact ⟨0, Nat.zero_le _, rfl, rfl⟩
 case round =>
  obtain ⟨k, hk, rfl, hall⟩ := hrel
  by_cases hlt : k < l.length
  ·obtain ⟨b, off, rfl, hcell⟩ := HC.out (ne_map hlt)
   have c1 := Qkc hcell (Below.refl _ _) k hlt
   clear hcell
   by_cases hr : right l[k] = true
   ·go_wp2_with (go_at_call 257; refine (Qce _ _).mono ?_; rintro e w' ⟨rfl, rfl⟩)
    go_round
    case rel => exact ⟨k + 1, by omega, by go_num, by show (l.take (k+1)).all right = true; rw [List.take_succ_eq_append_getElem hlt, List.all_append, hall.out]; simp [hr]⟩
    case measure => simp [intOf]; omega
   ·have hr' : right l[k] = false := by simpa using hr
    have hE : Qcy l = 16 := by
     unfold Qcy
     rw [if_neg]
     intro h
     exact hr (List.all_eq_true.1 h _ (List.getElem_mem hlt))
    have hS : Qcl l = ByteArray.empty := by unfold Qcl; rw [if_neg (by rw [hE]; decide)]
    have fin := Lib.hid (And.intro hS hE)
    clear hr hE hS
    go_wp2_with (go_at_call 257; refine (Qce _ _).mono ?_; rintro e w' ⟨rfl, rfl⟩)
    go_ret2
    exact ⟨Qbs fin.out.1.symm fin.out.2.symm, Below.refl _ _⟩
  ·have hA := Lib.hid (show l.all right = true by have := hall.out; rwa [List.take_of_length_le (by omega)] at this)
   clear hall
   go_wp2_with fail
   go_loopw [5, 6] (fun bv i wr => ∃ k : Nat, k ≤ l.length ∧ i = .int .i64 k ∧ (Qav (l.take k)).length ≤ 65535 ∧ wr.ownsRow w.heap.size 5 1 bv (Qav (l.take k)).length ((Qav (l.take k)).map (Value.int .u8)) ∧ Below w.heap.size w wr) (fun _ i _ => l.length - (intOf i).toNat)
   case atStart => exact ⟨0, Nat.zero_le _, rfl, Nat.zero_le _, World.ownsRow_made w #[] 0 (Nat.le_refl _) (Nat.zero_le _) rfl, (Below.refl _ _).alloc (Nat.le_refl _) _⟩
   case round =>
    obtain ⟨j, hj, rfl, hlen, hown, hbel⟩ := hrel
    by_cases hjl : j < l.length
    ·obtain ⟨b, off, rfl, hcell⟩ := HC.out (ne_map hjl)
     have c1 := Qkc hcell hbel j hjl
     clear hcell
     have hr : right l[j] = true := List.all_eq_true.1 hA.out _ (List.getElem_mem hjl)
     have HR := Lib.hid hr; clear hr
     have hes := Lib.hid (enc_size l[j])
     have hel := encL_len l[j]
     go_wp2_with fail
     refine (Qff _ HR.out _).mono ?_
     rintro e w' ⟨rfl, hb2⟩
     have hown2 := Qiw (Qiw hown hb2) (Qle w' 5 (enc l[j]))
     have hbel2 := hbel.trans (hb2.mono hbel.size)
     have hbel3 := hbel2.trans ((Qle w' 5 (enc l[j])).mono hbel2.size)
     go_wp2_with (at_builtin; refine wpList_append_own _ rfl _ _ 276 rfl w.heap.size 5 i0 (.int .u8 0) 1 1 Tryz.underlying276 hi hz0 hz1 hz2 rfl (by decide) _ _ _ rfl hown2 ⟨w'.heap.size, 0, none⟩ (enc l[j]).size _ (Lib.strCells (enc l[j])) rfl (by rw [Lib.strCells_length]; simp) (bytes_cells _ _ _) (Lib.strCells_oneCell _) (by rw [hes.out]; unfold maxLen; omega) (by rw [hes.out]; omega) hbel3.size ?_)
     intro v' w1 hown' hgrow _
     have hb1 : Below w.heap.size w w1 := hbel3.grown hgrow hbel3.size (fun k hk => (hown2.lt k hk).1)
     have hown1 : w1.ownsRow w.heap.size 5 1 v' (Qav (l.take (j+1))).length ((Qav (l.take (j+1))).map (Value.int .u8)) := by
      rw [Qhb l j hjl, List.map_append, ← Qla _ HR.out, List.length_append, ← hes.out]; exact hown'
     have hlen2 := Lib.hid (show (Qav (l.take (j+1))).length = (Qav (l.take j)).length + (encL l[j]).length by rw [Qhb l j hjl, List.length_append])
     clear hown' hgrow hown hown2 hbel hbel2 hbel3
     obtain ⟨aB, capB, hB, _⟩ := Slc.own hown1
     simp only [List.length_map] at hB
     subst hB
     by_cases hbig : 65535 < (Qav (l.take (j+1))).length
     ·have hE : Qcy l = 2 := by
       have h2 := joinB_le l (j + 1)
       unfold Qcy; rw [if_pos hA.out, if_pos (by omega)]
      have hS : Qcl l = ByteArray.empty := by unfold Qcl; rw [if_neg (by rw [hE]; decide)]
      have fin := Lib.hid (And.intro hS hE)
      clear hE hS
      go_wp2_with fail
      go_ret2
      exact ⟨Qbs fin.out.1.symm fin.out.2.symm, hb1⟩
     ·have hlen1 : (Qav (l.take (j+1))).length ≤ 65535 := by omega
      clear hbig
      go_wp2_with fail
      go_roundw
      case rel => exact ⟨j + 1, by omega, by go_num, hlen1, hown1, hb1⟩
      case measure => simp [intOf]; omega
    ·rw [List.take_of_length_le (by omega)] at hlen hown
     have hE : Qcy l = 0 := by unfold Qcy; rw [if_pos hA.out, if_neg (by omega)]
     have hS : Qcl l = strOfNums (Qav l) := if_pos hE
     have fin := Lib.hid (And.intro hS hE)
     clear hE hS
     have hcv := cv_own hown
     clear hown
     go_wp2_with fail
     go_ret2
     exact ⟨Qbs fin.out.1.symm fin.out.2.symm, hbel⟩
def Qdy (l : List Int) : List Nat := l.flatMap encN
theorem joinN_eq (l : List Int) : Qdy l = (Qav l).map Int.toNat := by
 unfold Qdy Qav encN; rw [List.map_flatMap]
theorem joinN_lt (l : List Int) (h : l.all right = true) : ∀ c ∈ Qdy l, c < 256 := by
 intro c hc
 obtain ⟨n, hn, hcn⟩ := List.mem_flatMap.1 hc
 exact encN_lt n (List.all_eq_true.1 h n hn) c hcn
theorem Qkt (l : List Int) (h : l.all right = true) : nats (strOfNums (Qav l)) = Qdy l := by
 rw [joinN_eq]; exact nats_of _ (by rw [← joinN_eq]; exact joinN_lt l h)
theorem joinN_length (l : List Int) : (Qdy l).length = (Qav l).length := by rw [joinN_eq, List.length_map]
theorem all_signs (s : ByteArray) : ∀ (f k : Nat), k ≤ s.size → s.size ≤ k + f → (allF s f k).2.2 = true → (allF s f k).1.all right = true ∧ (nats s).drop k = Qdy (allF s f k).1 := by
  intro f
  induction f with
  | zero =>
    intro k hk hf _
    rw [allF]
    exact ⟨rfl, by rw [List.drop_of_length_le (by rw [Qcb]; omega)]; rfl⟩
  | succ f ih =>
    intro k hk hf h
    by_cases hlt : k < s.size
    · rw [allF, if_pos hlt] at h ⊢
      cases hd : Qcg s k with
      | none => rw [hd] at h; simp at h
      | some x =>
        rw [hd] at h
        have hbd := decAt_bd s k hlt x hd
        have h2 := hd
        rw [Qij s k hlt] at h2
        obtain ⟨hr, hw, r, hl⟩ := dec_some _ _ _ h2
        obtain ⟨h3, h4⟩ := ih (k + x.2.toNat) (by omega) (by omega) h
        refine ⟨by simp only [List.all_cons, hr, h3]; rfl, ?_⟩
        have hlen := Qep x.1 hr
        have he : (encN x.1).length = x.2.toNat := by omega
        show (nats s).drop k = encN x.1 ++ Qdy _
        rw [← h4, hl, ← List.drop_drop, hl, ← he, List.drop_left]
    · rw [Qjn s _ k (by omega)]
      exact ⟨rfl, by rw [List.drop_of_length_le (by rw [Qcb]; omega)]; rfl⟩
theorem join_signs (s : ByteArray) : ∀ (l : List Int) (f k : Nat), l.all right = true → (nats s).drop k = Qdy l → s.size ≤ k + f → (allF s f k).1 = l ∧ (allF s f k).2.2 = true := by
  intro l
  induction l with
  | nil =>
    intro f k _ hk hf
    have : s.size ≤ k := by
      have := congrArg List.length hk
      rw [List.length_drop, Qcb] at this; simp [Qdy] at this; omega
    rw [Qjn s f k this]; exact ⟨rfl, rfl⟩
  | cons n l ih =>
    intro f k hr hk hf
    simp only [List.all_cons, Bool.and_eq_true] at hr
    have hlen := Qep n hr.1
    have hw := Qkf n
    have hlt : k < s.size := by
      have := congrArg List.length hk
      rw [List.length_drop, Qcb] at this
      simp only [Qdy, List.flatMap_cons, List.length_append] at this; omega
    have hd : Qcg s k = some (n, Qbo n) := by
      rw [Qij s k hlt, hk]; exact dec_enc n hr.1 (Qdy l)
    cases f with
    | zero => omega
    | succ f =>
      rw [allF, if_pos hlt, hd]
      have h2 : (nats s).drop (k + (Qbo n).toNat) = Qdy l := by
        rw [← List.drop_drop, hk]
        show (encN n ++ Qdy l).drop _ = _
        rw [show (Qbo n).toNat = (encN n).length by omega, List.drop_left]
      obtain ⟨h3, h4⟩ := ih f (k + (Qbo n).toNat) hr.2 h2 (by omega)
      exact ⟨by show n :: _ = _; rw [h3], h4⟩
theorem Qit (s : ByteArray) (h : allE s = 0) : Qcy (allS s) = 0 ∧ Qcl (allS s) = s := by
 unfold allE at h
 by_cases hl : 65535 < s.size
 ·rw [if_pos hl] at h; omega
 rw [if_neg hl] at h
 by_cases hb : (allA s).2.2 = true
 ·have hS : allS s = (allA s).1 := by unfold allS; rw [if_neg hl, if_pos hb]
  obtain ⟨hr, hn⟩ := all_signs s s.size 0 (Nat.zero_le _) (by omega) hb
  rw [← show allA s = allF s s.size 0 from rfl, ← hS] at hr hn
  have hlen : (Qav (allS s)).length = s.size := by rw [← joinN_length, ← hn, List.length_drop, Qcb]; omega
  have hE : Qcy (allS s) = 0 := by unfold Qcy; rw [if_pos hr, if_neg (by omega)]
  refine ⟨hE, ?_⟩
  unfold Qcl; rw [if_pos hE]
  refine nats_inj ?_
  rw [Qkt _ hr, ← hn]; rfl
 ·rw [if_neg hb] at h; omega
theorem back_signs (l : List Int) (h : Qcy l = 0) : allE (Qcl l) = 0 ∧ allS (Qcl l) = l := by
 have hS : Qcl l = strOfNums (Qav l) := if_pos h
 unfold Qcy at h
 by_cases hr : l.all right = true
 ·rw [if_pos hr] at h
  by_cases hb : 65535 < (Qav l).length
  ·rw [if_pos hb] at h; omega
  have hsz : ¬ 65535 < (Qcl l).size := by rw [hS, strOfNums_size]; exact hb
  obtain ⟨h1, h2⟩ := join_signs (Qcl l) l (Qcl l).size 0 hr (by rw [hS, Qkt l hr]; rfl) (by omega)
  have h2' : (allA (Qcl l)).2.2 = true := h2
  have h1' : (allA (Qcl l)).1 = l := h1
  exact ⟨by unfold allE; rw [if_neg hsz, if_pos h2'], by unfold allS; rw [if_neg hsz, if_pos h2', h1']⟩
 ·rw [if_neg hr] at h; omega
end Go.Proofs.YtdklpbefbamchaaGreat

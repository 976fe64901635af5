import Derived.Test.YtahhgpafjiljfaaOBA2
import Derived.Test.YtahhgpafjiljfaaOTab
import Derived.Test.YtahhgpafjiljfaaOBUtf
import Derived.Test.YtahhgpafjiljfaaOT8
import Derived.Test.YtahhgpafjiljfaaOT6
import Derived.Test.YtahhgpafjiljfaaOBU
import Derived.Test.YtahhgpafjiljfaaOT15
set_option linter.unusedSimpArgs false
set_option linter.unusedVariables false
set_option maxHeartbeats 16000000
set_option maxRecDepth 100000
namespace Go.Proofs.Ytahhgpafjiljfaa
open Go.RowKit
@[simp] theorem size_mk (a : Array UInt8) : (ByteArray.mk a).size = a.size := rfl
@[simp] theorem maxLen_v : maxLen = 9223372036854775807 := rfl
def Wr (o : List UInt8 × Bool) (T : List UInt8) : Prop := (o.2 = false ∧ o.1 = T ∧ T.length ≤ 65535) ∨ (o.2 = true ∧ o.1.length ≤ 65535 ∧ 65535 < T.length)
theorem Wr.len {o : List UInt8 × Bool} {T : List UInt8} (h : Wr o T) : o.1.length ≤ 65535 := by
 rcases h with ⟨_, h, h2⟩ | ⟨_, h, _⟩
 ·rw [h]; exact h2
 ·exact h
def Qhp (c : UInt8) : List D := [.v (.int .u8 c.toNat)]
def txts (l : List ByteArray) : List UInt8 := (l.map ByteArray.toList).flatten
theorem Qlm {l : List ByteArray} {k : Nat} (h : k < l.length) : txts (l.take (k + 1)) = txts (l.take k) ++ l[k].toList := by
 unfold txts
 rw [List.take_succ_eq_append_getElem h, List.map_append, List.flatten_append]; simp
theorem txts_len (l : List ByteArray) (k : Nat) : (txts (l.take k)).length ≤ (txts l).length := by
 have : txts l = txts (l.take k) ++ txts (l.drop k) := by
  unfold txts
  rw [← List.flatten_append, ← List.map_append, List.take_append_drop]
 rw [this]; simp
theorem Qer (s : ByteArray) : s.toList.length = s.size := by rw [ByteArray.toList_eq]; simp
theorem txts_all {l : List ByteArray} {k : Nat} (h : ¬ k < l.length) : txts (l.take k) = txts l := by rw [List.take_of_length_le (by omega)]
theorem Wr.big {o : List UInt8 × Bool} {T : List UInt8} {l : List ByteArray} {k : Nat} (h : k < l.length) (hW : Wr o (T ++ txts (l.take k))) (hbig : 65535 - (o.1.length : Int) < (l[k].size : Int)) : Wr (o.1, true) (T ++ txts l) := by
 have h1 := txts_len l (k + 1)
 rw [Qlm h, List.length_append, Qer] at h1
 have h2 := hW.len
 refine .inr ⟨rfl, h2, ?_⟩
 rcases hW with ⟨_, h3, _⟩ | ⟨_, _, h3⟩
 ·have := congrArg List.length h3
  rw [List.length_append] at this ⊢; omega
 ·rw [List.length_append] at h3 ⊢; omega
theorem Wr.next {o : List UInt8 × Bool} {T : List UInt8} {l : List ByteArray} {k : Nat} (h : k < l.length) (hW : Wr o (T ++ txts (l.take k))) (hbig : ¬ 65535 - (o.1.length : Int) < (l[k].size : Int)) : Wr (o.1 ++ l[k].toList, o.2) (T ++ txts (l.take (k + 1))) := by
 rw [Qlm h, ← List.append_assoc]
 have hz := Qer l[k]
 rcases hW with ⟨h1, h2, h3⟩ | ⟨h1, h2, h3⟩
 ·refine .inl ⟨h1, by rw [h2], ?_⟩
  rw [← h2, List.length_append, hz]; omega
 ·refine .inr ⟨h1, ?_, ?_⟩
  ·simp only [List.length_append, hz]; omega
  ·rw [List.length_append]; omega
def wrS (i g Tw : Nat) (o : List UInt8 × Bool) : St := [.box i Tw [.own g (o.1.map Qhp), .d (.v (.bool o.2))], .tok g 5 1 o.1.length]
theorem add_p (i g Tw : Nat) (o : List UInt8 × Bool) (T : List UInt8) (hW : Wr o T) (l : List ByteArray) (hl : l.length ≤ 1000) : PCalls Try.prog 77 [.ptr i 0, .d (slD l)] (wrS i g Tw o) fun p s => p = .tup [] ∧ ∃ o', Wr o' (T ++ txts l) ∧ s = wrS i g Tw o' := by
 unfold wrS
 simp only [slD]
 refine pG Try.func77 Try.ntmps77 ?_
 refine Qbc (ι := Nat × (List UInt8 × Bool)) (fun k => k.1 ≤ l.length ∧ Wr k.2 (T ++ txts (l.take k.1))) (fun k => [(0, .ptr i 0), (6, .d (.sl (l.map encD))), (7, .d (.v (.int .i64 l.length))), (8, .d (.v (.int .i64 k.1)))]) (fun k => wrS i g Tw k.2) (fun k => l.length - k.1) (0, o) ⟨Nat.zero_le _, by simpa [txts] using hW⟩ ?_ ?_ ?_
 ·exact sU
 ·unfold wrS; exact dR
 ·rintro ⟨k, o⟩ ⟨hk, hW⟩
  simp only at hk hW ⊢
  unfold wrS
  by_cases hlt : k < l.length
  ·have hx := Qbx hlt
   have hc : ((k : Int) < (l.length : Int)) := by omega
   have hn : (0 : Int) ≤ (k : Int) := by omega
   have hlen := hW.len
   have hsub : IntKind.i64.wrap (65535 - (o.1.length : Int)) = 65535 - (o.1.length : Int) := IntWalk.i64_in _ (by omega)
   have hin := Qbm hlt (by omega)
   have htk := Qlm hlt
   have hsz := Qer l[k]
   have HT := Hh htk
   have HZ := Hh hsz
   have HW := Hh hW
   clear htk hsz hW
   by_cases hbig : 65535 - (o.1.length : Int) < (l[k].size : Int)
   ·refine go_ ?_
    refine Qaa ?_
    refine Qay (by simp) (by simp only [Try.results77]; rfl) (by simp [resP]; rfl) (List.Sublist.refl _) ⟨rfl, (o.1, true), HW.out.big hlt hbig, rfl⟩
   ·refine go_ ?_
    refine Qeh (o.1.length + l[k].size) ?_ ?_ ?_ ?_
    ·simp [HZ.out]
    ·exact Qeq fun _ => rfl
    ·exact Qeq fun _ => rfl
    refine go_ ?_
    refine Qaa ?_
    refine ⟨(k + 1, (o.1 ++ l[k].toList, o.2)), ⟨by simp only; omega, HW.out.next hlt hbig⟩, by simp only; omega, ?_, ?_⟩
    ·simp only
     repeat (first | exact Js _ | refine Jr (by simp [PF.get]; rfl) (by first | rfl | (simp [hin]; done) | fail) ?_)
    ·simp only [List.map_append, List.length_append, HZ.out]
     exact dR
  ·have hc : ¬ ((k : Int) < (l.length : Int)) := by omega
   have hkl := txts_all hlt
   have HW := Hh hW
   have HL := Hh hkl
   clear hkl hW
   refine go_ ?_
   refine Qay (by simp) (by simp only [Try.results77]; rfl) (by simp [resP]; rfl) (List.Sublist.refl _) ⟨rfl, o, HL.out ▸ HW.out, rfl⟩
def decL (n : Nat) : List Int := if _h : n < 10 then [48 + (n : Int)] else decL (n / 10) ++ [48 + ((n % 10 : Nat) : Int)]
def decS (n : Nat) : ByteArray := strOfNums (decL n)
theorem Qgf (n : Nat) (h : n < 10) : decL n = [48 + (n : Int)] := by rw [decL, dif_pos h]
theorem Qib (n : Nat) (h : ¬ n < 10) : decL n = decL (n / 10) ++ [48 + ((n % 10 : Nat) : Int)] := by rw [decL, dif_neg h]
theorem decL_len : ∀ (k n : Nat), n < 10 ^ (k + 1) → 1 ≤ (decL n).length ∧ (decL n).length ≤ k + 1 := by
  intro k
  induction k with
  | zero => intro n h; rw [Qgf n (by omega)]; simp
  | succ k ih =>
    intro n h
    by_cases hs : n < 10
    · rw [Qgf n hs]; simp
    · rw [Qib n hs, List.length_append]
      have := ih (n / 10) (by rw [Nat.pow_succ] at h; omega)
      simp
      omega
theorem Qft (n : Nat) (h : n ≤ 9223372036854775808) : 1 ≤ (decS n).size ∧ (decS n).size ≤ 20 := by
 unfold decS
 rw [strOfNums_size]
 exact decL_len 19 n (by omega)
theorem Qil (a b : List Int) : strOfNums a ++ strOfNums b = strOfNums (a ++ b) := by
 apply ByteArray.ext
 simp [strOfNums]
theorem Qlb (a : ByteArray) : a ++ ⟨#[]⟩ = a := by
 apply ByteArray.ext
 simp
theorem Qka (a b c : ByteArray) : a ++ (b ++ c) = (a ++ b) ++ c := by
 apply ByteArray.ext
 simp
theorem ret_str {a b : ByteArray} (h : a = b) : Ending.returned (.string a) = .returned (.string b) := by rw [h]
theorem rdecimalW_any (n : Nat) (hn : n ≤ 9223372036854775807) (w : World) :
  Calls Try.prog 23 #[.int .i64 n] w fun e w' => e = .returned (.string (decS n)) ∧ Below w.heap.size w w' := by
 have hcv := fun (w : World) (a : Int) => Qhq [a] 1 rfl w
 simp only [List.map] at hcv
 go_enter Try.func23, Try.ntmps23
 go_wp2_with fail
 go_loopw [0, 3] (fun i v wr => ∃ (m : Nat) (t : ByteArray), m ≤ n ∧ i = .int .i64 m ∧ v = .string t ∧ t.size ≤ 20 ∧ Hid (decS m ++ t = decS n) ∧ Below w.heap.size w wr) (fun i _ _ => (intOf i).toNat)
 case atStart => exact ⟨n, ⟨#[]⟩, Nat.le_refl _, rfl, rfl, by decide, Qlb _, Below.refl _ _⟩
 case round =>
  obtain ⟨m, t, hm, rfl, rfl, ht, hd, hbel⟩ := hrel
  have hms := Qft m (by omega)
  have hns := Qft n (by omega)
  have hto : t.size ≤ 19 := by
   have := congrArg ByteArray.size hd.out
   rw [ByteArray.size_append] at this
   omega
  have hsz : ∀ a : Int, ¬ 9223372036854775807 < (strOfNums [a]).size + t.size := fun a => by rw [strOfNums_size]; simp; omega
  by_cases h10 : 10 ≤ (m : Int)
  ·have hst : decL m = decL (m / 10) ++ [48 + ((m % 10 : Nat) : Int)] := Qib m (by omega)
   have hsz1 := hsz (48 + (m : Int) % 10)
   have hd2 : Hid (decS (m / 10) ++ (strOfNums [48 + (m : Int) % 10] ++ t) = decS n) := by
    show _ = _
    rw [← hd.out, Qka]
    congr 1
    unfold decS
    rw [Qil, hst]
    rfl
   have ht2 : (strOfNums [48 + (m : Int) % 10] ++ t).size ≤ 20 := by rw [ByteArray.size_append, strOfNums_size]; simp; omega
   clear hsz hst
   go_wp2_with fail
   go_roundw
   case rel => exact ⟨m / 10, _, by omega, by simp, rfl, ht2, hd2.out, hbel.alloc hbel.size _⟩
   case measure => simp [intOf]; omega
  ·have hsz1 := hsz (48 + (m : Int))
   have fin : Hid (strOfNums [48 + (m : Int)] ++ t = decS n) := by
    show _ = _
    rw [← hd.out]
    congr 1
    unfold decS
    rw [Qgf m (by omega)]
   clear hsz
   go_wp2_with fail
   go_ret
   exact ⟨ret_str fin.out, hbel.alloc hbel.size _⟩
def minus : ByteArray := ⟨#[45]⟩
def numS (n : Int) : ByteArray := if n < 0 then minus ++ decS n.natAbs else decS n.natAbs
theorem pnum_any (n : Int) (h0 : -9223372036854775808 ≤ n) (h1 : n ≤ 9223372036854775807) (w : World) :
  Calls Try.prog 40 #[.int .i64 n] w fun e w' => e = .returned (.string (numS n)) ∧ Below w.heap.size w w' := by
 have hcv := fun (w : World) (a : Int) => Qhq [a] 1 rfl w
 simp only [List.map] at hcv
 go_enter Try.func40, Try.ntmps40
 by_cases hneg : n < 0
 ·go_wp2_with fail
  have hwr : Value.int .u64 (IntKind.u64.wrap (-IntKind.u64.wrap n)) = .int .u64 (n.natAbs : Nat) := by
   congr 1
   simp [IntKind.wrap, IntKind.signed, IntKind.bits]; omega
  go_loopw [3, 4] (fun u v wr => ∃ (m : Nat) (t : ByteArray), m ≤ 9223372036854775808 ∧ u = .int .u64 m ∧ v = .string t ∧ t.size ≤ 20 ∧ Hid (decS m ++ t = decS n.natAbs) ∧ Below w.heap.size w wr) (fun u _ _ => (intOf u).toNat)
  case atStart => exact ⟨n.natAbs, ⟨#[]⟩, by omega, hwr, rfl, by decide, Qlb _, Below.refl _ _⟩
  case round =>
   obtain ⟨m, t, hm, rfl, rfl, ht, hd, hbel⟩ := hrel
   have hms := Qft m (by omega)
   have hns := Qft n.natAbs (by omega)
   have hto : t.size ≤ 19 := by
    have := congrArg ByteArray.size hd.out
    rw [ByteArray.size_append] at this
    omega
   have hsz : ∀ a : Int, ¬ 9223372036854775807 < (strOfNums [a]).size + t.size := fun a => by rw [strOfNums_size]; simp; omega
   have hsz1 := hsz (48 + (m : Int) % 10)
   clear hsz
   by_cases h10 : m < 10
   ·have hq : (m : Int) / 10 = 0 := by omega
    have fin : Hid (strOfNums [48 + (m : Int) % 10] ++ t = decS n.natAbs) := by
     show _ = _
     rw [← hd.out, show (m : Int) % 10 = m by omega]
     congr 1
     unfold decS
     rw [Qgf m (by omega)]
    have hsz3 : ¬ 9223372036854775807 < 1 + ((strOfNums [48 + (m : Int) % 10]).size + t.size) := by rw [strOfNums_size]; simp; omega
    go_wp2_with fail
    go_ret
    refine ⟨ret_str ?_, hbel.alloc hbel.size _⟩
    rw [fin.out, numS, if_pos hneg]; rfl
   ·have hq : ¬ (m : Int) / 10 = 0 := by omega
    have hst : decL m = decL (m / 10) ++ [48 + ((m % 10 : Nat) : Int)] := Qib m (by omega)
    have hd2 : Hid (decS (m / 10) ++ (strOfNums [48 + (m : Int) % 10] ++ t) = decS n.natAbs) := by
     show _ = _
     rw [← hd.out, Qka]
     congr 1
     unfold decS
     rw [Qil, hst]
     rfl
    have ht2 : (strOfNums [48 + (m : Int) % 10] ++ t).size ≤ 20 := by rw [ByteArray.size_append, strOfNums_size]; simp; omega
    clear hst
    go_wp2_with fail
    go_roundw
    case rel => exact ⟨m / 10, _, by omega, by simp, rfl, ht2, hd2.out, hbel.alloc hbel.size _⟩
    case measure => simp [intOf]; omega
 ·have hwr : Value.int .u64 (IntKind.u64.wrap n) = .int .u64 (n.natAbs : Nat) := by
   congr 1
   simp [IntKind.wrap, IntKind.signed, IntKind.bits]; omega
  go_wp2_with fail
  go_loopw [3, 4] (fun u v wr => ∃ (m : Nat) (t : ByteArray), m ≤ 9223372036854775808 ∧ u = .int .u64 m ∧ v = .string t ∧ t.size ≤ 20 ∧ Hid (decS m ++ t = decS n.natAbs) ∧ Below w.heap.size w wr) (fun u _ _ => (intOf u).toNat)
  case atStart => exact ⟨n.natAbs, ⟨#[]⟩, by omega, rfl, rfl, by decide, Qlb _, Below.refl _ _⟩
  case round =>
   obtain ⟨m, t, hm, rfl, rfl, ht, hd, hbel⟩ := hrel
   have hms := Qft m (by omega)
   have hns := Qft n.natAbs (by omega)
   have hto : t.size ≤ 19 := by
    have := congrArg ByteArray.size hd.out
    rw [ByteArray.size_append] at this
    omega
   have hsz : ∀ a : Int, ¬ 9223372036854775807 < (strOfNums [a]).size + t.size := fun a => by rw [strOfNums_size]; simp; omega
   have hsz1 := hsz (48 + (m : Int) % 10)
   clear hsz
   by_cases h10 : m < 10
   ·have hq : (m : Int) / 10 = 0 := by omega
    have fin : Hid (strOfNums [48 + (m : Int) % 10] ++ t = decS n.natAbs) := by
     show _ = _
     rw [← hd.out, show (m : Int) % 10 = m by omega]
     congr 1
     unfold decS
     rw [Qgf m (by omega)]
    have hsz3 : ¬ 9223372036854775807 < 1 + ((strOfNums [48 + (m : Int) % 10]).size + t.size) := by rw [strOfNums_size]; simp; omega
    go_wp2_with fail
    go_ret
    refine ⟨ret_str ?_, hbel.alloc hbel.size _⟩
    rw [fin.out, numS, if_neg (by omega)]
   ·have hq : ¬ (m : Int) / 10 = 0 := by omega
    have hst : decL m = decL (m / 10) ++ [48 + ((m % 10 : Nat) : Int)] := Qib m (by omega)
    have hd2 : Hid (decS (m / 10) ++ (strOfNums [48 + (m : Int) % 10] ++ t) = decS n.natAbs) := by
     show _ = _
     rw [← hd.out, Qka]
     congr 1
     unfold decS
     rw [Qil, hst]
     rfl
    have ht2 : (strOfNums [48 + (m : Int) % 10] ++ t).size ≤ 20 := by rw [ByteArray.size_append, strOfNums_size]; simp; omega
    clear hst
    go_wp2_with fail
    go_roundw
    case rel => exact ⟨m / 10, _, by omega, by simp, rfl, ht2, hd2.out, hbel.alloc hbel.size _⟩
    case measure => simp [intOf]; omega
def WC (f : FuncId) (args : List PV) (txt : List UInt8) : Prop :=
 ∀ (i g : Nat) (o : List UInt8 × Bool) (T : List UInt8), Wr o T → PCalls Try.prog f (.ptr i 0 :: args) (wrS i g 88 o) fun p s => p = .tup [] ∧ ∃ o', Wr o' (T ++ txt) ∧ s = wrS i g 88 o'
theorem POp.permOut {P : Program} {o : Oper} {ρ : Operand → Option PV} {st : St} {R R' : PV → St → Prop} (h : POp P o ρ st R) (hr : ∀ p s, R p s → ∃ s', s.Perm s' ∧ R' p s') : POp P o ρ st R' :=
 fun F K w a next Q h1 h2 h3 => h F K w a next Q h1 h2 fun K' w' p st' v a b c d => by
  obtain ⟨s', hp, hr'⟩ := hr p st' d
  exact h3 K' w' p s' v a (b.perm hp) c hr'
theorem op_wr {o : Oper} {ρ : Operand → Option PV} {st L : St} {f k : Nat} {xs : Array Operand} {ts : Array TypeId} {i g : Nat} {ow : List UInt8 × Bool} {T : List UInt8} {ps qs : List PV} {txt : List UInt8} {R : PV → St → Prop} (ho : o.op = .call { callee := .value (.func f), args := xs, argTypes := ts }) (hρ : ρ (.func f) = some (.fn (.func f) [] [])) (hW : Wr ow T) (hc : WC f qs txt) (hxs : Jn ρ xs.toList = some ps) (hn : ps.map PV.norm1 = .ptr i 0 :: qs) (hca : Qap Try.prog f = true) (hL : st.take k = L) (h0 : st.drop k = wrS i g 88 ow)
  (h : ∀ o', Wr o' (T ++ txt) → R (.tup []) (L ++ wrS i g 88 o')) : POp Try.prog o ρ st R := by
 have hst : st = L ++ wrS i g 88 ow := by rw [← hL, ← h0, List.take_append_drop]
 subst hst
 refine POp.permOut (R := fun p s => p = .tup [] ∧ ∃ o', Wr o' (T ++ txt) ∧ s = wrS i g 88 o' ++ L) (Qfr (st0 := wrS i g 88 ow) (st1 := L) (first := []) (cap := []) ho hρ hxs hca List.perm_append_comm (R0 := fun p s => p = .tup [] ∧ ∃ o', Wr o' (T ++ txt) ∧ s = wrS i g 88 o') ?_ ?_) ?_
 ·simp only [List.nil_append, List.append_nil]
  have := hc i g ow T hW
  rw [← hn] at this
  exact this.args_norm
 ·rintro p s0 ⟨h1, o', h2, rfl⟩
  exact ⟨h1, o', h2, rfl⟩
 ·rintro p s ⟨rfl, o', h2, rfl⟩
  exact ⟨_, List.perm_append_comm, h o' h2⟩
section
variable {n : Nat} {ops : Array Oper} {Q : PF → St → Prop} {rest : List Oper} {fr : PF} {st L : St} {ty : TypeId} {pos : String} {after : Array Edge} {gd : Option (Nat × Bool)} {od : List (Nat × Kd)} {j d f : Nat} {xs : Array Operand} {ts : Array TypeId} {i g : Nat} {ow : List UInt8 × Bool} {T : List UInt8} {ps qs : List PV} {txt : List UInt8}
theorem POps_wr (k : Nat) (hW : Wr ow T ∧ WC f qs txt) (hL : st.take k = L) (h0 : st.drop k = wrS i g 88 ow) (hd : d < n) (hw : PF.wants fr ops ⟨some d, .call { callee := .value (.func f), args := xs, argTypes := ts }, ty, pos, after, gd⟩ = some true) (hxs : Jn fr.eval xs.toList = some ps) (hn : ps.map PV.norm1 = .ptr i 0 :: qs) (hca : Qap Try.prog f = true)
  (h : ∀ o', Wr o' (T ++ txt) → POps Try.prog n ops Q rest ((d, .tup []) :: fr) (L ++ wrS i g 88 o')) : POps Try.prog n ops Q (⟨some d, .call { callee := .value (.func f), args := xs, argTypes := ts }, ty, pos, after, gd⟩ :: rest) fr st :=
 Qeb hd hw (op_wr rfl rfl hW.1 hW.2 hxs hn hca hL h0 h)
theorem POrd_wr (k : Nat) (hW : Wr ow T ∧ WC f qs txt) (hL : st.take k = L) (h0 : st.drop k = wrS i g 88 ow) (ho : ops[j]? = some ⟨some d, .call { callee := .value (.func f), args := xs, argTypes := ts }, ty, pos, after, gd⟩) (hd : d < n) (hw : PF.wants fr ops ⟨some d, .call { callee := .value (.func f), args := xs, argTypes := ts }, ty, pos, after, gd⟩ = some true) (hxs : Jn fr.eval xs.toList = some ps) (hn : ps.map PV.norm1 = .ptr i 0 :: qs) (hca : Qap Try.prog f = true)
  (h : ∀ o', Wr o' (T ++ txt) → POrd Try.prog n ops Q od ((d, .tup []) :: fr) (L ++ wrS i g 88 o')) : POrd Try.prog n ops Q ((j, .e) :: od) fr st :=
 POrd_e ho hd hw (op_wr rfl rfl hW.1 hW.2 hxs hn hca hL h0 h)
end
section
variable {n : Nat} {ops : Array Oper} {Q : PF → St → Prop} {rest : List Oper} {fr : PF} {st L : St} {ty : TypeId} {pos : String} {after : Array Edge} {gd : Option (Nat × Bool)} {od : List (Nat × Kd)} {j d f : Nat} {xs : Array Operand} {ts : Array TypeId} {i g : Nat} {ow : List UInt8 × Bool} {T : List UInt8} {ps qs : List PV} {txt : List UInt8}
theorem Qab  (k : Nat) (hW : Wr ow T ∧ WC f qs txt) (h : ∀ o', Wr o' (T ++ txt) → POps Try.prog n ops Q rest ((d, .tup []) :: fr) (L ++ wrS i g 88 o')) (hL : st.take k = L := by simp only [List.cons_append, List.nil_append, List.take_succ_cons, List.take_zero]; rfl) (h0 : st.drop k = wrS i g 88 ow := by rfl) (hd : d < n := by decide) (hw : PF.wants fr ops ⟨some d, .call { callee := .value (.func f), args := xs, argTypes := ts }, ty, pos, after, gd⟩ = some true := by rfl) (hxs : Jn fr.eval xs.toList = some ps := by exact eQ) (hn : ps.map PV.norm1 = .ptr i 0 :: qs := by first | (simp [PV.norm1, PV.norm0, aggD, slD, Jg, Jj, Jh, Ji, Jf]; done) | fail) (hca : Qap Try.prog f = true := by rfl) : POps Try.prog n ops Q (⟨some d, .call { callee := .value (.func f), args := xs, argTypes := ts }, ty, pos, after, gd⟩ :: rest) fr st :=
 POps_wr k hW hL h0 hd hw hxs hn hca h
end
section
variable {n : Nat} {ops : Array Oper} {Q : PF → St → Prop} {rest : List Oper} {fr : PF} {st L : St} {ty : TypeId} {pos : String} {after : Array Edge} {gd : Option (Nat × Bool)} {od : List (Nat × Kd)} {j d f : Nat} {xs : Array Operand} {ts : Array TypeId} {i g : Nat} {ow : List UInt8 × Bool} {T : List UInt8} {ps qs : List PV} {txt : List UInt8}
theorem Qej  (k : Nat) (hW : Wr ow T ∧ WC f qs txt) (h : ∀ o', Wr o' (T ++ txt) → POrd Try.prog n ops Q od ((d, .tup []) :: fr) (L ++ wrS i g 88 o')) (hL : st.take k = L := by simp only [List.cons_append, List.nil_append, List.take_succ_cons, List.take_zero]; rfl) (h0 : st.drop k = wrS i g 88 ow := by rfl) (ho : ops[j]? = some ⟨some d, .call { callee := .value (.func f), args := xs, argTypes := ts }, ty, pos, after, gd⟩ := by rfl) (hd : d < n := by decide) (hw : PF.wants fr ops ⟨some d, .call { callee := .value (.func f), args := xs, argTypes := ts }, ty, pos, after, gd⟩ = some true := by exact eD) (hxs : Jn fr.eval xs.toList = some ps := by exact eQ) (hn : ps.map PV.norm1 = .ptr i 0 :: qs := by first | (simp [PV.norm1, PV.norm0, aggD, slD, Jg, Jj, Jh, Ji, Jf]; done) | fail) (hca : Qap Try.prog f = true := by rfl) : POrd Try.prog n ops Q ((j, .e) :: od) fr st :=
 POrd_wr k hW hL h0 ho hd hw hxs hn hca h
end
theorem Qau (l : List ByteArray) (hl : l.length ≤ 1000) : WC 77 [.d (slD l)] (txts l) := fun i g o T hW => add_p i g 88 o T hW l hl
@[simp] theorem toList_mk (a : Array UInt8) : (ByteArray.mk a).toList = a.toList := by rw [ByteArray.toList_eq]
theorem around_p (t : Nd) (lv : Int) : PCalls Try.prog 97 [aggD t, .d (.v (.int .i64 lv))] [] fun p s => p = .d (.v (.bool (decide ((t.kind = 3 ∨ t.kind = 4) ∧ 1 ≤ lv ∨ t.kind = 5 ∧ 2 ≤ lv)))) ∧ s = [] := by
 simp only [aggD, Jg, List.map_cons, List.map_nil]
 refine pG Try.func97 Try.ntmps97 ?_
 refine Jc ?_
 intro i0 hi0
 by_cases h3 : t.kind = 3
 ·refine go_ ?_
  refine rT Try.results97 ?_
  simp [h3]; rfl
 by_cases h4 : t.kind = 4
 ·refine go_ ?_
  refine rT Try.results97 ?_
  simp [h4]; rfl
 by_cases h5 : t.kind = 5
 ·refine go_ ?_
  refine rT Try.results97 ?_
  simp [h5]; rfl
 ·refine go_ ?_
  refine rT Try.results97 ?_
  simp [h3, h4, h5]; rfl
def par (t : Nd) (lv : Int) : Bool := decide ((t.kind = 3 ∨ t.kind = 4) ∧ 1 ≤ lv ∨ t.kind = 5 ∧ 2 ≤ lv)
def Qgr (b : Bool) (l : List UInt8) : List UInt8 := if b then [40] ++ l ++ [41] else l
def inL : Nd → List UInt8
  | .mk k _ s _ [x, y] =>
    if k = 5 then Qgr (par x 1) (inL x) ++ [32] ++ Qgr (par y 2) (inL y)
    else if k = 3 ∧ s = ⟨#[95]⟩ then Qgr (par x 1) (inL x) ++ [32, 45, 62, 32] ++ Qgr (par y 0) (inL y)
    else (if k = 4 then [92, 32] else []) ++ (([40] ++ s.toList ++ [32, 58, 32]) ++ Qgr (par x 0) (inL x) ++ [41, 32, 45, 62, 32] ++ Qgr (par y 0) (inL y))
  | .mk k _ s n _ => if k = 1 then s.toList else [83, 101, 116] ++ (if 0 < n then [32] ++ (numS n).toList else [])
def exL (t : Nd) (lv : Int) : List UInt8 := Qgr (par t lv) (inL t)
theorem ex_cases {k a n : Int} {s : ByteArray} {sub : List Nd} (h : Qak (.mk k a s n sub) false = true) :
    (k = 1 ∧ sub = []) ∨ (k = 2 ∧ sub = [] ∧ 0 ≤ n ∧ n ≤ 7) ∨ ∃ x y, (k = 3 ∨ k = 4 ∨ k = 5) ∧ sub = [x, y] ∧ Qak x false = true ∧ Qak y false = true := by
  rw [Qcs] at h
  simp only [Bool.and_eq_true, decide_eq_true_eq, beq_iff_eq] at h
  obtain ⟨⟨⟨⟨⟨h1, h2⟩, h3⟩, h4⟩, h5⟩, h6⟩ := h
  have h7 : ¬ 6 ≤ k := by simpa using h5
  by_cases h345 : k = 3 ∨ k = 4 ∨ k = 5
  · refine .inr (.inr ?_)
    have hm : sub.length = 2 := by
      unfold Qbs at h2
      rw [if_neg (by omega), if_pos h345] at h2
      have := of_decide_eq_true h2
      omega
    match sub, hm with
    | [x, y], _ =>
      have hk : (k == 8) = false := by rw [beq_eq_false_iff_ne]; omega
      rw [hk] at h6
      simp only [Qbi, Bool.and_eq_true] at h6
      exact ⟨x, y, h345, rfl, h6.1, h6.2.1⟩
  · have hm : sub = [] := by
      unfold Qbs at h2
      rw [if_neg (by omega), if_neg h345, if_neg (by omega)] at h2
      have := of_decide_eq_true h2
      exact List.eq_nil_of_length_eq_zero (by omega)
    by_cases k1 : k = 1
    · exact .inl ⟨k1, hm⟩
    · have k2 : k = 2 := by omega
      unfold numB at h4
      rw [if_pos k2] at h4
      have := of_decide_eq_true h4
      exact .inr (.inl ⟨k2, hm, this.1, this.2⟩)
theorem numS_size (n : Int) (h0 : -9223372036854775808 ≤ n) (h1 : n ≤ 9223372036854775807) : (numS n).size ≤ maxLen := by
 have := Qft n.natAbs (by omega)
 have h2 : minus.size = 1 := rfl
 rw [maxLen_v]
 unfold numS
 split
 ·rw [ByteArray.size_append]; omega
 ·omega
theorem pnum_p (n : Int) (h0 : -9223372036854775808 ≤ n) (h1 : n ≤ 9223372036854775807) : PCalls Try.prog 40 [.d (.v (.int .i64 n))] [] fun p s => p = .d (.v (.string (numS n))) ∧ s = [] := by
  refine PCalls.flat (numS_size n h0 h1) fun K w vs ha => ?_
  obtain ⟨v, rfl, hv⟩ := ha.one
  cases hv with
  | d hv =>
    cases hv with
    | v _ => exact pnum_any n h0 h1 w
def ExC (t : Nd) (lv : Int) : Prop := WC 74 [aggD t, .d (.v (.int .i64 lv))] (exL t lv)
def OpC (t : Nd) : Prop := WC 98 [aggD t] (inL t)
def binL (s : ByteArray) (x y : Nd) : List UInt8 := ([40] ++ s.toList ++ [32, 58, 32]) ++ exL x 0 ++ [41, 32, 45, 62, 32] ++ exL y 0
theorem expr_of_open (t : Nd) (lv : Int) (h : OpC t) : ExC t lv := by
  intro i g o T hW
  have HP := Hh (show par t lv = decide ((t.kind = 3 ∨ t.kind = 4) ∧ 1 ≤ lv ∨ t.kind = 5 ∧ 2 ≤ lv) from rfl)
  have ha := around_p t lv
  rw [← HP.out] at ha
  unfold exL
  simp only [aggD, Jg, List.map_cons, List.map_nil]
  refine pG Try.func74 Try.ntmps74 ?_
  refine Jc ?_
  intro i0 hi0
  refine go_ ?_
  refine Jb (ha) ?_
  cases hp : par t lv with
  | true =>
    refine go_ ?_
    refine Qad ?_
    refine Qab 1 (⟨hW, Qau [⟨#[40]⟩] (by decide)⟩) ?_
    intro o1 hW1
    refine go_ ?_
    refine Qab 1 (⟨hW1, h⟩) ?_
    intro o2 hW2
    refine go_ ?_
    refine Qad ?_
    refine Qab 1 (⟨hW2, Qau [⟨#[41]⟩] (by decide)⟩) ?_
    intro o3 hW3
    refine go_ ?_
    refine Qay (by simp) (by simp only [Try.results74]; rfl) (by simp [resP]; rfl) (List.Sublist.cons _ (List.Sublist.refl _)) ⟨rfl, o3, ?_, rfl⟩
    have e : T ++ Qgr true (inL t) = T ++ txts [⟨#[40]⟩] ++ inL t ++ txts [⟨#[41]⟩] := by
      simp [txts, Qgr]
    rw [e]; exact hW3
  | false =>
    refine go_ ?_
    refine Qab 1 (⟨hW, h⟩) ?_
    intro o2 hW2
    refine go_ ?_
    refine Qay (by simp) (by simp only [Try.results74]; rfl) (by simp [resP]; rfl) (List.Sublist.cons _ (List.Sublist.refl _)) ⟨rfl, o2, hW2, rfl⟩
theorem Qdj (k a n : Int) (s : ByteArray) (sub : List Nd) : encD (Nd.mk k a s n sub) = [.v (.int .i64 k), .v (.int .i64 a), .v (.string s), .v (.int .i64 n), .sl (sub.map encD)] := Jg _
def BiC (k a n : Int) (s : ByteArray) (x y : Nd) : Prop := WC 107 [aggD (Nd.mk k a s n [x, y])] (binL s x y)
theorem Qlo (k a n : Int) (s : ByteArray) (x y : Nd) (hx : ExC x 0) (hy : ExC y 0) : BiC k a n s x y := by
 intro i g o T hW
 have HE := Hh (show binL s x y = ([40] ++ s.toList ++ [32, 58, 32]) ++ exL x 0 ++ [41, 32, 45, 62, 32] ++ exL y 0 from rfl)
 generalize binL s x y = txt at *
 simp only [aggD, Qdj, List.map_cons, List.map_nil]
 refine pG Try.func107 Try.ntmps107 ?_
 refine Jc ?_
 intro i0 hi0
 refine go_ ?_
 refine Qao [(0, .a), (1, .a), (2, .a), (3, .a), (4, .b), (5, .a), (6, .e)] (by kernel_rfl) (by rfl) (by kernel_rfl) ?_
 refine go_ ?_
 refine Qei ?_
 refine Qej 1 (⟨hW, Qau [⟨#[40]⟩, s, ⟨#[32, 58, 32]⟩] (by simp)⟩) ?_
 intro o1 hW1
 refine go_ ?_
 refine Qab 1 (⟨hW1, hx⟩) ?_
 intro o2 hW2
 refine go_ ?_
 refine Qad ?_
 refine Qab 1 (⟨hW2, Qau [⟨#[41, 32, 45, 62, 32]⟩] (by simp)⟩) ?_
 intro o3 hW3
 refine go_ ?_
 refine Qab 1 (⟨hW3, hy⟩) ?_
 intro o4 hW4
 refine go_ ?_
 refine Qay (by simp) (by simp only [Try.results107]; rfl) (by simp [resP]; rfl) dR ⟨rfl, o4, ?_, rfl⟩
 rw [HE.out]
 simpa [txts] using hW4
theorem ne_toList {s : ByteArray} {b : Array UInt8} (h : ¬ s = ⟨b⟩) : ¬ s.toList = b.toList := fun e => h (by
 rw [ByteArray.toList_eq] at e
 apply ByteArray.ext
 exact Array.toList_inj.1 e)
def GoodSub (sub : List Nd) : Prop := ∀ x ∈ sub, ∀ lv, ExC x lv
theorem inL_app (k a n : Int) (s : ByteArray) (x y : Nd) (h : k = 5) : inL (.mk k a s n [x, y]) = exL x 1 ++ [32] ++ exL y 2 := by
 rw [inL, if_pos h]; rfl
theorem Qjh (k a n : Int) (s : ByteArray) (x y : Nd) (h : k = 3) (hs : s = ⟨#[95]⟩) : inL (.mk k a s n [x, y]) = exL x 1 ++ [32, 45, 62, 32] ++ exL y 0 := by
 rw [inL, if_neg (by omega), if_pos ⟨h, hs⟩]; rfl
theorem inL_pi (k a n : Int) (s : ByteArray) (x y : Nd) (h : k = 3) (hs : ¬ s = ⟨#[95]⟩) : inL (.mk k a s n [x, y]) = binL s x y := by
 rw [inL, if_neg (by omega), if_neg (by simp [hs]), if_neg (by omega)]; rfl
theorem inL_lam (k a n : Int) (s : ByteArray) (x y : Nd) (h : k = 4) : inL (.mk k a s n [x, y]) = [92, 32] ++ binL s x y := by
 rw [inL, if_neg (by omega), if_neg (by omega), if_pos h]; rfl
theorem inL_name (k a n : Int) (s : ByteArray) (h : k = 1) : inL (.mk k a s n []) = s.toList := by
 rw [inL, if_pos h]
 intros; simp_all
theorem inL_set (k a n : Int) (s : ByteArray) (h : k = 2) : inL (.mk k a s n []) = [83, 101, 116] ++ (if 0 < n then [32] ++ (numS n).toList else []) := by
 rw [inL, if_neg (by omega)]
 intros; simp_all
theorem open_step (t : Nd) (hg : Qak t false = true) (ih : GoodSub t.sub) : OpC t := by
 obtain ⟨k, a, s, n, sub⟩ := t
 intro i g o T hW
 rcases ex_cases hg with ⟨rfl, rfl⟩ | ⟨rfl, rfl, hn0, hn7⟩ | ⟨x, y, hk, rfl, hx, hy⟩
 ·have HE := Hh (inL_name 1 a n s rfl)
  generalize inL (.mk 1 a s n []) = txt at *
  simp only [aggD, Qdj, List.map_cons, List.map_nil]
  refine pG Try.func98 Try.ntmps98 ?_
  refine Jc ?_
  intro i0 hi0
  refine go_ ?_
  refine Qao [(0, .a), (1, .a), (2, .a), (3, .a), (4, .b), (5, .a), (6, .e)] (by kernel_rfl) (by rfl) (by kernel_rfl) ?_
  refine go_ ?_
  refine Qei ?_
  refine Qej 1 (⟨hW, Qau [s] (by simp)⟩) ?_
  intro o1 hW1
  refine go_ ?_
  refine Qay (by simp) (by simp only [Try.results98]; rfl) (by simp [resP]; rfl) dR ⟨rfl, o1, ?_, rfl⟩
  rw [HE.out]
  simpa [txts] using hW1
 ·have HE := Hh (inL_set 2 a n s rfl)
  generalize inL (.mk 2 a s n []) = txt at *
  simp only [aggD, Qdj, List.map_cons, List.map_nil]
  refine pG Try.func98 Try.ntmps98 ?_
  refine Jc ?_
  intro i0 hi0
  refine go_ ?_
  refine Qad ?_
  refine Qab 1 (⟨hW, Qau [⟨#[83, 101, 116]⟩] (by simp)⟩) ?_
  intro o1 hW1
  by_cases hn : 0 < n
  ·refine go_ ?_
   refine Qao [(0, .a), (1, .a), (2, .a), (3, .a), (4, .b), (5, .a), (6, .a), (7, .e)] (by kernel_rfl) (by rfl) (by kernel_rfl) ?_
   refine go_ ?_
   refine Qjn (pnum_p n (by omega) (by omega)) ?_
   refine go_ ?_
   refine Qei ?_
   refine Qej 1 (⟨hW1, Qau [⟨#[32]⟩, numS n] (by simp)⟩) ?_
   intro o2 hW2
   refine go_ ?_
   refine Qay (by simp) (by simp only [Try.results98]; rfl) (by simp [resP]; rfl) dR ⟨rfl, o2, ?_, rfl⟩
   rw [HE.out, if_pos hn]
   simpa [txts] using hW2
  ·refine go_ ?_
   refine Qay (by simp) (by simp only [Try.results98]; rfl) (by simp [resP]; rfl) dR ⟨rfl, o1, ?_, rfl⟩
   rw [HE.out, if_neg hn]
   simpa [txts] using hW1
 ·have hx' := ih x (by simp [Nd.sub])
  have hy' := ih y (by simp [Nd.sub])
  clear ih
  rcases hk with rfl | rfl | rfl
  ·by_cases hs : s = ⟨#[95]⟩
   ·have HE := Hh (Qjh 3 a n s x y rfl hs)
    generalize inL (.mk 3 a s n [x, y]) = txt at *
    subst hs
    simp only [aggD, Qdj, List.map_cons, List.map_nil]
    refine pG Try.func98 Try.ntmps98 ?_
    refine Jc ?_
    intro i0 hi0
    refine go_ ?_
    refine Qab 1 (⟨hW, hx' 1⟩) ?_
    intro o1 hW1
    refine go_ ?_
    refine Qad ?_
    refine Qab 1 (⟨hW1, Qau [⟨#[32, 45, 62, 32]⟩] (by simp)⟩) ?_
    intro o2 hW2
    refine go_ ?_
    refine Qab 1 (⟨hW2, hy' 0⟩) ?_
    intro o3 hW3
    refine go_ ?_
    refine Qay (by simp) (by simp only [Try.results98]; rfl) (by simp [resP]; rfl) dR ⟨rfl, o3, ?_, rfl⟩
    rw [HE.out]
    simpa [txts] using hW3
   ·have HE := Hh (inL_pi 3 a n s x y rfl hs)
    have hs' := ne_toList (b := #[95]) hs
    generalize inL (.mk 3 a s n [x, y]) = txt at *
    have hb := Qlo 3 a n s x y (hx' 0) (hy' 0)
    simp only [BiC, aggD, Qdj, List.map_cons, List.map_nil] at hb
    simp only [aggD, Qdj, List.map_cons, List.map_nil]
    refine pG Try.func98 Try.ntmps98 ?_
    refine Jc ?_
    intro i0 hi0
    refine go_ ?_
    refine go_ ?_
    refine Qab 1 (⟨hW, hb⟩) ?_
    intro o1 hW1
    refine go_ ?_
    refine Qay (by simp) (by simp only [Try.results98]; rfl) (by simp [resP]; rfl) dR ⟨rfl, o1, ?_, rfl⟩
    rw [HE.out]
    exact hW1
  ·have HE := Hh (inL_lam 4 a n s x y rfl)
   generalize inL (.mk 4 a s n [x, y]) = txt at *
   have hb := Qlo 4 a n s x y (hx' 0) (hy' 0)
   simp only [BiC, aggD, Qdj, List.map_cons, List.map_nil] at hb
   simp only [aggD, Qdj, List.map_cons, List.map_nil]
   refine pG Try.func98 Try.ntmps98 ?_
   refine Jc ?_
   intro i0 hi0
   refine go_ ?_
   refine Qad ?_
   refine Qab 1 (⟨hW, Qau [⟨#[92, 32]⟩] (by simp)⟩) ?_
   intro o1 hW1
   refine go_ ?_
   refine Qab 1 (⟨hW1, hb⟩) ?_
   intro o2 hW2
   refine go_ ?_
   refine Qay (by simp) (by simp only [Try.results98]; rfl) (by simp [resP]; rfl) dR ⟨rfl, o2, ?_, rfl⟩
   rw [HE.out]
   simpa [txts] using hW2
  ·have HE := Hh (inL_app 5 a n s x y rfl)
   generalize inL (.mk 5 a s n [x, y]) = txt at *
   simp only [aggD, Qdj, List.map_cons, List.map_nil]
   refine pG Try.func98 Try.ntmps98 ?_
   refine Jc ?_
   intro i0 hi0
   refine go_ ?_
   refine Qab 1 (⟨hW, hx' 1⟩) ?_
   intro o1 hW1
   refine go_ ?_
   refine Qad ?_
   refine Qab 1 (⟨hW1, Qau [⟨#[32]⟩] (by simp)⟩) ?_
   intro o2 hW2
   refine go_ ?_
   refine Qab 1 (⟨hW2, hy' 2⟩) ?_
   intro o3 hW3
   refine go_ ?_
   refine Qay (by simp) (by simp only [Try.results98]; rfl) (by simp [resP]; rfl) dR ⟨rfl, o3, ?_, rfl⟩
   rw [HE.out]
   simpa [txts] using hW3
theorem expr_w : ∀ (m : Nat) (t : Nd), SizeOf.sizeOf t ≤ m → Qak t false = true → ∀ lv, ExC t lv := by
  intro m
  induction m with
  | zero => intro t h; cases t; simp at h
  | succ m ih =>
    intro t h hg lv
    refine expr_of_open t lv (open_step t hg fun x hx lv => ?_)
    obtain ⟨k, a, s, n, sub⟩ := t
    have hlt : SizeOf.sizeOf x ≤ m := by
      have := List.sizeOf_lt_of_mem hx
      simp only [Nd.sub] at this
      simp at h
      omega
    rcases ex_cases hg with ⟨_, rfl⟩ | ⟨_, rfl, _⟩ | ⟨y, z, _, rfl, hy, hz⟩
    · simp [Nd.sub] at hx
    · simp [Nd.sub] at hx
    · simp only [Nd.sub, List.mem_cons, List.not_mem_nil, or_false] at hx
      rcases hx with rfl | rfl
      · exact ih _ hlt hy lv
      · exact ih _ hlt hz lv
theorem Qls (l : List UInt8) : strOfNums (l.map fun c => (c.toNat : Int)) = ⟨l.toArray⟩ := by
 unfold strOfNums
 congr 1
 rw [List.map_map]
 congr 1
 conv => rhs; rw [← List.map_id l]
 refine List.map_congr_left fun a _ => ?_
 simp
theorem POp_bytes {P : Program} {o : Oper} {ρ : Operand → Option PV} {st : St} {src dst e : TypeId} {x : Operand} {p : PV} (l : List UInt8) (ho : o.op = .convert src dst x) (hx : ρ x = some p) (hp : p.norm0 = .d (.sl (l.map Qhp))) (hs : P.underlying src = some (.slice e)) (he : P.underlying e = some (.int .u8)) (hd : P.underlying dst = some .string) (hl : l.length ≤ 9223372036854775807) :
    POp P o ρ st fun q s => q = .d (.v (.string ⟨l.toArray⟩)) ∧ s = st := by
  refine POp.of_run fun F K w a h1 h2 => ?_
  obtain ⟨od, op, ty, pos, after, guard⟩ := o
  simp only at ho h2
  subst ho
  have hr := Qlf p _ _ _ (h2 x (by simp [Op.operands]) _ hx)
  rw [hp] at hr
  have hok : RelV K w (.d (.v (.string ⟨l.toArray⟩))) (.string ⟨l.toArray⟩) := .d (.v (by show _ ≤ maxLen; simp; exact hl))
  have hconv : (convert src dst (a.eval x)).run P w = .ok (.string ⟨l.toArray⟩) w := by
    generalize a.eval x = v at hr
    cases hr with
    | d hr =>
      generalize hrows : l.map Qhp = rows at hr
      cases hr with
      | nil h =>
        have hl0 : l = [] := by simpa using hrows
        subst hl0
        rename_i aa cap
        cases aa with
        | none => exact run_convert_bytes_nil w src e hs he 0 cap dst hd
        | some ad =>
          rw [run_convert_bytes_string w src dst e _ 0 cap hs he hd]
          have := run_loadCells (P := P) w ad 0 (fun _ => undef) (fun j hj => by omega)
          simp [Conv.bytesToString, this]; rfl
      | sl vals q1 q2 q3 q4 q5 =>
        subst hrows
        rename_i sz b off cap
        have hsz : ∀ h : l ≠ [], sz = 1 := fun h => by
          obtain ⟨c, hc⟩ := List.exists_mem_of_ne_nil l h
          exact (q3 _ (List.mem_map_of_mem hc)).symm
        have hce : ∀ i, i < l.length → w.cell? ⟨b, off + i, none⟩ = some (.int .u8 ((l.map fun c => (c.toNat : Int)).getD i 0)) := fun i hi => by
          have hne : l ≠ [] := fun h => by subst h; simp at hi
          have := hsz hne
          subst this
          have hrow : (l.map Qhp)[i]? = some (Qhp l[i]) := by rw [List.getElem?_map, List.getElem?_eq_getElem hi]; rfl
          have h6 := (q4 i 0 _ _ hrow rfl).2
          have h7 := q5 i 0 _ _ hrow rfl
          generalize vals i 0 = u at h6 h7
          cases h7 with
          | v _ =>
            simp only [Nat.mul_one, Nat.add_zero] at h6
            rw [h6]
            simp [List.getD, List.getElem?_eq_getElem hi]
        have := run_convert_bytes_arg (P := P) w src e hs he b off (l.map Qhp).length cap (l.map fun c => (c.toNat : Int)) (by simp) (fun i hi => hce i (by simpa using hi)) dst hd
        rw [this, Qls]
  refine ⟨.string ⟨l.toArray⟩, w, K, _, st, ?_, Ext.refl _ _ _, h1, hok, rfl, rfl⟩
  simp only [execOp]
  rw [Sem.run_bind, hconv]; rfl
section
variable {P : Program} {n : Nat} {ops : Array Oper} {Q : PF → St → Prop} {rest : List Oper} {fr : PF} {st : St} {p : PV} {ty : TypeId} {pos : String} {after : Array Edge} {gd : Option (Nat × Bool)} {d : Nat}
theorem Qco {src dst e : TypeId} {x : Operand} (l : List UInt8) (hd : d < n) (hw : PF.wants fr ops ⟨some d, .convert src dst x, ty, pos, after, gd⟩ = some true) (hx : fr.eval x = some p) (hp : p.norm0 = .d (.sl (l.map Qhp))) (hs : P.underlying src = some (.slice e)) (he : P.underlying e = some (.int .u8)) (hdd : P.underlying dst = some .string) (hl : l.length ≤ 9223372036854775807)
  (h : POps P n ops Q rest ((d, .d (.v (.string ⟨l.toArray⟩))) :: fr) st) : POps P n ops Q (⟨some d, .convert src dst x, ty, pos, after, gd⟩ :: rest) fr st :=
 Qeb hd hw ((POp_bytes (o := ⟨some d, .convert src dst x, ty, pos, after, gd⟩) l rfl hx hp hs he hdd hl).mono fun q s ⟨e1, e2⟩ => by subst e1; subst e2; exact h)
end
def Qgk (T : List UInt8) : PV := if T.length ≤ 65535 then .tup [.d (.v (.string ⟨T.toArray⟩)), .d (.v (.int .i64 0))] else .tup [.d (.v (.string ⟨#[]⟩)), .d (.v (.int .i64 2))]
theorem end_p (i g : Nat) (o : List UInt8 × Bool) (T : List UInt8) (hW : Wr o T) : PCalls Try.prog 43 [.ptr i 0] (wrS i g 88 o) fun p s => p = Qgk T ∧ s = [] := by
  obtain ⟨l, b⟩ := o
  have hl := hW.len
  simp only at hl
  unfold wrS
  simp only
  have HT := Hh (show Qgk T = if b then .tup [.d (.v (.string ⟨#[]⟩)), .d (.v (.int .i64 2))] else .tup [.d (.v (.string ⟨l.toArray⟩)), .d (.v (.int .i64 0))] by
    unfold Qgk
    rcases hW with ⟨h1, h2, h3⟩ | ⟨h1, h2, h3⟩
    · simp only at h1 h2
      subst h1; subst h2
      rw [if_pos h3]; rfl
    · simp only at h1
      subst h1
      rw [if_neg (by omega)]; rfl)
  generalize Qgk T = q at *
  refine pE Try.func43 Try.ntmps43 ?_
  cases b with
  | true =>
    refine go_ ?_
    refine rT Try.results43 ?_
    exact ⟨HT.out.symm, rfl⟩
  | false =>
    refine go_ ?_
    refine Qco (l) (by decide) rfl eQ (by rfl) rfl rfl rfl (by omega) ?_
    refine go_ ?_
    refine rT Try.results43 ?_
    exact ⟨HT.out.symm, rfl⟩
theorem PW_perm {P : Program} {n : Nat} {c : Code} {Q : Exit → PF → St → Prop} {fr : PF} {st st' : St} (hp : st.Perm st') (h : PW P n c Q fr st') : PW P n c Q fr st := fun F K w a h1 h2 => h F K w a (h1.perm hp) h2
theorem nd_flat {f : FuncId} {t : Nd} {b : Bool} (h : ∀ (cs : List Value) (w : World), NdC w t cs → Calls Try.prog f #[.agg cs.toArray] w fun e w' => e = .returned (.bool b) ∧ Below w.heap.size w w') : PCalls Try.prog f [aggD t] [] fun p s => p = .d (.v (.bool b)) ∧ s = [] := by
 refine PCalls.flat trivial fun K w vs ha => ?_
 obtain ⟨v, rfl, hv⟩ := ha.one
 obtain ⟨cs, rfl, hc⟩ := agg_nd hv
 exact h cs w hc
theorem texpr_p (t : Nd) : PCalls Try.prog 73 [aggD t] [] fun p s => p = .d (.v (.bool (Qby t))) ∧ s = [] := nd_flat (Qkg t)
theorem POps_callS {P : Program} {n : Nat} {ops : Array Oper} {Q : PF → St → Prop} {rest : List Oper} {fr : PF} {st L st0 : St} {ty : TypeId} {pos : String} {after : Array Edge} {gd : Option (Nat × Bool)} {d f : Nat} {xs : Array Operand} {ts : Array TypeId} {ps qs : List PV} {r : PV} (k : Nat) (hc : PCalls P f qs st0 fun p s => p = r ∧ s = []) (hL : st.take k = L) (h0 : st.drop k = st0) (hd : d < n) (hw : PF.wants fr ops ⟨some d, .call { callee := .value (.func f), args := xs, argTypes := ts }, ty, pos, after, gd⟩ = some true) (hxs : Jn fr.eval xs.toList = some ps) (hn : ps.map PV.norm1 = qs) (hca : Qap P f = true)
  (h : POps P n ops Q rest ((d, r) :: fr) L) : POps P n ops Q (⟨some d, .call { callee := .value (.func f), args := xs, argTypes := ts }, ty, pos, after, gd⟩ :: rest) fr st := by
 have hst : st = L ++ st0 := by rw [← hL, ← h0, List.take_append_drop]
 subst hst
 refine Qeb hd hw (Qfr (st0 := st0) (st1 := L) (first := []) (cap := []) rfl rfl hxs hca List.perm_append_comm (R0 := fun p s => p = r ∧ s = []) ?_ ?_)
 ·simp only [List.nil_append, List.append_nil]
  rw [← hn] at hc
  exact hc.args_norm
 ·rintro p s0 ⟨rfl, rfl⟩
  exact h
theorem wr0 : Wr ([], false) [] := .inl ⟨rfl, rfl, Nat.zero_le _⟩
theorem textP_tup (T : List UInt8) : ∃ s e, Qgk T = .tup [.d (.v (.string s)), .d (.v (.int .i64 e))] := by
 unfold Qgk
 split
 ·exact ⟨_, _, rfl⟩
 ·exact ⟨_, _, rfl⟩
def dotL : List Nd → List UInt8
 | x :: _ => exL x 2
 | [] => []
def exprR (t : Nd) : PV := if Qby t then Qgk (exL t 0) else .tup [.d (.v (.string ⟨#[]⟩)), .d (.v (.int .i64 5))]
theorem pexpr_p (t : Nd) : PCalls Try.prog 38 [aggD t] [] fun p s => p = exprR t ∧ s = [] := by
  have ht := texpr_p t
  have hw := fun hb : Qby t = true => expr_w _ t (Nat.le_refl _) (by unfold Qby at hb; simp only [Bool.and_eq_true] at hb; exact hb.2) 0
  have HE := Hh (show exprR t = if Qby t then Qgk (exL t 0) else .tup [.d (.v (.string ⟨#[]⟩)), .d (.v (.int .i64 5))] from rfl)
  generalize exprR t = q at *
  simp only [aggD, Jg, List.map_cons, List.map_nil]
  refine pG Try.func38 Try.ntmps38 ?_
  refine Jc ?_
  intro i0 hi0
  refine go_ ?_
  refine Jb (ht) ?_
  cases hb : Qby t with
  | false =>
    rw [hb] at HE
    refine go_ ?_
    refine rT Try.results38 ?_
    exact ⟨HE.out.symm, rfl⟩
  | true =>
    rw [hb] at HE
    have hw' := hw hb
    clear hw
    refine go_ ?_
    refine Jc ?_
    intro i1 hi1
    simp only [Rh, Rg] at hi1
    (first | refine Qq ?_ | refine Qr ?_)
    refine Qh ?_
    refine Qj ?_
    refine PW_ownB i1 0 5 1 eQ (by rfl) (by rfl) (by intro g; simp [St.setBox, *]; rfl) (by decide) ?_
    intro g hg
    refine PW_perm (st' := [.box i0 31 _] ++ wrS i1 g 88 ([], false)) (List.reverse_perm _).symm ?_
    refine go_ ?_
    refine Qab 1 (⟨wr0, hw'⟩) ?_
    intro o1 hW1
    simp only [List.nil_append] at hW1
    refine go_ ?_
    obtain ⟨s', e', het⟩ := textP_tup (exL t 0)
    have he := end_p i1 g o1 _ hW1
    rw [het] at he HE
    refine POps_callS 1 (he) (by simp only [List.cons_append, List.nil_append, List.take_succ_cons, List.take_zero]; rfl) (by rfl) (by decide) rfl eQ (by first | (simp [PV.norm1, PV.norm0, aggD, slD, Jg, Jj, Jh, Ji, Jf]; done) | fail) rfl ?_
    refine go_ ?_
    refine rT Try.results38 ?_
    exact ⟨HE.out.symm, rfl⟩
mutual
def patL : Nd → List UInt8
 | .mk k _ s _ sub => if k = 6 then s.toList else if k = 7 then [95] else if k = 9 then [40, 41] else if k = 10 then [46] ++ dotL sub else [40] ++ s.toList ++ Qdy sub ++ [41]
def Qdy : List Nd → List UInt8
 | [] => []
 | t :: ts => [32] ++ patL t ++ Qdy ts
end
theorem patsL_app (a b : List Nd) : Qdy (a ++ b) = Qdy a ++ Qdy b := by
 induction a with
 | nil => rfl
 | cons x a ih => simp only [List.cons_append, Qdy, ih, List.append_assoc]
theorem patsL_take {l : List Nd} {k : Nat} (h : k < l.length) : Qdy (l.take (k + 1)) = Qdy (l.take k) ++ [32] ++ patL l[k] := by
 rw [List.take_succ_eq_append_getElem h, patsL_app]
 simp [Qdy]
theorem Qid : ∀ {l : List Nd} {p : Bool}, Qbi l p = true → ∀ x ∈ l, Qak x p = true
  | [], _, _, x, hx => by cases hx
  | t :: ts, p, h, x, hx => by
    simp only [Qbi, Bool.and_eq_true] at h
    rcases List.mem_cons.1 hx with rfl | hx
    · exact h.1
    · exact Qid h.2 x hx
theorem pat_cases {k a n : Int} {s : ByteArray} {sub : List Nd} (h : Qak (.mk k a s n sub) true = true) :
    (k = 6 ∧ sub = []) ∨ (k = 7 ∧ sub = []) ∨ (k = 9 ∧ sub = []) ∨ (k = 10 ∧ ∃ x, sub = [x] ∧ Qak x false = true) ∨ (k = 8 ∧ Qbi sub true = true) := by
  rw [Qcs] at h
  simp only [Bool.and_eq_true, decide_eq_true_eq, beq_iff_eq] at h
  obtain ⟨⟨⟨⟨⟨h1, h2⟩, h3⟩, h4⟩, h5⟩, h6⟩ := h
  have h7 : 6 ≤ k := by simpa using h5
  by_cases k8 : k = 8
  · subst k8; exact .inr (.inr (.inr (.inr ⟨rfl, h6⟩)))
  have hk : (k == 8) = false := by rw [beq_eq_false_iff_ne]; exact k8
  rw [hk] at h6
  by_cases k10 : k = 10
  · refine .inr (.inr (.inr (.inl ⟨k10, ?_⟩)))
    unfold Qbs at h2
    rw [if_neg k8, if_neg (by omega), if_pos k10] at h2
    have hm := of_decide_eq_true h2
    match sub, hm with
    | [x], _ =>
      simp only [Qbi, Bool.and_eq_true] at h6
      exact ⟨x, rfl, h6.1⟩
    | [], hm => simp at hm
    | _ :: _ :: _, hm => simp at hm; omega
  · unfold Qbs at h2
    rw [if_neg k8, if_neg (by omega), if_neg k10] at h2
    have hm := of_decide_eq_true h2
    have hn : sub = [] := List.eq_nil_of_length_eq_zero (by omega)
    rcases (show k = 6 ∨ k = 7 ∨ k = 9 by omega) with h | h | h
    · exact .inl ⟨h, hn⟩
    · exact .inr (.inl ⟨h, hn⟩)
    · exact .inr (.inr (.inl ⟨h, hn⟩))
def PaC (t : Nd) : Prop := WC 100 [aggD t] (patL t)
theorem pattern_step (t : Nd) (hg : Qak t true = true) (hs : ndT t ≤ 8192) (ih : ∀ x ∈ t.sub, Qak x true = true → PaC x) : PaC t := by
 obtain ⟨k, a, s, n, sub⟩ := t
 intro i g o T hW
 have hdot := fun x (hx : Qak x false = true) => expr_w _ x (Nat.le_refl _) hx 2
 rcases pat_cases hg with ⟨rfl, rfl⟩ | ⟨rfl, rfl⟩ | ⟨rfl, rfl⟩ | ⟨rfl, x, rfl, hx⟩ | ⟨rfl, hL⟩
 ·have HE := Hh (show patL (.mk 6 a s n []) = s.toList by simp [patL])
  generalize patL (.mk 6 a s n []) = txt at *
  simp only [aggD, Qdj, List.map_cons, List.map_nil]
  refine pG Try.func100 Try.ntmps100 ?_
  refine Jc ?_
  intro i0 hi0
  refine go_ ?_
  refine Qao [(0, .a), (1, .a), (2, .a), (3, .a), (4, .b), (5, .a), (6, .e)] (by kernel_rfl) (by rfl) (by kernel_rfl) ?_
  refine go_ ?_
  refine Qei ?_
  refine Qej 1 (⟨hW, Qau [s] (by simp)⟩) ?_
  intro o1 hW1
  refine go_ ?_
  refine Qay (by simp) (by simp only [Try.results100]; rfl) (by simp [resP]; rfl) dR ⟨rfl, o1, ?_, rfl⟩
  rw [HE.out]
  simpa [txts] using hW1
 ·have HE := Hh (show patL (.mk 7 a s n []) = [95] by simp [patL])
  generalize patL (.mk 7 a s n []) = txt at *
  simp only [aggD, Qdj, List.map_cons, List.map_nil]
  refine pG Try.func100 Try.ntmps100 ?_
  refine Jc ?_
  intro i0 hi0
  refine go_ ?_
  refine Qad ?_
  refine Qab 1 (⟨hW, Qau [⟨#[95]⟩] (by simp)⟩) ?_
  intro o1 hW1
  refine go_ ?_
  refine Qay (by simp) (by simp only [Try.results100]; rfl) (by simp [resP]; rfl) dR ⟨rfl, o1, ?_, rfl⟩
  rw [HE.out]
  simpa [txts] using hW1
 ·have HE := Hh (show patL (.mk 9 a s n []) = [40, 41] by simp [patL])
  generalize patL (.mk 9 a s n []) = txt at *
  simp only [aggD, Qdj, List.map_cons, List.map_nil]
  refine pG Try.func100 Try.ntmps100 ?_
  refine Jc ?_
  intro i0 hi0
  refine go_ ?_
  refine Qad ?_
  refine Qab 1 (⟨hW, Qau [⟨#[40, 41]⟩] (by simp)⟩) ?_
  intro o1 hW1
  refine go_ ?_
  refine Qay (by simp) (by simp only [Try.results100]; rfl) (by simp [resP]; rfl) dR ⟨rfl, o1, ?_, rfl⟩
  rw [HE.out]
  simpa [txts] using hW1
 ·have HE := Hh (show patL (.mk 10 a s n [x]) = [46] ++ exL x 2 by simp [patL, dotL])
  generalize patL (.mk 10 a s n [x]) = txt at *
  have hd := hdot x hx
  clear hdot
  simp only [aggD, Qdj, List.map_cons, List.map_nil]
  refine pG Try.func100 Try.ntmps100 ?_
  refine Jc ?_
  intro i0 hi0
  refine go_ ?_
  refine Qad ?_
  refine Qab 1 (⟨hW, Qau [⟨#[46]⟩] (by simp)⟩) ?_
  intro o1 hW1
  refine go_ ?_
  refine Qab 1 (⟨hW1, hd⟩) ?_
  intro o2 hW2
  refine go_ ?_
  refine Qay (by simp) (by simp only [Try.results100]; rfl) (by simp [resP]; rfl) dR ⟨rfl, o2, ?_, rfl⟩
  rw [HE.out]
  simpa [txts] using hW2
 ·have HE := Hh (show patL (.mk 8 a s n sub) = [40] ++ s.toList ++ Qdy sub ++ [41] by simp [patL])
  generalize patL (.mk 8 a s n sub) = txt at *
  have ih' : ∀ (k : Nat) (h : k < sub.length), PaC sub[k] := fun k h => ih _ (List.getElem_mem h) (Qid hL _ (List.getElem_mem h))
  have hlen : sub.length ≤ 8192 := by
   rw [nd_sub] at hs
   have := ndL_len sub
   simp only [Nd.sub] at hs; omega
  clear ih hdot hs
  simp only [aggD, Qdj, List.map_cons, List.map_nil]
  refine pG Try.func100 Try.ntmps100 ?_
  refine Jc ?_
  intro i0 hi0
  refine go_ ?_
  refine Qao [(0, .a), (1, .a), (2, .a), (3, .a), (4, .b), (5, .a), (6, .e)] (by kernel_rfl) (by rfl) (by kernel_rfl) ?_
  refine go_ ?_
  refine Qei ?_
  refine Qej 1 (⟨hW, Qau [⟨#[40]⟩, s] (by simp)⟩) ?_
  intro o1 hW1
  refine go_ ?_
  refine Qbc (ι := Nat × (List UInt8 × Bool)) (fun k => k.1 ≤ sub.length ∧ Wr k.2 (T ++ ([40] ++ s.toList) ++ Qdy (sub.take k.1))) (fun k => [(0, .ptr i 0), (54, .d (.sl (sub.map encD))), (55, .d (.v (.int .i64 sub.length))), (56, .d (.v (.int .i64 k.1)))]) (fun k => wrS i g 88 k.2) (fun k => sub.length - k.1) (0, o1) ⟨Nat.zero_le _, by simpa [txts, Qdy] using hW1⟩ ?_ ?_ ?_
  ·exact sU
  ·exact dR
  ·rintro ⟨k, o⟩ ⟨hk, hWk⟩
   simp only at hk hWk ⊢
   clear hW hW1
   by_cases hlt : k < sub.length
   ·have hx := Qbx hlt
    have hc : ((k : Int) < (sub.length : Int)) := by omega
    have hn : (0 : Int) ≤ (k : Int) := by omega
    refine go_ ?_
    refine Jd ?_
    intro i2 hi2
    refine go_ ?_
    refine Qaa ?_
    refine Qad ?_
    refine Qab 1 (⟨hWk, Qau [⟨#[32]⟩] (by simp)⟩) ?_
    intro o2 hW2
    refine go_ ?_
    refine Qab 1 (⟨hW2, ih' k hlt⟩) ?_
    intro o3 hW3
    have hin := Qbm hlt (by omega)
    refine go_ ?_
    refine ⟨(k + 1, o3), ⟨by simp only; omega, ?_⟩, by simp only; omega, ?_, ?_⟩
    ·simp only [patsL_take hlt]
     simpa [txts] using hW3
    ·simp only
     repeat (first | exact Js _ | refine Jr (by simp [PF.get]; rfl) (by first | rfl | (simp [hin]; done) | fail) ?_)
    ·simp only
     exact dR
   ·have hc : ¬ ((k : Int) < (sub.length : Int)) := by omega
    rw [List.take_of_length_le (by omega)] at hWk
    refine go_ ?_
    refine Qad ?_
    refine Qab 0 (⟨hWk, Qau [⟨#[41]⟩] (by simp)⟩) ?_
    intro o2 hW2
    refine go_ ?_
    refine Qay (by simp) (by simp only [Try.results100]; rfl) (by simp [resP]; rfl) dR ⟨rfl, o2, ?_, rfl⟩
    rw [HE.out]
    simpa [txts] using hW2
theorem nd_mem {x : Nd} : ∀ {l : List Nd}, x ∈ l → ndT x ≤ ndL l
  | [], h => by cases h
  | t :: ts, h => by
    simp only [ndL]
    rcases List.mem_cons.1 h with rfl | h
    · omega
    · have := nd_mem h; omega
theorem pattern_w : ∀ (m : Nat) (t : Nd), SizeOf.sizeOf t ≤ m → Qak t true = true → ndT t ≤ 8192 → PaC t := by
  intro m
  induction m with
  | zero => intro t h; cases t; simp at h
  | succ m ih =>
    intro t h hg hs
    refine pattern_step t hg hs fun x hx hgx => ?_
    have h2 := nd_mem hx
    rw [nd_sub] at hs
    obtain ⟨k, a, s, n, sub⟩ := t
    have hlt : SizeOf.sizeOf x ≤ m := by
      have := List.sizeOf_lt_of_mem hx
      simp only [Nd.sub] at this
      simp at h
      omega
    exact ih x hlt hgx (by omega)
def strB (l : List UInt8) : ByteArray := ⟨l.toArray⟩
section
variable {P : Program} {n : Nat} {ops : Array Oper} {Q : PF → St → Prop} {rest : List Oper} {fr : PF} {st : St} {t rt ty : TypeId} {x y : Operand} {pos : String} {after : Array Edge} {gd : Option (Nat × Bool)} {d j : Nat} {a b : ByteArray} {l1 l2 : List UInt8} {od : List (Nat × Kd)} {k : Kd}
end
section
variable {P : Program} {n : Nat} {ops : Array Oper} {Q : PF → St → Prop} {rest : List Oper} {fr : PF} {st : St} {t rt ty : TypeId} {x y : Operand} {pos : String} {after : Array Edge} {gd : Option (Nat × Bool)} {d j : Nat} {a b : ByteArray} {l1 l2 : List UInt8} {od : List (Nat × Kd)} {k : Kd}
end
section
variable {P : Program} {n : Nat} {ops : Array Oper} {Q : PF → St → Prop} {rest : List Oper} {fr : PF} {st : St} {t rt ty : TypeId} {x y : Operand} {pos : String} {after : Array Edge} {gd : Option (Nat × Bool)} {d j : Nat} {a b : ByteArray} {l1 l2 : List UInt8} {od : List (Nat × Kd)} {k : Kd}
end
end Go.Proofs.Ytahhgpafjiljfaa

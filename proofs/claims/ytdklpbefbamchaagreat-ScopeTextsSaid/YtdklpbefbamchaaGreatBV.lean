import Derived.Test.YtdklpbefbamchaaGreatBA3
import Derived.Test.YtdklpbefbamchaaGreatBA2
import Derived.Test.YtdklpbefbamchaaGreatTab
import Derived.Test.YtdklpbefbamchaaGreatBUtf
import Derived.Test.YtdklpbefbamchaaGreatT8
import Derived.Test.YtdklpbefbamchaaGreatT6
import Derived.Test.YtdklpbefbamchaaGreatBU
set_option linter.unusedSimpArgs false
set_option linter.unusedVariables false
set_option maxHeartbeats 16000000
set_option maxRecDepth 100000
namespace Go.Proofs.YtdklpbefbamchaaGreat
open Go.RowKit
@[simp] theorem size_mk (a : Array UInt8) : (ByteArray.mk a).size = a.size := rfl
@[simp] theorem maxLen_v : maxLen = 9223372036854775807 := rfl
def Wr (o : List UInt8 × Bool) (T : List UInt8) : Prop := (o.2 = false ∧ o.1 = T ∧ T.length ≤ 65535) ∨ (o.2 = true ∧ o.1.length ≤ 65535 ∧ 65535 < T.length)
theorem Wr.len {o : List UInt8 × Bool} {T : List UInt8} (h : Wr o T) : o.1.length ≤ 65535 := by
 rcases h with ⟨_, h, h2⟩ | ⟨_, h, _⟩
 ·rw [h]; exact h2
 ·exact h
def Qkb (c : UInt8) : List D := [.v (.int .u8 c.toNat)]
def txts (l : List ByteArray) : List UInt8 := (l.map ByteArray.toList).flatten
theorem txts_take {l : List ByteArray} {k : Nat} (h : k < l.length) : txts (l.take (k + 1)) = txts (l.take k) ++ l[k].toList := by
 unfold txts
 rw [List.take_succ_eq_append_getElem h, List.map_append, List.flatten_append]; simp
theorem Qhq (s : ByteArray) : s.toList.length = s.size := by rw [ByteArray.toList_eq]; simp
theorem Wr.next {o : List UInt8 × Bool} {T : List UInt8} {l : List ByteArray} {k : Nat} (h : k < l.length) (hW : Wr o (T ++ txts (l.take k))) (hbig : ¬ 65535 - (o.1.length : Int) < (l[k].size : Int)) : Wr (o.1 ++ l[k].toList, o.2) (T ++ txts (l.take (k + 1))) := by
 rw [txts_take h, ← List.append_assoc]
 have hz := Qhq l[k]
 rcases hW with ⟨h1, h2, h3⟩ | ⟨h1, h2, h3⟩
 ·refine .inl ⟨h1, by rw [h2], ?_⟩
  rw [← h2, List.length_append, hz]; omega
 ·refine .inr ⟨h1, ?_, ?_⟩
  ·simp only [List.length_append, hz]; omega
  ·rw [List.length_append]; omega
def decL (n : Nat) : List Int := if _h : n < 10 then [48 + (n : Int)] else decL (n / 10) ++ [48 + ((n % 10 : Nat) : Int)]
def decS (n : Nat) : ByteArray := strOfNums (decL n)
theorem Qmc (n : Nat) (h : n < 10) : decL n = [48 + (n : Int)] := by rw [decL, dif_pos h]
theorem decL_step (n : Nat) (h : ¬ n < 10) : decL n = decL (n / 10) ++ [48 + ((n % 10 : Nat) : Int)] := by rw [decL, dif_neg h]
theorem decL_len : ∀ (k n : Nat), n < 10 ^ (k + 1) → 1 ≤ (decL n).length ∧ (decL n).length ≤ k + 1 := by
  intro k
  induction k with
  | zero => intro n h; rw [Qmc n (by omega)]; simp
  | succ k ih =>
    intro n h
    by_cases hs : n < 10
    · rw [Qmc n hs]; simp
    · rw [decL_step n hs, List.length_append]
      have := ih (n / 10) (by rw [Nat.pow_succ] at h; omega)
      simp
      omega
theorem Qnb (n : Nat) (h : n ≤ 9223372036854775808) : 1 ≤ (decS n).size ∧ (decS n).size ≤ 20 := by
 unfold decS
 rw [strOfNums_size]
 exact decL_len 19 n (by omega)
theorem strOfNums_app (a b : List Int) : strOfNums a ++ strOfNums b = strOfNums (a ++ b) := by
 apply ByteArray.ext
 simp [strOfNums]
theorem app_empty (a : ByteArray) : a ++ ⟨#[]⟩ = a := by
 apply ByteArray.ext
 simp
theorem app_assoc3 (a b c : ByteArray) : a ++ (b ++ c) = (a ++ b) ++ c := by
 apply ByteArray.ext
 simp
theorem ret_str {a b : ByteArray} (h : a = b) : Ending.returned (.string a) = .returned (.string b) := by rw [h]
theorem rdecimalW_any (n : Nat) (hn : n ≤ 9223372036854775807) (w : World) :
  Calls Tryz.prog 263 #[.int .i64 n] w fun e w' => e = .returned (.string (decS n)) ∧ Below w.heap.size w w' := by
 have hcv := fun (w : World) (a : Int) => Qjc [a] 1 rfl w
 simp only [List.map] at hcv
 go_enter Tryz.func263, Tryz.ntmps263
 go_wp2_with fail
 go_loopw [0, 3] (fun i v wr => ∃ (m : Nat) (t : ByteArray), m ≤ n ∧ i = .int .i64 m ∧ v = .string t ∧ t.size ≤ 20 ∧ Hid (decS m ++ t = decS n) ∧ Below w.heap.size w wr) (fun i _ _ => (intOf i).toNat)
 case atStart => exact ⟨n, ⟨#[]⟩, Nat.le_refl _, rfl, rfl, by decide, app_empty _, Below.refl _ _⟩
 case round =>
  obtain ⟨m, t, hm, rfl, rfl, ht, hd, hbel⟩ := hrel
  have hms := Qnb m (by omega)
  have hns := Qnb n (by omega)
  have hto : t.size ≤ 19 := by
   have := congrArg ByteArray.size hd.out
   rw [ByteArray.size_append] at this
   omega
  have hsz : ∀ a : Int, ¬ 9223372036854775807 < (strOfNums [a]).size + t.size := fun a => by rw [strOfNums_size]; simp; omega
  by_cases h10 : 10 ≤ (m : Int)
  ·have hst : decL m = decL (m / 10) ++ [48 + ((m % 10 : Nat) : Int)] := decL_step m (by omega)
   have hsz1 := hsz (48 + (m : Int) % 10)
   have hd2 : Hid (decS (m / 10) ++ (strOfNums [48 + (m : Int) % 10] ++ t) = decS n) := by
    show _ = _
    rw [← hd.out, app_assoc3]
    congr 1
    unfold decS
    rw [strOfNums_app, hst]
    rfl
   have ht2 : (strOfNums [48 + (m : Int) % 10] ++ t).size ≤ 20 := by rw [ByteArray.size_append, strOfNums_size]; simp; omega
   clear hsz hst
   go_wp2_with fail
   go_roundw
   case rel => exact ⟨m / 10, _, by omega, by simp, rfl, ht2, hd2.out, hbel.alloc hbel.size _⟩
   case measure => simp [intOf]; omega
  ·have hsz1 := hsz (48 + (m : Int))
   have fin : Hid (strOfNums [48 + (m : Int)] ++ t = decS n) := by
    show _ = _
    rw [← hd.out]
    congr 1
    unfold decS
    rw [Qmc m (by omega)]
   clear hsz
   go_wp2_with fail
   go_ret
   exact ⟨ret_str fin.out, hbel.alloc hbel.size _⟩
theorem ex_cases {k a n : Int} {s : ByteArray} {sub : List Nd} (h : Qcf (.mk k a s n sub) false = true) :
    (k = 1 ∧ sub = []) ∨ (k = 2 ∧ sub = [] ∧ 0 ≤ n ∧ n ≤ 7) ∨ ∃ x y, (k = 3 ∨ k = 4 ∨ k = 5) ∧ sub = [x, y] ∧ Qcf x false = true ∧ Qcf y false = true := by
  rw [goodT_mk] at h
  simp only [Bool.and_eq_true, decide_eq_true_eq, beq_iff_eq] at h
  obtain ⟨⟨⟨⟨⟨h1, h2⟩, h3⟩, h4⟩, h5⟩, h6⟩ := h
  have h7 : ¬ 6 ≤ k := by simpa using h5
  by_cases h345 : k = 3 ∨ k = 4 ∨ k = 5
  · refine .inr (.inr ?_)
    have hm : sub.length = 2 := by
      unfold Qdz at h2
      rw [if_neg (by omega), if_pos h345] at h2
      have := of_decide_eq_true h2
      omega
    match sub, hm with
    | [x, y], _ =>
      have hk : (k == 8) = false := by rw [beq_eq_false_iff_ne]; omega
      rw [hk] at h6
      simp only [Qeh, Bool.and_eq_true] at h6
      exact ⟨x, y, h345, rfl, h6.1, h6.2.1⟩
  · have hm : sub = [] := by
      unfold Qdz at h2
      rw [if_neg (by omega), if_neg h345, if_neg (by omega)] at h2
      have := of_decide_eq_true h2
      exact List.eq_nil_of_length_eq_zero (by omega)
    by_cases k1 : k = 1
    · exact .inl ⟨k1, hm⟩
    · have k2 : k = 2 := by omega
      unfold numB at h4
      rw [if_pos k2] at h4
      have := of_decide_eq_true h4
      exact .inr (.inl ⟨k2, hm, this.1, this.2⟩)
theorem encD_mk (k a n : Int) (s : ByteArray) (sub : List Nd) : encD (Nd.mk k a s n sub) = [.v (.int .i64 k), .v (.int .i64 a), .v (.string s), .v (.int .i64 n), .sl (sub.map encD)] := Jh _
theorem strOf_bytes (l : List UInt8) : strOfNums (l.map fun c => (c.toNat : Int)) = ⟨l.toArray⟩ := by
 unfold strOfNums
 congr 1
 rw [List.map_map]
 congr 1
 conv => rhs; rw [← List.map_id l]
 refine List.map_congr_left fun a _ => ?_
 simp
theorem POp_bytes {P : Program} {o : Oper} {ρ : Operand → Option PV} {st : St} {src dst e : TypeId} {x : Operand} {p : PV} (l : List UInt8) (ho : o.op = .convert src dst x) (hx : ρ x = some p) (hp : p.norm0 = .d (.sl (l.map Qkb))) (hs : P.underlying src = some (.slice e)) (he : P.underlying e = some (.int .u8)) (hd : P.underlying dst = some .string) (hl : l.length ≤ 9223372036854775807) :
    POp P o ρ st fun q s => q = .d (.v (.string ⟨l.toArray⟩)) ∧ s = st := by
  refine POp.of_run fun F K w a h1 h2 => ?_
  obtain ⟨od, op, ty, pos, after, guard⟩ := o
  simp only at ho h2
  subst ho
  have hr := Qjp p _ _ _ (h2 x (by simp [Op.operands]) _ hx)
  rw [hp] at hr
  have hok : RelV K w (.d (.v (.string ⟨l.toArray⟩))) (.string ⟨l.toArray⟩) := .d (.v (by show _ ≤ maxLen; simp; exact hl))
  have hconv : (convert src dst (a.eval x)).run P w = .ok (.string ⟨l.toArray⟩) w := by
    generalize a.eval x = v at hr
    cases hr with
    | d hr =>
      generalize hrows : l.map Qkb = rows at hr
      cases hr with
      | nil h =>
        have hl0 : l = [] := by simpa using hrows
        subst hl0
        rename_i aa cap
        cases aa with
        | none => exact run_convert_bytes_nil w src e hs he 0 cap dst hd
        | some ad =>
          rw [run_convert_bytes_string w src dst e _ 0 cap hs he hd]
          have := run_loadCells (P := P) w ad 0 (fun _ => undef) (fun j hj => by omega)
          simp [Conv.bytesToString, this]; rfl
      | sl vals q1 q2 q3 q4 q5 =>
        subst hrows
        rename_i sz b off cap
        have hsz : ∀ h : l ≠ [], sz = 1 := fun h => by
          obtain ⟨c, hc⟩ := List.exists_mem_of_ne_nil l h
          exact (q3 _ (List.mem_map_of_mem hc)).symm
        have hce : ∀ i, i < l.length → w.cell? ⟨b, off + i, none⟩ = some (.int .u8 ((l.map fun c => (c.toNat : Int)).getD i 0)) := fun i hi => by
          have hne : l ≠ [] := fun h => by subst h; simp at hi
          have := hsz hne
          subst this
          have hrow : (l.map Qkb)[i]? = some (Qkb l[i]) := by rw [List.getElem?_map, List.getElem?_eq_getElem hi]; rfl
          have h6 := (q4 i 0 _ _ hrow rfl).2
          have h7 := q5 i 0 _ _ hrow rfl
          generalize vals i 0 = u at h6 h7
          cases h7 with
          | v _ =>
            simp only [Nat.mul_one, Nat.add_zero] at h6
            rw [h6]
            simp [List.getD, List.getElem?_eq_getElem hi]
        have := run_convert_bytes_arg (P := P) w src e hs he b off (l.map Qkb).length cap (l.map fun c => (c.toNat : Int)) (by simp) (fun i hi => hce i (by simpa using hi)) dst hd
        rw [this, strOf_bytes]
  refine ⟨.string ⟨l.toArray⟩, w, K, _, st, ?_, Ext.refl _ _ _, h1, hok, rfl, rfl⟩
  simp only [execOp]
  rw [Sem.run_bind, hconv]; rfl
section
variable {P : Program} {n : Nat} {ops : Array Oper} {Q : PF → St → Prop} {rest : List Oper} {fr : PF} {st : St} {p : PV} {ty : TypeId} {pos : String} {after : Array Edge} {gd : Option (Nat × Bool)} {d : Nat}
theorem Qdj {src dst e : TypeId} {x : Operand} (l : List UInt8) (hd : d < n) (hw : PF.wants fr ops ⟨some d, .convert src dst x, ty, pos, after, gd⟩ = some true) (hx : fr.eval x = some p) (hp : p.norm0 = .d (.sl (l.map Qkb))) (hs : P.underlying src = some (.slice e)) (he : P.underlying e = some (.int .u8)) (hdd : P.underlying dst = some .string) (hl : l.length ≤ 9223372036854775807)
  (h : POps P n ops Q rest ((d, .d (.v (.string ⟨l.toArray⟩))) :: fr) st) : POps P n ops Q (⟨some d, .convert src dst x, ty, pos, after, gd⟩ :: rest) fr st :=
 Qfb hd hw ((POp_bytes (o := ⟨some d, .convert src dst x, ty, pos, after, gd⟩) l rfl hx hp hs he hdd hl).mono fun q s ⟨e1, e2⟩ => by subst e1; subst e2; exact h)
end
theorem nd_flat {f : FuncId} {t : Nd} {b : Bool} (h : ∀ (cs : List Value) (w : World), NdC w t cs → Calls Tryz.prog f #[.agg cs.toArray] w fun e w' => e = .returned (.bool b) ∧ Below w.heap.size w w') : PCalls Tryz.prog f [aggD t] [] fun p s => p = .d (.v (.bool b)) ∧ s = [] := by
 refine PCalls.flat trivial fun K w vs ha => ?_
 obtain ⟨v, rfl, hv⟩ := ha.one
 obtain ⟨cs, rfl, hc⟩ := agg_nd hv
 exact h cs w hc
theorem texpr_p (t : Nd) : PCalls Tryz.prog 102 [aggD t] [] fun p s => p = .d (.v (.bool (Qex t))) ∧ s = [] := nd_flat (expr_any t)
theorem rexpr_p (t : Nd) : PCalls Tryz.prog 105 [aggD t] [] fun p s => p = .d (.v (.bool (Qex t))) ∧ s = [] := nd_flat (rexpr_any t)
end Go.Proofs.YtdklpbefbamchaaGreat

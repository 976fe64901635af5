import Derived.Test.YtfnfbbmegdkhjaaGreatBE1
import Derived.Test.YtfnfbbmegdkhjaaGreatBS
import Derived.Test.YtfnfbbmegdkhjaaGreatBA1
set_option linter.unusedSimpArgs false
set_option linter.unusedVariables false
namespace Go.Proofs.YtfnfbbmegdkhjaaGreat
open Go.RowKit
set_option maxRecDepth 100000
section
variable {H : Type} {enc : TypeId × Value → H} {w : World} {base : Nat} {spare : Nat → Bool} {held : Bool}
theorem opn_en (n : Nat) : OpnB En EnOk enc w base spare held 30 n := by
  intro cs x h hw
  obtain ⟨xs, m, rfl, rfl, hlen, hxs, hf⟩ := DataW.trod_struct Tryz.underlying30 h
  have c0 : Tryz.prog.cellsOf 30 = 15 := by kernel_rfl
  have c1 : Tryz.prog.cellsOf 3 = 1 := by kernel_rfl
  have c2 : Tryz.prog.cellsOf 9 = 1 := by kernel_rfl
  have c3 : Tryz.prog.cellsOf 27 = 3 := by kernel_rfl
  have c4 : Tryz.prog.cellsOf 28 = 1 := by kernel_rfl
  have b1 : Tryz.prog.bytesOf 3 = 8 := by kernel_rfl
  rw [c0] at hlen
  match xs, hxs with
  | [x0, x1, x2, x3, x4, x5, x6, x7, x8, x9, x10], _ =>
    have h0 : DataW.trod enc Tryz.prog w base spare held m 3 ((cs.drop 0).take (Tryz.prog.cellsOf 3)) = some x0 := hf 0 _ rfl
    have h1 : DataW.trod enc Tryz.prog w base spare held m 9 ((cs.drop 1).take (Tryz.prog.cellsOf 9)) = some x1 := hf 1 _ rfl
    have h2 : DataW.trod enc Tryz.prog w base spare held m 27 ((cs.drop 2).take (Tryz.prog.cellsOf 27)) = some x2 := hf 2 _ rfl
    have h3 : DataW.trod enc Tryz.prog w base spare held m 27 ((cs.drop 5).take (Tryz.prog.cellsOf 27)) = some x3 := hf 3 _ rfl
    have h4 : DataW.trod enc Tryz.prog w base spare held m 3 ((cs.drop 8).take (Tryz.prog.cellsOf 3)) = some x4 := hf 4 _ rfl
    have h5 : DataW.trod enc Tryz.prog w base spare held m 3 ((cs.drop 9).take (Tryz.prog.cellsOf 3)) = some x5 := hf 5 _ rfl
    have h6 : DataW.trod enc Tryz.prog w base spare held m 3 ((cs.drop 10).take (Tryz.prog.cellsOf 3)) = some x6 := hf 6 _ rfl
    have h7 : DataW.trod enc Tryz.prog w base spare held m 3 ((cs.drop 11).take (Tryz.prog.cellsOf 3)) = some x7 := hf 7 _ rfl
    have h8 : DataW.trod enc Tryz.prog w base spare held m 3 ((cs.drop 12).take (Tryz.prog.cellsOf 3)) = some x8 := hf 8 _ rfl
    have h9 : DataW.trod enc Tryz.prog w base spare held m 28 ((cs.drop 13).take (Tryz.prog.cellsOf 28)) = some x9 := hf 9 _ rfl
    have h10 : DataW.trod enc Tryz.prog w base spare held m 28 ((cs.drop 14).take (Tryz.prog.cellsOf 28)) = some x10 := hf 10 _ rfl
    have w9 : Wl Tryz.prog 28 x9.1 := wl_part Tryz.underlying30 hw (j := 9) rfl rfl
    have w10 : Wl Tryz.prog 28 x10.1 := wl_part Tryz.underlying30 hw (j := 10) rfl rfl
    rw [c1] at h0 h4 h5 h6 h7 h8
    rw [c2] at h1
    rw [c3] at h2 h3
    rw [c4] at h9 h10
    obtain ⟨k, hk⟩ := opn_int (by kernel_rfl) m _ _ h0
    obtain ⟨s, hs⟩ := opn_str (by kernel_rfl) m _ _ h1
    obtain ⟨t, ht⟩ := opn_tm m _ _ h2
    obtain ⟨u, hu⟩ := opn_tm m _ _ h3
    obtain ⟨a4, ha4⟩ := opn_int (by kernel_rfl) m _ _ h4
    obtain ⟨a5, ha5⟩ := opn_int (by kernel_rfl) m _ _ h5
    obtain ⟨a6, ha6⟩ := opn_int (by kernel_rfl) m _ _ h6
    obtain ⟨a7, ha7⟩ := opn_int (by kernel_rfl) m _ _ h7
    obtain ⟨a8, ha8⟩ := opn_int (by kernel_rfl) m _ _ h8
    obtain ⟨v9, l9, e9, r9, -, z9⟩ := opnB_slice (α := Int) Tryz.underlying28 c1 (by decide) (fun m' _ => (opn_int (by kernel_rfl) m').toB) h9 w9
    obtain ⟨v10, l10, e10, r10, -, z10⟩ := opnB_slice (α := Int) Tryz.underlying28 c1 (by decide) (fun m' _ => (opn_int (by kernel_rfl) m').toB) h10 w10
    have q9 : RepF (fun _ => True) w [.s 1 (l9.map Enc.enc)] ((cs.drop 13).take 1) := by rw [e9]; exact repF_slice r9
    have q10 : RepF (fun _ => True) w [.s 1 (l10.map Enc.enc)] ((cs.drop 14).take 1) := by rw [e10]; exact repF_slice r10
    rw [b1] at z9 z10
    unfold reachBytes at z9 z10
    refine ⟨⟨k, s, t, u, a4, a5, a6, a7, a8, l9, l10⟩, ?_, by show l9.length ≤ _; omega, by show l10.length ≤ _; omega⟩
    have hall := repF_at (o := 0) (n := 1) (m := 1) (ds := [.v (.int .i64 k)]) rfl hk (repF_at (o := 1) (n := 1) (m := 2) (ds := [.str s]) rfl hs (repF_at (o := 2) (n := 3) (m := 5) (ds := tmD t) rfl ht (repF_at (o := 5) (n := 3) (m := 8) (ds := tmD u) rfl hu (repF_at (o := 8) (n := 1) (m := 9) (ds := [.v (.int .i64 a4)]) rfl ha4 (repF_at (o := 9) (n := 1) (m := 10) (ds := [.v (.int .i64 a5)]) rfl ha5 (repF_at (o := 10) (n := 1) (m := 11) (ds := [.v (.int .i64 a6)]) rfl ha6 (repF_at (o := 11) (n := 1) (m := 12) (ds := [.v (.int .i64 a7)]) rfl ha7 (repF_at (o := 12) (n := 1) (m := 13) (ds := [.v (.int .i64 a8)]) rfl ha8 (repF_at (o := 13) (n := 1) (m := 14) (ds := [.s 1 (l9.map Enc.enc)]) rfl q9 (repF_tail q10 (by omega)))))))))))
    unfold Rep
    simp only [Enc.enc, List.append_assoc]
    exact hall
/-- entries in memory, none with a list longer than can be -/
def EnS (w : World) (v : Value) (l : List En) : Prop := RepS (fun _ => True) w v l ∧ ∀ e ∈ l, EnOk e
theorem open_ens {n : Nat} {cs : List Value} {x : DataW H × List MemPlace} (h : DataW.trod enc Tryz.prog w base spare held n 22 cs = some x) (hw : Wl Tryz.prog 22 x.1) : ∃ (a : Option Addr) (len cap : Nat) (ts : List En), cs = [.slice a len cap] ∧ EnS w (.slice a len cap) ts := by
  obtain ⟨v, l, rfl, hl, hok, _⟩ := opnB_slice (α := En) Tryz.underlying22 (by kernel_rfl) (by decide) (fun m' _ => opn_en m') h hw
  obtain ⟨a, c, rfl, _⟩ := hl.shape
  exact ⟨a, _, c, l, rfl, hl, hok⟩
end
end Go.Proofs.YtfnfbbmegdkhjaaGreat

namespace Go.Proofs.YtfnfbbmegdkhjaaGreat
open Go.RowKit
set_option maxRecDepth 100000
theorem ceq_refl : ∀ t : Tm, ceqT t t = true := by
  refine Tm.ind ?_
  intro k n sub ih
  have hl : ∀ l : List Tm, (∀ s ∈ l, ceqT s s = true) → ceqL l l = true := by
    intro l
    induction l with
    | nil => intro _; rfl
    | cons t ts iht =>
      intro h
      simp only [ceqL, Bool.and_eq_true]
      exact ⟨h t (by simp), iht fun s hs => h s (by simp [hs])⟩
  simp only [ceqT, beq_self_eq_true, Bool.true_and, hl sub ih]
theorem sameTB_refl (t : Tm) : sameTB t t = true := by
  unfold sameTB
  rw [ceq_refl]
  cases shapedB t <;> rfl
theorem eqI_refl : ∀ l : List Int, eqI l l = true := by
  intro l
  induction l with
  | nil => rfl
  | cons x l ih => simp only [eqI, ih]; simp
theorem eqIs_refl (l : List Int) : eqIs l l = true := by
  unfold eqIs
  rw [eqI_refl]; simp
theorem sameE_refl (x : En) : sameE x x = true := by
  unfold sameE
  rw [sameTB_refl, sameTB_refl, eqIs_refl, eqIs_refl]
  simp
theorem sameS_refl (l : List En) : sameS l l = true := by
  have : ∀ l : List En, sameL l l = true := by
    intro l
    induction l with
    | nil => rfl
    | cons x l ih => simp only [sameL, sameE_refl, ih]; rfl
  unfold sameS
  rw [this]; simp
theorem none_zero {t : Tm} (h : noneT t = true) : t = .mk 0 0 [] := by
  unfold noneT at h
  simp only [Bool.and_eq_true, beq_iff_eq] at h
  cases t with
  | mk k n sub =>
    simp only [Tm.kind_mk, Tm.num_mk, Tm.sub_mk] at h
    obtain ⟨rfl, rfl, h3⟩ := h
    have h4 : sub = [] := List.eq_nil_of_length_eq_zero (by omega)
    rw [h4]
theorem copy_zero : copyT (.mk 0 0 []) = .mk 0 0 [] := by
  unfold copyT
  split <;> rfl
theorem copy_shaped {t : Tm} (h : shapedB t = true) : copyT t = t := by
  unfold copyT
  rw [if_pos h]
theorem owned_small {l : List En} {x : En} {i : Int} (h : ownedB l x i = true) : noneT x.body = true ∧ x.cons.length = 0 ∧ x.fields.length = 0 := by
  unfold ownedB at h
  simp only [Bool.and_eq_true, beq_iff_eq] at h
  obtain ⟨-, -, -, h4, -, -, h7, h8, -⟩ := h
  exact ⟨h4, by omega, by omega⟩
/-- an entry that is right: its copy is it, its lists are short -/
theorem entry_copy {l : List En} {x : En} {i : Nat} (hl : l.length ≤ 256) (hi : i < l.length) (h : entryB l x i = true) : copyE x = x ∧ EnSmall x := by
  have hs := entry_shaped h
  have hb : copyT x.body = x.body ∧ EnSmall x := by
    unfold entryB kindB at h
    simp only [Bool.and_eq_true] at h
    have h3 := h.2.2
    by_cases k1 : x.kind = 1
    · rw [if_pos k1] at h3
      unfold famB fam1 fam2 fam3 at h3
      simp only [Bool.and_eq_true, decide_eq_true_eq, Bool.or_eq_true] at h3
      obtain ⟨⟨-, -, -, -, -, -, hn⟩, ⟨-, -, -, hc, -⟩, hf⟩ := h3
      refine ⟨by rw [none_zero hn]; exact copy_zero, by show x.cons.length ≤ _; omega, ?_⟩
      show x.fields.length ≤ _
      rcases hf with hf | ⟨-, -, hr, hm, -⟩
      · have := beq_iff_eq.1 hf; omega
      · by_cases h0 : x.fields.length ≤ 100000
        · exact h0
        · exfalso
          have hlt : 1000 < x.fields.length := by omega
          have e1 := run_at _ _ _ hr 1000 _ (List.getElem?_eq_getElem hlt)
          obtain ⟨m, d, e2, e3, -⟩ := memE_get (mem_at _ _ hm 1000 _ (List.getElem?_eq_getElem hlt))
          rw [wr64 (by omega) (by omega)] at e1
          have := (List.getElem?_eq_some_iff.1 e3).1
          omega
    rw [if_neg k1] at h3
    by_cases k2 : x.kind = 2
    · rw [if_pos k2] at h3
      unfold conB at h3
      rw [Bool.and_eq_true] at h3
      obtain ⟨a, b, c⟩ := owned_small h3.1
      exact ⟨by rw [none_zero a]; exact copy_zero, by show x.cons.length ≤ _; omega, by show x.fields.length ≤ _; omega⟩
    rw [if_neg k2] at h3
    by_cases k4 : x.kind = 4
    · rw [if_pos k4] at h3
      unfold projB at h3
      rw [Bool.and_eq_true] at h3
      obtain ⟨a, b, c⟩ := owned_small h3.1
      exact ⟨by rw [none_zero a]; exact copy_zero, by show x.cons.length ≤ _; omega, by show x.fields.length ≤ _; omega⟩
    rw [if_neg k4] at h3
    by_cases k3 : x.kind = 3
    · rw [if_pos k3] at h3
      unfold defB at h3
      simp only [Bool.and_eq_true, beq_iff_eq] at h3
      obtain ⟨hc, -, -, -, -, -, h6⟩ := h3
      have hsb : shapedB x.body = true := by
        unfold closedT rightT at hc
        simp only [Bool.and_eq_true] at hc
        exact hc.1.1.1
      exact ⟨copy_shaped hsb, by show x.cons.length ≤ _; omega, by show x.fields.length ≤ _; omega⟩
    rw [if_neg k3] at h3; cases h3
  refine ⟨?_, hb.2⟩
  unfold copyE
  rw [copy_shaped hs, hb.1]
theorem formed_small {l : List En} (h : formedB l = true) : ∀ e ∈ l, EnSmall e := by
  intro e he
  obtain ⟨i, hi, rfl⟩ := List.getElem_of_mem he
  exact (entry_copy (formed_len h) hi (formed_at h (List.getElem?_eq_getElem hi))).2
theorem formed_copy {l : List En} (h : formedB l = true) : l.map copyE = l := by
  refine List.ext_getElem (by simp) fun i h1 h2 => ?_
  rw [List.getElem_map]
  exact (entry_copy (formed_len h) h2 (formed_at h (List.getElem?_eq_getElem h2))).1
theorem find_at (s : ByteArray) : ∀ (l : List En) (b i : Nat), (∀ j x, j < i → l[j]? = some x → (x.name.toList == s.toList) = false) → (∃ x, l[i]? = some x ∧ (x.name.toList == s.toList) = true) → findN s l b = some (b + i) := by
  intro l
  induction l with
  | nil => rintro b i _ ⟨x, h, _⟩; simp at h
  | cons y l ih =>
    rintro b i h1 ⟨x, h2, h3⟩
    cases i with
    | zero =>
      cases h2
      simp only [findN]
      rw [if_pos h3]; rfl
    | succ i =>
      have h0 := h1 0 y (by omega) rfl
      simp only [findN]
      rw [if_neg (by rw [h0]; decide), ih (b + 1) i (fun j x hj hx => h1 (j + 1) x (by omega) (by simpa using hx)) ⟨x, by simpa using h2, h3⟩]
      congr 1; omega
/-- each name of a formed signature is found where it is -/
theorem find_formed {l : List En} (h : formedB l = true) {i : Nat} (hi : i < l.length) : findN l[i].name l 0 = some i := by
  have hd := (dist_iff _).1 (formed_dist h)
  rw [find_at l[i].name l 0 i ?_ ⟨l[i], List.getElem?_eq_getElem hi, by simp⟩, Nat.zero_add]
  intro j x hj hx
  have := hd j i hj (by rw [nms_len]; exact hi)
  rw [List.getD_eq_getElem?_getD, List.getD_eq_getElem?_getD] at this
  unfold nms at this
  rw [List.getElem?_map, List.getElem?_map, hx, List.getElem?_eq_getElem hi] at this
  exact this
set_option maxHeartbeats 4000000 in
theorem light_p (l : List En) : PCalls Tryz.prog 6 [.d (.sl (l.map encD))] [] fun p s => p = .d (.v (.bool (decide ((l.length : Int) ≤ 300)))) ∧ s = [] := by
  refine PCalls.enter Tryz.func6 rfl Tryz.ntmps6 (by simp) ?_
  simp only [argsF]
  refine go_ ?_
  refine retP_ok (by simp) (by simp only [Tryz.results6]; rfl) (by simp [resP, St.box?, PF.get, loadB, TyK.agg, *]; rfl) (List.nil_sublist _) ?_
  exact ⟨rfl, rfl⟩
end Go.Proofs.YtfnfbbmegdkhjaaGreat

namespace Go.Proofs.YtfnfbbmegdkhjaaGreat
open Go.RowKit
set_option maxRecDepth 100000
theorem entry_kind {l : List En} {x : En} {i : Nat} (h : entryB l x i = true) (h2 : x.kind ≠ 2) (h4 : x.kind ≠ 4) : x.kind = 1 ∨ x.kind = 3 := by
  unfold entryB kindB at h
  simp only [Bool.and_eq_true] at h
  have h3 := h.2.2
  by_cases e1 : x.kind = 1
  · exact .inl e1
  · rw [if_neg e1, if_neg h2, if_neg h4] at h3
    by_cases e3 : x.kind = 3
    · exact .inr e3
    · rw [if_neg e3] at h3; cases h3
set_option maxHeartbeats 16000000 in
theorem begins_p (l : List En) (n : Int) (hn0 : 0 ≤ n) (hn1 : n ≤ 255) (ho : ∀ e ∈ l, EnOk e) : PCalls Tryz.prog 3 [.d (.sl (l.map encD)), .d (.v (.int .u8 n))] [] fun p s => p = .d (.v (.bool true)) ∧ s = [] := by
  have hL := Lib.hid (light_p l)
  have hF := Lib.hid (rformed_p l ho)
  rw [← formed_eq] at hF
  have hA := Lib.hid awake12_p
  by_cases h300 : (l.length : Int) ≤ 300
  rotate_left
  · rw [decide_eq_false h300] at hL
    clear hF
    refine PCalls.enter Tryz.func3 rfl Tryz.ntmps3 (by simp) ?_
    simp only [argsF]
    refine go_ ?_
    refine POps_call_a (hL.out) ?_
    refine go_ ?_
    refine POps_call_a (hA.out) ?_
    refine go_ ?_
    refine retP_ok (by simp) (by simp only [Tryz.results3]; rfl) (by simp [resP, St.box?, PF.get, loadB, TyK.agg, *]; rfl) (List.nil_sublist _) ?_
    exact ⟨rfl, rfl⟩
  rw [decide_eq_true h300] at hL
  cases hfb : formedB l with
  | false =>
    rw [hfb] at hF
    refine PCalls.enter Tryz.func3 rfl Tryz.ntmps3 (by simp) ?_
    simp only [argsF]
    refine go_ ?_
    refine POps_call_a (hL.out) ?_
    refine go_ ?_
    refine POps_call_b (hF.out) ?_
    refine go_ ?_
    refine POps_call_a (hA.out) ?_
    refine go_ ?_
    refine retP_ok (by simp) (by simp only [Tryz.results3]; rfl) (by simp [resP, St.box?, PF.get, loadB, TyK.agg, *]; rfl) (List.nil_sublist _) ?_
    exact ⟨rfl, rfl⟩
  | true =>
  rw [hfb] at hF
  by_cases h0 : l.length = 0
  · have h0b : l = [] := List.eq_nil_of_length_eq_zero h0
    subst h0b
    clear h0 hfb h300 ho
    refine PCalls.enter Tryz.func3 rfl Tryz.ntmps3 (by simp) ?_
    simp only [argsF]
    refine go_ ?_
    refine POps_call_a (hL.out) ?_
    refine go_ ?_
    refine POps_call_b (hF.out) ?_
    refine go_ ?_
    refine POps_call_a (hA.out) ?_
    refine go_ ?_
    refine retP_ok (by simp) (by simp only [Tryz.results3]; rfl) (by simp [resP, St.box?, PF.get, loadB, TyK.agg, *]; rfl) (List.nil_sublist _) ?_
    exact ⟨rfl, rfl⟩
  have hne : ((l.length : Int) == 0) = false := beq_eq_false_iff_ne.2 (by omega)
  have hne2 : ¬ ((l.length : Int) = 0) := by omega
  have hne3 : ¬ l = [] := fun e => h0 (by rw [e]; rfl)
  have hne4 : ¬ l.length = 0 := h0
  obtain ⟨k, hk⟩ : ∃ k : Nat, n.tmod l.length = k := ⟨n.toNat % l.length, by
    rw [Int.tmod_eq_emod_of_nonneg hn0, Int.natCast_emod, Int.toNat_of_nonneg hn0]⟩
  have hkl : k < l.length := by
    have h1 := Int.emod_lt_of_pos n (show (0 : Int) < l.length by omega)
    rw [Int.tmod_eq_emod_of_nonneg hn0] at hk
    omega
  have hwn := wr64 (n := n) (by omega) (by omega)
  have hx3 : l[k]? = some l[k] := List.getElem?_eq_getElem hkl
  have hkc : (k : Int) < l.length := by omega
  have hk0 : (0 : Int) ≤ k := by omega
  have HK := Lib.hid hkl
  have HFB := Lib.hid hfb
  have HO := Lib.hid ho
  have HT : Hid (l[k].kind ≠ 2 → l[k].kind ≠ 4 → formedB (l.take k) = true) := by
    intro h2 h4
    refine formed_take hfb fun d hd => ?_
    rw [hx3] at hd
    cases hd
    exact entry_kind (formed_at hfb hx3) h2 h4
  generalize l[k] = x at *
  clear hkl hfb ho h0
  refine PCalls.enter Tryz.func3 rfl Tryz.ntmps3 (by simp) ?_
  simp only [argsF]
  refine go_ ?_
  refine POps_call_a (hL.out) ?_
  refine go_ ?_
  refine POps_call_b (hF.out) ?_
  refine go_ ?_
  by_cases h2 : x.kind = 2
  · have h2b : (x.kind == 2) = true := beq_iff_eq.2 h2
    clear h2 HT
    refine go_ ?_
    refine POps_call_a (hA.out) ?_
    refine go_ ?_
    refine retP_ok (by simp) (by simp only [Tryz.results3]; rfl) (by simp [resP, St.box?, PF.get, loadB, TyK.agg, *]; rfl) (List.nil_sublist _) ?_
    exact ⟨rfl, rfl⟩
  have h2b : (x.kind == 2) = false := beq_eq_false_iff_ne.2 h2
  by_cases h4 : x.kind = 4
  · have h4b : (x.kind == 4) = true := beq_iff_eq.2 h4
    clear h4 HT h2
    refine go_ ?_
    refine POps_call_a (hA.out) ?_
    refine go_ ?_
    refine retP_ok (by simp) (by simp only [Tryz.results3]; rfl) (by simp [resP, St.box?, PF.get, loadB, TyK.agg, *]; rfl) (List.nil_sublist _) ?_
    exact ⟨rfl, rfl⟩
  have h4b : (x.kind == 4) = false := beq_eq_false_iff_ne.2 h4
  have hft := HT.out h2 h4
  have hT := Lib.hid (sformed_p (l.take k) (fun e he => HO.out e (List.mem_of_mem_take he)))
  rw [hft] at hT
  have happ : l.take k ++ l.drop k = l := List.take_append_drop k l
  have hAdd := sadd_ok (l.take k) (l.drop k) (by rw [happ]; exact HO.out) (by rw [happ]; exact formed_small HFB.out) hft (by rw [happ]; exact HFB.out)
  rw [happ, formed_copy HFB.out] at hAdd
  have HAdd := Lib.hid hAdd
  have hS := Lib.hid (rsame_p l l)
  rw [sameS_refl] at hS
  have hsl1 : List.drop 0 (List.take k (List.map encD l)) = (l.take k).map encD := by rw [List.drop_zero, List.map_take]
  have hsl2 : List.drop k (List.take l.length (List.map encD l)) = (l.drop k).map encD := by rw [List.take_of_length_le (by rw [List.length_map]; exact Nat.le_refl _), List.map_drop]
  have HS1 := Lib.hid hsl1
  have HS2 := Lib.hid hsl2
  clear HT h2 h4 hft happ hAdd hsl1 hsl2
  generalize l.take k = a at *
  generalize l.drop k = b at *
  refine go_ ?_
  refine POps_slice 0 k ?_ (by decide) (by first | (simp [nev, nevA, nevB, evBuild, PF.eval, PF.get, PF.wants, cPV, cCell, PV.rows, evBin, evUn, evConv, evLen, loadA, loadB, TyK.agg, partA, St.box?, St.tok?, St.setBox, St.setTok, fillO, spl, PV.ps, PV.one, evalArgs, aggD, slD, encD_nd, encD_bd, encD_rw, encD_dc, encD_str, encD_int, *]; done) | fail) (by simp; rfl) (by rfl) (by decide) (by simp [nev, nevA, nevB, evBuild, PF.eval, PF.get, PF.wants, cPV, cCell, PV.rows, evBin, evUn, evConv, evLen, loadA, loadB, TyK.agg, partA, St.box?, St.tok?, St.setBox, St.setTok, fillO, spl, PV.ps, PV.one, evalArgs, aggD, slD, encD_nd, encD_bd, encD_rw, encD_dc, encD_str, encD_int, *]; rfl) (by simp [PV.rows]; rfl) (by first | rfl | (simp [lowOf, PF.eval, PF.get, cPV, cCell, *]; done) | fail) (by first | rfl | (simp [highOf, PF.eval, PF.get, cPV, cCell, *]; done) | fail) (by first | omega | (simp; done) | (simp; omega)) (by first | omega | (simp; done) | (simp; omega)) ?_
  rotate_left
  · exact rows15 _
  rw [HS1.out]
  refine go_ ?_
  refine POps_call_a (hT.out) ?_
  refine go_ ?_
  refine PW_drawn [(0, .a), (1, .a), (2, .a), (3, .a), (4, .a), (5, .a), (6, .a), (7, .a), (8, .a), (9, .a), (10, .a), (11, .a)] (by kernel_rfl) (by rfl) (by kernel_rfl) ?_
  refine go_ ?_
  refine POrd_slice 0 k ?_ rfl (by decide) (by first | (simp [nev, nevA, nevB, evBuild, PF.eval, PF.get, PF.wants, cPV, cCell, PV.rows, evBin, evUn, evConv, evLen, loadA, loadB, TyK.agg, partA, St.box?, St.tok?, St.setBox, St.setTok, fillO, spl, PV.ps, PV.one, evalArgs, aggD, slD, encD_nd, encD_bd, encD_rw, encD_dc, encD_str, encD_int, *]; done) | fail) (by simp; rfl) (by rfl) (by decide) (by simp [nev, nevA, nevB, evBuild, PF.eval, PF.get, PF.wants, cPV, cCell, PV.rows, evBin, evUn, evConv, evLen, loadA, loadB, TyK.agg, partA, St.box?, St.tok?, St.setBox, St.setTok, fillO, spl, PV.ps, PV.one, evalArgs, aggD, slD, encD_nd, encD_bd, encD_rw, encD_dc, encD_str, encD_int, *]; rfl) (by simp [PV.rows]; rfl) (by first | rfl | (simp [lowOf, PF.eval, PF.get, cPV, cCell, *]; done) | fail) (by first | rfl | (simp [highOf, PF.eval, PF.get, cPV, cCell, *]; done) | fail) (by first | omega | (simp; done) | (simp; omega)) (by first | omega | (simp; done) | (simp; omega)) ?_
  rotate_left
  · exact rows15 _
  rw [HS1.out]
  refine go_ ?_
  refine POrd_slice k l.length ?_ rfl (by decide) (by first | (simp [nev, nevA, nevB, evBuild, PF.eval, PF.get, PF.wants, cPV, cCell, PV.rows, evBin, evUn, evConv, evLen, loadA, loadB, TyK.agg, partA, St.box?, St.tok?, St.setBox, St.setTok, fillO, spl, PV.ps, PV.one, evalArgs, aggD, slD, encD_nd, encD_bd, encD_rw, encD_dc, encD_str, encD_int, *]; done) | fail) (by simp; rfl) (by rfl) (by decide) (by simp [nev, nevA, nevB, evBuild, PF.eval, PF.get, PF.wants, cPV, cCell, PV.rows, evBin, evUn, evConv, evLen, loadA, loadB, TyK.agg, partA, St.box?, St.tok?, St.setBox, St.setTok, fillO, spl, PV.ps, PV.one, evalArgs, aggD, slD, encD_nd, encD_bd, encD_rw, encD_dc, encD_str, encD_int, *]; rfl) (by simp [PV.rows]; rfl) (by first | rfl | (simp [lowOf, PF.eval, PF.get, cPV, cCell, *]; done) | fail) (by first | rfl | (simp [highOf, PF.eval, PF.get, cPV, cCell, *]; done) | fail) (by first | omega | (simp; done) | (simp; omega)) (by first | omega | (simp; done) | (simp; omega)) ?_
  rotate_left
  · exact rows15 _
  rw [HS2.out]
  refine go_ ?_
  refine POrd_call_a (HAdd.out) ?_
  refine go_ ?_
  refine POps_call_b (hS.out) ?_
  refine go_ ?_
  clear HAdd hS HS1 HS2 hT hx3 hk h2b h4b hkc hk0
  refine PW_loop (ι := Nat) (fun y => y ≤ l.length) (fun y => [(0, .d (.sl (l.map encD))), (6, .d (.sl (l.map encD))), (8, .d (.v (.int .i64 (y : Int))))]) (fun _ => []) (fun y => l.length - y) 0 (Nat.zero_le _) ?_ ?_ ?_
  · repeat (first | exact sub_nil _ | refine sub_cons (by simp [PF.get]; rfl) (by first | rfl | (simp [*]; done) | fail) ?_)
  · repeat (first | exact List.Sublist.refl _ | exact List.nil_sublist _ | refine List.Sublist.cons_cons _ ?_ | refine List.Sublist.cons _ ?_)
  · rintro j hj
    by_cases hlt : j < l.length
    · have hx := get_enc hlt
      have hc : (j : Int) < l.length := by omega
      have hn : (0 : Int) ≤ j := by omega
      have hin := wr64 (n := (j : Int) + 1) (by omega) (by omega)
      have hFd := Lib.hid (sfind_p l l[j].name)
      rw [find_formed HFB.out hlt] at hFd
      unfold findP at hFd
      refine go_ ?_
      refine POps_call_a (hFd.out) ?_
      refine go_ ?_
      exact ⟨j + 1, hlt, by omega, by repeat (first | exact sub_nil _ | refine sub_cons (by simp [PF.get]; rfl) (by first | rfl | (simp [*]; done) | fail) ?_), by repeat (first | exact List.Sublist.refl _ | exact List.nil_sublist _ | refine List.Sublist.cons_cons _ ?_ | refine List.Sublist.cons _ ?_)⟩
    · have hc : ¬ (j : Int) < l.length := by omega
      refine go_ ?_
      refine POps_call_a (hA.out) ?_
      refine go_ ?_
      refine retP_ok (by simp) (by simp only [Tryz.results3]; rfl) (by simp [resP, St.box?, PF.get, loadB, TyK.agg, *]; rfl) (List.nil_sublist _) ?_
      exact ⟨rfl, rfl⟩
/-- the whole walk of SignBegins -/
theorem begins_walk (v : Value) (l : List En) (n : Int) (wn : (Lit.int .u8 n).wf = true) (w : World) (h : EnS w v l) : Calls Tryz.prog 3 #[v, .int .u8 n] w fun e w' => e = .returned (.bool true) ∧ Below w.heap.size w w' := by
  have hn : 0 ≤ n ∧ n ≤ 255 := by
    simp [Lit.wf, IntKind.min, IntKind.max, IntKind.signed, IntKind.bits] at wn
    omega
  refine PCalls.top ((begins_p l n hn.1 hn.2 h.2).mono fun p s hp => hp.1) ?_
  refine relVs_cons (.d (relS_of (fun b o v _ hv => ⟨v, hv⟩) (by decide) h.1)) (relVs_cons (.d (.v trivial)) (relVs_nil _ _))
end Go.Proofs.YtfnfbbmegdkhjaaGreat

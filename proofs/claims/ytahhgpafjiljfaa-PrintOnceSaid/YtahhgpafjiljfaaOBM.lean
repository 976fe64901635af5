import Derived.Test.YtahhgpafjiljfaaOBY
import Derived.Test.YtahhgpafjiljfaaOBZ
import Derived.Test.YtahhgpafjiljfaaOBV
import Derived.Test.YtahhgpafjiljfaaOT8
set_option linter.unusedSimpArgs false
set_option linter.unusedVariables false
set_option maxHeartbeats 16000000
set_option maxRecDepth 100000
namespace Go.Proofs.Ytahhgpafjiljfaa
open Go.RowKit
theorem enc_hdM (m : Int) (h : right m = true) : ∃ c t, encN m = c :: t ∧ (m < 128 → (c : Int) = m ∧ t = []) ∧ (128 ≤ m → 128 ≤ c ∧ ∀ d ∈ t, 128 ≤ d) := by
 have hr := (Qhc m).1 h
 rcases Qjc m h with h | h | h | h
 ·refine ⟨m.toNat, [], by rw [encN, encL1 m h.2]; rfl, fun _ => ⟨by omega, rfl⟩, fun h2 => by omega⟩
 ·refine ⟨(192 + m / 64).toNat, [(128 + m % 64).toNat], by rw [encN, encL2 m h.1 h.2]; rfl, fun _ => by omega, fun _ => ⟨by omega, fun d hd => ?_⟩⟩
  simp only [List.mem_singleton] at hd; omega
 ·refine ⟨(224 + m / 64 / 64).toNat, [(128 + m / 64 % 64).toNat, (128 + m % 64).toNat], by rw [encN, encL3 m h.1 h.2]; rfl, fun _ => by omega, fun _ => ⟨by omega, fun d hd => ?_⟩⟩
  simp only [List.mem_cons, List.not_mem_nil, or_false] at hd; omega
 ·refine ⟨(240 + m / 64 / 64 / 64).toNat, [(128 + m / 64 / 64 % 64).toNat, (128 + m / 64 % 64).toNat, (128 + m % 64).toNat], by rw [encN, encL4 m h.1]; rfl, fun _ => by omega, fun _ => ⟨by omega, fun d hd => ?_⟩⟩
  simp only [List.mem_cons, List.not_mem_nil, or_false] at hd; omega
theorem joinN_cons (n : Int) (r : List Int) : Qda (n :: r) = encN n ++ Qda r := rfl
structure Sg (s : ByteArray) (l : List Int) : Prop where
 size : s.size ≤ 65535
 rt : l.all right = true
 bytes : nats s = Qda l
theorem sg_of {s : ByteArray} (h : allE s = 0) : Sg s (allS s) := by
 obtain ⟨h1, h2⟩ := signs_ok h
 refine ⟨?_, h2, ?_⟩
 ·unfold allE at h
  split at h
  ·cases h
  ·omega
 ·have h3 := (Qel s h).2
  have h4 := Qlh _ h2
  unfold Qas at h3
  rw [if_pos (Qel s h).1] at h3
  rw [← h4, h3]
theorem Qlk {l : List Int} (k : Nat) : (offN l k).toNat = (Qda (l.take k)).length := by
 unfold offN; rw [Qjb]; omega
theorem offN_nn (l : List Int) (k : Nat) : 0 ≤ offN l k := by unfold offN; omega
theorem join_split (l : List Int) (k : Nat) : Qda l = Qda (l.take k) ++ Qda (l.drop k) := by
 unfold Qda; rw [← List.flatMap_append, List.take_append_drop]
theorem Sg.drop {s : ByteArray} {l : List Int} (h : Sg s l) (k : Nat) : (nats s).drop (offN l k).toNat = Qda (l.drop k) := by
 rw [h.bytes, join_split l k, Qlk, List.drop_left]
theorem Sg.le {s : ByteArray} {l : List Int} (h : Sg s l) (k : Nat) : offN l k ≤ s.size := by
 have h1 := congrArg List.length h.bytes
 rw [Qcg, join_split l k, List.length_append] at h1
 have := Qlk (l := l) k
 have := offN_nn l k
 omega
theorem Sg.lt {s : ByteArray} {l : List Int} (h : Sg s l) {k : Nat} (hk : k < l.length) : offN l k < s.size := by
 have h1 := h.le (k + 1)
 rw [Qjk hk, Qja] at h1
 have := encL_pos l[k]
 omega
theorem Sg.end {s : ByteArray} {l : List Int} (h : Sg s l) : offN l l.length = s.size := by
 have h1 := congrArg List.length h.bytes
 rw [Qcg] at h1
 have := Qlk (l := l) l.length
 rw [List.take_length] at this
 have := offN_nn l l.length
 omega
theorem Sg.len {s : ByteArray} {l : List Int} (h : Sg s l) : l.length ≤ s.size := by
 have h1 := congrArg List.length h.bytes
 rw [Qcg, Qjb] at h1
 have := joinB_ge l
 omega
theorem Sg.dec {s : ByteArray} {l : List Int} (h : Sg s l) {k : Nat} (hk : k < l.length) : Qcq s (offN l k) = some (l[k], Qbd l[k]) := by
 have hlt := h.lt hk
 have hnn := offN_nn l k
 obtain ⟨n, hn⟩ := Int.eq_ofNat_of_zero_le hnn
 have hd := h.drop k
 rw [hn] at hlt hd ⊢
 rw [Qkd s n (by omega)]
 rw [Int.toNat_natCast, List.drop_eq_getElem_cons hk, joinN_cons] at hd
 rw [hd]
 exact dec_enc _ (List.all_eq_true.1 h.rt _ (List.getElem_mem hk)) _
theorem Sg.none {s : ByteArray} {l : List Int} (h : Sg s l) : Qcq s (offN l l.length) = none := by
 unfold Qcq
 rw [h.end, if_neg (by omega)]
theorem wid_enc {n : Int} (h : right n = true) : ((enc n).size : Int) = Qbd n := by
 rw [Qja, ← Qhy n h]; unfold encN; rw [List.length_map]
theorem Sg.next {s : ByteArray} {l : List Int} (h : Sg s l) {k : Nat} (hk : k < l.length) : offN l (k + 1) = offN l k + Qbd l[k] := by
 rw [Qjk hk, wid_enc (List.all_eq_true.1 h.rt _ (List.getElem_mem hk))]
theorem Sg.byte {s : ByteArray} {l : List Int} (h : Sg s l) {k : Nat} (hk : k < l.length) : ∃ c : UInt8, s[(offN l k).toNat]? = some c ∧ (l[k] < 128 → (c.toNat : Int) = l[k]) ∧ (128 ≤ l[k] → 128 ≤ c.toNat) := by
 have hlt := h.lt hk
 have hnn := offN_nn l k
 have hs : (offN l k).toNat < s.size := by omega
 have hd := h.drop k
 have hr : right l[k] = true := List.all_eq_true.1 h.rt _ (List.getElem_mem hk)
 obtain ⟨c, t, he, h1, h2⟩ := enc_hdM _ hr
 rw [List.drop_eq_getElem_cons hk, joinN_cons, he, drop_tl s _ hs] at hd
 have hc : nb s (offN l k).toNat = c := (List.cons.inj hd).1
 refine ⟨s[(offN l k).toNat], getElem?_pos s _ hs, ?_, ?_⟩
 ·intro h3; rw [nb_eq s _ hs, hc]; exact (h1 h3).1
 ·intro h3; rw [nb_eq s _ hs, hc]; exact (h2 h3).1
theorem next_facts {r : List Int} (h : (Qai r).2.2.2 = true) : (Qai r).1 ≠ 5 ∧ ((Qai r).1 = 1 → ((Qai r).2.1.toList == [95] || Qaj (Qai r).2.1) = true) := by
 unfold Qai at h ⊢
 simp only at h ⊢
 split
 ·rename_i h1
  rw [if_pos h1] at h
  split
  ·exact ⟨by show (2 : Int) ≠ 5; decide, fun e => absurd e (by show ¬ (2 : Int) = 1; decide)⟩
  ·rename_i h2
   rw [if_neg h2] at h
   exact ⟨by show (1 : Int) ≠ 5; decide, fun _ => h⟩
 ·split
  ·exact ⟨by show (3 : Int) ≠ 5; decide, fun e => absurd e (by show ¬ (3 : Int) = 1; decide)⟩
  ·exact ⟨by show (4 : Int) ≠ 5; decide, fun e => absurd e (by show ¬ (4 : Int) = 1; decide)⟩
theorem cut_facts (c : Nat) (r : List Int) : ∀ x ∈ (cutR c r).1, x.1 ≠ 5 ∧ (x.1 = 1 → (x.2.1.toList == [95] || Qaj x.2.1) = true) := by
  cases h1 : (Qac r).2 with
  | false => rw [cut_a h1]; intro x hx; cases hx
  | true =>
    by_cases h2 : (Qac r).1 = []
    · rw [cut_b h1 h2]; intro x hx; cases hx
    · by_cases h3 : 8192 ≤ c
      · rw [cut_c h1 h2 h3]; intro x hx; cases hx
      · cases h4 : (Qai (Qac r).1).2.2.2 with
        | false => rw [cut_d h1 h2 h3 h4]; intro x hx; cases hx
        | true =>
          rw [cut_e h1 h2 h3 h4]
          have hlt : ((Qac r).1.drop (Qai (Qac r).1).2.2.1).length < r.length := by
            have h5 := (Qep r).length_le
            have h6 := Qig h4 h2
            have h7 : 0 < (Qac r).1.length := List.length_pos_iff.2 h2
            rw [List.length_drop]
            omega
          intro x hx
          rcases List.mem_cons.1 hx with rfl | hx
          · exact next_facts h4
          · exact cut_facts (c + 1) ((Qac r).1.drop (Qai (Qac r).1).2.2.1) x hx
termination_by r.length
decreasing_by exact hlt
structure TkN (l : List Tk) : Prop where
 mid : ∀ j, j + 1 < l.length → (tkg l j).kind ≠ 5
 nm : ∀ j, j < l.length → (tkg l j).kind = 1 → ((tkg l j).text.toList == [95] || Qaj (tkg l j).text) = true
theorem startN (s : ByteArray) : TkN (Qbu s) := by
 unfold Qbu
 split
 ·refine ⟨fun j hj => by simp at hj, fun j hj hk => ?_⟩
  have : j = 0 := by simp at hj; exact hj
  subst this
  exact absurd hk (by show (5 : Int) ≠ 1; decide)
 ·rename_i h
  have h : (tokA s).2.2 = 0 := by simpa using h
  unfold tokA at h ⊢
  split at h
  ·rename_i h1; exact absurd h h1
  ·rename_i h1
   rw [if_neg h1]
   unfold Qgb at h ⊢
   have hf := cut_facts 0 (allS s)
   split at h
   ·rename_i e k he
    exfalso
    rcases cut_err _ _ _ _ he with h2 | h2
    ·rw [h2] at h; cases h
    ·rw [h2] at h; cases h
   ·rename_i he
    simp only
    have key : ∀ j, j < (cutR 0 (allS s)).1.length → ∃ x ∈ (cutR 0 (allS s)).1, (tkg ((cutR 0 (allS s)).1.map (fun x => ({ kind := x.1, text := x.2.1, at_ := offN (allS s) ((allS s).length - x.2.2) } : Tk)) ++ [⟨5, ⟨#[]⟩, s.size⟩]) j).kind = x.1 ∧ (tkg ((cutR 0 (allS s)).1.map (fun x => ({ kind := x.1, text := x.2.1, at_ := offN (allS s) ((allS s).length - x.2.2) } : Tk)) ++ [⟨5, ⟨#[]⟩, s.size⟩]) j).text = x.2.1 := by
     intro j hj
     refine ⟨(cutR 0 (allS s)).1[j], List.getElem_mem hj, ?_⟩
     rw [tkg_lt (by simp; omega), List.getElem_append_left (by simpa using hj), List.getElem_map]
     exact ⟨rfl, rfl⟩
    refine ⟨fun j hj => ?_, fun j hj hk => ?_⟩
    ·simp only [List.length_append, List.length_map, List.length_cons, List.length_nil] at hj
     obtain ⟨x, hx, e1, -⟩ := key j (by omega)
     rw [e1]; exact (hf x hx).1
    ·simp only [List.length_append, List.length_map, List.length_cons, List.length_nil] at hj
     rcases Nat.lt_or_ge j (cutR 0 (allS s)).1.length with h3 | h3
     ·obtain ⟨x, hx, e1, e2⟩ := key j h3
      rw [e1] at hk
      rw [e2]; exact (hf x hx).2 hk
     ·exfalso
      have hj2 : j = (cutR 0 (allS s)).1.length := by omega
      rw [tkg_lt (by simp; omega), List.getElem_append_right (by simp; omega)] at hk
      simp at hk
theorem numT_nn (s : ByteArray) : 0 ≤ numT s := by
 unfold numT
 split
 ·rename_i h
  unfold Qen Qhj at h
  simp only [Bool.and_eq_true, decide_eq_true_eq] at h
  have hd := h.2
  have h1 := numV_bd s.toList.length s.toList h.1.1.2 (by
   intro c hc
   rw [List.take_length] at hc
   have := List.all_eq_true.1 hd c hc
   unfold digC
   exact this)
  rw [List.take_length] at h1
  exact h1.1
 ·exact Int.le_refl _
theorem named_right {l : List Tk} (hn : TkN l) {j : Nat} (hj : j < l.length) (h : namedK (tkg l j) = true) : Qaj (tkg l j).text = true := by
 unfold namedK at h
 simp only [Bool.and_eq_true, beq_iff_eq, Bool.not_eq_true'] at h
 have h2 := hn.nm j hj h.1
 rw [h.2, Bool.false_or] at h2
 exact h2
theorem Qfx {l : List Tk} (hn : TkN l) {σ : ST} (hw : Wf l σ) (h : (Qal l σ).2.bad = 0) : Qaj (Qal l σ).1 = true := by
  unfold Qal at h ⊢
  simp only at h ⊢
  cases hk : Qcy l σ 0 with
  | true =>
    rw [hk] at h
    simp only [if_true] at h ⊢
    split
    · exact named_right hn hw hk
    · rename_i h2
      rw [if_neg h2] at h
      exact absurd h h2
  | false =>
    rw [hk] at h
    simp only [Bool.false_eq_true, if_false] at h ⊢
    have hb := Qci 1 (tkg l σ.i).at_ σ (by decide)
    rw [if_neg hb] at h
    exact absurd h hb
theorem var_good {l : List Tk} (hn : TkN l) {σ : ST} (hw : Wf l σ) (h : (Qbk l σ).2.bad = 0) : ((Qbk l σ).1.toList == [95] || Qaj (Qbk l σ).1) = true := by
 unfold Qbk at h ⊢
 split
 ·rename_i h1
  simp only [Bool.and_eq_true, beq_iff_eq] at h1
  exact hn.nm _ hw h1.1
 ·rename_i h1
  rw [if_neg h1] at h
  rw [Qfx hn hw h, Bool.or_true]
theorem read_good {l : List Tk} (hl : TkOk l) (hn : TkN l) : ∀ n,
    (∀ k a σ, (k = 3 ∨ k = 4) → Wf l σ → Fu l n 4 σ → (Qdg l n k a σ).2.bad = 0 → Qak (Qdg l n k a σ).1 false = true) ∧
    (∀ σ, Wf l σ → Fu l n 6 σ → (Qav l n σ).2.bad = 0 → Qak (Qav l n σ).1 false = true) ∧
    (∀ σ, Wf l σ → Fu l n 3 σ → (Qbn l n σ).2.bad = 0 → Qak (Qbn l n σ).1 false = true) ∧
    (∀ σ, Wf l σ → Fu l n 5 σ → (appS l n σ).2.bad = 0 → Qak (appS l n σ).1 false = true) ∧
    (∀ g σ, Wf l σ → (σ.bad = 0 → 6 * (l.length - σ.i) + 10 ≤ n) → Qak g false = true → (appL l n g σ).2.bad = 0 → Qak (appL l n g σ).1 false = true) := by
  intro n
  induction n with
  | zero =>
    refine ⟨fun _ _ _ _ _ h _ => absurd h.1 (Nat.lt_irrefl 0), fun _ _ h _ => absurd h.1 (Nat.lt_irrefl 0), fun _ _ h _ => absurd h.1 (Nat.lt_irrefl 0), fun _ _ h _ => absurd h.1 (Nat.lt_irrefl 0), fun g σ _ hf hg hb => ?_⟩
    exact hg
  | succ n ih =>
    obtain ⟨i1, i2, i3, i4, i5⟩ := ih
    have A := Qfb hl n
    refine ⟨fun k a σ hk hw hf hb => ?_, fun σ hw hf hb => ?_, fun σ hw hf hb => ?_, fun σ hw hf hb => ?_, fun g σ hw hf hg hb => ?_⟩
    · simp only [Qdg] at hb ⊢
      have a1 := Qag hl sPar hw
      have a2 := Qje hl a1.1
      have a3 := Qag hl sCol a2.1
      have a4 := A.2.1 _ a3.1
      have a5 := Qag hl sRap a4.1
      have a6 := Qag hl sArr a5.1
      have a7 := A.2.1 _ a6.1
      have b6 := (a7.2 hb).1
      have b5 := (a6.2 b6).1
      have b4 := (a5.2 b5).1
      have b3 := (a4.2 b4).1
      have b2 := (a3.2 b3).1
      have b1 := (a2.2 b2).1
      have b0 := (a1.2 b1).1
      have hn0 : 0 < n := by
        have := hf.2 b0
        have hw' : σ.i < l.length := hw
        omega
      have s3 : AdvS l σ (Qaf l sCol (Qbk l (Qaf l sPar σ)).2) := (a1.trans a2.adv).trans a3.adv
      have s6 : AdvS l σ (Qaf l sArr (Qaf l sRap (Qav l n (Qaf l sCol (Qbk l (Qaf l sPar σ)).2)).2)) := ((s3.trans a4).trans a5.adv).trans a6.adv
      have g1 := i2 _ a3.1 (hf.next hw s3 hn0 (by omega)) b4
      have g2 := i2 _ a6.1 (hf.next hw s6 hn0 (by omega)) hb
      have g3 := var_good hn a1.1 b2
      rw [Qcs]
      rcases hk with rfl | rfl
      · simp [Qbs, Qch, numB, Qbi]
        exact ⟨by simpa using g3, g1, g2⟩
      · simp [Qbs, Qch, numB, Qbi]
        exact ⟨by simpa using g3, g1, g2⟩
    · by_cases hz : σ.bad = 0
      rotate_left
      · rw [Qav, if_pos hz] at hb; exact absurd hb hz
      have hn0 : 0 < n := by
        have := hf.2 hz
        have hw' : σ.i < l.length := hw
        omega
      rw [Qav, if_neg (by simp [hz])] at hb ⊢
      split
      · rename_i h1
        rw [if_pos h1] at hb
        have a1 := Qax hl (Qbw h1)
        exact i1 4 _ _ (.inr rfl) a1.1 (hf.next hw a1 hn0 (by omega)) hb
      · rename_i h1
        rw [if_neg h1] at hb
        split
        · rename_i h2
          rw [if_pos h2] at hb
          exact i1 3 _ _ (.inl rfl) hw (hf.same hw (Adv.refl hw) hn0 (by omega)) hb
        · rename_i h2
          rw [if_neg h2] at hb
          simp only at hb ⊢
          have aG := A.2.2.2.1 σ hw
          split
          · rename_i h3
            rw [if_pos h3] at hb
            simp only at hb
            have gG := i4 σ hw (hf.same hw (Adv.refl hw) hn0 (by omega)) h3.1
            have a1 := Qax hl (Qbw h3.2)
            have a2 : AdvS l σ (incS (appS l n σ).2) := aG.transS a1
            have g2 := i2 _ a1.1 (hf.next hw a2 hn0 (by omega)) hb
            rw [Qcs]
            simp [Qbs, Qch, numB, Qbi, gG, g2]
          · rename_i h3
            rw [if_neg h3] at hb
            exact i4 σ hw (hf.same hw (Adv.refl hw) hn0 (by omega)) hb
    · by_cases hz : σ.bad = 0
      rotate_left
      · rw [Qbn, if_pos hz] at hb; exact absurd hb hz
      have hn0 : 0 < n := by
        have := hf.2 hz
        have hw' : σ.i < l.length := hw
        omega
      rw [Qbn, if_neg (by simp [hz])] at hb ⊢
      split
      · rename_i h1
        rw [if_pos h1] at hb
        unfold setS at hb ⊢
        simp only at hb ⊢
        split
        · rename_i h2
          rw [if_pos h2] at hb
          by_cases h7 : 7 < numT (tkg l (incS σ).i).text
          · rw [if_pos h7] at hb
            exact absurd hb (show ¬ (Qbh 1 (tkg l (incS σ).i).at_ (incS σ)).bad = 0 from Qci 1 _ _ (by decide))
          · have h0 := numT_nn (tkg l (incS σ).i).text
            rw [Qcs]
            simp [Qbs, Qch, numB, Qbi]
            exact ⟨h0, by omega⟩
        · rw [Qcs]
          simp [Qbs, Qch, numB, Qbi]
      · rename_i h1
        rw [if_neg h1] at hb
        split
        · rename_i h2
          rw [if_pos h2] at hb
          simp only at hb ⊢
          have a1 := Qax hl (Qbw h2)
          have a2 := A.2.1 _ a1.1
          have b2 := ((Qag hl sRap a2.1).2 hb).1
          exact i2 _ a1.1 (hf.next hw a1 hn0 (by omega)) b2
        · rename_i h2
          rw [if_neg h2] at hb
          simp only at hb ⊢
          rw [Qcs]
          simp only [Qbs, Qch, numB, Qbi]
          have := Qfx hn hw hb
          simpa using this
    · simp only [appS] at hb ⊢
      have a1 := A.2.2.1 σ hw
      have a2 := A.2.2.2.2 (Qbn l n σ).1 _ a1.1.1
      have b1 := (a2.2 hb).1
      have b0 := (a1.1.2 b1).1
      have hw' : σ.i < l.length := hw
      have hfu := hf.2 b0
      have hn0 : 0 < n := by omega
      have g1 := i3 σ hw (hf.same hw (Adv.refl hw) hn0 (by omega)) b1
      have h3 := (a1.2 hn0).2 b1
      have h4 : (Qbn l n σ).2.i < l.length := a1.1.1
      exact i5 _ _ a1.1.1 (fun _ => by omega) g1 hb
    · rw [appL] at hb ⊢
      split
      · rename_i h1
        rw [if_pos h1] at hb
        simp only at hb ⊢
        have hw' : σ.i < l.length := hw
        have hfu := hf h1.1
        have hn0 : 0 < n := by omega
        have a1 := A.2.2.1 σ hw
        have a2 := A.2.2.2.2 (.mk 5 g.at ⟨#[]⟩ 0 [g, (Qbn l n σ).1]) _ a1.1.1
        have b1 := (a2.2 hb).1
        have g1 := i3 σ hw ⟨hn0, fun _ => by omega⟩ b1
        have h3 := (a1.2 hn0).2 b1
        have h4 : (Qbn l n σ).2.i < l.length := a1.1.1
        refine i5 _ _ a1.1.1 (fun _ => by omega) ?_ hb
        rw [Qcs]
        simp [Qbs, Qch, numB, Qbi, hg, g1]
      · exact hg
theorem expr_good {l : List Tk} (hl : TkOk l) (hn : TkN l) (n : Nat) (σ : ST) (hw : Wf l σ) (hf : Fu l n 6 σ) (hb : (Qbg l n σ).2.bad = 0) : Qby (Qbg l n σ).1 = true := by
 unfold Qbg Qcc at hb ⊢
 simp only at hb ⊢
 by_cases h : (Qav l n σ).2.bad = 0 ∧ 128 < Qcn (Qav l n σ).1
 ·rw [if_pos h] at hb
  exact absurd hb (Qci 2 _ _ (by decide))
 ·rw [if_neg h] at hb
  unfold Qby Qey
  rw [(read_good hl hn n).2.1 σ hw hf hb, decide_eq_true (by
   rcases Int.lt_or_le 128 (Qcn (Qav l n σ).1) with h1 | h1
   ·exact absurd ⟨hb, h1⟩ h
   ·exact h1)]
  rfl
end Go.Proofs.Ytahhgpafjiljfaa

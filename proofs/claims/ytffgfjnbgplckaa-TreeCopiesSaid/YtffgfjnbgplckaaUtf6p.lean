import Derived.Test.YtffgfjnbgplckaaUtf5
namespace Go.Proofs.Ytffgfjnbgplckaa
open Go.RowKit
def encN (m : Int) : List Nat := (encL m).map Int.toNat
theorem right_iff (m : Int) : right m = true ↔ 0 ≤ m ∧ m ≤ 1114111 ∧ (m < 55296 ∨ 57343 < m) := by simp [right]
theorem leadW1 (c : Int) (h : c < 128) : leadW c = 1 := if_pos h
theorem leadW2 (c : Int) (h : 192 ≤ c ∧ c < 224) : leadW c = 2 := by unfold leadW; rw [if_neg (by omega), if_pos h]
theorem leadW3 (c : Int) (h : 224 ≤ c ∧ c < 240) : leadW c = 3 := by unfold leadW; rw [if_neg (by omega), if_neg (by omega), if_pos h]
theorem leadW4 (c : Int) (h : 240 ≤ c ∧ c < 248) : leadW c = 4 := by unfold leadW; rw [if_neg (by omega), if_neg (by omega), if_neg (by omega), if_pos h]
theorem leadB1 (c : Int) (h : c < 128) : leadB c = c := if_pos h
theorem leadB2 (c : Int) (h : 192 ≤ c ∧ c < 224) : leadB c = c - 192 := by unfold leadB; rw [if_neg (by omega), if_pos h]; omega
theorem leadB3 (c : Int) (h : 224 ≤ c ∧ c < 240) : leadB c = c - 224 := by unfold leadB; rw [if_neg (by omega), if_neg (by omega), if_pos h]; omega
theorem leadB4 (c : Int) (h : 240 ≤ c ∧ c < 248) : leadB c = c - 240 := by unfold leadB; rw [if_neg (by omega), if_neg (by omega), if_neg (by omega), if_pos h]; omega
theorem width1 (m : Int) (h : m < 128) : width m = 1 := if_pos h
theorem width2 (m : Int) (h : 128 ≤ m) (h' : m < 2048) : width m = 2 := by unfold width; rw [if_neg (by omega), if_pos h']
theorem width3 (m : Int) (h : 2048 ≤ m) (h' : m < 65536) : width m = 3 := by unfold width; rw [if_neg (by omega), if_neg (by omega), if_pos h']
theorem width4 (m : Int) (h : 65536 ≤ m) : width m = 4 := by unfold width; rw [if_neg (by omega), if_neg (by omega), if_neg (by omega)]
theorem dec1 (a : Nat) (r : List Nat) (h : a < 128) : dec (a :: r) = some ((a : Int), 1) := by
  have e : right (a : Int) = true := (right_iff _).2 (by omega)
  simp only [dec, leadW1 (a : Int) (by omega), leadB1 (a : Int) (by omega)]
  rw [if_neg (by omega)]; simp [accs, conts, e, width1 (a : Int) (by omega)]
theorem dec2 (a b : Nat) (r : List Nat) (h : 192 ≤ a ∧ a < 224) : dec (a :: b :: r) = if b / 64 = 2 ∧ 194 ≤ a then some (((a : Int) - 192) * 64 + (b % 64 : Nat), 2) else none := by
  simp only [dec, leadW2 (a : Int) (by omega), leadB2 (a : Int) (by omega)]
  rw [if_neg (by simp; omega)]
  have e : (b :: r).take (((2 : Int) - 1).toNat) = [b] := rfl
  rw [e]
  by_cases hb : b / 64 = 2 ∧ 194 ≤ a
  · rw [if_pos hb, if_pos ⟨by simpa [conts] using hb.1, (right_iff _).2 (by simp [accs]; omega), width2 _ (by simp [accs]; omega) (by simp [accs]; omega)⟩]; rfl
  · rw [if_neg hb, if_neg]
    rintro ⟨h1, h2, h3⟩
    have h1' : b / 64 = 2 := by simpa [conts] using h1
    have : accs ((a:Int) - 192) [b] < 128 := by simp [accs]; omega
    rw [width1 _ this] at h3; omega
theorem dec3 (a b c : Nat) (r : List Nat) (h : 224 ≤ a ∧ a < 240) : dec (a :: b :: c :: r) = if b / 64 = 2 ∧ c / 64 = 2 ∧ right ((((a : Int) - 224) * 64 + (b % 64 : Nat)) * 64 + (c % 64 : Nat)) = true ∧ (225 ≤ a ∨ 160 ≤ b) then some ((((a : Int) - 224) * 64 + (b % 64 : Nat)) * 64 + (c % 64 : Nat), 3) else none := by
  simp only [dec, leadW3 (a : Int) (by omega), leadB3 (a : Int) (by omega)]
  rw [if_neg (by simp; omega)]
  have e : (b :: c :: r).take (((3 : Int) - 1).toNat) = [b, c] := rfl
  rw [e]
  have ea : accs ((a:Int) - 224) [b, c] = (((a : Int) - 224) * 64 + (b % 64 : Nat)) * 64 + (c % 64 : Nat) := rfl
  rw [ea]
  by_cases hb : b / 64 = 2 ∧ c / 64 = 2 ∧ right ((((a : Int) - 224) * 64 + (b % 64 : Nat)) * 64 + (c % 64 : Nat)) = true ∧ (225 ≤ a ∨ 160 ≤ b)
  · rw [if_pos hb, if_pos ⟨by simpa [conts] using ⟨hb.1, hb.2.1⟩, hb.2.2.1, width3 _ (by omega) (by omega)⟩]
  · rw [if_neg hb, if_neg]
    rintro ⟨h1, h2, h3⟩
    have h1' : b / 64 = 2 ∧ c / 64 = 2 := by simpa [conts] using h1
    refine hb ⟨h1'.1, h1'.2, h2, ?_⟩
    by_cases hx : (((a : Int) - 224) * 64 + (b % 64 : Nat)) * 64 + (c % 64 : Nat) < 2048
    · unfold width at h3; repeat' split at h3 <;> omega
    · omega
theorem dec4 (a b c d : Nat) (r : List Nat) (h : 240 ≤ a ∧ a < 248) : dec (a :: b :: c :: d :: r) = if b / 64 = 2 ∧ c / 64 = 2 ∧ d / 64 = 2 ∧ right (((((a : Int) - 240) * 64 + (b % 64 : Nat)) * 64 + (c % 64 : Nat)) * 64 + (d % 64 : Nat)) = true ∧ (241 ≤ a ∨ 144 ≤ b) then some (((((a : Int) - 240) * 64 + (b % 64 : Nat)) * 64 + (c % 64 : Nat)) * 64 + (d % 64 : Nat), 4) else none := by
  simp only [dec, leadW4 (a : Int) (by omega), leadB4 (a : Int) (by omega)]
  rw [if_neg (by simp; omega)]
  have e : (b :: c :: d :: r).take (((4 : Int) - 1).toNat) = [b, c, d] := rfl
  rw [e]
  have ea : accs ((a:Int) - 240) [b, c, d] = ((((a : Int) - 240) * 64 + (b % 64 : Nat)) * 64 + (c % 64 : Nat)) * 64 + (d % 64 : Nat) := rfl
  rw [ea]
  by_cases hb : b / 64 = 2 ∧ c / 64 = 2 ∧ d / 64 = 2 ∧ right (((((a : Int) - 240) * 64 + (b % 64 : Nat)) * 64 + (c % 64 : Nat)) * 64 + (d % 64 : Nat)) = true ∧ (241 ≤ a ∨ 144 ≤ b)
  · rw [if_pos hb, if_pos ⟨by simpa [conts] using ⟨hb.1, hb.2.1, hb.2.2.1⟩, hb.2.2.2.1, width4 _ (by omega)⟩]
  · rw [if_neg hb, if_neg]
    rintro ⟨h1, h2, h3⟩
    have h1' : b / 64 = 2 ∧ c / 64 = 2 ∧ d / 64 = 2 := by simpa [conts] using h1
    refine hb ⟨h1'.1, h1'.2.1, h1'.2.2, h2, ?_⟩
    by_cases hx : ((((a : Int) - 240) * 64 + (b % 64 : Nat)) * 64 + (c % 64 : Nat)) * 64 + (d % 64 : Nat) < 65536
    · unfold width at h3; repeat' split at h3 <;> omega
    · omega
theorem encL1 (m : Int) (h : m < 128) : encL m = [m] := if_pos h
theorem encL2 (m : Int) (h : 128 ≤ m) (h' : m < 2048) : encL m = [192 + m / 64, 128 + m % 64] := by unfold encL; rw [if_neg (by omega), if_pos h']
theorem encL3 (m : Int) (h : 2048 ≤ m) (h' : m < 65536) : encL m = [224 + m / 64 / 64, 128 + m / 64 % 64, 128 + m % 64] := by unfold encL; rw [if_neg (by omega), if_neg (by omega), if_pos h']
theorem encL4 (m : Int) (h : 65536 ≤ m) : encL m = [240 + m / 64 / 64 / 64, 128 + m / 64 / 64 % 64, 128 + m / 64 % 64, 128 + m % 64] := by unfold encL; rw [if_neg (by omega), if_neg (by omega), if_neg (by omega)]
/-- a sign's four ranges -/
theorem ranges (m : Int) (h : right m = true) : (0 ≤ m ∧ m < 128) ∨ (128 ≤ m ∧ m < 2048) ∨ (2048 ≤ m ∧ m < 65536) ∨ (65536 ≤ m ∧ m ≤ 1114111) := by
  have := (right_iff m).1 h; omega
theorem dec_enc (m : Int) (hm : right m = true) (r : List Nat) : dec (encN m ++ r) = some (m, width m) := by
  rcases ranges m hm with h | h | h | h
  · rw [encN, encL1 m h.2, width1 m h.2]
    have := dec1 m.toNat r (by omega)
    rw [show ((m.toNat : Nat) : Int) = m by omega] at this; exact this
  · rw [encN, encL2 m h.1 h.2, width2 m h.1 h.2]
    have := dec2 (192 + m / 64).toNat (128 + m % 64).toNat r (by omega)
    rw [if_pos (by omega)] at this
    refine this.trans ?_
    rw [show (((192 + m / 64).toNat : Int) - 192) * 64 + (((128 + m % 64).toNat % 64 : Nat) : Int) = m by omega]
  · rw [encN, encL3 m h.1 h.2, width3 m h.1 h.2]
    have := dec3 (224 + m / 64 / 64).toNat (128 + m / 64 % 64).toNat (128 + m % 64).toNat r (by omega)
    rw [show ((((224 + m / 64 / 64).toNat : Int) - 224) * 64 + (((128 + m / 64 % 64).toNat % 64 : Nat) : Int)) * 64 + (((128 + m % 64).toNat % 64 : Nat) : Int) = m by omega, if_pos ⟨by omega, by omega, hm, by omega⟩] at this
    exact this
  · rw [encN, encL4 m h.1, width4 m h.1]
    have := dec4 (240 + m / 64 / 64 / 64).toNat (128 + m / 64 / 64 % 64).toNat (128 + m / 64 % 64).toNat (128 + m % 64).toNat r (by omega)
    rw [show (((((240 + m / 64 / 64 / 64).toNat : Int) - 240) * 64 + (((128 + m / 64 / 64 % 64).toNat % 64 : Nat) : Int)) * 64 + (((128 + m / 64 % 64).toNat % 64 : Nat) : Int)) * 64 + (((128 + m % 64).toNat % 64 : Nat) : Int) = m by omega, if_pos ⟨by omega, by omega, by omega, hm, by omega⟩] at this
    exact this
set_option maxRecDepth 100000 in
theorem dec_some (l : List Nat) (m w : Int) (h : dec l = some (m, w)) : right m = true ∧ w = width m ∧ ∃ r, l = encN m ++ r := by
  match l with
  | [] => simp [dec] at h
  | a :: r =>
    by_cases h1 : a < 128
    · rw [dec1 a r h1] at h
      simp only [Option.some.injEq, Prod.mk.injEq] at h
      obtain ⟨rfl, rfl⟩ := h
      exact ⟨(right_iff _).2 (by omega), (width1 _ (by omega)).symm, r, by rw [encN, encL1 _ (by omega)]; rfl⟩
    by_cases h2 : 192 ≤ a ∧ a < 224
    · match r with
      | [] => simp [dec, leadW2 (a : Int) (by omega)] at h
      | b :: r =>
        rw [dec2 a b r h2] at h
        split at h
        · rename_i hb
          simp only [Option.some.injEq, Prod.mk.injEq] at h
          obtain ⟨rfl, rfl⟩ := h
          refine ⟨(right_iff _).2 (by omega), (width2 _ (by omega) (by omega)).symm, r, ?_⟩
          rw [encN, encL2 _ (by omega) (by omega)]
          simp only [List.map, List.cons_append, List.nil_append]
          congr 1
          · omega
          · congr 1; omega
        · cases h
    by_cases h3 : 224 ≤ a ∧ a < 240
    · match r with
      | [] => simp [dec, leadW3 (a : Int) (by omega)] at h
      | [_] => simp [dec, leadW3 (a : Int) (by omega)] at h
      | b :: c :: r =>
        rw [dec3 a b c r h3] at h
        split at h
        · rename_i hb
          simp only [Option.some.injEq, Prod.mk.injEq] at h
          obtain ⟨rfl, rfl⟩ := h
          refine ⟨hb.2.2.1, (width3 _ (by omega) (by omega)).symm, r, ?_⟩
          rw [encN, encL3 _ (by omega) (by omega)]
          simp only [List.map, List.cons_append, List.nil_append]
          congr 1
          · omega
          · congr 1
            · omega
            · congr 1; omega
        · cases h
    by_cases h4 : 240 ≤ a ∧ a < 248
    · match r with
      | [] => simp [dec, leadW4 (a : Int) (by omega)] at h
      | [_] => simp [dec, leadW4 (a : Int) (by omega)] at h
      | [_, _] => simp [dec, leadW4 (a : Int) (by omega)] at h
      | b :: c :: d :: r =>
        rw [dec4 a b c d r h4] at h
        split at h
        · rename_i hb
          simp only [Option.some.injEq, Prod.mk.injEq] at h
          obtain ⟨rfl, rfl⟩ := h
          refine ⟨hb.2.2.2.1, (width4 _ (by omega)).symm, r, ?_⟩
          rw [encN, encL4 _ (by omega)]
          simp only [List.map, List.cons_append, List.nil_append]
          congr 1
          · omega
          · congr 1
            · omega
            · congr 1
              · omega
              · congr 1; omega
        · cases h
    · have h0 : leadW (a : Int) = 0 := by unfold leadW; repeat' split <;> omega
      simp [dec, h0] at h
theorem encN_lt (m : Int) (h : right m = true) : ∀ c ∈ encN m, c < 256 := by
  rcases ranges m h with h | h | h | h
  · rw [encN, encL1 m h.2]; intro c hc; simp at hc; omega
  · rw [encN, encL2 m h.1 h.2]; intro c hc; simp at hc; omega
  · rw [encN, encL3 m h.1 h.2]; intro c hc; simp at hc; omega
  · rw [encN, encL4 m h.1]; intro c hc; simp at hc; omega
theorem encN_length (m : Int) (h : right m = true) : ((encN m).length : Int) = width m := by
  rcases ranges m h with h | h | h | h
  · rw [encN, encL1 m h.2, width1 m h.2]; rfl
  · rw [encN, encL2 m h.1 h.2, width2 m h.1 h.2]; rfl
  · rw [encN, encL3 m h.1 h.2, width3 m h.1 h.2]; rfl
  · rw [encN, encL4 m h.1, width4 m h.1]; rfl
theorem width_le (m : Int) : 1 ≤ width m ∧ width m ≤ 4 := by unfold width; repeat' split <;> omega
theorem nats_of (l : List Int) (h : ∀ c ∈ l.map Int.toNat, c < 256) : nats (strOfNums l) = l.map Int.toNat := by
  rw [nats, strOfNums_data, List.map_map]
  refine List.map_congr_left fun c hc => ?_
  have := h c.toNat (List.mem_map.2 ⟨c, hc, rfl⟩)
  simp; omega
theorem nats_enc (m : Int) (h : right m = true) : nats (enc m) = encN m := nats_of _ (encN_lt m h)
theorem nats_inj {a b : ByteArray} (h : nats a = nats b) : a = b := by
  refine ByteArray.ext (Array.toList_inj.mp ?_)
  exact (List.map_inj_right (fun x y h => UInt8.toNat_inj.1 h)).1 h
theorem nats_extract (s : ByteArray) (n k : Nat) : nats (s.extract n (n + k)) = ((nats s).drop n).take k := by
  unfold nats
  rw [← List.map_drop, ← List.map_take]
  congr 1
  rw [ByteArray.data_extract, Array.toList_extract, List.extract_eq_take_drop, Nat.add_sub_cancel_left]
theorem decAt_of (s : ByteArray) (n : Nat) (h : n < s.size) : decAt s n = dec ((nats s).drop n) := by
  unfold decAt; rw [if_pos ⟨by omega, by omega⟩]; rfl
theorem number_some (s : ByteArray) (n w : Nat) (h : 1 ≤ w) (_hw : w ≤ 4) (hl : n + w ≤ s.size) (h0 : 0 ≤ numberR (s.extract n (n + w))) : decAt s n = some (numberR (s.extract n (n + w)), (w : Int)) := by
  have hsz : (s.extract n (n + w)).size = w := by rw [ByteArray.size_extract]; omega
  by_cases h1 : numStart (s.extract n (n + w)) < 0
  · rw [numberR, if_pos h1] at h0; omega
  rw [numberR, if_neg h1] at h0 ⊢
  split at h0
  · rename_i hr
    rw [if_pos hr]
    obtain ⟨hr, he⟩ := hr
    generalize numFold (s.extract n (n + w)) ((s.extract n (n + w)).size - 1) = m at *
    have hn : nats (s.extract n (n + w)) = encN m := by rw [← he, nats_enc m hr]
    have hwd : (w : Int) = width m := by rw [← encN_length m hr, ← hn, nats_length, hsz]
    rw [nats_extract] at hn
    rw [decAt_of s n (by omega), ← List.take_append_drop w ((nats s).drop n), hn, dec_enc m hr, hwd]
  · omega
theorem number_of (s : ByteArray) (m : Int) (hr : right m = true) (h : nats s = encN m) : numberR s = m := by
  have he : enc m = s := nats_inj (by rw [nats_enc m hr, h])
  have hsz : (s.size : Int) = width m := by rw [← nats_length, h, encN_length m hr]
  have hb : ∀ k, nb s k = (encN m).getD k 0 := fun k => by rw [nb, h]
  have key : numStart s ≥ 0 ∧ numFold s (s.size - 1) = m := by
    rcases ranges m hr with h | h | h | h
    · rw [encN, encL1 m h.2] at hb
      rw [width1 m h.2] at hsz
      have e : s.size = 1 := by omega
      have := hb 0
      simp [List.getD] at this
      simp [numFold, numStart, firsts, e, this]; omega
    · rw [encN, encL2 m h.1 h.2] at hb
      rw [width2 m h.1 h.2] at hsz
      have e : s.size = 2 := by omega
      have b0 := hb 0
      have b1 := hb 1
      simp [List.getD] at b0 b1
      simp [numFold, numStart, firsts, e, b0, b1]; omega
    · rw [encN, encL3 m h.1 h.2] at hb
      rw [width3 m h.1 h.2] at hsz
      have e : s.size = 3 := by omega
      have b0 := hb 0
      have b1 := hb 1
      have b2 := hb 2
      simp [List.getD] at b0 b1 b2
      simp [numFold, numStart, firsts, e, b0, b1, b2]; omega
    · rw [encN, encL4 m h.1] at hb
      rw [width4 m h.1] at hsz
      have e : s.size = 4 := by omega
      have b0 := hb 0
      have b1 := hb 1
      have b2 := hb 2
      have b3 := hb 3
      simp [List.getD] at b0 b1 b2 b3
      simp [numFold, numStart, firsts, e, b0, b1, b2, b3]; omega
  rw [numberR, if_neg (by omega), key.2, if_pos ⟨hr, he⟩]
theorem number_none (s : ByteArray) (n : Nat) (h : n < s.size) (hn : ∀ w : Nat, 1 ≤ w → w ≤ 4 → n + w ≤ s.size → numberR (s.extract n (n + w)) < 0) : decAt s n = none := by
  rw [decAt_of s n h]
  cases hd : dec ((nats s).drop n) with
  | none => rfl
  | some x =>
    obtain ⟨m, w⟩ := x
    obtain ⟨hr, hw, r, hl⟩ := dec_some _ _ _ hd
    have h4 := width_le m
    have hlen := encN_length m hr
    have hle : (encN m).length ≤ s.size - n := by
      have := congrArg List.length hl
      rw [List.length_drop, nats_length, List.length_append] at this; omega
    have hx := hn (encN m).length (by omega) (by omega) (by omega)
    rw [number_of _ m hr (by rw [nats_extract, hl, List.take_left])] at hx
    have := (right_iff m).1 hr
    omega
end Go.Proofs.Ytffgfjnbgplckaa

import Derived.Test.YtahhgpafjiljfaaGreatPBY
set_option linter.unusedSimpArgs false
set_option linter.unusedVariables false
set_option maxHeartbeats 16000000
set_option maxRecDepth 100000
namespace Go.Proofs.YtahhgpafjiljfaaGreat
open Go.RowKit
theorem enc_hdM (m : Int) (h : right m = true) : ∃ c t, encN m = c :: t ∧ (m < 128 → (c : Int) = m ∧ t = []) ∧ (128 ≤ m → 128 ≤ c ∧ ∀ d ∈ t, 128 ≤ d) := by
 have hr := (Qhp m).1 h
 rcases Qjt m h with h | h | h | h
 ·refine ⟨m.toNat, [], by rw [encN, encL1 m h.2]; rfl, fun _ => ⟨by omega, rfl⟩, fun h2 => by omega⟩
 ·refine ⟨(192 + m / 64).toNat, [(128 + m % 64).toNat], by rw [encN, encL2 m h.1 h.2]; rfl, fun _ => by omega, fun _ => ⟨by omega, fun d hd => ?_⟩⟩
  simp only [List.mem_singleton] at hd; omega
 ·refine ⟨(224 + m / 64 / 64).toNat, [(128 + m / 64 % 64).toNat, (128 + m % 64).toNat], by rw [encN, encL3 m h.1 h.2]; rfl, fun _ => by omega, fun _ => ⟨by omega, fun d hd => ?_⟩⟩
  simp only [List.mem_cons, List.not_mem_nil, or_false] at hd; omega
 ·refine ⟨(240 + m / 64 / 64 / 64).toNat, [(128 + m / 64 / 64 % 64).toNat, (128 + m / 64 % 64).toNat, (128 + m % 64).toNat], by rw [encN, encL4 m h.1]; rfl, fun _ => by omega, fun _ => ⟨by omega, fun d hd => ?_⟩⟩
  simp only [List.mem_cons, List.not_mem_nil, or_false] at hd; omega
theorem joinN_cons (n : Int) (r : List Int) : Qcy (n :: r) = encN n ++ Qcy r := rfl
structure Sg (s : ByteArray) (l : List Int) : Prop where
 size : s.size ≤ 65535
 rt : l.all right = true
 bytes : nats s = Qcy l
theorem sg_of {s : ByteArray} (h : allE s = 0) : Sg s (allS s) := by
 obtain ⟨h1, h2⟩ := signs_ok h
 refine ⟨?_, h2, ?_⟩
 ·unfold allE at h
  split at h
  ·cases h
  ·omega
 ·have h3 := (Qeo s h).2
  have h4 := Qmf _ h2
  unfold Qav at h3
  rw [if_pos (Qeo s h).1] at h3
  rw [← h4, h3]
theorem Qmi {l : List Int} (k : Nat) : (offN l k).toNat = (Qcy (l.take k)).length := by
 unfold offN; rw [Qjr]; omega
theorem offN_nn (l : List Int) (k : Nat) : 0 ≤ offN l k := by unfold offN; omega
theorem join_split (l : List Int) (k : Nat) : Qcy l = Qcy (l.take k) ++ Qcy (l.drop k) := by
 unfold Qcy; rw [← List.flatMap_append, List.take_append_drop]
theorem Sg.drop {s : ByteArray} {l : List Int} (h : Sg s l) (k : Nat) : (nats s).drop (offN l k).toNat = Qcy (l.drop k) := by
 rw [h.bytes, join_split l k, Qmi, List.drop_left]
theorem Sg.le {s : ByteArray} {l : List Int} (h : Sg s l) (k : Nat) : offN l k ≤ s.size := by
 have h1 := congrArg List.length h.bytes
 rw [Qcg, join_split l k, List.length_append] at h1
 have := Qmi (l := l) k
 have := offN_nn l k
 omega
theorem Sg.lt {s : ByteArray} {l : List Int} (h : Sg s l) {k : Nat} (hk : k < l.length) : offN l k < s.size := by
 have h1 := h.le (k + 1)
 rw [Qkc hk, Qjo] at h1
 have := encL_pos l[k]
 omega
theorem Sg.end {s : ByteArray} {l : List Int} (h : Sg s l) : offN l l.length = s.size := by
 have h1 := congrArg List.length h.bytes
 rw [Qcg] at h1
 have := Qmi (l := l) l.length
 rw [List.take_length] at this
 have := offN_nn l l.length
 omega
theorem Sg.len {s : ByteArray} {l : List Int} (h : Sg s l) : l.length ≤ s.size := by
 have h1 := congrArg List.length h.bytes
 rw [Qcg, Qjr] at h1
 have := joinB_ge l
 omega
theorem Sg.dec {s : ByteArray} {l : List Int} (h : Sg s l) {k : Nat} (hk : k < l.length) : Qcr s (offN l k) = some (l[k], Qbe l[k]) := by
 have hlt := h.lt hk
 have hnn := offN_nn l k
 obtain ⟨n, hn⟩ := Int.eq_ofNat_of_zero_le hnn
 have hd := h.drop k
 rw [hn] at hlt hd ⊢
 rw [Qkx s n (by omega)]
 rw [Int.toNat_natCast, List.drop_eq_getElem_cons hk, joinN_cons] at hd
 rw [hd]
 exact dec_enc _ (List.all_eq_true.1 h.rt _ (List.getElem_mem hk)) _
theorem Sg.none {s : ByteArray} {l : List Int} (h : Sg s l) : Qcr s (offN l l.length) = none := by
 unfold Qcr
 rw [h.end, if_neg (by omega)]
theorem wid_enc {n : Int} (h : right n = true) : ((enc n).size : Int) = Qbe n := by
 rw [Qjo, ← Qip n h]; unfold encN; rw [List.length_map]
theorem Sg.next {s : ByteArray} {l : List Int} (h : Sg s l) {k : Nat} (hk : k < l.length) : offN l (k + 1) = offN l k + Qbe l[k] := by
 rw [Qkc hk, wid_enc (List.all_eq_true.1 h.rt _ (List.getElem_mem hk))]
theorem Sg.byte {s : ByteArray} {l : List Int} (h : Sg s l) {k : Nat} (hk : k < l.length) : ∃ c : UInt8, s[(offN l k).toNat]? = some c ∧ (l[k] < 128 → (c.toNat : Int) = l[k]) ∧ (128 ≤ l[k] → 128 ≤ c.toNat) := by
 have hlt := h.lt hk
 have hnn := offN_nn l k
 have hs : (offN l k).toNat < s.size := by omega
 have hd := h.drop k
 have hr : right l[k] = true := List.all_eq_true.1 h.rt _ (List.getElem_mem hk)
 obtain ⟨c, t, he, h1, h2⟩ := enc_hdM _ hr
 rw [List.drop_eq_getElem_cons hk, joinN_cons, he, drop_tl s _ hs] at hd
 have hc : nb s (offN l k).toNat = c := (List.cons.inj hd).1
 refine ⟨s[(offN l k).toNat], getElem?_pos s _ hs, ?_, ?_⟩
 ·intro h3; rw [nb_eq s _ hs, hc]; exact (h1 h3).1
 ·intro h3; rw [nb_eq s _ hs, hc]; exact (h2 h3).1
end Go.Proofs.YtahhgpafjiljfaaGreat

import Derived.Test.YtdklpbefbamchaaGreatBY
import Derived.Test.YtdklpbefbamchaaGreatBA3
import Derived.Test.YtdklpbefbamchaaGreatBZ
import Derived.Test.YtdklpbefbamchaaGreatBV
set_option linter.unusedSimpArgs false
set_option linter.unusedVariables false
set_option maxHeartbeats 16000000
set_option maxRecDepth 100000
namespace Go.Proofs.YtdklpbefbamchaaGreat
open Go.RowKit
def Qgb : List Nat → List Nat
 | [] => []
 | c :: r => if c = 10 then c :: r else Qgb r
def Qbm : Int → List Nat → Option (List Nat)
  | _, [] => none
  | _, [_] => none
  | deep, c :: d :: r =>
    if c = 123 ∧ d = 45 then Qbm (deep + 1) r
    else if c = 45 ∧ d = 125 then (if deep - 1 = 0 then some r else Qbm (deep - 1) r)
    else Qbm deep (d :: r)
def beg2 (a b : Nat) : List Nat → Bool
 | c :: d :: _ => c == a && d == b
 | _ => false
theorem Qkd (m : Int) (h : right m = true) : ∃ c t, encN m = c :: t ∧ (m < 128 → (c : Int) = m ∧ t = []) ∧ (128 ≤ m → 128 ≤ c ∧ ∀ d ∈ t, 128 ≤ d) := by
 have hr := (Qfw m).1 h
 rcases Qky m h with h | h | h | h
 ·refine ⟨m.toNat, [], by rw [encN, encL1 m h.2]; rfl, fun _ => ⟨by omega, rfl⟩, fun h2 => by omega⟩
 ·refine ⟨(192 + m / 64).toNat, [(128 + m % 64).toNat], by rw [encN, encL2 m h.1 h.2]; rfl, fun _ => by omega, fun _ => ⟨by omega, fun d hd => ?_⟩⟩
  simp only [List.mem_singleton] at hd; omega
 ·refine ⟨(224 + m / 64 / 64).toNat, [(128 + m / 64 % 64).toNat, (128 + m % 64).toNat], by rw [encN, encL3 m h.1 h.2]; rfl, fun _ => by omega, fun _ => ⟨by omega, fun d hd => ?_⟩⟩
  simp only [List.mem_cons, List.not_mem_nil, or_false] at hd; omega
 ·refine ⟨(240 + m / 64 / 64 / 64).toNat, [(128 + m / 64 / 64 % 64).toNat, (128 + m / 64 % 64).toNat, (128 + m % 64).toNat], by rw [encN, encL4 m h.1]; rfl, fun _ => by omega, fun _ => ⟨by omega, fun d hd => ?_⟩⟩
  simp only [List.mem_cons, List.not_mem_nil, or_false] at hd; omega
theorem Qdf (n : Int) (r : List Int) : Qca (n :: r) = encN n ++ Qca r := rfl
theorem line_hi : ∀ (bs b : List Nat), (∀ c ∈ bs, 128 ≤ c) → Qgb (bs ++ b) = Qgb b
  | [], _, _ => rfl
  | c :: r, b, h => by
    have hc := h c List.mem_cons_self
    rw [List.cons_append, Qgb, if_neg (by omega)]
    exact line_hi r b fun d hd => h d (List.mem_cons_of_mem _ hd)
theorem Qnf : ∀ r : List Int, r.all right = true → Qgb (Qca r) = Qca (Qco r)
  | [], _ => rfl
  | n :: r, h => by
    simp only [List.all_cons, Bool.and_eq_true] at h
    obtain ⟨c, t, he, h1, h2⟩ := Qkd n h.1
    rw [Qdf, he, Qco]
    by_cases h3 : n < 128
    · obtain ⟨h4, rfl⟩ := h1 h3
      rw [List.cons_append, Qgb, List.nil_append]
      by_cases h5 : n = 10
      · rw [if_pos (by omega), if_pos h5, Qdf, he]; rfl
      · rw [if_neg (by omega), if_neg h5]; exact Qnf r h.2
    · obtain ⟨h4, h5⟩ := h2 (by omega)
      rw [line_hi (c :: t) _ (by
        intro d hd
        rcases List.mem_cons.1 hd with rfl | hd
        · exact h4
        · exact h5 d hd), if_neg (by omega)]
      exact Qnf r h.2
theorem closed_hi (d : Int) : ∀ (bs b : List Nat), (∀ c ∈ bs, 128 ≤ c) → Qbm d (bs ++ b) = Qbm d b
  | [], _, _ => rfl
  | c :: r, b, h => by
    have hc := h c List.mem_cons_self
    have ih := closed_hi d r b fun d hd => h d (List.mem_cons_of_mem _ hd)
    rw [List.cons_append]
    cases hx : r ++ b with
    | nil => rw [hx] at ih; rw [← ih]; rfl
    | cons e x => rw [hx] at ih; rw [Qbm, if_neg (by omega), if_neg (by omega)]; exact ih
theorem closed_join : ∀ (k : Nat) (r : List Int) (d : Int), r.length ≤ k → r.all right = true → 1 ≤ d → Qbm d (Qca r) = if (Qau d r).2 = true then some (Qca (Qau d r).1) else none := by
  intro k
  induction k with
  | zero =>
    intro r d hk h hd
    obtain rfl : r = [] := List.length_eq_zero_iff.1 (by omega)
    rw [Qau]
    have : (d == 0) = false := beq_false_of_ne (by omega)
    simp only [this]; rfl
  | succ k ih =>
    intro r d hk h hd
    match r with
    | [] =>
      rw [Qau]
      have : (d == 0) = false := beq_false_of_ne (by omega)
      simp only [this]; rfl
    | n :: r =>
      simp only [List.length_cons] at hk
      simp only [List.all_cons, Bool.and_eq_true] at h
      obtain ⟨c, t, he, h1, h2⟩ := Qkd n h.1
      rw [Qdf, he]
      by_cases h3 : n < 128
      · obtain ⟨h4, rfl⟩ := h1 h3
        match r with
        | [] =>
          have hN : Qau d [n] = Qau d [] := by conv => lhs; rw [Qau, if_neg (by simp), if_neg (by simp)]
          have : (d == 0) = false := beq_false_of_ne (by omega)
          rw [hN, Qau]
          simp only [this]; rfl
        | m :: r =>
          have hN : Qau d (n :: m :: r) = if n = 123 ∧ m = 45 then Qau (d + 1) r else if n = 45 ∧ m = 125 then (if d - 1 = 0 then (r, true) else Qau (d - 1) r) else Qau d (m :: r) := by
            conv => lhs; rw [Qau]
            simp only [List.head?_cons, Option.some.injEq, List.drop_succ_cons, List.drop_zero]
          have hr := h.2
          simp only [List.all_cons, Bool.and_eq_true] at hr
          simp only [List.length_cons] at hk
          obtain ⟨c', t', he', h1', h2'⟩ := Qkd m hr.1
          have ih1 := ih (m :: r) d (by simp only [List.length_cons]; omega) h.2 hd
          rw [hN]
          by_cases h5 : n = 123 ∧ m = 45
          · rw [if_pos h5]
            obtain ⟨h6, rfl⟩ := h1' (by omega)
            rw [Qdf, he']
            show Qbm d (c :: c' :: Qca r) = _
            rw [Qbm, if_pos (by omega)]
            exact ih r (d + 1) (by omega) hr.2 (by omega)
          · by_cases h6 : n = 45 ∧ m = 125
            · rw [if_neg h5, if_pos h6]
              obtain ⟨h8, rfl⟩ := h1' (by omega)
              rw [Qdf, he']
              show Qbm d (c :: c' :: Qca r) = _
              rw [Qbm, if_neg (by omega), if_pos (by omega)]
              by_cases h7 : d - 1 = 0
              · rw [if_pos h7, if_pos h7]; rfl
              · rw [if_neg h7, if_neg h7]
                exact ih r (d - 1) (by omega) hr.2 (by omega)
            · rw [if_neg h5, if_neg h6]
              have hh : (c' : Int) = 45 → m = 45 := fun e => by
                rcases (show m < 128 ∨ 128 ≤ m by omega) with hm | hm
                · have := (h1' hm).1; omega
                · have := (h2' hm).1; omega
              have hh2 : (c' : Int) = 125 → m = 125 := fun e => by
                rcases (show m < 128 ∨ 128 ≤ m by omega) with hm | hm
                · have := (h1' hm).1; omega
                · have := (h2' hm).1; omega
              rw [← ih1, Qdf, he']
              show Qbm d (c :: c' :: (t' ++ Qca r)) = _
              rw [Qbm, if_neg (fun e => h5 ⟨by omega, hh (by omega)⟩), if_neg (fun e => h6 ⟨by omega, hh2 (by omega)⟩)]
              rfl
      · obtain ⟨h4, h5⟩ := h2 (by omega)
        rw [closed_hi d (c :: t) _ (by
          intro d hd
          rcases List.mem_cons.1 hd with rfl | hd
          · exact h4
          · exact h5 d hd)]
        have hN : Qau d (n :: r) = Qau d r := by
          conv => lhs; rw [Qau, if_neg (by omega), if_neg (by omega)]
        rw [hN]
        exact ih r d (by omega) h.2 hd
theorem Qna {r : List Int} {a b : Nat} (ha : a < 128) (hb : b < 128) (h : r.all right = true) : beg2 a b (Qca r) = (sgn r 0 == (a : Int) && sgn r 1 == (b : Int)) := by
  match r with
  | [] => show false = (((-1 : Int) == (a : Int)) && _); rw [show ((-1 : Int) == (a : Int)) = false from beq_false_of_ne (by omega)]; rfl
  | n :: r =>
    simp only [List.all_cons, Bool.and_eq_true] at h
    obtain ⟨c, t, he, h1, h2⟩ := Qkd n h.1
    rw [Qdf, he]
    show beg2 a b (c :: (t ++ Qca r)) = (n == (a : Int) && sgn (n :: r) 1 == (b : Int))
    by_cases h3 : n < 128
    · obtain ⟨h4, rfl⟩ := h1 h3
      match r with
      | [] =>
        show false = (n == (a : Int) && ((-1 : Int) == (b : Int)))
        rw [show ((-1 : Int) == (b : Int)) = false from beq_false_of_ne (by omega), Bool.and_false]
      | m :: r =>
        have hr := h.2
        simp only [List.all_cons, Bool.and_eq_true] at hr
        obtain ⟨c', t', he', h1', h2'⟩ := Qkd m hr.1
        rw [Qdf, he']
        show (c == a && c' == b) = (n == (a : Int) && m == (b : Int))
        rw [Bool.eq_iff_iff]
        simp only [Bool.and_eq_true, beq_iff_eq]
        constructor
        · rintro ⟨e1, e2⟩
          refine ⟨by omega, ?_⟩
          rcases (show m < 128 ∨ 128 ≤ m by omega) with hm | hm
          · have := (h1' hm).1; omega
          · have := (h2' hm).1; omega
        · rintro ⟨e1, e2⟩
          have := (h1' (by omega)).1
          exact ⟨by omega, by omega⟩
    · obtain ⟨h4, h5⟩ := h2 (by omega)
      rw [show (n == (a : Int)) = false from beq_false_of_ne (by omega), Bool.false_and]
      cases hx : t ++ Qca r with
      | nil => rfl
      | cons e x => show (c == a && e == b) = false; rw [show (c == a) = false from beq_false_of_ne (by omega)]; rfl
structure Sg (s : ByteArray) (l : List Int) : Prop where
 size : s.size ≤ 65535
 rt : l.all right = true
 bytes : nats s = Qca l
theorem sg_of {s : ByteArray} (h : allE s = 0) : Sg s (allS s) := by
 obtain ⟨h1, h2⟩ := signs_ok h
 refine ⟨?_, h2, ?_⟩
 ·unfold allE at h
  split at h
  ·cases h
  ·omega
 ·have h3 := (Qjk s h).2
  have h4 := Qni _ h2
  unfold Qay at h3
  rw [if_pos (Qjk s h).1] at h3
  rw [← h4, h3]
theorem Qkn {l : List Int} {b : Int → Bool} (h : l.all b = true) (k : Nat) : (l.drop k).all b = true :=
 List.all_eq_true.2 fun x hx => List.all_eq_true.1 h x (List.mem_of_mem_drop hx)
theorem Qdr {l : List Int} (k : Nat) : (offN l k).toNat = (Qca (l.take k)).length := by
 unfold offN; rw [Qim]; omega
theorem Qej (l : List Int) (k : Nat) : 0 ≤ offN l k := by unfold offN; omega
theorem Qga (l : List Int) (k : Nat) : Qca l = Qca (l.take k) ++ Qca (l.drop k) := by
 unfold Qca; rw [← List.flatMap_append, List.take_append_drop]
theorem Sg.drop {s : ByteArray} {l : List Int} (h : Sg s l) (k : Nat) : (nats s).drop (offN l k).toNat = Qca (l.drop k) := by
 rw [h.bytes, Qga l k, Qdr, List.drop_left]
theorem Sg.le {s : ByteArray} {l : List Int} (h : Sg s l) (k : Nat) : offN l k ≤ s.size := by
 have h1 := congrArg List.length h.bytes
 rw [Qbg, Qga l k, List.length_append] at h1
 have := Qdr (l := l) k
 have := Qej l k
 omega
theorem Sg.lt {s : ByteArray} {l : List Int} (h : Sg s l) {k : Nat} (hk : k < l.length) : offN l k < s.size := by
 have h1 := h.le (k + 1)
 rw [Qlg hk, Qkr] at h1
 have := encL_pos l[k]
 omega
theorem Sg.end {s : ByteArray} {l : List Int} (h : Sg s l) : offN l l.length = s.size := by
 have h1 := congrArg List.length h.bytes
 rw [Qbg] at h1
 have := Qdr (l := l) l.length
 rw [List.take_length] at this
 have := Qej l l.length
 omega
theorem Sg.len {s : ByteArray} {l : List Int} (h : Sg s l) : l.length ≤ s.size := by
 have h1 := congrArg List.length h.bytes
 rw [Qbg, Qim] at h1
 have := joinB_ge l
 omega
theorem Sg.dec {s : ByteArray} {l : List Int} (h : Sg s l) {k : Nat} (hk : k < l.length) : Qch s (offN l k) = some (l[k], Qbi l[k]) := by
 have hlt := h.lt hk
 have hnn := Qej l k
 obtain ⟨n, hn⟩ := Int.eq_ofNat_of_zero_le hnn
 have hd := h.drop k
 rw [hn] at hlt hd ⊢
 rw [Qkq s n (by omega)]
 rw [Int.toNat_natCast, List.drop_eq_getElem_cons hk, Qdf] at hd
 rw [hd]
 exact dec_enc _ (List.all_eq_true.1 h.rt _ (List.getElem_mem hk)) _
theorem Sg.none {s : ByteArray} {l : List Int} (h : Sg s l) : Qch s (offN l l.length) = none := by
 unfold Qch
 rw [h.end, if_neg (by omega)]
theorem wid_enc {n : Int} (h : right n = true) : ((enc n).size : Int) = Qbi n := by
 rw [Qkr, ← Qgn n h]; unfold encN; rw [List.length_map]
theorem Sg.next {s : ByteArray} {l : List Int} (h : Sg s l) {k : Nat} (hk : k < l.length) : offN l (k + 1) = offN l k + Qbi l[k] := by
 rw [Qlg hk, wid_enc (List.all_eq_true.1 h.rt _ (List.getElem_mem hk))]
theorem Sg.byte {s : ByteArray} {l : List Int} (h : Sg s l) {k : Nat} (hk : k < l.length) : ∃ c : UInt8, s[(offN l k).toNat]? = some c ∧ (l[k] < 128 → (c.toNat : Int) = l[k]) ∧ (128 ≤ l[k] → 128 ≤ c.toNat) := by
 have hlt := h.lt hk
 have hnn := Qej l k
 have hs : (offN l k).toNat < s.size := by omega
 have hd := h.drop k
 have hr : right l[k] = true := List.all_eq_true.1 h.rt _ (List.getElem_mem hk)
 obtain ⟨c, t, he, h1, h2⟩ := Qkd _ hr
 rw [List.drop_eq_getElem_cons hk, Qdf, he, Qkc s _ hs] at hd
 have hc : nb s (offN l k).toNat = c := (List.cons.inj hd).1
 refine ⟨s[(offN l k).toNat], getElem?_pos s _ hs, ?_, ?_⟩
 ·intro h3; rw [Qgs s _ hs, hc]; exact (h1 h3).1
 ·intro h3; rw [Qgs s _ hs, hc]; exact (h2 h3).1
theorem Sg.cut {s : ByteArray} {l : List Int} (h : Sg s l) {i j : Nat} (hij : i ≤ j) (hj : j ≤ l.length) : s.extract (offN l i).toNat (offN l j).toNat = Qay ((l.take j).drop i) := by
 have hr : ((l.take j).drop i).all right = true := List.all_eq_true.2 fun x hx => List.all_eq_true.1 h.rt x (List.mem_of_mem_take (List.mem_of_mem_drop hx))
 have hsp : Qca (l.take j) = Qca (l.take i) ++ Qca ((l.take j).drop i) := by
  have := Qga (l.take j) i
  rwa [List.take_take, Nat.min_eq_left hij] at this
 have hE : Qfe ((l.take j).drop i) = 0 := by
  unfold Qfe
  rw [if_pos hr, if_neg]
  have h1 := h.le j
  have h2 := Qdr (l := l) j
  have h3 := congrArg List.length hsp
  rw [List.length_append, Qim ((l.take j).drop i)] at h3
  have := h.size
  omega
 refine nats_inj ?_
 unfold Qay
 rw [if_pos hE, Qni _ hr]
 have hx : nats (s.extract (offN l i).toNat (offN l j).toNat) = ((nats s).take (offN l j).toNat).drop (offN l i).toNat := by
  unfold nats
  rw [ByteArray.data_extract, Array.toList_extract, List.extract_eq_take_drop, ← List.map_take, ← List.map_drop, List.drop_take]
 rw [hx, h.bytes, Qga l j, Qdr, Qdr, List.take_left, hsp, List.drop_left]
theorem wrM {n : Int} (h0 : -9223372036854775808 ≤ n) (h1 : n ≤ 9223372036854775807) : IntKind.i64.wrap n = n := IntWalk.i64_in _ (by omega)
theorem mnext_p (s : ByteArray) (i : Int) : PCalls Tryz.prog 226 [.d (.v (.string s)), .d (.v (.int .i64 i))] [] fun p st => p = .tup [.d (.v (.int .i64 (Qcu s i))), .d (.v (.int .i64 (Qcy s i))), .d (.v (.bool (Qeu s i)))] ∧ st = [] := by
  refine PCalls.data fun K w vs ha => ?_
  obtain ⟨v, u, rfl, hv, hu⟩ := ha.two
  cases hv with
  | d hv =>
    cases hv with
    | v hs =>
      cases hu with
      | d hu =>
        cases hu with
        | v _ =>
          refine (Qnm s hs i w).mono ?_
          rintro e w' ⟨rfl, hb⟩
          exact ⟨_, rfl, hb, fun K' _ => tup3 (.d (.v trivial)) (.d (.v trivial)) (.d (.v trivial))⟩
def sgB (s : ByteArray) (i : Int) : Int := if Qeu s i then Qcu s i else -1
theorem msign_p (s : ByteArray) (i : Int) : PCalls Tryz.prog 229 [.d (.v (.string s)), .d (.v (.int .i64 i))] [] fun p st => p = .d (.v (.int .i64 (sgB s i))) ∧ st = [] := by
  have H0 := Hh (mnext_p s i)
  have HS := Hh (show sgB s i = if Qeu s i then Qcu s i else -1 from rfl)
  generalize sgB s i = r at *
  generalize Qcu s i = n at *
  generalize Qcy s i = w at *
  refine pG Tryz.func229 Tryz.ntmps229 ?_
  refine Jc (H0.out) ?_
  cases hk : Qeu s i with
  | true =>
    rw [hk] at HS
    obtain rfl : r = n := HS.out
    refine go_ ?_
    refine rT Tryz.results229 ?_
    exact ⟨rfl, rfl⟩
  | false =>
    rw [hk] at HS
    obtain rfl : r = -1 := HS.out
    refine go_ ?_
    refine rT Tryz.results229 ?_
    exact ⟨rfl, rfl⟩
theorem Sg.sgB {s : ByteArray} {l : List Int} (h : Sg s l) {k : Nat} (hk : k ≤ l.length) : sgB s (offN l k) = sgn l k := by
 unfold Go.Proofs.YtdklpbefbamchaaGreat.sgB Qeu Qcu
 rcases Nat.lt_or_ge k l.length with h1 | h1
 ·rw [h.dec h1, Qfj h1]; rfl
 ·obtain rfl : k = l.length := by omega
  rw [h.none, sgn_ge (Nat.le_refl _)]; rfl
theorem inner_neg {n : Int} (h : n < 0) : Qag n = false := by
 unfold Qag Qbn Qar
 simp only [Bool.or_eq_false_iff, decide_eq_false_iff_not, beq_eq_false_iff_ne]
 omega
theorem minner_p (n : Int) : PCalls Tryz.prog 232 [.d (.v (.int .i64 n))] [] fun p s => p = .d (.v (.bool (Qag n))) ∧ s = [] := by
  by_cases h0 : 0 ≤ n
  · have H1 := Hh (rletter_p n)
    have H2 := Hh (rdigit_p n)
    have HI := Hh (show Qag n = (Qbn n || Qar n || n == 95 || n == 39) from rfl)
    generalize Qag n = r at *
    cases h1 : Qbn n with
    | true =>
      rw [h1] at H1 HI
      obtain rfl : r = true := HI.out
      refine pG Tryz.func232 Tryz.ntmps232 ?_
      refine Qad (H1.out) ?_
      refine rT Tryz.results232 ?_
      exact ⟨rfl, rfl⟩
    | false =>
      rw [h1] at H1 HI
      cases h2 : Qar n with
      | true =>
        rw [h2] at H2 HI
        obtain rfl : r = true := HI.out
        refine pG Tryz.func232 Tryz.ntmps232 ?_
        refine Qad (H1.out) ?_
        refine Qad (H2.out) ?_
        refine rT Tryz.results232 ?_
        exact ⟨rfl, rfl⟩
      | false =>
        rw [h2] at H2 HI
        cases h3 : (n == 95) with
        | true =>
          rw [h3] at HI
          obtain rfl : r = true := HI.out
          refine pG Tryz.func232 Tryz.ntmps232 ?_
          refine Qad (H1.out) ?_
          refine Qad (H2.out) ?_
          refine rT Tryz.results232 ?_
          exact ⟨rfl, rfl⟩
        | false =>
          rw [h3] at HI
          have hr : r = (n == 39) := HI.out
          subst hr
          refine pG Tryz.func232 Tryz.ntmps232 ?_
          refine Qad (H1.out) ?_
          refine Qad (H2.out) ?_
          refine rT Tryz.results232 ?_
          exact ⟨rfl, rfl⟩
  · rw [inner_neg (by omega)]
    refine pG Tryz.func232 Tryz.ntmps232 ?_
    refine rT Tryz.results232 ?_
    exact ⟨rfl, rfl⟩
theorem mmarks_p : PCalls Tryz.prog 233 [] [] fun p s => p = .d (.v (.string ⟨#[40, 41, 123, 125, 58, 61, 46, 44, 59, 124, 92]⟩)) ∧ s = [] := by
 refine pG Tryz.func233 Tryz.ntmps233 ?_
 refine rT Tryz.results233 ?_
 exact ⟨rfl, rfl⟩
def begB (s : ByteArray) (k : Nat) (t : ByteArray) : Bool := decide (k + t.size ≤ s.size) && (s.extract k (k + t.size)).toList == t.toList
theorem Qjr (s t : ByteArray) (k : Nat) (hs : s.size ≤ 1000000) (ht : t.size ≤ 1000) (hk : k ≤ s.size) : PCalls Tryz.prog 227 [.d (.v (.string s)), .d (.v (.int .i64 k)), .d (.v (.string t))] [] fun p st => p = .d (.v (.bool (begB s k t))) ∧ st = [] := by
 have HB := Hh (show begB s k t = (decide (k + t.size ≤ s.size) && (s.extract k (k + t.size)).toList == t.toList) from rfl)
 generalize begB s k t = r at *
 have hw0 : IntKind.i64.wrap ((s.size : Int) - k) = (s.size : Int) - k := wrM (by omega) (by omega)
 have hw : IntKind.i64.wrap ((k : Int) + (t.size : Int)) = ((k + t.size : Nat) : Int) := by
  rw [show (k : Int) + (t.size : Int) = ((k + t.size : Nat) : Int) by omega]
  exact wrM (by omega) (by omega)
 by_cases h : k + t.size ≤ s.size
 ·have h1 : (t.size : Int) ≤ (s.size : Int) - k := by omega
  rw [decide_eq_true h, Bool.true_and] at HB
  obtain rfl : r = _ := HB.out
  refine pG Tryz.func227 Tryz.ntmps227 ?_
  refine Qer k (k + t.size) ?_ (by decide) eD rfl eQ (by first | rfl | (simp [Qey, PF.eval, PF.get, cPV, Qcd, *]; done) | fail) (by first | rfl | (simp [Qdt, PF.eval, PF.get, cPV, Qcd, *]; done) | fail) (by first | omega | (simp; done) | (simp; omega)) (by first | omega | (simp; done) | (simp; omega))
  refine go_ ?_
  refine rT Tryz.results227 ?_
  exact ⟨rfl, rfl⟩
 ·have h1 : ¬ (t.size : Int) ≤ (s.size : Int) - k := by omega
  rw [decide_eq_false h, Bool.false_and] at HB
  obtain rfl : r = false := HB.out
  refine pG Tryz.func227 Tryz.ntmps227 ?_
  refine rT Tryz.results227 ?_
  exact ⟨rfl, rfl⟩
theorem begB_2 (s : ByteArray) (k : Nat) (a b : UInt8) : begB s k ⟨#[a, b]⟩ = beg2 a.toNat b.toNat ((nats s).drop k) := by
 unfold begB
 rw [show (⟨#[a, b]⟩ : ByteArray).size = 2 from rfl]
 by_cases h : k + 2 ≤ s.size
 ·rw [decide_eq_true h, Bool.true_and]
  have e1 : (s.extract k (k + 2)).toList = [s[k], s[k + 1]] := by
   rw [ByteArray.toList_eq, ByteArray.data_extract, Array.toList_extract, List.extract_eq_take_drop]
   have hl : s.data.toList.length = s.size := rfl
   rw [show k + 2 - k = 2 by omega, List.drop_eq_getElem_cons (by omega), List.drop_eq_getElem_cons (by omega)]
   rfl
  have e2 : (nats s).drop k = s[k].toNat :: s[k + 1].toNat :: (nats s).drop (k + 2) := by
   rw [Qkc s k (by omega), ← Qgs s k (by omega)]
   show _ :: (nats s).drop (k + 1) = _
   rw [Qkc s (k + 1) (by omega), ← Qgs s (k + 1) (by omega)]
   rfl
  rw [e1, e2, show (⟨#[a, b]⟩ : ByteArray).toList = [a, b] from by rw [ByteArray.toList_eq]]
  show ([s[k], s[k + 1]] == [a, b]) = (s[k].toNat == a.toNat && s[k + 1].toNat == b.toNat)
  rw [Bool.eq_iff_iff]
  simp only [beq_iff_eq, List.cons.injEq, and_true, Bool.and_eq_true]
  constructor
  ·rintro ⟨h1, h2⟩; rw [h1, h2]; exact ⟨rfl, rfl⟩
  ·rintro ⟨h1, h2⟩; exact ⟨UInt8.toNat_inj.1 h1, UInt8.toNat_inj.1 h2⟩
 ·rw [decide_eq_false h, Bool.false_and]
  have hl : ((nats s).drop k).length ≤ 1 := by rw [List.length_drop, Qbg]; omega
  generalize (nats s).drop k = x at hl
  match x, hl with
  | [], _ => rfl
  | [_], _ => rfl
  | _ :: _ :: r, h => simp only [List.length_cons] at h; omega
theorem Qnu {d : Int} {b : List Nat} (h : beg2 123 45 b = true) : Qbm d b = Qbm (d + 1) (b.drop 2) := by
  match b with
  | [] => cases h
  | [_] => cases h
  | c :: e :: r =>
    simp only [beg2, Bool.and_eq_true, beq_iff_eq] at h
    rw [Qbm, if_pos h]; rfl
theorem closed_shut {d : Int} {b : List Nat} (h : beg2 45 125 b = true) : Qbm d b = if d - 1 = 0 then some (b.drop 2) else Qbm (d - 1) (b.drop 2) := by
  match b with
  | [] => cases h
  | [_] => cases h
  | c :: e :: r =>
    simp only [beg2, Bool.and_eq_true, beq_iff_eq] at h
    rw [Qbm, if_neg (by omega), if_pos h]; rfl
theorem closed_else {d : Int} {c : Nat} {r : List Nat} (h1 : beg2 123 45 (c :: r) = false) (h2 : beg2 45 125 (c :: r) = false) : Qbm d (c :: r) = Qbm d r := by
  match r with
  | [] => rfl
  | e :: r =>
    simp only [beg2, Bool.and_eq_false_iff, beq_eq_false_iff_ne] at h1 h2
    rw [Qbm, if_neg (by omega), if_neg (by omega)]
theorem beg2_len {a b : Nat} {l : List Nat} (h : beg2 a b l = true) : 2 ≤ l.length := by
 match l with
 | [] => cases h
 | [_] => cases h
 | _ :: _ :: r => simp only [List.length_cons]; omega
def Qlp (s : ByteArray) (k : Nat) : Int := match Qbm 0 ((nats s).drop k) with | none => -1 | some x => (s.size : Int) - x.length
theorem mclosed_p (s : ByteArray) (k0 : Nat) (hs : s.size ≤ 65535) (hk0 : k0 ≤ s.size) : PCalls Tryz.prog 228 [.d (.v (.string s)), .d (.v (.int .i64 k0))] [] fun p st => p = .d (.v (.int .i64 (Qlp s k0))) ∧ st = [] := by
  have HC := Hh (show Qlp s k0 = match Qbm 0 ((nats s).drop k0) with | none => -1 | some x => (s.size : Int) - x.length from rfl)
  generalize Qlp s k0 = r at *
  refine pG Tryz.func228 Tryz.ntmps228 ?_
  refine Qai (ι := Nat × Int) (fun x => x.1 ≤ s.size ∧ Qbm x.2 ((nats s).drop x.1) = Qbm 0 ((nats s).drop k0) ∧ -(x.1 : Int) ≤ x.2 ∧ x.2 ≤ x.1) (fun x => [(0, .d (.v (.string s))), (1, .d (.v (.int .i64 x.1))), (5, .d (.v (.int .i64 x.2)))]) (fun _ => []) (fun x => s.size - x.1) (k0, 0) ⟨hk0, rfl, by omega, by omega⟩ ?_ ?_ ?_
  · exact sU
  · exact dR
  rintro ⟨k, d⟩ ⟨hk, hI, hd1, hd2⟩
  simp only at hk hI hd1 hd2 ⊢
  have HI := Hh hI
  clear hI
  by_cases h : k < s.size
  · have hc : (k : Int) < (s.size : Int) := by omega
    have H1 := Hh (Qjr s ⟨#[123, 45]⟩ k (by omega) (by decide) hk)
    have H2 := Hh (Qjr s ⟨#[45, 125]⟩ k (by omega) (by decide) hk)
    rw [begB_2] at H1 H2
    have HD := Hh (Qkc s k h)
    have hw1 : IntKind.i64.wrap (d + 1) = d + 1 := wrM (by omega) (by omega)
    have hw2 : IntKind.i64.wrap ((k : Int) + 2) = ((k + 2 : Nat) : Int) := wrM (by omega) (by omega)
    have hw3 : IntKind.i64.wrap (d - 1) = d - 1 := wrM (by omega) (by omega)
    have hw4 : IntKind.i64.wrap ((k : Int) + 1) = ((k + 1 : Nat) : Int) := wrM (by omega) (by omega)
    have HL := Hh (show ((nats s).drop k).length = s.size - k by rw [List.length_drop, Qbg])
    cases h1 : beg2 123 45 ((nats s).drop k) with
    | true =>
      rw [show (123 : UInt8).toNat = 123 from rfl, show (45 : UInt8).toNat = 45 from rfl, h1] at H1
      have HE := Hh (Qnu (d := d) h1)
      have hl2 := beg2_len h1
      rw [HL.out] at hl2
      clear h1
      refine go_ ?_
      refine Qab (H1.out) ?_
      refine ⟨(k + 2, d + 1), ⟨by show k + 2 ≤ s.size; omega, ?_, by show -((k + 2 : Nat) : Int) ≤ d + 1; omega, by show d + 1 ≤ ((k + 2 : Nat) : Int); omega⟩, by show s.size - (k + 2) < s.size - k; omega, ?_, ?_⟩
      · show Qbm (d + 1) ((nats s).drop (k + 2)) = _
        rw [← HI.out, HE.out, List.drop_drop]
      · exact sU
      · exact dR
    | false =>
      rw [show (123 : UInt8).toNat = 123 from rfl, show (45 : UInt8).toNat = 45 from rfl, h1] at H1
      have HF := Hh h1
      clear h1
      cases h2 : beg2 45 125 ((nats s).drop k) with
      | true =>
        rw [show (125 : UInt8).toNat = 125 from rfl, show (45 : UInt8).toNat = 45 from rfl, h2] at H2
        have HE := Hh (closed_shut (d := d) h2)
        have hl2 := beg2_len h2
        rw [HL.out] at hl2
        clear h2
        by_cases hz : d - 1 = 0
        · have HR := Hh (show r = ((k + 2 : Nat) : Int) by
            rw [HC.out, ← HI.out, HE.out, if_pos hz]
            simp only [List.length_drop, Qbg]; omega)
          have hw0 : IntKind.i64.wrap 0 = 0 := rfl
          refine go_ ?_
          refine Qab (H1.out) ?_
          refine Qab (H2.out) ?_
          refine rT Tryz.results228 ?_
          exact ⟨by rw [HR.out]; simp [tupP, PV.norm2, PV.norm1, PV.norm0], rfl⟩
        · refine go_ ?_
          refine Qab (H1.out) ?_
          refine Qab (H2.out) ?_
          refine ⟨(k + 2, d - 1), ⟨by show k + 2 ≤ s.size; omega, ?_, by show -((k + 2 : Nat) : Int) ≤ d - 1; omega, by show d - 1 ≤ ((k + 2 : Nat) : Int); omega⟩, by show s.size - (k + 2) < s.size - k; omega, ?_, ?_⟩
          · show Qbm (d - 1) ((nats s).drop (k + 2)) = _
            rw [← HI.out, HE.out, if_neg hz, List.drop_drop]
          · exact sU
          · exact dR
      | false =>
        rw [show (125 : UInt8).toNat = 125 from rfl, show (45 : UInt8).toNat = 45 from rfl, h2] at H2
        have HE := Hh (closed_else (d := d) (c := nb s k) (r := tl s k) (by rw [← HD.out]; exact HF.out) (by rw [← HD.out]; exact h2))
        clear h2
        refine go_ ?_
        refine Qab (H1.out) ?_
        refine Qab (H2.out) ?_
        refine ⟨(k + 1, d), ⟨by show k + 1 ≤ s.size; omega, ?_, by show -((k + 1 : Nat) : Int) ≤ d; omega, by show d ≤ ((k + 1 : Nat) : Int); omega⟩, by show s.size - (k + 1) < s.size - k; omega, ?_, ?_⟩
        · show Qbm d ((nats s).drop (k + 1)) = _
          rw [← HI.out, HD.out, HE.out]; rfl
        · exact sU
        · exact dR
  · have hc : ¬ (k : Int) < (s.size : Int) := by omega
    have HR := Hh (show r = -1 by
      rw [HC.out, ← HI.out, List.drop_of_length_le (by rw [Qbg]; omega)]; rfl)
    refine go_ ?_
    refine rT Tryz.results228 ?_
    exact ⟨by rw [HR.out]; simp [tupP, PV.norm2, PV.norm1, PV.norm0], rfl⟩
theorem Sg.pos {s : ByteArray} {l : List Int} (h : Sg s l) {r : List Int} (hr : r <:+ l) : offN l (posR l r) = (s.size : Int) - (Qca r).length := by
 have h1 := h.drop (posR l r)
 rw [Qhd hr] at h1
 have h2 := congrArg List.length h1
 rw [List.length_drop, Qbg] at h2
 have := h.le (posR l r)
 have := Qej l (posR l r)
 omega
theorem Qns {n : Int} (h : n < 128) : Qbi n = 1 := if_pos h
theorem blank_low {n : Int} (h : Qgh n = true) : n = 9 ∨ n = 10 ∨ n = 13 ∨ n = 32 := of_decide_eq_true h
theorem closed_sg {s : ByteArray} {l : List Int} (h : Sg s l) {k : Nat} (hk : k < l.length) (ht : (sgn l k == 123 && sgn l (k + 1) == 45) = true) : Qbm 0 (Qca (l.drop k)) = if (Qau 0 (l.drop k)).2 = true then some (Qca (Qau 0 (l.drop k)).1) else none := by
 obtain ⟨e1, e2⟩ := Qnj (d := 0) hk ht
 have hb : beg2 123 45 (Qca (l.drop k)) = true := by
  rw [Qna (by decide) (by decide) (Qkn h.rt k), Qcj, Qcj]
  exact ht
 rw [Qnu hb, e1]
 have h2 := (Qhx hk (by decide)).2 ht
 have hk2 : k + 1 < l.length := by omega
 have e3 : (Qca (l.drop k)).drop 2 = Qca (l.drop (k + 2)) := by
  rw [List.drop_eq_getElem_cons hk, List.drop_eq_getElem_cons hk2, Qdf, Qdf]
  have e4 : l[k + 1] = 45 := by
   have := h2.2
   rw [List.drop_eq_getElem_cons hk2] at this
   exact Option.some.inj this
  rw [h2.1, e4]; rfl
 rw [e3]
 exact closed_join _ _ (0 + 1) (Nat.le_refl _) (Qkn h.rt _) (by decide)
theorem mskip_p {s : ByteArray} {l : List Int} (hS : Sg s l) (k0 : Nat) (hk0 : k0 ≤ l.length) : PCalls Tryz.prog 177 [.d (.v (.string s)), .d (.v (.int .i64 (offN l k0)))] [] fun p st => p = .tup [.d (.v (.int .i64 (offN l (posR l (Qaf (l.drop k0)).1)))), .d (.v (.bool (Qaf (l.drop k0)).2))] ∧ st = [] := by
  have HS := Hh hS
  have hsz := hS.size
  have HR := Hh (And.intro rfl rfl : (Qaf (l.drop k0)) = (Qaf (l.drop k0)) ∧ True = True)
  clear HR
  refine pG Tryz.func177 Tryz.ntmps177 ?_
  refine Qai (ι := Nat) (fun k => k ≤ l.length ∧ Qaf (l.drop k) = Qaf (l.drop k0)) (fun k => [(0, .d (.v (.string s))), (1, .d (.v (.int .i64 (offN l k))))]) (fun _ => []) (fun k => l.length - k) k0 ⟨hk0, rfl⟩ ?_ ?_ ?_
  · exact sU
  · exact dR
  rintro k ⟨hk, hI⟩
  have HI := Hh hI
  clear hI
  by_cases h : k < l.length
  · have HK := Hh h
    obtain ⟨o, ho⟩ := Int.eq_ofNat_of_zero_le (Qej l k)
    have hlt := hS.lt h
    rw [ho] at hlt
    obtain ⟨c, hc1, hc2, hc3⟩ := hS.byte h
    rw [ho, Int.toNat_natCast] at hc1
    have hn0 : (0 : Int) ≤ (o : Int) := by omega
    have hdr := hS.drop k
    rw [ho, Int.toNat_natCast] at hdr
    have HD := Hh hdr
    have HO := Hh ho
    simp only [ho]
    by_cases hb : Qgh l[k] = true
    · have hlk := blank_low hb
      have hcc : (c.toNat : Int) = l[k] := hc2 (by omega)
      have HN := Hh (show offN l (k + 1) = IntKind.i64.wrap ((o : Int) + 1) by
        rw [hS.next h, ho, Qns (by omega), wrM (by omega) (by omega)])
      have HE := Hh (skip_blank h hb)
      clear hc2 hc3 hdr ho hb
      generalize l[k] = n at *
      have hkk := Hh h
      clear h
      rcases hlk with rfl | rfl | rfl | rfl
      all_goals
        refine go_ ?_
        refine ⟨k + 1, ⟨hkk.out, by rw [← HE.out]; exact HI.out⟩, by have := hkk.out; omega, ?_, ?_⟩
        · repeat (first | exact Jt _ | refine Js (by simp [PF.get]; rfl) (by first | rfl | (simp [HN.out]; done) | fail) ?_)
        · exact dR
    · have hne : ¬ (c.toNat : Int) = 32 ∧ ¬ (c.toNat : Int) = 9 ∧ ¬ (c.toNat : Int) = 10 ∧ ¬ (c.toNat : Int) = 13 := by
        have hb2 : ¬ (l[k] = 9 ∨ l[k] = 10 ∨ l[k] = 13 ∨ l[k] = 32) := fun e => hb (decide_eq_true e)
        rcases (show l[k] < 128 ∨ 128 ≤ l[k] by omega) with h1 | h1
        · have := hc2 h1; omega
        · have := hc3 h1; omega
      obtain ⟨hne1, hne2, hne3, hne4⟩ := hne
      have H1 := Hh (Qjr s ⟨#[45, 45]⟩ o (by omega) (by decide) (by omega))
      have H2 := Hh (Qjr s ⟨#[123, 45]⟩ o (by omega) (by decide) (by omega))
      rw [begB_2, hdr, Qna (by decide) (by decide) (Qkn hS.rt k), Qcj, Qcj, Nat.add_zero] at H1 H2
      rw [show ((45 : UInt8).toNat : Int) = 45 from rfl] at H1 H2
      rw [show ((123 : UInt8).toNat : Int) = 123 from rfl] at H2
      have hb' : Qgh l[k] = false := by simpa using hb
      clear hc2 hc3 hb
      cases h1 : (sgn l k == 45 && sgn l (k + 1) == 45) with
      | true =>
        rw [h1] at H1
        have HE := Hh (skip_line h h1)
        clear h1 H2 hdr ho hb'
        have hkk := Hh h
        clear h
        refine go_ ?_
        refine Qab (H1.out) ?_
        have hsuf : Qco (l.drop k) <:+ l := (Qjq _).trans (List.drop_suffix _ _)
        have hfin : ∀ j : Nat, j ≤ s.size → Qgb ((nats s).drop j) = Qgb ((nats s).drop o) → Qgb ((nats s).drop j) = (nats s).drop j → offN l (posR l (Qco (l.drop k))) = (j : Int) := by
          intro j hj h1 h2
          rw [HS.out.pos hsuf, ← Qnf _ (Qkn HS.out.rt k), ← HD.out, ← h1, h2, List.length_drop, Qbg]
          omega
        have HF := Hh hfin
        have hms : l.length - posR l (Qco (l.drop k)) < l.length - k := by
          have h4 := Qku (l.drop (k + 1))
          rw [HE.out.2]
          have := hkk.out
          unfold posR
          rw [List.length_drop] at h4
          omega
        have HM := Hh hms
        have HU := Hh hsuf
        clear hsuf hfin hms
        refine Qai (ι := Nat) (fun j => j ≤ s.size ∧ Qgb ((nats s).drop j) = Qgb ((nats s).drop o)) (fun j => [(0, .d (.v (.string s))), (1, .d (.v (.int .i64 j)))]) (fun _ => []) (fun j => s.size - j) o ⟨by omega, rfl⟩ ?_ ?_ ?_
        · exact sU
        · exact dR
        rintro j ⟨hj, hJ⟩
        have HJ := Hh hJ
        clear hJ
        by_cases h2 : j < s.size
        · have hc : (j : Int) < (s.size : Int) := by omega
          have hx : s[j]? = some s[j] := getElem?_pos s j h2
          have hn1 : (0 : Int) ≤ (j : Int) := by omega
          have HT := Hh (Qkc s j h2)
          have hnb := Hh (Qgs s j h2)
          have hw1 : IntKind.i64.wrap ((j : Int) + 1) = ((j + 1 : Nat) : Int) := wrM (by omega) (by omega)
          generalize s[j] = b at *
          clear hc1 hne1 hne2 hne3 hne4
          have hj2 := Hh h2
          clear h2
          by_cases h10 : (b.toNat : Int) = 10
          · have HX := Hh (HF.out j hj HJ.out (by
              have := hnb.out
              rw [HT.out, Qgb, if_pos (by omega)]))
            have hq : ((b.toNat : Int) != 10) = false := by rw [h10]; rfl
            clear h10
            refine go_ ?_
            refine ⟨posR l (Qco (l.drop k)), ⟨Qjh _ _, ?_⟩, HM.out, ?_, ?_⟩
            · rw [Qhd HU.out, ← HE.out.1]; exact HI.out
            · repeat (first | exact Jt _ | refine Js (by simp [PF.get]; rfl) (by first | rfl | (simp [HX.out]; done) | fail) ?_)
            · exact dR
          · have HX := Hh (show Qgb ((nats s).drop (j + 1)) = Qgb ((nats s).drop j) by
              have := hnb.out
              conv => rhs; rw [HT.out, Qgb, if_neg (by omega)]
              rfl)
            have hq : ((b.toNat : Int) != 10) = true := bne_iff_ne.2 h10
            clear h10
            refine go_ ?_
            refine ⟨j + 1, ⟨hj2.out, by rw [HX.out]; exact HJ.out⟩, by have := hj2.out; omega, ?_, ?_⟩
            · exact sU
            · exact dR
        · have hc : ¬ (j : Int) < (s.size : Int) := by omega
          have HX := Hh (HF.out j hj HJ.out (by
            rw [List.drop_of_length_le (by rw [Qbg]; omega)]; rfl))
          refine go_ ?_
          refine ⟨posR l (Qco (l.drop k)), ⟨Qjh _ _, ?_⟩, HM.out, ?_, ?_⟩
          · rw [Qhd HU.out, ← HE.out.1]; exact HI.out
          · repeat (first | exact Jt _ | refine Js (by simp [PF.get]; rfl) (by first | rfl | (simp [HX.out]; done) | fail) ?_)
          · exact dR
      | false =>
        rw [h1] at H1
        have HF := Hh h1
        clear h1
        cases h2 : (sgn l k == 123 && sgn l (k + 1) == 45) with
        | true =>
          rw [h2] at H2
          have HE := Hh (skip_nest h h2)
          have H3 := Hh (mclosed_p s o hsz (by omega))
          have hcl : Qlp s o = if (Qau 0 (l.drop k)).2 = true then offN l (posR l (Qau 0 (l.drop k)).1) else -1 := by
            unfold Qlp
            rw [hdr, closed_sg hS h h2]
            have hsuf : (Qau 0 (l.drop k)).1 <:+ l := (Qfv _ _).trans (List.drop_suffix _ _)
            split
            · rename_i h3
              split at h3
              · cases h3
              · rename_i h4; rw [if_neg h4]
            · rename_i x h3
              split at h3
              · rename_i h4
                rw [if_pos h4, hS.pos hsuf, ← Option.some.inj h3]
              · cases h3
          rw [hcl] at H3
          have hms : l.length - posR l (Qau 0 (l.drop k)).1 < l.length - k := by
            have h4 := HE.out.2
            unfold posR
            rw [List.length_drop] at h4
            omega
          have HM := Hh hms
          have HU := Hh (show (Qau 0 (l.drop k)).1 <:+ l from (Qfv _ _).trans (List.drop_suffix _ _))
          have HNN := Hh (show ¬ offN l (posR l (Qau 0 (l.drop k)).1) < 0 by have := Qej l (posR l (Qau 0 (l.drop k)).1); omega)
          clear h2 hcl hms hdr ho hb'
          have hkk := Hh h
          clear h
          cases h3 : (Qau 0 (l.drop k)).2 with
          | true =>
            have HT := Hh h3
            rw [h3, if_pos rfl] at H3
            have hnn := HNN.out
            clear h3
            refine go_ ?_
            refine Qab (H1.out) ?_
            refine Qab (H2.out) ?_
            refine Qab (H3.out) ?_
            refine ⟨posR l (Qau 0 (l.drop k)).1, ⟨Qjh _ _, ?_⟩, HM.out, ?_, ?_⟩
            · rw [Qhd HU.out, ← HI.out, HE.out.1, if_pos HT.out]
            · exact sU
            · exact dR
          | false =>
            have HT := Hh h3
            rw [h3, if_neg (by simp)] at H3
            clear h3
            refine go_ ?_
            refine Qab (H1.out) ?_
            refine Qab (H2.out) ?_
            refine Qab (H3.out) ?_
            refine rT Tryz.results177 ?_
            refine ⟨?_, rfl⟩
            rw [← HI.out, HE.out.1, if_neg (by rw [HT.out]; simp), Qib (Nat.le_of_lt hkk.out), HO.out]
            rfl
        | false =>
          rw [h2] at H2
          have HE := Hh (skip_else h hb' HF.out h2)
          clear h2 hdr ho hb'
          have hkk := Hh h
          clear h
          refine go_ ?_
          refine Qab (H1.out) ?_
          refine Qab (H2.out) ?_
          refine rT Tryz.results177 ?_
          refine ⟨?_, rfl⟩
          rw [← HI.out, HE.out, Qib (Nat.le_of_lt hkk.out), HO.out]
          rfl
  · obtain rfl : k = l.length := by omega
    have he := hS.end
    have hc : ¬ (s.size : Int) < (s.size : Int) := by omega
    have HE := Hh (show Qaf (l.drop l.length) = ([], true) by rw [List.drop_length, Qaf])
    have HO := Hh he
    simp only [he]
    clear he
    refine go_ ?_
    refine rT Tryz.results177 ?_
    refine ⟨?_, rfl⟩
    rw [← HI.out, HE.out]
    show _ = PV.tup [.d (.v (.int .i64 (offN l (l.length - 0)))), _]
    rw [Nat.sub_zero, HO.out]
    rfl
theorem Sg.nextWd {s : ByteArray} {l : List Int} (h : Sg s l) {k : Nat} (hk : k < l.length) : Qcy s (offN l k) = Qbi l[k] := by
 unfold Qcy
 rw [h.dec hk]
theorem mword_p {s : ByteArray} {l : List Int} (hS : Sg s l) (i : Nat) (hi : i ≤ l.length) : PCalls Tryz.prog 230 [.d (.v (.string s)), .d (.v (.int .i64 (offN l i)))] [] fun p st => p = .d (.v (.int .i64 (offN l (i + ((l.drop i).takeWhile Qag).length)))) ∧ st = [] := by
  have HS := Hh hS
  have hsz := hS.size
  have HI0 : TwI l Qag i i := TwI.start hi
  clear hS hi
  refine pG Tryz.func230 Tryz.ntmps230 ?_
  refine Qai (ι := Nat) (fun j => TwI l Qag i j) (fun j => [(0, .d (.v (.string s))), (1, .d (.v (.int .i64 (offN l j))))]) (fun _ => []) (fun j => l.length - j) i HI0 ?_ ?_ ?_
  · exact sU
  · exact dR
  intro j hJ
  have HJ := Hh hJ
  obtain ⟨hij, hj, -⟩ := hJ
  clear HI0
  have H1 := Hh (msign_p s (offN l j))
  rw [HS.out.sgB hj] at H1
  have H2 := Hh (minner_p (sgn l j))
  have H3 := Hh (mnext_p s (offN l j))
  by_cases h : j < l.length
  · have hc := HS.out.lt h
    have hnx := HS.out.next h
    rw [HS.out.nextWd h] at H3
    have hle := HS.out.le (j + 1)
    have hnn := Qej l (j + 1)
    have HN := Hh (show offN l (j + 1) = IntKind.i64.wrap (offN l j + Qbi l[j]) by rw [← hnx, wrM (by omega) (by omega)])
    have hs := Hh (Qfj h)
    have hjl := Hh h
    clear hnx hle hnn
    generalize Qbi l[j] = wd at *
    cases hb : Qag (sgn l j) with
    | true =>
      have HT := Hh (HJ.out.next h (by rw [← hs.out]; exact hb))
      rw [hb] at H2
      clear hb hs h
      refine go_ ?_
      refine Qad (H1.out) ?_
      refine Qad (H2.out) ?_
      refine Qab (H3.out) ?_
      refine ⟨j + 1, HT.out, by have := hjl.out; omega, ?_, ?_⟩
      · repeat (first | exact Jt _ | refine Js (by simp [PF.get]; rfl) (by first | rfl | (simp [HN.out]; done) | fail) ?_)
      · exact dR
    | false =>
      have HT := Hh (HJ.out.fin (tw_stop h (by rw [← hs.out]; exact hb)))
      rw [hb] at H2
      clear hb hs h
      refine go_ ?_
      refine Qad (H1.out) ?_
      refine Qad (H2.out) ?_
      refine rT Tryz.results230 ?_
      exact ⟨by rw [← HT.out.2]; rfl, rfl⟩
  · obtain rfl : j = l.length := by omega
    have he := HS.out.end
    have hc : ¬ (s.size : Int) < (s.size : Int) := by omega
    have HT := Hh (HJ.out.fin (by rw [List.drop_of_length_le (Nat.le_refl _)]; rfl))
    have HE := Hh he
    clear H1 H3
    simp only [he]
    clear he
    refine go_ ?_
    refine rT Tryz.results230 ?_
    exact ⟨by rw [← HT.out.2, HE.out]; rfl, rfl⟩
theorem digit_byte {l : List Int} {k : Nat} (hk : k < l.length) {c : UInt8} (h1 : l[k] < 128 → (c.toNat : Int) = l[k]) (h2 : 128 ≤ l[k] → 128 ≤ c.toNat) : Qar l[k] = (decide ((48 : Int) ≤ c.toNat) && decide ((c.toNat : Int) ≤ 57)) := by
 unfold Qar
 rw [Bool.eq_iff_iff]
 simp only [decide_eq_true_eq, Bool.and_eq_true]
 rcases (show l[k] < 128 ∨ 128 ≤ l[k] by omega) with h | h
 ·rw [← h1 h]
 ·have := h2 h; omega
def nxT (l : List Int) (i : Nat) : Tk × Int := if (Qaj (l.drop i)).2.2.2 then (tkAt (l.drop i) (offN l i), offN l (i + (Qaj (l.drop i)).2.2.1)) else (⟨0, ⟨#[]⟩, offN l i⟩, -1)
def nxP (x : Tk × Int) : PV := .tup [aggD x.1, .d (.v (.int .i64 x.2))]
def marksA : ByteArray := ⟨#[40, 41, 123, 125, 58, 61, 46, 44, 59, 124, 92]⟩
theorem Qjs : PCalls Tryz.prog 233 [] [] fun p s => p = .d (.v (.string marksA)) ∧ s = [] := mmarks_p
theorem marks_get : ∀ j (h : j < 11), mk1B ((marksA[j]'h).toNat : Int) = true := by decide +kernel
theorem marks_all {n : Int} (h : mk1B n = true) : ∃ j, ∃ (h : j < 11), ((marksA[j]'h).toNat : Int) = n := by
 unfold mk1B at h
 rcases of_decide_eq_true h with h | h | h | h | h | h | h | h | h | h | h
 all_goals subst h
 ·exact ⟨0, by decide, by decide +kernel⟩
 ·exact ⟨1, by decide, by decide +kernel⟩
 ·exact ⟨2, by decide, by decide +kernel⟩
 ·exact ⟨3, by decide, by decide +kernel⟩
 ·exact ⟨4, by decide, by decide +kernel⟩
 ·exact ⟨5, by decide, by decide +kernel⟩
 ·exact ⟨6, by decide, by decide +kernel⟩
 ·exact ⟨7, by decide, by decide +kernel⟩
 ·exact ⟨8, by decide, by decide +kernel⟩
 ·exact ⟨9, by decide, by decide +kernel⟩
 ·exact ⟨10, by decide, by decide +kernel⟩
theorem mk1_low {n : Int} (h : mk1B n = true) : n < 128 ∧ 0 ≤ n := by
 unfold mk1B at h
 have := of_decide_eq_true h
 omega
theorem tw_take {l : List Int} {b : Int → Bool} {i : Nat} : (l.take (i + ((l.drop i).takeWhile b).length)).drop i = (l.drop i).takeWhile b := by
 rw [List.drop_take, Nat.add_sub_cancel_left]
 exact (List.prefix_iff_eq_take.1 (List.takeWhile_prefix b)).symm
theorem join_one {n : Int} (h : n < 128) (h0 : 0 ≤ n) : Qay [n] = strOfNums [n] := by
 have hr : right n = true := (Qfw n).2 (by omega)
 have e : Qcg [n] = [n] := by
  show encL n ++ [] = [n]
  rw [encL1 n h]; rfl
 unfold Qay Qfe
 rw [e]
 rw [if_pos (by rw [if_pos (by simp [hr]), if_neg (by simp)])]
theorem mnext3_p {s : ByteArray} {l : List Int} (hS : Sg s l) (i : Nat) (hi : i < l.length) : PCalls Tryz.prog 178 [.d (.v (.string s)), .d (.v (.int .i64 (offN l i)))] [] fun p st => p = nxP (nxT l i) ∧ st = [] := by
  have HS := Hh hS
  have hsz := hS.size
  have HX := Hh (show nxT l i = if (Qaj (l.drop i)).2.2.2 then (tkAt (l.drop i) (offN l i), offN l (i + (Qaj (l.drop i)).2.2.1)) else (⟨0, ⟨#[]⟩, offN l i⟩, -1) from rfl)
  have H0 := Hh (msign_p s (offN l i))
  rw [hS.sgB (Nat.le_of_lt hi)] at H0
  have HW := Hh (mword_p hS i (Nat.le_of_lt hi))
  have hlt := hS.lt hi
  have hsg := Hh (Qfj hi)
  have HB := Hh (hS.byte hi)
  have HWD := Hh (hS.next hi)
  have HIL := Hh hi
  have HCUT := Hh (fun (j : Nat) (h1 : i ≤ j) (h2 : j ≤ l.length) => hS.cut h1 h2)
  have hdr := hS.drop i
  obtain ⟨o, ho⟩ := Int.eq_ofNat_of_zero_le (Qej l i)
  rw [ho] at hlt
  rw [ho, Int.toNat_natCast] at hdr
  have HD := Hh hdr
  have HO := Hh ho
  have hn0 : (0 : Int) ≤ (o : Int) := by omega
  obtain ⟨li, hli⟩ : ∃ li, li = l[i]'hi := ⟨_, rfl⟩
  rw [← hli] at hsg HB HWD
  have HLI := Hh (show ∃ h : i < l.length, l[i]'h = li from ⟨hi, hli.symm⟩)
  clear hS hi hdr hli
  generalize nxT l i = R at *
  rw [ho] at H0 HW ⊢
  rw [ho] at HWD HX
  clear ho
  refine pG Tryz.func178 Tryz.ntmps178 ?_
  refine Je ?_
  intro b0 hb0
  try simp only [Ja, Rh, Rg, Jb] at hb0
  refine go_ ?_
  refine Qab (H0.out) ?_
  refine Jc (rletter_p (sgn l i)) ?_
  cases h1 : Qbn (sgn l i) with
  | true =>
    have HA := Hh (show Qaj (l.drop i) = (if kwB (Qay ((l.drop i).takeWhile Qag)) then (2, Qay ((l.drop i).takeWhile Qag), ((l.drop i).takeWhile Qag).length, true) else (1, Qay ((l.drop i).takeWhile Qag), ((l.drop i).takeWhile Qag).length, (Qay ((l.drop i).takeWhile Qag)).toList == [95] || Qam (Qay ((l.drop i).takeWhile Qag)))) by
      unfold Qaj
      rw [Qcj, Nat.add_zero, if_pos (by rw [h1]; rfl)])
    have htl := tw_len (b := Qag) (Nat.le_of_lt HIL.out)
    have HC := HCUT.out (i + ((l.drop i).takeWhile Qag).length) (Nat.le_add_right _ _) htl
    rw [tw_take] at HC
    have hle := HS.out.le (i + ((l.drop i).takeWhile Qag).length)
    obtain ⟨o2, ho2⟩ := Int.eq_ofNat_of_zero_le (Qej l (i + ((l.drop i).takeWhile Qag).length))
    have HLE : o ≤ o2 := by
      have h1 := Qdr (l := l) i
      have h2 := Qdr (l := l) (i + ((l.drop i).takeWhile Qag).length)
      have h3 := Qga (l.take (i + ((l.drop i).takeWhile Qag).length)) i
      rw [List.take_take, Nat.min_eq_left (Nat.le_add_right _ _)] at h3
      rw [h3, List.length_append] at h2
      have := HO.out
      omega
    rw [ho2] at hle HW
    rw [HO.out, ho2, Int.toNat_natCast, Int.toNat_natCast] at HC
    have HO2 := Hh ho2
    clear ho2 htl
    generalize Qay ((l.drop i).takeWhile Qag) = t at *
    generalize ((l.drop i).takeWhile Qag).length = m at *
    refine go_ ?_
    refine Qab (HW.out) ?_
    refine Qer o o2 ?_ (by decide) eD rfl eQ (by first | rfl | (simp [Qey, PF.eval, PF.get, cPV, Qcd, *]; done) | fail) (by first | rfl | (simp [Qdt, PF.eval, PF.get, cPV, Qcd, *]; done) | fail) (by first | omega | (simp; done) | (simp; omega)) (by first | omega | (simp; done) | (simp; omega))
    simp only [HC]
    refine go_ ?_
    refine Jc (rkeyword_p t) ?_
    cases hk : kwB t with
    | true =>
      have HE := Hh (show R = (⟨2, t, o⟩, (o2 : Int)) by rw [HX.out, HA.out, hk]; simp only [if_true, tkAt, HA.out, hk, HO2.out])
      clear hk
      refine go_ ?_
      refine Qaa ?_
      refine rT Tryz.results178 ?_
      exact ⟨by rw [HE.out]; simp [nxP, tupP, PV.norm2, PV.norm1, PV.norm0, aggD, Qaz] <;> rfl, rfl⟩
    | false =>
      have HB2 := Hh (show Qaj (l.drop i) = (1, t, m, t.toList == [95] || Qam t) by rw [HA.out, hk]; rfl)
      clear hk
      cases h9 : (t.toList == [95]) with
      | true =>
        have HE := Hh (show R = (⟨1, t, o⟩, (o2 : Int)) by rw [HX.out, HB2.out, h9]; simp only [Bool.true_or, if_true, tkAt, HB2.out, HO2.out])
        refine go_ ?_
        refine Qaa ?_
        refine rT Tryz.results178 ?_
        exact ⟨by rw [HE.out]; simp [nxP, tupP, PV.norm2, PV.norm1, PV.norm0, aggD, Qaz] <;> rfl, rfl⟩
      | false =>
        have hr := Qjv t
        cases h8 : Qam t with
        | true =>
          have HE := Hh (show R = (⟨1, t, o⟩, (o2 : Int)) by rw [HX.out, HB2.out, h9, h8]; simp only [Bool.false_or, if_true, tkAt, HB2.out, HO2.out])
          rw [h8] at hr
          clear h8
          refine go_ ?_
          refine Qad (hr) ?_
          refine Qaa ?_
          refine rT Tryz.results178 ?_
          exact ⟨by rw [HE.out]; simp [nxP, tupP, PV.norm2, PV.norm1, PV.norm0, aggD, Qaz] <;> rfl, rfl⟩
        | false =>
          have HE := Hh (show R = (⟨0, ⟨#[]⟩, o⟩, -1) by rw [HX.out, HB2.out, h9, h8]; simp)
          rw [h8] at hr
          clear h8
          refine go_ ?_
          refine Qad (hr) ?_
          refine Qaa ?_
          refine rT Tryz.results178 ?_
          exact ⟨by rw [HE.out]; simp [nxP, tupP, PV.norm2, PV.norm1, PV.norm0, aggD, Qaz] <;> rfl, rfl⟩
  | false =>
    by_cases h95 : sgn l i = 95
    · have h95b : (sgn l i == 95) = true := beq_iff_eq.2 h95
      have HA := Hh (show Qaj (l.drop i) = (if kwB (Qay ((l.drop i).takeWhile Qag)) then (2, Qay ((l.drop i).takeWhile Qag), ((l.drop i).takeWhile Qag).length, true) else (1, Qay ((l.drop i).takeWhile Qag), ((l.drop i).takeWhile Qag).length, (Qay ((l.drop i).takeWhile Qag)).toList == [95] || Qam (Qay ((l.drop i).takeWhile Qag)))) by
        unfold Qaj
        rw [Qcj, Nat.add_zero, if_pos (by rw [h95]; simp)])
      have htl := tw_len (b := Qag) (Nat.le_of_lt HIL.out)
      have HC := HCUT.out (i + ((l.drop i).takeWhile Qag).length) (Nat.le_add_right _ _) htl
      rw [tw_take] at HC
      have hle := HS.out.le (i + ((l.drop i).takeWhile Qag).length)
      obtain ⟨o2, ho2⟩ := Int.eq_ofNat_of_zero_le (Qej l (i + ((l.drop i).takeWhile Qag).length))
      have HLE : o ≤ o2 := by
        have h1 := Qdr (l := l) i
        have h2 := Qdr (l := l) (i + ((l.drop i).takeWhile Qag).length)
        have h3 := Qga (l.take (i + ((l.drop i).takeWhile Qag).length)) i
        rw [List.take_take, Nat.min_eq_left (Nat.le_add_right _ _)] at h3
        rw [h3, List.length_append] at h2
        have := HO.out
        omega
      rw [ho2] at hle HW
      rw [HO.out, ho2, Int.toNat_natCast, Int.toNat_natCast] at HC
      have HO2 := Hh ho2
      clear ho2 htl
      generalize Qay ((l.drop i).takeWhile Qag) = t at *
      generalize ((l.drop i).takeWhile Qag).length = m at *
      refine go_ ?_
      refine Qab (HW.out) ?_
      refine Qer o o2 ?_ (by decide) eD rfl eQ (by first | rfl | (simp [Qey, PF.eval, PF.get, cPV, Qcd, *]; done) | fail) (by first | rfl | (simp [Qdt, PF.eval, PF.get, cPV, Qcd, *]; done) | fail) (by first | omega | (simp; done) | (simp; omega)) (by first | omega | (simp; done) | (simp; omega))
      simp only [HC]
      refine go_ ?_
      refine Jc (rkeyword_p t) ?_
      cases hk : kwB t with
      | true =>
        have HE := Hh (show R = (⟨2, t, o⟩, (o2 : Int)) by rw [HX.out, HA.out, hk]; simp only [if_true, tkAt, HA.out, hk, HO2.out])
        clear hk
        refine go_ ?_
        refine Qaa ?_
        refine rT Tryz.results178 ?_
        exact ⟨by rw [HE.out]; simp [nxP, tupP, PV.norm2, PV.norm1, PV.norm0, aggD, Qaz] <;> rfl, rfl⟩
      | false =>
        have HB2 := Hh (show Qaj (l.drop i) = (1, t, m, t.toList == [95] || Qam t) by rw [HA.out, hk]; rfl)
        clear hk
        cases h9 : (t.toList == [95]) with
        | true =>
          have HE := Hh (show R = (⟨1, t, o⟩, (o2 : Int)) by rw [HX.out, HB2.out, h9]; simp only [Bool.true_or, if_true, tkAt, HB2.out, HO2.out])
          refine go_ ?_
          refine Qaa ?_
          refine rT Tryz.results178 ?_
          exact ⟨by rw [HE.out]; simp [nxP, tupP, PV.norm2, PV.norm1, PV.norm0, aggD, Qaz] <;> rfl, rfl⟩
        | false =>
          have hr := Qjv t
          cases h8 : Qam t with
          | true =>
            have HE := Hh (show R = (⟨1, t, o⟩, (o2 : Int)) by rw [HX.out, HB2.out, h9, h8]; simp only [Bool.false_or, if_true, tkAt, HB2.out, HO2.out])
            rw [h8] at hr
            clear h8
            refine go_ ?_
            refine Qad (hr) ?_
            refine Qaa ?_
            refine rT Tryz.results178 ?_
            exact ⟨by rw [HE.out]; simp [nxP, tupP, PV.norm2, PV.norm1, PV.norm0, aggD, Qaz] <;> rfl, rfl⟩
          | false =>
            have HE := Hh (show R = (⟨0, ⟨#[]⟩, o⟩, -1) by rw [HX.out, HB2.out, h9, h8]; simp)
            rw [h8] at hr
            clear h8
            refine go_ ?_
            refine Qad (hr) ?_
            refine Qaa ?_
            refine rT Tryz.results178 ?_
            exact ⟨by rw [HE.out]; simp [nxP, tupP, PV.norm2, PV.norm1, PV.norm0, aggD, Qaz] <;> rfl, rfl⟩
    have h95b : (sgn l i == 95) = false := beq_false_of_ne h95
    have HL := Hh (show ¬ (Qbn (sgn l i) || sgn l i == 95) = true by rw [h1, h95b]; simp)
    clear h1 h95 HW
    refine go_ ?_
    refine Jc (rdigit_p (sgn l i)) ?_
    cases h2 : Qar (sgn l i) with
    | true =>
      have HA := Hh (show Qaj (l.drop i) = (3, Qay ((l.drop i).takeWhile Qar), ((l.drop i).takeWhile Qar).length, Qdn (Qay ((l.drop i).takeWhile Qar)) && !Qag (sgn l (i + ((l.drop i).takeWhile Qar).length))) by
        unfold Qaj
        rw [Qcj, Qcj, Nat.add_zero, if_neg HL.out, if_pos h2])
      have htl := tw_len (b := Qar) (Nat.le_of_lt HIL.out)
      have HC := HCUT.out (i + ((l.drop i).takeWhile Qar).length) (Nat.le_add_right _ _) htl
      rw [tw_take] at HC
      have HTL := Hh htl
      have hle := HS.out.le (i + ((l.drop i).takeWhile Qar).length)
      obtain ⟨o2, ho2⟩ := Int.eq_ofNat_of_zero_le (Qej l (i + ((l.drop i).takeWhile Qar).length))
      have HLE : o ≤ o2 := by
        have h1 := Qdr (l := l) i
        have h2 := Qdr (l := l) (i + ((l.drop i).takeWhile Qar).length)
        have h3 := Qga (l.take (i + ((l.drop i).takeWhile Qar).length)) i
        rw [List.take_take, Nat.min_eq_left (Nat.le_add_right _ _)] at h3
        rw [h3, List.length_append] at h2
        have := HO.out
        omega
      rw [ho2] at hle
      rw [HO.out, ho2, Int.toNat_natCast, Int.toNat_natCast] at HC
      have HO2 := Hh ho2
      have H3 := Hh (msign_p s (offN l (i + ((l.drop i).takeWhile Qar).length)))
      rw [HS.out.sgB htl, ho2] at H3
      clear ho2 htl h2
      refine go_ ?_
      refine Qai (ι := Nat) (fun j => TwI l Qar i j) (fun j => [(0, .d (.v (.string s))), (1, .d (.v (.int .i64 o))), (4, .ptr b0 0), (9, .d (.v (.int .i64 (offN l j))))]) (fun _ => [.box b0 173 [.d (.v (.int .i64 0)), .d (.v (.string ⟨#[]⟩)), .d (.v (.int .i64 0))]]) (fun j => l.length - j) i (TwI.start (Nat.le_of_lt HIL.out)) ?_ ?_ ?_
      · repeat (first | exact Jt _ | refine Js (by simp [PF.get]; rfl) (by first | rfl | (simp [HO.out]; done) | fail) ?_)
      · exact dR
      intro j hJ
      have HJ := Hh hJ
      obtain ⟨hij, hj, -⟩ := hJ
      have main : (l.drop j).takeWhile Qar = [] → Hid (offN l j = (o2 : Int)) := fun h => by
        rw [(HJ.out.fin h).2]; exact HO2.out
      by_cases h : j < l.length
      · obtain ⟨c, hc1, hc2, hc3⟩ := HS.out.byte h
        have hdb := digit_byte h hc2 hc3
        have hc := HS.out.lt h
        have hn3 := Qej l j
        have hle2 := HS.out.le (j + 1)
        cases hb : Qar l[j] with
        | true =>
          have HT := Hh (HJ.out.next h hb)
          rw [hb] at hdb
          have hdb2 := hdb.symm
          simp only [Bool.and_eq_true, decide_eq_true_eq] at hdb2
          obtain ⟨k1, k2⟩ := hdb2
          have hlow : l[j] < 128 := by
            have := of_decide_eq_true hb
            omega
          have hnx := HS.out.next h
          rw [Qns hlow] at hnx
          have HN := Hh (show offN l (j + 1) = IntKind.i64.wrap (offN l j + 1) by rw [hnx, wrM (by omega) (by omega)])
          have hjl := Hh h
          obtain ⟨p, hp⟩ := Int.eq_ofNat_of_zero_le hn3
          rw [hp] at hc hc1 HN
          rw [Int.toNat_natCast] at hc1
          have hn4 : (0 : Int) ≤ (p : Int) := by omega
          simp only [hp]
          clear hnx hlow hdb hb hc2 hc3 hle2 h main hp hn3
          refine go_ ?_
          refine ⟨j + 1, HT.out, by have := hjl.out; omega, ?_, ?_⟩
          · repeat (first | exact Jt _ | refine Js (by simp [PF.get]; rfl) (by first | rfl | (simp [HN.out]; done) | fail) ?_)
          · exact dR
        | false =>
          have HM := main (tw_stop h hb)
          rw [hb] at hdb
          have hfin := hdb.symm
          rw [HM.out] at hc hc1
          rw [Int.toNat_natCast] at hc1
          have hn4 : (0 : Int) ≤ (o2 : Int) := by omega
          have HQ := Hh hfin
          clear hdb hb hc2 hc3 hle2 h main hfin hn3
          simp only [HM.out]
          have tail : True := trivial
          rcases (show (¬ (48 : Int) ≤ c.toNat) ∨ ((48 : Int) ≤ c.toNat ∧ ¬ (c.toNat : Int) ≤ 57) by
            have := HQ.out
            simp only [Bool.and_eq_false_iff, decide_eq_false_iff_not] at this
            omega) with k1 | ⟨k1, k2⟩
          all_goals clear HQ tail
          all_goals
            generalize Qay ((l.drop i).takeWhile Qar) = t at *
            generalize ((l.drop i).takeWhile Qar).length = m at *
            refine go_ ?_
            refine Qer o o2 ?_ (by decide) eD rfl eQ (by first | rfl | (simp [Qey, PF.eval, PF.get, cPV, Qcd, *]; done) | fail) (by first | rfl | (simp [Qdt, PF.eval, PF.get, cPV, Qcd, *]; done) | fail) (by first | omega | (simp; done) | (simp; omega)) (by first | omega | (simp; done) | (simp; omega))
            simp only [HC]
            refine go_ ?_
            refine Jc (Qnn t) ?_
            generalize numT t = nt at *
            cases h3 : Qdn t with
            | true =>
              have HK := Hh (show Qaj (l.drop i) = (3, t, m, !Qag (sgn l (i + m))) by rw [HA.out, h3]; rfl)
              have hin := minner_p (sgn l (i + m))
              clear h3
              cases h4 : Qag (sgn l (i + m)) with
              | true =>
                have HE := Hh (show R = (⟨0, ⟨#[]⟩, o⟩, -1) by rw [HX.out, HK.out, h4]; simp)
                rw [h4] at hin
                clear h4
                refine go_ ?_
                refine Qad (H3.out) ?_
                refine Qad (hin) ?_
                refine Qaa ?_
                refine rT Tryz.results178 ?_
                exact ⟨by rw [HE.out]; simp [nxP, tupP, PV.norm2, PV.norm1, PV.norm0, aggD, Qaz] <;> rfl, rfl⟩
              | false =>
                have HE := Hh (show R = (⟨3, t, o⟩, (o2 : Int)) by rw [HX.out, HK.out, h4]; simp only [Bool.not_false, if_true, tkAt, HK.out, HO2.out])
                rw [h4] at hin
                clear h4
                refine go_ ?_
                refine Qad (H3.out) ?_
                refine Qad (hin) ?_
                refine Qer o o2 ?_ (by decide) eD rfl eQ (by first | rfl | (simp [Qey, PF.eval, PF.get, cPV, Qcd, *]; done) | fail) (by first | rfl | (simp [Qdt, PF.eval, PF.get, cPV, Qcd, *]; done) | fail) (by first | omega | (simp; done) | (simp; omega)) (by first | omega | (simp; done) | (simp; omega))
                simp only [HC]
                refine go_ ?_
                refine Qaa ?_
                refine rT Tryz.results178 ?_
                exact ⟨by rw [HE.out]; simp [nxP, tupP, PV.norm2, PV.norm1, PV.norm0, aggD, Qaz] <;> rfl, rfl⟩
            | false =>
              have HE := Hh (show R = (⟨0, ⟨#[]⟩, o⟩, -1) by rw [HX.out, HA.out, h3]; simp)
              clear h3
              refine go_ ?_
              refine Qaa ?_
              refine rT Tryz.results178 ?_
              exact ⟨by rw [HE.out]; simp [nxP, tupP, PV.norm2, PV.norm1, PV.norm0, aggD, Qaz] <;> rfl, rfl⟩
      · have HM := main (by rw [List.drop_of_length_le (by omega)]; rfl)
        obtain rfl : j = l.length := by omega
        have he := HS.out.end
        rw [HM.out] at he
        have hc : ¬ (o2 : Int) < (s.size : Int) := by omega
        clear h main he
        simp only [HM.out]
        generalize Qay ((l.drop i).takeWhile Qar) = t at *
        generalize ((l.drop i).takeWhile Qar).length = m at *
        refine go_ ?_
        refine Qer o o2 ?_ (by decide) eD rfl eQ (by first | rfl | (simp [Qey, PF.eval, PF.get, cPV, Qcd, *]; done) | fail) (by first | rfl | (simp [Qdt, PF.eval, PF.get, cPV, Qcd, *]; done) | fail) (by first | omega | (simp; done) | (simp; omega)) (by first | omega | (simp; done) | (simp; omega))
        simp only [HC]
        refine go_ ?_
        refine Jc (Qnn t) ?_
        generalize numT t = nt at *
        cases h3 : Qdn t with
        | true =>
          have HK := Hh (show Qaj (l.drop i) = (3, t, m, !Qag (sgn l (i + m))) by rw [HA.out, h3]; rfl)
          have hin := minner_p (sgn l (i + m))
          clear h3
          cases h4 : Qag (sgn l (i + m)) with
          | true =>
            have HE := Hh (show R = (⟨0, ⟨#[]⟩, o⟩, -1) by rw [HX.out, HK.out, h4]; simp)
            rw [h4] at hin
            clear h4
            refine go_ ?_
            refine Qad (H3.out) ?_
            refine Qad (hin) ?_
            refine Qaa ?_
            refine rT Tryz.results178 ?_
            exact ⟨by rw [HE.out]; simp [nxP, tupP, PV.norm2, PV.norm1, PV.norm0, aggD, Qaz] <;> rfl, rfl⟩
          | false =>
            have HE := Hh (show R = (⟨3, t, o⟩, (o2 : Int)) by rw [HX.out, HK.out, h4]; simp only [Bool.not_false, if_true, tkAt, HK.out, HO2.out])
            rw [h4] at hin
            clear h4
            refine go_ ?_
            refine Qad (H3.out) ?_
            refine Qad (hin) ?_
            refine Qer o o2 ?_ (by decide) eD rfl eQ (by first | rfl | (simp [Qey, PF.eval, PF.get, cPV, Qcd, *]; done) | fail) (by first | rfl | (simp [Qdt, PF.eval, PF.get, cPV, Qcd, *]; done) | fail) (by first | omega | (simp; done) | (simp; omega)) (by first | omega | (simp; done) | (simp; omega))
            simp only [HC]
            refine go_ ?_
            refine Qaa ?_
            refine rT Tryz.results178 ?_
            exact ⟨by rw [HE.out]; simp [nxP, tupP, PV.norm2, PV.norm1, PV.norm0, aggD, Qaz] <;> rfl, rfl⟩
        | false =>
          have HE := Hh (show R = (⟨0, ⟨#[]⟩, o⟩, -1) by rw [HX.out, HA.out, h3]; simp)
          clear h3
          refine go_ ?_
          refine Qaa ?_
          refine rT Tryz.results178 ?_
          exact ⟨by rw [HE.out]; simp [nxP, tupP, PV.norm2, PV.norm1, PV.norm0, aggD, Qaz] <;> rfl, rfl⟩
    | false =>
      have HA := Hh (show Qaj (l.drop i) = (4, (Qci (sgn l i) (sgn l (i + 1))).1, (Qci (sgn l i) (sgn l (i + 1))).2, decide (0 < (Qci (sgn l i) (sgn l (i + 1))).2)) by
        unfold Qaj
        rw [Qcj, Nat.add_zero, if_neg HL.out, if_neg (by rw [h2]; simp), Qcj])
      clear h2 h95b HL
      by_cases e1 : sgn l i = 955
      · have HE := Hh (show R = (⟨4, ⟨#[92]⟩, o⟩, IntKind.i64.wrap ((o : Int) + 2)) by
          have hm : Qci (sgn l i) (sgn l (i + 1)) = (⟨#[92]⟩, 1) := by
            rw [e1]; unfold Qci; rw [if_neg (by decide), if_pos rfl]
          rw [HX.out, HA.out, hm]
          simp only [decide_true, if_true, tkAt, HA.out, hm, Nat.lt_one_iff, Nat.zero_lt_one]
          rw [HWD.out, ← hsg.out, e1, show Qbi 955 = 2 from rfl, wrM (by omega) (by omega)])
        refine go_ ?_
        refine Qaa ?_
        refine rT Tryz.results178 ?_
        exact ⟨by rw [HE.out]; simp [nxP, tupP, PV.norm2, PV.norm1, PV.norm0, aggD, Qaz] <;> rfl, rfl⟩
      by_cases e2 : sgn l i = 8594
      · have HE := Hh (show R = (⟨4, ⟨#[45, 62]⟩, o⟩, IntKind.i64.wrap ((o : Int) + 3)) by
          have hm : Qci (sgn l i) (sgn l (i + 1)) = (⟨#[45, 62]⟩, 1) := by
            rw [e2]; unfold Qci; rw [if_neg (by decide), if_neg (by decide), if_pos rfl]
          rw [HX.out, HA.out, hm]
          simp only [decide_true, if_true, tkAt, HA.out, hm, Nat.lt_one_iff, Nat.zero_lt_one]
          rw [HWD.out, ← hsg.out, e2, show Qbi 8594 = 3 from rfl, wrM (by omega) (by omega)])
        refine go_ ?_
        refine Qaa ?_
        refine rT Tryz.results178 ?_
        exact ⟨by rw [HE.out]; simp [nxP, tupP, PV.norm2, PV.norm1, PV.norm0, aggD, Qaz] <;> rfl, rfl⟩
      have H5 := Hh (Qjr s ⟨#[45, 62]⟩ o (by omega) (by decide) (by omega))
      rw [begB_2, HD.out, Qna (by decide) (by decide) (Qkn HS.out.rt i), Qcj, Qcj, Nat.add_zero, show ((45 : UInt8).toNat : Int) = 45 from rfl, show ((62 : UInt8).toNat : Int) = 62 from rfl] at H5
      cases h5 : (sgn l i == 45 && sgn l (i + 1) == 62) with
      | true =>
        rw [h5] at H5
        simp only [Bool.and_eq_true, beq_iff_eq] at h5
        have HE := Hh (show R = (⟨4, ⟨#[45, 62]⟩, o⟩, IntKind.i64.wrap ((o : Int) + 2)) by
          have hm : Qci (sgn l i) (sgn l (i + 1)) = (⟨#[45, 62]⟩, 2) := by
            rw [h5.1, h5.2]; unfold Qci; rw [if_neg (by decide), if_neg (by decide), if_neg (by decide), if_pos ⟨rfl, rfl⟩]
          rw [HX.out, HA.out, hm]
          simp only [decide_true, if_true, tkAt, HA.out, hm, Nat.zero_lt_succ]
          have hi2 : i + 1 < l.length := by
            apply Nat.lt_of_not_le
            intro hle
            have := h5.2
            rw [sgn_ge hle] at this
            exact absurd this (by decide)
          have hw2 := HS.out.next hi2
          rw [← Qfj hi2, h5.2, show Qbi 62 = 1 from rfl, HWD.out, ← hsg.out, h5.1, show Qbi 45 = 1 from rfl] at hw2
          have hle := HS.out.le (i + 1 + 1)
          rw [show i + 2 = i + 1 + 1 from rfl, hw2, wrM (by omega) (by omega)]
          all_goals (congr 1))
        clear h5
        refine go_ ?_
        refine Qab (H5.out) ?_
        refine Qaa ?_
        refine rT Tryz.results178 ?_
        exact ⟨by rw [HE.out]; simp [nxP, tupP, PV.norm2, PV.norm1, PV.norm0, aggD, Qaz] <;> rfl, rfl⟩
      | false =>
        rw [h5] at H5
        have HK := Hh (show Qci (sgn l i) (sgn l (i + 1)) = if mk1B (sgn l i) then (strOfNums [sgn l i], 1) else (⟨#[]⟩, 0) by
          unfold Qci
          rw [if_neg e1, if_neg e2, if_neg (show ¬ (sgn l i = 45 ∧ sgn l (i + 1) = 62) from by
            rintro ⟨a, b⟩
            rw [a, b] at h5
            simp at h5)])
        clear h5
        obtain ⟨c, hc1, hc2, hc3⟩ := HB.out
        rw [← hsg.out] at hc2 hc3
        rw [HO.out, Int.toNat_natCast] at hc1
        have HC2 := Hh (And.intro hc2 hc3)
        clear hc2 hc3
        generalize sgn l i = n at *
        refine go_ ?_
        refine Qab (H5.out) ?_
        refine Qai (ι := Nat) (fun j => j ≤ 11 ∧ Hid (∀ (q : Nat) (h : q < 11), q < j → ((marksA[q]'h).toNat : Int) ≠ (c.toNat : Int))) (fun j => [(0, .d (.v (.string s))), (1, .d (.v (.int .i64 o))), (4, .ptr b0 0), (12, .d (.v (.int .i64 j)))]) (fun _ => [.box b0 173 [.d (.v (.int .i64 0)), .d (.v (.string ⟨#[]⟩)), .d (.v (.int .i64 0))]]) (fun j => 11 - j) 0 ⟨by omega, fun q h h2 => by omega⟩ ?_ ?_ ?_
        · exact sU
        · exact dR
        rintro j ⟨hj, hJ⟩
        have hsz11 : marksA.size = 11 := rfl
        by_cases h : j < 11
        · have hc : (j : Int) < (marksA.size : Int) := by rw [hsz11]; omega
          have hnj : (0 : Int) ≤ (j : Int) := by omega
          have hx2 : marksA[j]? = some (marksA[j]'h) := getElem?_pos marksA j h
          have HG := Hh (marks_get j h)
          have HJ2 := Hh (fun (hq : ((marksA[j]'h).toNat : Int) ≠ (c.toNat : Int)) (q : Nat) (h2 : q < 11) (h3 : q < j + 1) => (if e : q = j then by subst e; exact hq else hJ.out q h2 (by omega) : ((marksA[q]'h2).toNat : Int) ≠ (c.toNat : Int)))
          have hw1 : IntKind.i64.wrap ((j : Int) + 1) = ((j + 1 : Nat) : Int) := wrM (by omega) (by omega)
          generalize (marksA[j]'h) = b at *
          have hjl := Hh h
          clear h hsz11 hJ
          by_cases e : (b.toNat : Int) = (c.toNat : Int)
          · have hlow : n = (c.toNat : Int) := by
              have h1 := mk1_low HG.out
              rcases (show n < 128 ∨ 128 ≤ n by omega) with h2 | h2
              · exact (HC2.out.1 h2).symm
              · have := HC2.out.2 h2; omega
            have hmk : mk1B n = true := by rw [hlow, ← e]; exact HG.out
            have hl2 := mk1_low hmk
            have HE := Hh (show R = (⟨4, s.extract o (o + 1), o⟩, IntKind.i64.wrap ((o : Int) + 1)) by
              have h1 := HWD.out
              rw [← hsg.out, Qns hl2.1] at h1
              have h2 := HCUT.out (i + 1) (by omega) HIL.out
              rw [h1, HO.out, Int.toNat_natCast, show ((o : Int) + 1).toNat = o + 1 by omega] at h2
              rw [show (l.take (i + 1)).drop i = [n] by
                rw [List.drop_take, Nat.add_sub_cancel_left, List.drop_eq_getElem_cons HIL.out, List.take_succ_cons, List.take_zero, HLI.out.2, hsg.out], join_one hl2.1 hl2.2] at h2
              rw [HX.out, HA.out, HK.out, hmk]
              simp only [if_true, decide_true, tkAt, HA.out, HK.out, hmk, Nat.zero_lt_one]
              rw [h2, h1, wrM (by omega) (by omega)])
            have hw2 : IntKind.i64.wrap ((o : Int) + 1) = ((o + 1 : Nat) : Int) := by rw [show (o : Int) + 1 = ((o + 1 : Nat) : Int) by omega]; exact wrM (by omega) (by omega)
            have hwr := Hh hw2
            have hbc : ((c.toNat : Int) == (b.toNat : Int)) = true := beq_iff_eq.2 e.symm
            clear hmk hlow hl2 e HC2
            refine go_ ?_
            refine Qab (Qjs) ?_
            refine Qal [(0, .a), (1, .a), (2, .a), (3, .a), (4, .a), (5, .a), (6, .a)] (by kernel_rfl) (by rfl) (by kernel_rfl) ?_
            refine go_ ?_
            refine Qac (Qjs) ?_
            refine go_ ?_
            refine Qer o (o + 1) ?_ (by decide) eD rfl eQ (by first | rfl | (simp [Qey, PF.eval, PF.get, cPV, Qcd, *]; done) | fail) (by first | rfl | (simp [Qdt, PF.eval, PF.get, cPV, Qcd, *]; done) | fail) (by first | omega | (simp; done) | (simp; omega)) (by first | omega | (simp; done) | (simp; omega))
            refine go_ ?_
            refine Qaa ?_
            refine rT Tryz.results178 ?_
            exact ⟨by rw [HE.out, hwr.out]; simp [nxP, tupP, PV.norm2, PV.norm1, PV.norm0, aggD, Qaz] <;> rfl, rfl⟩
          · have hbc : ((c.toNat : Int) == (b.toNat : Int)) = false := beq_false_of_ne fun h => e h.symm
            have HJ3 := Hh (HJ2.out e)
            clear e HJ2
            refine go_ ?_
            refine Qab (Qjs) ?_
            refine Qal [(0, .a), (1, .a), (2, .a), (3, .a), (4, .a), (5, .a), (6, .a)] (by kernel_rfl) (by rfl) (by kernel_rfl) ?_
            refine go_ ?_
            refine Qac (Qjs) ?_
            refine go_ ?_
            refine ⟨j + 1, ⟨hjl.out, HJ3.out⟩, by have := hjl.out; omega, ?_, ?_⟩
            · exact sU
            · exact dR
        · have hc : ¬ (j : Int) < (marksA.size : Int) := by rw [hsz11]; omega
          clear hsz11
          have HE := Hh (show R = (⟨0, ⟨#[]⟩, o⟩, -1) by
            have hmk : mk1B n = false := by
              cases hm : mk1B n with
              | false => rfl
              | true =>
                obtain ⟨q, hq, e⟩ := marks_all hm
                have h1 := mk1_low hm
                have := HC2.out.1 h1.1
                exact absurd (e.trans this.symm) (hJ.out q hq (by omega))
            rw [HX.out, HA.out, HK.out, hmk]; simp)
          refine go_ ?_
          refine Qab (Qjs) ?_
          refine Qaa ?_
          refine rT Tryz.results178 ?_
          exact ⟨by rw [HE.out]; simp [nxP, tupP, PV.norm2, PV.norm1, PV.norm0, aggD, Qaz] <;> rfl, rfl⟩
theorem mall_p (s : ByteArray) : PCalls Tryz.prog 176 [.d (.v (.string s))] [] fun p st => p = .tup [.d (.sl ((allS s).map encD)), .d (.v (.int .i64 (Qfd s))), .d (.v (.int .i64 (allE s)))] ∧ st = [] := by
 refine PCalls.data fun K w vs ha => ?_
 rw [(Qgp ha).1]
 refine (rall_any s (Qgp ha).2 w).mono ?_
 rintro e w' ⟨v, rfl, ho, hb⟩
 exact ⟨_, rfl, hb, fun K' hK => tup3 (.d (owns_rel ho hK)) (.d (.v trivial)) (.d (.v trivial))⟩
theorem tkRow_e (l : List Int) (x : Int × ByteArray × Nat) : encD (tkRow l x) = [.v (.int .i64 x.1), .v (.string x.2.1), .v (.int .i64 (offN l (l.length - x.2.2)))] := rfl
theorem mtall_p (s : ByteArray) : PCalls Tryz.prog 114 [.d (.v (.string s))] [] fun p st => p = tokP (tokA s) ∧ st = [] := by
  have HA := Hh (mall_p s)
  by_cases hE : allE s = 0
  rotate_left
  · have HT := Hh (show tokA s = ([], Qfd s, allE s) by unfold tokA; rw [if_pos hE])
    refine pG Tryz.func114 Tryz.ntmps114 ?_
    refine Qab (HA.out) ?_
    refine rT Tryz.results114 ?_
    exact ⟨by rw [HT.out]; rfl, rfl⟩
  have hS := sg_of hE
  have HS := Hh hS
  have HT := Hh (show tokA s = Qiu (allS s) s.size by unfold tokA; rw [if_neg (by rw [hE]; decide)])
  rw [hE] at HA
  generalize allS s = l at *
  have HK := Hh (fun (k : Nat) (h : k ≤ l.length) => mskip_p hS k h)
  have HN := Hh (fun (k : Nat) (h : k < l.length) => mnext3_p hS k h)
  have hk0 := Hh (HK.out 0 (Nat.zero_le _))
  have h00 : offN l 0 = 0 := rfl
  rw [h00, List.drop_zero] at hk0
  have hend := hS.end
  have HEND := Hh hend
  clear hS hE hend
  refine pG Tryz.func114 Tryz.ntmps114 ?_
  refine Qab (HA.out) ?_
  refine Qdi ?_ (by decide) eD (by simp; rfl) (by rfl) (by simp; rfl) (by rfl) (by decide)
  intro g hg
  refine go_ ?_
  refine Qab (hk0.out) ?_
  refine Qai (ι := Nat × List (Int × ByteArray × Nat)) (fun x => Hid (CutI l x.1 x.2)) (fun x => [(0, .d (.v (.string s))), (6, .d (.v (.int .i64 (offN l (posR l (Qaf (l.drop x.1)).1))))), (8, .own g (x.2.map fun y => encD (tkRow l y))), (9, .d (.v (.bool (Qaf (l.drop x.1)).2)))]) (fun x => [.tok g 173 3 x.2.length]) (fun x => l.length - x.1) (0, []) ⟨Nat.zero_le _, Nat.zero_le _, rfl⟩ ?_ ?_ ?_
  · exact sU
  · exact dR
  rintro ⟨i, acc⟩ HI
  have hi := HI.out.1
  have hal := HI.out.2.1
  simp only at hi hal HI ⊢
  clear hk0
  have hsuf : (Qaf (l.drop i)).1 <:+ l := (Qed _).trans (List.drop_suffix _ _)
  have hd := Qhd hsuf
  have hple := Qjh l (Qaf (l.drop i)).1
  have hge : i ≤ posR l (Qaf (l.drop i)).1 := by
    have := (Qed (l.drop i)).length_le
    rw [List.length_drop] at this
    unfold posR; omega
  cases hk : (Qaf (l.drop i)).2 with
  | false =>
    have HE := Hh (HI.out.bad (e := (1, (Qaf (l.drop i)).1.length)) (by rw [cut_a hk]) s.size)
    have HP := Hh (show l.length - (Qaf (l.drop i)).1.length = posR l (Qaf (l.drop i)).1 from rfl)
    clear hk hsuf hd hple hge
    refine go_ ?_
    refine rT Tryz.results114 ?_
    exact ⟨by rw [HT.out, HE.out, HP.out]; rfl, rfl⟩
  | true =>
    by_cases hr : (Qaf (l.drop i)).1 = []
    · have HE := Hh (HI.out.stop (cut_b hk hr) s.size)
      have hpos : posR l (Qaf (l.drop i)).1 = l.length := by rw [hr]; rfl
      have hend := HEND.out
      rw [hpos, hend]
      have hc : ¬ (s.size : Int) < (s.size : Int) := by omega
      clear hk hsuf hd hple hge hpos hr hend
      refine go_ ?_
      refine Qcb ?_
      refine Qap (acc.length + 1) ?_ ?_ ?_ ?_
      · simp
      · exact Qkz fun _ => rfl
      · exact Qbt rfl
      refine go_ ?_
      refine rT Tryz.results114 ?_
      refine ⟨?_, rfl⟩
      rw [HT.out, HE.out]
      simp only [tokP, List.map_append, List.map_map, List.map_cons, List.map_nil]
      rfl
    · have hlt := posR_lt hsuf hr
      have HP := Hh (show l.length - (Qaf (l.drop i)).1.length = posR l (Qaf (l.drop i)).1 from rfl)
      have HD := Hh hd
      have hc := HS.out.lt hlt
      have HN1 := Hh (HN.out _ hlt)
      have HNL := Hh (fun (h : (Qaj (Qaf (l.drop i)).1).2.2.2 = true) => And.intro (Qia h hr) (next_len h))
      have HC := Hh (And.intro (fun h3 => cut_c (c := acc.length) hk hr h3) (And.intro (fun h3 h4 => cut_d (c := acc.length) hk hr h3 h4) (fun h3 h4 => cut_e (c := acc.length) hk hr h3 h4)))
      have HL := Hh (show (Qaf (l.drop i)).1.length = l.length - posR l (Qaf (l.drop i)).1 by
        have := hsuf.length_le
        unfold posR; omega)
      have HB := Hh fun (e : Int) (h : cutR acc.length (l.drop i) = ([], some (e, (Qaf (l.drop i)).1.length))) => HI.out.bad (e := (e, (Qaf (l.drop i)).1.length)) (by rw [h]) s.size
      clear hk hr hsuf hd
      have HX := Hh (show nxT l (posR l (Qaf (l.drop i)).1) = _ from rfl)
      simp only [nxT, HD.out] at HX
      generalize posR l (Qaf (l.drop i)).1 = j at *
      generalize (Qaf (l.drop i)).1 = r at *
      by_cases hbig : 8192 ≤ acc.length
      · have hb1 : (8192 : Int) ≤ (acc.length : Int) := by omega
        have HE := Hh (HB.out 2 (HC.out.1 hbig))
        rw [HP.out] at HE
        refine go_ ?_
        refine rT Tryz.results114 ?_
        exact ⟨by rw [HT.out, HE.out]; rfl, rfl⟩
      · have hb1 : ¬ (8192 : Int) ≤ (acc.length : Int) := by omega
        have hbN := Hh hbig
        clear hbig
        cases hk : (Qaj r).2.2.2 with
        | false =>
          have HE := Hh (HB.out 1 (HC.out.2.1 hbN.out hk))
          rw [HP.out] at HE
          have hx : nxT l j = (⟨0, ⟨#[]⟩, offN l j⟩, -1) := by
            unfold nxT; rw [HD.out, hk]; rfl
          rw [hx] at HN1
          simp only [nxP, aggD, Qaz, List.map_cons, List.map_nil] at HN1
          clear hk hx
          refine go_ ?_
          refine Qab (HN1.out) ?_
          refine Je ?_
          intro b0 hb0
          try simp only [Ja, Rh, Rg, Jb] at hb0
          refine go_ ?_
          refine Qaa ?_
          refine rT Tryz.results114 ?_
          exact ⟨by rw [HT.out, HE.out]; rfl, rfl⟩
        | true =>
          obtain ⟨hp, hl⟩ := HNL.out hk
          have hlr := HL.out
          have hj2 : j + (Qaj r).2.2.1 ≤ l.length := by omega
          have hx : nxT l j = (tkAt r (offN l j), offN l (j + (Qaj r).2.2.1)) := by
            unfold nxT; rw [HD.out, hk]; rfl
          rw [hx] at HN1
          have HK1 := Hh (HK.out (j + (Qaj r).2.2.1) hj2)
          have hcut := HC.out.2.2 hbN.out hk
          have hdrop : r.drop (Qaj r).2.2.1 = l.drop (j + (Qaj r).2.2.1) := by rw [← HD.out, List.drop_drop]
          have HI2 : Hid (CutI l (j + (Qaj r).2.2.1) (acc ++ [((Qaj r).1, (Qaj r).2.1, r.length)])) := by
            refine ⟨hj2, ?_, ?_⟩
            · have := hbN.out; simp; omega
            · rw [← HI.out.2.2, hcut, hdrop]
              simp [List.append_assoc]
          have hnn : ¬ offN l (j + (Qaj r).2.2.1) < 0 := by have := Qej l (j + (Qaj r).2.2.1); omega
          have hrow : encD (tkRow l ((Qaj r).1, (Qaj r).2.1, r.length)) = [.v (.int .i64 (Qaj r).1), .v (.string (Qaj r).2.1), .v (.int .i64 (offN l j))] := by
            rw [tkRow_e, show l.length - r.length = j from HP.out]
          have HR := Hh hrow
          have HM := Hh (show l.length - (j + (Qaj r).2.2.1) < l.length - i by omega)
          simp only [nxP, tkAt, aggD, Qaz, List.map_cons, List.map_nil] at HN1
          clear hk hx hcut hdrop hlr hl hj2 hrow
          generalize (Qaj r).1 = kd at *
          generalize (Qaj r).2.1 = tx at *
          generalize (Qaj r).2.2.1 = ct at *
          refine go_ ?_
          refine Qab (HN1.out) ?_
          refine Je ?_
          intro b0 hb0
          try simp only [Ja, Rh, Rg, Jb] at hb0
          refine go_ ?_
          refine Qaa ?_
          refine Qcb ?_
          refine Qap (acc.length + 1) ?_ ?_ ?_ ?_
          · simp
          · exact Qkz fun _ => rfl
          · exact Qbt rfl
          refine go_ ?_
          refine Qab (HK1.out) ?_
          refine ⟨(j + ct, acc ++ [(kd, tx, r.length)]), HI2, HM.out, ?_, ?_⟩
          · simp only [List.map_append, List.map_cons, List.map_nil, HR.out]
            exact sU
          · simp only [List.length_append, List.length_cons, List.length_nil]
            exact dR
structure Gt where
 nd : Nd
 i : Nat
 e : Int
 at_ : Int
def gtP (g : Gt) : PV := .agg [.d (.v (.int .i64 g.nd.kind)), .d (.v (.int .i64 g.nd.at)), .d (.v (.string g.nd.name)), .d (.v (.int .i64 g.nd.num)), .d (.sl (g.nd.sub.map encD)), .d (.v (.int .i64 g.i)), .d (.v (.int .i64 g.e)), .d (.v (.int .i64 g.at_))]
theorem Qil (k a n : Int) (s : ByteArray) (sub : List Nd) (i : Nat) (e at_ : Int) : gtP ⟨.mk k a s n sub, i, e, at_⟩ = .agg [.d (.v (.int .i64 k)), .d (.v (.int .i64 a)), .d (.v (.string s)), .d (.v (.int .i64 n)), .d (.sl (sub.map encD)), .d (.v (.int .i64 i)), .d (.v (.int .i64 e)), .d (.v (.int .i64 at_))] := rfl
theorem Qit {l : List Tk} {i : Nat} (h : i < l.length) : (l.map encD)[i]? = some [D.v (.int .i64 (tkg l i).kind), D.v (.string (tkg l i).text), D.v (.int .i64 (tkg l i).at_)] := by
 rw [Qaq h, Qaz, Qlc h]
theorem tk_out {l : List Tk} (hl : TkOk l) {i : Nat} (h : ¬ i < l.length) : (tkg l i).kind = 5 := by
 have h0 := hl.pos
 have h1 := hl.last
 rw [Qlc (by omega)] at h1
 rw [tkg_ge (by omega) h0]
 exact h1
theorem Qks (l : List Tk) (i : Nat) (e : Int) (hi : i < l.length) : PCalls Tryz.prog 234 [.d (.sl (l.map encD)), .d (.v (.int .i64 i)), .d (.v (.int .i64 e))] [] fun p s => p = gtP ⟨zNd, i, e, (tkg l i).at_⟩ ∧ s = [] := by
 have hx := Qit hi
 have hc : (i : Int) < l.length := by omega
 have hn : (0 : Int) ≤ i := by omega
 simp only [zNd, Qil]
 generalize tkg l i = t at *
 clear hi
 refine pG Tryz.func234 Tryz.ntmps234 ?_
 refine Je ?_
 intro b0 hb0
 try simp only [Ja, Rh, Rg, Jb] at hb0
 refine go_ ?_
 refine Qaa ?_
 refine rT Tryz.results234 ?_
 exact ⟨rfl, rfl⟩
theorem gis_p {l : List Tk} (hl : TkOk l) (i : Nat) (s : ByteArray) : PCalls Tryz.prog 235 [.d (.sl (l.map encD)), .d (.v (.int .i64 i)), .d (.v (.string s))] [] fun p st => p = .d (.v (.bool (Qbo (tkg l i) s))) ∧ st = [] := by
 have HM := Hh (show Qbo (tkg l i) s = (((tkg l i).kind == 4 || (tkg l i).kind == 2) && (tkg l i).text.toList == s.toList) from rfl)
 by_cases hi : i < l.length
 ·have hx := Qit hi
  have hc : (i : Int) < l.length := by omega
  have hn : (0 : Int) ≤ i := by omega
  generalize Qbo (tkg l i) s = R at *
  generalize tkg l i = t at *
  clear hl hi
  by_cases h4 : t.kind = 4
  ·have h4b : (t.kind == 4) = true := beq_iff_eq.2 h4
   rw [h4b, Bool.true_or, Bool.true_and] at HM
   clear h4
   refine pG Tryz.func235 Tryz.ntmps235 ?_
   refine rT Tryz.results235 ?_
   exact ⟨by rw [HM.out]; rfl, rfl⟩
  ·have h4b : (t.kind == 4) = false := beq_false_of_ne h4
   by_cases h2 : t.kind = 2
   ·have h2b : (t.kind == 2) = true := beq_iff_eq.2 h2
    rw [h4b, h2b, Bool.false_or, Bool.true_and] at HM
    clear h4 h2
    refine pG Tryz.func235 Tryz.ntmps235 ?_
    refine rT Tryz.results235 ?_
    exact ⟨by rw [HM.out]; rfl, rfl⟩
   ·have h2b : (t.kind == 2) = false := beq_false_of_ne h2
    rw [h4b, h2b, Bool.false_or, Bool.false_and] at HM
    clear h4 h2
    refine pG Tryz.func235 Tryz.ntmps235 ?_
    refine rT Tryz.results235 ?_
    exact ⟨by rw [HM.out]; rfl, rfl⟩
 ·have hk := tk_out hl hi
  rw [hk] at HM
  have hc : ¬ (i : Int) < l.length := by omega
  generalize Qbo (tkg l i) s = R at *
  obtain rfl : R = false := HM.out
  clear hk
  refine pG Tryz.func235 Tryz.ntmps235 ?_
  refine rT Tryz.results235 ?_
  exact ⟨rfl, rfl⟩
theorem gnamed_p {l : List Tk} (hl : TkOk l) (i : Nat) : PCalls Tryz.prog 285 [.d (.sl (l.map encD)), .d (.v (.int .i64 i))] [] fun p st => p = .d (.v (.bool (Qfp (tkg l i)))) ∧ st = [] := by
 have HM := Hh (show Qfp (tkg l i) = ((tkg l i).kind == 1 && !((tkg l i).text.toList == [95])) from rfl)
 by_cases hi : i < l.length
 ·have hx := Qit hi
  have hc : (i : Int) < l.length := by omega
  have hn : (0 : Int) ≤ i := by omega
  generalize Qfp (tkg l i) = R at *
  generalize tkg l i = t at *
  clear hl hi
  by_cases h4 : t.kind = 1
  ·have h4b : (t.kind == 1) = true := beq_iff_eq.2 h4
   rw [h4b, Bool.true_and] at HM
   clear h4
   refine pG Tryz.func285 Tryz.ntmps285 ?_
   refine rT Tryz.results285 ?_
   exact ⟨by rw [HM.out]; rfl, rfl⟩
  ·have h4b : (t.kind == 1) = false := beq_false_of_ne h4
   rw [h4b, Bool.false_and] at HM
   clear h4
   refine pG Tryz.func285 Tryz.ntmps285 ?_
   refine rT Tryz.results285 ?_
   exact ⟨by rw [HM.out]; rfl, rfl⟩
 ·have hk := tk_out hl hi
  rw [hk] at HM
  have hc : ¬ (i : Int) < l.length := by omega
  generalize Qfp (tkg l i) = R at *
  obtain rfl : R = false := HM.out
  clear hk
  refine pG Tryz.func285 Tryz.ntmps285 ?_
  refine rT Tryz.results285 ?_
  exact ⟨rfl, rfl⟩
theorem gword_p {l : List Tk} (hl : TkOk l) (i : Nat) : PCalls Tryz.prog 283 [.d (.sl (l.map encD)), .d (.v (.int .i64 i))] [] fun p st => p = .d (.v (.bool ((tkg l i).kind == 1))) ∧ st = [] := by
 by_cases hi : i < l.length
 ·have hx := Qit hi
  have hc : (i : Int) < l.length := by omega
  have hn : (0 : Int) ≤ i := by omega
  generalize tkg l i = t at *
  clear hl hi
  refine pG Tryz.func283 Tryz.ntmps283 ?_
  refine rT Tryz.results283 ?_
  exact ⟨rfl, rfl⟩
 ·have hk := tk_out hl hi
  rw [hk]
  have hc : ¬ (i : Int) < l.length := by omega
  clear hk
  refine pG Tryz.func283 Tryz.ntmps283 ?_
  refine rT Tryz.results283 ?_
  exact ⟨rfl, rfl⟩
def Qge (l : List Tk) (s : ByteArray) (g : Gt) : Gt := if g.e ≠ 0 then g else if Qbo (tkg l g.i) s = true then ⟨g.nd, g.i + 1, 0, g.at_⟩ else ⟨zNd, g.i, 1, (tkg l g.i).at_⟩
theorem Qhg {l : List Tk} (hl : TkOk l) (s : ByteArray) (g : Gt) (hi : g.e = 0 → g.i < l.length) : PCalls Tryz.prog 282 [.d (.sl (l.map encD)), gtP g, .d (.v (.string s))] [] fun p st => p = gtP (Qge l s g) ∧ st = [] := by
  obtain ⟨nd, i, e, at_⟩ := g
  simp only at hi
  by_cases he : e = 0
  · subst he
    have hi := hi rfl
    have hlen := hl.len
    have H1 := Hh (gis_p hl i s)
    have H2 := Hh (Qks l i 1 hi)
    have hW : Qge l s ⟨nd, i, 0, at_⟩ = if Qbo (tkg l i) s = true then ⟨nd, i + 1, 0, at_⟩ else ⟨zNd, i, 1, (tkg l i).at_⟩ := by
      unfold Qge; simp
    rw [hW]
    have hw := Qew (i := i) (by omega)
    clear hW
    cases hm : Qbo (tkg l i) s with
    | true =>
      rw [hm] at H1
      simp only [if_true, gtP]
      refine pG Tryz.func282 Tryz.ntmps282 ?_
      refine Jd ?_
      intro b0 hb0
      try simp only [Ja, Rh, Rg, Jb] at hb0
      refine go_ ?_
      refine Je ?_
      intro b1 hb1
      try simp only [Ja, Rh, Rg, Jb] at hb1
      refine go_ ?_
      refine Qab (H1.out) ?_
      refine Qaa ?_
      refine Qaa ?_
      refine rT Tryz.results282 ?_
      exact ⟨rfl, rfl⟩
    | false =>
      rw [hm] at H1
      simp only [Bool.false_eq_true, if_false, gtP, zNd, Nd.kind, Nd.at, Nd.name, Nd.num, Nd.sub, List.map_nil] at H2 ⊢
      refine pG Tryz.func282 Tryz.ntmps282 ?_
      refine Jd ?_
      intro b0 hb0
      try simp only [Ja, Rh, Rg, Jb] at hb0
      refine go_ ?_
      refine Je ?_
      intro b1 hb1
      try simp only [Ja, Rh, Rg, Jb] at hb1
      refine go_ ?_
      refine Qab (H1.out) ?_
      refine Qab (H2.out) ?_
      refine Qaa ?_
      refine rT Tryz.results282 ?_
      exact ⟨rfl, rfl⟩
  · have hW : Qge l s ⟨nd, i, e, at_⟩ = ⟨nd, i, e, at_⟩ := by
      unfold Qge; rw [if_pos he]
    rw [hW]
    have heb : (e != 0) = true := bne_iff_ne.2 he
    simp only [gtP]
    clear hW he hi
    refine pG Tryz.func282 Tryz.ntmps282 ?_
    refine Jd ?_
    intro b0 hb0
    try simp only [Ja, Rh, Rg, Jb] at hb0
    refine go_ ?_
    refine Je ?_
    intro b1 hb1
    try simp only [Ja, Rh, Rg, Jb] at hb1
    refine go_ ?_
    refine Qaa ?_
    refine rT Tryz.results282 ?_
    exact ⟨rfl, rfl⟩
theorem gbinder_p {l : List Tk} (hl : TkOk l) (i : Nat) (hi : i ≤ 100000) : PCalls Tryz.prog 237 [.d (.sl (l.map encD)), .d (.v (.int .i64 i))] [] fun p st => p = .d (.v (.bool (Qef l ⟨i, 0, 0⟩))) ∧ st = [] := by
  have H1 := Hh (gis_p hl i sPar)
  have H2 := Hh (gword_p hl (i + 1))
  have H3 := Hh (gis_p hl (i + 2) sCol)
  have HB := Hh (show Qef l ⟨i, 0, 0⟩ = (Qbo (tkg l i) sPar && (tkg l (i + 1)).kind == 1 && Qbo (tkg l (i + 2)) sCol) from rfl)
  have hw1 : IntKind.i64.wrap ((i : Int) + 1) = ((i + 1 : Nat) : Int) := Qew (by omega)
  have hw2 : IntKind.i64.wrap ((i : Int) + 2) = ((i + 2 : Nat) : Int) := wrM (by omega) (by omega)
  generalize Qef l ⟨i, 0, 0⟩ = R at *
  generalize Qbo (tkg l (i + 2)) sCol = r3 at *
  generalize ((tkg l (i + 1)).kind == 1) = r2 at *
  generalize Qbo (tkg l i) sPar = r1 at *
  unfold sPar sCol at *
  cases r1 with
  | false =>
    obtain rfl : R = false := HB.out
    refine pG Tryz.func237 Tryz.ntmps237 ?_
    refine Qab (H1.out) ?_
    refine rT Tryz.results237 ?_
    exact ⟨rfl, rfl⟩
  | true =>
    cases r2 with
    | false =>
      obtain rfl : R = false := HB.out
      refine pG Tryz.func237 Tryz.ntmps237 ?_
      refine Qab (H1.out) ?_
      refine Qad (H2.out) ?_
      refine rT Tryz.results237 ?_
      exact ⟨rfl, rfl⟩
    | true =>
      obtain rfl : R = r3 := HB.out
      refine pG Tryz.func237 Tryz.ntmps237 ?_
      refine Qab (H1.out) ?_
      refine Qad (H2.out) ?_
      refine Qad (H3.out) ?_
      refine rT Tryz.results237 ?_
      exact ⟨rfl, rfl⟩
end Go.Proofs.YtdklpbefbamchaaGreat

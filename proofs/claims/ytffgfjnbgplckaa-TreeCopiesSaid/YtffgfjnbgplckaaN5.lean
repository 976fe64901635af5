import Derived.Test.YtffgfjnbgplckaaN4
namespace Go.Proofs.Ytffgfjnbgplckaa
open Go.RowKit
def rstep (k : Nat) (x : Int) : Bool := letterB x || x == 95 || (k != 0 && (digitB x || x == 39))
def chk : List Int → Bool | [] => true | x :: xs => (letterB x || x == 95) && xs.all innerB
theorem chk_take (l : List Int) (k : Nat) (h : k < l.length) : chk (l.take (k + 1)) = (chk (l.take k) && rstep k l[k]) := by
  cases l with
  | nil => simp at h
  | cons x xs =>
    cases k with
    | zero => simp [chk, rstep]
    | succ k =>
      have h' : k < xs.length := by simpa using h
      simp only [List.take_succ_cons, chk, List.getElem_cons_succ]
      rw [all_take xs innerB k h', ← Bool.and_assoc]
      congr 1
      simp only [innerB, rstep]
      cases letterB xs[k] <;> cases digitB xs[k] <;> cases (xs[k] == 95) <;> cases (xs[k] == 39) <;> rfl
theorem chk_false (l : List Int) (m : Nat) (h3 : chk (l.take m) = false) : chk l = false := by
  cases l with
  | nil => simpa using h3
  | cons x xs =>
    cases m with
    | zero => simp [chk] at h3
    | succ m =>
      simp only [List.take_succ_cons, chk] at h3 ⊢
      cases hx : (letterB x || x == 95) with
      | false => rfl
      | true =>
        rw [hx] at h3
        simp only [Bool.true_and] at h3 ⊢
        cases hy : xs.all innerB with
        | false => rfl
        | true =>
          rw [List.all_eq_true] at hy
          have : (xs.take m).all innerB = true := by rw [List.all_eq_true]; intro z hz; exact hy z (List.mem_of_mem_take hz)
          rw [this] at h3; cases h3
theorem under_iff (s : ByteArray) (h : allE s = 0) : (s.toList == [95]) = (allS s == [95]) := by
  rw [Bool.eq_iff_iff, beq_iff_eq, beq_iff_eq]
  constructor
  · intro hs
    have : s = ⟨#[95]⟩ := by
      apply ByteArray.ext
      rw [ByteArray.toList_eq] at hs
      exact Array.toList_inj.mp hs
    subst this
    decide
  · intro hs
    have := (back_text s h).2
    rw [hs] at this
    rw [← this, ByteArray.toList_eq]
    decide +kernel
theorem rightN_ref (s : ByteArray) (hE : allE s = 0) (h0 : s.size ≠ 0) (h40 : s.size ≤ 40) (hk : kwB s = false) : rightN s = (!(s.toList == [95]) && chk (allS s)) := by
  have hl := mt (allS_len s hE).1 h0
  rw [under_iff s hE]
  simp only [rightN, hE, hk]
  cases hq : allS s with
  | nil => rw [hq] at hl; simp at hl
  | cons x xs =>
    have hL95 : letterB 95 = false := by decide
    simp [h0, h40, chk, innerB]
    cases hx : letterB x with
    | true =>
      have : x ≠ 95 := by intro e; rw [e, hL95] at hx; cases hx
      simp [this]
    | false =>
      by_cases h95 : x = 95
      · subst h95
        cases xs with
        | nil => simp
        | cons y ys => simp
      · have hb : (x == 95) = false := by simpa using h95
        rw [hb]
        simp
set_option maxRecDepth 100000 in
set_option maxHeartbeats 4000000 in
theorem rright_name (s : ByteArray) (hs : s.size ≤ maxLen) (w : World) :
    Calls Try.prog 62 #[.string s] w fun e w' => e = .returned (.bool (rightN s)) ∧ Below w.heap.size w w' := by
  have hs2 : s.size ≤ 9223372036854775807 := by unfold maxLen at hs; omega
  have hlen := Lib.hid (allS_len s)
  have HS := Lib.hid hs
  clear hs
  go_enter Try.func62, Try.ntmps62
  go_wp2_with fail
  refine (rall_shape s HS.out _).mono ?_
  rintro e w1 ⟨a, c, L, rfl, hL, hl, hS, hb⟩
  by_cases hE : allE s = 0
  · have hll := hlen.out hE
    rw [hL.out] at hll
    by_cases h0 : s.size = 0
    · have hz : ((s.size : Int) == 0) = true := beq_iff_eq.2 (by omega)
      have fin : Hid (false = rightN s) := by show _ = _; simp [rightN, h0]
      go_wp2_with fail
      go_ret
      exact ⟨ret_bool fin.out, hb⟩
    · have hz : ((s.size : Int) == 0) = false := by rw [beq_eq_false_iff_ne]; omega
      have hz' : 0 < L := by have := mt hll.1 h0; omega
      have H0 := Lib.hid h0
      clear hll h0
      by_cases h40 : 40 < (s.size : Int)
      · have hd40 : decide (40 < (s.size : Int)) = true := by simp; omega
        have fin : Hid (false = rightN s) := by
          have : ¬ s.size ≤ 40 := by omega
          show _ = _; simp [rightN, this]
        go_wp2_with fail
        all_goals go_ret
        all_goals exact ⟨ret_bool fin.out, hb⟩
      · have hd40 : decide (40 < (s.size : Int)) = false := by simp; omega
        cases hk : kwB s with
        | true =>
          have fin : Hid (false = rightN s) := by show _ = _; simp [rightN, hk]
          have HK := Lib.hid hk
          clear hk
          go_wp2_with (go_at_call 87; refine (rkeyword_any s _).mono ?_; rw [HK.out]; rintro e w2 ⟨rfl, rfl⟩)
          go_ret
          exact ⟨ret_bool fin.out, hb⟩
        | false =>
          have fin : Hid (rightN s = (!(s.toList == [95]) && chk (allS s))) := rightN_ref s hE H0.out (by omega) hk
          have HK := Lib.hid hk
          clear hk
          cases hu : (s.toList == [95]) with
          | true =>
            have fin2 : Hid (false = rightN s) := by show _ = _; rw [fin.out, hu]; rfl
            go_wp2_with (go_at_call 87; refine (rkeyword_any s _).mono ?_; rw [HK.out]; rintro e w2 ⟨rfl, rfl⟩)
            go_ret
            exact ⟨ret_bool fin2.out, hb⟩
          | false =>
            have fin2 : Hid (rightN s = chk (allS s)) := by show _ = _; rw [fin.out, hu]; rfl
            go_wp2_with (go_at_call 87; refine (rkeyword_any s _).mono ?_; rw [HK.out]; rintro e w2 ⟨rfl, rfl⟩)
            clear hu fin
            go_loopw [6] (fun i wr => ∃ (k : Nat), k ≤ L ∧ i = .int .i64 k ∧ Hid (chk ((allS s).take k) = true) ∧ Below w.heap.size w wr ∧ Below w1.heap.size w1 wr) (fun i _ => L - (intOf i).toNat)
            case atStart => exact ⟨0, Nat.zero_le _, rfl, rfl, hb, Below.refl _ _⟩
            case round =>
              obtain ⟨k, hk, rfl, hno, hbel, hb1⟩ := hrel
              by_cases hlt : k < L
              · have hltS : k < (allS s).length := by have := hL.out; omega
                obtain ⟨b, off, rfl, hc⟩ := slc_at hS hb1 k (by simpa using hltS)
                rw [List.getElem_map] at hc
                have hct := chk_take (allS s) k hltS
                rw [hno.out, Bool.true_and] at hct
                have HCT := Lib.hid hct
                have hi0 : (0 : Int) ≤ k := by omega
                have hi1 : (k : Int) < L := by omega
                have FAIL : Hid (rstep k (allS s)[k] = false → false = rightN s) := by
                  intro h
                  rw [fin2.out]
                  have h2 : chk ((allS s).take (k + 1)) = false := by rw [hct, h]
                  symm
                  exact chk_false _ _ h2
                clear hct hno
                generalize (allS s)[k] = x at *
                have GO : Hid (rstep k x = true → chk ((allS s).take (k + 1)) = true) := fun h => HCT.out.trans h
                cases hx : letterB x with
                | true =>
                  have HX := Lib.hid hx
                  clear hx
                  have G := Lib.hid (GO.out (by simp [rstep, HX.out]))
                  go_wp2_with (go_at_call 88; refine (rletter_any _ _).mono ?_; rw [HX.out]; rintro e w2 ⟨rfl, hb2⟩)
                  go_roundw
                  case rel => exact ⟨k + 1, hlt, by simp, G.out, hbel.trans (hb2.mono hbel.size), hb1.trans (hb2.mono hb1.size)⟩
                  case measure => simp [intOf]; omega
                | false =>
                  have HX := Lib.hid hx
                  clear hx
                  cases h95 : (x != 95) with
                  | false =>
                    have G := Lib.hid (GO.out (by have : (x == 95) = true := by simpa using h95
                                                  simp [rstep, this]))
                    go_wp2_with (first | (go_at_call 88; refine (rletter_any _ _).mono ?_; rw [HX.out]; rintro e w2 ⟨rfl, hb2⟩; have hc := (hb2.cell (World.block_lt_of_cell? _ _ hc)).trans hc) | (go_at_call 89; refine (rdigit_any _ _).mono ?_; rw [HD.out]; rintro e w3 ⟨rfl, rfl⟩))
                    go_roundw
                    case rel => exact ⟨k + 1, hlt, by simp, G.out, hbel.trans (hb2.mono hbel.size), hb1.trans (hb2.mono hb1.size)⟩
                    case measure => simp [intOf]; omega
                                      | true =>
                    have H95 : Hid ((x == 95) = false) := by show _ = _; simpa using h95
                    cases h0 : ((k : Int) == 0) with
                    | true =>
                      have F := Lib.hid (FAIL.out (by
                        have : k = 0 := by have := beq_iff_eq.1 h0; omega
                        simp [rstep, HX.out, H95.out, this]))
                      go_wp2_with (first | (go_at_call 88; refine (rletter_any _ _).mono ?_; rw [HX.out]; rintro e w2 ⟨rfl, hb2⟩; have hc := (hb2.cell (World.block_lt_of_cell? _ _ hc)).trans hc) | (go_at_call 89; refine (rdigit_any _ _).mono ?_; rw [HD.out]; rintro e w3 ⟨rfl, rfl⟩))
                      go_ret
                      exact ⟨ret_bool F.out, hbel.trans (hb2.mono hbel.size)⟩
                                          | false =>
                      have HK0 : Hid ((k != 0) = true) := by show _ = _; have := beq_eq_false_iff_ne.1 h0; simp; omega
                      cases hd : digitB x with
                      | true =>
                        have HD := Lib.hid hd
                        clear hd
                        have G := Lib.hid (GO.out (by simp only [rstep, HX.out, H95.out, HK0.out, HD.out]; rfl))
                        go_wp2_with (first | (go_at_call 88; refine (rletter_any _ _).mono ?_; rw [HX.out]; rintro e w2 ⟨rfl, hb2⟩; have hc := (hb2.cell (World.block_lt_of_cell? _ _ hc)).trans hc) | (go_at_call 89; refine (rdigit_any _ _).mono ?_; rw [HD.out]; rintro e w3 ⟨rfl, rfl⟩))
                        go_roundw
                        case rel => exact ⟨k + 1, hlt, by simp, G.out, hbel.trans (hb2.mono hbel.size), hb1.trans (hb2.mono hb1.size)⟩
                        case measure => simp [intOf]; omega
                                              | false =>
                        have HD := Lib.hid hd
                        clear hd
                        cases h39 : (x != 39) with
                        | false =>
                          have G := Lib.hid (GO.out (by
                            have : (x == 39) = true := by simpa using h39
                            simp only [rstep, HX.out, H95.out, HK0.out, HD.out, this]; rfl))
                          go_wp2_with (first | (go_at_call 88; refine (rletter_any _ _).mono ?_; rw [HX.out]; rintro e w2 ⟨rfl, hb2⟩; have hc := (hb2.cell (World.block_lt_of_cell? _ _ hc)).trans hc) | (go_at_call 89; refine (rdigit_any _ _).mono ?_; rw [HD.out]; rintro e w3 ⟨rfl, rfl⟩))
                          go_roundw
                          case rel => exact ⟨k + 1, hlt, by simp, G.out, hbel.trans (hb2.mono hbel.size), hb1.trans (hb2.mono hb1.size)⟩
                          case measure => simp [intOf]; omega
                                                  | true =>
                          have F := Lib.hid (FAIL.out (by
                            have : (x == 39) = false := by simpa using h39
                            simp only [rstep, HX.out, H95.out, HK0.out, HD.out, this]; rfl))
                          go_wp2_with (first | (go_at_call 88; refine (rletter_any _ _).mono ?_; rw [HX.out]; rintro e w2 ⟨rfl, hb2⟩; have hc := (hb2.cell (World.block_lt_of_cell? _ _ hc)).trans hc) | (go_at_call 89; refine (rdigit_any _ _).mono ?_; rw [HD.out]; rintro e w3 ⟨rfl, rfl⟩))
                          go_ret
                          exact ⟨ret_bool F.out, hbel.trans (hb2.mono hbel.size)⟩
              · obtain rfl : k = L := by omega
                have fin3 : Hid (true = rightN s) := by
                  show _ = _
                  have h := hno.out
                  rw [List.take_of_length_le (by rw [hL.out]; exact Nat.le_refl _)] at h
                  rw [fin2.out, h]
                go_wp2_with fail
                go_ret
                exact ⟨ret_bool fin3.out, hbel⟩
  · have fin : Hid (false = rightN s) := by show _ = _; simp [rightN, hE]
    go_wp2_with fail
    go_ret
    exact ⟨ret_bool fin.out, hb⟩
end Go.Proofs.Ytffgfjnbgplckaa
